/- RANGES: the plain law, all operators: results lie within; greater ranges; least ranges. -/
import Derived.Test.YtncaejnkpmmoeaaDoorSxD3
set_option linter.unusedVariables false
set_option linter.unusedSimpArgs false
namespace Go.SXR
open Go Go.SX Go.Proofs Go.RowKit

theorem shr_in' {v m : Int} (hv : inI v) : inI (shrF v m) := by
  have := ediv_btw0 (x := v) (p2_pos m)
  unfold inI at *
  unfold shrF
  rcases Int.le_total 0 v with h | h
  · have := this.1 h; omega
  · have := this.2 h; omega
theorem fits_cases {op k : Int} (h : fitsB op k) : ((op = 1 ∨ op = 4 ∨ op = 5) ∧ (k = 1 ∨ k = 2)) ∨ ((op = 2 ∨ op = 3 ∨ op = 6 ∨ op = 7) ∧ (k = 1 ∨ k = 2)) ∨ ((op = 8 ∨ op = 9 ∨ op = 10) ∧ (k = 1 ∨ k = 2)) ∨ (11 ≤ op ∧ op ≤ 16) ∨ ((op = 17 ∨ op = 18) ∧ k = 3) := by unfold fitsB at h; omega
def exF (op : Int) : Int → Int → Int := if op = 1 then (· * ·) else if op = 4 then (· + ·) else (· - ·)
def exL (op a b c d : Int) : Int := if op = 1 then (q4 (· * ·) a b c d).1 else if op = 4 then a + c else a - d
def exH (op a b c d : Int) : Int := if op = 1 then (q4 (· * ·) a b c d).2 else if op = 4 then b + d else b - c
theorem ex_eff {op k a b c d : Int} (hop : op = 1 ∨ op = 4 ∨ op = 5) : effS op k a b c d = br k (exL op a b c d) (exH op a b c d) ++ [1, 0, 0] := by rcases hop with rfl | rfl | rfl <;> rfl
theorem ex_ext {op a b c d : Int} (hop : op = 1 ∨ op = 4 ∨ op = 5) (hab : a ≤ b) (hcd : c ≤ d) : Ext (exF op) (Box a b c d) (exL op a b c d) (exH op a b c d) := by
  rcases hop with rfl | rfl | rfl
  · exact ext_mul hab hcd
  · exact ext_add hab hcd
  · exact ext_sub hab hcd
theorem ex_done {op k v w : Int} (hop : op = 1 ∨ op = 4 ∨ op = 5) : doneV op k v w = wrK k (w64 (exF op v w)) := by
  rw [done_plain (by omega) (by omega) (by omega) (by omega) (by omega)]
  rcases hop with rfl | rfl | rfl <;> rfl
theorem tr01 (c d : Int) : trapV c d = 0 ∨ trapV c d = 1 := by unfold trapV; split <;> simp
theorem un01 (k a b c d : Int) : undV k a b c d = 0 ∨ undV k a b c d = 1 := by unfold undV; split <;> simp
theorem cmp_eff {op k a b c d : Int} (hop : 11 ≤ op ∧ op ≤ 16) : effS op k a b c d = [if cmpA op a b c d then 1 else 0, if cmpN op a b c d then 0 else 1, 1, 0, 0] := by
  unfold effS
  rw [if_neg (by omega), if_neg (by omega), if_neg (by omega), if_neg (by omega), if_neg (by omega), if_neg (by omega), if_neg (by omega), if_neg (by omega), if_neg (by omega), if_neg (by omega), if_neg (by omega), if_neg (by omega)]
theorem ok3 {a b : Int} (h : okR 3 a b) : (0 ≤ a ∧ b ≤ 1) ∧ a ≤ b := by unfold okR at h; omega
theorem prod01 {a c : Int} (ha : a = 0 ∨ a = 1) (hc : c = 0 ∨ c = 1) : a * c = 0 ∨ a * c = 1 := by rcases ha with rfl | rfl <;> rcases hc with rfl | rfl <;> simp
/-- Results lie in what Binary answers. -/
theorem within_all {op k a b c d : Int} (h4 : in4 a b c d) (h : okB op k a b c d) : ∃ L H s t u, Within op k a b c d L H s t u := by
  obtain ⟨hf, o1, o2⟩ := h
  obtain ⟨ha, hb, hc, hd⟩ := h4
  rcases fits_cases hf with ⟨hop, hk⟩ | ⟨hop, hk⟩ | ⟨hop, hk⟩ | hop | ⟨hop, hk⟩
  · exact ⟨_, _, _, _, _, within_br (ex_eff hop) (ex_ext hop o1.2 o2.2) (fun v w => ex_done hop) (fun w => no_trap (by omega) (by omega)) (fun v w => no_und (by omega) (by omega) (by omega) (by omega)) hk (by omega)⟩
  · rcases hop with rfl | rfl | rfl | rfl
    · exact ⟨_, _, _, _, _, within_2 hk ha hb o1 o2⟩
    · obtain ⟨L, H, s, hw, _⟩ := within_3 hk ha hb hc hd o1 o2
      exact ⟨_, _, _, _, _, hw⟩
    · obtain ⟨L, H, s, hw, _⟩ := within_6 (c := c) (d := d) hk ha hb o1
      exact ⟨_, _, _, _, _, hw⟩
    · obtain ⟨L, H, s, hw, _⟩ := within_7 (c := c) (d := d) hk ha hb o1
      exact ⟨_, _, _, _, _, hw⟩
  · rcases hop with rfl | rfl | rfl
    · obtain ⟨L, H, _, hw⟩ := within_8 hk ⟨ha, hb, hc, hd⟩ o1 o2
      exact ⟨_, _, _, _, _, hw⟩
    · obtain ⟨L, H, _, hw⟩ := within_9 hk ⟨ha, hb, hc, hd⟩ o1 o2
      exact ⟨_, _, _, _, _, hw⟩
    · obtain ⟨L, H, _, hw⟩ := within_10 hk ⟨ha, hb, hc, hd⟩ o1 o2
      exact ⟨_, _, _, _, _, hw⟩
  · have he := ext_cmp (k := k) hop o1.2 o2.2
    have hle := he.le
    refine ⟨_, _, _, _, _, within_ext (cmp_eff hop) (by omega) (by omega) (by omega) (by omega) he ?_⟩
    have ek : kOf op k = 3 := if_pos (by omega)
    rw [ek]
    refine ⟨.inr (.inr ⟨rfl, ?_, ?_⟩), hle⟩
    · split <;> omega
    · split <;> omega
  · subst hk
    have h1 := ok3 o1
    have h2 := ok3 o2
    rcases hop with rfl | rfl
    · have he := ext_17 o1 o2
      refine ⟨_, _, _, _, _, within_ext rfl (by omega) (by omega) (by omega) (by omega) he ⟨.inr (.inr ⟨rfl, ?_, ?_⟩), he.le⟩⟩
      · rcases prod01 (a := a) (c := c) (by omega) (by omega) with e | e <;> omega
      · rcases prod01 (a := b) (c := d) (by omega) (by omega) with e | e <;> omega
    · have he := ext_18 o1 o2
      exact ⟨_, _, _, _, _, within_ext rfl (by omega) (by omega) (by omega) (by omega) he ⟨.inr (.inr ⟨rfl, by omega, by omega⟩), he.le⟩⟩
/-- What Binary answers are numbers of 64 bits. -/
theorem br_rng {k lo hi : Int} (hk : k = 1 ∨ k = 2) : inI (brL k lo hi) ∧ inI (brH k lo hi) := by
  unfold brL brH fullL fullH
  rcases hk with rfl | rfl
  · constructor <;> (repeat' split) <;> (unfold inI at *; omega)
  · constructor <;> (repeat' split) <;> (unfold inI at *; omega)
theorem rng_all {op k a b c d L H s t u : Int} (h4 : in4 a b c d) (h : okB op k a b c d) (e : effS op k a b c d = [L, H, s, t, u]) : inI L ∧ inI H := by
  obtain ⟨hf, o1, o2⟩ := h
  obtain ⟨ha, hb, hc, hd⟩ := h4
  have z : inI 0 := by unfold inI; omega
  rcases fits_cases hf with ⟨hop, hk⟩ | ⟨hop, hk⟩ | ⟨hop, hk⟩ | hop | ⟨hop, hk⟩
  · rw [ex_eff hop] at e
    have := br_rng (lo := exL op a b c d) (hi := exH op a b c d) hk
    unfold br at e
    simp at e
    rw [← e.1, ← e.2.1]; exact this
  · rcases hop with rfl | rfl | rfl | rfl
    · have hk' : k = 1 ∨ (k = 2 ∧ (0 ≤ a ∧ b ≤ 255) ∧ 0 ≤ c) := by unfold okR at o1 o2; omega
      have e2 : effS 2 k a b c d = quotR k a b c d := rfl
      rw [e2] at e
      unfold quotR at e
      simp at e
      obtain ⟨rfl, rfl, _⟩ := e
      by_cases hs : someD b c d
      · have he := quot_ext hk' ha hb o1.2 o2.2 hs
        obtain ⟨v, w, h1, q1⟩ := he.low
        obtain ⟨v', w', h2, q2⟩ := he.high
        have g1 := done_div hk' ha hb ((res_div (by omega)).1 h1)
        have g2 := done_div hk' ha hb ((res_div (by omega)).1 h2)
        rw [g1.1] at q1
        rw [g2.1] at q2
        rw [← q1, ← q2]
        rcases hk with rfl | rfl
        · exact ⟨g1.2.1 rfl, g2.2.1 rfl⟩
        · have := g1.2.2 rfl
          have := g2.2.2 rfl
          unfold inI; omega
      · have hn : ∀ v w, ¬ DivS a b c d v w := fun v w hv => hs ((someD_iff ha.1 o1.2 o2.2).2 ⟨v, w, hv⟩)
        rw [extLo_none hn, extHi_none hn]
        exact ⟨z, z⟩
    · have e2 : effS 3 k a b c d = (if someD b c d then [restL a b c d, restH a b c d, 1, trapV c d, undV k a b c d] else [0, 0, 0, trapV c d, undV k a b c d]) := rfl
      rw [e2] at e
      by_cases hs : someD b c d
      · rw [if_pos hs] at e
        simp at e
        rw [← e.1, ← e.2.1]
        have hM := maxS hc hd o2.2 (by unfold someD at hs; omega)
        unfold restL restH
        constructor <;> split <;> first | assumption | (unfold inI at *; omega)
      · rw [if_neg hs] at e
        simp at e
        rw [← e.1, ← e.2.1]; exact ⟨z, z⟩
    · obtain ⟨L', H', s', hw, h1, h2, h3⟩ := within_6 (c := c) (d := d) hk ha hb o1
      have e3 := hw.eq.symm.trans e
      simp at e3
      obtain ⟨rfl, rfl, rfl, _⟩ := e3
      by_cases hs : shSome k c d
      · rw [(h2 hs).1, (h2 hs).2]; exact br_rng hk
      · have : s' = 0 := by rcases hw.bits.1 with q | q; exact q; exact absurd (h1.1 q) hs
        rw [(h3 this).1, (h3 this).2]; exact ⟨z, z⟩
    · obtain ⟨L', H', s', hw, h1, h2, h3⟩ := within_7 (c := c) (d := d) hk ha hb o1
      have e3 := hw.eq.symm.trans e
      simp at e3
      obtain ⟨rfl, rfl, rfl, _⟩ := e3
      by_cases hs : shSome k c d
      · rw [(h2 hs).1, (h2 hs).2]; exact in4s ⟨shr_in' ha, shr_in' ha, shr_in' hb, shr_in' hb⟩
      · have : s' = 0 := by rcases hw.bits.1 with q | q; exact q; exact absurd (h1.1 q) hs
        rw [(h3 this).1, (h3 this).2]; exact ⟨z, z⟩
  · have fl : inI (fullL k) ∧ inI (fullH k) := by unfold fullL fullH; rcases hk with rfl | rfl <;> (unfold inI; decide)
    rcases hop with rfl | rfl | rfl
    · have e2 : effS 8 k a b c d = andR k a b c d ++ [1, 0, 0] := rfl
      rw [e2] at e
      unfold andR at e
      repeat' split at e
      all_goals
        simp at e
        rw [← e.1, ← e.2.1]
      · exact ⟨andB_in _ _, andB_in _ _⟩
      · exact ⟨z, by unfold inI at *; omega⟩
      · exact ⟨z, hb⟩
      · exact ⟨z, hd⟩
      · exact fl
    · have e2 : effS 9 k a b c d = xorR k a b c d ++ [1, 0, 0] := rfl
      rw [e2] at e
      unfold xorR at e
      repeat' split at e
      all_goals
        simp at e
        rw [← e.1, ← e.2.1]
      · exact ⟨xorB_in _ _, xorB_in _ _⟩
      · have := topV_bound (m := max b d) (by have := o1.2; omega) (by unfold inI at *; omega)
        exact ⟨z, by unfold inI; omega⟩
      · exact fl
    · have e2 : effS 10 k a b c d = orR k a b c d ++ [1, 0, 0] := rfl
      rw [e2] at e
      unfold orR at e
      repeat' split at e
      all_goals
        simp at e
        rw [← e.1, ← e.2.1]
      · exact ⟨orB_in _ _, orB_in _ _⟩
      · have := topV_bound (m := max b d) (by have := o1.2; omega) (by unfold inI at *; omega)
        exact ⟨by unfold inI at *; omega, by unfold inI; omega⟩
      · exact fl
  · rw [cmp_eff hop] at e
    simp at e
    rw [← e.1, ← e.2.1]
    constructor <;> split <;> (unfold inI; omega)
  · subst hk
    have h1 := ok3 o1
    have h2 := ok3 o2
    rcases hop with rfl | rfl
    · have e2 : effS 17 3 a b c d = [a * c, b * d, 1, 0, 0] := rfl
      rw [e2] at e
      simp at e
      rw [← e.1, ← e.2.1]
      constructor
      · rcases prod01 (a := a) (c := c) (by omega) (by omega) with q | q <;> (rw [q]; unfold inI; omega)
      · rcases prod01 (a := b) (c := d) (by omega) (by omega) with q | q <;> (rw [q]; unfold inI; omega)
    · have e2 : effS 18 3 a b c d = [max a c, max b d, 1, 0, 0] := rfl
      rw [e2] at e
      simp at e
      rw [← e.1, ← e.2.1]
      unfold inI at *; omega

/-! ### Greater ranges -/
def Grows (L H s t u L' H' s' t' u' : Int) : Prop := (s = 1 → s' = 1 ∧ L' ≤ L ∧ H ≤ H') ∧ (t = 1 → t' = 1) ∧ (u = 1 → u' = 1)
theorem res_mono {op k a b c d a' b' c' d' v w : Int} (h : ResS op k a b c d v w) (h1 : a' ≤ a) (h2 : b ≤ b') (h3 : c' ≤ c) (h4 : d ≤ d') : ResS op k a' b' c' d' v w := ⟨box_mono h.1 h1 h2 h3 h4, h.2⟩
theorem mono_all {op k a b c d a' b' c' d' L H s t u L' H' s' t' u' : Int} (h4 : in4 a b c d) (h4' : in4 a' b' c' d') (h : okB op k a b c d) (h' : okB op k a' b' c' d') (g1 : a' ≤ a) (g2 : b ≤ b') (g3 : c' ≤ c) (g4 : d ≤ d')
    (e : effS op k a b c d = [L, H, s, t, u]) (e' : effS op k a' b' c' d' = [L', H', s', t', u']) : Grows L H s t u L' H' s' t' u' := by
  obtain ⟨hf, o1, o2⟩ := h
  obtain ⟨_, o1', o2'⟩ := h'
  have h4s := h4
  have h4s' := h4'
  obtain ⟨ha, hb, hc, hd⟩ := h4
  obtain ⟨ha', hb', hc', hd'⟩ := h4'
  have hab := o1.2
  have hcd := o2.2
  have tm : trapV c d = 1 → trapV c' d' = 1 := fun q => by
    unfold trapV at q ⊢
    by_cases x : c ≤ 0 ∧ 0 ≤ d
    · exact if_pos (by omega)
    · rw [if_neg x] at q; cases q
  have um : undV k a b c d = 1 → undV k a' b' c' d' = 1 := fun q => by
    unfold undV at q ⊢
    by_cases x : k = 1 ∧ (a ≤ -9223372036854775808 ∧ -9223372036854775808 ≤ b) ∧ c ≤ -1 ∧ -1 ≤ d
    · exact if_pos (by omega)
    · rw [if_neg x] at q; cases q
  have sm : shU k c d = 1 → shU k c' d' = 1 := fun q => by
    unfold shU at q ⊢
    by_cases x : c < 0 ∨ topK k < d
    · exact if_pos (by omega)
    · rw [if_neg x] at q; cases q
  rcases fits_cases hf with ⟨hop, hk⟩ | ⟨hop, hk⟩ | ⟨hop, hk⟩ | hop | ⟨hop, hk⟩
  · rw [ex_eff hop] at e e'
    unfold br at e e'
    simp at e e'
    obtain ⟨rfl, rfl, rfl, rfl, rfl⟩ := e
    obtain ⟨rfl, rfl, rfl, rfl, rfl⟩ := e'
    have m := (ex_ext hop hab hcd).mono (ex_ext hop o1'.2 o2'.2) (fun v w hv => box_mono hv g1 g2 g3 g4)
    exact ⟨fun _ => ⟨rfl, br_mono hk (ex_ext hop hab hcd).le m.1 m.2⟩, fun q => q, fun q => q⟩
  · rcases hop with rfl | rfl | rfl | rfl
    · have hk1 : k = 1 ∨ (k = 2 ∧ (0 ≤ a ∧ b ≤ 255) ∧ 0 ≤ c) := by unfold okR at o1 o2; omega
      have hk2 : k = 1 ∨ (k = 2 ∧ (0 ≤ a' ∧ b' ≤ 255) ∧ 0 ≤ c') := by unfold okR at o1' o2'; omega
      have e2 : effS 2 k a b c d = [extLo Int.tdiv (DivS a b c d), extHi Int.tdiv (DivS a b c d), if someD b c d then 1 else 0, trapV c d, undV k a b c d] := rfl
      have e3 : effS 2 k a' b' c' d' = [extLo Int.tdiv (DivS a' b' c' d'), extHi Int.tdiv (DivS a' b' c' d'), if someD b' c' d' then 1 else 0, trapV c' d', undV k a' b' c' d'] := rfl
      rw [e2] at e
      rw [e3] at e'
      simp only [List.cons.injEq, and_true] at e e'
      obtain ⟨rfl, rfl, rfl, rfl, rfl⟩ := e
      obtain ⟨rfl, rfl, rfl, rfl, rfl⟩ := e'
      refine ⟨fun q => ?_, tm, um⟩
      have hs : someD b c d := by
        by_cases x : someD b c d
        · exact x
        · rw [if_neg x] at q; cases q
      have hs' : someD b' c' d' := by unfold someD LST at hs ⊢; omega
      exact ⟨if_pos hs', (quot_ext hk1 ha hb hab hcd hs).mono (quot_ext hk2 ha' hb' o1'.2 o2'.2 hs') (fun v w hv => res_mono hv g1 g2 g3 g4)⟩
    · obtain ⟨L1, H1, s1, w1, i1, j1⟩ := within_3 hk ha hb hc hd o1 o2
      obtain ⟨L2, H2, s2, w2, i2, j2⟩ := within_3 hk ha' hb' hc' hd' o1' o2'
      have e3 := w1.eq.symm.trans e
      have e4 := w2.eq.symm.trans e'
      simp only [List.cons.injEq, and_true] at e3 e4
      obtain ⟨rfl, rfl, rfl, rfl, rfl⟩ := e3
      obtain ⟨rfl, rfl, rfl, rfl, rfl⟩ := e4
      refine ⟨fun q => ?_, tm, um⟩
      have hs := i1.1 q
      have hs' : someD b' c' d' := by unfold someD LST at hs ⊢; omega
      refine ⟨i2.2 hs', ?_⟩
      rw [(j1 hs).1, (j1 hs).2, (j2 hs').1, (j2 hs').2]
      exact rest_mono hab hcd (by unfold someD LST at hs; omega) hc' hd' g1 g2 g3 g4
    · obtain ⟨L1, H1, s1, w1, i1, j1, _⟩ := within_6 (c := c) (d := d) hk ha hb o1
      obtain ⟨L2, H2, s2, w2, i2, j2, _⟩ := within_6 (c := c') (d := d') hk ha' hb' o1'
      have e3 := w1.eq.symm.trans e
      have e4 := w2.eq.symm.trans e'
      simp only [List.cons.injEq, and_true] at e3 e4
      obtain ⟨rfl, rfl, rfl, rfl, rfl⟩ := e3
      obtain ⟨rfl, rfl, rfl, rfl, rfl⟩ := e4
      refine ⟨fun q => ?_, fun q => q, sm⟩
      have hs := i1.1 q
      have hs' : shSome k c' d' := by unfold shSome at hs ⊢; omega
      refine ⟨i2.2 hs', ?_⟩
      rw [(j1 hs).1, (j1 hs).2, (j2 hs').1, (j2 hs').2]
      have x1 : Ext shlF (Box a b (max c 0) (min d (topK k))) (q4 shlF a b (max c 0) (min d (topK k))).1 (q4 shlF a b (max c 0) (min d (topK k))).2 := ext_shl hab hs
      have x2 : Ext shlF (Box a' b' (max c' 0) (min d' (topK k))) (q4 shlF a' b' (max c' 0) (min d' (topK k))).1 (q4 shlF a' b' (max c' 0) (min d' (topK k))).2 := ext_shl o1'.2 hs'
      have m := x1.mono x2 (fun v w hv => box_mono hv g1 g2 (by omega) (by omega))
      exact br_mono hk x1.le m.1 m.2
    · have hk1 : k = 1 ∨ (k = 2 ∧ 0 ≤ a ∧ b ≤ 255) := by unfold okR at o1; omega
      have hk2 : k = 1 ∨ (k = 2 ∧ 0 ≤ a' ∧ b' ≤ 255) := by unfold okR at o1'; omega
      obtain ⟨L1, H1, s1, w1, i1, j1, _⟩ := within_7 (c := c) (d := d) hk ha hb o1
      obtain ⟨L2, H2, s2, w2, i2, j2, _⟩ := within_7 (c := c') (d := d') hk ha' hb' o1'
      have e3 := w1.eq.symm.trans e
      have e4 := w2.eq.symm.trans e'
      simp only [List.cons.injEq, and_true] at e3 e4
      obtain ⟨rfl, rfl, rfl, rfl, rfl⟩ := e3
      obtain ⟨rfl, rfl, rfl, rfl, rfl⟩ := e4
      refine ⟨fun q => ?_, fun q => q, sm⟩
      have hs := i1.1 q
      have hs' : shSome k c' d' := by unfold shSome at hs ⊢; omega
      refine ⟨i2.2 hs', ?_⟩
      rw [(j1 hs).1, (j1 hs).2, (j2 hs').1, (j2 hs').2]
      exact (ext_7 hk1 hab hs).mono (ext_7 hk2 o1'.2 hs') (fun v w hv => res_mono hv g1 g2 g3 g4)
  · have wb : ∃ L0 H0, effS op k a b c d = [L0, H0, 1, 0, 0] ∧ Within op k a b c d L0 H0 1 0 0 := by
      rcases hop with rfl | rfl | rfl
      · obtain ⟨x, y, _, hw⟩ := within_8 hk h4s o1 o2; exact ⟨x, y, hw.eq, hw⟩
      · obtain ⟨x, y, _, hw⟩ := within_9 hk h4s o1 o2; exact ⟨x, y, hw.eq, hw⟩
      · obtain ⟨x, y, _, hw⟩ := within_10 hk h4s o1 o2; exact ⟨x, y, hw.eq, hw⟩
    have wb' : ∃ L0 H0, effS op k a' b' c' d' = [L0, H0, 1, 0, 0] ∧ Within op k a' b' c' d' L0 H0 1 0 0 := by
      rcases hop with rfl | rfl | rfl
      · obtain ⟨x, y, _, hw⟩ := within_8 hk h4s' o1' o2'; exact ⟨x, y, hw.eq, hw⟩
      · obtain ⟨x, y, _, hw⟩ := within_9 hk h4s' o1' o2'; exact ⟨x, y, hw.eq, hw⟩
      · obtain ⟨x, y, _, hw⟩ := within_10 hk h4s' o1' o2'; exact ⟨x, y, hw.eq, hw⟩
    obtain ⟨x, y, q1, w1⟩ := wb
    obtain ⟨x', y', q2, w2⟩ := wb'
    have m := bits_mono hop hk h4s h4s' o1 o2 o1' o2' g1 g2 g3 g4 q1 q2 w1 w2
    rw [q1] at e
    rw [q2] at e'
    simp only [List.cons.injEq, and_true] at e e'
    obtain ⟨rfl, rfl, rfl, rfl, rfl⟩ := e
    obtain ⟨rfl, rfl, rfl, rfl, rfl⟩ := e'
    exact ⟨fun _ => ⟨rfl, m⟩, fun q => q, fun q => q⟩
  · have m := (ext_cmp (k := k) hop hab hcd).mono (ext_cmp (k := k) hop o1'.2 o2'.2) (fun v w hv => res_mono hv g1 g2 g3 g4)
    rw [cmp_eff hop] at e e'
    simp only [List.cons.injEq, and_true] at e e'
    obtain ⟨rfl, rfl, rfl, rfl, rfl⟩ := e
    obtain ⟨rfl, rfl, rfl, rfl, rfl⟩ := e'
    exact ⟨fun _ => ⟨rfl, m⟩, fun q => q, fun q => q⟩
  · subst hk
    rcases hop with rfl | rfl
    · have m := (ext_17 o1 o2).mono (ext_17 o1' o2') (fun v w hv => res_mono hv g1 g2 g3 g4)
      have e2 : effS 17 3 a b c d = [a * c, b * d, 1, 0, 0] := rfl
      have e3 : effS 17 3 a' b' c' d' = [a' * c', b' * d', 1, 0, 0] := rfl
      rw [e2] at e
      rw [e3] at e'
      simp only [List.cons.injEq, and_true] at e e'
      obtain ⟨rfl, rfl, rfl, rfl, rfl⟩ := e
      obtain ⟨rfl, rfl, rfl, rfl, rfl⟩ := e'
      exact ⟨fun _ => ⟨rfl, m⟩, fun q => q, fun q => q⟩
    · have m := (ext_18 o1 o2).mono (ext_18 o1' o2') (fun v w hv => res_mono hv g1 g2 g3 g4)
      have e2 : effS 18 3 a b c d = [max a c, max b d, 1, 0, 0] := rfl
      have e3 : effS 18 3 a' b' c' d' = [max a' c', max b' d', 1, 0, 0] := rfl
      rw [e2] at e
      rw [e3] at e'
      simp only [List.cons.injEq, and_true] at e e'
      obtain ⟨rfl, rfl, rfl, rfl, rfl⟩ := e
      obtain ⟨rfl, rfl, rfl, rfl, rfl⟩ := e'
      exact ⟨fun _ => ⟨rfl, m⟩, fun q => q, fun q => q⟩

/-! ### Least ranges -/
theorem mul_small {v w : Int} {m n : Nat} (hv : v.natAbs ≤ m) (hw : w.natAbs ≤ n) : -(m * n : Nat) ≤ v * w ∧ v * w ≤ (m * n : Nat) := by
  have h1 := Int.natAbs_mul v w
  have h2 := Nat.mul_le_mul hv hw
  omega
theorem least_all {op k a b c d L H s t u : Int} (h4 : in4 a b c d) (h : okB op k a b c d) (hex : op = 1 ∨ op = 4 ∨ op = 5 ∨ op = 2 ∨ op = 6 ∨ op = 7 ∨ 11 ≤ op) (hk2 : k ≠ 2) (h40 : op = 6 → d ≤ 40) (b1 : -1000 < a) (b2 : b < 1000) (b3 : -1000 < c) (b4 : d < 1000)
    (e : effS op k a b c d = [L, H, s, t, u]) : (s = 0 ∨ s = 1) ∧ Least op k a b c d L H s := by
  obtain ⟨hf, o1, o2⟩ := h
  obtain ⟨ha, hb, hc, hd⟩ := h4
  have hab := o1.2
  have hcd := o2.2
  have one : ∀ {L0 H0 : Int}, Ext (doneV op k) (ResS op k a b c d) L0 H0 → effS op k a b c d = [L0, H0, 1, t, u] → (s = 0 ∨ s = 1) ∧ Least op k a b c d L H s := by
    intro L0 H0 he e2
    rw [e2] at e
    simp only [List.cons.injEq, and_true, true_and] at e
    obtain ⟨rfl, rfl, rfl⟩ := e
    exact ⟨.inr rfl, fun _ => he, fun q => by cases q⟩
  have zero : (∀ v w, ¬ ResS op k a b c d v w) → effS op k a b c d = [0, 0, 0, t, u] → (s = 0 ∨ s = 1) ∧ Least op k a b c d L H s := by
    intro hn e2
    rw [e2] at e
    simp only [List.cons.injEq, and_true, true_and] at e
    obtain ⟨rfl, rfl, rfl⟩ := e
    exact ⟨.inl rfl, (fun q => by cases q), fun _ => ⟨⟨rfl, rfl⟩, hn⟩⟩
  have bits3 : t = t ∧ u = u := ⟨rfl, rfl⟩
  rcases fits_cases hf with ⟨hop, hk⟩ | ⟨hop, hk⟩ | ⟨hop, hk⟩ | hop | ⟨hop, hk⟩
  · have hk1 : k = 1 := by omega
    subst hk1
    have hx := ex_ext hop hab hcd
    have hin : inI (exL op a b c d) ∧ inI (exH op a b c d) := by
      have bd : ∀ v w, Box a b c d v w → inI (exF op v w) := by
        intro v w hv
        unfold Box at hv
        rcases hop with rfl | rfl | rfl
        · have := mul_small (v := v) (w := w) (m := 1000) (n := 1000) (by omega) (by omega)
          show inI (v * w)
          unfold inI; omega
        · show inI (v + w); unfold inI; omega
        · show inI (v - w); unfold inI; omega
      obtain ⟨v, w, hv, q⟩ := hx.low
      obtain ⟨v', w', hv', q'⟩ := hx.high
      rw [← q, ← q']
      exact ⟨bd v w hv, bd v' w' hv'⟩
    have he := least_br hx (fun v w => ex_done hop) (fun w => no_trap (by omega) (by omega)) (fun v w => no_und (by omega) (by omega) (by omega) (by omega)) hin
    have e2 := ex_eff (k := 1) (a := a) (b := b) (c := c) (d := d) hop
    have e3 := e2.symm.trans e
    unfold br at e3
    simp only [List.cons_append, List.nil_append, List.cons.injEq, and_true] at e3
    obtain ⟨_, _, _, rfl, rfl⟩ := e3
    exact one he e2
  · have hk1 : k = 1 := by omega
    subst hk1
    rcases hop with rfl | rfl | rfl | rfl
    · have e2 : effS 2 1 a b c d = [extLo Int.tdiv (DivS a b c d), extHi Int.tdiv (DivS a b c d), if someD b c d then 1 else 0, trapV c d, undV 1 a b c d] := rfl
      have e3 := e2.symm.trans e
      simp only [List.cons.injEq, and_true] at e3
      obtain ⟨_, _, _, rfl, rfl⟩ := e3
      by_cases hs : someD b c d
      · rw [if_pos hs] at e2
        exact one (quot_ext (.inl rfl) ha hb hab hcd hs) e2
      · have hn : ∀ v w, ¬ DivS a b c d v w := fun v w hv => hs ((someD_iff ha.1 hab hcd).2 ⟨v, w, hv⟩)
        rw [if_neg hs, extLo_none hn, extHi_none hn] at e2
        exact zero (fun v w hv => hn v w ((res_div (.inl rfl)).1 hv)) e2
    · omega
    · obtain ⟨L1, H1, s1, w1, i1, j1, k1⟩ := within_6 (c := c) (d := d) hk ha hb o1
      have e3 := w1.eq.symm.trans e
      simp only [List.cons.injEq, and_true] at e3
      obtain ⟨_, _, _, rfl, rfl⟩ := e3
      by_cases hs : shSome 1 c d
      · have x1 : Ext shlF (Box a b (max c 0) (min d (topK 1))) (q4 shlF a b (max c 0) (min d (topK 1))).1 (q4 shlF a b (max c 0) (min d (topK 1))).2 := ext_shl hab hs
        have bd : ∀ v w, Box a b (max c 0) (min d (topK 1)) v w → inI (shlF v w) := by
          intro v w hv
          unfold Box at hv
          have hp := p2_mono (show w ≤ 40 by have := h40 rfl; omega)
          have hp0 := p2_pos w
          have ep : p2 40 = 1099511627776 := by decide
          have := mul_small (v := v) (w := p2 w) (m := 1000) (n := 1099511627776) (by omega) (by omega)
          show inI (v * p2 w)
          unfold inI; omega
        have hin : inI (q4 shlF a b (max c 0) (min d (topK 1))).1 ∧ inI (q4 shlF a b (max c 0) (min d (topK 1))).2 := by
          obtain ⟨v, w, hv, q⟩ := x1.low
          obtain ⟨v', w', hv', q'⟩ := x1.high
          rw [← q, ← q']
          exact ⟨bd v w hv, bd v' w' hv'⟩
        have s11 : s1 = 1 := i1.2 hs
        subst s11
        have e5 := w1.eq
        rw [(j1 hs).1, (j1 hs).2] at e5
        have b3' : brL 1 (q4 shlF a b (max c 0) (min d (topK 1))).1 (q4 shlF a b (max c 0) (min d (topK 1))).2 = (q4 shlF a b (max c 0) (min d (topK 1))).1 := by unfold brL; simp [hin]
        have b4' : brH 1 (q4 shlF a b (max c 0) (min d (topK 1))).1 (q4 shlF a b (max c 0) (min d (topK 1))).2 = (q4 shlF a b (max c 0) (min d (topK 1))).2 := by unfold brH; simp [hin]
        rw [b3', b4'] at e5
        have hx : ∀ v w, ResS 6 1 a b c d v w → doneV 6 1 v w = shlF v w := fun v w hv => by
          rw [done_res (by omega) hv.2.1 hv.2.2]
          exact w64_id (bd v w ((res_sh (.inl rfl)).1 hv))
        refine one ⟨fun v w hv => by rw [hx v w hv]; exact x1.all v w ((res_sh (.inl rfl)).1 hv), ?_, ?_⟩ e5
        · obtain ⟨v, w, hv, q⟩ := x1.low
          have hv' := (res_sh (op := 6) (c := c) (d := d) (.inl rfl)).2 hv
          exact ⟨v, w, hv', by rw [hx v w hv', q]⟩
        · obtain ⟨v, w, hv, q⟩ := x1.high
          have hv' := (res_sh (op := 6) (c := c) (d := d) (.inl rfl)).2 hv
          exact ⟨v, w, hv', by rw [hx v w hv', q]⟩
      · have s10 : s1 = 0 := by rcases w1.bits.1 with q | q; exact q; exact absurd (i1.1 q) hs
        have e5 := w1.eq
        rw [(k1 s10).1, (k1 s10).2, s10] at e5
        refine zero (fun v w hv => ?_) e5
        have := (res_sh (.inl rfl)).1 hv
        exact absurd (show shSome 1 c d by unfold Box at this; unfold shSome; omega) hs
    · obtain ⟨L1, H1, s1, w1, i1, j1, k1⟩ := within_7 (c := c) (d := d) hk ha hb o1
      have e3 := w1.eq.symm.trans e
      simp only [List.cons.injEq, and_true] at e3
      obtain ⟨_, _, _, rfl, rfl⟩ := e3
      by_cases hs : shSome 1 c d
      · have s11 : s1 = 1 := i1.2 hs
        subst s11
        have e5 := w1.eq
        rw [(j1 hs).1, (j1 hs).2] at e5
        exact one (ext_7 (.inl rfl) hab hs) e5
      · have s10 : s1 = 0 := by rcases w1.bits.1 with q | q; exact q; exact absurd (i1.1 q) hs
        have e5 := w1.eq
        rw [(k1 s10).1, (k1 s10).2, s10] at e5
        refine zero (fun v w hv => ?_) e5
        have := (res_sh (.inr rfl)).1 hv
        exact absurd (show shSome 1 c d by unfold Box at this; unfold shSome; omega) hs
  · omega
  · have e2 := cmp_eff (k := k) (a := a) (b := b) (c := c) (d := d) hop
    have e3 := e2.symm.trans e
    simp only [List.cons.injEq, and_true] at e3
    obtain ⟨_, _, _, rfl, rfl⟩ := e3
    exact one (ext_cmp hop hab hcd) e2
  · subst hk
    rcases hop with rfl | rfl
    · have e2 : effS 17 3 a b c d = [a * c, b * d, 1, 0, 0] := rfl
      have e3 := e2.symm.trans e
      simp only [List.cons.injEq, and_true] at e3
      obtain ⟨_, _, _, rfl, rfl⟩ := e3
      exact one (ext_17 o1 o2) e2
    · have e2 : effS 18 3 a b c d = [max a c, max b d, 1, 0, 0] := rfl
      have e3 := e2.symm.trans e
      simp only [List.cons.injEq, and_true] at e3
      obtain ⟨_, _, _, rfl, rfl⟩ := e3
      exact one (ext_18 o1 o2) e2
end Go.SXR
