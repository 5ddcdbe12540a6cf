/- RANGES: the plain law: shifts, bits, truths and comparisons. -/
import Derived.Test.YtncaejnkpmmoeaaDoorSxD2
set_option linter.unusedVariables false
set_option linter.unusedSimpArgs false
namespace Go.SXR
open Go Go.SX Go.Proofs Go.RowKit

/-! ### Shifts -/
theorem topK_in (k : Int) : 0 ≤ topK k ∧ topK k ≤ 63 := by unfold topK; split <;> omega
theorem res_sh {op k a b c d v w : Int} (hop : op = 6 ∨ op = 7) : ResS op k a b c d v w ↔ Box a b (max c 0) (min d (topK k)) v w := by
  unfold ResS trapD undD Box
  omega
theorem und_sh {op k a b c d v w : Int} (hop : op = 6 ∨ op = 7) (h : Box a b c d v w) (hu : undD op k v w) : shU k c d = 1 := by
  unfold undD at hu
  unfold Box at h
  exact if_pos (by omega)
theorem shU_bit (k c d : Int) : shU k c d = 0 ∨ shU k c d = 1 := by unfold shU; split <;> simp
theorem within_6 {k a b c d : Int} (hk : k = 1 ∨ k = 2) (ha : inI a) (hb : inI b) (o1 : okR k a b) : ∃ L H s, Within 6 k a b c d L H s 0 (shU k c d) ∧ (s = 1 ↔ shSome k c d) ∧ (shSome k c d → L = brL k (q4 shlF a b (max c 0) (min d (topK k))).1 (q4 shlF a b (max c 0) (min d (topK k))).2 ∧ H = brH k (q4 shlF a b (max c 0) (min d (topK k))).1 (q4 shlF a b (max c 0) (min d (topK k))).2) ∧ (s = 0 → L = 0 ∧ H = 0) := by
  by_cases hs : shSome k c d
  · have hext : Ext shlF (Box a b (max c 0) (min d (topK k))) (q4 shlF a b (max c 0) (min d (topK k))).1 (q4 shlF a b (max c 0) (min d (topK k))).2 := ext_shl o1.2 hs
    refine ⟨_, _, 1, ⟨if_pos hs, ⟨.inr rfl, .inl rfl, shU_bit k c d⟩, fun v w h => ⟨rfl, ?_⟩, fun v w _ h => absurd h (no_trap (by omega) (by omega)), fun v w h hu => und_sh (.inl rfl) h hu, fun _ => ?_⟩, ⟨fun _ => hs, fun _ => rfl⟩, fun _ => ⟨rfl, rfl⟩, fun h => by cases h⟩
    · have e : doneV 6 k v w = wrK k (w64 (shlF v w)) := by rw [done_res (by omega) h.2.1 h.2.2]; rfl
      rw [e]
      have := hext.all v w ((res_sh (.inl rfl)).1 h)
      exact (br_within hk this.1 this.2).1
    · exact (br_within hk (Int.le_refl _) hext.le).2
  · refine ⟨0, 0, 0, ⟨if_neg hs, ⟨.inl rfl, .inl rfl, shU_bit k c d⟩, fun v w h => ?_, fun v w _ h => absurd h (no_trap (by omega) (by omega)), fun v w h hu => und_sh (.inl rfl) h hu, fun h => by cases h⟩, ⟨(fun h => by cases h), fun h => absurd h hs⟩, fun h => absurd h hs, fun _ => ⟨rfl, rfl⟩⟩
    have := (res_sh (.inl rfl)).1 h
    exact absurd (show shSome k c d by unfold Box at this; unfold shSome; omega) hs
theorem shr_bounds {v w : Int} : (0 ≤ v → 0 ≤ shrF v w ∧ shrF v w ≤ v) := (ediv_btw0 (x := v) (p2_pos w)).1
theorem done_7 {k a b v w : Int} (hk : k = 1 ∨ (k = 2 ∧ 0 ≤ a ∧ b ≤ 255)) (h1 : a ≤ v) (h2 : v ≤ b) (hu : ¬ undD 7 k v w) : doneV 7 k v w = shrF v w := by
  rw [done_res (by omega) (no_trap (by omega) (by omega)) hu]
  rcases hk with rfl | ⟨rfl, h3, h4⟩
  · rfl
  · have := shr_bounds (v := v) (w := w) (by omega)
    show shrF v w % 256 = shrF v w
    omega
theorem ext_7 {k a b c d : Int} (hk : k = 1 ∨ (k = 2 ∧ 0 ≤ a ∧ b ≤ 255)) (hab : a ≤ b) (hs : shSome k c d) : Ext (doneV 7 k) (ResS 7 k a b c d) (q4 shrF a b (max c 0) (min d (topK k))).1 (q4 shrF a b (max c 0) (min d (topK k))).2 := by
  have hext : Ext shrF (Box a b (max c 0) (min d (topK k))) (q4 shrF a b (max c 0) (min d (topK k))).1 (q4 shrF a b (max c 0) (min d (topK k))).2 := ext_shr hab hs (by omega)
  have e : ∀ v w, ResS 7 k a b c d v w → doneV 7 k v w = shrF v w := fun v w h => done_7 hk h.1.1.1 h.1.1.2 h.2.2
  refine ⟨fun v w h => by rw [e v w h]; exact hext.all v w ((res_sh (.inr rfl)).1 h), ?_, ?_⟩
  · obtain ⟨v, w, h, q⟩ := hext.low
    have h' := (res_sh (op := 7) (c := c) (d := d) (.inr rfl)).2 h
    exact ⟨v, w, h', by rw [e v w h', q]⟩
  · obtain ⟨v, w, h, q⟩ := hext.high
    have h' := (res_sh (op := 7) (c := c) (d := d) (.inr rfl)).2 h
    exact ⟨v, w, h', by rw [e v w h', q]⟩
theorem within_7 {k a b c d : Int} (hk0 : k = 1 ∨ k = 2) (ha : inI a) (hb : inI b) (o1 : okR k a b) : ∃ L H s, Within 7 k a b c d L H s 0 (shU k c d) ∧ (s = 1 ↔ shSome k c d) ∧ (shSome k c d → L = (q4 shrF a b (max c 0) (min d (topK k))).1 ∧ H = (q4 shrF a b (max c 0) (min d (topK k))).2) ∧ (s = 0 → L = 0 ∧ H = 0) := by
  have hk : k = 1 ∨ (k = 2 ∧ 0 ≤ a ∧ b ≤ 255) := by unfold okR at o1; omega
  by_cases hs : shSome k c d
  · have hext := ext_7 hk o1.2 hs
    refine ⟨_, _, 1, ⟨if_pos hs, ⟨.inr rfl, .inl rfl, shU_bit k c d⟩, fun v w h => ⟨rfl, hext.all v w h⟩, fun v w _ h => absurd h (no_trap (by omega) (by omega)), fun v w h hu => und_sh (.inr rfl) h hu, fun _ => ?_⟩, ⟨fun _ => hs, fun _ => rfl⟩, fun _ => ⟨rfl, rfl⟩, fun h => by cases h⟩
    have ek : kOf 7 k = k := rfl
    rw [ek]
    have hle := hext.le
    rcases hk with rfl | ⟨rfl, h3, h4⟩
    · exact ⟨.inl rfl, hle⟩
    · obtain ⟨v, w, h, q⟩ := hext.low
      obtain ⟨v', w', h', q'⟩ := hext.high
      have := h.1.1
      have := h'.1.1
      rw [done_7 (.inr ⟨rfl, h3, h4⟩) h.1.1.1 h.1.1.2 h.2.2] at q
      rw [done_7 (.inr ⟨rfl, h3, h4⟩) h'.1.1.1 h'.1.1.2 h'.2.2] at q'
      have g1 := shr_bounds (v := v) (w := w) (by omega)
      have g2 := shr_bounds (v := v') (w := w') (by omega)
      exact ⟨.inr (.inl ⟨rfl, by omega, by omega⟩), hle⟩
  · refine ⟨0, 0, 0, ⟨if_neg hs, ⟨.inl rfl, .inl rfl, shU_bit k c d⟩, fun v w h => ?_, fun v w _ h => absurd h (no_trap (by omega) (by omega)), fun v w h hu => und_sh (.inr rfl) h hu, fun h => by cases h⟩, ⟨(fun h => by cases h), fun h => absurd h hs⟩, fun h => absurd h hs, fun _ => ⟨rfl, rfl⟩⟩
    have := (res_sh (.inr rfl)).1 h
    exact absurd (show shSome k c d by unfold Box at this; unfold shSome; omega) hs

/-! ### Bits -/
theorem within_plain {op k a b c d L H : Int} (heff : effS op k a b c d = [L, H, 1, 0, 0]) (h1 : ¬ (11 ≤ op ∧ op ≤ 16)) (h2 : op ≠ 2) (h3 : op ≠ 3) (h6 : op ≠ 6) (h7 : op ≠ 7) (hv : ∀ v w, Box a b c d v w → L ≤ wrK k (opV op v w) ∧ wrK k (opV op v w) ≤ H) (hk : okR (kOf op k) L H) : Within op k a b c d L H 1 0 0 :=
  ⟨heff, ⟨.inr rfl, .inl rfl, .inl rfl⟩, fun v w h => ⟨rfl, by rw [done_plain h1 h2 h3 h6 h7]; exact hv v w h.1⟩, fun v w _ h => absurd h (no_trap h2 h3), fun v w _ h => absurd h (no_und h2 h3 h6 h7), fun _ => hk⟩
theorem wrK_id {k x : Int} (h : k = 1 ∨ (0 ≤ x ∧ x ≤ 255)) : wrK k x = x := by
  unfold wrK
  split <;> omega
theorem top255 {m : Int} (h0 : 0 ≤ m) (h : m ≤ 255) : topV m ≤ 255 := by
  have := (len_le (b := m) (by omega)).2
  have h2 := p2_mono this
  have e : p2 8 = 256 := by decide
  unfold topV
  omega
theorem okR_one {L H : Int} (h : L ≤ H) : okR 1 L H := ⟨.inl rfl, h⟩
theorem okR_two {L H : Int} (h : L ≤ H) (h0 : 0 ≤ L) (h1 : H ≤ 255) : okR 2 L H := ⟨.inr (.inl ⟨rfl, h0, h1⟩), h⟩
theorem within_8 {k a b c d : Int} (hk0 : k = 1 ∨ k = 2) (h4 : in4 a b c d) (o1 : okR k a b) (o2 : okR k c d) : ∃ L H, andR k a b c d = [L, H] ∧ Within 8 k a b c d L H 1 0 0 := by
  obtain ⟨ha, hb, hc, hd⟩ := h4
  have hab := o1.2
  have hcd := o2.2
  have hk : k = 1 ∨ (k = 2 ∧ (0 ≤ a ∧ b ≤ 255) ∧ 0 ≤ c ∧ d ≤ 255) := by unfold okR at o1 o2; omega
  have key : ∃ L H, andR k a b c d = [L, H] ∧ (∀ v w, Box a b c d v w → L ≤ andB v w ∧ andB v w ≤ H) ∧ L ≤ H ∧ (k = 2 → 0 ≤ L ∧ H ≤ 255) := by
    unfold andR
    by_cases hs : a = b ∧ c = d
    · rw [if_pos hs]
      refine ⟨_, _, rfl, fun v w h => ?_, Int.le_refl _, fun q => ?_⟩
      · unfold Box at h
        have e1 : v = a := by omega
        have e2 : w = c := by omega
        rw [e1, e2]
        exact ⟨Int.le_refl _, Int.le_refl _⟩
      · have := andB_left (x := a) (y := c) ha (by omega)
        omega
    · rw [if_neg hs]
      by_cases p : 0 ≤ a
      · by_cases q : 0 ≤ c
        · rw [if_pos ⟨p, q⟩]
          refine ⟨_, _, rfl, fun v w h => ?_, by omega, fun r => by omega⟩
          unfold Box at h
          have := andB_left (x := v) (y := w) (by unfold inI at *; omega) (by omega)
          have := andB_right (x := v) (y := w) (by unfold inI at *; omega) (by omega)
          omega
        · rw [if_neg (fun r => q r.2), if_pos p]
          refine ⟨_, _, rfl, fun v w h => ?_, by omega, fun r => by omega⟩
          unfold Box at h
          have := andB_left (x := v) (y := w) (by unfold inI at *; omega) (by omega)
          omega
      · by_cases q : 0 ≤ c
        · rw [if_neg (fun r => p r.1), if_neg p, if_pos q]
          refine ⟨_, _, rfl, fun v w h => ?_, by omega, fun r => by omega⟩
          unfold Box at h
          have := andB_right (x := v) (y := w) (by unfold inI at *; omega) (by omega)
          omega
        · rw [if_neg (fun r => p r.1), if_neg p, if_neg q]
          have hk1 : k = 1 := by omega
          subst hk1
          exact ⟨_, _, rfl, fun v w h => andB_in v w, by unfold fullL fullH; decide, fun r => by cases r⟩
  obtain ⟨L, H, e, hv, hle, h2⟩ := key
  refine ⟨L, H, e, within_plain (by show andR k a b c d ++ [1, 0, 0] = _; rw [e]; rfl) (by omega) (by omega) (by omega) (by omega) (by omega) (fun v w h => ?_) ?_⟩
  · have := hv v w h
    have e2 : wrK k (opV 8 v w) = andB v w := wrK_id (by
      show k = 1 ∨ (0 ≤ andB v w ∧ andB v w ≤ 255)
      rcases hk0 with rfl | rfl
      · exact .inl rfl
      · have := h2 rfl; right; omega)
    rw [e2]; exact this
  · have ek : kOf 8 k = k := rfl
    rw [ek]
    rcases hk0 with rfl | rfl
    · exact okR_one hle
    · exact okR_two hle (h2 rfl).1 (h2 rfl).2
theorem within_9 {k a b c d : Int} (hk0 : k = 1 ∨ k = 2) (h4 : in4 a b c d) (o1 : okR k a b) (o2 : okR k c d) : ∃ L H, xorR k a b c d = [L, H] ∧ Within 9 k a b c d L H 1 0 0 := by
  obtain ⟨ha, hb, hc, hd⟩ := h4
  have hab := o1.2
  have hcd := o2.2
  have hk : k = 1 ∨ (k = 2 ∧ (0 ≤ a ∧ b ≤ 255) ∧ 0 ≤ c ∧ d ≤ 255) := by unfold okR at o1 o2; omega
  have key : ∃ L H, xorR k a b c d = [L, H] ∧ (∀ v w, Box a b c d v w → L ≤ xorB v w ∧ xorB v w ≤ H) ∧ L ≤ H ∧ (k = 2 → 0 ≤ L ∧ H ≤ 255) := by
    unfold xorR
    by_cases hs : a = b ∧ c = d
    · rw [if_pos hs]
      refine ⟨_, _, rfl, fun v w h => ?_, Int.le_refl _, fun q => ?_⟩
      · unfold Box at h
        have e1 : v = a := by omega
        have e2 : w = c := by omega
        rw [e1, e2]
        exact ⟨Int.le_refl _, Int.le_refl _⟩
      · have := xorB_bound (x := a) (y := c) (m := 255) ha hc (by omega) (by omega) (by omega) (by omega) (by omega)
        have := top255 (m := 255) (by omega) (by omega)
        omega
    · rw [if_neg hs]
      by_cases p : 0 ≤ a ∧ 0 ≤ c
      · rw [if_pos p]
        have hm : max b d ≤ 9223372036854775807 := by unfold inI at *; omega
        have ht := topV_bound (m := max b d) (by omega) hm
        refine ⟨_, _, rfl, fun v w h => ?_, by omega, fun r => ⟨Int.le_refl _, top255 (by omega) (by omega)⟩⟩
        unfold Box at h
        exact xorB_bound (by unfold inI at *; omega) (by unfold inI at *; omega) (by omega) (by omega) (by omega) (by omega) hm
      · rw [if_neg p]
        have hk1 : k = 1 := by omega
        subst hk1
        exact ⟨_, _, rfl, fun v w h => xorB_in v w, by unfold fullL fullH; decide, fun r => by cases r⟩
  obtain ⟨L, H, e, hv, hle, h2⟩ := key
  refine ⟨L, H, e, within_plain (by show xorR k a b c d ++ [1, 0, 0] = _; rw [e]; rfl) (by omega) (by omega) (by omega) (by omega) (by omega) (fun v w h => ?_) ?_⟩
  · have := hv v w h
    have e2 : wrK k (opV 9 v w) = xorB v w := wrK_id (by
      show k = 1 ∨ (0 ≤ xorB v w ∧ xorB v w ≤ 255)
      rcases hk0 with rfl | rfl
      · exact .inl rfl
      · have := h2 rfl; right; omega)
    rw [e2]; exact this
  · have ek : kOf 9 k = k := rfl
    rw [ek]
    rcases hk0 with rfl | rfl
    · exact okR_one hle
    · exact okR_two hle (h2 rfl).1 (h2 rfl).2
theorem within_10 {k a b c d : Int} (hk0 : k = 1 ∨ k = 2) (h4 : in4 a b c d) (o1 : okR k a b) (o2 : okR k c d) : ∃ L H, orR k a b c d = [L, H] ∧ Within 10 k a b c d L H 1 0 0 := by
  obtain ⟨ha, hb, hc, hd⟩ := h4
  have hab := o1.2
  have hcd := o2.2
  have hk : k = 1 ∨ (k = 2 ∧ (0 ≤ a ∧ b ≤ 255) ∧ 0 ≤ c ∧ d ≤ 255) := by unfold okR at o1 o2; omega
  have key : ∃ L H, orR k a b c d = [L, H] ∧ (∀ v w, Box a b c d v w → L ≤ orB v w ∧ orB v w ≤ H) ∧ L ≤ H ∧ (k = 2 → 0 ≤ L ∧ H ≤ 255) := by
    unfold orR
    by_cases hs : a = b ∧ c = d
    · rw [if_pos hs]
      refine ⟨_, _, rfl, fun v w h => ?_, Int.le_refl _, fun q => ?_⟩
      · unfold Box at h
        have e1 : v = a := by omega
        have e2 : w = c := by omega
        rw [e1, e2]
        exact ⟨Int.le_refl _, Int.le_refl _⟩
      · have := orB_bound (x := a) (y := c) (m := 255) ha hc (by omega) (by omega) (by omega) (by omega) (by omega)
        have := top255 (m := 255) (by omega) (by omega)
        omega
    · rw [if_neg hs]
      by_cases p : 0 ≤ a ∧ 0 ≤ c
      · rw [if_pos p]
        have hm : max b d ≤ 9223372036854775807 := by unfold inI at *; omega
        have ht := topV_bound (m := max b d) (by omega) hm
        refine ⟨_, _, rfl, fun v w h => ?_, by omega, fun r => ⟨by omega, top255 (by omega) (by omega)⟩⟩
        unfold Box at h
        have := orB_bound (x := v) (y := w) (m := max b d) (by unfold inI at *; omega) (by unfold inI at *; omega) (by omega) (by omega) (by omega) (by omega) hm
        omega
      · rw [if_neg p]
        have hk1 : k = 1 := by omega
        subst hk1
        exact ⟨_, _, rfl, fun v w h => orB_in v w, by unfold fullL fullH; decide, fun r => by cases r⟩
  obtain ⟨L, H, e, hv, hle, h2⟩ := key
  refine ⟨L, H, e, within_plain (by show orR k a b c d ++ [1, 0, 0] = _; rw [e]; rfl) (by omega) (by omega) (by omega) (by omega) (by omega) (fun v w h => ?_) ?_⟩
  · have := hv v w h
    have e2 : wrK k (opV 10 v w) = orB v w := wrK_id (by
      show k = 1 ∨ (0 ≤ orB v w ∧ orB v w ≤ 255)
      rcases hk0 with rfl | rfl
      · exact .inl rfl
      · have := h2 rfl; right; omega)
    rw [e2]; exact this
  · have ek : kOf 10 k = k := rfl
    rw [ek]
    rcases hk0 with rfl | rfl
    · exact okR_one hle
    · exact okR_two hle (h2 rfl).1 (h2 rfl).2
/-- Of greater ranges. -/
theorem bits_mono {op k a b c d a' b' c' d' L H L' H' : Int} (hop : op = 8 ∨ op = 9 ∨ op = 10) (hk0 : k = 1 ∨ k = 2) (h4 : in4 a b c d) (h4' : in4 a' b' c' d') (o1 : okR k a b) (o2 : okR k c d) (o1' : okR k a' b') (o2' : okR k c' d') (h1 : a' ≤ a) (h2 : b ≤ b') (h3 : c' ≤ c) (h5 : d ≤ d')
    (e : effS op k a b c d = [L, H, 1, 0, 0]) (e' : effS op k a' b' c' d' = [L', H', 1, 0, 0]) (w : Within op k a b c d L H 1 0 0) (w' : Within op k a' b' c' d' L' H' 1 0 0) : L' ≤ L ∧ H ≤ H' := by
  have hab := o1.2
  have hcd := o2.2
  have hk : k = 1 ∨ (k = 2 ∧ ((0 ≤ a ∧ b ≤ 255) ∧ 0 ≤ c ∧ d ≤ 255) ∧ (0 ≤ a' ∧ b' ≤ 255) ∧ 0 ≤ c' ∧ d' ≤ 255) := by unfold okR at *; omega
  have hnt : ∀ x, ¬ trapD op x := fun x => no_trap (by omega) (by omega)
  have hnu : ∀ x y, ¬ undD op k x y := fun x y => no_und (by omega) (by omega) (by omega) (by omega)
  by_cases hs : a = b ∧ c = d
  · have hbx : ResS op k a b c d a c := ⟨⟨⟨Int.le_refl _, hab⟩, Int.le_refl _, hcd⟩, hnt _, hnu _ _⟩
    have hbx' : ResS op k a' b' c' d' a c := ⟨⟨by omega, by omega⟩, hnt _, hnu _ _⟩
    have g' := (w'.inn a c hbx').2
    have g := (w.inn a c hbx).2
    have hL : L = H := by
      rcases hop with rfl | rfl | rfl
      · have : effS 8 k a b c d = andR k a b c d ++ [1, 0, 0] := rfl
        rw [this] at e; unfold andR at e; rw [if_pos hs] at e; simp at e; omega
      · have : effS 9 k a b c d = xorR k a b c d ++ [1, 0, 0] := rfl
        rw [this] at e; unfold xorR at e; rw [if_pos hs] at e; simp at e; omega
      · have : effS 10 k a b c d = orR k a b c d ++ [1, 0, 0] := rfl
        rw [this] at e; unfold orR at e; rw [if_pos hs] at e; simp at e; omega
    omega
  · have hs' : ¬ (a' = b' ∧ c' = d') := by omega
    obtain ⟨ha, hb, hc, hd⟩ := h4
    obtain ⟨ha', hb', hc', hd'⟩ := h4'
    unfold inI at *
    rcases hop with rfl | rfl | rfl
    · have q : effS 8 k a b c d = andR k a b c d ++ [1, 0, 0] := rfl
      have q' : effS 8 k a' b' c' d' = andR k a' b' c' d' ++ [1, 0, 0] := rfl
      rw [q] at e; rw [q'] at e'
      unfold andR at e e'
      rw [if_neg hs] at e
      rw [if_neg hs'] at e'
      have fl : k = 1 → fullL k = -9223372036854775808 ∧ fullH k = 9223372036854775807 := fun h => by subst h; exact ⟨rfl, rfl⟩
      by_cases p : 0 ≤ a <;> by_cases q : 0 ≤ c <;> by_cases p' : 0 ≤ a' <;> by_cases q' : 0 ≤ c' <;> simp [p, q, p', q'] at e e' <;> omega
    · have q : effS 9 k a b c d = xorR k a b c d ++ [1, 0, 0] := rfl
      have q' : effS 9 k a' b' c' d' = xorR k a' b' c' d' ++ [1, 0, 0] := rfl
      rw [q] at e; rw [q'] at e'
      unfold xorR at e e'
      rw [if_neg hs] at e
      rw [if_neg hs'] at e'
      have fl : k = 1 → fullL k = -9223372036854775808 ∧ fullH k = 9223372036854775807 := fun h => by subst h; exact ⟨rfl, rfl⟩
      by_cases p : 0 ≤ a ∧ 0 ≤ c
      · have ht := topV_bound (m := max b d) (by omega) (by omega)
        have hm := topV_mono (m := max b d) (n := max b' d') (by omega) (by omega)
        by_cases p' : 0 ≤ a' ∧ 0 ≤ c' <;> simp [p, p'] at e e' <;> omega
      · have p' : ¬ (0 ≤ a' ∧ 0 ≤ c') := by omega
        simp only [p, p', if_false] at e e'
        simp at e e'
        omega
    · have q : effS 10 k a b c d = orR k a b c d ++ [1, 0, 0] := rfl
      have q' : effS 10 k a' b' c' d' = orR k a' b' c' d' ++ [1, 0, 0] := rfl
      rw [q] at e; rw [q'] at e'
      unfold orR at e e'
      rw [if_neg hs] at e
      rw [if_neg hs'] at e'
      have fl : k = 1 → fullL k = -9223372036854775808 ∧ fullH k = 9223372036854775807 := fun h => by subst h; exact ⟨rfl, rfl⟩
      by_cases p : 0 ≤ a ∧ 0 ≤ c
      · have ht := topV_bound (m := max b d) (by omega) (by omega)
        have hm := topV_mono (m := max b d) (n := max b' d') (by omega) (by omega)
        by_cases p' : 0 ≤ a' ∧ 0 ≤ c' <;> simp [p, p'] at e e' <;> omega
      · have p' : ¬ (0 ≤ a' ∧ 0 ≤ c') := by omega
        simp only [p, p', if_false] at e e'
        simp at e e'
        omega

/-! ### Truths and comparisons -/
theorem ext_17 {a b c d : Int} (o1 : okR 3 a b) (o2 : okR 3 c d) : Ext (doneV 17 3) (ResS 17 3 a b c d) (a * c) (b * d) := by
  have h1 : (0 ≤ a ∧ b ≤ 1 ∧ a ≤ b) ∧ 0 ≤ c ∧ d ≤ 1 ∧ c ≤ d := by unfold okR at *; omega
  have hx : ∀ v w, Box a b c d v w → doneV 17 3 v w = v * w := fun v w h => by
    rw [done_plain (by omega) (by omega) (by omega) (by omega) (by omega)]
    show w64 (v * w) = v * w
    unfold Box at h
    rcases (show v = 0 ∨ v = 1 by omega) with rfl | rfl <;> rcases (show w = 0 ∨ w = 1 by omega) with rfl | rfl <;> decide
  have hr : ∀ v w, Box a b c d v w → ResS 17 3 a b c d v w := fun v w h => ⟨h, no_trap (by omega) (by omega), no_und (by omega) (by omega) (by omega) (by omega)⟩
  refine ⟨fun v w h => ?_, ⟨a, c, hr a c (by unfold Box; omega), hx a c (by unfold Box; omega)⟩, ⟨b, d, hr b d (by unfold Box; omega), hx b d (by unfold Box; omega)⟩⟩
  rw [hx v w h.1]
  have hb := h.1
  unfold Box at hb
  have e1 := Int.mul_le_mul hb.1.1 hb.2.1 h1.2.1 (by omega : 0 ≤ v)
  have e2 := Int.mul_le_mul hb.1.2 hb.2.2 (by omega : 0 ≤ w) (by omega : 0 ≤ b)
  exact ⟨e1, e2⟩
theorem ext_18 {a b c d : Int} (o1 : okR 3 a b) (o2 : okR 3 c d) : Ext (doneV 18 3) (ResS 18 3 a b c d) (max a c) (max b d) := by
  have h1 : (0 ≤ a ∧ b ≤ 1 ∧ a ≤ b) ∧ 0 ≤ c ∧ d ≤ 1 ∧ c ≤ d := by unfold okR at *; omega
  have hx : ∀ v w, doneV 18 3 v w = max v w := fun v w => by
    rw [done_plain (by omega) (by omega) (by omega) (by omega) (by omega)]; rfl
  have hr : ∀ v w, Box a b c d v w → ResS 18 3 a b c d v w := fun v w h => ⟨h, no_trap (by omega) (by omega), no_und (by omega) (by omega) (by omega) (by omega)⟩
  refine ⟨fun v w h => ?_, ⟨a, c, hr a c (by unfold Box; omega), hx a c⟩, ⟨b, d, hr b d (by unfold Box; omega), hx b d⟩⟩
  rw [hx v w]
  have hb := h.1
  unfold Box at hb
  omega
theorem ext_cmp {op k a b c d : Int} (hop : 11 ≤ op ∧ op ≤ 16) (hab : a ≤ b) (hcd : c ≤ d) : Ext (doneV op k) (ResS op k a b c d) (if cmpA op a b c d then 1 else 0) (if cmpN op a b c d then 0 else 1) := by
  have hx : ∀ v w, doneV op k v w = if holdsP op v w then 1 else 0 := fun v w => if_pos hop
  have hr : ∀ v w, Box a b c d v w → ResS op k a b c d v w := fun v w h => ⟨h, no_trap (by omega) (by omega), no_und (by omega) (by omega) (by omega) (by omega)⟩
  have hA : cmpA op a b c d → ∀ v w, Box a b c d v w → holdsP op v w := by
    intro h v w hb
    unfold Box at hb
    rcases (show op = 11 ∨ op = 12 ∨ op = 13 ∨ op = 14 ∨ op = 15 ∨ op = 16 by omega) with rfl | rfl | rfl | rfl | rfl | rfl <;> simp [cmpA, holdsP] at h ⊢ <;> omega
  have hN : cmpN op a b c d → ∀ v w, Box a b c d v w → ¬ holdsP op v w := by
    intro h v w hb
    unfold Box at hb
    rcases (show op = 11 ∨ op = 12 ∨ op = 13 ∨ op = 14 ∨ op = 15 ∨ op = 16 by omega) with rfl | rfl | rfl | rfl | rfl | rfl <;> simp [cmpN, holdsP] at h ⊢ <;> omega
  have hA' : ¬ cmpA op a b c d → ∃ v w, Box a b c d v w ∧ ¬ holdsP op v w := by
    intro h
    rcases (show op = 11 ∨ op = 12 ∨ op = 13 ∨ op = 14 ∨ op = 15 ∨ op = 16 by omega) with rfl | rfl | rfl | rfl | rfl | rfl <;> simp [cmpA] at h
    · by_cases q : a = c
      · by_cases q2 : a = b
        · exact ⟨a, d, by unfold Box; omega, by simp [holdsP]; omega⟩
        · exact ⟨b, c, by unfold Box; omega, by simp [holdsP]; omega⟩
      · exact ⟨a, c, by unfold Box; omega, by simp [holdsP]; omega⟩
    · exact ⟨max a c, max a c, by unfold Box; omega, by simp [holdsP]⟩
    · exact ⟨b, c, by unfold Box; omega, by simp [holdsP]; omega⟩
    · exact ⟨b, c, by unfold Box; omega, by simp [holdsP]; omega⟩
    · exact ⟨a, d, by unfold Box; omega, by simp [holdsP]; omega⟩
    · exact ⟨a, d, by unfold Box; omega, by simp [holdsP]; omega⟩
  have hN' : ¬ cmpN op a b c d → ∃ v w, Box a b c d v w ∧ holdsP op v w := by
    intro h
    rcases (show op = 11 ∨ op = 12 ∨ op = 13 ∨ op = 14 ∨ op = 15 ∨ op = 16 by omega) with rfl | rfl | rfl | rfl | rfl | rfl <;> simp [cmpN] at h
    · exact ⟨max a c, max a c, by unfold Box; omega, by simp [holdsP]⟩
    · by_cases q : a = c
      · by_cases q2 : a = b
        · exact ⟨a, d, by unfold Box; omega, by simp [holdsP]; omega⟩
        · exact ⟨b, c, by unfold Box; omega, by simp [holdsP]; omega⟩
      · exact ⟨a, c, by unfold Box; omega, by simp [holdsP]; omega⟩
    · exact ⟨a, d, by unfold Box; omega, by simp [holdsP]; omega⟩
    · exact ⟨a, d, by unfold Box; omega, by simp [holdsP]; omega⟩
    · exact ⟨b, c, by unfold Box; omega, by simp [holdsP]; omega⟩
    · exact ⟨b, c, by unfold Box; omega, by simp [holdsP]; omega⟩
  refine ⟨fun v w h => ?_, ?_, ?_⟩
  · rw [hx]
    by_cases q : cmpA op a b c d
    · rw [if_pos q, if_pos (hA q v w h.1)]
      split <;> rename_i r <;> first | exact absurd (hA q v w h.1) (hN r v w h.1) | omega
    · rw [if_neg q]
      by_cases r : cmpN op a b c d
      · rw [if_pos r, if_neg (hN r v w h.1)]; omega
      · rw [if_neg r]; split <;> omega
  · by_cases q : cmpA op a b c d
    · exact ⟨a, c, hr a c (by unfold Box; omega), by rw [hx, if_pos q, if_pos (hA q a c (by unfold Box; omega))]⟩
    · obtain ⟨v, w, hb, hn⟩ := hA' q
      exact ⟨v, w, hr v w hb, by rw [hx, if_neg q, if_neg hn]⟩
  · by_cases q : cmpN op a b c d
    · exact ⟨a, c, hr a c (by unfold Box; omega), by rw [hx, if_pos q, if_neg (hN q a c (by unfold Box; omega))]⟩
    · obtain ⟨v, w, hb, hn⟩ := hN' q
      exact ⟨v, w, hr v w hb, by rw [hx, if_neg q, if_pos hn]⟩
theorem within_ext {op k a b c d L H : Int} (heff : effS op k a b c d = [L, H, 1, 0, 0]) (h2 : op ≠ 2) (h3 : op ≠ 3) (h6 : op ≠ 6) (h7 : op ≠ 7) (he : Ext (doneV op k) (ResS op k a b c d) L H) (hk : okR (kOf op k) L H) : Within op k a b c d L H 1 0 0 :=
  ⟨heff, ⟨.inr rfl, .inl rfl, .inl rfl⟩, fun v w h => ⟨rfl, he.all v w h⟩, fun v w _ h => absurd h (no_trap h2 h3), fun v w _ h => absurd h (no_und h2 h3 h6 h7), fun _ => hk⟩
end Go.SXR
