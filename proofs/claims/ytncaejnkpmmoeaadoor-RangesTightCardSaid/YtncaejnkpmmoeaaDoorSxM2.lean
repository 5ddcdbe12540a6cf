/- RANGES: extremes over lists; quotients and remainders of two intervals. -/
import Derived.Test.YtncaejnkpmmoeaaDoorSxM1
set_option linter.unusedVariables false
set_option linter.unusedSimpArgs false
namespace Go.SXR

/-! ### Least and greatest of a list -/
def minL : List Int → Int
  | [] => 0
  | x :: l => l.foldl min x
def maxL : List Int → Int
  | [] => 0
  | x :: l => l.foldl max x
theorem foldl_min_le : ∀ (l : List Int) (x : Int), l.foldl min x ≤ x ∧ ∀ y ∈ l, l.foldl min x ≤ y
  | [], x => ⟨Int.le_refl _, fun y h => absurd h List.not_mem_nil⟩
  | z :: l, x => by
    obtain ⟨h1, h2⟩ := foldl_min_le l (min x z)
    simp only [List.foldl_cons]
    refine ⟨by omega, fun y hy => ?_⟩
    rcases List.mem_cons.1 hy with rfl | hy
    · omega
    · exact h2 y hy
theorem foldl_min_mem : ∀ (l : List Int) (x : Int), l.foldl min x = x ∨ l.foldl min x ∈ l
  | [], x => .inl rfl
  | z :: l, x => by
    simp only [List.foldl_cons]
    rcases foldl_min_mem l (min x z) with h | h
    · rw [h]
      rcases Int.le_total x z with hz | hz
      · left; omega
      · right; rw [show min x z = z by omega]; exact List.mem_cons_self
    · exact .inr (List.mem_cons_of_mem _ h)
theorem foldl_max_ge : ∀ (l : List Int) (x : Int), x ≤ l.foldl max x ∧ ∀ y ∈ l, y ≤ l.foldl max x
  | [], x => ⟨Int.le_refl _, fun y h => absurd h List.not_mem_nil⟩
  | z :: l, x => by
    obtain ⟨h1, h2⟩ := foldl_max_ge l (max x z)
    simp only [List.foldl_cons]
    refine ⟨by omega, fun y hy => ?_⟩
    rcases List.mem_cons.1 hy with rfl | hy
    · omega
    · exact h2 y hy
theorem foldl_max_mem : ∀ (l : List Int) (x : Int), l.foldl max x = x ∨ l.foldl max x ∈ l
  | [], x => .inl rfl
  | z :: l, x => by
    simp only [List.foldl_cons]
    rcases foldl_max_mem l (max x z) with h | h
    · rw [h]
      rcases Int.le_total x z with hz | hz
      · right; rw [show max x z = z by omega]; exact List.mem_cons_self
      · left; omega
    · exact .inr (List.mem_cons_of_mem _ h)
theorem minL_le {l : List Int} {y : Int} (h : y ∈ l) : minL l ≤ y := by
  cases l with
  | nil => exact absurd h List.not_mem_nil
  | cons x l =>
    rcases List.mem_cons.1 h with rfl | h
    · exact (foldl_min_le l _).1
    · exact (foldl_min_le l x).2 y h
theorem le_maxL {l : List Int} {y : Int} (h : y ∈ l) : y ≤ maxL l := by
  cases l with
  | nil => exact absurd h List.not_mem_nil
  | cons x l =>
    rcases List.mem_cons.1 h with rfl | h
    · exact (foldl_max_ge l _).1
    · exact (foldl_max_ge l x).2 y h
theorem minL_mem {l : List Int} (h : l ≠ []) : minL l ∈ l := by
  cases l with
  | nil => exact absurd rfl h
  | cons x l =>
    rcases foldl_min_mem l x with h | h
    · show l.foldl min x ∈ _; rw [h]; exact List.mem_cons_self
    · exact List.mem_cons_of_mem _ h
theorem maxL_mem {l : List Int} (h : l ≠ []) : maxL l ∈ l := by
  cases l with
  | nil => exact absurd rfl h
  | cons x l =>
    rcases foldl_max_mem l x with h | h
    · show l.foldl max x ∈ _; rw [h]; exact List.mem_cons_self
    · exact List.mem_cons_of_mem _ h
theorem ext_list {f : Int → Int → Int} {S : Int → Int → Prop} {l : List Int} (hl : l ≠ []) (h1 : ∀ v w, S v w → ∃ x ∈ l, ∃ y ∈ l, x ≤ f v w ∧ f v w ≤ y) (h2 : ∀ x ∈ l, ∃ v w, S v w ∧ f v w = x) : Ext f S (minL l) (maxL l) := by
  refine ⟨fun v w h => ?_, ?_, ?_⟩
  · obtain ⟨x, hx, y, hy, g1, g2⟩ := h1 v w h
    have := minL_le hx
    have := le_maxL hy
    omega
  · obtain ⟨v, w, hs, e⟩ := h2 _ (minL_mem hl); exact ⟨v, w, hs, e⟩
  · obtain ⟨v, w, hs, e⟩ := h2 _ (maxL_mem hl); exact ⟨v, w, hs, e⟩
open Classical in
/-- The least value of a function over some pairs (0 if there is none). -/
noncomputable def extLo (f : Int → Int → Int) (S : Int → Int → Prop) : Int := if h : ∃ lo hi, Ext f S lo hi then h.choose else 0
open Classical in
noncomputable def extHi (f : Int → Int → Int) (S : Int → Int → Prop) : Int := if h : ∃ hi lo, Ext f S lo hi then h.choose else 0
theorem extLo_eq {f : Int → Int → Int} {S : Int → Int → Prop} {lo hi : Int} (h : Ext f S lo hi) : extLo f S = lo := by
  have h' : ∃ lo hi, Ext f S lo hi := ⟨lo, hi, h⟩
  unfold extLo
  rw [dif_pos h']
  obtain ⟨hi', h2⟩ := h'.choose_spec
  exact (h2.uniq h).1
theorem extHi_eq {f : Int → Int → Int} {S : Int → Int → Prop} {lo hi : Int} (h : Ext f S lo hi) : extHi f S = hi := by
  have h' : ∃ hi lo, Ext f S lo hi := ⟨hi, lo, h⟩
  unfold extHi
  rw [dif_pos h']
  obtain ⟨lo', h2⟩ := h'.choose_spec
  exact (h2.uniq h).2
theorem extLo_none {f : Int → Int → Int} {S : Int → Int → Prop} (h : ∀ v w, ¬ S v w) : extLo f S = 0 := by
  unfold extLo
  rw [dif_neg]
  rintro ⟨lo, hi, h'⟩
  obtain ⟨v, w, hs, _⟩ := h'.low
  exact h v w hs
theorem extHi_none {f : Int → Int → Int} {S : Int → Int → Prop} (h : ∀ v w, ¬ S v w) : extHi f S = 0 := by
  unfold extHi
  rw [dif_neg]
  rintro ⟨hi, lo, h'⟩
  obtain ⟨v, w, hs, _⟩ := h'.low
  exact h v w hs

/-! ### Quotients of two intervals -/
abbrev LST : Int := -9223372036854775808
/-- Pairs that have a quotient. -/
def DivS (a b c d : Int) (v w : Int) : Prop := Box a b c d v w ∧ w ≠ 0 ∧ ¬ (v = LST ∧ w = -1)
/-- Is there one? -/
def someD (b c d : Int) : Prop := 1 ≤ d ∨ c ≤ -2 ∨ (LST < b ∧ c ≤ -1 ∧ -1 ≤ d)
instance (b c d : Int) : Decidable (someD b c d) := by unfold someD; infer_instance
theorem someD_iff {a b c d : Int} (ha : LST ≤ a) (hab : a ≤ b) (hcd : c ≤ d) : someD b c d ↔ ∃ v w, DivS a b c d v w := by
  unfold someD DivS Box
  constructor
  · rintro (h | h | h)
    · exact ⟨a, d, by omega⟩
    · exact ⟨a, c, by omega⟩
    · exact ⟨b, -1, by omega⟩
  · rintro ⟨v, w, h⟩; omega
def c4 (f : Int → Int → Int) (a b c d : Int) : List Int := [f a c, f a d, f b c, f b d]
/-- A list of corners of boxes that make up the pairs. -/
theorem ext_boxes {f : Int → Int → Int} {S : Int → Int → Prop} {L : List (Int × Int × Int × Int)} (hne : L ≠ []) (h1 : ∀ p ∈ L, Ext f (Box p.1 p.2.1 p.2.2.1 p.2.2.2) (lo4 (f p.1 p.2.2.1) (f p.1 p.2.2.2) (f p.2.1 p.2.2.1) (f p.2.1 p.2.2.2)) (hi4 (f p.1 p.2.2.1) (f p.1 p.2.2.2) (f p.2.1 p.2.2.1) (f p.2.1 p.2.2.2)))
    (hb : ∀ p ∈ L, p.1 ≤ p.2.1 ∧ p.2.2.1 ≤ p.2.2.2) (hs : ∀ v w, S v w ↔ ∃ p ∈ L, Box p.1 p.2.1 p.2.2.1 p.2.2.2 v w) :
    Ext f S (minL (L.flatMap fun p => c4 f p.1 p.2.1 p.2.2.1 p.2.2.2)) (maxL (L.flatMap fun p => c4 f p.1 p.2.1 p.2.2.1 p.2.2.2)) := by
  refine ext_list ?_ (fun v w h => ?_) (fun x hx => ?_)
  · cases L with
    | nil => exact absurd rfl hne
    | cons p L => simp [c4]
  · obtain ⟨p, hp, hv⟩ := (hs v w).1 h
    have he := (h1 p hp).all v w hv
    have hlo : ∃ x ∈ c4 f p.1 p.2.1 p.2.2.1 p.2.2.2, x ≤ f v w := by
      unfold lo4 at he
      simp only [c4, List.mem_cons, List.not_mem_nil, or_false]
      by_cases g1 : f p.1 p.2.2.1 ≤ f v w
      · exact ⟨_, .inl rfl, g1⟩
      · by_cases g2 : f p.1 p.2.2.2 ≤ f v w
        · exact ⟨_, .inr (.inl rfl), g2⟩
        · by_cases g3 : f p.2.1 p.2.2.1 ≤ f v w
          · exact ⟨_, .inr (.inr (.inl rfl)), g3⟩
          · exact ⟨_, .inr (.inr (.inr rfl)), by omega⟩
    have hhi : ∃ x ∈ c4 f p.1 p.2.1 p.2.2.1 p.2.2.2, f v w ≤ x := by
      unfold hi4 at he
      simp only [c4, List.mem_cons, List.not_mem_nil, or_false]
      by_cases g1 : f v w ≤ f p.1 p.2.2.1
      · exact ⟨_, .inl rfl, g1⟩
      · by_cases g2 : f v w ≤ f p.1 p.2.2.2
        · exact ⟨_, .inr (.inl rfl), g2⟩
        · by_cases g3 : f v w ≤ f p.2.1 p.2.2.1
          · exact ⟨_, .inr (.inr (.inl rfl)), g3⟩
          · exact ⟨_, .inr (.inr (.inr rfl)), by omega⟩
    obtain ⟨x, hx, gx⟩ := hlo
    obtain ⟨y, hy, gy⟩ := hhi
    exact ⟨x, List.mem_flatMap.2 ⟨p, hp, hx⟩, y, List.mem_flatMap.2 ⟨p, hp, hy⟩, gx, gy⟩
  · obtain ⟨p, hp, hx⟩ := List.mem_flatMap.1 hx
    obtain ⟨g1, g2⟩ := hb p hp
    simp only [c4, List.mem_cons, List.not_mem_nil, or_false] at hx
    rcases hx with rfl | rfl | rfl | rfl
    · exact ⟨_, _, (hs _ _).2 ⟨p, hp, by unfold Box; omega⟩, rfl⟩
    · exact ⟨_, _, (hs _ _).2 ⟨p, hp, by unfold Box; omega⟩, rfl⟩
    · exact ⟨_, _, (hs _ _).2 ⟨p, hp, by unfold Box; omega⟩, rfl⟩
    · exact ⟨_, _, (hs _ _).2 ⟨p, hp, by unfold Box; omega⟩, rfl⟩
/-- The boxes of the program: divisors above 0; below -1; -1 with all but the least number. -/
def boxesP (a b c d : Int) : List (Int × Int × Int × Int) :=
  (if 1 ≤ d then [(a, b, max c 1, d)] else []) ++ (if c ≤ -2 then [(a, b, c, min d (-2))] else []) ++ (if LST < b ∧ c ≤ -1 ∧ -1 ≤ d then [(max a (LST + 1), b, -1, -1)] else [])
theorem ext_quot {a b c d : Int} (ha : LST ≤ a) (hab : a ≤ b) (hcd : c ≤ d) (h : someD b c d) :
    Ext Int.tdiv (DivS a b c d) (minL ((boxesP a b c d).flatMap fun p => c4 Int.tdiv p.1 p.2.1 p.2.2.1 p.2.2.2)) (maxL ((boxesP a b c d).flatMap fun p => c4 Int.tdiv p.1 p.2.1 p.2.2.1 p.2.2.2)) := by
  have hmem : ∀ p ∈ boxesP a b c d, (p.1 ≤ p.2.1 ∧ p.2.2.1 ≤ p.2.2.2) ∧ (0 < p.2.2.1 ∨ p.2.2.2 < 0) := by
    intro p hp
    simp only [boxesP, List.mem_append] at hp
    rcases hp with (hp | hp) | hp <;> split at hp <;> first | exact absurd hp List.not_mem_nil | skip
    all_goals
      have := List.mem_singleton.1 hp
      subst this
      dsimp only
      omega
  refine ext_boxes ?_ (fun p hp => ext_div (hmem p hp).1.1 (hmem p hp).1.2 (hmem p hp).2) (fun p hp => (hmem p hp).1) (fun v w => ?_)
  · unfold someD at h
    unfold boxesP
    intro he
    simp only [List.append_eq_nil_iff] at he
    obtain ⟨⟨h1, h2⟩, h3⟩ := he
    rcases h with g | g | g
    · rw [if_pos g] at h1; cases h1
    · rw [if_pos g] at h2; cases h2
    · rw [if_pos g] at h3; cases h3
  · simp only [boxesP, List.mem_append]
    constructor
    · intro hv
      unfold DivS Box at hv
      by_cases g1 : 0 < w
      · exact ⟨(a, b, max c 1, d), .inl (.inl (by rw [if_pos (by omega)]; exact List.mem_singleton.2 rfl)), by unfold Box; dsimp only; omega⟩
      · by_cases g2 : w ≤ -2
        · exact ⟨(a, b, c, min d (-2)), .inl (.inr (by rw [if_pos (by omega)]; exact List.mem_singleton.2 rfl)), by unfold Box; dsimp only; omega⟩
        · exact ⟨(max a (LST + 1), b, -1, -1), .inr (by rw [if_pos (by omega)]; exact List.mem_singleton.2 rfl), by unfold Box; dsimp only; omega⟩
    · rintro ⟨p, hp, hv⟩
      unfold DivS
      rcases hp with (hp | hp) | hp <;> split at hp <;> first | exact absurd hp List.not_mem_nil | skip
      all_goals
        have := List.mem_singleton.1 hp
        subst this
        unfold Box at *
        dsimp only at hv
        omega
/-- The boxes of the reference, if no pair is undefined: divisors below 0; above 0. -/
def boxesR (a b c d : Int) : List (Int × Int × Int × Int) :=
  (if c < 0 then [(a, b, c, min d (-1))] else []) ++ (if 0 < d then [(a, b, max c 1, d)] else [])
theorem ext_quotR {a b c d : Int} (ha : LST ≤ a) (hab : a ≤ b) (hcd : c ≤ d) (h : c < 0 ∨ 0 < d) (hu : ¬ (a = LST ∧ c ≤ -1 ∧ -1 ≤ d)) :
    Ext Int.tdiv (DivS a b c d) (minL ((boxesR a b c d).flatMap fun p => c4 Int.tdiv p.1 p.2.1 p.2.2.1 p.2.2.2)) (maxL ((boxesR a b c d).flatMap fun p => c4 Int.tdiv p.1 p.2.1 p.2.2.1 p.2.2.2)) := by
  have hmem : ∀ p ∈ boxesR a b c d, (p.1 ≤ p.2.1 ∧ p.2.2.1 ≤ p.2.2.2) ∧ (0 < p.2.2.1 ∨ p.2.2.2 < 0) := by
    intro p hp
    simp only [boxesR, List.mem_append] at hp
    rcases hp with hp | hp <;> split at hp <;> first | exact absurd hp List.not_mem_nil | skip
    all_goals
      have := List.mem_singleton.1 hp
      subst this
      dsimp only
      omega
  refine ext_boxes ?_ (fun p hp => ext_div (hmem p hp).1.1 (hmem p hp).1.2 (hmem p hp).2) (fun p hp => (hmem p hp).1) (fun v w => ?_)
  · unfold boxesR
    intro he
    simp only [List.append_eq_nil_iff] at he
    obtain ⟨h1, h2⟩ := he
    rcases h with g | g
    · rw [if_pos g] at h1; cases h1
    · rw [if_pos g] at h2; cases h2
  · simp only [boxesR, List.mem_append]
    constructor
    · intro hv
      unfold DivS Box at hv
      by_cases g1 : 0 < w
      · exact ⟨(a, b, max c 1, d), .inr (by rw [if_pos (by omega)]; exact List.mem_singleton.2 rfl), by unfold Box; dsimp only; omega⟩
      · exact ⟨(a, b, c, min d (-1)), .inl (by rw [if_pos (by omega)]; exact List.mem_singleton.2 rfl), by unfold Box; dsimp only; omega⟩
    · rintro ⟨p, hp, hv⟩
      unfold DivS
      rcases hp with hp | hp <;> split at hp <;> first | exact absurd hp List.not_mem_nil | skip
      all_goals
        have := List.mem_singleton.1 hp
        subst this
        unfold Box at *
        dsimp only at hv
        omega
/-- The same where a pair is undefined. -/
def boxesU (a b c d : Int) : List (Int × Int × Int × Int) :=
  (if c < -1 then [(a, b, c, -2)] else []) ++ (if LST < b then [(LST + 1, b, -1, -1)] else [])
theorem tdiv_in {v w : Int} (hv : -9223372036854775808 ≤ v ∧ v ≤ 9223372036854775807) (hw : w ≠ 0) (hu : ¬ (v = -9223372036854775808 ∧ w = -1)) : -9223372036854775808 ≤ v.tdiv w ∧ v.tdiv w ≤ 9223372036854775807 := by
  by_cases h1 : w = -1
  · subst h1
    have : v.tdiv (-1) = -v := by rw [Int.tdiv_neg, Int.tdiv_one]
    omega
  · by_cases h2 : w = 1
    · subst h2; rw [Int.tdiv_one]; omega
    · have e := Int.natAbs_tdiv v w
      have e2 : (v.tdiv w).natAbs = v.natAbs / w.natAbs := e
      have h3 : v.natAbs / w.natAbs ≤ v.natAbs / 2 := Nat.div_le_div_left (by omega) (by omega)
      omega
end Go.SXR
