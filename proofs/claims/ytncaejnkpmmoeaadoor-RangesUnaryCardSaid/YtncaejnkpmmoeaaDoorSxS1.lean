/- The symbolic executor SX, its soundness, part 1: rows, atoms, truths, values under more letters. -/
import Derived.Test.YtncaejnkpmmoeaaDoorSxD
set_option linter.unusedVariables false
set_option linter.unusedSimpArgs false
namespace Go.SX
open Go Go.RowKit

/-! ### Rows by number -/
theorem Tb.get_e {α : Type} (i : Nat) : (Tb.e : Tb α).get i = none := by cases i <;> rfl
theorem Tb.get_n0 {α : Type} (l r : Tb α) (v : Option α) : (Tb.n l v r).get 0 = v := rfl
theorem Tb.get_ns {α : Type} (l r : Tb α) (v : Option α) (i : Nat) : (Tb.n l v r).get (i + 1) = if i % 2 = 0 then l.get (i / 2) else r.get (i / 2) := by
  show (bif Nat.beq (Nat.mod i 2) 0 then l.get (Nat.div i 2) else r.get (Nat.div i 2)) = _
  by_cases h : i % 2 = 0
  · rw [if_pos h, show Nat.beq (Nat.mod i 2) 0 = true from Nat.beq_eq.mpr h]; rfl
  · rw [if_neg h, show Nat.beq (Nat.mod i 2) 0 = false from by
      cases hb : Nat.beq (Nat.mod i 2) 0
      · rfl
      · exact absurd (Nat.eq_of_beq_eq_true hb) h]; rfl
theorem Tb.set_e0 {α : Type} (f : Nat) (x : α) : Tb.set (f + 1) .e 0 x = .n .e (some x) .e := rfl
theorem Tb.set_es {α : Type} (f i : Nat) (x : α) : Tb.set (f + 1) .e (i + 1) x = if i % 2 = 0 then .n (Tb.set f .e (i / 2) x) none .e else .n .e none (Tb.set f .e (i / 2) x) := by
  show (bif Nat.beq (Nat.mod i 2) 0 then Tb.n (Tb.set f .e (Nat.div i 2) x) none .e else .n .e none (Tb.set f .e (Nat.div i 2) x)) = _
  by_cases h : i % 2 = 0
  · rw [if_pos h, show Nat.beq (Nat.mod i 2) 0 = true from Nat.beq_eq.mpr h]; rfl
  · rw [if_neg h, show Nat.beq (Nat.mod i 2) 0 = false from by
      cases hb : Nat.beq (Nat.mod i 2) 0
      · rfl
      · exact absurd (Nat.eq_of_beq_eq_true hb) h]; rfl
theorem Tb.set_n0 {α : Type} (f : Nat) (l r : Tb α) (v : Option α) (x : α) : Tb.set (f + 1) (.n l v r) 0 x = .n l (some x) r := rfl
theorem Tb.set_ns {α : Type} (f i : Nat) (l r : Tb α) (v : Option α) (x : α) : Tb.set (f + 1) (.n l v r) (i + 1) x = if i % 2 = 0 then .n (Tb.set f l (i / 2) x) v r else .n l v (Tb.set f r (i / 2) x) := by
  show (bif Nat.beq (Nat.mod i 2) 0 then Tb.n (Tb.set f l (Nat.div i 2) x) v r else .n l v (Tb.set f r (Nat.div i 2) x)) = _
  by_cases h : i % 2 = 0
  · rw [if_pos h, show Nat.beq (Nat.mod i 2) 0 = true from Nat.beq_eq.mpr h]; rfl
  · rw [if_neg h, show Nat.beq (Nat.mod i 2) 0 = false from by
      cases hb : Nat.beq (Nat.mod i 2) 0
      · rfl
      · exact absurd (Nat.eq_of_beq_eq_true hb) h]; rfl

theorem Tb.get_set {α : Type} : ∀ (f : Nat) (t : Tb α) (d : Nat) (x : α) (i : Nat) (v : α), (Tb.set f t d x).get i = some v → (i = d ∧ v = x) ∨ (i ≠ d ∧ t.get i = some v)
  | 0, t, d, x, i, v, h => by rw [show Tb.set 0 t d x = .e from rfl, Tb.get_e] at h; cases h
  | f + 1, .e, 0, x, i, v, h => by
    rw [Tb.set_e0] at h
    cases i with
    | zero => rw [Tb.get_n0] at h; cases h; exact .inl ⟨rfl, rfl⟩
    | succ i => rw [Tb.get_ns] at h; split at h <;> rw [Tb.get_e] at h <;> cases h
  | f + 1, .e, d + 1, x, i, v, h => by
    rw [Tb.set_es] at h
    split at h
    · rename_i hd
      cases i with
      | zero => rw [Tb.get_n0] at h; cases h
      | succ i =>
        rw [Tb.get_ns] at h
        split at h
        · rename_i hi
          rcases Tb.get_set f .e (d / 2) x (i / 2) v h with ⟨h1, h2⟩ | ⟨h1, h2⟩
          · exact .inl ⟨by omega, h2⟩
          · rw [Tb.get_e] at h2; cases h2
        · rw [Tb.get_e] at h; cases h
    · rename_i hd
      cases i with
      | zero => rw [Tb.get_n0] at h; cases h
      | succ i =>
        rw [Tb.get_ns] at h
        split at h
        · rw [Tb.get_e] at h; cases h
        · rename_i hi
          rcases Tb.get_set f .e (d / 2) x (i / 2) v h with ⟨h1, h2⟩ | ⟨h1, h2⟩
          · exact .inl ⟨by omega, h2⟩
          · rw [Tb.get_e] at h2; cases h2
  | f + 1, .n l u r, 0, x, i, v, h => by
    rw [Tb.set_n0] at h
    cases i with
    | zero => rw [Tb.get_n0] at h; cases h; exact .inl ⟨rfl, rfl⟩
    | succ i => exact .inr ⟨by omega, by rw [Tb.get_ns] at h ⊢; exact h⟩
  | f + 1, .n l u r, d + 1, x, i, v, h => by
    rw [Tb.set_ns] at h
    split at h
    · rename_i hd
      cases i with
      | zero => exact .inr ⟨by omega, by rw [Tb.get_n0] at h ⊢; exact h⟩
      | succ i =>
        rw [Tb.get_ns] at h
        split at h
        · rename_i hi
          rcases Tb.get_set f l (d / 2) x (i / 2) v h with ⟨h1, h2⟩ | ⟨h1, h2⟩
          · exact .inl ⟨by omega, h2⟩
          · exact .inr ⟨by omega, by rw [Tb.get_ns, if_pos hi]; exact h2⟩
        · rename_i hi
          exact .inr ⟨by omega, by rw [Tb.get_ns, if_neg hi]; exact h⟩
    · rename_i hd
      cases i with
      | zero => exact .inr ⟨by omega, by rw [Tb.get_n0] at h ⊢; exact h⟩
      | succ i =>
        rw [Tb.get_ns] at h
        split at h
        · rename_i hi
          exact .inr ⟨by omega, by rw [Tb.get_ns, if_pos hi]; exact h⟩
        · rename_i hi
          rcases Tb.get_set f r (d / 2) x (i / 2) v h with ⟨h1, h2⟩ | ⟨h1, h2⟩
          · exact .inl ⟨by omega, h2⟩
          · exact .inr ⟨by omega, by rw [Tb.get_ns, if_neg hi]; exact h2⟩
theorem Tb.get_put {α : Type} {t : Tb α} {d : Nat} {x : α} {i : Nat} {v : α} (h : (t.put d x).get i = some v) : (i = d ∧ v = x) ∨ (i ≠ d ∧ t.get i = some v) := Tb.get_set 40 t d x i v h
theorem get_ofL {α : Type} : ∀ (l : List α) (m : Nat) (t : Tb α) (i : Nat) (v : α), (Tb.ofL l m t).get i = some v → (m ≤ i ∧ l[i - m]? = some v) ∨ t.get i = some v
  | [], _, _, _, _, h => .inr h
  | x :: l, m, t, i, v, h => by
    rcases get_ofL l (m + 1) (t.put m x) i v h with ⟨h1, h2⟩ | h1
    · refine .inl ⟨by omega, ?_⟩
      rw [show i - m = (i - (m + 1)) + 1 from by omega, List.getElem?_cons_succ]; exact h2
    · rcases Tb.get_put h1 with ⟨rfl, rfl⟩ | ⟨_, h3⟩
      · exact .inl ⟨Nat.le_refl _, by simp⟩
      · exact .inr h3

/-! ### Lists -/
theorem nth_eq {α : Type} : ∀ (l : List α) (n : Nat), nth l n = l[n]?
  | [], _ => by cases ‹Nat› <;> rfl
  | x :: l, 0 => rfl
  | x :: l, n + 1 => by show nth l n = _; rw [nth_eq l n]; rfl
theorem dropN_eq {α : Type} : ∀ (n : Nat) (l : List α), dropN n l = l.drop n
  | 0, l => rfl
  | n + 1, [] => rfl
  | n + 1, x :: l => by show dropN n l = _; rw [dropN_eq n l]; rfl
theorem takeN_eq {α : Type} : ∀ (n : Nat) (l r : List α), takeN n l = some r → n ≤ l.length ∧ r = l.take n
  | 0, l, r, h => by cases h; exact ⟨Nat.zero_le _, rfl⟩
  | n + 1, [], r, h => by cases h
  | n + 1, x :: l, r, h => by
    simp only [takeN] at h
    split at h
    · rename_i s hs
      cases h
      obtain ⟨h1, rfl⟩ := takeN_eq n l s hs
      exact ⟨by simp; omega, rfl⟩
    · cases h
theorem setN_eq {α : Type} : ∀ (l : List α) (n : Nat) (y : α), setN l n y = l.set n y
  | [], _, _ => rfl
  | x :: l, 0, y => rfl
  | x :: l, n + 1, y => by show x :: setN l n y = _; rw [setN_eq l n y]; rfl
/-- What 'putN' gives. -/
theorem putN_spec {α : Type} : ∀ (l : List α) (n : Nat) (ys r : List α), putN l n ys = some r → r.length = l.length ∧ n + ys.length ≤ l.length ∧ ∀ j, r[j]? = if n ≤ j ∧ j < n + ys.length then ys[j - n]? else l[j]?
  | l, 0, [], r, h => by
    simp only [putN] at h; cases h
    exact ⟨rfl, by simp, fun j => by rw [if_neg (by simp)]⟩
  | [], 0, y :: ys, r, h => by simp [putN] at h
  | [], n + 1, ys, r, h => by simp [putN] at h
  | x :: l, 0, y :: ys, r, h => by
    simp only [putN] at h
    split at h
    · rename_i s hs
      cases h
      obtain ⟨h1, h2, h3⟩ := putN_spec l 0 ys s hs
      refine ⟨by simp [h1], by simp at h2 ⊢; omega, fun j => ?_⟩
      cases j with
      | zero => simp
      | succ j =>
        simp only [List.getElem?_cons_succ, h3 j, List.length_cons, Nat.zero_le, true_and, Nat.zero_add, Nat.sub_zero]
        by_cases hj : j < ys.length
        · rw [if_pos hj, if_pos (by omega)]
        · rw [if_neg hj, if_neg (by omega)]
    · cases h
  | x :: l, n + 1, ys, r, h => by
    simp only [putN] at h
    split at h
    · rename_i s hs
      cases h
      obtain ⟨h1, h2, h3⟩ := putN_spec l n ys s hs
      refine ⟨by simp [h1], by simp; omega, fun j => ?_⟩
      cases j with
      | zero => rw [if_neg (by omega)]; rfl
      | succ j =>
        simp only [List.getElem?_cons_succ, h3 j]
        by_cases hj : n ≤ j ∧ j < n + ys.length
        · rw [if_pos hj, if_pos (by omega)]; congr 1; omega
        · rw [if_neg hj, if_neg (by omega)]
    · cases h

/-! ### Booleans -/
theorem beq_nat {a b : Nat} (h : Nat.beq a b = true) : a = b := Nat.eq_of_beq_eq_true h
theorem blt_nat {a b : Nat} (h : Nat.blt a b = true) : a < b := by
  unfold Nat.blt at h; exact Nat.le_of_ble_eq_true h
theorem ble_nat {a b : Nat} (h : Nat.ble a b = true) : a ≤ b := Nat.le_of_ble_eq_true h
theorem A.beq_eq : ∀ {a b : A}, a.beq b = true → a = b
  | .v i, .v j, h => by rw [beq_nat h]
  | .n a, .n b, h => by simp [A.beq] at h; rw [h]
  | .v _, .n _, h => by cases h
  | .n _, .v _, h => by cases h
theorem B.beq_eq : ∀ {a b : B}, a.beq b = true → a = b
  | .c a, .c b, h => by simp [B.beq] at h; rw [h]
  | .cmp o x y, .cmp o' x' y', h => by
    simp only [B.beq, Bool.and_eq_true] at h
    obtain ⟨⟨h1, h2⟩, h3⟩ := h
    rw [A.beq_eq h2, A.beq_eq h3]
    cases o <;> cases o' <;> first | rfl | cases h1
  | .not a, .not b, h => by rw [B.beq_eq (a := a) (b := b) h]
  | .and p q, .and r s, h => by
    simp only [B.beq, Bool.and_eq_true] at h
    rw [B.beq_eq h.1, B.beq_eq h.2]
  | .or p q, .or r s, h => by
    simp only [B.beq, Bool.and_eq_true] at h
    rw [B.beq_eq h.1, B.beq_eq h.2]
  | .c _, .cmp _ _ _, h | .c _, .not _, h | .c _, .and _ _, h | .c _, .or _ _, h => by cases h
  | .cmp _ _ _, .c _, h | .cmp _ _ _, .not _, h | .cmp _ _ _, .and _ _, h | .cmp _ _ _, .or _ _, h => by cases h
  | .not _, .c _, h | .not _, .cmp _ _ _, h | .not _, .and _ _, h | .not _, .or _ _, h => by cases h
  | .and _ _, .c _, h | .and _ _, .cmp _ _ _, h | .and _ _, .not _, h | .and _ _, .or _ _, h => by cases h
  | .or _ _, .c _, h | .or _ _, .cmp _ _ _, h | .or _ _, .not _, h | .or _ _, .and _ _, h => by cases h
theorem kindEq_eq {a b : IntKind} (h : kindEq a b = true) : a = b := of_decide_eq_true h

theorem B.den_mkNot (is : List Int) (b : B) : b.mkNot.den is = !b.den is := by
  cases b <;> simp [B.mkNot, B.den]
theorem A.den_lit {a : A} (h : a.lit = true) (is js : List Int) : a.den is = a.den js := by
  cases a with
  | v i => cases h
  | n c => rfl
theorem B.den_lit : ∀ {b : B}, b.lit = true → ∀ (is js : List Int), b.den is = b.den js
  | .c _, _, _, _ => rfl
  | .cmp o x y, h, is, js => by
    simp only [B.lit, Bool.and_eq_true] at h
    simp only [B.den, A.den_lit h.1 is js, A.den_lit h.2 is js]
  | .not b, h, is, js => by simp only [B.den, B.den_lit (b := b) h is js]
  | .and x y, h, is, js => by
    simp only [B.lit, Bool.and_eq_true] at h
    simp only [B.den, B.den_lit h.1 is js, B.den_lit h.2 is js]
  | .or x y, h, is, js => by
    simp only [B.lit, Bool.and_eq_true] at h
    simp only [B.den, B.den_lit h.1 is js, B.den_lit h.2 is js]
theorem B.den_mkAnd (is : List Int) (x y : B) : (x.mkAnd y).den is = (x.den is && y.den is) := by
  unfold B.mkAnd
  split <;> simp [B.den]
  cases x.lit <;> simp [B.den]
theorem B.den_mkOr (is : List Int) (x y : B) : (x.mkOr y).den is = (x.den is || y.den is) := by
  unfold B.mkOr
  split <;> simp [B.den]
theorem B.den_mkEq (is : List Int) (x y : A) : (B.mkEq x y).den is = (x.den is == y.den is) := by
  unfold B.mkEq
  cases h : (x.lit && y.lit)
  · simp only [cond_false]
    cases h2 : x.beq y
    · rfl
    · rw [A.beq_eq h2]; simp [B.den]
  · simp only [cond_true, B.den]
    simp only [Bool.and_eq_true] at h
    rw [A.den_lit h.1 [] is, A.den_lit h.2 [] is]
theorem B.den_mkLt (is : List Int) (x y : A) : (B.mkLt x y).den is = decide (x.den is < y.den is) := by
  unfold B.mkLt
  cases h : (x.lit && y.lit)
  · simp only [cond_false]
    cases h2 : x.beq y
    · rfl
    · rw [A.beq_eq h2]; simp [B.den]
  · simp only [cond_true, B.den]
    simp only [Bool.and_eq_true] at h
    rw [A.den_lit h.1 [] is, A.den_lit h.2 [] is]
theorem B.den_mkIs (is : List Int) (b : B) (w : Bool) : (b.mkIs w).den is = (b.den is == w) := by
  unfold B.mkIs
  cases w <;> simp [B.den_mkNot]
theorem den_eqB (is : List Int) (x y : B) : (eqB x y).den is = (x.den is == y.den is) := by
  unfold eqB
  split <;> simp [B.den, B.den_mkNot]
  cases B.den is x <;> cases B.den is y <;> rfl

/-- Facts that hold. -/
def PcOk (is : List Int) (pc : List (B × Bool)) : Prop := ∀ p, p ∈ pc → p.1.den is = p.2
theorem PcOk.find {is : List Int} : ∀ {pc : List (B × Bool)} {c : B} {b : Bool}, PcOk is pc → pcFind pc c = some b → c.den is = b
  | [], _, _, _, h => by cases h
  | (c', b') :: l, c, b, hp, h => by
    simp only [pcFind] at h
    cases hc : c'.beq c
    · rw [hc] at h; exact PcOk.find (fun p hm => hp p (List.mem_cons_of_mem _ hm)) h
    · rw [hc] at h; cases h
      rw [← B.beq_eq hc]; exact hp _ List.mem_cons_self
theorem PcOk.append {is : List Int} {a b : List (B × Bool)} (ha : PcOk is a) (hb : PcOk is b) : PcOk is (a ++ b) := fun p hm => (List.mem_append.1 hm).elim (ha p) (hb p)
theorem B.facts_ok (is : List Int) : ∀ (c : B) (b : Bool), c.den is = b → PcOk is (c.facts b)
  | .c x, b, h => by
    simp only [B.facts]; intro p hm; simp at hm; subst hm; exact h
  | .cmp o x y, b, h => by
    simp only [B.facts]; intro p hm; simp at hm; subst hm; exact h
  | .not x, b, h => by
    simp only [B.facts]
    intro p hm
    rcases List.mem_cons.1 hm with rfl | hm
    · exact h
    · exact B.facts_ok is x (!b) (by simp only [B.den] at h; rw [← h]; simp) p hm
  | .and x y, true, h => by
    simp only [B.den, Bool.and_eq_true] at h
    simp only [B.facts]
    intro p hm
    rcases List.mem_cons.1 hm with rfl | hm
    · simp [B.den, h.1, h.2]
    · exact PcOk.append (B.facts_ok is x true h.1) (B.facts_ok is y true h.2) p hm
  | .and x y, false, h => by
    simp only [B.facts]; intro p hm; simp at hm; subst hm; exact h
  | .or x y, false, h => by
    simp only [B.den, Bool.or_eq_false_iff] at h
    simp only [B.facts]
    intro p hm
    rcases List.mem_cons.1 hm with rfl | hm
    · simp [B.den, h.1, h.2]
    · exact PcOk.append (B.facts_ok is x false h.1) (B.facts_ok is y false h.2) p hm
  | .or x y, true, h => by
    simp only [B.facts]; intro p hm; simp at hm; subst hm; exact h
theorem B.known_ok {is : List Int} {pc : List (B × Bool)} (hp : PcOk is pc) : ∀ {c : B} {b : Bool}, c.known pc = some b → c.den is = b
  | .c x, b, h => by simp only [B.known] at h; cases h; rfl
  | .cmp o x y, b, h => by simp only [B.known] at h; exact hp.find h
  | .not x, b, h => by
    simp only [B.known] at h
    split at h
    · rename_i d hd
      cases h
      simp only [B.den, B.known_ok hp hd]
    · cases h
  | .and x y, b, h => by
    simp only [B.known] at h
    split at h
    · rename_i d hd
      cases h; exact hp.find hd
    · split at h <;> cases h
      · rename_i hx; simp only [B.den, B.known_ok hp hx]; rfl
      · rename_i _ hy _; simp only [B.den, B.known_ok hp hy]; simp
      · rename_i hx hy; simp only [B.den, B.known_ok hp hx, B.known_ok hp hy]; rfl
  | .or x y, b, h => by
    simp only [B.known] at h
    split at h
    · rename_i d hd
      cases h; exact hp.find hd
    · split at h <;> cases h
      · rename_i hx; simp only [B.den, B.known_ok hp hx]; rfl
      · rename_i _ hy _; simp only [B.den, B.known_ok hp hy]; simp
      · rename_i hx hy; simp only [B.den, B.known_ok hp hx, B.known_ok hp hy]; rfl

end Go.SX
