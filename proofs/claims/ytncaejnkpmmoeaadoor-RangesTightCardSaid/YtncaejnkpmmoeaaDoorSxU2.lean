/- The symbolic executor SX, its soundness, part 1: rows, atoms, truths, values under more letters. -/
import Derived.Test.YtncaejnkpmmoeaaDoorSxD
import Derived.WalkKit
import Derived.Laws.StructEq
import Derived.Laws.BitsLemmas
set_option linter.unusedVariables false
set_option linter.unusedSimpArgs false
namespace Go.SX
open Go Go.RowKit

/-! ### Rows by number -/
theorem Tb.get_e {α : Type} (i : Nat) : (Tb.e : Tb α).get i = none := by cases i <;> rfl
theorem Tb.get_n0 {α : Type} (l r : Tb α) (v : Option α) : (Tb.n l v r).get 0 = v := rfl
theorem Tb.get_ns {α : Type} (l r : Tb α) (v : Option α) (i : Nat) : (Tb.n l v r).get (i + 1) = if i % 2 = 0 then l.get (i / 2) else r.get (i / 2) := by
  show (bif Nat.beq (Nat.mod i 2) 0 then l.get (Nat.div i 2) else r.get (Nat.div i 2)) = _
  by_cases h : i % 2 = 0
  · rw [if_pos h, show Nat.beq (Nat.mod i 2) 0 = true from Nat.beq_eq.mpr h]; rfl
  · rw [if_neg h, show Nat.beq (Nat.mod i 2) 0 = false from by
      cases hb : Nat.beq (Nat.mod i 2) 0
      · rfl
      · exact absurd (Nat.eq_of_beq_eq_true hb) h]; rfl
theorem Tb.set_e0 {α : Type} (f : Nat) (x : α) : Tb.set (f + 1) .e 0 x = .n .e (some x) .e := rfl
theorem Tb.set_es {α : Type} (f i : Nat) (x : α) : Tb.set (f + 1) .e (i + 1) x = if i % 2 = 0 then .n (Tb.set f .e (i / 2) x) none .e else .n .e none (Tb.set f .e (i / 2) x) := by
  show (bif Nat.beq (Nat.mod i 2) 0 then Tb.n (Tb.set f .e (Nat.div i 2) x) none .e else .n .e none (Tb.set f .e (Nat.div i 2) x)) = _
  by_cases h : i % 2 = 0
  · rw [if_pos h, show Nat.beq (Nat.mod i 2) 0 = true from Nat.beq_eq.mpr h]; rfl
  · rw [if_neg h, show Nat.beq (Nat.mod i 2) 0 = false from by
      cases hb : Nat.beq (Nat.mod i 2) 0
      · rfl
      · exact absurd (Nat.eq_of_beq_eq_true hb) h]; rfl
theorem Tb.set_n0 {α : Type} (f : Nat) (l r : Tb α) (v : Option α) (x : α) : Tb.set (f + 1) (.n l v r) 0 x = .n l (some x) r := rfl
theorem Tb.set_ns {α : Type} (f i : Nat) (l r : Tb α) (v : Option α) (x : α) : Tb.set (f + 1) (.n l v r) (i + 1) x = if i % 2 = 0 then .n (Tb.set f l (i / 2) x) v r else .n l v (Tb.set f r (i / 2) x) := by
  show (bif Nat.beq (Nat.mod i 2) 0 then Tb.n (Tb.set f l (Nat.div i 2) x) v r else .n l v (Tb.set f r (Nat.div i 2) x)) = _
  by_cases h : i % 2 = 0
  · rw [if_pos h, show Nat.beq (Nat.mod i 2) 0 = true from Nat.beq_eq.mpr h]; rfl
  · rw [if_neg h, show Nat.beq (Nat.mod i 2) 0 = false from by
      cases hb : Nat.beq (Nat.mod i 2) 0
      · rfl
      · exact absurd (Nat.eq_of_beq_eq_true hb) h]; rfl

theorem Tb.get_set {α : Type} : ∀ (f : Nat) (t : Tb α) (d : Nat) (x : α) (i : Nat) (v : α), (Tb.set f t d x).get i = some v → (i = d ∧ v = x) ∨ (i ≠ d ∧ t.get i = some v)
  | 0, t, d, x, i, v, h => by rw [show Tb.set 0 t d x = .e from rfl, Tb.get_e] at h; cases h
  | f + 1, .e, 0, x, i, v, h => by
    rw [Tb.set_e0] at h
    cases i with
    | zero => rw [Tb.get_n0] at h; cases h; exact .inl ⟨rfl, rfl⟩
    | succ i => rw [Tb.get_ns] at h; split at h <;> rw [Tb.get_e] at h <;> cases h
  | f + 1, .e, d + 1, x, i, v, h => by
    rw [Tb.set_es] at h
    split at h
    · rename_i hd
      cases i with
      | zero => rw [Tb.get_n0] at h; cases h
      | succ i =>
        rw [Tb.get_ns] at h
        split at h
        · rename_i hi
          rcases Tb.get_set f .e (d / 2) x (i / 2) v h with ⟨h1, h2⟩ | ⟨h1, h2⟩
          · exact .inl ⟨by omega, h2⟩
          · rw [Tb.get_e] at h2; cases h2
        · rw [Tb.get_e] at h; cases h
    · rename_i hd
      cases i with
      | zero => rw [Tb.get_n0] at h; cases h
      | succ i =>
        rw [Tb.get_ns] at h
        split at h
        · rw [Tb.get_e] at h; cases h
        · rename_i hi
          rcases Tb.get_set f .e (d / 2) x (i / 2) v h with ⟨h1, h2⟩ | ⟨h1, h2⟩
          · exact .inl ⟨by omega, h2⟩
          · rw [Tb.get_e] at h2; cases h2
  | f + 1, .n l u r, 0, x, i, v, h => by
    rw [Tb.set_n0] at h
    cases i with
    | zero => rw [Tb.get_n0] at h; cases h; exact .inl ⟨rfl, rfl⟩
    | succ i => exact .inr ⟨by omega, by rw [Tb.get_ns] at h ⊢; exact h⟩
  | f + 1, .n l u r, d + 1, x, i, v, h => by
    rw [Tb.set_ns] at h
    split at h
    · rename_i hd
      cases i with
      | zero => exact .inr ⟨by omega, by rw [Tb.get_n0] at h ⊢; exact h⟩
      | succ i =>
        rw [Tb.get_ns] at h
        split at h
        · rename_i hi
          rcases Tb.get_set f l (d / 2) x (i / 2) v h with ⟨h1, h2⟩ | ⟨h1, h2⟩
          · exact .inl ⟨by omega, h2⟩
          · exact .inr ⟨by omega, by rw [Tb.get_ns, if_pos hi]; exact h2⟩
        · rename_i hi
          exact .inr ⟨by omega, by rw [Tb.get_ns, if_neg hi]; exact h⟩
    · rename_i hd
      cases i with
      | zero => exact .inr ⟨by omega, by rw [Tb.get_n0] at h ⊢; exact h⟩
      | succ i =>
        rw [Tb.get_ns] at h
        split at h
        · rename_i hi
          exact .inr ⟨by omega, by rw [Tb.get_ns, if_pos hi]; exact h⟩
        · rename_i hi
          rcases Tb.get_set f r (d / 2) x (i / 2) v h with ⟨h1, h2⟩ | ⟨h1, h2⟩
          · exact .inl ⟨by omega, h2⟩
          · exact .inr ⟨by omega, by rw [Tb.get_ns, if_neg hi]; exact h2⟩
theorem Tb.get_put {α : Type} {t : Tb α} {d : Nat} {x : α} {i : Nat} {v : α} (h : (t.put d x).get i = some v) : (i = d ∧ v = x) ∨ (i ≠ d ∧ t.get i = some v) := Tb.get_set 40 t d x i v h
theorem get_ofL {α : Type} : ∀ (l : List α) (m : Nat) (t : Tb α) (i : Nat) (v : α), (Tb.ofL l m t).get i = some v → (m ≤ i ∧ l[i - m]? = some v) ∨ t.get i = some v
  | [], _, _, _, _, h => .inr h
  | x :: l, m, t, i, v, h => by
    rcases get_ofL l (m + 1) (t.put m x) i v h with ⟨h1, h2⟩ | h1
    · refine .inl ⟨by omega, ?_⟩
      rw [show i - m = (i - (m + 1)) + 1 from by omega, List.getElem?_cons_succ]; exact h2
    · rcases Tb.get_put h1 with ⟨rfl, rfl⟩ | ⟨_, h3⟩
      · exact .inl ⟨Nat.le_refl _, by simp⟩
      · exact .inr h3

/-! ### Lists -/
theorem nth_eq {α : Type} : ∀ (l : List α) (n : Nat), nth l n = l[n]?
  | [], _ => by cases ‹Nat› <;> rfl
  | x :: l, 0 => rfl
  | x :: l, n + 1 => by show nth l n = _; rw [nth_eq l n]; rfl
theorem dropN_eq {α : Type} : ∀ (n : Nat) (l : List α), dropN n l = l.drop n
  | 0, l => rfl
  | n + 1, [] => rfl
  | n + 1, x :: l => by show dropN n l = _; rw [dropN_eq n l]; rfl
theorem takeN_eq {α : Type} : ∀ (n : Nat) (l r : List α), takeN n l = some r → n ≤ l.length ∧ r = l.take n
  | 0, l, r, h => by cases h; exact ⟨Nat.zero_le _, rfl⟩
  | n + 1, [], r, h => by cases h
  | n + 1, x :: l, r, h => by
    simp only [takeN] at h
    split at h
    · rename_i s hs
      cases h
      obtain ⟨h1, rfl⟩ := takeN_eq n l s hs
      exact ⟨by simp; omega, rfl⟩
    · cases h
theorem setN_eq {α : Type} : ∀ (l : List α) (n : Nat) (y : α), setN l n y = l.set n y
  | [], _, _ => rfl
  | x :: l, 0, y => rfl
  | x :: l, n + 1, y => by show x :: setN l n y = _; rw [setN_eq l n y]; rfl
/-- What 'putN' gives. -/
theorem putN_spec {α : Type} : ∀ (l : List α) (n : Nat) (ys r : List α), putN l n ys = some r → r.length = l.length ∧ n + ys.length ≤ l.length ∧ ∀ j, r[j]? = if n ≤ j ∧ j < n + ys.length then ys[j - n]? else l[j]?
  | l, 0, [], r, h => by
    simp only [putN] at h; cases h
    exact ⟨rfl, by simp, fun j => by rw [if_neg (by simp)]⟩
  | [], 0, y :: ys, r, h => by simp [putN] at h
  | [], n + 1, ys, r, h => by simp [putN] at h
  | x :: l, 0, y :: ys, r, h => by
    simp only [putN] at h
    split at h
    · rename_i s hs
      cases h
      obtain ⟨h1, h2, h3⟩ := putN_spec l 0 ys s hs
      refine ⟨by simp [h1], by simp at h2 ⊢; omega, fun j => ?_⟩
      cases j with
      | zero => simp
      | succ j =>
        simp only [List.getElem?_cons_succ, h3 j, List.length_cons, Nat.zero_le, true_and, Nat.zero_add, Nat.sub_zero]
        by_cases hj : j < ys.length
        · rw [if_pos hj, if_pos (by omega)]
        · rw [if_neg hj, if_neg (by omega)]
    · cases h
  | x :: l, n + 1, ys, r, h => by
    simp only [putN] at h
    split at h
    · rename_i s hs
      cases h
      obtain ⟨h1, h2, h3⟩ := putN_spec l n ys s hs
      refine ⟨by simp [h1], by simp; omega, fun j => ?_⟩
      cases j with
      | zero => rw [if_neg (by omega)]; rfl
      | succ j =>
        simp only [List.getElem?_cons_succ, h3 j]
        by_cases hj : n ≤ j ∧ j < n + ys.length
        · rw [if_pos hj, if_pos (by omega)]; congr 1; omega
        · rw [if_neg hj, if_neg (by omega)]
    · cases h

/-! ### Booleans -/
theorem beq_nat {a b : Nat} (h : Nat.beq a b = true) : a = b := Nat.eq_of_beq_eq_true h
theorem blt_nat {a b : Nat} (h : Nat.blt a b = true) : a < b := by
  unfold Nat.blt at h; exact Nat.le_of_ble_eq_true h
theorem ble_nat {a b : Nat} (h : Nat.ble a b = true) : a ≤ b := Nat.le_of_ble_eq_true h
theorem A.beq_eq : ∀ {a b : A}, a.beq b = true → a = b
  | .v i, .v j, h => by rw [beq_nat h]
  | .n a, .n b, h => by simp [A.beq] at h; rw [h]
  | .v _, .n _, h => by cases h
  | .n _, .v _, h => by cases h
theorem B.beq_eq : ∀ {a b : B}, a.beq b = true → a = b
  | .c a, .c b, h => by simp [B.beq] at h; rw [h]
  | .cmp o x y, .cmp o' x' y', h => by
    simp only [B.beq, Bool.and_eq_true] at h
    obtain ⟨⟨h1, h2⟩, h3⟩ := h
    rw [A.beq_eq h2, A.beq_eq h3]
    cases o <;> cases o' <;> first | rfl | cases h1
  | .not a, .not b, h => by rw [B.beq_eq (a := a) (b := b) h]
  | .and p q, .and r s, h => by
    simp only [B.beq, Bool.and_eq_true] at h
    rw [B.beq_eq h.1, B.beq_eq h.2]
  | .or p q, .or r s, h => by
    simp only [B.beq, Bool.and_eq_true] at h
    rw [B.beq_eq h.1, B.beq_eq h.2]
  | .c _, .cmp _ _ _, h | .c _, .not _, h | .c _, .and _ _, h | .c _, .or _ _, h => by cases h
  | .cmp _ _ _, .c _, h | .cmp _ _ _, .not _, h | .cmp _ _ _, .and _ _, h | .cmp _ _ _, .or _ _, h => by cases h
  | .not _, .c _, h | .not _, .cmp _ _ _, h | .not _, .and _ _, h | .not _, .or _ _, h => by cases h
  | .and _ _, .c _, h | .and _ _, .cmp _ _ _, h | .and _ _, .not _, h | .and _ _, .or _ _, h => by cases h
  | .or _ _, .c _, h | .or _ _, .cmp _ _ _, h | .or _ _, .not _, h | .or _ _, .and _ _, h => by cases h
theorem kindEq_eq {a b : IntKind} (h : kindEq a b = true) : a = b := of_decide_eq_true h

theorem B.den_mkNot (is : List Int) (b : B) : b.mkNot.den is = !b.den is := by
  cases b <;> simp [B.mkNot, B.den]
theorem A.den_lit {a : A} (h : a.lit = true) (is js : List Int) : a.den is = a.den js := by
  cases a with
  | v i => cases h
  | n c => rfl
theorem B.den_lit : ∀ {b : B}, b.lit = true → ∀ (is js : List Int), b.den is = b.den js
  | .c _, _, _, _ => rfl
  | .cmp o x y, h, is, js => by
    simp only [B.lit, Bool.and_eq_true] at h
    simp only [B.den, A.den_lit h.1 is js, A.den_lit h.2 is js]
  | .not b, h, is, js => by simp only [B.den, B.den_lit (b := b) h is js]
  | .and x y, h, is, js => by
    simp only [B.lit, Bool.and_eq_true] at h
    simp only [B.den, B.den_lit h.1 is js, B.den_lit h.2 is js]
  | .or x y, h, is, js => by
    simp only [B.lit, Bool.and_eq_true] at h
    simp only [B.den, B.den_lit h.1 is js, B.den_lit h.2 is js]
theorem B.den_mkAnd (is : List Int) (x y : B) : (x.mkAnd y).den is = (x.den is && y.den is) := by
  unfold B.mkAnd
  split <;> simp [B.den]
  cases x.lit <;> simp [B.den]
theorem B.den_mkOr (is : List Int) (x y : B) : (x.mkOr y).den is = (x.den is || y.den is) := by
  unfold B.mkOr
  split <;> simp [B.den]
theorem B.den_mkEq (is : List Int) (x y : A) : (B.mkEq x y).den is = (x.den is == y.den is) := by
  unfold B.mkEq
  cases h : (x.lit && y.lit)
  · simp only [cond_false]
    cases h2 : x.beq y
    · rfl
    · rw [A.beq_eq h2]; simp [B.den]
  · simp only [cond_true, B.den]
    simp only [Bool.and_eq_true] at h
    rw [A.den_lit h.1 [] is, A.den_lit h.2 [] is]
theorem B.den_mkLt (is : List Int) (x y : A) : (B.mkLt x y).den is = decide (x.den is < y.den is) := by
  unfold B.mkLt
  cases h : (x.lit && y.lit)
  · simp only [cond_false]
    cases h2 : x.beq y
    · rfl
    · rw [A.beq_eq h2]; simp [B.den]
  · simp only [cond_true, B.den]
    simp only [Bool.and_eq_true] at h
    rw [A.den_lit h.1 [] is, A.den_lit h.2 [] is]
theorem B.den_mkIs (is : List Int) (b : B) (w : Bool) : (b.mkIs w).den is = (b.den is == w) := by
  unfold B.mkIs
  cases w <;> simp [B.den_mkNot]
theorem den_eqB (is : List Int) (x y : B) : (eqB x y).den is = (x.den is == y.den is) := by
  unfold eqB
  split <;> simp [B.den, B.den_mkNot]
  cases B.den is x <;> cases B.den is y <;> rfl

/-- Facts that hold. -/
def PcOk (is : List Int) (pc : List (B × Bool)) : Prop := ∀ p, p ∈ pc → p.1.den is = p.2
theorem PcOk.find {is : List Int} : ∀ {pc : List (B × Bool)} {c : B} {b : Bool}, PcOk is pc → pcFind pc c = some b → c.den is = b
  | [], _, _, _, h => by cases h
  | (c', b') :: l, c, b, hp, h => by
    simp only [pcFind] at h
    cases hc : c'.beq c
    · rw [hc] at h; exact PcOk.find (fun p hm => hp p (List.mem_cons_of_mem _ hm)) h
    · rw [hc] at h; cases h
      rw [← B.beq_eq hc]; exact hp _ List.mem_cons_self
theorem PcOk.append {is : List Int} {a b : List (B × Bool)} (ha : PcOk is a) (hb : PcOk is b) : PcOk is (a ++ b) := fun p hm => (List.mem_append.1 hm).elim (ha p) (hb p)
theorem B.facts_ok (is : List Int) : ∀ (c : B) (b : Bool), c.den is = b → PcOk is (c.facts b)
  | .c x, b, h => by
    simp only [B.facts]; intro p hm; simp at hm; subst hm; exact h
  | .cmp o x y, b, h => by
    simp only [B.facts]; intro p hm; simp at hm; subst hm; exact h
  | .not x, b, h => by
    simp only [B.facts]
    intro p hm
    rcases List.mem_cons.1 hm with rfl | hm
    · exact h
    · exact B.facts_ok is x (!b) (by simp only [B.den] at h; rw [← h]; simp) p hm
  | .and x y, true, h => by
    simp only [B.den, Bool.and_eq_true] at h
    simp only [B.facts]
    intro p hm
    rcases List.mem_cons.1 hm with rfl | hm
    · simp [B.den, h.1, h.2]
    · exact PcOk.append (B.facts_ok is x true h.1) (B.facts_ok is y true h.2) p hm
  | .and x y, false, h => by
    simp only [B.facts]; intro p hm; simp at hm; subst hm; exact h
  | .or x y, false, h => by
    simp only [B.den, Bool.or_eq_false_iff] at h
    simp only [B.facts]
    intro p hm
    rcases List.mem_cons.1 hm with rfl | hm
    · simp [B.den, h.1, h.2]
    · exact PcOk.append (B.facts_ok is x false h.1) (B.facts_ok is y false h.2) p hm
  | .or x y, true, h => by
    simp only [B.facts]; intro p hm; simp at hm; subst hm; exact h
theorem B.known_ok {is : List Int} {pc : List (B × Bool)} (hp : PcOk is pc) : ∀ {c : B} {b : Bool}, c.known pc = some b → c.den is = b
  | .c x, b, h => by simp only [B.known] at h; cases h; rfl
  | .cmp o x y, b, h => by simp only [B.known] at h; exact hp.find h
  | .not x, b, h => by
    simp only [B.known] at h
    split at h
    · rename_i d hd
      cases h
      simp only [B.den, B.known_ok hp hd]
    · cases h
  | .and x y, b, h => by
    simp only [B.known] at h
    split at h
    · rename_i d hd
      cases h; exact hp.find hd
    · split at h <;> cases h
      · rename_i hx; simp only [B.den, B.known_ok hp hx]; rfl
      · rename_i _ hy _; simp only [B.den, B.known_ok hp hy]; simp
      · rename_i hx hy; simp only [B.den, B.known_ok hp hx, B.known_ok hp hy]; rfl
  | .or x y, b, h => by
    simp only [B.known] at h
    split at h
    · rename_i d hd
      cases h; exact hp.find hd
    · split at h <;> cases h
      · rename_i hx; simp only [B.den, B.known_ok hp hx]; rfl
      · rename_i _ hy _; simp only [B.den, B.known_ok hp hy]; simp
      · rename_i hx hy; simp only [B.den, B.known_ok hp hx, B.known_ok hp hy]; rfl

end Go.SX
set_option linter.unusedVariables false
set_option linter.unusedSimpArgs false
namespace Go.SX
open Go Go.RowKit

/-! ### More letters -/
def Env.le (ρ ρ' : Env) : Prop := (∃ x, ρ'.is = ρ.is ++ x) ∧ (∃ y, ρ'.bs = ρ.bs ++ y)
theorem Env.le_refl (ρ : Env) : ρ.le ρ := ⟨⟨[], by simp⟩, ⟨[], by simp⟩⟩
theorem Env.le_trans {a b c : Env} (h : a.le b) (k : b.le c) : a.le c := by
  obtain ⟨⟨x, hx⟩, ⟨y, hy⟩⟩ := h
  obtain ⟨⟨x', hx'⟩, ⟨y', hy'⟩⟩ := k
  exact ⟨⟨x ++ x', by rw [hx', hx, List.append_assoc]⟩, ⟨y ++ y', by rw [hy', hy, List.append_assoc]⟩⟩

theorem getD_app {α : Type} {l x : List α} {i : Nat} {d : α} (h : i < l.length) : (l ++ x).getD i d = l.getD i d := by
  simp [List.getD, List.getElem?_append_left h]
theorem A.den_app {a : A} {is x : List Int} (h : a.wf is.length = true) : a.den (is ++ x) = a.den is := by
  cases a with
  | v i => simp only [A.den]; have := blt_nat h; rw [getD_app this]
  | n c => rfl
theorem B.den_app {is x : List Int} : ∀ {b : B}, b.wf is.length = true → b.den (is ++ x) = b.den is
  | .c _, _ => rfl
  | .cmp o a b, h => by
    simp only [B.wf, Bool.and_eq_true] at h
    simp only [B.den, A.den_app h.1, A.den_app h.2]
  | .not b, h => by simp only [B.den, B.den_app (b := b) h]
  | .and a b, h => by
    simp only [B.wf, Bool.and_eq_true] at h
    simp only [B.den, B.den_app h.1, B.den_app h.2]
  | .or a b, h => by
    simp only [B.wf, Bool.and_eq_true] at h
    simp only [B.den, B.den_app h.1, B.den_app h.2]
theorem Env.b_app {ρ ρ' : Env} (h : ρ.le ρ') {i : Nat} (hi : i < ρ.bs.length) : ρ'.b i = ρ.b i := by
  obtain ⟨_, y, hy⟩ := h
  simp only [Env.b, hy, getD_app hi]
theorem Env.cap_app {ρ ρ' : Env} (h : ρ.le ρ') {i : Nat} (hi : i < ρ.bs.length) : ρ'.cap i = ρ.cap i := by
  obtain ⟨_, y, hy⟩ := h
  simp only [Env.cap, hy, getD_app hi]
theorem Env.A_app {ρ ρ' : Env} (h : ρ.le ρ') {a : A} (ha : a.wf ρ.is.length = true) : a.den ρ'.is = a.den ρ.is := by
  obtain ⟨⟨x, hx⟩, _⟩ := h
  rw [hx, A.den_app ha]
theorem Env.B_app {ρ ρ' : Env} (h : ρ.le ρ') {b : B} (hb : b.wf ρ.is.length = true) : b.den ρ'.is = b.den ρ.is := by
  obtain ⟨⟨x, hx⟩, _⟩ := h
  rw [hx, B.den_app hb]

mutual
theorem SV.den_app {ρ ρ' : Env} (h : ρ.le ρ') : ∀ {v : SV}, v.wf ρ.is.length ρ.bs.length = true → v.den ρ' = v.den ρ
  | .int k a, hv => by simp only [SV.den]; rw [Env.A_app h (by simpa [SV.wf] using hv)]
  | .bool b, hv => by simp only [SV.den]; rw [Env.B_app h (by simpa [SV.wf] using hv)]
  | .str _, _ => rfl
  | .ptr b off, hv => by simp only [SV.den]; rw [Env.b_app h (blt_nat (by simpa [SV.wf] using hv))]
  | .gptr _ _, _ => rfl
  | .nilp, _ => rfl
  | .slice b _ _ _, hv => by simp only [SV.den]; rw [Env.b_app h (blt_nat (by simpa [SV.wf] using hv))]
  | .own b _, hv => by
    have hb := blt_nat (by simpa [SV.wf] using hv)
    simp only [SV.den]; rw [Env.b_app h hb, Env.cap_app h hb]
  | .nilsl, _ => rfl
  | .map b, hv => by simp only [SV.den]; rw [Env.b_app h (blt_nat (by simpa [SV.wf] using hv))]
  | .nilmap, _ => rfl
  | .fn f first cap, hv => by
    simp only [SV.wf, Bool.and_eq_true] at hv
    simp only [SV.den]; rw [SV.dens_app h hv.1, SV.dens_app h hv.2]
  | .nilfn, _ => rfl
  | .agg l, hv => by
    simp only [SV.wf, Bool.and_eq_true] at hv
    simp only [SV.den]; rw [SV.dens_app h hv.1]
  | .tup l, hv => by
    simp only [SV.wf] at hv
    simp only [SV.den]; rw [SV.dens_app h hv]
  | .iface t v, hv => by
    simp only [SV.wf] at hv
    simp only [SV.den]; rw [SV.den_app h hv]
  | .niliface, _ => rfl
  | .gd c w v, hv => by
    simp only [SV.wf, Bool.and_eq_true] at hv
    simp only [SV.den]; rw [Env.B_app h hv.1, SV.den_app h hv.2]
  | .bot, _ => rfl
theorem SV.dens_app {ρ ρ' : Env} (h : ρ.le ρ') : ∀ {l : List SV}, SV.wfs ρ.is.length ρ.bs.length l = true → SV.dens ρ' l = SV.dens ρ l
  | [], _ => rfl
  | v :: l, hv => by
    simp only [SV.wfs, Bool.and_eq_true] at hv
    simp only [SV.dens]; rw [SV.den_app h hv.1, SV.dens_app h hv.2]
end

theorem A.wf_mono {a : A} {n m : Nat} (h : n ≤ m) (ha : a.wf n = true) : a.wf m = true := by
  cases a with
  | v i => have := blt_nat ha; exact (Nat.ble_eq.mpr (by omega : i + 1 ≤ m))
  | n c => rfl
theorem B.wf_mono {n m : Nat} (h : n ≤ m) : ∀ {b : B}, b.wf n = true → b.wf m = true
  | .c _, _ => rfl
  | .cmp _ x y, hb => by
    simp only [B.wf, Bool.and_eq_true] at hb ⊢
    exact ⟨A.wf_mono h hb.1, A.wf_mono h hb.2⟩
  | .not b, hb => by simp only [B.wf] at hb ⊢; exact B.wf_mono h hb
  | .and x y, hb | .or x y, hb => by
    simp only [B.wf, Bool.and_eq_true] at hb ⊢
    exact ⟨B.wf_mono h hb.1, B.wf_mono h hb.2⟩
theorem blt_mono {a n m : Nat} (h : n ≤ m) (ha : Nat.blt a n = true) : Nat.blt a m = true := by
  have := blt_nat ha; exact (Nat.ble_eq.mpr (by omega : a + 1 ≤ m))
mutual
theorem SV.wf_mono {n m n' m' : Nat} (h : n ≤ m) (h' : n' ≤ m') : ∀ {v : SV}, v.wf n n' = true → v.wf m m' = true
  | .int k a, hv => by simp only [SV.wf] at hv ⊢; exact A.wf_mono h hv
  | .bool b, hv => by simp only [SV.wf] at hv ⊢; exact B.wf_mono h hv
  | .str _, _ | .gptr _ _, _ | .nilp, _ | .nilsl, _ | .nilmap, _ | .nilfn, _ | .niliface, _ => rfl
  | .ptr b off, hv => by simp only [SV.wf] at hv ⊢; exact blt_mono h' hv
  | .slice b _ _ _, hv => by simp only [SV.wf] at hv ⊢; exact blt_mono h' hv
  | .own b _, hv => by simp only [SV.wf] at hv ⊢; exact blt_mono h' hv
  | .map b, hv => by simp only [SV.wf] at hv ⊢; exact blt_mono h' hv
  | .fn f first cap, hv => by
    simp only [SV.wf, Bool.and_eq_true] at hv ⊢
    exact ⟨SV.wfs_mono h h' hv.1, SV.wfs_mono h h' hv.2⟩
  | .agg l, hv => by
    simp only [SV.wf, Bool.and_eq_true] at hv ⊢
    exact ⟨SV.wfs_mono h h' hv.1, hv.2⟩
  | .tup l, hv => by simp only [SV.wf] at hv ⊢; exact SV.wfs_mono h h' hv
  | .iface t v, hv => by simp only [SV.wf] at hv ⊢; exact SV.wf_mono h h' hv
  | .gd c w v, hv => by
    simp only [SV.wf, Bool.and_eq_true] at hv ⊢
    exact ⟨B.wf_mono h hv.1, SV.wf_mono h h' hv.2⟩
  | .bot, hv => by cases hv
theorem SV.wfs_mono {n m n' m' : Nat} (h : n ≤ m) (h' : n' ≤ m') : ∀ {l : List SV}, SV.wfs n n' l = true → SV.wfs m m' l = true
  | [], _ => rfl
  | v :: l, hv => by
    simp only [SV.wfs, Bool.and_eq_true] at hv ⊢
    exact ⟨SV.wf_mono h h' hv.1, SV.wfs_mono h h' hv.2⟩
end

/-! ### Lists of values -/
theorem dens_length (ρ : Env) : ∀ l : List SV, (SV.dens ρ l).length = l.length
  | [] => rfl
  | v :: l => by simp [SV.dens, dens_length ρ l]
theorem dens_getElem? (ρ : Env) : ∀ (l : List SV) (i : Nat), (SV.dens ρ l)[i]? = (l[i]?).map (SV.den ρ)
  | [], i => by simp [SV.dens]
  | v :: l, 0 => by simp [SV.dens]
  | v :: l, i + 1 => by simp [SV.dens, dens_getElem? ρ l i]
theorem dens_append (ρ : Env) : ∀ (l m : List SV), SV.dens ρ (l ++ m) = SV.dens ρ l ++ SV.dens ρ m
  | [], m => rfl
  | v :: l, m => by simp [SV.dens, dens_append ρ l m]
theorem dens_drop (ρ : Env) : ∀ (n : Nat) (l : List SV), SV.dens ρ (l.drop n) = (SV.dens ρ l).drop n
  | 0, l => rfl
  | n + 1, [] => rfl
  | n + 1, v :: l => by simp [SV.dens, dens_drop ρ n l]
theorem dens_take (ρ : Env) : ∀ (n : Nat) (l : List SV), SV.dens ρ (l.take n) = (SV.dens ρ l).take n
  | 0, l => rfl
  | n + 1, [] => rfl
  | n + 1, v :: l => by simp [SV.dens, dens_take ρ n l]
theorem wfs_mem {ni nb : Nat} : ∀ {l : List SV}, SV.wfs ni nb l = true → ∀ v ∈ l, v.wf ni nb = true
  | [], _, _, h => by cases h
  | u :: l, hl, v, h => by
    simp only [SV.wfs, Bool.and_eq_true] at hl
    rcases List.mem_cons.1 h with rfl | h
    · exact hl.1
    · exact wfs_mem hl.2 v h
theorem wfs_of_mem {ni nb : Nat} : ∀ {l : List SV}, (∀ v ∈ l, v.wf ni nb = true) → SV.wfs ni nb l = true
  | [], _ => rfl
  | u :: l, h => by
    simp only [SV.wfs, Bool.and_eq_true]
    exact ⟨h u List.mem_cons_self, wfs_of_mem fun v hv => h v (List.mem_cons_of_mem _ hv)⟩
theorem allCell_mem : ∀ {l : List SV}, allCell l = true → ∀ v ∈ l, v.cell = true
  | [], _, _, h => by cases h
  | u :: l, hl, v, h => by
    simp only [allCell, Bool.and_eq_true] at hl
    rcases List.mem_cons.1 h with rfl | h
    · exact hl.1
    · exact allCell_mem hl.2 v h
theorem allCell_of_mem : ∀ {l : List SV}, (∀ v ∈ l, v.cell = true) → allCell l = true
  | [], _ => rfl
  | u :: l, h => by
    simp only [allCell, Bool.and_eq_true]
    exact ⟨h u List.mem_cons_self, allCell_of_mem fun v hv => h v (List.mem_cons_of_mem _ hv)⟩
theorem SV.oneCell_of_cell {v : SV} (h : v.cell = true) (ρ : Env) : (v.den ρ).oneCell' = true := by
  cases v <;> first | rfl | cases h
theorem SV.cells_of_cell {v : SV} (h : v.cell = true) (ρ : Env) : (v.den ρ).cells = #[v.den ρ] := by
  cases v <;> first | rfl | cases h
/-- The cells of a value. -/
theorem cellsOf_spec {v : SV} {cs : List SV} (h : v.cellsOf = some cs) (ρ : Env) : (v.den ρ).cells = (SV.dens ρ cs).toArray := by
  cases v <;> simp only [SV.cellsOf] at h <;> cases h <;> rfl
theorem cellsOf_wf {v : SV} {cs : List SV} (h : v.cellsOf = some cs) {ni nb : Nat} (hv : v.wf ni nb = true) : SV.wfs ni nb cs = true ∧ allCell cs = true := by
  cases v <;> simp only [SV.cellsOf] at h <;> cases h <;> first
    | (simp only [SV.wf, Bool.and_eq_true] at hv; exact hv)
    | exact ⟨by simp only [SV.wfs, hv, Bool.and_self], rfl⟩
    | exact ⟨by simp only [SV.wfs, Bool.and_true]; exact hv, rfl⟩

/-! ### Frames -/
def TmOk (ρ : Env) (ni nb : Nat) (tm : Tm) (a : Act) : Prop :=
  ∀ i v, tm.get i = some v → i < a.tmps.size ∧ (v = .bot ∨ (v.wf ni nb = true ∧ a.tmps.getD i undef = v.den ρ))
theorem TmOk.app {ρ ρ' : Env} {tm : Tm} {a : Act} (h : TmOk ρ ρ.is.length ρ.bs.length tm a) (hl : ρ.le ρ') : TmOk ρ' ρ'.is.length ρ'.bs.length tm a := by
  intro i v hv
  obtain ⟨h1, h2⟩ := h i v hv
  refine ⟨h1, h2.imp id fun ⟨h3, h4⟩ => ?_⟩
  obtain ⟨⟨x, hx⟩, ⟨y, hy⟩⟩ := id hl
  exact ⟨SV.wf_mono (by rw [hx]; simp) (by rw [hy]; simp) h3, by rw [h4, SV.den_app hl h3]⟩
theorem TmOk.put {ρ : Env} {ni nb : Nat} {tm : Tm} {a : Act} (h : TmOk ρ ni nb tm a) {d : Nat} {u v : SV} (hd : tm.get d = some u) (hv : v = .bot ∨ v.wf ni nb = true) {x : Value} (hx : v = .bot ∨ x = v.den ρ) :
    TmOk ρ ni nb (tm.put d v) (a.put (some d) x) := by
  intro i y hy
  have hsz : d < a.tmps.size := (h d u hd).1
  rcases Tb.get_put hy with ⟨rfl, rfl⟩ | ⟨hne, hg⟩
  · refine ⟨by simpa [Act.put] using hsz, ?_⟩
    rcases hv with rfl | hv
    · exact .inl rfl
    · rcases hx with rfl | hx
      · exact .inl rfl
      · exact .inr ⟨hv, by simp [Act.put, hsz, hx]⟩
  · obtain ⟨h1, h2⟩ := h i y hg
    refine ⟨by simpa [Act.put] using h1, h2.imp id fun ⟨h3, h4⟩ => ⟨h3, ?_⟩⟩
    rw [← h4]
    simp [Act.put, Array.getElem?_setIfInBounds_ne (show d ≠ i from fun e => hne e.symm)]

theorem SV.den_under {ρ : Env} {pc : List (B × Bool)} (hp : PcOk ρ.is pc) (v : SV) : (v.under pc).den ρ = v.den ρ := by
  unfold SV.under
  split
  · rename_i c w u
    split
    · rename_i hk
      have := B.known_ok hp hk
      rw [B.den_mkIs] at this
      simp only [SV.den]
      rw [if_pos (by simpa using this)]
    · rfl
  · rfl
theorem SV.wf_under {ni nb : Nat} {pc : List (B × Bool)} {v : SV} (h : v.wf ni nb = true) : (v.under pc).wf ni nb = true := by
  unfold SV.under
  split
  · rename_i c w u
    split
    · simp only [SV.wf, Bool.and_eq_true] at h; exact h.2
    · exact h
  · exact h

theorem ofVal1_spec {v : Value} {s : SV} (h : ofVal1 v = some s) (ρ : Env) (ni nb : Nat) : s.den ρ = v ∧ s.wf ni nb = true ∧ s.cell = true := by
  unfold ofVal1 at h
  split at h <;> cases h <;> exact ⟨rfl, rfl, rfl⟩
theorem ofVals_spec : ∀ {l : List Value} {r : List SV}, ofVals l = some r → ∀ (ρ : Env) (ni nb : Nat), SV.dens ρ r = l ∧ SV.wfs ni nb r = true ∧ allCell r = true
  | [], r, h, _, _, _ => by simp only [ofVals] at h; cases h; exact ⟨rfl, rfl, rfl⟩
  | v :: l, r, h, ρ, ni, nb => by
    simp only [ofVals] at h
    split at h
    · cases h
    · rename_i s hs
      split at h
      · cases h
      · rename_i t ht
        cases h
        obtain ⟨h1, h2, h3⟩ := ofVal1_spec hs ρ ni nb
        obtain ⟨g1, g2, g3⟩ := ofVals_spec ht ρ ni nb
        exact ⟨by simp [SV.dens, h1, g1], by simp [SV.wfs, h2, g2], by simp [allCell, h3, g3]⟩
theorem ofVal_spec {v : Value} {s : SV} (h : ofVal v = some s) (ρ : Env) (ni nb : Nat) : s.den ρ = v ∧ s.wf ni nb = true := by
  unfold ofVal at h
  split at h
  · split at h
    · rename_i l hl
      cases h
      obtain ⟨h1, h2, h3⟩ := ofVals_spec hl ρ ni nb
      exact ⟨by simp [SV.den, h1], by simp [SV.wf, h2, h3]⟩
    · cases h
  · split at h
    · rename_i l hl
      cases h
      obtain ⟨h1, h2, h3⟩ := ofVals_spec hl ρ ni nb
      exact ⟨by simp [SV.den, h1], by simp [SV.wf, h2]⟩
    · cases h
  · obtain ⟨h1, h2, _⟩ := ofVal1_spec h ρ ni nb
    exact ⟨h1, h2⟩

/-- What is known where operations are reckoned. -/
structure Cx (ρ : Env) (ni nb : Nat) (pc : List (B × Bool)) (tm : Tm) (a : Act) : Prop where
  hni : ρ.is.length = ni
  hnb : ρ.bs.length = nb
  hpc : PcOk ρ.is pc
  htm : TmOk ρ ni nb tm a

theorem Cx.ev {ρ : Env} {ni nb : Nat} {pc : List (B × Bool)} {tm : Tm} {a : Act} (h : Cx ρ ni nb pc tm a) {x : Operand} {v : SV} (hv : evO pc tm x = some v) : a.eval x = v.den ρ ∧ v.wf ni nb = true := by
  cases x with
  | tmp t =>
    simp only [evO] at hv
    split at hv
    · cases hv
    · rename_i u hne hu
      cases hv
      obtain ⟨_, h2⟩ := h.htm t u hu
      rcases h2 with rfl | ⟨h3, h4⟩
      · exact absurd rfl hne
      · exact ⟨by rw [SV.den_under h.hpc]; exact h4, SV.wf_under h3⟩
    · cases hv
  | const c =>
    obtain ⟨h1, h2⟩ := ofVal_spec (by simpa [evO] using hv) ρ ni nb
    exact ⟨h1.symm, h2⟩
  | global g => simp only [evO] at hv; cases hv; exact ⟨rfl, rfl⟩
  | func f => simp only [evO] at hv; cases hv; exact ⟨rfl, rfl⟩
theorem Cx.evs {ρ : Env} {ni nb : Nat} {pc : List (B × Bool)} {tm : Tm} {a : Act} (h : Cx ρ ni nb pc tm a) : ∀ {xs : List Operand} {vs : List SV}, evOs pc tm xs = some vs → xs.map a.eval = SV.dens ρ vs ∧ SV.wfs ni nb vs = true
  | [], vs, hv => by simp only [evOs] at hv; cases hv; exact ⟨rfl, rfl⟩
  | x :: xs, vs, hv => by
    simp only [evOs] at hv
    split at hv
    · cases hv
    · rename_i v hx
      split at hv
      · cases hv
      · rename_i r hr
        cases hv
        obtain ⟨h1, h2⟩ := h.ev hx
        obtain ⟨g1, g2⟩ := Cx.evs h hr
        exact ⟨by simp [SV.dens, h1, g1], by simp [SV.wfs, h2, g2]⟩
theorem Cx.evps {ρ : Env} {ni nb : Nat} {pc : List (B × Bool)} {tm : Tm} {a : Act} (h : Cx ρ ni nb pc tm a) : ∀ {xs : List (Nat × Operand)} {vs : List (Nat × SV)}, evPs pc tm xs = some vs →
    xs.map (fun p => (p.1, a.eval p.2)) = vs.map (fun p => (p.1, p.2.den ρ)) ∧ ∀ p ∈ vs, p.2.wf ni nb = true
  | [], vs, hv => by simp only [evPs] at hv; cases hv; exact ⟨rfl, by simp⟩
  | (i, x) :: xs, vs, hv => by
    simp only [evPs] at hv
    split at hv
    · cases hv
    · rename_i v hx
      split at hv
      · cases hv
      · rename_i r hr
        cases hv
        obtain ⟨h1, h2⟩ := h.ev hx
        obtain ⟨g1, g2⟩ := Cx.evps h hr
        exact ⟨by simp [h1]; exact g1, fun p hp => (List.mem_cons.1 hp).elim (fun e => e ▸ h2) (g2 p)⟩

/-! ### Types -/
def TyOk (P : Program) (ty : Ty) : Prop := ∀ t e, ty.get t = some e → mkTE P t = some e
theorem TyOk.info {P : Program} {ty : Ty} (h : TyOk P ty) {t : Nat} {e : TE} (he : ty.get t = some e) :
    ∃ d i, P.underlying t = some d ∧ P.info? t = some i ∧ mkTD P t d = some e.d ∧ i.size = e.size ∧ i.bytes = e.bytes ∧ (∀ z, e.zero = some z → ∃ v, i.zero = some v ∧ ofVals v.cells.toList = some z ∧ zeroOf e.d v = some z) := by
  have := h t e he
  unfold mkTE at this
  split at this
  · rename_i d i hd hi
    split at this
    · rename_i td htd
      cases this
      refine ⟨d, i, hd, hi, htd, rfl, rfl, fun z hz => ?_⟩
      simp only at hz
      split at hz
      · rename_i v hv
        refine ⟨v, hv, ?_, hz⟩
        unfold zeroOf at hz
        cases ha : td.agg <;> rw [ha] at hz <;> simp only [cond_true, cond_false] at hz
        · split at hz <;> cases hz
          rename_i s hs
          have : v.cells = #[v] := by cases v <;> first | rfl | (simp [ofVal1] at hs)
          rw [this]
          simp [ofVals, hs]
        · split at hz
          · exact hz
          · cases hz
      · cases hz
    · cases this
  · cases this
theorem mkTD_agg {P : Program} {t : TypeId} {d : TypeDesc} {td : TD} (h : mkTD P t d = some td) : (match d with | .struct _ | .array _ _ => true | _ => false) = td.agg := by
  cases d <;> simp only [mkTD] at h <;> first
    | (cases h; rfl)
    | (cases h; done)
    | (split at h <;> cases h <;> rfl)
theorem mkTD_bool {P : Program} {t : TypeId} {d : TypeDesc} (h : mkTD P t d = some .bool) : d = .bool := by
  cases d <;> simp only [mkTD] at h <;> first
    | (cases h; rfl)
    | (cases h; done)
    | (split at h <;> cases h <;> rfl)
theorem mkTD_int {P : Program} {t : TypeId} {d : TypeDesc} {k : IntKind} (h : mkTD P t d = some (.int k)) : d = .int k := by
  cases d <;> simp only [mkTD] at h <;> first
    | (cases h; rfl)
    | (cases h; done)
    | (split at h <;> cases h <;> rfl)
theorem mkTD_str {P : Program} {t : TypeId} {d : TypeDesc} (h : mkTD P t d = some .str) : d = .string := by
  cases d <;> simp only [mkTD] at h <;> first
    | (cases h; rfl)
    | (cases h; done)
    | (split at h <;> cases h <;> rfl)
theorem mkTD_func {P : Program} {t : TypeId} {d : TypeDesc} (h : mkTD P t d = some .func) : ∃ a b c, d = .func a b c := by
  cases d <;> simp only [mkTD] at h <;> first
    | (cases h; exact ⟨_, _, _, rfl⟩)
    | (cases h; done)
    | (split at h <;> cases h <;> exact ⟨_, _, _, rfl⟩)
    | (split at h <;> cases h)
theorem mkTD_slice {P : Program} {t : TypeId} {d : TypeDesc} {e n : Nat} (h : mkTD P t d = some (.slice e n)) : d = .slice e ∧ ∃ i, P.info? e = some i ∧ i.size = n := by
  cases d <;> simp only [mkTD] at h <;> first
    | (cases h; exact ⟨rfl, _, ‹_›, rfl⟩)
    | (cases h; done)
    | (split at h <;> cases h <;> exact ⟨rfl, _, ‹_›, rfl⟩)
    | (split at h <;> cases h)
theorem mkTD_arr {P : Program} {t : TypeId} {d : TypeDesc} {m e n : Nat} (h : mkTD P t d = some (.arr m e n)) : d = .array m e ∧ ∃ i, P.info? e = some i ∧ i.size = n := by
  cases d <;> simp only [mkTD] at h <;> first
    | (cases h; exact ⟨rfl, _, ‹_›, rfl⟩)
    | (cases h; done)
    | (split at h <;> cases h <;> exact ⟨rfl, _, ‹_›, rfl⟩)
    | (split at h <;> cases h)
theorem mkTD_map {P : Program} {t : TypeId} {d : TypeDesc} {k e : Nat} (h : mkTD P t d = some (.map k e)) : d = .map k e := by
  cases d <;> simp only [mkTD] at h <;> first
    | (cases h; rfl)
    | (cases h; done)
    | (split at h <;> cases h <;> rfl)
theorem mkTD_struct {P : Program} {t : TypeId} {d : TypeDesc} {fs : List (Nat × Nat × Nat)} {b : Bool} (h : mkTD P t d = some (.struct fs b)) :
    ∃ gs, d = .struct gs ∧ fieldsTD P gs.toList = some fs ∧ b = (!P.eqGuardType P.depth t && !P.stoodInHeld t && namesOk gs.toList) := by
  cases d <;> simp only [mkTD] at h <;> first
    | (cases h; exact ⟨_, rfl, ‹_›, rfl⟩)
    | (cases h; done)
    | (split at h <;> cases h <;> exact ⟨_, rfl, ‹_›, rfl⟩)
    | (split at h <;> cases h)
theorem mkTD_concrete {P : Program} {t : TypeId} {d : TypeDesc} {td : TD} (h : mkTD P t d = some td) (h1 : td ≠ .iface) : ∀ ms, d ≠ .interface ms := by
  intro ms e
  subst e
  simp only [mkTD] at h
  cases h
  exact h1 rfl
theorem fieldsTD_nth {P : Program} : ∀ {gs : List Field} {fs : List (Nat × Nat × Nat)}, fieldsTD P gs = some fs → ∀ i f, nth fs i = some f → ∃ g j, gs[i]? = some g ∧ f.1 = g.type ∧ f.2.1 = g.offset ∧ P.info? g.type = some j ∧ j.size = f.2.2
  | [], fs, h, i, f, hf => by simp only [fieldsTD] at h; cases h; cases i <;> cases hf
  | g :: gs, fs, h, i, f, hf => by
    simp only [fieldsTD] at h
    split at h
    · cases h
    · rename_i j hj
      split at h
      · cases h
      · rename_i r hr
        cases h
        cases i with
        | zero => cases hf; exact ⟨g, j, rfl, rfl, rfl, hj, rfl⟩
        | succ i => exact fieldsTD_nth hr i f hf

end Go.SX
set_option linter.unusedVariables false
set_option linter.unusedSimpArgs false
namespace Go.SX
open Go Go.RowKit

/-! ### Numbers that are bound -/
theorem extE_app : ∀ (es : List E) (is : List Int), ∃ x, extE is es = is ++ x ∧ x.length = es.length
  | [], is => ⟨[], by simp [extE], rfl⟩
  | e :: es, is => by
    obtain ⟨x, hx, hl⟩ := extE_app es (is ++ [e.den is])
    exact ⟨e.den is :: x, by simp [extE, hx], by simp [hl]⟩
theorem extE_snoc : ∀ (es : List E) (is : List Int) (e : E), extE is (es ++ [e]) = extE is es ++ [e.den (extE is es)]
  | [], is, e => rfl
  | f :: es, is, e => by simp only [List.cons_append, extE]; exact extE_snoc es _ e
theorem E.den_lit {e : E} (h : e.lit = true) (is js : List Int) : e.den is = e.den js := by
  cases e <;> simp only [E.lit, Bool.and_eq_true] at h <;> simp only [E.den] <;> first
    | rw [A.den_lit h.1 is js, A.den_lit h.2 is js]
    | rw [A.den_lit h is js]
    | rw [B.den_lit h.1.1 is js, A.den_lit h.1.2 is js, A.den_lit h.2 is js]
theorem bind_spec {ni : Nat} {is : List Int} (hl : is.length = ni) {d : Bd} (hd : d.ni = ni + d.es.length) (e : E) :
    (d.bind e).2.ni = ni + (d.bind e).2.es.length ∧ (∃ y, extE is (d.bind e).2.es = extE is d.es ++ y) ∧ (d.bind e).1.den (extE is (d.bind e).2.es) = e.den (extE is d.es) ∧
      (d.bind e).1.wf (d.bind e).2.ni = true ∧ d.ni ≤ (d.bind e).2.ni := by
  unfold Bd.bind
  cases h : e.lit
  · simp only [cond_false]
    obtain ⟨x, hx, hxl⟩ := extE_app d.es is
    refine ⟨by simp; omega, ⟨[e.den (extE is d.es)], extE_snoc _ _ _⟩, ?_, ?_, by omega⟩
    · rw [extE_snoc]
      have hlen : (extE is d.es).length = d.ni := by rw [hx, List.length_append, hl, hxl, hd]
      simp [A.den, List.getD, ← hlen]
    · exact Nat.ble_eq.mpr (by omega : d.ni + 1 ≤ d.ni + 1)
  · simp only [cond_true]
    exact ⟨hd, ⟨[], by simp⟩, E.den_lit h _ _, rfl, Nat.le_refl _⟩

/-- What a pure operation comes to. -/
def Pure (P : Program) (o : Oper) (a : Act) (ρ : Env) (v : SV) (d : Bd) : Prop :=
  d.ni = ρ.is.length + d.es.length ∧ ∀ w, (execOp a.eval o).run P w = .ok (.value (v.den ⟨extE ρ.is d.es, ρ.bs⟩)) w
theorem extEnv_le (ρ : Env) (es : List E) : ρ.le ⟨extE ρ.is es, ρ.bs⟩ := by
  obtain ⟨x, hx, _⟩ := extE_app es ρ.is
  exact ⟨⟨x, hx⟩, ⟨[], by simp⟩⟩
theorem Pure.plain {P : Program} {o : Oper} {a : Act} {ρ : Env} {v : SV} {ni : Nat} (hn : ρ.is.length = ni) (h : ∀ w, (execOp a.eval o).run P w = .ok (.value (v.den ρ)) w) : Pure P o a ρ v ⟨ni, []⟩ :=
  ⟨by simp [hn], h⟩

variable {P : Program} {ty : Ty} {ρ : Env} {ni nb : Nat} {pc : List (B × Bool)} {tm : Tm} {a : Act} {o : Oper} {v : SV} {d : Bd}

theorem pMove_ok (hc : Cx ρ ni nb pc tm a) {x : Operand} (ho : o.op = .move x ∨ o.op = .assign x) (h : pMove ty tm ni pc x = some (v, d)) : Pure P o a ρ v d := by
  unfold pMove at h
  simp only at h
  split at h <;> cases h
  rename_i hv
  refine Pure.plain hc.hni fun w => ?_
  unfold execOp
  rcases ho with ho | ho <;> simp [ho, (hc.ev hv).1]

theorem extE_is (ρ : Env) : (⟨extE ρ.is [], ρ.bs⟩ : Env) = ρ := rfl

mutual
theorem pickV_ok {is : List Int} {bs : List (Nat × Nat)} (hl : is.length = ni) {c : B} (hcw : c.wf ni = true) : ∀ {x y : SV} {d : Bd} {v : SV} {d' : Bd}, x.wf ni nb = true → y.wf ni nb = true → bs.length = nb → d.ni = ni + d.es.length → pickV c x y d = some (v, d') →
    d'.ni = ni + d'.es.length ∧ (∃ z, extE is d'.es = extE is d.es ++ z) ∧ v.wf d'.ni nb = true ∧ d.ni ≤ d'.ni ∧ v.den ⟨extE is d'.es, bs⟩ = if c.den is = true then x.den ⟨is, bs⟩ else y.den ⟨is, bs⟩ := by
  intro x y d v d' hx hy hb hd h
  obtain ⟨z, hz, hzl⟩ := extE_app d.es is
  have hlen : (extE is d.es).length = d.ni := by rw [hz, List.length_append, hl, hzl, hd]
  cases x with
  | int k x =>
    cases y with
    | int k' y =>
      simp only [pickV] at h
      cases hk : kindEq k k'
      · rw [hk] at h; cases h
      · rw [hk] at h
        simp only [cond_true] at h
        cases kindEq_eq hk
        cases hxy : x.beq y
        · rw [hxy] at h
          simp only [cond_false] at h
          cases h
          obtain ⟨h1, h2, h3, h4, h5⟩ := bind_spec (is := is) hl hd (.sel c x y)
          refine ⟨h1, h2, by simpa [SV.wf] using h4, h5, ?_⟩
          simp only [SV.den, h3, E.den]
          have hx' : x.den (extE is d.es) = x.den is := by rw [hz, A.den_app (by simpa [SV.wf, hl] using hx)]
          have hy' : y.den (extE is d.es) = y.den is := by rw [hz, A.den_app (by simpa [SV.wf, hl] using hy)]
          have hc' : c.den (extE is d.es) = c.den is := by rw [hz, B.den_app (by rw [hl]; exact hcw)]
          rw [hx', hy', hc']
          split <;> rfl
        · rw [hxy] at h
          simp only [cond_true] at h
          cases h
          cases A.beq_eq hxy
          refine ⟨hd, ⟨[], by simp⟩, SV.wf_mono (by omega) (Nat.le_refl _) hx, Nat.le_refl _, ?_⟩
          have hx' : x.den (extE is d.es) = x.den is := by rw [hz, A.den_app (by simpa [SV.wf, hl] using hx)]
          simp only [SV.den, hx']
          split <;> rfl
    | _ => simp [pickV] at h
  | bool x =>
    cases y with
    | bool y =>
      simp only [pickV] at h
      cases h
      have hx' : x.den (extE is d.es) = x.den is := by rw [hz, B.den_app (by simpa [SV.wf, hl] using hx)]
      have hy' : y.den (extE is d.es) = y.den is := by rw [hz, B.den_app (by simpa [SV.wf, hl] using hy)]
      have hc' : c.den (extE is d.es) = c.den is := by rw [hz, B.den_app (by rw [hl]; exact hcw)]
      refine ⟨hd, ⟨[], by simp⟩, ?_, Nat.le_refl _, ?_⟩
      · have wAnd : ∀ {p q : B}, p.wf d.ni = true → q.wf d.ni = true → (p.mkAnd q).wf d.ni = true := by
          intro p q hp hq
          unfold B.mkAnd
          split <;> (try simp_all [B.wf])
          cases p.lit <;> simp_all [B.wf]
        have wOr : ∀ {p q : B}, p.wf d.ni = true → q.wf d.ni = true → (p.mkOr q).wf d.ni = true := by
          intro p q hp hq
          unfold B.mkOr
          split <;> simp_all [B.wf]
        have wNot : ∀ {p : B}, p.wf d.ni = true → p.mkNot.wf d.ni = true := by
          intro p hp
          cases p <;> simp_all [B.mkNot, B.wf]
        have c' := B.wf_mono (show ni ≤ d.ni by omega) hcw
        have x' := B.wf_mono (show ni ≤ d.ni by omega) (by simpa [SV.wf] using hx : x.wf ni = true)
        have y' := B.wf_mono (show ni ≤ d.ni by omega) (by simpa [SV.wf] using hy : y.wf ni = true)
        simp only [SV.wf]
        exact wOr (wAnd c' x') (wAnd (wNot c') y')
      · simp only [SV.den, B.den_mkOr, B.den_mkAnd, B.den_mkNot, hx', hy', hc']
        cases c.den is <;> simp
    | _ => simp [pickV] at h
  | agg xs =>
    cases y with
    | agg ys =>
      simp only [pickV] at h
      split at h
      · rename_i l d1 hp
        cases h
        simp only [SV.wf, Bool.and_eq_true] at hx hy
        obtain ⟨h1, h2, h3, h4, h5, h6⟩ := pickVs_ok hl hcw hx.1 hy.1 hb hd hp
        refine ⟨h1, h2, ?_, h4, ?_⟩
        · simp only [SV.wf, h3, Bool.true_and]; exact h6 hx.2 hy.2
        · simp only [SV.den, h5]; split <;> rfl
      · cases h
    | _ => simp [pickV] at h
  | _ => cases y <;> simp [pickV] at h
theorem pickVs_ok {is : List Int} {bs : List (Nat × Nat)} (hl : is.length = ni) {c : B} (hcw : c.wf ni = true) : ∀ {xs ys : List SV} {d : Bd} {l : List SV} {d' : Bd}, SV.wfs ni nb xs = true → SV.wfs ni nb ys = true → bs.length = nb → d.ni = ni + d.es.length → pickVs c xs ys d = some (l, d') →
    d'.ni = ni + d'.es.length ∧ (∃ z, extE is d'.es = extE is d.es ++ z) ∧ SV.wfs d'.ni nb l = true ∧ d.ni ≤ d'.ni ∧ SV.dens ⟨extE is d'.es, bs⟩ l = (if c.den is = true then SV.dens ⟨is, bs⟩ xs else SV.dens ⟨is, bs⟩ ys) ∧ (allCell xs = true → allCell ys = true → allCell l = true) := by
  intro xs ys d l d' hx hy hb hd h
  cases xs with
  | nil =>
    cases ys with
    | nil =>
      simp only [pickVs] at h
      cases h
      exact ⟨hd, ⟨[], by simp⟩, rfl, Nat.le_refl _, by simp [SV.dens], fun _ _ => rfl⟩
    | cons _ _ => simp [pickVs] at h
  | cons x xs =>
    cases ys with
    | nil => simp [pickVs] at h
    | cons y ys =>
      simp only [pickVs] at h
      split at h
      · rename_i v d1 hp
        split at h
        · rename_i l1 d2 hq
          cases h
          simp only [SV.wfs, Bool.and_eq_true] at hx hy
          obtain ⟨h1, ⟨z1, h2⟩, h3, h4, h5⟩ := pickV_ok hl hcw hx.1 hy.1 hb hd hp
          obtain ⟨g1, ⟨z2, g2⟩, g3, g4, g5, g6⟩ := pickVs_ok hl hcw hx.2 hy.2 hb h1 hq
          refine ⟨g1, ⟨z1 ++ z2, by rw [g2, h2, List.append_assoc]⟩, ?_, by omega, ?_, ?_⟩
          · simp only [SV.wfs, g3, Bool.and_true]
            exact SV.wf_mono g4 (Nat.le_refl _) h3
          · obtain ⟨u, hu, hul⟩ := extE_app d1.es is
            have hlen : (extE is d1.es).length = d1.ni := by rw [hu, List.length_append, hl, hul, h1]
            have : v.den ⟨extE is d'.es, bs⟩ = v.den ⟨extE is d1.es, bs⟩ := SV.den_app (ρ := ⟨extE is d1.es, bs⟩) (ρ' := ⟨extE is d'.es, bs⟩) ⟨⟨z2, g2⟩, ⟨[], by simp⟩⟩ (by
              show v.wf (extE is d1.es).length bs.length = true
              rw [hlen, hb]; exact h3)
            simp only [SV.dens, this, h5, g5]
            split <;> rfl
          · intro ha hb'
            simp only [allCell, Bool.and_eq_true] at ha hb' ⊢
            refine ⟨?_, g6 ha.2 hb'.2⟩
            have : v.cell = true ∨ ∃ l, v = .agg l := by
              cases x <;> cases y <;> simp only [pickV] at hp <;> (try cases hp) <;> first
                | (left; rfl)
                | (split at hp <;> cases hp; right; exact ⟨_, rfl⟩)
                | skip
              rename_i k1 a1 k2 a2
              left
              cases hk : kindEq k1 k2
              · rw [hk] at hp; cases hp
              · rw [hk] at hp
                cases hh : a1.beq a2 <;> rw [hh] at hp <;> simp only [cond_true, cond_false] at hp <;> cases hp <;> rfl
            rcases this with h | ⟨l, rfl⟩
            · exact h
            · exfalso
              cases x <;> cases y <;> simp only [pickV] at hp <;> (try cases hp)
              · rename_i k1 a1 k2 a2
                cases hk : kindEq k1 k2
                · rw [hk] at hp; cases hp
                · rw [hk] at hp
                  cases hh : a1.beq a2 <;> rw [hh] at hp <;> simp only [cond_true, cond_false] at hp <;> cases hp
              · cases ha.1
        · cases h
      · cases h
end

theorem den_pickB (is : List Int) (c x y : B) : (pickB c x y).den is = if c.den is = true then x.den is else y.den is := by
  unfold pickB
  split <;> simp only [B.den_mkOr, B.den_mkAnd, B.den_mkNot, B.den] <;> cases c.den is <;> simp

theorem pPick_ok (hc : Cx ρ ni nb pc tm a) {c x y : Operand} (ho : o.op = .pick c x y) (h : pPick ty tm ni pc c x y = some (v, d)) : Pure P o a ρ v d := by
  unfold pPick at h
  simp only at h
  split at h
  · rename_i hcv
    split at h <;> cases h
    rename_i hx
    refine Pure.plain hc.hni fun w => ?_
    unfold execOp
    simp [ho, (hc.ev hcv).1, SV.den, B.den, asBool, (hc.ev hx).1]
  · rename_i hcv
    split at h <;> cases h
    rename_i hx
    refine Pure.plain hc.hni fun w => ?_
    unfold execOp
    simp [ho, (hc.ev hcv).1, SV.den, B.den, asBool, (hc.ev hx).1]
  · rename_i cb _ _ hcv
    split at h
    · rename_i vx vy hx hy
      obtain ⟨ec, wc⟩ := hc.ev hcv
      obtain ⟨ex, wx⟩ := hc.ev hx
      obtain ⟨ey, wy⟩ := hc.ev hy
      simp only [SV.wf] at wc
      -- what is known in either case
      have hX : cb.den ρ.is = true → (vx.under (cb.facts true ++ pc)).den ρ = vx.den ρ := fun ht => SV.den_under (PcOk.append (B.facts_ok _ _ _ ht) hc.hpc) vx
      have hY : cb.den ρ.is = false → (vy.under (cb.facts false ++ pc)).den ρ = vy.den ρ := fun ht => SV.den_under (PcOk.append (B.facts_ok _ _ _ ht) hc.hpc) vy
      have run : ∀ w, (execOp a.eval o).run P w = .ok (.value (if cb.den ρ.is = true then vx.den ρ else vy.den ρ)) w := by
        intro w
        unfold execOp
        simp [ho, ec, ex, ey, SV.den, asBool]
      split at h
      · rename_i bx bY hbx hby
        cases h
        refine Pure.plain hc.hni fun w => ?_
        rw [run w]
        simp only [SV.den, den_pickB]
        cases hcd : cb.den ρ.is
        · simp only [Bool.false_eq_true, if_false]; rw [← hY hcd, hby]; rfl
        · simp only [if_true]; rw [← hX hcd, hbx]; rfl
      · have wx' := SV.wf_under (pc := cb.facts true ++ pc) wx
        have wy' := SV.wf_under (pc := cb.facts false ++ pc) wy
        obtain ⟨h1, h2, h3, h4, h5⟩ := pickV_ok (is := ρ.is) (bs := ρ.bs) hc.hni wc wx' wy' hc.hnb (d := ⟨ni, []⟩) (by simp) h
        refine ⟨by rw [hc.hni]; exact h1, fun w => ?_⟩
        rw [run w, h5]
        cases hcd : cb.den ρ.is
        · simp only [Bool.false_eq_true, if_false]; rw [← hY hcd]
        · simp only [if_true]; rw [← hX hcd]
    · cases h
  · cases h

end Go.SX
set_option linter.unusedVariables false
set_option linter.unusedSimpArgs false
namespace Go.SX
open Go Go.RowKit

variable {P : Program} {ty : Ty} {ρ : Env} {ni nb : Nat} {pc : List (B × Bool)} {tm : Tm} {a : Act} {o : Oper} {v : SV} {d : Bd}

theorem run_info {t : TypeId} {i : TypeInfo} (h : P.info? t = some i) (w : World) : (typeInfo t).run P w = .ok i w := by simp [typeInfo, h]
theorem run_size {t : TypeId} {i : TypeInfo} (h : P.info? t = some i) (w : World) : (sizeOf t).run P w = .ok i.size w := by simp [sizeOf, run_info h]
theorem run_agg {t : TypeId} {e : TE} {dd : TypeDesc} (hu : P.underlying t = some dd) (hm : mkTD P t dd = some e.d) (w : World) : (isAgg t).run P w = .ok e.d.agg w := by
  rw [← mkTD_agg hm]
  simp only [isAgg, Sem.run_bind, run_underlying hu, Result.andThen_ok]
  cases dd <;> rfl

theorem partL_ok (hty : TyOk P ty) {t : TypeId} {cs : List SV} {off : Nat} {v : SV} (h : partL ty t cs off = some v) (ρ : Env) (w : World) : (part t (SV.dens ρ cs).toArray off).run P w = .ok (v.den ρ) w := by
  unfold partL at h
  split at h
  · cases h
  · rename_i e he
    obtain ⟨dd, i, hu, hi, hm, hs, _, _⟩ := hty.info he
    simp only [part, Sem.run_bind, run_agg hu hm, Result.andThen_ok]
    cases ha : e.d.agg
    · rw [ha] at h
      simp only [cond_false] at h
      rw [nth_eq] at h
      have := dens_getElem? ρ cs off
      rw [h] at this
      simp [this]
    · rw [ha] at h
      simp only [cond_true] at h
      split at h <;> cases h
      rename_i l hl
      rw [dropN_eq] at hl
      obtain ⟨h1, rfl⟩ := takeN_eq _ _ _ hl
      simp only [if_true, Sem.run_bind, run_size hi, Result.andThen_ok, Sem.run_pure, hs, SV.den]
      congr 2
      rw [dens_take, dens_drop, List.extract_toArray]
      simp [List.extract_eq_take_drop]
theorem partL_wf (hty : TyOk P ty) {t : TypeId} {cs : List SV} {off : Nat} {v : SV} (h : partL ty t cs off = some v) {ni nb : Nat} (hw : SV.wfs ni nb cs = true) : v.wf ni nb = true ∨ ∃ l, v = .agg l := by
  unfold partL at h
  split at h
  · cases h
  · rename_i e he
    cases ha : e.d.agg
    · rw [ha] at h
      simp only [cond_false] at h
      rw [nth_eq] at h
      exact .inl (wfs_mem hw v (List.mem_of_getElem? h))
    · rw [ha] at h
      simp only [cond_true] at h
      split at h <;> cases h
      exact .inr ⟨_, rfl⟩

mutual
theorem eqV_ok (hty : TyOk P ty) (ρ : Env) : ∀ (d : Nat) {t : TypeId} {x y : SV} {b : B}, eqV ty d t x y = some b → ∀ (D : Nat), d ≤ D → ∀ w, (Op.equalIn D t (x.den ρ) (y.den ρ)).run P w = .ok (b.den ρ.is) w
  | 0, t, x, y, b, h, _, _, _ => by simp [eqV] at h
  | d + 1, t, x, y, b, h, 0, hD, w => by omega
  | d + 1, t, x, y, b, h, D + 1, hD, w => by
    simp only [eqV] at h
    split at h
    · cases h
    · rename_i e he
      obtain ⟨dd, i, hu, hi, hm, hs, _, _⟩ := hty.info he
      split at h
      · rename_i hd
        rw [hd] at hm
        cases mkTD_bool hm
        split at h <;> cases h
        rw [den_eqB]
        exact run_equalIn_bool' w D t _ _ hu
      · rename_i hd
        rw [hd] at hm
        cases mkTD_int hm
        split at h
        · rename_i k a k' b'
          cases hk : kindEq k k'
          · rw [hk] at h; cases h
          · rw [hk] at h
            cases kindEq_eq hk
            cases h
            rw [B.den_mkEq]
            exact run_equalIn_int w D t k _ _ _ hu
        · cases h
      · rename_i fs hd
        rw [hd] at hm
        obtain ⟨gs, rfl, hf, hb⟩ := mkTD_struct hm
        split at h
        · rename_i xs ys
          simp only [eq_comm (a := true), Bool.and_eq_true, Bool.not_eq_true'] at hb
          have hgs : P.fieldsOf t = gs := by simp [Program.fieldsOf, hu]
          have := run_equalIn_struct (P := P) w D t (SV.dens ρ xs).toArray (SV.dens ρ ys).toArray (by rw [hgs]; exact hu) hb.1.2
          simp only [SV.den]
          rw [this, hgs]
          exact eqFs_ok hty ρ d h hf hb.2 D (by omega) w
        · cases h
      · cases h
theorem eqFs_ok (hty : TyOk P ty) (ρ : Env) : ∀ (d : Nat) {fs : List (Nat × Nat × Nat)} {xs ys : List SV} {b : B}, eqFs ty d fs xs ys = some b → ∀ {gs : List Field}, fieldsTD P gs = some fs → namesOk gs = true → ∀ (D : Nat), d ≤ D → ∀ w,
    (Op.eqFields D (SV.dens ρ xs).toArray (SV.dens ρ ys).toArray gs).run P w = .ok (b.den ρ.is) w
  | 0, fs, xs, ys, b, h, _, _, _, _, _, _ => by simp [eqFs] at h
  | d + 1, [], xs, ys, b, h, gs, hg, _, D, hD, w => by
    simp only [eqFs] at h
    cases h
    cases gs with
    | nil => simp [Op.eqFields, B.den]
    | cons g gs =>
      simp only [fieldsTD] at hg
      split at hg
      · cases hg
      · split at hg <;> cases hg
  | d + 1, f :: fs, xs, ys, b, h, gs, hg, hn, D, hD, w => by
    cases gs with
    | nil => simp [fieldsTD] at hg
    | cons g gs =>
      simp only [fieldsTD] at hg
      split at hg
      · cases hg
      · rename_i j hj
        split at hg
        · cases hg
        · rename_i r hr
          cases hg
          simp only [namesOk, Bool.and_eq_true, Bool.not_eq_true', beq_eq_false_iff_ne] at hn
          simp only [eqFs] at h
          split at h
          · rename_i x y hx hy
            split at h
            · rename_i b1 hb1
              split at h
              · rename_i b2 hb2
                cases h
                have h1 := eqV_ok hty ρ d hb1 D (by omega) w
                have h2 := eqFs_ok hty ρ d hb2 hr hn.2 D (by omega) w
                simp only [Op.eqFields, Sem.run_ite, Sem.run_bind, partL_ok hty hx ρ, partL_ok hty hy ρ, Result.andThen_ok, h1, h2, B.den_mkAnd]
                rw [if_pos hn.1]
                cases b1.den ρ.is <;> simp
              · cases h
            · cases h
          · cases h
end

theorem eql_fn (t : TypeId) (w : World) {p q : Array TypeId} {r : Bool} (hu : P.underlying t = some (.func p q r)) (x : Value) (hx : (∃ f c e, x = .func f c e) ∨ x = .nilFunc) :
    (Op.equal t x .nilFunc).run P w = .ok (match x with | .nilFunc => true | _ => false) w := by
  have key : ∀ D, (Op.equalIn (D + 1) t x .nilFunc).run P w = .ok (match x with | .nilFunc => true | _ => false) w := by
    intro D
    rcases hx with ⟨f, c, e, rfl⟩ | rfl <;> simp [Op.equalIn, run_underlying hu]
  exact key 9999
theorem eql_bool (t : TypeId) (w : World) (hu : P.underlying t = some .bool) (x y : Bool) : (Op.equal t (.bool x) (.bool y)).run P w = .ok (x == y) w :=
  run_equalIn_bool' w 9999 t x y hu
/-- '==' and '!='. -/
theorem eqAny_ok (hty : TyOk P ty) {t : TypeId} {x y : SV} {b : B} (h : eqAny ty t x y = some b) (ρ : Env) (X Y : Operand) (w : World) :
    (do eqGuard .eql t X Y (x.den ρ) (y.den ρ); binOp .eql t (x.den ρ) (y.den ρ)).run P w = .ok (.bool (b.den ρ.is)) w ∧
    (do eqGuard .neq t X Y (x.den ρ) (y.den ρ); binOp .neq t (x.den ρ) (y.den ρ)).run P w = .ok (.bool (!b.den ρ.is)) w := by
  unfold eqAny at h
  split at h
  · rename_i k a k' c
    cases hk : kindEq k k'
    · rw [hk] at h; cases h
    · rw [hk] at h
      cases kindEq_eq hk
      cases h
      rw [B.den_mkEq]
      constructor
      · simp [eqGuard, SV.den, binOp, Op.intCmp]
      · simp [eqGuard, SV.den, binOp, Op.intCmp, bne]
  · split at h
    · rename_i he
      cases h
      obtain ⟨dd, i, hu, hi, hm, hs, _, _⟩ := hty.info he
      obtain ⟨p, q, r, rfl⟩ := mkTD_func hm
      constructor
      · simp only [eqGuard, SV.den, binOp, Sem.run_bind, B.den]
        simp [eql_fn t w hu _ (.inl ⟨_, _, _, rfl⟩)]
      · simp only [eqGuard, SV.den, binOp, Sem.run_bind, B.den]
        simp [eql_fn t w hu _ (.inl ⟨_, _, _, rfl⟩)]
    · cases h
  · split at h
    · rename_i he
      cases h
      obtain ⟨dd, i, hu, hi, hm, hs, _, _⟩ := hty.info he
      obtain ⟨p, q, r, rfl⟩ := mkTD_func hm
      constructor
      · simp only [eqGuard, SV.den, binOp, Sem.run_bind, B.den]
        simp [eql_fn t w hu _ (.inr rfl)]
      · simp only [eqGuard, SV.den, binOp, Sem.run_bind, B.den]
        simp [eql_fn t w hu _ (.inr rfl)]
    · cases h
  · rename_i xs ys
    have h1 := eqV_ok hty ρ 40 h 10000 (by omega) w
    have hg : P.eqGuardType P.depth t = false := by
      simp only [eqV] at h
      split at h
      · cases h
      · rename_i e he
        obtain ⟨dd, i, hu, hi, hm, hs, _, _⟩ := hty.info he
        split at h
        · cases h
        · cases h
        · rename_i fs hd
          rw [hd] at hm
          obtain ⟨gs, rfl, hf, hb⟩ := mkTD_struct hm
          simp only [eq_comm (a := true), Bool.and_eq_true, Bool.not_eq_true'] at hb
          exact hb.1.1
        · cases h
    simp only [SV.den] at h1
    constructor
    · simp only [SV.den, Sem.run_bind, run_eqGuard_agg w .eql t X Y _ _ hg, Result.andThen_ok, run_eql_struct, h1]
    · simp only [SV.den, Sem.run_bind, run_eqGuard_agg w .neq t X Y _ _ hg, Result.andThen_ok, run_neq_struct, h1]
  · split at h
    · rename_i he
      cases h
      obtain ⟨dd, i, hu, hi, hm, hs, _, _⟩ := hty.info he
      cases mkTD_bool hm
      rw [den_eqB]
      constructor
      · simp only [eqGuard, SV.den, binOp, Sem.run_bind]
        simp [eql_bool t w hu]
      · simp only [eqGuard, SV.den, binOp, Sem.run_bind]
        simp [eql_bool t w hu]
    · cases h
  · cases h

theorem cmpB_ok {op : BinOp} {x y : A} {b : B} (h : cmpB op x y = some b) (is : List Int) (w : World) : (Op.intCmp op (x.den is) (y.den is)).run P w = .ok (.bool (b.den is)) w := by
  cases op <;> simp only [cmpB] at h <;> cases h <;> simp [Op.intCmp, B.den_mkLt, B.den_mkNot]
  · by_cases hh : y.den is < x.den is <;> simp [hh] <;> omega
  · by_cases hh : x.den is < y.den is <;> simp [hh] <;> omega

theorem bitsOf_and (k : IntKind) (x y : Int) (w : World) : (Op.intBits .and k x y).run P w = .ok (.int k (bitsOf k (· &&& ·) x y)) w := rfl
theorem bitsOf_or (k : IntKind) (x y : Int) (w : World) : (Op.intBits .or k x y).run P w = .ok (.int k (bitsOf k (· ||| ·) x y)) w := rfl
theorem bitsOf_xor (k : IntKind) (x y : Int) (w : World) : (Op.intBits .xor k x y).run P w = .ok (.int k (bitsOf k (· ^^^ ·) x y)) w := rfl
theorem bitsOf_clr (k : IntKind) (x y : Int) (w : World) : (Op.intBits .andNot k x y).run P w = .ok (.int k (bitsOf k (fun a b => a &&& ~~~b) x y)) w := rfl

theorem run_binOp_int {op : BinOp} (h : op ≠ .shl) (h' : op ≠ .shr) (t : TypeId) (k : IntKind) (x y : Int) : binOp op t (.int k x) (.int k y) = (match op with
    | .add | .sub | .mul => Op.intArith op k x y
    | .quo | .rem => Op.intDiv op k x y
    | .and | .or | .xor | .andNot => Op.intBits op k x y
    | _ => Op.intCmp op x y) := by
  cases op <;> first | (exact absurd rfl h) | (exact absurd rfl h') | simp [binOp]
theorem run_shift {op : BinOp} (h : op = .shl ∨ op = .shr) (t : TypeId) (k k' : IntKind) (x y : Int) : binOp op t (.int k x) (.int k' y) = Op.shift op k x k' y := by
  rcases h with rfl | rfl <;> rfl
theorem binE_ok {op : BinOp} {k k' : IntKind} {x y : A} {e : E} (h : binE op k x y = some e) (hk : (kindEq k k' || shOp op) = true) (is : List Int) (t : TypeId) (w : World) :
    (binOp op t (.int k (x.den is)) (.int k' (y.den is))).run P w = .ok (.int k (e.den is)) w := by
  cases hs : shOp op
  · rw [hs, Bool.or_false] at hk
    cases kindEq_eq hk
    rw [run_binOp_int (by rintro rfl; cases hs) (by rintro rfl; cases hs)]
    cases op <;> simp only [binE] at h <;> (try (cases h; done)) <;> (try (cases hs; done))
    case add => cases h; rfl
    case sub => cases h; rfl
    case mul => cases h; rfl
    case and => cases h; exact bitsOf_and k _ _ w
    case or => cases h; exact bitsOf_or k _ _ w
    case xor => cases h; exact bitsOf_xor k _ _ w
    case andNot => cases h; exact bitsOf_clr k _ _ w
    case quo =>
      cases y with
      | v i => simp at h
      | n c =>
        simp only at h
        cases hz : (c == 0)
        · rw [hz] at h
          cases h
          have : ¬ c = 0 := by simpa using hz
          simp [Op.intDiv, A.den, this, E.den]
        · rw [hz] at h; cases h
    case rem =>
      cases y with
      | v i => simp at h
      | n c =>
        simp only at h
        cases hz : (c == 0)
        · rw [hz] at h
          cases h
          have : ¬ c = 0 := by simpa using hz
          simp [Op.intDiv, A.den, this, E.den]
        · rw [hz] at h; cases h
  · have hsh : op = .shl ∨ op = .shr := by cases op <;> simp_all [shOp]
    rw [run_shift hsh]
    rcases hsh with rfl | rfl
    · simp only [binE] at h
      cases y with
      | v i => simp at h
      | n c =>
        simp only at h
        cases hz : decide (c < 0)
        · rw [hz] at h
          cases h
          have : ¬ c < 0 := by simpa using hz
          simp [Op.shift, A.den, this, E.den]
        · rw [hz] at h; cases h
    · simp only [binE] at h
      cases y with
      | v i => simp at h
      | n c =>
        simp only at h
        cases hz : decide (c < 0)
        · rw [hz] at h
          cases h
          have : ¬ c < 0 := by simpa using hz
          simp [Op.shift, A.den, this, E.den]
        · rw [hz] at h; cases h

theorem pBinOp_ok (hty : TyOk P ty) (hc : Cx ρ ni nb pc tm a) {op : BinOp} {t yt : TypeId} {x y : Operand} (ho : o.op = .binOp op t x y yt) (h : pBinOp ty tm ni pc op t x y = some (v, d)) : Pure P o a ρ v d := by
  unfold pBinOp at h
  simp only at h
  split at h
  · rename_i vx vy hx hy
    obtain ⟨ex, wx⟩ := hc.ev hx
    obtain ⟨ey, wy⟩ := hc.ev hy
    split at h
    · split at h <;> cases h
      rename_i b hb
      refine Pure.plain hc.hni fun w => ?_
      have := (eqAny_ok hty hb ρ x y w).1
      unfold execOp
      simp only [ho, ex, ey]
      rw [Sem.run_bind, this]; rfl
    · split at h <;> cases h
      rename_i b hb
      refine Pure.plain hc.hni fun w => ?_
      have := (eqAny_ok hty hb ρ x y w).2
      unfold execOp
      simp only [ho, ex, ey]
      rw [Sem.run_bind, this]
      simp [SV.den, B.den_mkNot]
    · rename_i hne1 hne2
      split at h
      · rename_i k p k' q
        cases hkk : (kindEq k k' || shOp op)
        · rw [hkk] at h; cases h
        · rw [hkk] at h
          simp only [cond_true] at h
          have hg : ∀ w, (eqGuard op t x y (.int k (p.den ρ.is)) (.int k' (q.den ρ.is))).run P w = .ok () w := by
            intro w
            cases op <;> simp [eqGuard]
          split at h
          · rename_i b hb
            cases h
            have hsh : op ≠ .shl ∧ op ≠ .shr := by constructor <;> (rintro rfl; simp [cmpB] at hb)
            have hk : k = k' := by
              have : shOp op = false := by cases op <;> first | rfl | (exfalso; exact hsh.1 rfl) | (exfalso; exact hsh.2 rfl)
              rw [this, Bool.or_false] at hkk
              exact kindEq_eq hkk
            subst hk
            refine Pure.plain hc.hni fun w => ?_
            unfold execOp
            simp only [ho, ex, ey, SV.den, Sem.run_bind, hg, Result.andThen_ok]
            rw [run_binOp_int hsh.1 hsh.2]
            have hcm := cmpB_ok (P := P) hb ρ.is w
            cases op <;> simp only [cmpB] at hb <;> (try (cases hb; done)) <;> simp only [hcm, Result.andThen_ok, Sem.run_pure]
          · split at h
            · rename_i e he
              cases h
              obtain ⟨h1, h2, h3, _, _⟩ := bind_spec (is := ρ.is) hc.hni (d := ⟨ni, []⟩) (by simp) e
              refine ⟨by rw [hc.hni]; exact h1, fun w => ?_⟩
              unfold execOp
              simp only [ho, ex, ey, SV.den, Sem.run_bind, hg, Result.andThen_ok, binE_ok (P := P) he hkk ρ.is t w, Sem.run_pure, h3]
              rfl
            · cases h
      · cases h
  · cases h

end Go.SX
set_option linter.unusedVariables false
set_option linter.unusedSimpArgs false
namespace Go.SX
open Go Go.RowKit

variable {P : Program} {ty : Ty} {ρ : Env} {ni nb : Nat} {pc : List (B × Bool)} {tm : Tm} {a : Act} {o : Oper} {v : SV} {d : Bd}

theorem pUnOp_ok (hc : Cx ρ ni nb pc tm a) {op : UnOp} {t : TypeId} {x : Operand} (ho : o.op = .unOp op t x) (h : pUnOp ty tm ni pc op x = some (v, d)) : Pure P o a ρ v d := by
  unfold pUnOp at h
  simp only at h
  split at h
  · rename_i b hx
    cases h
    refine Pure.plain hc.hni fun w => ?_
    unfold execOp
    simp [ho, (hc.ev hx).1, SV.den, Op.unary, B.den_mkNot]
  · rename_i k p hx
    cases h
    obtain ⟨h1, h2, h3, _, _⟩ := bind_spec (is := ρ.is) hc.hni (d := ⟨ni, []⟩) (by simp) (.neg k p)
    refine ⟨by rw [hc.hni]; exact h1, fun w => ?_⟩
    unfold execOp
    simp only [ho, (hc.ev hx).1, SV.den, Op.unary, h3, E.den]
    rfl
  · rename_i k p hx
    cases h
    obtain ⟨h1, h2, h3, _, _⟩ := bind_spec (is := ρ.is) hc.hni (d := ⟨ni, []⟩) (by simp) (.com k p)
    refine ⟨by rw [hc.hni]; exact h1, fun w => ?_⟩
    unfold execOp
    simp only [ho, (hc.ev hx).1, SV.den, Op.unary, h3, E.den, Sem.run_bind, bitsOf_xor, Result.andThen_ok, Sem.run_pure]
    rfl
  · cases h

theorem tdOf_info (hty : TyOk P ty) {t : TypeId} {td : TD} (h : tdOf ty t = td) (hn : td ≠ .other) : ∃ e dd i, ty.get t = some e ∧ e.d = td ∧ P.underlying t = some dd ∧ P.info? t = some i ∧ mkTD P t dd = some td ∧ i.size = e.size := by
  unfold tdOf at h
  split at h
  · rename_i e he
    obtain ⟨dd, i, hu, hi, hm, hs, _, _⟩ := hty.info he
    exact ⟨e, dd, i, he, h, hu, hi, h ▸ hm, hs⟩
  · exact absurd h.symm hn

theorem pConvert_ok (hty : TyOk P ty) (hc : Cx ρ ni nb pc tm a) {src dst : TypeId} {x : Operand} (ho : o.op = .convert src dst x) (h : pConvert ty tm ni pc src dst x = some (v, d)) : Pure P o a ρ v d := by
  unfold pConvert at h
  simp only at h
  split at h
  · rename_i _ k _ p h1 h2 hx
    cases h
    obtain ⟨_, d1, _, _, _, hu1, _, hm1, _⟩ := tdOf_info hty h1 (by simp)
    obtain ⟨_, d2, _, _, _, hu2, _, hm2, _⟩ := tdOf_info hty h2 (by simp)
    cases mkTD_int hm1
    cases mkTD_int hm2
    obtain ⟨g1, g2, g3, _, _⟩ := bind_spec (is := ρ.is) hc.hni (d := ⟨ni, []⟩) (by simp) (.wrap k p)
    refine ⟨by rw [hc.hni]; exact g1, fun w => ?_⟩
    unfold execOp
    simp only [ho, (hc.ev hx).1, SV.den, convert, Sem.run_bind, run_underlying hu1, run_underlying hu2, Result.andThen_ok, g3, E.den]
    rfl
  · rename_i s h1 h2 hx
    cases h
    obtain ⟨_, d1, _, _, _, hu1, _, hm1, _⟩ := tdOf_info hty h1 (by simp)
    obtain ⟨_, d2, _, _, _, hu2, _, hm2, _⟩ := tdOf_info hty h2 (by simp)
    cases mkTD_str hm1
    cases mkTD_str hm2
    refine Pure.plain hc.hni fun w => ?_
    unfold execOp
    simp only [ho, (hc.ev hx).1, SV.den, convert, Sem.run_bind, run_underlying hu1, run_underlying hu2, Result.andThen_ok]
    rfl
  · cases h

theorem evs_array (hc : Cx ρ ni nb pc tm a) {xs : Array Operand} {vs : List SV} (h : evOs pc tm xs.toList = some vs) : xs.map a.eval = (SV.dens ρ vs).toArray := by
  have := (hc.evs h).1
  apply Array.ext'
  simpa using this

theorem pMakeFunc_ok (hc : Cx ρ ni nb pc tm a) {f : Fn} {fi ca : Array Operand} (ho : o.op = .makeFunc f fi ca) (h : pMakeFunc ty tm ni pc f fi ca = some (v, d)) : Pure P o a ρ v d := by
  unfold pMakeFunc at h
  simp only at h
  split at h
  · rename_i h1 h2
    cases h
    refine Pure.plain hc.hni fun w => ?_
    unfold execOp
    simp only [ho, evs_array hc h1, evs_array hc h2, SV.den, Instr.makeFunc]
    rfl
  · cases h

theorem pMakeInterface_ok (hty : TyOk P ty) (hc : Cx ρ ni nb pc tm a) {t : TypeId} {x : Operand} (ho : o.op = .makeInterface t x) (h : pMakeInterface ty tm ni pc t x = some (v, d)) : Pure P o a ρ v d := by
  unfold pMakeInterface at h
  simp only at h
  split at h
  · cases h
  · cases h
  · rename_i vv _ _ _
    have hn1 : tdOf ty t ≠ .iface := by assumption
    have hn2 : tdOf ty t ≠ .other := by assumption
    have hx : evO pc tm x = some vv := by assumption
    cases h
    obtain ⟨_, d1, _, _, _, hu1, _, hm1, _⟩ := tdOf_info hty rfl hn2
    have hd := mkTD_concrete hm1 hn1
    refine Pure.plain hc.hni fun w => ?_
    unfold execOp
    simp only [ho, (hc.ev hx).1, SV.den, Instr.makeInterface, Sem.run_bind, run_underlying hu1, Result.andThen_ok]
    cases d1 with
    | interface ms => exact absurd rfl (hd ms)
    | _ => rfl
  · cases h

theorem add_plain (b off n : Nat) : (⟨b, off, none⟩ : Addr).add n = ⟨b, off + n, none⟩ := by unfold Addr.add; split <;> simp_all

theorem pFieldAddr_ok (hty : TyOk P ty) (hc : Cx ρ ni nb pc tm a) {t : TypeId} {x : Operand} {f : Nat} (ho : o.op = .fieldAddr t x f) (h : pFieldAddr ty tm ni pc t x f = some (v, d)) : Pure P o a ρ v d := by
  have key : ∀ (fs : List (Nat × Nat × Nat)) (b : Bool), tdOf ty t = .struct fs b → ∀ g, nth fs f = some g → Nat.beq g.2.2 0 = false → ∀ (B off : Nat) w, (Instr.fieldAt t (.pointer (some ⟨B, off, none⟩)) f).run P w = .ok (.pointer (some ⟨B, off + g.2.1, none⟩)) w := by
    intro fs b ht g hg hz B off w
    obtain ⟨_, d1, _, _, _, hu1, _, hm1, _⟩ := tdOf_info hty ht (by simp)
    obtain ⟨gs, rfl, hf, _⟩ := mkTD_struct hm1
    obtain ⟨G, j, h1, h2, h3, h4, h5⟩ := fieldsTD_nth hf f g hg
    have h1' : gs[f]? = some G := by simpa using h1
    have hz' : ¬ j.size = 0 := by intro e; rw [h5] at e; rw [e] at hz; cases hz
    simp only [Instr.fieldAt, Sem.run_bind, run_underlying hu1, Result.andThen_ok, h1', Instr.sureAddr, Sem.run_pure, fieldPlace, run_size h4, if_neg hz', Sem.run_ite, add_plain, h3]
  unfold pFieldAddr at h
  simp only at h
  split at h
  · rename_i ht hx
    split at h
    · rename_i g hg
      cases hz : Nat.beq g.2.2 0 <;> rw [hz] at h <;> simp only [cond_true, cond_false] at h <;> cases h
      refine Pure.plain hc.hni fun w => ?_
      unfold execOp
      simp only [ho, (hc.ev hx).1, SV.den, Sem.run_bind, key _ _ ht g hg hz, Result.andThen_ok, Sem.run_pure]
    · cases h
  · rename_i ht hx
    split at h
    · rename_i g hg
      cases hz : Nat.beq g.2.2 0 <;> rw [hz] at h <;> simp only [cond_true, cond_false] at h <;> cases h
      refine Pure.plain hc.hni fun w => ?_
      unfold execOp
      simp only [ho, (hc.ev hx).1, SV.den, Sem.run_bind, key _ _ ht g hg hz, Result.andThen_ok, Sem.run_pure]
    · cases h
  · cases h

theorem pField_ok (hty : TyOk P ty) (hc : Cx ρ ni nb pc tm a) {t : TypeId} {x : Operand} {f : Nat} (ho : o.op = .field t x f) (h : pField ty tm ni pc t x f = some (v, d)) : Pure P o a ρ v d := by
  unfold pField at h
  simp only at h
  split at h
  · rename_i ht hx
    split at h
    · rename_i g hg
      split at h <;> cases h
      rename_i hp
      obtain ⟨_, d1, _, _, _, hu1, _, hm1, _⟩ := tdOf_info hty ht (by simp)
      obtain ⟨gs, rfl, hf, _⟩ := mkTD_struct hm1
      obtain ⟨G, j, h1, h2, h3, h4, h5⟩ := fieldsTD_nth hf f g hg
      have h1' : gs[f]? = some G := by simpa using h1
      refine Pure.plain hc.hni fun w => ?_
      unfold execOp
      have := partL_ok hty hp ρ w
      rw [h2, h3] at this
      simp only [ho, (hc.ev hx).1, SV.den, Instr.field, Sem.run_bind, run_underlying hu1, Result.andThen_ok, h1', asAgg, Sem.run_pure, this]
    · cases h
  · cases h

theorem pExtract_ok (hc : Cx ρ ni nb pc tm a) {x : Operand} {i : Nat} (ho : o.op = .extract x i) (h : pExtract ty tm ni pc x i = some (v, d)) : Pure P o a ρ v d := by
  unfold pExtract at h
  simp only at h
  split at h
  · rename_i l hx
    split at h <;> cases h
    rename_i hn
    rw [nth_eq] at hn
    refine Pure.plain hc.hni fun w => ?_
    unfold execOp
    have := dens_getElem? ρ l i
    rw [hn] at this
    simp [ho, (hc.ev hx).1, SV.den, Instr.extract, this]
  · cases h

theorem litNat_eq {c : Int} {j : Nat} (h : litNat c = some j) : c = (j : Int) := by
  cases c with
  | ofNat m => simp [litNat] at h; simp [h]
  | negSucc m => simp [litNat] at h

theorem indexAt_slice (hty : TyOk P ty) {t : TypeId} {e n : Nat} (ht : tdOf ty t = .slice e n) {b off len cap j : Nat} (hj : j < len) (k : IntKind) (w : World) :
    (Instr.indexAt t (.slice (some ⟨b, off, none⟩) len cap) (.int k (j : Int))).run P w = .ok (.pointer (some ⟨b, off + j * n, none⟩)) w := by
  obtain ⟨_, d1, _, _, _, hu1, _, hm1, _⟩ := tdOf_info hty ht (by simp)
  obtain ⟨rfl, i, hi, rfl⟩ := mkTD_slice hm1
  have : (0 : Int) ≤ (j : Int) ∧ (j : Int) < (len : Int) := by omega
  simp [Instr.indexAt, asIntOf, run_underlying hu1, this, run_size hi, add_plain]
  intro hle; omega
theorem indexAt_array (hty : TyOk P ty) {t : TypeId} {e n len : Nat} (ht : tdOf ty t = .arr len e n) {b off j : Nat} (hj : j < len) (k : IntKind) (w : World) :
    (Instr.indexAt t (.pointer (some ⟨b, off, none⟩)) (.int k (j : Int))).run P w = .ok (.pointer (some ⟨b, off + j * n, none⟩)) w := by
  obtain ⟨_, d1, _, _, _, hu1, _, hm1, _⟩ := tdOf_info hty ht (by simp)
  obtain ⟨rfl, i, hi, rfl⟩ := mkTD_arr hm1
  have : (0 : Int) ≤ (j : Int) ∧ (j : Int) < (len : Int) := by omega
  simp [Instr.indexAt, asIntOf, run_underlying hu1, this, run_size hi, add_plain, Instr.sureAddr]
  intro hle; omega
theorem index_array (hty : TyOk P ty) {t : TypeId} {e n len : Nat} (ht : tdOf ty t = .arr len e n) {l : List SV} {j : Nat} (hj : j < len) {v : SV} (hp : partL ty e l (j * n) = some v) (ρ : Env) (k : IntKind) (w : World) :
    (Instr.index t (.agg (SV.dens ρ l).toArray) (.int k (j : Int))).run P w = .ok (v.den ρ) w := by
  obtain ⟨_, d1, _, _, _, hu1, _, hm1, _⟩ := tdOf_info hty ht (by simp)
  obtain ⟨rfl, i, hi, rfl⟩ := mkTD_arr hm1
  have : (0 : Int) ≤ (j : Int) ∧ (j : Int) < (len : Int) := by omega
  simp [Instr.index, asIntOf, run_underlying hu1, this, run_size hi, partL_ok hty hp ρ w]
  intro hle; omega

theorem bytes_get (l : List UInt8) (j : Nat) : (⟨l.toArray⟩ : ByteArray)[j]? = l[j]? := by
  by_cases h : j < l.length
  · have h' : j < (⟨l.toArray⟩ : ByteArray).size := by simpa [ByteArray.size] using h
    rw [getElem?_pos (⟨l.toArray⟩ : ByteArray) j h', List.getElem?_eq_getElem h]
    rfl
  · have h' : ¬ j < (⟨l.toArray⟩ : ByteArray).size := by simpa [ByteArray.size] using h
    rw [getElem?_neg (⟨l.toArray⟩ : ByteArray) j h', List.getElem?_eq_none (by omega)]
theorem index_str (hty : TyOk P ty) {t : TypeId} (ht : tdOf ty t = .str) {l : List UInt8} {j : Nat} {b : UInt8} (hj : l[j]? = some b) (k : IntKind) (w : World) :
    (Instr.index t (.string ⟨l.toArray⟩) (.int k (j : Int))).run P w = .ok (.int .u8 b.toNat) w := by
  obtain ⟨_, d1, _, _, _, hu1, _, hm1, _⟩ := tdOf_info hty ht (by simp)
  cases mkTD_str hm1
  have : (0 : Int) ≤ (j : Int) := by omega
  simp [Instr.index, asIntOf, run_underlying hu1, bytes_get, hj]

theorem pIndexAddr_ok (hty : TyOk P ty) (hc : Cx ρ ni nb pc tm a) {t : TypeId} {x i : Operand} (ho : o.op = .indexAddr t x i) (h : pIndexAddr ty tm ni pc t x i = some (v, d)) : Pure P o a ρ v d := by
  unfold pIndexAddr at h
  simp only at h
  split at h
  · rename_i ht hx hi
    split at h
    · rename_i j hj
      cases hz : Nat.blt j _ <;> rw [hz] at h <;> simp only [cond_true, cond_false] at h <;> cases h
      refine Pure.plain hc.hni fun w => ?_
      unfold execOp
      simp only [ho, (hc.ev hx).1, (hc.ev hi).1, SV.den, A.den, litNat_eq hj, Sem.run_bind, indexAt_slice hty ht (blt_nat hz), Result.andThen_ok, Sem.run_pure]
    · cases h
  · rename_i ht hx hi
    split at h
    · rename_i j hj
      cases hz : Nat.blt j _ <;> rw [hz] at h <;> simp only [cond_true, cond_false] at h <;> cases h
      refine Pure.plain hc.hni fun w => ?_
      unfold execOp
      simp only [ho, (hc.ev hx).1, (hc.ev hi).1, SV.den, A.den, litNat_eq hj, Sem.run_bind, indexAt_slice hty ht (blt_nat hz), Result.andThen_ok, Sem.run_pure, Nat.zero_add]
    · cases h
  · rename_i ht hx hi
    split at h
    · rename_i j hj
      cases hz : Nat.blt j _ <;> rw [hz] at h <;> simp only [cond_true, cond_false] at h <;> cases h
      refine Pure.plain hc.hni fun w => ?_
      unfold execOp
      simp only [ho, (hc.ev hx).1, (hc.ev hi).1, SV.den, A.den, litNat_eq hj, Sem.run_bind, indexAt_array hty ht (blt_nat hz), Result.andThen_ok, Sem.run_pure]
    · cases h
  · rename_i ht hx hi
    split at h
    · rename_i j hj
      cases hz : Nat.blt j _ <;> rw [hz] at h <;> simp only [cond_true, cond_false] at h <;> cases h
      refine Pure.plain hc.hni fun w => ?_
      unfold execOp
      simp only [ho, (hc.ev hx).1, (hc.ev hi).1, SV.den, A.den, litNat_eq hj, Sem.run_bind, indexAt_array hty ht (blt_nat hz), Result.andThen_ok, Sem.run_pure]
    · cases h
  · cases h

theorem pIndex_ok (hty : TyOk P ty) (hc : Cx ρ ni nb pc tm a) {t : TypeId} {x i : Operand} (ho : o.op = .index t x i) (h : pIndex ty tm ni pc t x i = some (v, d)) : Pure P o a ρ v d := by
  unfold pIndex at h
  simp only at h
  split at h
  · rename_i ht hx hi
    split at h
    · rename_i j hj
      cases hz : Nat.blt j _ <;> rw [hz] at h <;> simp only [cond_true, cond_false] at h
      · cases h
      · split at h <;> cases h
        rename_i hp
        refine Pure.plain hc.hni fun w => ?_
        unfold execOp
        simp only [ho, (hc.ev hx).1, (hc.ev hi).1, SV.den, A.den, litNat_eq hj, Sem.run_bind, index_array hty ht (blt_nat hz) hp, Result.andThen_ok, Sem.run_pure]
    · cases h
  · rename_i ht hx hi
    split at h
    · rename_i j hj
      split at h
      · rename_i b hb
        cases h
        refine Pure.plain hc.hni fun w => ?_
        unfold execOp
        rw [nth_eq] at hb
        simp only [ho, (hc.ev hx).1, (hc.ev hi).1, SV.den, A.den, litNat_eq hj, Sem.run_bind, index_str hty ht hb, Result.andThen_ok, Sem.run_pure]
      · cases h
    · cases h
  · cases h

theorem pNilCheck_ok (hc : Cx ρ ni nb pc tm a) {x : Operand} (ho : o.op = .nilCheck x) (h : pNilCheck ty tm ni pc x = some (v, d)) : Pure P o a ρ v d := by
  unfold pNilCheck at h
  simp only at h
  split at h
  · rename_i hx
    cases h
    refine Pure.plain hc.hni fun w => ?_
    unfold execOp
    simp [ho, (hc.ev hx).1, SV.den]
  · rename_i hx
    cases h
    refine Pure.plain hc.hni fun w => ?_
    unfold execOp
    simp [ho, (hc.ev hx).1, SV.den]
  · cases h

end Go.SX
