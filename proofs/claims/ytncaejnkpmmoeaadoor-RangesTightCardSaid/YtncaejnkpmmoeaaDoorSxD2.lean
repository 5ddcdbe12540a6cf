/- RANGES: the plain law: what Binary answers contains all results, is monotone, and is least where the results are exact. -/
import Derived.Test.YtncaejnkpmmoeaaDoorSxB30
set_option linter.unusedVariables false
set_option linter.unusedSimpArgs false
namespace Go.SXR
open Go Go.SX Go.Proofs Go.RowKit

/-! ### Bits -/
theorem toNat64 {x : Int} (h0 : 0 ≤ x) (h : inI x) : (BitVec.ofInt 64 x).toNat = x.toNat := by
  rw [ofInt_toNat]; unfold inI at h; rw [show x % 18446744073709551616 = x by omega]
theorem w64_nat {n : Nat} (h : n < 9223372036854775808) : w64 (n : Int) = n := w64_id (by unfold inI; omega)
theorem andB_eq (x y : Int) : andB x y = w64 (((BitVec.ofInt 64 x).toNat &&& (BitVec.ofInt 64 y).toNat : Nat) : Int) := by
  show IntKind.wrap .i64 ((BitVec.ofInt 64 x &&& BitVec.ofInt 64 y).toNat : Int) = _
  rw [wrap64, BitVec.toNat_and]
theorem orB_eq (x y : Int) : orB x y = w64 (((BitVec.ofInt 64 x).toNat ||| (BitVec.ofInt 64 y).toNat : Nat) : Int) := by
  show IntKind.wrap .i64 ((BitVec.ofInt 64 x ||| BitVec.ofInt 64 y).toNat : Int) = _
  rw [wrap64, BitVec.toNat_or]
theorem xorB_eq (x y : Int) : xorB x y = w64 (((BitVec.ofInt 64 x).toNat ^^^ (BitVec.ofInt 64 y).toNat : Nat) : Int) := by
  show IntKind.wrap .i64 ((BitVec.ofInt 64 x ^^^ BitVec.ofInt 64 y).toNat : Int) = _
  rw [wrap64, BitVec.toNat_xor]
theorem andB_left {x y : Int} (hx : inI x) (h0 : 0 ≤ x) : 0 ≤ andB x y ∧ andB x y ≤ x := by
  rw [andB_eq, toNat64 h0 hx]
  have h := Nat.and_le_left (n := x.toNat) (m := (BitVec.ofInt 64 y).toNat)
  unfold inI at hx
  rw [w64_nat (by omega)]
  omega
theorem andB_right {x y : Int} (hy : inI y) (h0 : 0 ≤ y) : 0 ≤ andB x y ∧ andB x y ≤ y := by
  rw [andB_eq, toNat64 h0 hy]
  have h := Nat.and_le_right (n := (BitVec.ofInt 64 x).toNat) (m := y.toNat)
  unfold inI at hy
  rw [w64_nat (by omega)]
  omega
theorem andB_in (x y : Int) : inI (andB x y) := by rw [andB_eq]; exact w64_inI _
theorem orB_in (x y : Int) : inI (orB x y) := by rw [orB_eq]; exact w64_inI _
theorem xorB_in (x y : Int) : inI (xorB x y) := by rw [xorB_eq]; exact w64_inI _
theorem lt_len {m : Int} (h0 : 0 ≤ m) : m < p2 (lenV m) := by
  by_cases h : m ≤ 0
  · have e : lenV m = 0 := if_pos h
    rw [e]
    have : p2 0 = 1 := by decide
    omega
  · exact (len_spec (show 0 < m by omega)).2.2
theorem nat_lt_len {x m : Int} (h0 : 0 ≤ x) (h : x ≤ m) : x.toNat < 2 ^ (lenV m).toNat := by
  have := lt_len (m := m) (by omega)
  unfold p2 at this
  have e : ((2 ^ (lenV m).toNat : Nat) : Int) = 2 ^ (lenV m).toNat := by simp
  omega
theorem topV_bound {m : Int} (h0 : 0 ≤ m) (hm : m ≤ 9223372036854775807) : 0 ≤ topV m ∧ topV m ≤ 9223372036854775807 ∧ m ≤ topV m := by
  obtain ⟨h1, h2⟩ := lenV_le h0 hm
  have h3 := p2_le63 h2
  have h4 := p2_pos (lenV m)
  have h5 := lt_len h0
  unfold topV
  omega
theorem le_topV {n : Nat} {m : Int} (h0 : 0 ≤ m) (h : n < 2 ^ (lenV m).toNat) : (n : Int) ≤ topV m := by
  unfold topV p2
  have e : ((2 ^ (lenV m).toNat : Nat) : Int) = 2 ^ (lenV m).toNat := by simp
  omega
theorem orB_bound {x y m : Int} (hx : inI x) (hy : inI y) (x0 : 0 ≤ x) (y0 : 0 ≤ y) (xm : x ≤ m) (ym : y ≤ m) (hm : m ≤ 9223372036854775807) : max x y ≤ orB x y ∧ orB x y ≤ topV m := by
  rw [orB_eq, toNat64 x0 hx, toNat64 y0 hy]
  have h1 := Nat.left_le_or (n := x.toNat) (m := y.toNat)
  have h2 := Nat.right_le_or (n := x.toNat) (m := y.toNat)
  have h3 := Nat.or_lt_two_pow (nat_lt_len x0 xm) (nat_lt_len y0 ym)
  have h4 := le_topV (m := m) (by omega) h3
  have h5 := topV_bound (m := m) (by omega) hm
  rw [w64_nat (by omega)]
  omega
theorem xorB_bound {x y m : Int} (hx : inI x) (hy : inI y) (x0 : 0 ≤ x) (y0 : 0 ≤ y) (xm : x ≤ m) (ym : y ≤ m) (hm : m ≤ 9223372036854775807) : 0 ≤ xorB x y ∧ xorB x y ≤ topV m := by
  rw [xorB_eq, toNat64 x0 hx, toNat64 y0 hy]
  have h3 := Nat.xor_lt_two_pow (nat_lt_len x0 xm) (nat_lt_len y0 ym)
  have h4 := le_topV (m := m) (by omega) h3
  have h5 := topV_bound (m := m) (by omega) hm
  rw [w64_nat (by omega)]
  omega
theorem topV_mono {m n : Int} (h0 : 0 ≤ m) (h : m ≤ n) : topV m ≤ topV n := by
  unfold topV
  have : lenV m ≤ lenV n := by
    by_cases hm : m ≤ 0
    · have e : lenV m = 0 := if_pos hm
      rw [e]
      by_cases hn : n ≤ 0
      · have : lenV n = 0 := if_pos hn
        omega
      · have := (len_spec (show 0 < n by omega)).1; omega
    · by_cases hc : lenV n < lenV m
      · have h1 := (len_spec (show 0 < m by omega)).2.1
        have h2 := lt_len (m := n) (by omega)
        have h3 := p2_mono (show lenV n ≤ lenV m - 1 by omega)
        omega
      · omega
  have := p2_mono this
  omega

/-! ### What an operator makes of two values -/
def wrK (k x : Int) : Int := if k = 2 then x % 256 else x
def opV (op v w : Int) : Int :=
  if op = 1 then w64 (v * w) else if op = 2 then w64 (v.tdiv w) else if op = 3 then v.tmod w else if op = 4 then w64 (v + w) else if op = 5 then w64 (v - w) else if op = 6 then w64 (shlF v w) else if op = 7 then shrF v w
  else if op = 8 then andB v w else if op = 9 then xorB v w else if op = 10 then orB v w else if op = 17 then w64 (v * w) else max v w
def trapD (op w : Int) : Prop := (op = 2 ∨ op = 3) ∧ w = 0
instance (op w : Int) : Decidable (trapD op w) := by unfold trapD; infer_instance
def undD (op k v w : Int) : Prop := ((op = 2 ∨ op = 3) ∧ k = 1 ∧ v = -9223372036854775808 ∧ w = -1) ∨ ((op = 6 ∨ op = 7) ∧ (w < 0 ∨ topK k < w))
instance (op k v w : Int) : Decidable (undD op k v w) := by unfold undD; infer_instance
def doneV (op k v w : Int) : Int := if 11 ≤ op ∧ op ≤ 16 then (if holdsP op v w then 1 else 0) else if trapD op w ∨ undD op k v w then 0 else wrK k (opV op v w)
def doneR (op k v w : Int) : List Int := [doneV op k v w, if trapD op w then 1 else 0, if undD op k v w then 1 else 0]
/-- Pairs of two ranges that have a result. -/
def ResS (op k a b c d v w : Int) : Prop := Box a b c d v w ∧ ¬ trapD op w ∧ ¬ undD op k v w
def kOf (op k : Int) : Int := if 11 ≤ op then 3 else k
/-- Results lie in what Binary answers; and what it answers is a range of the kind. -/
structure Within (op k a b c d L H s t u : Int) : Prop where
  eq : effS op k a b c d = [L, H, s, t, u]
  bits : (s = 0 ∨ s = 1) ∧ (t = 0 ∨ t = 1) ∧ (u = 0 ∨ u = 1)
  inn : ∀ v w, ResS op k a b c d v w → s = 1 ∧ L ≤ doneV op k v w ∧ doneV op k v w ≤ H
  trap : ∀ v w, Box a b c d v w → trapD op w → t = 1
  und : ∀ v w, Box a b c d v w → undD op k v w → u = 1
  kind : s = 1 → okR (kOf op k) L H
/-- It is the least range. -/
def Least (op k a b c d L H s : Int) : Prop := (s = 1 → Ext (doneV op k) (ResS op k a b c d) L H) ∧ (s = 0 → (L = 0 ∧ H = 0) ∧ ∀ v w, ¬ ResS op k a b c d v w)

theorem br_in' {a b x : Int} (h1 : a ≤ x) (h2 : x ≤ b) : brL 2 a b ≤ x % 256 ∧ x % 256 ≤ brH 2 a b ∧ 0 ≤ brL 2 a b ∧ brH 2 a b ≤ 255 ∧ brL 2 a b ≤ brH 2 a b := by
  unfold brL brH fullL fullH
  (repeat' split) <;> omega
theorem w64_256 (x : Int) : w64 x % 256 = x % 256 := by unfold w64; omega
theorem br_within {k lo hi x : Int} (hk : k = 1 ∨ k = 2) (h1 : lo ≤ x) (h2 : x ≤ hi) : (brL k lo hi ≤ wrK k (w64 x) ∧ wrK k (w64 x) ≤ brH k lo hi) ∧ okR k (brL k lo hi) (brH k lo hi) := by
  rcases hk with rfl | rfl
  · have e : wrK 1 (w64 x) = w64 x := rfl
    rw [e]
    by_cases hi' : inI lo ∧ inI hi
    · have e2 : w64 x = x := w64_id (by unfold inI at *; omega)
      have e3 : brL 1 lo hi = lo := by unfold brL; simp [hi']
      have e4 : brH 1 lo hi = hi := by unfold brH; simp [hi']
      rw [e2, e3, e4]
      exact ⟨⟨h1, h2⟩, .inl rfl, by omega⟩
    · have hw := w64_inI x
      have e3 : brL 1 lo hi = -9223372036854775808 := by unfold brL; rw [if_pos hi']; rfl
      have e4 : brH 1 lo hi = 9223372036854775807 := by unfold brH; rw [if_pos hi']; rfl
      rw [e3, e4]
      unfold inI at hw
      exact ⟨hw, .inl rfl, by omega⟩
  · have e : wrK 2 (w64 x) = x % 256 := w64_256 x
    rw [e]
    obtain ⟨g1, g2, g3, g4, g5⟩ := br_in' h1 h2
    exact ⟨⟨g1, g2⟩, .inr (.inl ⟨rfl, g3, g4⟩), g5⟩
theorem br_mono {k lo hi lo' hi' : Int} (hk : k = 1 ∨ k = 2) (h : lo ≤ hi) (h1 : lo' ≤ lo) (h2 : hi ≤ hi') : brL k lo' hi' ≤ brL k lo hi ∧ brH k lo hi ≤ brH k lo' hi' := by
  rcases hk with rfl | rfl
  · unfold brL brH fullL fullH inI
    simp only [if_true]
    constructor <;> (repeat' split) <;> omega
  · unfold brL brH fullL fullH
    constructor <;> (repeat' split) <;> first | omega | (unfold inI at *; omega)


/-! ### Sums, differences, products -/
theorem within_br {op k a b c d lo hi : Int} {f : Int → Int → Int} (heff : effS op k a b c d = br k lo hi ++ [1, 0, 0]) (hext : Ext f (Box a b c d) lo hi) (hd : ∀ v w, doneV op k v w = wrK k (w64 (f v w))) (ht : ∀ w, ¬ trapD op w) (hu : ∀ v w, ¬ undD op k v w)
    (hk : k = 1 ∨ k = 2) (hop : op < 11) : Within op k a b c d (brL k lo hi) (brH k lo hi) 1 0 0 := by
  refine ⟨heff, ⟨.inr rfl, .inl rfl, .inl rfl⟩, fun v w h => ⟨rfl, ?_⟩, fun v w _ h => absurd h (ht w), fun v w _ h => absurd h (hu v w), fun _ => ?_⟩
  · rw [hd]
    have := hext.all v w h.1
    exact (br_within hk this.1 this.2).1
  · have e : kOf op k = k := if_neg (by omega)
    rw [e]
    exact (br_within hk (Int.le_refl lo) hext.le).2
theorem least_br {op a b c d lo hi : Int} {f : Int → Int → Int} (hext : Ext f (Box a b c d) lo hi) (hd : ∀ v w, doneV op 1 v w = wrK 1 (w64 (f v w))) (ht : ∀ w, ¬ trapD op w) (hu : ∀ v w, ¬ undD op 1 v w) (hi' : inI lo ∧ inI hi) : Ext (doneV op 1) (ResS op 1 a b c d) (brL 1 lo hi) (brH 1 lo hi) := by
  have e3 : brL 1 lo hi = lo := by unfold brL; simp [hi']
  have e4 : brH 1 lo hi = hi := by unfold brH; simp [hi']
  rw [e3, e4]
  have hx : ∀ v w, Box a b c d v w → doneV op 1 v w = f v w := fun v w hb => by
    rw [hd]
    have := hext.all v w hb
    exact w64_id (by unfold inI at *; omega)
  refine ⟨fun v w h => by rw [hx v w h.1]; exact hext.all v w h.1, ?_, ?_⟩
  · obtain ⟨v, w, hb, e⟩ := hext.low
    exact ⟨v, w, ⟨hb, ht w, hu v w⟩, by rw [hx v w hb, e]⟩
  · obtain ⟨v, w, hb, e⟩ := hext.high
    exact ⟨v, w, ⟨hb, ht w, hu v w⟩, by rw [hx v w hb, e]⟩
theorem no_trap {op w : Int} (h2 : op ≠ 2) (h3 : op ≠ 3) : ¬ trapD op w := by unfold trapD; omega
theorem no_und {op k v w : Int} (h2 : op ≠ 2) (h3 : op ≠ 3) (h6 : op ≠ 6) (h7 : op ≠ 7) : ¬ undD op k v w := by unfold undD; omega
theorem done_plain {op k v w : Int} (h1 : ¬ (11 ≤ op ∧ op ≤ 16)) (h2 : op ≠ 2) (h3 : op ≠ 3) (h6 : op ≠ 6) (h7 : op ≠ 7) : doneV op k v w = wrK k (opV op v w) := by
  unfold doneV
  rw [if_neg h1, if_neg]
  rintro (h | h)
  · exact no_trap h2 h3 h
  · exact no_und h2 h3 h6 h7 h
theorem done_res {op k v w : Int} (h1 : ¬ (11 ≤ op ∧ op ≤ 16)) (ht : ¬ trapD op w) (hu : ¬ undD op k v w) : doneV op k v w = wrK k (opV op v w) := by
  unfold doneV
  rw [if_neg h1, if_neg (fun h => h.elim ht hu)]
theorem box_mono {a b c d a' b' c' d' v w : Int} (h : Box a b c d v w) (h1 : a' ≤ a) (h2 : b ≤ b') (h3 : c' ≤ c) (h4 : d ≤ d') : Box a' b' c' d' v w := by unfold Box at *; omega

/-! ### Quotients -/
theorem okR_12 {op k a b : Int} (hk : k = 1 ∨ k = 2) (h : okR k a b) : k = 1 ∨ (k = 2 ∧ 0 ≤ a ∧ b ≤ 255) := by unfold okR at h; omega
theorem res_div {k a b c d v w : Int} (hk : k = 1 ∨ (k = 2 ∧ 0 ≤ a ∧ b ≤ 255)) : ResS 2 k a b c d v w ↔ DivS a b c d v w := by
  unfold ResS DivS trapD undD Box LST
  rcases hk with rfl | ⟨rfl, h1, h2⟩ <;> omega
theorem done_div {k a b c d v w : Int} (hk : k = 1 ∨ (k = 2 ∧ (0 ≤ a ∧ b ≤ 255) ∧ 0 ≤ c)) (ha : inI a) (hb : inI b) (h : DivS a b c d v w) : doneV 2 k v w = v.tdiv w ∧ (k = 1 → inI (v.tdiv w)) ∧ (k = 2 → 0 ≤ v.tdiv w ∧ v.tdiv w ≤ 255) := by
  have hr : ResS 2 k a b c d v w := (res_div (by omega)).2 h
  obtain ⟨hbx, hw, hn⟩ := h
  have hv : inI v := by unfold Box at hbx; unfold inI at *; omega
  have hi := tdiv_in hv hw hn
  have e : doneV 2 k v w = wrK k (w64 (v.tdiv w)) := by
    rw [done_res (by omega) hr.2.1 hr.2.2]; rfl
  rw [e, w64_id hi]
  rcases hk with rfl | ⟨rfl, h1, h2⟩
  · exact ⟨rfl, (fun _ => hi), (fun q => by cases q)⟩
  · have h0 : 0 ≤ v := by unfold Box at hbx; omega
    have hwp : 0 < w := by unfold Box at hbx; omega
    have g1 : 0 ≤ v.tdiv w := Int.tdiv_nonneg h0 (Int.le_of_lt hwp)
    have g2 : v.tdiv w ≤ v := by
      have := div_anti h0 (show (0 : Int) < 1 by decide) (show 1 ≤ w by omega)
      rwa [Int.tdiv_one] at this
    have g3 : v.tdiv w ≤ 255 := by unfold Box at hbx; omega
    refine ⟨?_, (fun q => by cases q), fun _ => ⟨g1, g3⟩⟩
    show v.tdiv w % 256 = v.tdiv w
    omega
theorem quot_ext {k a b c d : Int} (hk : k = 1 ∨ (k = 2 ∧ (0 ≤ a ∧ b ≤ 255) ∧ 0 ≤ c)) (ha : inI a) (hb : inI b) (hab : a ≤ b) (hcd : c ≤ d) (hs : someD b c d) : Ext (doneV 2 k) (ResS 2 k a b c d) (extLo Int.tdiv (DivS a b c d)) (extHi Int.tdiv (DivS a b c d)) := by
  have e := ext_quot ha.1 hab hcd hs
  rw [extLo_eq e, extHi_eq e]
  have hr : ∀ v w, ResS 2 k a b c d v w ↔ DivS a b c d v w := fun v w => res_div (by omega)
  refine ⟨fun v w h => ?_, ?_, ?_⟩
  · rw [(done_div hk ha hb ((hr v w).1 h)).1]; exact e.all v w ((hr v w).1 h)
  · obtain ⟨v, w, h, q⟩ := e.low
    exact ⟨v, w, (hr v w).2 h, by rw [(done_div hk ha hb h).1, q]⟩
  · obtain ⟨v, w, h, q⟩ := e.high
    exact ⟨v, w, (hr v w).2 h, by rw [(done_div hk ha hb h).1, q]⟩
theorem someD_res {k a b c d : Int} (hk : k = 1 ∨ (k = 2 ∧ 0 ≤ a ∧ b ≤ 255)) (ha : inI a) (hab : a ≤ b) (hcd : c ≤ d) : someD b c d ↔ ∃ v w, ResS 2 k a b c d v w := by
  rw [someD_iff ha.1 hab hcd]
  constructor <;> rintro ⟨v, w, h⟩
  · exact ⟨v, w, (res_div hk).2 h⟩
  · exact ⟨v, w, (res_div hk).1 h⟩
theorem within_2 {k a b c d : Int} (hk0 : k = 1 ∨ k = 2) (ha : inI a) (hb : inI b) (o1 : okR k a b) (o2 : okR k c d) : Within 2 k a b c d (extLo Int.tdiv (DivS a b c d)) (extHi Int.tdiv (DivS a b c d)) (if someD b c d then 1 else 0) (trapV c d) (undV k a b c d) := by
  have hab := o1.2
  have hcd := o2.2
  have hk : k = 1 ∨ (k = 2 ∧ (0 ≤ a ∧ b ≤ 255) ∧ 0 ≤ c) := by unfold okR at o1 o2; omega
  refine ⟨rfl, ⟨by split <;> simp, by unfold trapV; split <;> simp, by unfold undV; split <;> simp⟩, fun v w h => ?_, fun v w hbx ht => ?_, fun v w hbx hu => ?_, fun hs => ?_⟩
  · have hs : someD b c d := (someD_res (by omega) ha hab hcd).2 ⟨v, w, h⟩
    exact ⟨if_pos hs, (quot_ext hk ha hb hab hcd hs).all v w h⟩
  · unfold trapD at ht
    unfold Box at hbx
    exact if_pos (by omega)
  · unfold undD at hu
    unfold Box at hbx
    exact if_pos (by omega)
  · have hs' : someD b c d := by
      by_cases h : someD b c d
      · exact h
      · rw [if_neg h] at hs; cases hs
    have e := quot_ext hk ha hb hab hcd hs'
    have hle := e.le
    obtain ⟨v, w, h1, q1⟩ := e.low
    obtain ⟨v', w', h2, q2⟩ := e.high
    have g1 := done_div hk ha hb ((res_div (by omega)).1 h1)
    have g2 := done_div hk ha hb ((res_div (by omega)).1 h2)
    rw [g1.1] at q1
    rw [g2.1] at q2
    have ek : kOf 2 k = k := rfl
    rw [ek]
    rcases hk0 with rfl | rfl
    · exact ⟨.inl rfl, hle⟩
    · have := g1.2.2 rfl
      have := g2.2.2 rfl
      exact ⟨.inr (.inl ⟨rfl, by omega, by omega⟩), hle⟩

/-! ### Remainders -/
theorem sizes_bound {c d w : Int} (h1 : c ≤ w) (h2 : w ≤ d) (hw : w ≠ 0) : minL (sizesL c d) ≤ ab w ∧ ab w ≤ maxL (sizesL c d) := by
  have mem : ∃ x ∈ sizesL c d, ∃ y ∈ sizesL c d, x ≤ ab w ∧ ab w ≤ y := by
    unfold ab
    rcases Int.lt_or_gt_of_ne hw with h | h
    · refine ⟨ab (min d (-1)), ?_, ab c, ?_, by unfold ab; omega, by unfold ab; omega⟩
      · unfold sizesL; rw [if_pos (by omega)]; simp
      · unfold sizesL; rw [if_pos (by omega)]; simp
    · refine ⟨ab (max c 1), ?_, ab d, ?_, by unfold ab; omega, by unfold ab; omega⟩
      · unfold sizesL; rw [if_pos (show 1 ≤ d by omega)]; simp
      · unfold sizesL; rw [if_pos (show 1 ≤ d by omega)]; simp
  obtain ⟨x, hx, y, hy, g1, g2⟩ := mem
  have := minL_le hx
  have := le_maxL hy
  omega
theorem sizes_at {c d x : Int} (hcd : c ≤ d) (h : x ∈ sizesL c d) : ∃ w, c ≤ w ∧ w ≤ d ∧ w ≠ 0 ∧ ab w = x := by
  simp only [sizesL, List.mem_append] at h
  rcases h with h | h <;> split at h <;> first | exact absurd h List.not_mem_nil | skip
  · rename_i hn
    simp only [List.mem_cons, List.not_mem_nil, or_false] at h
    rcases h with rfl | rfl
    · exact ⟨c, by omega, by omega, by omega, rfl⟩
    · exact ⟨min d (-1), by omega, by omega, by omega, rfl⟩
  · rename_i hp
    simp only [List.mem_cons, List.not_mem_nil, or_false] at h
    rcases h with rfl | rfl
    · exact ⟨max c 1, by omega, by omega, by omega, rfl⟩
    · exact ⟨d, by omega, by omega, by omega, rfl⟩
theorem rest_bound {a b c d v w : Int} (h : Box a b c d v w) (hw : w ≠ 0) : restL a b c d ≤ v.tmod w ∧ v.tmod w ≤ restH a b c d := by
  obtain ⟨⟨h1, h2⟩, h3, h4⟩ := h
  obtain ⟨s1, s2⟩ := sizes_bound h3 h4 hw
  unfold restL restH
  by_cases hc : ab a < minL (sizesL c d) ∧ ab b < minL (sizesL c d)
  · rw [if_pos hc, if_pos hc, tmod_small (by unfold ab at *; omega)]
    exact ⟨h1, h2⟩
  · rw [if_neg hc, if_neg hc]
    obtain ⟨t1, t2, t3, t4⟩ := tmod_bounds v w hw
    unfold ab at s2
    rcases Int.le_total 0 v with h0 | h0
    · have := t1 h0; omega
    · have := t2 h0; omega
theorem rem_some {k a b c d : Int} (hk : k = 1 ∨ (k = 2 ∧ 0 ≤ a ∧ b ≤ 255)) (v w : Int) : ResS 3 k a b c d v w ↔ DivS a b c d v w := by
  unfold ResS DivS trapD undD Box LST
  rcases hk with rfl | ⟨rfl, h1, h2⟩ <;> omega
theorem within_3 {k a b c d : Int} (hk0 : k = 1 ∨ k = 2) (ha : inI a) (hb : inI b) (hc : inI c) (hd : inI d) (o1 : okR k a b) (o2 : okR k c d) : ∃ L H s, Within 3 k a b c d L H s (trapV c d) (undV k a b c d) ∧ (s = 1 ↔ someD b c d) ∧ (someD b c d → L = restL a b c d ∧ H = restH a b c d) := by
  have hab := o1.2
  have hcd := o2.2
  have hk : k = 1 ∨ (k = 2 ∧ 0 ≤ a ∧ b ≤ 255) := by unfold okR at o1 o2; omega
  have ht : ∀ v w, Box a b c d v w → trapD 3 w → trapV c d = 1 := fun v w hbx ht => by
    unfold trapD at ht; unfold Box at hbx; exact if_pos (by omega)
  have hu : ∀ v w, Box a b c d v w → undD 3 k v w → undV k a b c d = 1 := fun v w hbx hu => by
    unfold undD at hu; unfold Box at hbx; exact if_pos (by omega)
  have b2 : trapV c d = 0 ∨ trapV c d = 1 := by unfold trapV; split <;> simp
  have b3 : undV k a b c d = 0 ∨ undV k a b c d = 1 := by unfold undV; split <;> simp
  by_cases hs : someD b c d
  · refine ⟨restL a b c d, restH a b c d, 1, ⟨if_pos hs, ⟨.inr rfl, b2, b3⟩, fun v w h => ⟨rfl, ?_⟩, ht, hu, fun _ => ?_⟩, ⟨fun _ => hs, fun _ => rfl⟩, fun _ => ⟨rfl, rfl⟩⟩
    · have hD := (rem_some hk v w).1 h
      have hb' := rest_bound hD.1 hD.2.1
      have e : doneV 3 k v w = wrK k (v.tmod w) := by rw [done_res (by omega) h.2.1 h.2.2]; rfl
      rw [e]
      rcases hk with rfl | ⟨rfl, h1, h2⟩
      · exact hb'
      · have h0 : 0 ≤ v := by have := hD.1; unfold Box at this; omega
        have h5 : v ≤ 255 := by have := hD.1; unfold Box at this; omega
        have := (tmod_bounds v w hD.2.1).1 h0
        have e2 : wrK 2 (v.tmod w) = v.tmod w := by show v.tmod w % 256 = _; omega
        rw [e2]; exact hb'
    · obtain ⟨v, w, hD⟩ := (someD_iff ha.1 hab hcd).1 hs
      have hb' := rest_bound hD.1 hD.2.1
      have ek : kOf 3 k = k := rfl
      rw [ek]
      have hM := maxS hc hd hcd (by unfold someD at hs; omega)
      rcases hk with rfl | ⟨rfl, h1, h2⟩
      · exact ⟨.inl rfl, by omega⟩
      · refine ⟨.inr (.inl ⟨rfl, ?_, ?_⟩), by omega⟩
        · unfold restL; split
          · exact h1
          · omega
        · unfold restH; split
          · exact h2
          · omega
  · refine ⟨0, 0, 0, ⟨if_neg hs, ⟨.inl rfl, b2, b3⟩, fun v w h => ?_, ht, hu, fun h => by cases h⟩, ⟨(fun h => by cases h), fun h => absurd h hs⟩, fun h => absurd h hs⟩
    exact absurd ((someD_iff ha.1 hab hcd).2 ⟨v, w, (rem_some hk v w).1 h⟩) hs
theorem rest_mono {a b c d a' b' c' d' : Int} (hab : a ≤ b) (hcd : c ≤ d) (hne : c ≤ -1 ∨ 1 ≤ d) (hc : inI c') (hd : inI d') (h1 : a' ≤ a) (h2 : b ≤ b') (h3 : c' ≤ c) (h4 : d ≤ d') : restL a' b' c' d' ≤ restL a b c d ∧ restH a b c d ≤ restH a' b' c' d' := by
  have hne' : c' ≤ -1 ∨ 1 ≤ d' := by omega
  obtain ⟨w1, p1, p2', p3, p4⟩ := sizes_at hcd (minL_mem (sizes_ne hne))
  obtain ⟨w2, q1, q2, q3, q4⟩ := sizes_at hcd (maxL_mem (sizes_ne hne))
  have s1 := sizes_bound (c := c') (d := d') (w := w1) (by omega) (by omega) p3
  have s2 := sizes_bound (c := c') (d := d') (w := w2) (by omega) (by omega) q3
  have hM := maxS hc hd (by omega) hne'
  have s3 := sizes_bound (c := c) (d := d) (w := w1) p1 p2' p3
  rw [p4] at s1 s3
  rw [q4] at s2
  unfold restL restH
  generalize minL (sizesL c d) = lo at *
  generalize maxL (sizesL c d) = hi at *
  generalize minL (sizesL c' d') = lo' at *
  generalize maxL (sizesL c' d') = hi' at *
  unfold ab at *
  constructor <;> (repeat' split) <;> omega

end Go.SXR
