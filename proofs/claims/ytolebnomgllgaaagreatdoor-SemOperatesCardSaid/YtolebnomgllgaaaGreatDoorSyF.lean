/- The symbolic executor SY, part F: the table of types, out of the program. -/
import Derived.Test.YtolebnomgllgaaaGreatDoorSyD
namespace Go.SY
open Go
noncomputable section
def fieldsTD (P : Program) : List Field → Option (List (Nat × Nat × Nat))
  | [] => some []
  | f :: l => match P.info? f.type with
    | none => none
    | some i => match fieldsTD P l with
      | none => none
      | some r => some ((f.type, f.offset, i.size) :: r)
def namesOk : List Field → Bool
  | [] => true
  | f :: l => !(f.name == "_") && namesOk l
def mkTD (P : Program) (t : TypeId) : TypeDesc → Option TD
  | .bool => some .bool
  | .int k => some (.int k)
  | .string => some .str
  | .pointer e => some (.ptr e)
  | .slice e => match P.info? e with
    | some i => some (.slice e i.size)
    | none => none
  | .array n e => match P.info? e with
    | some i => some (.arr n e i.size)
    | none => none
  | .map k e => some (.map k e)
  | .struct fs => match fieldsTD P fs.toList with
    | some l => some (.struct l (!P.eqGuardType P.depth t && !P.stoodInHeld t && namesOk fs.toList))
    | none => none
  | .func _ _ _ => some .func
  | .interface _ => some .iface
  | _ => none
def zeroOf (td : TD) (z : Value) : Option (List SV) :=
  bif td.agg then (match z with
    | .agg cs => ofVals cs.toList
    | _ => none) else (match ofVal1 z with
    | some s => some [s]
    | none => none)
def mkTE (P : Program) (t : TypeId) : Option TE :=
  match P.underlying t, P.info? t with
  | some d, some i => match mkTD P t d with
    | some td => some ⟨td, i.size, i.bytes, match i.zero with
      | some z => zeroOf td z
      | none => none⟩
    | none => none
  | _, _ => none
def mkTy (P : Program) : List Nat → Ty
  | [] => .e
  | t :: l => match mkTE P t with
    | some e => (mkTy P l).put t e
    | none => mkTy P l
def lookTD (t : Nat) : List (Nat × TD) → Option TD
  | [] => none
  | x :: l => bif Nat.beq x.1 t then some x.2 else lookTD t l
def isSl (P : Program) (t : Nat) : Bool := match P.underlying t with
  | some (.slice _) => true
  | _ => false
def mkTyX (P : Program) (md : List (Nat × TD)) : List Nat → Ty
  | [] => .e
  | t :: l => bif Nat.blt t 1000000 then (match mkTE P t with
      | some e => (match (lookTD t md).getD e.d with
        | td => bif decide (td.un = e.d) then (mkTyX P md l).put t { e with d := td } else mkTyX P md l)
      | none => mkTyX P md l)
    else (match lookTD t md with
      | some td => bif td.isH && isSl P (un t) then (mkTyX P md l).put t ⟨td, 1, 24, none⟩ else mkTyX P md l
      | none => mkTyX P md l)
end
end Go.SY
set_option linter.unusedVariables false
set_option linter.unusedSimpArgs false
namespace Go.SY
open Go Go.RowKit
noncomputable section
theorem Tb.get_e {α : Type} (i : Nat) : (Tb.e : Tb α).get i = none := rfl
theorem Tb.get_n0 {α : Type} (l r : Tb α) (v : Option α) : (Tb.n l v r).get 0 = v := rfl
theorem Tb.get_ns {α : Type} (l r : Tb α) (v : Option α) (i : Nat) : (Tb.n l v r).get (i + 1) = if i % 2 = 0 then l.get (i / 2) else r.get (i / 2) := by
  rw [Tb.get_eq]
  show (bif Nat.beq (Nat.mod i 2) 0 then l.getC (Nat.div i 2) else r.getC (Nat.div i 2)) = _
  by_cases h : i % 2 = 0
  · rw [if_pos h, show Nat.beq (Nat.mod i 2) 0 = true from Nat.beq_eq.mpr h]; rfl
  · rw [if_neg h, show Nat.beq (Nat.mod i 2) 0 = false from by
      cases hb : Nat.beq (Nat.mod i 2) 0
      · rfl
      · exact absurd (Nat.eq_of_beq_eq_true hb) h]; rfl
theorem Tb.set_e0 {α : Type} (f : Nat) (x : α) : Tb.set (f + 1) .e 0 x = .n .e (some x) .e := rfl
theorem Tb.set_es {α : Type} (f i : Nat) (x : α) : Tb.set (f + 1) .e (i + 1) x = if i % 2 = 0 then .n (Tb.set f .e (i / 2) x) none .e else .n .e none (Tb.set f .e (i / 2) x) := by
  rw [Tb.set_eq]
  show (bif Nat.beq (Nat.mod i 2) 0 then Tb.n (Tb.setC f .e (Nat.div i 2) x) none .e else .n .e none (Tb.setC f .e (Nat.div i 2) x)) = _
  by_cases h : i % 2 = 0
  · rw [if_pos h, show Nat.beq (Nat.mod i 2) 0 = true from Nat.beq_eq.mpr h]; rfl
  · rw [if_neg h, show Nat.beq (Nat.mod i 2) 0 = false from by
      cases hb : Nat.beq (Nat.mod i 2) 0
      · rfl
      · exact absurd (Nat.eq_of_beq_eq_true hb) h]; rfl
theorem Tb.set_n0 {α : Type} (f : Nat) (l r : Tb α) (v : Option α) (x : α) : Tb.set (f + 1) (.n l v r) 0 x = .n l (some x) r := rfl
theorem Tb.set_ns {α : Type} (f i : Nat) (l r : Tb α) (v : Option α) (x : α) : Tb.set (f + 1) (.n l v r) (i + 1) x = if i % 2 = 0 then .n (Tb.set f l (i / 2) x) v r else .n l v (Tb.set f r (i / 2) x) := by
  rw [Tb.set_eq]
  show (bif Nat.beq (Nat.mod i 2) 0 then Tb.n (Tb.setC f l (Nat.div i 2) x) v r else .n l v (Tb.setC f r (Nat.div i 2) x)) = _
  by_cases h : i % 2 = 0
  · rw [if_pos h, show Nat.beq (Nat.mod i 2) 0 = true from Nat.beq_eq.mpr h]; rfl
  · rw [if_neg h, show Nat.beq (Nat.mod i 2) 0 = false from by
      cases hb : Nat.beq (Nat.mod i 2) 0
      · rfl
      · exact absurd (Nat.eq_of_beq_eq_true hb) h]; rfl
theorem Tb.get_set {α : Type} : ∀ (f : Nat) (t : Tb α) (d : Nat) (x : α) (i : Nat) (v : α), (Tb.set f t d x).get i = some v → (i = d ∧ v = x) ∨ (i ≠ d ∧ t.get i = some v)
  | 0, t, d, x, i, v, h => by rw [show Tb.set 0 t d x = .e from rfl, Tb.get_e] at h; cases h
  | f + 1, .e, 0, x, i, v, h => by
    rw [Tb.set_e0] at h
    cases i with
    | zero => rw [Tb.get_n0] at h; cases h; exact .inl ⟨rfl, rfl⟩
    | succ i => rw [Tb.get_ns] at h; split at h <;> rw [Tb.get_e] at h <;> cases h
  | f + 1, .e, d + 1, x, i, v, h => by
    rw [Tb.set_es] at h
    split at h
    · rename_i hd
      cases i with
      | zero => rw [Tb.get_n0] at h; cases h
      | succ i =>
        rw [Tb.get_ns] at h
        split at h
        · rename_i hi
          rcases Tb.get_set f .e (d / 2) x (i / 2) v h with ⟨h1, h2⟩ | ⟨h1, h2⟩
          · exact .inl ⟨by omega, h2⟩
          · rw [Tb.get_e] at h2; cases h2
        · rw [Tb.get_e] at h; cases h
    · rename_i hd
      cases i with
      | zero => rw [Tb.get_n0] at h; cases h
      | succ i =>
        rw [Tb.get_ns] at h
        split at h
        · rw [Tb.get_e] at h; cases h
        · rename_i hi
          rcases Tb.get_set f .e (d / 2) x (i / 2) v h with ⟨h1, h2⟩ | ⟨h1, h2⟩
          · exact .inl ⟨by omega, h2⟩
          · rw [Tb.get_e] at h2; cases h2
  | f + 1, .n l u r, 0, x, i, v, h => by
    rw [Tb.set_n0] at h
    cases i with
    | zero => rw [Tb.get_n0] at h; cases h; exact .inl ⟨rfl, rfl⟩
    | succ i => exact .inr ⟨by omega, by rw [Tb.get_ns] at h ⊢; exact h⟩
  | f + 1, .n l u r, d + 1, x, i, v, h => by
    rw [Tb.set_ns] at h
    split at h
    · rename_i hd
      cases i with
      | zero => exact .inr ⟨by omega, by rw [Tb.get_n0] at h ⊢; exact h⟩
      | succ i =>
        rw [Tb.get_ns] at h
        split at h
        · rename_i hi
          rcases Tb.get_set f l (d / 2) x (i / 2) v h with ⟨h1, h2⟩ | ⟨h1, h2⟩
          · exact .inl ⟨by omega, h2⟩
          · exact .inr ⟨by omega, by rw [Tb.get_ns, if_pos hi]; exact h2⟩
        · rename_i hi
          exact .inr ⟨by omega, by rw [Tb.get_ns, if_neg hi]; exact h⟩
    · rename_i hd
      cases i with
      | zero => exact .inr ⟨by omega, by rw [Tb.get_n0] at h ⊢; exact h⟩
      | succ i =>
        rw [Tb.get_ns] at h
        split at h
        · rename_i hi
          exact .inr ⟨by omega, by rw [Tb.get_ns, if_pos hi]; exact h⟩
        · rename_i hi
          rcases Tb.get_set f r (d / 2) x (i / 2) v h with ⟨h1, h2⟩ | ⟨h1, h2⟩
          · exact .inl ⟨by omega, h2⟩
          · exact .inr ⟨by omega, by rw [Tb.get_ns, if_neg hi]; exact h2⟩
theorem Tb.get_put {α : Type} {t : Tb α} {d : Nat} {x : α} {i : Nat} {v : α} (h : (t.put d x).get i = some v) : (i = d ∧ v = x) ∨ (i ≠ d ∧ t.get i = some v) := Tb.get_set 40 t d x i v h
theorem get_ofL {α : Type} : ∀ (l : List α) (m : Nat) (t : Tb α) (i : Nat) (v : α), (Tb.ofL l m t).get i = some v → (m ≤ i ∧ l[i - m]? = some v) ∨ t.get i = some v
  | [], _, _, _, _, h => .inr h
  | x :: l, m, t, i, v, h => by
    rcases get_ofL l (m + 1) (t.put m x) i v h with ⟨h1, h2⟩ | h1
    · refine .inl ⟨by omega, ?_⟩
      rw [show i - m = (i - (m + 1)) + 1 from by omega, List.getElem?_cons_succ]; exact h2
    · rcases Tb.get_put h1 with ⟨rfl, rfl⟩ | ⟨_, h3⟩
      · exact .inl ⟨Nat.le_refl _, by simp⟩
      · exact .inr h3
theorem nth_eq {α : Type} : ∀ (l : List α) (n : Nat), nth l n = l[n]?
  | [], _ => by cases ‹Nat› <;> rfl
  | x :: l, 0 => rfl
  | x :: l, n + 1 => by show nth l n = _; rw [nth_eq l n]; rfl
theorem dropN_eq {α : Type} : ∀ (n : Nat) (l : List α), dropN n l = l.drop n
  | 0, l => rfl
  | n + 1, [] => rfl
  | n + 1, x :: l => by show dropN n l = _; rw [dropN_eq n l]; rfl
theorem takeN_eq {α : Type} : ∀ (n : Nat) (l r : List α), takeN n l = some r → n ≤ l.length ∧ r = l.take n
  | 0, l, r, h => by cases h; exact ⟨Nat.zero_le _, rfl⟩
  | n + 1, [], r, h => by cases h
  | n + 1, x :: l, r, h => by
    simp only [takeN] at h
    split at h
    · rename_i s hs
      cases h
      obtain ⟨h1, rfl⟩ := takeN_eq n l s hs
      exact ⟨by simp; omega, rfl⟩
    · cases h
theorem setN_eq {α : Type} : ∀ (l : List α) (n : Nat) (y : α), setN l n y = l.set n y
  | [], _, _ => rfl
  | x :: l, 0, y => rfl
  | x :: l, n + 1, y => by show x :: setN l n y = _; rw [setN_eq l n y]; rfl
theorem putN_spec {α : Type} : ∀ (l : List α) (n : Nat) (ys r : List α), putN l n ys = some r → r.length = l.length ∧ n + ys.length ≤ l.length ∧ ∀ j, r[j]? = if n ≤ j ∧ j < n + ys.length then ys[j - n]? else l[j]?
  | l, 0, [], r, h => by
    simp only [putN] at h; cases h
    exact ⟨rfl, by simp, fun j => by rw [if_neg (by simp)]⟩
  | [], 0, y :: ys, r, h => by simp [putN] at h
  | [], n + 1, ys, r, h => by simp [putN] at h
  | x :: l, 0, y :: ys, r, h => by
    simp only [putN] at h
    split at h
    · rename_i s hs
      cases h
      obtain ⟨h1, h2, h3⟩ := putN_spec l 0 ys s hs
      refine ⟨by simp [h1], by simp at h2 ⊢; omega, fun j => ?_⟩
      cases j with
      | zero => simp
      | succ j =>
        simp only [List.getElem?_cons_succ, h3 j, List.length_cons, Nat.zero_le, true_and, Nat.zero_add, Nat.sub_zero]
        by_cases hj : j < ys.length
        · rw [if_pos hj, if_pos (by omega)]
        · rw [if_neg hj, if_neg (by omega)]
    · cases h
  | x :: l, n + 1, ys, r, h => by
    simp only [putN] at h
    split at h
    · rename_i s hs
      cases h
      obtain ⟨h1, h2, h3⟩ := putN_spec l n ys s hs
      refine ⟨by simp [h1], by simp; omega, fun j => ?_⟩
      cases j with
      | zero => rw [if_neg (by omega)]; rfl
      | succ j =>
        simp only [List.getElem?_cons_succ, h3 j]
        by_cases hj : n ≤ j ∧ j < n + ys.length
        · rw [if_pos hj, if_pos (by omega)]; congr 1; omega
        · rw [if_neg hj, if_neg (by omega)]
    · cases h
theorem beq_nat {a b : Nat} (h : Nat.beq a b = true) : a = b := Nat.eq_of_beq_eq_true h
theorem blt_nat {a b : Nat} (h : Nat.blt a b = true) : a < b := by
  unfold Nat.blt at h; exact Nat.le_of_ble_eq_true h
theorem ble_nat {a b : Nat} (h : Nat.ble a b = true) : a ≤ b := Nat.le_of_ble_eq_true h
theorem bsEq_eq : ∀ {a b : List UInt8}, bsEq a b = true → a = b
  | [], [], _ => rfl
  | [], _ :: _, h => by cases h
  | _ :: _, [], h => by cases h
  | a :: x, b :: y, h => by
    simp only [bsEq, Bool.and_eq_true] at h
    rw [bsEq_eq h.2, UInt8.toNat_inj.1 (beq_nat h.1)]
theorem bsEq_refl : ∀ (a : List UInt8), bsEq a a = true
  | [] => rfl
  | a :: x => by simp only [bsEq, Bool.and_eq_true]; exact ⟨Nat.beq_refl _, bsEq_refl x⟩
theorem bsEq_iff (a b : List UInt8) : bsEq a b = (a == b) := by
  cases h : bsEq a b
  · symm; rw [beq_eq_false_iff_ne]; intro e; rw [e, bsEq_refl] at h; cases h
  · rw [bsEq_eq h]; simp
mutual
theorem Dt.beq_eq : ∀ {a b : Dt}, a.beq b = true → a = b
  | .num a, .num b, h => by simp [Dt.beq] at h; rw [h]
  | .tru a, .tru b, h => by simp [Dt.beq] at h; rw [h]
  | .byt a, .byt b, h => by simp only [Dt.beq] at h; rw [bsEq_eq h]
  | .nil, .nil, _ => rfl
  | .row a, .row b, h => by simp only [Dt.beq] at h; rw [Dt.beqs_eq h]
  | .tup a, .tup b, h => by simp only [Dt.beq] at h; rw [Dt.beqs_eq h]
  | .num _, .tru _, h | .num _, .byt _, h | .num _, .nil, h | .num _, .row _, h | .num _, .tup _, h => by simp [Dt.beq] at h
  | .tru _, .num _, h | .tru _, .byt _, h | .tru _, .nil, h | .tru _, .row _, h | .tru _, .tup _, h => by simp [Dt.beq] at h
  | .byt _, .num _, h | .byt _, .tru _, h | .byt _, .nil, h | .byt _, .row _, h | .byt _, .tup _, h => by simp [Dt.beq] at h
  | .nil, .num _, h | .nil, .tru _, h | .nil, .byt _, h | .nil, .row _, h | .nil, .tup _, h => by simp [Dt.beq] at h
  | .row _, .num _, h | .row _, .tru _, h | .row _, .byt _, h | .row _, .nil, h | .row _, .tup _, h => by simp [Dt.beq] at h
  | .tup _, .num _, h | .tup _, .tru _, h | .tup _, .byt _, h | .tup _, .nil, h | .tup _, .row _, h => by simp [Dt.beq] at h
theorem Dt.beqs_eq : ∀ {a b : List Dt}, Dt.beqs a b = true → a = b
  | [], [], _ => rfl
  | [], _ :: _, h => by simp [Dt.beqs] at h
  | _ :: _, [], h => by simp [Dt.beqs] at h
  | x :: xs, y :: ys, h => by
    simp only [Dt.beqs, Bool.and_eq_true] at h
    rw [Dt.beq_eq h.1, Dt.beqs_eq h.2]
end
theorem A.beq_eq : ∀ {a b : A}, a.beq b = true → a = b := by
  intro a
  induction a with
  | v i => intro b h; cases b <;> simp only [A.beq, Bool.false_eq_true] at h; rw [beq_nat h]
  | n c => intro b h; cases b <;> simp [A.beq] at h; rw [h]
  | d x => intro b h; cases b <;> simp only [A.beq, Bool.false_eq_true] at h; rw [Dt.beq_eq h]
  | fld a i ih => intro b h; cases b <;> simp only [A.beq, Bool.false_eq_true, Bool.and_eq_true] at h; rw [beq_nat h.1, ih h.2]
  | len a ih => intro b h; cases b <;> simp only [A.beq, Bool.false_eq_true] at h; rw [ih h]
  | idx a i ih ih' => intro b h; cases b <;> simp only [A.beq, Bool.false_eq_true, Bool.and_eq_true] at h; rw [ih h.1, ih' h.2]
  | slen a ih => intro b h; cases b <;> simp only [A.beq, Bool.false_eq_true] at h; rw [ih h]
  | sidx a i ih ih' => intro b h; cases b <;> simp only [A.beq, Bool.false_eq_true, Bool.and_eq_true] at h; rw [ih h.1, ih' h.2]
theorem Cm.beq_eq {a b : Cm} (h : a.beq b = true) : a = b := by cases a <;> cases b <;> first | rfl | cases h
theorem B.beq_eq : ∀ {a b : B}, a.beq b = true → a = b := by
  intro a
  induction a with
  | c x => intro b h; cases b <;> simp [B.beq] at h; rw [h]
  | cmp o x y => intro b h; cases b <;> simp only [B.beq, Bool.false_eq_true, Bool.and_eq_true] at h; rw [Cm.beq_eq h.1.1, A.beq_eq h.1.2, A.beq_eq h.2]
  | is x => intro b h; cases b <;> simp only [B.beq, Bool.false_eq_true] at h; rw [A.beq_eq h]
  | seq x y => intro b h; cases b <;> simp only [B.beq, Bool.false_eq_true, Bool.and_eq_true] at h; rw [A.beq_eq h.1, A.beq_eq h.2]
  | slt x y => intro b h; cases b <;> simp only [B.beq, Bool.false_eq_true, Bool.and_eq_true] at h; rw [A.beq_eq h.1, A.beq_eq h.2]
  | deq x y => intro b h; cases b <;> simp only [B.beq, Bool.false_eq_true, Bool.and_eq_true] at h; rw [A.beq_eq h.1, A.beq_eq h.2]
  | nil x => intro b h; cases b <;> simp only [B.beq, Bool.false_eq_true] at h; rw [A.beq_eq h]
  | shp x n => intro b h; cases b <;> simp only [B.beq, Bool.false_eq_true, Bool.and_eq_true] at h; rw [beq_nat h.1, A.beq_eq h.2]
  | not x ih => intro b h; cases b <;> simp only [B.beq, Bool.false_eq_true] at h; rw [ih h]
  | and x y ih ih' => intro b h; cases b <;> simp only [B.beq, Bool.false_eq_true, Bool.and_eq_true] at h; rw [ih h.1, ih' h.2]
  | or x y ih ih' => intro b h; cases b <;> simp only [B.beq, Bool.false_eq_true, Bool.and_eq_true] at h; rw [ih h.1, ih' h.2]
theorem kindEq_eq {a b : IntKind} (h : kindEq a b = true) : a = b := of_decide_eq_true h
theorem B.den_mkNot (is : List Dt) (b : B) : b.mkNot.den is = !b.den is := by
  cases b <;> simp [B.mkNot, B.den]
theorem A.den_lit : ∀ {a : A}, a.lit = true → ∀ (is js : List Dt), a.den is = a.den js := by
  intro a
  induction a with
  | v i => intro h; cases h
  | n c => intro _ _ _; rfl
  | d x => intro _ _ _; rfl
  | fld a i ih => intro h is js; simp only [A.den, ih h is js]
  | len a ih | slen a ih => intro h is js; simp only [A.den, ih h is js]
  | idx a i ih ih' | sidx a i ih ih' => intro h is js; simp only [A.lit, Bool.and_eq_true] at h; simp only [A.den, ih h.1 is js, ih' h.2 is js]
theorem A.int_lit {a : A} (h : a.lit = true) (is js : List Dt) : a.int is = a.int js := by simp only [A.int, A.den_lit h is js]
theorem B.den_lit : ∀ {b : B}, b.lit = true → ∀ (is js : List Dt), b.den is = b.den js := by
  intro b
  induction b with
  | c _ => intro _ _ _; rfl
  | cmp o x y => intro h is js; simp only [B.lit, Bool.and_eq_true] at h; simp only [B.den, A.int_lit h.1 is js, A.int_lit h.2 is js]
  | is x => intro h is js; simp only [B.den, A.den_lit h is js]
  | seq x y | slt x y | deq x y => intro h is js; simp only [B.lit, Bool.and_eq_true] at h; simp only [B.den, A.den_lit h.1 is js, A.den_lit h.2 is js]
  | nil x => intro h is js; simp only [B.den, A.den_lit h is js]
  | shp x n => intro h is js; simp only [B.den, A.den_lit h is js]
  | not x ih => intro h is js; simp only [B.den, ih h is js]
  | and x y ih ih' => intro h is js; simp only [B.lit, Bool.and_eq_true] at h; simp only [B.den, ih h.1 is js, ih' h.2 is js]
  | or x y ih ih' => intro h is js; simp only [B.lit, Bool.and_eq_true] at h; simp only [B.den, ih h.1 is js, ih' h.2 is js]
theorem B.den_mkAnd (is : List Dt) (x y : B) : (x.mkAnd y).den is = (x.den is && y.den is) := by
  unfold B.mkAnd
  split <;> simp [B.den]
theorem B.den_mkOr (is : List Dt) (x y : B) : (x.mkOr y).den is = (x.den is || y.den is) := by
  unfold B.mkOr
  split <;> simp [B.den]
theorem B.den_fold (is : List Dt) (b : B) : b.fold.den is = b.den is := by
  unfold B.fold
  cases h : b.lit
  · rfl
  · simp only [cond_true, B.den]; exact B.den_lit h _ _
theorem B.den_mkEq (is : List Dt) (x y : A) : (B.mkEq x y).den is = (x.int is == y.int is) := by
  unfold B.mkEq
  cases h : (x.lit && y.lit)
  · simp only [cond_false]
    cases h2 : x.beq y
    · rfl
    · rw [A.beq_eq h2]; simp [B.den]
  · simp only [cond_true, B.den]
    simp only [Bool.and_eq_true] at h
    rw [A.int_lit h.1 [] is, A.int_lit h.2 [] is]
theorem negLen_ok {x y : A} (h : negLen x y = true) (is : List Dt) : ¬ x.int is < y.int is := by
  unfold negLen at h
  split at h
  · have := of_decide_eq_true h
    simp only [A.int, A.den, Dt.int]; omega
  · have := of_decide_eq_true h
    simp only [A.int, A.den, Dt.int]; omega
  · cases h
theorem B.den_mkLt (is : List Dt) (x y : A) : (B.mkLt x y).den is = decide (x.int is < y.int is) := by
  unfold B.mkLt
  cases h : (x.lit && y.lit)
  · simp only [cond_false]
    cases h2 : x.beq y
    · cases h3 : negLen x y
      · rfl
      · simp only [Bool.or_true, cond_true, B.den]; simp [negLen_ok h3 is]
    · rw [A.beq_eq h2]; simp [B.den]
  · simp only [cond_true, B.den]
    simp only [Bool.and_eq_true] at h
    rw [A.int_lit h.1 [] is, A.int_lit h.2 [] is]
theorem B.den_mkIs (is : List Dt) (b : B) (w : Bool) : (b.mkIs w).den is = (b.den is == w) := by
  unfold B.mkIs
  cases w <;> simp [B.den_mkNot]
theorem den_eqB (is : List Dt) (x y : B) : (eqB x y).den is = (x.den is == y.den is) := by
  unfold eqB
  split <;> simp [B.den, B.den_mkNot]
  cases B.den is x <;> cases B.den is y <;> rfl
theorem den_mkSeq (is : List Dt) (x y : A) : (mkSeq x y).den is = ((x.den is).str == (y.den is).str) := by
  unfold mkSeq
  cases h : x.beq y
  · simp only [cond_false, B.den_fold, B.den, bsEq_iff]
  · simp only [cond_true, B.den, A.beq_eq h]; simp
theorem den_nilA (is : List Dt) (x : A) : (nilA x).den is = (x.den is).isNil := by unfold nilA; rw [B.den_fold]; rfl
theorem den_tru (is : List Dt) (x : A) : x.tru.den is = (x.den is).bool := by
  unfold A.tru
  split <;> rfl
def PcOk (is : List Dt) (pc : List (B × Bool)) : Prop := ∀ p, p ∈ pc → p.1.den is = p.2
theorem PcOk.find {is : List Dt} : ∀ {pc : List (B × Bool)} {c : B} {b : Bool}, PcOk is pc → pcFind pc c = some b → c.den is = b
  | [], _, _, _, h => by cases h
  | (c', b') :: l, c, b, hp, h => by
    simp only [pcFind] at h
    cases hc : c'.beq c
    · rw [hc] at h; exact PcOk.find (fun p hm => hp p (List.mem_cons_of_mem _ hm)) h
    · rw [hc] at h; cases h
      rw [← B.beq_eq hc]; exact hp _ List.mem_cons_self
theorem PcOk.append {is : List Dt} {a b : List (B × Bool)} (ha : PcOk is a) (hb : PcOk is b) : PcOk is (a ++ b) := fun p hm => (List.mem_append.1 hm).elim (ha p) (hb p)
theorem PcOk.one {is : List Dt} {c : B} {b : Bool} (h : c.den is = b) : PcOk is [(c, b)] := by
  intro p hm; simp at hm; subst hm; exact h
theorem B.facts_ok (is : List Dt) : ∀ (c : B) (b : Bool), c.den is = b → PcOk is (c.facts b) := by
  intro c
  induction c with
  | c x | cmp o x y | is x | seq x y | slt x y | deq x y | nil x | shp x n => intro b h; exact PcOk.one h
  | not x ih =>
    intro b h
    simp only [B.facts]
    intro p hm
    rcases List.mem_cons.1 hm with rfl | hm
    · exact h
    · exact ih (!b) (by simp only [B.den] at h; rw [← h]; simp) p hm
  | and x y ih ih' =>
    intro b h
    cases b
    · exact PcOk.one h
    · simp only [B.den, Bool.and_eq_true] at h
      simp only [B.facts]
      intro p hm
      rcases List.mem_cons.1 hm with rfl | hm
      · simp [B.den, h.1, h.2]
      · exact PcOk.append (ih true h.1) (ih' true h.2) p hm
  | or x y ih ih' =>
    intro b h
    cases b
    · simp only [B.den, Bool.or_eq_false_iff] at h
      simp only [B.facts]
      intro p hm
      rcases List.mem_cons.1 hm with rfl | hm
      · simp [B.den, h.1, h.2]
      · exact PcOk.append (ih false h.1) (ih' false h.2) p hm
    · exact PcOk.one h
theorem B.known_ok {is : List Dt} {pc : List (B × Bool)} (hp : PcOk is pc) : ∀ {c : B} {b : Bool}, c.known pc = some b → c.den is = b := by
  intro c
  induction c with
  | c x => intro b h; simp only [B.known] at h; cases h; rfl
  | cmp o x y | is x | seq x y | slt x y | deq x y | nil x | shp x n => intro b h; simp only [B.known] at h; exact hp.find h
  | not x ih =>
    intro b h
    simp only [B.known] at h
    split at h
    · rename_i d hd
      cases h
      simp only [B.den, ih hd]
    · cases h
  | and x y ih ih' =>
    intro b h
    simp only [B.known] at h
    split at h
    · rename_i d hd
      cases h; exact hp.find hd
    · split at h <;> cases h
      · rename_i hx; simp only [B.den, ih hx]; rfl
      · rename_i _ hy _; simp only [B.den, ih' hy]; simp
      · rename_i hx hy; simp only [B.den, ih hx, ih' hy]; rfl
  | or x y ih ih' =>
    intro b h
    simp only [B.known] at h
    split at h
    · rename_i d hd
      cases h; exact hp.find hd
    · split at h <;> cases h
      · rename_i hx; simp only [B.den, ih hx]; rfl
      · rename_i _ hy _; simp only [B.den, ih' hy]; simp
      · rename_i hx hy; simp only [B.den, ih hx, ih' hy]; rfl
theorem knownIs_ok {is : List Dt} {pc : List (B × Bool)} (hp : PcOk is pc) {c : B} {w : Bool} (h : knownIs pc c w = true) : c.den is = w := by
  unfold knownIs at h
  split at h
  · rename_i hk; rw [B.known_ok hp hk, h]
  · rename_i hk; rw [B.known_ok hp hk]; cases w <;> simp_all
  · cases h
theorem inferAnd_ok {is : List Dt} {pc : List (B × Bool)} (hp : PcOk is pc) {x y c : B} {v : Bool} (hxy : x.den is = v → y.den is = v → False) {r : Bool} (h : inferAnd pc x y c v = some r) : c.den is = r := by
  unfold inferAnd at h
  have neg : ∀ {z : B}, (z.den is = v → False) → z.den is = !v := fun {z} hz => by cases hz' : z.den is <;> cases v <;> simp_all
  cases h1 : (x.beq c && knownIs pc y v) <;> rw [h1] at h <;> simp only [cond_true, cond_false] at h
  · cases h2 : (y.beq c && knownIs pc x v) <;> rw [h2] at h <;> simp only [cond_true, cond_false] at h
    · cases h3 : (x.beq c.mkNot && knownIs pc y v) <;> rw [h3] at h <;> simp only [cond_true, cond_false] at h
      · cases h4 : (y.beq c.mkNot && knownIs pc x v) <;> rw [h4] at h <;> simp only [cond_true, cond_false] at h
        · cases h
        · cases h
          simp only [Bool.and_eq_true] at h4
          have := neg (z := y) fun e => hxy (knownIs_ok hp h4.2) e
          rw [B.beq_eq h4.1, B.den_mkNot] at this
          cases hc : c.den is <;> cases v <;> simp_all
      · cases h
        simp only [Bool.and_eq_true] at h3
        have := neg (z := x) fun e => hxy e (knownIs_ok hp h3.2)
        rw [B.beq_eq h3.1, B.den_mkNot] at this
        cases hc : c.den is <;> cases v <;> simp_all
    · cases h
      simp only [Bool.and_eq_true] at h2
      rw [← B.beq_eq h2.1]
      exact neg fun e => hxy (knownIs_ok hp h2.2) e
  · cases h
    simp only [Bool.and_eq_true] at h1
    rw [← B.beq_eq h1.1]
    exact neg fun e => hxy e (knownIs_ok hp h1.2)
theorem inferL_ok {is : List Dt} {pc : List (B × Bool)} (hp : PcOk is pc) {c : B} {r : Bool} : ∀ {l : List (B × Bool)}, PcOk is l → inferL pc c l = some r → c.den is = r
  | [], _, h => by cases h
  | (p, b) :: l, hl, h => by
    have h0 := hl (p, b) List.mem_cons_self
    simp only at h0
    simp only [inferL] at h
    split at h
    · rename_i v hv
      cases h
      split at hv
      · refine inferAnd_ok hp (fun hx hy => ?_) hv
        simp [B.den, hx, hy] at h0
      · refine inferAnd_ok hp (fun hx hy => ?_) hv
        simp [B.den, hx, hy] at h0
      · cases hv
    · exact inferL_ok hp (fun q hq => hl q (List.mem_cons_of_mem _ hq)) h
theorem B.infer_ok {is : List Dt} {pc : List (B × Bool)} (hp : PcOk is pc) {c : B} {b : Bool} (h : c.infer pc = some b) : c.den is = b := by
  unfold B.infer at h
  split at h
  · rename_i x hx; cases h; exact B.known_ok hp hx
  · exact inferL_ok hp hp h
end
end Go.SY
