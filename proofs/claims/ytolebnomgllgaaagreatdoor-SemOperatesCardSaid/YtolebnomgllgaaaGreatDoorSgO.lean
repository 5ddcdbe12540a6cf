/- SEM: what the operators do. -/
import Derived.Test.YtolebnomgllgaaaGreatDoorSgA
import Derived.Test.YtolebnomgllgaaaGreatDoorSyV
set_option linter.unusedVariables false
set_option linter.unusedSimpArgs false
namespace Go.SYG
open Go Go.SY Go.Proofs Go.RowKit
noncomputable section
noncomputable def Xl (l : List Ct) : Cfg := X.cfg l unNo noOw false
theorem td2 : tdOf ty 2 = .int .i64 := by kernel_rfl
theorem td3 : tdOf ty 3 = .int .i64 := by kernel_rfl
theorem td4 : tdOf ty 4 = .bool := by kernel_rfl
theorem ag4 : aggB ty 4 = false := by kernel_rfl
def arg (is : List Dt) (i : Nat) : Dt := is.getD i .nil
theorem ty4 {ty : Ty} {is : List Dt} {t u v q : Nat} (h : hasTyL ty is [t, u, v, q] = true) : ∃ x y z w, is = [x, y, z, w] ∧ hasTy ty x t = true ∧ hasTy ty y u = true ∧ hasTy ty z v = true ∧ hasTy ty w q = true := by
  match is, h with
  | [x, y, z, w], h => simp only [hasTyL, Bool.and_true, Bool.and_eq_true] at h; exact ⟨x, y, z, w, rfl, h⟩
  | [], h => simp [hasTyL] at h
  | [_], h => simp [hasTyL] at h
  | [_, _], h => simp [hasTyL] at h
  | [_, _, _], h => simp [hasTyL] at h
  | _ :: _ :: _ :: _ :: _ :: _, h => simp [hasTyL] at h
theorem td48 : tdOf ty 48 = .struct [(3, 0, 1), (3, 1, 1)] true := by kernel_rfl
theorem dn : (∀ is b, B.den is (.c b) = b) ∧ (∀ is o x y, B.den is (.cmp o x y) = o.den (x.int is) (y.int is)) ∧ (∀ is x, B.den is (.is x) = (x.den is).bool) ∧ (∀ is b, B.den is (.not b) = !b.den is) ∧ (∀ is x y, B.den is (.and x y) = (x.den is && y.den is)) ∧ (∀ is x y, B.den is (.or x y) = (x.den is || y.den is)) ∧
    (∀ x y, Cm.den .eq x y = (x == y)) ∧ (∀ x y, Cm.den .lt x y = decide (x < y)) ∧ (∀ is a, A.int is a = (a.den is).int) ∧ (∀ is i, A.den is (.v i) = is.getD i .nil) ∧ (∀ is c, A.den is (.n c) = .num c) ∧ (∀ is x, A.den is (.d x) = x) ∧ (∀ is a i, A.den is (.fld a i) = (a.den is).fld i) ∧
    (∀ n, (Dt.num n).int = n) ∧ (∀ b, (Dt.tru b).bool = b) ∧ (∀ is i, arg is i = is.getD i .nil) ∧ (∀ ty x, tyO ty none x = True) := by
  refine ⟨fun _ _ => rfl, fun _ _ _ _ => rfl, fun _ _ => rfl, fun _ _ => rfl, fun _ _ _ => rfl, fun _ _ _ => rfl, fun _ _ => rfl, fun _ _ => rfl, fun _ _ => rfl, fun _ _ => rfl, fun _ _ => rfl, fun _ _ => rfl, fun _ _ _ => rfl, fun _ => rfl, fun _ => rfl, fun _ _ => rfl, fun _ _ => rfl⟩
theorem wq {ty : Ty} {F : Nat → List Dt → Post → Prop} {is : List Dt} {Q : Post} : (∀ c l, (T.ret c l).wp ty F is Q = Q c (l.map (·.den is))) ∧ (∀ c t e, (T.br c t e).wp ty F is Q = if c.den is = true then t.wp ty F is Q else e.wp ty F is Q) ∧ (∀ o e t, (T.lt o e t).wp ty F is Q = (tyO ty o (e.den is) → t.wp ty F (is ++ [e.den is]) Q)) ∧
    (∀ f args ts t ps p, (T.call f args ts t ps p).wp ty F is Q = F f (args.map (·.den is)) fun c rs => if c = 0 then hasTyL ty rs ts = true → t.wp ty F (is ++ rs) Q else if c = 1 then hasTyL ty rs ps = true → p.wp ty F (is ++ rs) Q else False) ∧ (∀ n, (T.fail n).wp ty F is Q = False) :=
  ⟨fun _ _ => rfl, fun _ _ _ => rfl, fun _ _ _ => rfl, fun _ _ _ _ _ _ => rfl, fun _ => rfl⟩
def valI (k n : Int) : Bool := k == 1 || (k == 2 && (decide (0 ≤ n) && decide (n ≤ 255))) || (k == 3 && (n == 0 || n == 1))
def wrpI (k n : Int) : Int := if k = 2 then bitsOf .i64 (· &&& ·) n 255 else n
def tI (b : Bool) : Int := if b then 1 else 0
def cmpI (op a b : Int) : Bool := if op = 11 then a == b else if op = 12 then !(a == b) else if op = 13 then decide (a < b) else if op = 14 then !decide (b < a) else if op = 15 then decide (b < a) else !decide (a < b)
def resT (op : Int) (t : Dt) : Dt := if 10 < op then .tup [.num 3, .num 0] else t
def resB (op k l : Int) : Bool :=
  if 10 < op then if op = 11 ∨ op = 12 then (k == 1 && l == 0) || (k == 2 && l == 0) || (k == 3 && l == 0) else if 16 < op then k == 3 && l == 0 else (k == 1 && l == 0) || (k == 2 && l == 0)
  else (k == 1 && l == 0) || (k == 2 && l == 0)
def unI (op k a : Int) : List Dt :=
  if (valI k a && (decide (1 ≤ op) && decide (op ≤ 3)) && ((op == 2) == (k == 3))) = true then
    if op = 2 then [.num (IntKind.i64.wrap (1 - a)), .num 0]
    else if op = 3 then [.num (wrpI k (IntKind.i64.wrap (IntKind.i64.wrap (0 - a) - 1))), .num 0]
    else [.num (wrpI k (IntKind.i64.wrap (0 - a))), .num 0]
  else [.num 0, .num 2]
def shI (op a : Int) (n : Nat) : Int := if op = 6 then IntKind.i64.wrap (a * 2 ^ n) else a / 2 ^ n
def rI (k x : Int) : List Dt := [.num (wrpI k x), .num 0, .num 0, .num 0]
def bitI (k : Int) : Int := if k = 2 then 8 else 64
def binV (op k a b : Int) : List Dt :=
  if op = 1 then rI k (IntKind.i64.wrap (a * b)) else if op = 2 then (if b = 0 then [.num 0, .num 2, .num 1, .num 0] else if a = -9223372036854775808 ∧ b = -1 then [.num 0, .num 3, .num 2, .num 0] else rI k (IntKind.i64.wrap (a.tdiv b)))
  else if op = 3 then (if b = 0 then [.num 0, .num 2, .num 1, .num 0] else if a = -9223372036854775808 ∧ b = -1 then [.num 0, .num 3, .num 2, .num 0] else rI k (a.tmod b))
  else if op = 4 then rI k (IntKind.i64.wrap (a + b)) else if op = 5 then rI k (IntKind.i64.wrap (a - b))
  else if op = 6 ∨ op = 7 then (if b < 0 ∨ ¬ b < bitI k then [.num 0, .num 3, .num 1, .num 0] else rI k (shI op a b.toNat))
  else if op = 8 ∨ op = 17 then rI k (bitsOf .i64 (· &&& ·) a b) else if op = 9 then rI k (bitsOf .i64 (· ^^^ ·) a b) else if op = 10 ∨ op = 18 then rI k (bitsOf .i64 (· ||| ·) a b)
  else rI k (tI (cmpI op a b))
def binI (op k a b : Int) : List Dt :=
  if (valI k a && valI k b && (decide (1 ≤ op) && decide (op ≤ 18)) && resB op k 0) = true then binV op k a b else [.num 0, .num 0, .num 0, .num 2]
def shS : SY.Spec := fun is Q => (0 ≤ (arg is 3).int ∧ (arg is 3).int < 64) ∧ Q 0 [.num (wrpI (arg is 1).int (shI (arg is 0).int (arg is 2).int (arg is 3).int.toNat))]
theorem shS_mono : SMono shS := fun is P Q hPQ h => ⟨h.1, hPQ _ _ h.2⟩
theorem shr8 (n : Int) : (n.fdiv (2 ^ (min (Int.toNat 8) IntKind.i64.bits)) == 0) = (decide (0 ≤ n) && decide (n ≤ 255)) := by
  have h : (2 : Int) ^ (min (Int.toNat 8) IntKind.i64.bits) = 256 := by decide
  rw [h, Int.fdiv_eq_ediv_of_nonneg n (by decide), Bool.eq_iff_iff]
  simp only [beq_iff_eq, Bool.and_eq_true, decide_eq_true_eq]
  omega
theorem shr1 (n : Int) : (n.fdiv (2 ^ (min (Int.toNat 1) IntKind.i64.bits)) == 0) = (n == 0 || n == 1) := by
  have h : (2 : Int) ^ (min (Int.toNat 1) IntKind.i64.bits) = 2 := by decide
  rw [h, Int.fdiv_eq_ediv_of_nonneg n (by decide), Bool.eq_iff_iff]
  simp only [beq_iff_eq, Bool.or_eq_true]
  omega
theorem xor1 {a : Int} (h : a = 0 ∨ a = 1) : bitsOf .i64 (· ^^^ ·) a 1 = IntKind.i64.wrap (1 - a) := by
  rcases h with rfl | rfl <;> decide
theorem com_eq (a : Int) : bitsOf .i64 (· ^^^ ·) (if IntKind.i64.signed then -1 else IntKind.i64.max) a = IntKind.i64.wrap (IntKind.i64.wrap (0 - a) - 1) := by
  have h1 : (if IntKind.i64.signed then (-1 : Int) else IntKind.i64.max) = -1 := by decide
  have h2 : ∀ x : BitVec 64, ((BitVec.ofInt 64 (-1) ^^^ x).toNat : Int) = 18446744073709551615 - x.toNat := fun x => by
    have : BitVec.ofInt 64 (-1) = BitVec.allOnes 64 := by decide
    rw [this, BitVec.allOnes_xor, BitVec.toNat_not]
    have := x.isLt
    omega
  rw [h1]
  show IntKind.i64.wrap (((BitVec.ofInt 64 (-1) ^^^ BitVec.ofInt 64 a).toNat : Nat) : Int) = _
  rw [h2, BitVec.toNat_ofInt]
  simp only [IntKind.wrap_i64]
  omega
theorem wrap_out (x : Int) : ∃ t : Int, IntKind.i64.wrap x = x - 18446744073709551616 * t := ⟨(x + 9223372036854775808) / 18446744073709551616, by rw [IntKind.wrap_i64]; omega⟩
theorem wrap_add (x t : Int) : IntKind.i64.wrap (x + 18446744073709551616 * t) = IntKind.i64.wrap x := by simp only [IntKind.wrap_i64]; omega
theorem rem_eq {a b : Int} (ha : -9223372036854775808 ≤ a ∧ a ≤ 9223372036854775807) (hb : b ≠ 0) (hb' : -9223372036854775808 ≤ b ∧ b ≤ 9223372036854775807) :
    IntKind.i64.wrap (a - IntKind.i64.wrap (IntKind.i64.wrap (a.tdiv b) * b)) = a.tmod b := by
  obtain ⟨t, ht⟩ := wrap_out (a.tdiv b)
  obtain ⟨s, hs⟩ := wrap_out (IntKind.i64.wrap (a.tdiv b) * b)
  have h1 : a - IntKind.i64.wrap (IntKind.i64.wrap (a.tdiv b) * b) = a.tmod b + 18446744073709551616 * (t * b + s) := by
    rw [hs, ht, Int.tmod_def, Int.mul_add, Int.sub_mul, Int.mul_assoc, Int.mul_comm (a.tdiv b) b]
    omega
  rw [h1, wrap_add]
  have h2 : (a.tmod b).natAbs < b.natAbs := by rw [Int.natAbs_tmod]; exact Nat.mod_lt _ (Int.natAbs_pos.2 hb)
  exact IntWalk.i64_in _ (by omega)
theorem wrap_mul2 (x : Int) : IntKind.i64.wrap (IntKind.i64.wrap x * 2) = IntKind.i64.wrap (x * 2) := by simp only [IntKind.wrap_i64]; omega
def u18 : T := (.br (.cmp .eq (.v 0) (.n 1)) (.ret 0 [(.d (.tru true))]) (.br (.cmp .eq (.v 0) (.n 2)) (.lt none (.shr .i64 (.v 1) (.n 8)) (.lt none (.boo (.cmp .eq (.v 2) (.n 0))) (.ret 0 [(.v 3)]))) (.lt none (.shr .i64 (.v 1) (.n 1)) (.lt none (.boo (.and (.cmp .eq (.v 0) (.n 3)) (.cmp .eq (.v 2) (.n 0)))) (.ret 0 [(.v 3)])))))
theorem qu18 : sxFunc (Xl []) 400 18 ⟨[.dat 3, .dat 2], [], ⟨[.dat 4], []⟩, none⟩ = u18 := by kernel_rfl
def u19 : T := (.br (.cmp .eq (.v 0) (.n 2)) (.lt none (.band .i64 (.v 1) (.n 255)) (.ret 0 [(.v 2)])) (.ret 0 [(.v 1)]))
theorem qu19 : sxFunc (Xl []) 400 19 ⟨[.dat 3, .dat 2], [], ⟨[.dat 2], []⟩, none⟩ = u19 := by kernel_rfl
def u20 : T := (.br (.cmp .eq (.v 0) (.n 1)) (.ret 0 [(.d (.tru true))]) (.br (.cmp .eq (.v 0) (.n 2)) (.lt none (.boo (.and (.not (.cmp .lt (.v 1) (.n 0))) (.not (.cmp .lt (.n 255) (.v 1))))) (.ret 0 [(.v 2)])) (.lt none (.boo (.and (.cmp .eq (.v 0) (.n 3)) (.or (.cmp .eq (.v 1) (.n 0)) (.cmp .eq (.v 1) (.n 1))))) (.ret 0 [(.v 2)]))))
theorem qu20 : sxFunc (Xl []) 400 20 ⟨[.dat 3, .dat 2], [], ⟨[.dat 4], []⟩, none⟩ = u20 := by kernel_rfl
def u21 : T := (.br (.cmp .eq (.v 0) (.n 2)) (.lt none (.band .i64 (.v 1) (.n 255)) (.ret 0 [(.v 2)])) (.ret 0 [(.v 1)]))
theorem qu21 : sxFunc (Xl []) 400 21 ⟨[.dat 3, .dat 2], [], ⟨[.dat 2], []⟩, none⟩ = u21 := by kernel_rfl
def u26 : T := (.br (.is (.v 0)) (.ret 0 [(.n 1)]) (.ret 0 [(.n 0)]))
theorem qu26 : sxFunc (Xl []) 400 26 ⟨[.dat 4], [], ⟨[.dat 2], []⟩, none⟩ = u26 := by kernel_rfl
def u27 : T := (.br (.cmp .eq (.v 0) (.n 11)) (.lt none (.boo (.cmp .eq (.v 1) (.v 2))) (.ret 0 [(.v 3)])) (.br (.cmp .eq (.v 0) (.n 12)) (.lt none (.boo (.not (.cmp .eq (.v 1) (.v 2)))) (.ret 0 [(.v 3)])) (.br (.cmp .eq (.v 0) (.n 13)) (.lt none (.boo (.cmp .lt (.v 1) (.v 2))) (.ret 0 [(.v 3)])) (.br (.cmp .eq (.v 0) (.n 14)) (.lt none (.boo (.not (.cmp .lt (.v 2) (.v 1)))) (.ret 0 [(.v 3)])) (.br (.cmp .eq (.v 0) (.n 15)) (.lt none (.boo (.cmp .lt (.v 2) (.v 1))) (.ret 0 [(.v 3)])) (.lt none (.boo (.not (.cmp .lt (.v 1) (.v 2)))) (.ret 0 [(.v 3)])))))))
theorem qu27 : sxFunc (Xl []) 400 27 ⟨[.dat 3, .dat 2, .dat 2], [], ⟨[.dat 4], []⟩, none⟩ = u27 := by kernel_rfl
def u24 : T := (.br (.not (.and (.cmp .eq (.fld (.v 1) 0) (.n 1)) (.cmp .eq (.fld (.v 1) 1) (.n 0)))) (.br (.not (.cmp .lt (.n 10) (.v 0))) (.lt none (.boo (.or (.and (.cmp .eq (.fld (.v 1) 0) (.n 1)) (.cmp .eq (.fld (.v 1) 1) (.n 0))) (.and (.cmp .eq (.fld (.v 1) 0) (.n 2)) (.cmp .eq (.fld (.v 1) 1) (.n 0))))) (.ret 0 [(.v 1), (.v 2)])) (.br (.or (.cmp .eq (.v 0) (.n 11)) (.cmp .eq (.v 0) (.n 12))) (.lt none (.boo (.or (.or (.and (.cmp .eq (.fld (.v 1) 0) (.n 1)) (.cmp .eq (.fld (.v 1) 1) (.n 0))) (.and (.cmp .eq (.fld (.v 1) 0) (.n 2)) (.cmp .eq (.fld (.v 1) 1) (.n 0)))) (.and (.cmp .eq (.fld (.v 1) 0) (.n 3)) (.cmp .eq (.fld (.v 1) 1) (.n 0))))) (.ret 0 [(.d (.tup [(.num 3), (.num 0)])), (.v 2)])) (.br (.not (.cmp .lt (.n 16) (.v 0))) (.lt none (.boo (.or (.and (.cmp .eq (.fld (.v 1) 0) (.n 1)) (.cmp .eq (.fld (.v 1) 1) (.n 0))) (.and (.cmp .eq (.fld (.v 1) 0) (.n 2)) (.cmp .eq (.fld (.v 1) 1) (.n 0))))) (.ret 0 [(.d (.tup [(.num 3), (.num 0)])), (.v 2)])) (.lt none (.boo (.and (.cmp .eq (.fld (.v 1) 0) (.n 3)) (.cmp .eq (.fld (.v 1) 1) (.n 0)))) (.ret 0 [(.d (.tup [(.num 3), (.num 0)])), (.v 2)]))))) (.br (.not (.cmp .lt (.n 10) (.v 0))) (.ret 0 [(.v 1), (.d (.tru true))]) (.br (.or (.cmp .eq (.v 0) (.n 11)) (.cmp .eq (.v 0) (.n 12))) (.ret 0 [(.d (.tup [(.num 3), (.num 0)])), (.d (.tru true))]) (.br (.not (.cmp .lt (.n 16) (.v 0))) (.ret 0 [(.d (.tup [(.num 3), (.num 0)])), (.d (.tru true))]) (.lt none (.boo (.and (.cmp .eq (.fld (.v 1) 0) (.n 3)) (.cmp .eq (.fld (.v 1) 1) (.n 0)))) (.ret 0 [(.d (.tup [(.num 3), (.num 0)])), (.v 2)]))))))
theorem qu24 : sxFunc (Xl []) 400 24 ⟨[.dat 3, .dat 48], [], ⟨[.dat 48, .dat 4], []⟩, none⟩ = u24 := by kernel_rfl
def c18 : Ct := (18, 18, ⟨[.dat 3, .dat 2], [], ⟨[.dat 4], []⟩, none⟩, sF fun is => [.tru (valI (arg is 0).int (arg is 1).int)])
def c19 : Ct := (19, 19, ⟨[.dat 3, .dat 2], [], ⟨[.dat 2], []⟩, none⟩, sF fun is => [.num (wrpI (arg is 0).int (arg is 1).int)])
def c20 : Ct := (20, 20, ⟨[.dat 3, .dat 2], [], ⟨[.dat 4], []⟩, none⟩, sF fun is => [.tru (valI (arg is 0).int (arg is 1).int)])
def c21 : Ct := (21, 21, ⟨[.dat 3, .dat 2], [], ⟨[.dat 2], []⟩, none⟩, sF fun is => [.num (wrpI (arg is 0).int (arg is 1).int)])
def c24 : Ct := (24, 24, ⟨[.dat 3, .dat 48], [], ⟨[.dat 48, .dat 4], []⟩, none⟩, sF fun is => [resT (arg is 0).int (arg is 1), .tru (resB (arg is 0).int ((arg is 1).fld 0).int ((arg is 1).fld 1).int)])
def c26 : Ct := (26, 26, ⟨[.dat 4], [], ⟨[.dat 2], []⟩, none⟩, sF fun is => [.num (tI (arg is 0).bool)])
def c27 : Ct := (27, 27, ⟨[.dat 3, .dat 2, .dat 2], [], ⟨[.dat 4], []⟩, none⟩, sF fun is => [.tru (cmpI (arg is 0).int (arg is 1).int (arg is 2).int)])
def c6 : Ct := (6, 6, ⟨[.dat 3, .dat 3, .dat 2], [], ⟨[.dat 2, .dat 24], []⟩, none⟩, sF fun is => unI (arg is 0).int (arg is 1).int (arg is 2).int)
def c7 : Ct := (7, 7, ⟨[.dat 3, .dat 3, .dat 2], [], ⟨[.dat 2, .dat 24], []⟩, none⟩, sF fun is => unI (arg is 0).int (arg is 1).int (arg is 2).int)
def c8 : Ct := (8, 8, ⟨[.dat 3, .dat 3, .dat 2, .dat 2], [], ⟨[.dat 2, .dat 3, .dat 3, .dat 24], []⟩, none⟩, sF fun is => binI (arg is 0).int (arg is 1).int (arg is 2).int (arg is 3).int)
def c9 : Ct := (9, 9, ⟨[.dat 3, .dat 3, .dat 2, .dat 2], [], ⟨[.dat 2, .dat 3, .dat 3, .dat 24], []⟩, none⟩, sF fun is => binI (arg is 0).int (arg is 1).int (arg is 2).int (arg is 3).int)
def c25 : Ct := (25, 25, ⟨[.dat 3, .dat 3, .dat 2, .dat 2], [], ⟨[.dat 2], []⟩, none⟩, shS)
theorem w18 {F : Nat → List Dt → Post → Prop} {k n : Int} {Q : Post} (hq : Q 0 [.tru (valI k n)]) : u18.wp ty F [.num k, .num n] Q := by
  unfold u18
  simp only [wp_br, SY.wp_ret, wp_lt, B.den, Cm.den, A.int, A.den, E.den, int_num, bool_tru, arg, tyO, true_implies, List.cons_append, List.nil_append, List.getD_cons_zero, List.getD_cons_succ, List.map_cons, List.map_nil, if_true, Int.toNat_natCast, Int.toNat_zero, shr8, shr1, beq_iff_eq]
  by_cases h1 : k = 1
  · subst h1; simpa [wq, dn, E.den, valI] using hq
  · by_cases h2 : k = 2
    · subst h2; simpa [wq, dn, E.den, valI] using hq
    · simpa [wq, dn, E.den, valI, h1, h2, shr1, beq_eq_false_iff_ne.2 h1, beq_eq_false_iff_ne.2 h2] using hq
theorem w20 {F : Nat → List Dt → Post → Prop} {k n : Int} {Q : Post} (hq : Q 0 [.tru (valI k n)]) : u20.wp ty F [.num k, .num n] Q := by
  unfold u20
  simp only [wp_br, SY.wp_ret, wp_lt, B.den, Cm.den, A.int, A.den, E.den, int_num, bool_tru, arg, tyO, true_implies, List.cons_append, List.nil_append, List.getD_cons_zero, List.getD_cons_succ, List.map_cons, List.map_nil, if_true, Int.toNat_natCast, Int.toNat_zero, beq_iff_eq]
  by_cases h1 : k = 1
  · subst h1; simpa [wq, dn, E.den, valI] using hq
  · by_cases h2 : k = 2
    · subst h2
      have e : (decide (0 ≤ n) && decide (n ≤ 255)) = (!decide (n < 0) && !decide (255 < n)) := by rw [Bool.eq_iff_iff]; simp
      simp only [valI, e] at hq
      simpa [wq, dn, E.den] using hq
    · simpa [wq, dn, E.den, valI, h1, h2, shr1, beq_eq_false_iff_ne.2 h1, beq_eq_false_iff_ne.2 h2] using hq
theorem w19 {F : Nat → List Dt → Post → Prop} {k n : Int} {Q : Post} (hq : Q 0 [.num (wrpI k n)]) : u19.wp ty F [.num k, .num n] Q := by
  unfold u19
  simp only [wp_br, SY.wp_ret, wp_lt, B.den, Cm.den, A.int, A.den, E.den, int_num, bool_tru, arg, tyO, true_implies, List.cons_append, List.nil_append, List.getD_cons_zero, List.getD_cons_succ, List.map_cons, List.map_nil, if_true, Int.toNat_natCast, Int.toNat_zero, beq_iff_eq]
  by_cases h2 : k = 2
  · simp only [h2, wrpI, if_true] at hq ⊢
    simpa [wq, dn, E.den] using hq
  · simpa [wq, dn, E.den, wrpI, h2] using hq
theorem w21 {F : Nat → List Dt → Post → Prop} {k n : Int} {Q : Post} (hq : Q 0 [.num (wrpI k n)]) : u21.wp ty F [.num k, .num n] Q := w19 hq
theorem w26 {F : Nat → List Dt → Post → Prop} {b : Bool} {Q : Post} (hq : Q 0 [.num (tI b)]) : u26.wp ty F [.tru b] Q := by
  unfold u26
  cases b <;> simpa [wp_br, SY.wp_ret, B.den, Cm.den, A.int, A.den, E.den, int_num, bool_tru, arg, tyO, true_implies, List.cons_append, List.nil_append, List.getD_cons_zero, List.getD_cons_succ, List.map_cons, List.map_nil, if_true, Int.toNat_natCast, Int.toNat_zero, tI] using hq
theorem w27 {F : Nat → List Dt → Post → Prop} {op a b : Int} {Q : Post} (hq : Q 0 [.tru (cmpI op a b)]) : u27.wp ty F [.num op, .num a, .num b] Q := by
  unfold u27
  unfold cmpI at hq
  simp only [wp_br, SY.wp_ret, wp_lt, B.den, Cm.den, A.int, A.den, E.den, int_num, bool_tru, arg, tyO, true_implies, List.cons_append, List.nil_append, List.getD_cons_zero, List.getD_cons_succ, List.map_cons, List.map_nil, if_true, Int.toNat_natCast, Int.toNat_zero, beq_iff_eq]
  repeat' (split at hq)
  all_goals simp_all [wq, dn, E.den]
theorem w24 {F : Nat → List Dt → Post → Prop} {op k l : Int} {Q : Post} (hq : Q 0 [resT op (.tup [.num k, .num l]), .tru (resB op k l)]) : u24.wp ty F [.num op, .tup [.num k, .num l]] Q := by
  unfold u24
  unfold resT resB at hq
  simp only [wp_br, SY.wp_ret, wp_lt, B.den, Cm.den, A.int, A.den, E.den, int_num, bool_tru, arg, tyO, true_implies, List.cons_append, List.nil_append, List.getD_cons_zero, List.getD_cons_succ, List.map_cons, List.map_nil, if_true, Int.toNat_natCast, Int.toNat_zero, fld_tup]
  by_cases h1 : 10 < op <;> by_cases h2 : op = 11 ∨ op = 12 <;> by_cases h3 : 16 < op <;> by_cases h4 : k = 1 <;> by_cases h5 : l = 0
  all_goals simp_all [wq, dn, E.den]
theorem e18 : Ent X c18 := ent_of XOk (l := []) rfl ents_nil qu18 sF_mono fun is Q h hq => by
  obtain ⟨x, y, rfl, hx, hy⟩ := ty2 h
  obtain ⟨k, rfl, -⟩ := num_of td3 hx
  obtain ⟨n, rfl, -⟩ := num_of td2 hy
  exact w18 hq
theorem e19 : Ent X c19 := ent_of XOk (l := []) rfl ents_nil qu19 sF_mono fun is Q h hq => by
  obtain ⟨x, y, rfl, hx, hy⟩ := ty2 h
  obtain ⟨k, rfl, -⟩ := num_of td3 hx
  obtain ⟨n, rfl, -⟩ := num_of td2 hy
  exact w19 hq
theorem e20 : Ent X c20 := ent_of XOk (l := []) rfl ents_nil qu20 sF_mono fun is Q h hq => by
  obtain ⟨x, y, rfl, hx, hy⟩ := ty2 h
  obtain ⟨k, rfl, -⟩ := num_of td3 hx
  obtain ⟨n, rfl, -⟩ := num_of td2 hy
  exact w20 hq
theorem e21 : Ent X c21 := ent_of XOk (l := []) rfl ents_nil qu21 sF_mono fun is Q h hq => by
  obtain ⟨x, y, rfl, hx, hy⟩ := ty2 h
  obtain ⟨k, rfl, -⟩ := num_of td3 hx
  obtain ⟨n, rfl, -⟩ := num_of td2 hy
  exact w21 hq
theorem e26 : Ent X c26 := ent_of XOk (l := []) rfl ents_nil qu26 sF_mono fun is Q h hq => by
  obtain ⟨x, rfl, hx⟩ := ty1 h
  obtain ⟨k, rfl⟩ := tru_of td4 hx
  exact w26 hq
theorem e27 : Ent X c27 := ent_of XOk (l := []) rfl ents_nil qu27 sF_mono fun is Q h hq => by
  obtain ⟨x, y, z, rfl, hx, hy, hz⟩ := ty3 h
  obtain ⟨op, rfl, -⟩ := num_of td3 hx
  obtain ⟨a, rfl, -⟩ := num_of td2 hy
  obtain ⟨b, rfl, -⟩ := num_of td2 hz
  exact w27 hq
theorem e24 : Ent X c24 := ent_of XOk (l := []) rfl ents_nil qu24 sF_mono fun is Q h hq => by
  obtain ⟨x, y, rfl, hx, hy⟩ := ty2 h
  obtain ⟨op, rfl, -⟩ := num_of td3 hx
  obtain ⟨l, rfl, hl⟩ := tup_of td48 hy
  match l, hl with
  | [a, b], hl =>
    simp only [hasTyF, Bool.and_eq_true] at hl
    obtain ⟨k, rfl, -⟩ := num_of td3 hl.1
    obtain ⟨n, rfl, -⟩ := num_of td3 hl.2.1
    exact w24 hq
  | [], hl => simp [hasTyF] at hl
  | [_], hl => simp [hasTyF] at hl
  | _ :: _ :: _ :: _, hl => simp [hasTyF] at hl
def u25 : T := (.loop 1 [(some 2), (some 2)] [((.cmp .lt (.v 5) (.n 0)), false)] [(.v 2), (.n 0)] (.br (.cmp .lt (.v 5) (.v 3)) (.br (.cmp .eq (.v 0) (.n 6)) (.lt none (.mul .i64 (.v 4) (.n 2)) (.lt none (.add .i64 (.v 5) (.n 1)) (.again 1 [(.v 6), (.v 7)]))) (.br (.cmp .lt (.v 4) (.n 0)) (.lt none (.add .i64 (.v 4) (.n 1)) (.lt none (.neg .i64 (.v 6)) (.lt none (.quo .i64 (.v 7) (.n 2)) (.lt none (.neg .i64 (.v 8)) (.lt none (.sub .i64 (.v 9) (.n 1)) (.lt none (.add .i64 (.v 5) (.n 1)) (.again 1 [(.v 10), (.v 11)]))))))) (.lt none (.quo .i64 (.v 4) (.n 2)) (.lt none (.add .i64 (.v 5) (.n 1)) (.again 1 [(.v 6), (.v 7)]))))) (.out 1 (.call 21 [(.v 1), (.v 4)] [2] (.ret 0 [(.v 6)]) [] (.fail 345)))))
theorem qu25 : sxFunc (Xl [c21]) 400 25 ⟨[.dat 3, .dat 3, .dat 2, .dat 2], [], ⟨[.dat 2], []⟩, none⟩ = u25 := by kernel_rfl
theorem half_neg {x : Int} (h : -9223372036854775808 ≤ x ∧ x < 0) : IntKind.i64.wrap (IntKind.i64.wrap (0 - IntKind.i64.wrap ((IntKind.i64.wrap (0 - IntKind.i64.wrap (x + 1))).tdiv 2)) - 1) = x / 2 := by
  rw [IntWalk.i64_in (x + 1) (by omega), IntWalk.i64_in (0 - (x + 1)) (by omega), Int.tdiv_eq_ediv_of_nonneg (by omega), IntWalk.i64_in ((0 - (x + 1)) / 2) (by omega), IntWalk.i64_in (0 - (0 - (x + 1)) / 2) (by omega), IntWalk.i64_in _ (by omega)]
  omega
theorem half_pos {x : Int} (h : 0 ≤ x ∧ x ≤ 9223372036854775807) : IntKind.i64.wrap (x.tdiv 2) = x / 2 := by
  rw [Int.tdiv_eq_ediv_of_nonneg (by omega), IntWalk.i64_in _ (by omega)]
theorem sh_succ (op a : Int) (i : Nat) : shI op a (i + 1) = if op = 6 then IntKind.i64.wrap (shI op a i * 2) else shI op a i / 2 := by
  unfold shI
  by_cases h : op = 6
  · rw [if_pos h, if_pos h, if_pos h, wrap_mul2, Int.pow_succ, Int.mul_assoc]
  · rw [if_neg h, if_neg h, if_neg h, Int.pow_succ, Int.ediv_ediv_of_nonneg (Int.pow_nonneg (by decide))]
theorem w25 {F : Nat → List Dt → Post → Prop} (hF : FMono F) (h21 : F 21 = fun is Q => Q 0 [.num (wrpI (arg is 0).int (arg is 1).int)]) {op k a b : Int} {Q : Post} (ha : -9223372036854775808 ≤ a ∧ a ≤ 9223372036854775807) (hb : 0 ≤ b ∧ b < 64)
    (hq : Q 0 [.num (wrpI k (shI op a b.toNat))]) : u25.wp ty F [.num op, .num k, .num a, .num b] Q := by
  unfold u25
  refine wp_loop_inv hF (fun n s => ∃ i : Nat, s = [.num (shI op a i), .num i] ∧ i + n = b.toNat) b.toNat ?_ ?_ ?_
  · refine ⟨0, ?_, by omega⟩
    have : shI op a 0 = a := by
      unfold shI
      by_cases h : op = 6
      · rw [if_pos h, Int.pow_zero, Int.mul_one, IntWalk.i64_in _ ha]
      · rw [if_neg h, Int.pow_zero, Int.ediv_one]
    rw [this]; rfl
  · rintro n s ⟨i, rfl, _⟩
    simp [factsB, B.den, Cm.den, A.int, A.den, Dt.int]
  · rintro n s ⟨i, rfl, hi⟩ hty
    have hx : -9223372036854775808 ≤ shI op a i ∧ shI op a i ≤ 9223372036854775807 := by
      simp only [hasTyO, Bool.and_eq_true] at hty
      obtain ⟨m, hm, h⟩ := num_of td2 hty.1
      cases hm
      exact h
    simp only [wp_br, SY.wp_ret, wp_lt, wp_again, wp_out, wp_fail, B.den, Cm.den, A.int, A.den, E.den, int_num, bool_tru, arg, tyO, true_implies, List.cons_append, List.nil_append, List.getD_cons_zero, List.getD_cons_succ, List.map_cons, List.map_nil, if_true, Int.toNat_natCast, Int.toNat_zero, decide_eq_true_eq, beq_iff_eq]
    by_cases hlt : (i : Int) < b
    · rw [if_pos hlt]
      have e1 := add1 (i := i) (n := 64) (by omega) (by decide)
      by_cases h6 : op = 6
      · rw [if_pos h6]
        refine ⟨n - 1, by omega, i + 1, ?_, by omega⟩
        rw [sh_succ, if_pos h6, e1]
      · rw [if_neg h6]
        by_cases hn : shI op a i < 0
        · rw [if_pos hn]
          refine ⟨n - 1, by omega, i + 1, ?_, by omega⟩
          rw [sh_succ, if_neg h6, e1, half_neg ⟨hx.1, hn⟩]
        · rw [if_neg hn]
          refine ⟨n - 1, by omega, i + 1, ?_, by omega⟩
          rw [sh_succ, if_neg h6, e1, half_pos ⟨by omega, hx.2⟩]
    · rw [if_neg hlt]
      have hi' : i = b.toNat := by omega
      subst hi'
      simp only [wp_br, SY.wp_ret, wp_lt, wp_call, wp_again, wp_out, wp_fail, B.den, Cm.den, A.int, A.den, E.den, int_num, bool_tru, arg, tyO, true_implies, List.cons_append, List.nil_append, List.getD_cons_zero, List.getD_cons_succ, List.map_cons, List.map_nil, if_true, Int.toNat_natCast, Int.toNat_zero, h21, if_true]
      intro _
      refine ⟨by decide, ?_⟩
      rw [if_neg (by decide)]
      exact hq
theorem e25 : Ent X c25 := ent_of' XOk (l := [c21]) rfl (ents_cons e21 ents_nil) qu25 shS_mono fun hF is Q h hq => by
  obtain ⟨x, y, z, u, rfl, hx, hy, hz, hu⟩ := ty4 h
  obtain ⟨op, rfl, -⟩ := num_of td3 hx
  obtain ⟨k, rfl, -⟩ := num_of td3 hy
  obtain ⟨a, rfl, ha⟩ := num_of td2 hz
  obtain ⟨b, rfl, -⟩ := num_of td2 hu
  exact w25 hF rfl ha hq.1 hq.2
end
end Go.SYG
