/- The symbolic executor SY: data of types, seen plainly. -/
import Derived.Test.YtolebnomgllgaaaGreatDoorSyK
import Derived.IntWalk
set_option linter.unusedVariables false
namespace Go.SY
open Go
noncomputable section
section
variable {ty : Ty} {pl : Bool} {F : Nat → List Dt → Post → Prop} {is : List Dt} {Q : Post}
theorem wp_ret {c : Nat} {l : List A} : (T.ret c l).wp ty F is Q = Q c (l.map (·.den is)) := rfl
theorem wp_br {c : B} {t e : T} : (T.br c t e).wp ty F is Q = if c.den is = true then t.wp ty F is Q else e.wp ty F is Q := rfl
theorem wp_lt {o : Option TypeId} {e : E} {t : T} : (T.lt o e t).wp ty F is Q = (tyO ty o (e.den is) → t.wp ty F (is ++ [e.den is]) Q) := rfl
theorem wp_call {f : Nat} {args : List A} {ts ps : List TypeId} {t p : T} : (T.call f args ts t ps p).wp ty F is Q = F f (args.map (·.den is)) fun c rs =>
      if c = 0 then hasTyL ty rs ts = true → t.wp ty F (is ++ rs) Q else if c = 1 then hasTyL ty rs ps = true → p.wp ty F (is ++ rs) Q else False := rfl
theorem wp_again {d : Nat} {l : List A} : (T.again d l).wp ty F is Q = Q (d + 2) (l.map (·.den is)) := rfl
theorem wp_out {d : Nat} {t : T} : (T.out d t).wp ty F is Q = t.wp ty F is fun c r => c ≠ d + 2 ∧ Q c r := rfl
theorem wp_fail {n : Nat} : (T.fail n).wp ty F is Q = False := rfl
end
theorem int_num (n : Int) : (Dt.num n).int = n := rfl
theorem bool_tru (b : Bool) : (Dt.tru b).bool = b := rfl
theorem fld_tup (l : List Dt) (i : Nat) : (Dt.tup l).fld i = l.getD i .nil := rfl
def Dt.isSl (x : Dt) : Prop := x = .nil ∨ ∃ l, x = .row l
theorem Dt.isSl.len {x : Dt} (h : x.isSl) : x.len = x.list.length := by
  rcases h with rfl | ⟨l, rfl⟩ <;> rfl
theorem Dt.isSl.idx {x : Dt} (h : x.isSl) (n : Nat) : x.idx n = x.list.getD n .nil := by
  rcases h with rfl | ⟨l, rfl⟩ <;> rfl
theorem tup_of {ty : Ty} {x : Dt} {t : Nat} {fs : List (Nat × Nat × Nat)} {q : Bool} (ht : tdOf ty t = .struct fs q) (h : hasTy ty x t = true) : ∃ l, x = .tup l ∧ hasTyF ty l fs = true := by
  cases x <;> simp only [hasTy, ht] at h <;> first | (cases h; done) | skip
  exact ⟨_, rfl, h⟩
theorem num_of {ty : Ty} {x : Dt} {t : Nat} {k : IntKind} (ht : tdOf ty t = .int k) (h : hasTy ty x t = true) : ∃ n, x = .num n ∧ k.min ≤ n ∧ n ≤ k.max := by
  cases x <;> simp only [hasTy, ht] at h <;> first | (cases h; done) | skip
  simp only [Bool.and_eq_true, decide_eq_true_eq] at h
  exact ⟨_, rfl, h⟩
theorem tru_of {ty : Ty} {x : Dt} {t : Nat} (ht : tdOf ty t = .bool) (h : hasTy ty x t = true) : ∃ b, x = .tru b := by
  cases x <;> simp only [hasTy, ht] at h <;> first | (cases h; done) | skip
  exact ⟨_, rfl⟩
theorem ty1 {ty : Ty} {is : List Dt} {t : Nat} (h : hasTyL ty is [t] = true) : ∃ x, is = [x] ∧ hasTy ty x t = true := by
  match is, h with
  | [x], h => simp only [hasTyL, Bool.and_true] at h; exact ⟨x, rfl, h⟩
  | [], h => simp [hasTyL] at h
  | _ :: _ :: _, h => simp [hasTyL] at h
theorem ty2 {ty : Ty} {is : List Dt} {t u : Nat} (h : hasTyL ty is [t, u] = true) : ∃ x y, is = [x, y] ∧ hasTy ty x t = true ∧ hasTy ty y u = true := by
  match is, h with
  | [x, y], h => simp only [hasTyL, Bool.and_true, Bool.and_eq_true] at h; exact ⟨x, y, rfl, h⟩
  | [], h => simp [hasTyL] at h
  | [_], h => simp [hasTyL] at h
  | _ :: _ :: _ :: _, h => simp [hasTyL] at h
theorem ty3 {ty : Ty} {is : List Dt} {t u v : Nat} (h : hasTyL ty is [t, u, v] = true) : ∃ x y z, is = [x, y, z] ∧ hasTy ty x t = true ∧ hasTy ty y u = true ∧ hasTy ty z v = true := by
  match is, h with
  | [x, y, z], h => simp only [hasTyL, Bool.and_true, Bool.and_eq_true] at h; exact ⟨x, y, z, rfl, h⟩
  | [], h => simp [hasTyL] at h
  | [_], h => simp [hasTyL] at h
  | [_, _], h => simp [hasTyL] at h
  | _ :: _ :: _ :: _ :: _, h => simp [hasTyL] at h
def Dt.ints (x : Dt) : List Int := x.list.map Dt.int
theorem add1 {i : Nat} {n : Nat} (h : i < n) (hn : n < 9223372036854775808) : IntKind.i64.wrap ((i : Int) + 1) = ((i + 1 : Nat) : Int) := by
  rw [IntWalk.i64_in _ (by omega)]; omega
end
end Go.SY
