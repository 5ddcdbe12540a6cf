/- The symbolic executor SY: how data lies in memory that nobody writes. -/
import Derived.Test.YtdfogmblgephdaaSyS2
import Derived.Sort.Row
set_option linter.unusedVariables false
set_option linter.unusedSimpArgs false
namespace Go.SY
open Go Go.RowKit

abbrev Fz := Nat → Option Obj
def cellOf : Obj → Nat → Option Value
  | .cells c _ _, k => c[k]?
  | _, _ => none
def fzCell (fz : Fz) (b off : Nat) : Option Value := match fz b with
  | some o => cellOf o off
  | none => none
/-- What is frozen is in the heap. -/
def FzIn (fz : Fz) (w : World) : Prop := ∀ b o, fz b = some o → w.heap[b]? = some o
def FzLe (fz fz' : Fz) : Prop := ∀ b o, fz b = some o → fz' b = some o
theorem fzCell_w {fz : Fz} {w : World} (h : FzIn fz w) {b off : Nat} {v : Value} (hv : fzCell fz b off = some v) : w.cell? ⟨b, off, none⟩ = some v := by
  unfold fzCell at hv
  split at hv
  · rename_i o ho
    have := h b o ho
    cases o <;> simp only [cellOf] at hv <;> first | cases hv | skip
    simpa [World.cell?, this] using hv
  · cases hv
theorem fzCell_mono {fz fz' : Fz} (h : FzLe fz fz') {b off : Nat} {v : Value} (hv : fzCell fz b off = some v) : fzCell fz' b off = some v := by
  unfold fzCell at hv ⊢
  split at hv
  · rename_i o ho
    rw [h b o ho]; exact hv
  · cases hv
/-- Some cells lie somewhere. -/
def Lies (fz : Fz) (b off : Nat) (cs : List Value) : Prop := ∀ (j : Nat) (v : Value), cs[j]? = some v → fzCell fz b (off + j) = some v
mutual
/-- Cells that stand for data of a type. -/
def rep (ty : Ty) (fz : Fz) : Dt → TypeId → List Value → Prop
  | .num n, t, cs => ∃ k, tdOf ty t = .int k ∧ cs = [.int k n] ∧ k.min ≤ n ∧ n ≤ k.max
  | .tru x, t, cs => tdOf ty t = .bool ∧ cs = [.bool x]
  | .byt l, t, cs => tdOf ty t = .str ∧ cs = [bytesOf l] ∧ l.length < 9223372036854775808
  | .nil, t, cs => (∃ e s, tdOf ty t = .slice e s) ∧ cs = [.slice none 0 0]
  | .row l, t, cs => ∃ e s b off sp cap, tdOf ty t = .slice e s ∧ cs = [.slice (some ⟨b, off, sp⟩) l.length cap] ∧ l.length < 9223372036854775808 ∧ l.length ≤ cap ∧ repL ty fz l e s b off ∧ (sp = none ∨ l = [])
  | .tup l, t, cs => (sizeT ty t = some cs.length ∧ ∀ v ∈ cs, v.oneCell' = true) ∧ ((∃ fs q, tdOf ty t = .struct fs q ∧ repF ty fz l fs cs) ∨ (∃ n e s, tdOf ty t = .arr n e s ∧ l.length = n ∧ repA ty fz l e s cs))
def repL (ty : Ty) (fz : Fz) : List Dt → TypeId → Nat → Nat → Nat → Prop
  | [], _, _, _, _ => True
  | x :: l, e, s, b, off => (∃ cs, cs.length = s ∧ Lies fz b off cs ∧ rep ty fz x e cs) ∧ repL ty fz l e s b (off + s)
def repF (ty : Ty) (fz : Fz) : List Dt → List (Nat × Nat × Nat) → List Value → Prop
  | [], [], _ => True
  | x :: l, f :: fs, cs => (f.2.1 + f.2.2 ≤ cs.length ∧ rep ty fz x f.1 ((cs.drop f.2.1).take f.2.2)) ∧ repF ty fz l fs cs
  | _, _, _ => False
def repA (ty : Ty) (fz : Fz) : List Dt → TypeId → Nat → List Value → Prop
  | [], _, _, _ => True
  | x :: l, e, s, cs => (s ≤ cs.length ∧ rep ty fz x e (cs.take s)) ∧ repA ty fz l e s (cs.drop s)
end
theorem Lies.mono {fz fz' : Fz} (h : FzLe fz fz') {b off : Nat} {cs : List Value} (hl : Lies fz b off cs) : Lies fz' b off cs := fun j v hj => fzCell_mono h (hl j v hj)
mutual
theorem rep_mono {ty : Ty} {fz fz' : Fz} (h : FzLe fz fz') : ∀ {d : Dt} {t : TypeId} {cs : List Value}, rep ty fz d t cs → rep ty fz' d t cs
  | .num _, _, _, hr => hr
  | .tru _, _, _, hr => hr
  | .byt _, _, _, hr => hr
  | .nil, _, _, hr => hr
  | .row l, t, cs, hr => by
    simp only [rep] at hr ⊢
    obtain ⟨e, s, b, off, sp, cap, h1, h2, h3, h4, h5, h6⟩ := hr
    exact ⟨e, s, b, off, sp, cap, h1, h2, h3, h4, repL_mono h h5, h6⟩
  | .tup l, t, cs, hr => by
    simp only [rep] at hr ⊢
    refine ⟨hr.1, ?_⟩
    rcases hr.2 with ⟨fs, q, h1, h2⟩ | ⟨n, e, s, h1, h2, h3⟩
    · exact .inl ⟨fs, q, h1, repF_mono h h2⟩
    · exact .inr ⟨n, e, s, h1, h2, repA_mono h h3⟩
theorem repL_mono {ty : Ty} {fz fz' : Fz} (h : FzLe fz fz') : ∀ {l : List Dt} {e : TypeId} {s b off : Nat}, repL ty fz l e s b off → repL ty fz' l e s b off
  | [], _, _, _, _, _ => by simp only [repL]
  | x :: l, e, s, b, off, hr => by
    simp only [repL] at hr ⊢
    obtain ⟨⟨cs, h1, h2, h3⟩, h4⟩ := hr
    exact ⟨⟨cs, h1, h2.mono h, rep_mono h h3⟩, repL_mono h h4⟩
theorem repF_mono {ty : Ty} {fz fz' : Fz} (h : FzLe fz fz') : ∀ {l : List Dt} {fs : List (Nat × Nat × Nat)} {cs : List Value}, repF ty fz l fs cs → repF ty fz' l fs cs
  | [], [], _, _ => by simp only [repF]
  | x :: l, f :: fs, cs, hr => by
    simp only [repF] at hr ⊢
    exact ⟨⟨hr.1.1, rep_mono h hr.1.2⟩, repF_mono h hr.2⟩
  | [], _ :: _, _, hr => by simp only [repF] at hr
  | _ :: _, [], _, hr => by simp only [repF] at hr
theorem repA_mono {ty : Ty} {fz fz' : Fz} (h : FzLe fz fz') : ∀ {l : List Dt} {e : TypeId} {s : Nat} {cs : List Value}, repA ty fz l e s cs → repA ty fz' l e s cs
  | [], _, _, _, _ => by simp only [repA]
  | x :: l, e, s, cs, hr => by
    simp only [repA] at hr ⊢
    exact ⟨⟨hr.1.1, rep_mono h hr.1.2⟩, repA_mono h hr.2⟩
end
mutual
theorem rep_hasTy {ty : Ty} {fz : Fz} : ∀ {d : Dt} {t : TypeId} {cs : List Value}, rep ty fz d t cs → hasTy ty d t = true
  | .num _, _, _, hr => by simp only [rep] at hr; obtain ⟨k, h1, _, h2, h3⟩ := hr; simp [hasTy, h1, h2, h3]
  | .tru _, _, _, hr => by simp only [rep] at hr; simp [hasTy, hr.1]
  | .byt _, _, _, hr => by simp only [rep] at hr; simp [hasTy, hr.1, hr.2.2]
  | .nil, _, _, hr => by simp only [rep] at hr; obtain ⟨⟨e, s, h⟩, _⟩ := hr; simp [hasTy, h]
  | .row l, t, cs, hr => by
    simp only [rep] at hr
    obtain ⟨e, s, b, off, sp, cap, h1, h2, h3, h4, h5, h6⟩ := hr
    simp [hasTy, h1, h3, repL_hasTy h5]
  | .tup l, t, cs, hr => by
    simp only [rep] at hr
    rcases hr.2 with ⟨fs, q, h1, h2⟩ | ⟨n, e, s, h1, h2, h3⟩
    · simp [hasTy, h1, repF_hasTy h2]
    · simp [hasTy, h1, h2, repA_hasTy h3]
theorem repL_hasTy {ty : Ty} {fz : Fz} : ∀ {l : List Dt} {e : TypeId} {s b off : Nat}, repL ty fz l e s b off → hasTys ty l e = true
  | [], _, _, _, _, _ => rfl
  | x :: l, e, s, b, off, hr => by
    simp only [repL] at hr
    obtain ⟨⟨cs, h1, h2, h3⟩, h4⟩ := hr
    simp [hasTys, rep_hasTy h3, repL_hasTy h4]
theorem repF_hasTy {ty : Ty} {fz : Fz} : ∀ {l : List Dt} {fs : List (Nat × Nat × Nat)} {cs : List Value}, repF ty fz l fs cs → hasTyF ty l fs = true
  | [], [], _, _ => rfl
  | x :: l, f :: fs, cs, hr => by
    simp only [repF] at hr
    simp [hasTyF, rep_hasTy hr.1.2, repF_hasTy hr.2]
  | [], _ :: _, _, hr => by simp only [repF] at hr
  | _ :: _, [], _, hr => by simp only [repF] at hr
theorem repA_hasTy {ty : Ty} {fz : Fz} : ∀ {l : List Dt} {e : TypeId} {s : Nat} {cs : List Value}, repA ty fz l e s cs → hasTys ty l e = true
  | [], _, _, _, _ => rfl
  | x :: l, e, s, cs, hr => by
    simp only [repA] at hr
    simp [hasTys, rep_hasTy hr.1.2, repA_hasTy hr.2]
end
/-- An element of a row. -/
theorem repL_idx {ty : Ty} {fz : Fz} : ∀ {l : List Dt} {e : TypeId} {s b off : Nat}, repL ty fz l e s b off → ∀ (i : Nat) (x : Dt), l[i]? = some x → ∃ cs, cs.length = s ∧ Lies fz b (off + i * s) cs ∧ rep ty fz x e cs
  | [], _, _, _, _, _, _, _, hi => by simp at hi
  | y :: l, e, s, b, off, hr, 0, x, hi => by
    simp only [repL] at hr
    simp only [List.getElem?_cons_zero, Option.some.injEq] at hi
    subst hi
    simpa using hr.1
  | y :: l, e, s, b, off, hr, i + 1, x, hi => by
    simp only [repL] at hr
    simp only [List.getElem?_cons_succ] at hi
    obtain ⟨cs, h1, h2, h3⟩ := repL_idx hr.2 i x hi
    refine ⟨cs, h1, ?_, h3⟩
    rw [show off + (i + 1) * s = off + s + i * s by rw [Nat.add_mul]; omega]
    exact h2

end Go.SY
