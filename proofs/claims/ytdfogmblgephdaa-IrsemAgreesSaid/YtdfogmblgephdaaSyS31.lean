/- The symbolic executor SY, its soundness, part 31: what a loop's head keeps; the head. -/
import Derived.Test.YtdfogmblgephdaaSyS30
set_option linter.unusedVariables false
set_option linter.unusedSimpArgs false
namespace Go.SY
open Go Go.RowKit

variable {F : Nat → List Dt → Post → Prop} {Q : Post} {P : Program}
variable {C : Cfg} {ty : Ty} {G : Nat → Prop} {fz0 : Fz} {w0 w w' wB : World} {ρ ρ' ρ1 ρ1' ρN ρB : Env} {st : St} {d : Bd} {tm : Tm} {a : Act} {bm : Tb Nat} {β : Bt}

theorem crHs_keep : ∀ {hs : List Hs} {vs : List SV} {c c' : Cr} {l : List SV}, crHs ty hs vs c = some (l, c') → KeepEq hs vs l
  | [], [], c, c', l, h => by
    simp only [crHs] at h
    cases h
    trivial
  | [], _ :: _, c, c', l, h => by simp [crHs] at h
  | _ :: _, [], c, c', l, h => by simp [crHs] at h
  | x :: hs, v :: vs, c, c', l, h => by
    simp only [crHs] at h
    split at h
    · rename_i u c1 h1
      split at h
      · rename_i r c2 h2
        cases h
        refine ⟨fun hx => ?_, crHs_keep h2⟩
        subst hx
        simp only at h1
        cases h1
        rfl
      · cases h
    · cases h
/-- The same for blocks. -/
def KeepEqB : List HsB → List SO → List SO → Prop
  | [], [], [] => True
  | h :: hs, o :: os, o' :: os' => (match h, o with
    | .cells l, .cells c e => ∃ c', o' = .cells c' e ∧ KeepEq l c c'
    | .row, .rowd e s _ => ∃ a, o' = .rowd e s a
    | _, o => o' = o) ∧ KeepEqB hs os os'
  | _, _, _ => False
theorem crHsB_keep : ∀ {hs : List HsB} {os : List SO} {c c' : Cr} {l : List SO}, crHsB ty hs os c = some (l, c') → KeepEqB hs os l
  | [], [], c, c', l, h => by
    simp only [crHsB] at h
    cases h
    trivial
  | [], _ :: _, c, c', l, h => by simp [crHsB] at h
  | _ :: _, [], c, c', l, h => by simp [crHsB] at h
  | x :: hs, o :: os, c, c', l, h => by
    simp only [crHsB] at h
    split at h
    · rename_i u c1 h1
      split at h
      · rename_i r c2 h2
        cases h
        refine ⟨?_, crHsB_keep h2⟩
        split at h1
        · split at h1
          · rename_i xs c3 h3
            cases h1
            exact ⟨xs, rfl, crHs_keep h3⟩
          · cases h1
        · cases h1
          exact ⟨_, rfl⟩
        · rename_i g1 g2
          cases h1
          split
          · exact absurd rfl (g1 _ _ _ rfl)
          · exact absurd rfl (g2 _ _ _ rfl)
          · rfl
      · cases h
    · cases h
theorem HbR.keepEq {fz : Fz} {β : Bt} : ∀ {hs : List HsB} {os os' : List SO} {b : Nat} {ds : List Dt} {fp : List Nat}, KeepEqB hs os os' → HbR ty fz w β ρB hs os' b ds fp → HbR ty fz w β ρB hs os b ds fp
  | [], [], [], _, _, _, _, h => h
  | [], _ :: _, [], _, _, _, h, _ => h.elim
  | [], [], _ :: _, _, _, _, h, _ => h.elim
  | [], _ :: _, _ :: _, _, _, _, h, _ => h.elim
  | _ :: _, [], _, _, _, _, h, _ => h.elim
  | _ :: _, _ :: _, [], _, _, _, h, _ => h.elim
  | x :: hs, o :: os, o' :: os', b, _, _, hk, hr => by
    obtain ⟨d1, d2, f1, f2, h1, h2, h3, h4⟩ := hr
    refine ⟨d1, d2, f1, f2, h1, h2, ?_, HbR.keepEq hk.2 h4⟩
    have hk1 := hk.1
    split at hk1
    · obtain ⟨c', rfl, hke⟩ := hk1
      obtain ⟨cs, q1, q2⟩ := h3
      exact ⟨cs, q1, HsR.keepEq hke q2⟩
    · obtain ⟨a, rfl⟩ := hk1
      exact h3
    · rw [hk1] at h3
      exact h3
theorem KeepOk.keepEq : ∀ {hs : List Hs} {os os' : List SV}, KeepEq hs os os' → KeepOk ρB hs os → KeepOk ρB hs os'
  | [], [], [], _, _ => trivial
  | [], _ :: _, [], h, _ => h.elim
  | [], [], _ :: _, h, _ => h.elim
  | [], _ :: _, _ :: _, h, _ => h.elim
  | _ :: _, [], _, h, _ => h.elim
  | _ :: _, _ :: _, [], h, _ => h.elim
  | h :: hs, o :: os, o' :: os', hk, hr => by
    refine ⟨fun hx => ?_, KeepOk.keepEq hk.2 hr.2⟩
    obtain ⟨u, hx1, hx2⟩ := hx
    rw [hk.1 hx1]
    exact hr.1 ⟨u, hx1, hx2⟩
theorem BaseL.keepEq : ∀ {hs : List HsB} {os os' : List SO} {b : Nat}, KeepEqB hs os os' → BaseL ty ρB wB hs os b → BaseL ty ρB wB hs os' b
  | [], _, _, _, _, _ => by simp only [BaseL]
  | _ :: _, [], _, _, h, _ => h.elim
  | _ :: _, _ :: _, [], _, h, _ => h.elim
  | x :: hs, o :: os, o' :: os', b, hk, hr => by
    obtain ⟨⟨h1, h2⟩, h3⟩ := hr
    refine ⟨⟨h1, ?_⟩, BaseL.keepEq hk.2 h3⟩
    have hk1 := hk.1
    split at hk1
    · obtain ⟨c', rfl, hke⟩ := hk1
      exact KeepOk.keepEq hke h2
    · obtain ⟨a, rfl⟩ := hk1
      exact h2
    · rw [hk1]
      exact h2

end Go.SY
