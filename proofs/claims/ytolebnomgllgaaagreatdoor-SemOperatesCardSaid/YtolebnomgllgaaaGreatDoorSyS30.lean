/- The symbolic executor SY, its soundness, part 30: blocks at a loop's head. -/
import Derived.Test.YtolebnomgllgaaaGreatDoorSyS27
set_option linter.unusedVariables false
set_option linter.unusedSimpArgs false
namespace Go.SY
open Go Go.RowKit
noncomputable section
variable {F : Nat → List Dt → Post → Prop} {Q : Post} {P : Program}
variable {C : Cfg} {ty : Ty} {pl : Bool} {G : Nat → Prop} {fz0 : Fz} {w0 w w' wB : World} {ρ ρ' ρ1 ρ1' ρN ρB : Env} {st : St} {d : Bd} {tm : Tm} {a : Act} {bm : Tb Nat} {β : Bt}
theorem esBeq_eq : ∀ {a b : List (SV × SV × Nat)}, esBeq a b = true → a = b
  | [], [], _ => rfl
  | [], _ :: _, h => by cases h
  | _ :: _, [], h => by cases h
  | x :: a, y :: b, h => by
    simp only [esBeq, Bool.and_eq_true] at h
    rw [esBeq_eq h.2, show x = y from Prod.ext (SV.beq_eq h.1.1.1) (Prod.ext (SV.beq_eq h.1.1.2) (beq_nat h.1.2))]
theorem SO.beq_eq {a b : SO} (h : a.beq b = true) : a = .gone ∨ a = b := by
  cases a <;> cases b <;> simp only [SO.beq, Bool.and_eq_true] at h <;> first
    | exact .inl rfl
    | (cases h; done)
    | (right; rw [esBeq_eq h]; done)
    | (right; rw [beq_nat h.1, SV.beqs_eq h.2])
    | (right; rw [beq_nat h.1.1, beq_nat h.1.2, A.beq_eq h.2])
    | (right; rw [beq_nat h.1, esBeq_eq h.2])
    | (right; rw [B.beq_eq h.1.1, beq_nat h.1.2, A.beq_eq h.2])
theorem VsOk_cells {ni nb : Nat} : ∀ {cs : List SV}, SV.wfs ni nb cs = true → SV.tys ρ cs → VsOk ρ ni nb cs (SV.dens ρ cs)
  | [], _, _ => trivial
  | v :: cs, h, ht => by
    simp only [SV.wfs, Bool.and_eq_true] at h
    exact ⟨.inr ⟨h.1, ht.1, rfl⟩, VsOk_cells h.2 ht.2⟩
theorem VsOk_dens {ni nb : Nat} : ∀ {cs : List SV} {Vs : List Value}, allCell cs = true → VsOk ρ ni nb cs Vs → SV.dens ρ cs = Vs ∧ SV.tys ρ cs
  | [], [], _, _ => ⟨rfl, trivial⟩
  | [], _ :: _, _, h => h.elim
  | _ :: _, [], _, h => h.elim
  | v :: cs, V :: Vs, ha, h => by
    simp only [allCell, Bool.and_eq_true] at ha
    obtain ⟨i1, i2⟩ := VsOk_dens ha.2 h.2
    rcases h.1 with h1 | ⟨h1, h2, h3⟩
    · subst h1; cases ha.1
    · exact ⟨by simp only [SV.dens, i1, h3], h2, i2⟩
theorem SO.ok_back {i : Nat} {o : SO} (hl : ρB.le ρ) (hi : i < ρB.bs.length) (hw : o.wf ρB.is.length ρB.bs.length = true) (hB : SO.ok ty ρB wB i o) (h : SO.ok ty ρ w i o) : SO.ok ty { ρB with fz := ρ.fz } w i o := by
  cases o with
  | cells c e =>
    simp only [SO.wf, Bool.and_eq_true] at hw
    simp only [SO.ok] at h hB ⊢
    rw [Env.b_app hl hi, SV.dens_app hl hw.1] at h
    refine ⟨?_, tys_fz' hB.2⟩
    rw [dens_fz]
    exact h.1
  | rowd e s x =>
    simp only [SO.wf] at hw
    simp only [SO.ok] at h ⊢
    rw [Env.val_app hl hi, Env.A_app hl hw] at h
    exact h
  | map es k =>
    simp only [SO.wf] at hw
    simp only [SO.ok] at h hB ⊢
    rw [Env.b_app hl hi, esDen_app hl hw] at h
    refine ⟨?_, fun e he => ⟨ty_fz' (hB.2 e he).1, ty_fz' (hB.2 e he).2⟩⟩
    rw [esDen_fz]
    exact h.1
  | pool e s x =>
    simp only [SO.wf] at hw
    simp only [SO.ok] at h ⊢
    rw [Env.A_app hl hw] at h
    exact h
  | _ => trivial
def BaseOk (ty : Ty) (ρB : Env) (wB : World) (h : HsB) (o : SO) (i : Nat) : Prop :=
  i < ρB.bs.length ∧ match h, o with
    | .cells l, .cells c _ => KeepOk ρB l c
    | .row, .rowd _ _ _ => True
    | _, o => o = .gone ∨ (o.wf ρB.is.length ρB.bs.length = true ∧ SO.ok ty ρB wB i o)
def BaseL (ty : Ty) (ρB : Env) (wB : World) : List HsB → List SO → Nat → Prop
  | h :: hs, o :: os, b => BaseOk ty ρB wB h o b ∧ BaseL ty ρB wB hs os (b + 1)
  | _, _, _ => True
theorem HbR_RMono {hs : List HsB} {os : List SO} {b : Nat} : RMono (fun fz β ds fp => HbR ty fz w β ρB hs os b ds fp) := fun _ _ _ _ _ _ hz hb h => HbR.mono hz hb h
theorem mtHsB_ok (hty : TyOk P ty) {pc : List (B × Bool)} (hpw : ∀ p ∈ pc, p.1.wf st.ni = true) : ∀ {hs : List HsB} {os : List SO} {b : Nat} {m m' : Mt} {as : List A} {G : Nat → Prop} {fz0 : Fz} {w0 : World} {ρ ρ1 : Env}, mtHsB ty pc hs os b m = some (as, m') → FsR ty pl G fz0 w0 st w ρ ρ1 m.f → BmOk st.nb m → PcOk ρ.is pc → ρB.le ρ → BaseL ty ρB wB hs os b →
      MtR ty pl G fz0 w0 st w ρ ρ1 m m' as (fun fz β ds fp => HbR ty fz w β ρB hs os b ds fp)
  | [], [], b, m, m', as, G, fz0, w0, ρ, ρ1, h, hf, hb, hpc, hl, hB => by
    simp only [mtHsB] at h
    cases h
    exact MtR.same hf hb ⟨rfl, rfl⟩
  | [], _ :: _, b, m, m', as, G, fz0, w0, ρ, ρ1, h, _, _, _, _, _ => by simp [mtHsB] at h
  | _ :: _, [], b, m, m', as, G, fz0, w0, ρ, ρ1, h, _, _, _, _, _ => by simp [mtHsB] at h
  | x :: hs, o :: os, b, m, m', as, G, fz0, w0, ρ, ρ1, h, hf, hb, hpc, hl, hB => by
    have hni := hf.hm.hni
    have hnb := hf.hm.hnb
    obtain ⟨⟨hlt, hB1⟩, hB2⟩ := hB
    simp only [mtHsB] at h
    split at h
    · rename_i a1 m1 h1
      split at h
      · rename_i a2 m2 h2
        cases h
        have rest : ∀ (G : Nat → Prop) (fz0 : Fz) (w0 : World) (ρ' ρ1' : Env), ρ.fl ρ' → FsR ty pl G fz0 w0 st w ρ' ρ1' m1.f → BmOk st.nb m1 → MtR ty pl G fz0 w0 st w ρ' ρ1' m1 m' a2 (fun fz β ds fp => HbR ty fz w β ρB hs os (b + 1) ds fp) :=
          fun G fz0 w0 ρ' ρ1' hfl hf' hb' => mtHsB_ok hty hpw h2 hf' hb' (PcOk.fl hfl hpc) (Env.le_trans hl hfl.le) hB2
        split at h1
        · rename_i l c e c' e' hgot
          cases hk : Nat.beq e e' <;> rw [hk] at h1 <;> simp only [cond_true, cond_false] at h1
          · cases h1
          · have := beq_nat hk
            subst this
            have hget : m.f.mem.get b = some (.cells c' e) := by
              cases hg : m.f.mem.get b with
              | none => rw [hg] at hgot; cases hgot
              | some y => rw [hg] at hgot; simp only [Option.getD_some] at hgot; rw [hgot]
            obtain ⟨_, hw, _, hok⟩ := hf.hm.mem b _ hget
            simp only [SO.wf, Bool.and_eq_true] at hw
            simp only [SO.ok] at hok
            rw [Env.b_app hl hlt] at hok
            have r1 := mtHs_ok (ρB := ρB) hty hpw h1 hf hb hpc hl (VsOk_cells hw.1 hok.2) hB1
            refine (r1.seq HsR_RMono rest).mono ?_
            rintro fz β ds fp ⟨d1, d2, f1, f2, e1, e2, e3, e4⟩
            exact ⟨d1, d2, f1, f2, e1, e2, ⟨_, hok.1, e3⟩, e4⟩
        · rename_i e s a0 e' s' a hgot
          cases hk : (Nat.beq e e' && Nat.beq s s') <;> rw [hk] at h1 <;> simp only [cond_true, cond_false] at h1
          · cases h1
          · simp only [Bool.and_eq_true] at hk
            have k1 := beq_nat hk.1
            have k2 := beq_nat hk.2
            subst k1; subst k2
            cases h1
            have hget : m.f.mem.get b = some (.rowd e s a) := by
              cases hg : m.f.mem.get b with
              | none => rw [hg] at hgot; cases hgot
              | some y => rw [hg] at hgot; simp only [Option.getD_some] at hgot; rw [hgot]
            obtain ⟨_, hw, _, hok⟩ := hf.hm.mem b _ hget
            simp only [SO.wf] at hw
            simp only [SO.ok] at hok
            rw [Env.val_app hl hlt] at hok
            have hwa := hf.he.wfA (x := a) (by rw [hni]; exact hw)
            have step : MtR ty pl G fz0 w0 st w ρ ρ1 m m [a] (fun fz β ds fp => ∃ x, ds = [x] ∧ fp = [] ∧ RowOk ty fz w e s x (ρB.val b)) :=
              ⟨ρ, ρ1, [], hf, .refl _, Env.le_refl _, rfl, Nat.le_refl _, fun _ _ h => h, ⟨rfl, hb⟩, ⟨.nil, (fun _ h => nomatch h), (fun _ h => nomatch h)⟩, fun y hy => by simp at hy; subst hy; exact hwa.1, _, rfl, rfl, by
                show RowOk ty ρ.fz w e s (A.den ρ1.is a) (ρB.val b)
                rw [hwa.2]; exact hok⟩
            refine (step.seq (fun fz fz' β β' ds fp hz hbt h => by obtain ⟨x, q1, q2, q3⟩ := h; exact ⟨x, q1, q2, q3.mono hz⟩) rest).mono ?_
            rintro fz β ds fp ⟨d1, d2, f1, f2, e1, e2, e3, e4⟩
            exact ⟨d1, d2, f1, f2, e1, e2, e3, e4⟩
        · rename_i hX oX _ _ _ hn1 hn2
          cases hk : oX.beq ((m.f.mem.get b).getD .gone) <;> rw [hk] at h1 <;> simp only [cond_true, cond_false] at h1
          · cases h1
          · cases h1
            have hget : oX = .gone ∨ m.f.mem.get b = some oX := by
              rcases SO.beq_eq hk with he | he
              · exact .inl he
              · cases hg : m.f.mem.get b with
                | none => rw [hg] at he; exact .inl he
                | some y => rw [hg] at he; simp only [Option.getD_some] at he; exact .inr (by rw [he])
            have hbe : HbE ty ρ.fz w (bβ ρ m.bm) ρB hX oX b [] [] := by
              have hD : oX ≠ .gone → (m.f.mem.get b).getD .gone = oX := fun hne => by
                rcases hget with h | h
                · exact absurd h hne
                · rw [h]; rfl
              have keep : (oX = .gone ∨ (oX.wf ρB.is.length ρB.bs.length = true ∧ SO.ok ty ρB wB b oX)) → SO.ok ty { ρB with fz := ρ.fz } w b oX := by
                rintro (h | ⟨q1, q2⟩)
                · rw [h]; trivial
                · rcases hget with h | h
                  · rw [h]; trivial
                  · exact SO.ok_back hl hlt q1 q2 (hf.hm.mem b _ h).2.2.2
              unfold HbE
              split
              · rename_i l c e
                exact absurd (hD (by simp)) (fun h => hn1 l c e c e rfl rfl h)
              · rename_i e s a0
                exact absurd (hD (by simp)) (fun h => hn2 e s a0 e s a0 rfl rfl h)
              · rename_i g1 g2
                refine ⟨rfl, rfl, keep ?_⟩
                split at hB1
                · exact absurd rfl (g1 _ _ _ rfl)
                · exact absurd rfl (g2 _ _ _ rfl)
                · exact hB1
            have step : MtR ty pl G fz0 w0 st w ρ ρ1 m m [] (fun fz β ds fp => HbE ty fz w β ρB hX oX b ds fp) := MtR.same hf hb hbe
            refine (step.seq (fun fz fz' β β' ds fp hz hbt h => HbE.mono hz hbt h) rest).mono ?_
            rintro fz β ds fp ⟨d1, d2, f1, f2, e1, e2, e3, e4⟩
            exact ⟨d1, d2, f1, f2, e1, e2, e3, e4⟩
      · cases h
    · cases h
def EntOk (ty : Ty) (ρB ρ : Env) (w : World) (i : Nat) (o o' : SO) : Prop :=
  (∀ c e, o' = .cells c e → allCell c = true) → o'.wf ρ.is.length ρ.bs.length = true ∧ GhOk ty ρ i o' ∧ SO.ok ty ρ w i o' ∧ foot ρ i o' = foot ρB i o
theorem EntOk.app {i : Nat} {o o' : SO} (hl : ρ.le ρ') (hi : i < ρ.bs.length) (h : EntOk ty ρB ρ w i o o') : EntOk ty ρB ρ' w i o o' := fun hc => by
  obtain ⟨h1, h2, h3, h4⟩ := h hc
  exact ⟨SO.wf_mono hl.len_is hl.len_bs h1, GhOk.app hl hi h1 h2, SO.ok_app hl hi h1 h3, by rw [foot_app hl hi _ h1 h2, h4]⟩
theorem row_gh {e s : Nat} {x x0 : A} {i : Nat} (hG : GhOk ty ρB i (.rowd e s x0)) {ρ : Env} {fz : Fz} (hb : ρ.b i = ρB.b i) (hv : ρ.val i = ρB.val i) (hr : RowOk ty fz w e s (x.den ρ.is) (ρB.val i)) : GhOk ty ρ i (.rowd e s x) := by
  have hl := hr.len_lt
  simp only [GhOk] at hG ⊢
  rw [hb, hv]
  rcases hr with ⟨h1, h2⟩ | ⟨l, b, cap, xs, h1, h2, h3, h4⟩
  · exact .inl ⟨h1, h2⟩
  · refine .inr ⟨l, cap, h1, ?_, by rw [h1] at hl; exact hl⟩
    rcases hG with ⟨_, g2⟩ | ⟨l', cap', g1, g2, _⟩
    · rw [g2] at h2; cases h2
    · rw [h2] at g2 ⊢
      injection g2 with g2
      injection g2 with g2
      injection g2 with g2
      rw [g2]
theorem crHsB_ok : ∀ {hs : List HsB} {os : List SO} {b : Nat} {c c' : Cr} {l : List SO} {ds : List Dt} {fp0 fp : List Nat} {ρ1 : Env}, crHsB ty hs os c = some (l, c') → CrS ty w ρN c.d ρ1 fp0 → HbR ty ρN.fz w (fun _ => none) ρB hs os b ds fp → (∀ j x, ds[j]? = some x → ρN.is[c.n + j]? = some x) → (fp0 ++ fp).Nodup → BaseL ty ρB wB hs os b → (∀ i o, os[i]? = some o → GhOk ty ρB (b + i) o) → ρB.le ρN →
      ∃ ρ1', CrS ty w ρN c'.d ρ1' (fp0 ++ fp) ∧ ρ1.le ρ1' ∧ c'.n = c.n + ds.length ∧ l.length = os.length ∧ ∀ i o', l[i]? = some o' → ∃ o, os[i]? = some o ∧ EntOk ty ρB ρ1' w (b + i) o o'
  | [], [], b, c, c', l, ds, fp0, fp, ρ1, h, hc, hr, hd, hnd, hB, hG, hl => by
    simp only [crHsB] at h
    cases h
    obtain ⟨rfl, rfl⟩ := hr
    exact ⟨ρ1, by rw [List.append_nil]; exact hc, Env.le_refl _, rfl, rfl, fun i o h => by simp at h⟩
  | [], _ :: _, b, c, c', l, ds, fp0, fp, ρ1, h, hc, hr, hd, hnd, hB, hG, hl => hr.elim
  | _ :: _, [], b, c, c', l, ds, fp0, fp, ρ1, h, hc, hr, hd, hnd, hB, hG, hl => hr.elim
  | x :: hs, o :: os, b, c, c', l, ds, fp0, fp, ρ1, h, hc, hr, hd, hnd, hB, hG, hl => by
    simp only [crHsB] at h
    split at h
    · rename_i u c1 h1
      split at h
      · rename_i r c2 h2
        cases h
        obtain ⟨d1, d2, f1, f2, rfl, rfl, h4, h5⟩ := hr
        obtain ⟨⟨hlt, hB1⟩, hB2⟩ := hB
        rw [← List.append_assoc] at hnd
        have hG0 := hG 0 o rfl
        rw [Nat.add_zero] at hG0
        have one : ∃ ρ2, CrS ty w ρN c1.d ρ2 (fp0 ++ f1) ∧ ρ1.le ρ2 ∧ c1.n = c.n + d1.length ∧ EntOk ty ρB ρ2 w b o u := by
          have hd1 : ∀ j x, d1[j]? = some x → ρN.is[c.n + j]? = some x := fun j x hj => hd j x (by rw [List.getElem?_append_left (List.getElem?_eq_some_iff.1 hj).1]; exact hj)
          split at h1
          · rename_i lh cs e
            split at h1
            · rename_i xs c3 h3
              cases h1
              obtain ⟨vs, hw, hs4⟩ := h4
              obtain ⟨ρ2, k1, k2, k3, k4, k5⟩ := crHs_ok h3 hc hs4 hd1 (List.nodup_append.1 hnd).1 hB1 hl
              refine ⟨ρ2, k1, k2, k3, fun hcell => ?_⟩
              have hac := hcell xs e rfl
              obtain ⟨q1, q2⟩ := VsOk_dens hac k4
              have hle := Env.le_trans hl k1.ext.le
              have hwx : SV.wfs ρ2.is.length ρ2.bs.length xs = true := by
                rw [k1.ext.len, k1.ext.lenb]
                refine wfs_of_mem fun v hv => ?_
                have : ∀ {cs : List SV} {Vs : List Value}, VsOk ρ2 c1.d.ni c1.d.nb cs Vs → ∀ v ∈ cs, v = .bot ∨ v.wf c1.d.ni c1.d.nb = true := by
                  intro cs
                  induction cs with
                  | nil => intro Vs _ v hv; cases hv
                  | cons y cs ih =>
                    intro Vs hV v hv
                    cases Vs with
                    | nil => exact hV.elim
                    | cons Y Vs =>
                      rcases List.mem_cons.1 hv with hv' | hv'
                      · rw [hv']; exact hV.1.imp id fun h => h.1
                      · exact ih hV.2 v hv'
                rcases this k4 v hv with h | h
                · have := allCell_mem hac v hv
                  rw [h] at this
                  cases this
                · exact h
              refine ⟨by simp only [SO.wf, hwx, hac, Bool.and_self], trivial, ?_, by funext k; simp only [foot, Env.b_app hle hlt]⟩
              simp only [SO.ok]
              rw [Env.b_app hle hlt, q1]
              exact ⟨hw, q2⟩
            · cases h1
          · rename_i e s x0
            cases h1
            obtain ⟨y, rfl, rfl, hrow⟩ := h4
            have hx := hd1 0 y rfl
            rw [Nat.add_zero] at hx
            have hlt2 := (List.getElem?_eq_some_iff.1 hx).1
            have hle := Env.le_trans hl hc.ext.le
            have hxd : (A.v c.n).den ρ1.is = y := by
              rw [hc.is]
              simp only [A.den, List.getD_eq_getElem?_getD, hx, Option.getD_some]
            refine ⟨ρ1, by rw [List.append_nil]; exact hc, Env.le_refl _, rfl, fun _ => ⟨?_, ?_, ?_, ?_⟩⟩
            · simp only [SO.wf, A.wf]
              rw [hc.is]
              exact blt_of hlt2
            · exact row_gh hG0 (Env.b_app hle hlt) (Env.val_app hle hlt) (by rw [hxd]; exact hrow)
            · simp only [SO.ok]
              rw [Env.val_app hle hlt, hxd, hc.ext.fz]
              exact hrow
            · funext k; simp only [foot, Env.val_app hle hlt]
          · rename_i g1 g2
            cases h1
            have hB1' : o = .gone ∨ (o.wf ρB.is.length ρB.bs.length = true ∧ SO.ok ty ρB wB b o) := by
              split at hB1
              · exact absurd rfl (g1 _ _ _ rfl)
              · exact absurd rfl (g2 _ _ _ rfl)
              · exact hB1
            have h4' : d1 = [] ∧ f1 = [] ∧ SO.ok ty { ρB with fz := ρN.fz } w b o := by
              unfold HbE at h4
              split at h4
              · exact absurd rfl (g1 _ _ _ rfl)
              · exact absurd rfl (g2 _ _ _ rfl)
              · exact h4
            obtain ⟨rfl, rfl, hok⟩ := h4'
            have hle := Env.le_trans hl hc.ext.le
            have hle2 : ({ ρB with fz := ρN.fz } : Env).le ρ1 := ⟨hle.is, hle.bs, fun b o ho => by rw [hc.ext.fz]; exact ho⟩
            refine ⟨ρ1, by rw [List.append_nil]; exact hc, Env.le_refl _, rfl, fun _ => ?_⟩
            rcases hB1' with h | ⟨q1, q2⟩
            · rw [h]
              exact ⟨rfl, trivial, trivial, rfl⟩
            · exact ⟨SO.wf_mono hle.len_is hle.len_bs q1, GhOk.app hle hlt q1 hG0, SO.ok_app hle2 hlt q1 hok, foot_app hle hlt o q1 hG0⟩
        obtain ⟨ρ2, k1, k2, k3, k4⟩ := one
        obtain ⟨ρ3, m1, m2, m3, m4, m5⟩ := crHsB_ok h2 k1 h5 (fun j x hj => by
          rw [k3, Nat.add_assoc]
          exact hd (d1.length + j) x (by rw [List.getElem?_append_right (by omega)]; simpa using hj)) hnd hB2 (fun i o hi => by
          have := hG (i + 1) o (by simpa using hi)
          rwa [show b + (i + 1) = b + 1 + i by omega] at this) hl
        refine ⟨ρ3, by rw [← List.append_assoc]; exact m1, Env.le_trans k2 m2, by rw [m3, k3, List.length_append]; omega, by simp [m4], fun i o' hi => ?_⟩
        cases i with
        | zero =>
          simp only [List.getElem?_cons_zero, Option.some.injEq] at hi
          subst hi
          exact ⟨o, rfl, EntOk.app m2 (by have := (Env.le_trans hl k1.ext.le).len_bs; omega) k4⟩
        | succ i =>
          simp only [List.getElem?_cons_succ] at hi
          obtain ⟨o2, q1, q2⟩ := m5 i o' hi
          refine ⟨o2, by simpa using q1, ?_⟩
          rw [show b + (i + 1) = b + 1 + i by omega]
          exact q2
      · cases h
    · cases h
end
end Go.SY
set_option linter.unusedVariables false
set_option linter.unusedSimpArgs false
namespace Go.SY
open Go Go.RowKit
noncomputable section
variable {F : Nat → List Dt → Post → Prop} {Q : Post} {P : Program}
variable {C : Cfg} {ty : Ty} {pl : Bool} {G : Nat → Prop} {fz0 : Fz} {w0 w w' wB : World} {ρ ρ' ρ1 ρ1' ρN ρB : Env} {st : St} {d : Bd} {tm : Tm} {a : Act} {bm : Tb Nat} {β : Bt}
theorem crHs_keep : ∀ {hs : List Hs} {vs : List SV} {c c' : Cr} {l : List SV}, crHs ty hs vs c = some (l, c') → KeepEq hs vs l
  | [], [], c, c', l, h => by
    simp only [crHs] at h
    cases h
    trivial
  | [], _ :: _, c, c', l, h => by simp [crHs] at h
  | _ :: _, [], c, c', l, h => by simp [crHs] at h
  | x :: hs, v :: vs, c, c', l, h => by
    simp only [crHs] at h
    split at h
    · rename_i u c1 h1
      split at h
      · rename_i r c2 h2
        cases h
        refine ⟨fun hx => ?_, crHs_keep h2⟩
        subst hx
        simp only at h1
        cases h1
        rfl
      · cases h
    · cases h
def KeepEqB : List HsB → List SO → List SO → Prop
  | [], [], [] => True
  | h :: hs, o :: os, o' :: os' => (match h, o with
    | .cells l, .cells c e => ∃ c', o' = .cells c' e ∧ KeepEq l c c'
    | .row, .rowd e s _ => ∃ a, o' = .rowd e s a
    | _, o => o' = o) ∧ KeepEqB hs os os'
  | _, _, _ => False
theorem crHsB_keep : ∀ {hs : List HsB} {os : List SO} {c c' : Cr} {l : List SO}, crHsB ty hs os c = some (l, c') → KeepEqB hs os l
  | [], [], c, c', l, h => by
    simp only [crHsB] at h
    cases h
    trivial
  | [], _ :: _, c, c', l, h => by simp [crHsB] at h
  | _ :: _, [], c, c', l, h => by simp [crHsB] at h
  | x :: hs, o :: os, c, c', l, h => by
    simp only [crHsB] at h
    split at h
    · rename_i u c1 h1
      split at h
      · rename_i r c2 h2
        cases h
        refine ⟨?_, crHsB_keep h2⟩
        split at h1
        · split at h1
          · rename_i xs c3 h3
            cases h1
            exact ⟨xs, rfl, crHs_keep h3⟩
          · cases h1
        · cases h1
          exact ⟨_, rfl⟩
        · rename_i g1 g2
          cases h1
          split
          · exact absurd rfl (g1 _ _ _ rfl)
          · exact absurd rfl (g2 _ _ _ rfl)
          · rfl
      · cases h
    · cases h
theorem HbR.keepEq {fz : Fz} {β : Bt} : ∀ {hs : List HsB} {os os' : List SO} {b : Nat} {ds : List Dt} {fp : List Nat}, KeepEqB hs os os' → HbR ty fz w β ρB hs os' b ds fp → HbR ty fz w β ρB hs os b ds fp
  | [], [], [], _, _, _, _, h => h
  | [], _ :: _, [], _, _, _, h, _ => h.elim
  | [], [], _ :: _, _, _, _, h, _ => h.elim
  | [], _ :: _, _ :: _, _, _, _, h, _ => h.elim
  | _ :: _, [], _, _, _, _, h, _ => h.elim
  | _ :: _, _ :: _, [], _, _, _, h, _ => h.elim
  | x :: hs, o :: os, o' :: os', b, _, _, hk, hr => by
    obtain ⟨d1, d2, f1, f2, h1, h2, h3, h4⟩ := hr
    refine ⟨d1, d2, f1, f2, h1, h2, ?_, HbR.keepEq hk.2 h4⟩
    have hk1 := hk.1
    split at hk1
    · obtain ⟨c', rfl, hke⟩ := hk1
      obtain ⟨cs, q1, q2⟩ := h3
      exact ⟨cs, q1, HsR.keepEq hke q2⟩
    · obtain ⟨a, rfl⟩ := hk1
      exact h3
    · rw [hk1] at h3
      exact h3
theorem KeepOk.keepEq : ∀ {hs : List Hs} {os os' : List SV}, KeepEq hs os os' → KeepOk ρB hs os → KeepOk ρB hs os'
  | [], [], [], _, _ => trivial
  | [], _ :: _, [], h, _ => h.elim
  | [], [], _ :: _, h, _ => h.elim
  | [], _ :: _, _ :: _, h, _ => h.elim
  | _ :: _, [], _, h, _ => h.elim
  | _ :: _, _ :: _, [], h, _ => h.elim
  | h :: hs, o :: os, o' :: os', hk, hr => by
    refine ⟨fun hx => ?_, KeepOk.keepEq hk.2 hr.2⟩
    obtain ⟨u, hx1, hx2⟩ := hx
    rw [hk.1 hx1]
    exact hr.1 ⟨u, hx1, hx2⟩
theorem BaseL.keepEq : ∀ {hs : List HsB} {os os' : List SO} {b : Nat}, KeepEqB hs os os' → BaseL ty ρB wB hs os b → BaseL ty ρB wB hs os' b
  | [], _, _, _, _, _ => by simp only [BaseL]
  | _ :: _, [], _, _, h, _ => h.elim
  | _ :: _, _ :: _, [], _, h, _ => h.elim
  | x :: hs, o :: os, o' :: os', b, hk, hr => by
    obtain ⟨⟨h1, h2⟩, h3⟩ := hr
    refine ⟨⟨h1, ?_⟩, BaseL.keepEq hk.2 h3⟩
    have hk1 := hk.1
    split at hk1
    · obtain ⟨c', rfl, hke⟩ := hk1
      exact KeepOk.keepEq hke h2
    · obtain ⟨a, rfl⟩ := hk1
      exact h2
    · rw [hk1]
      exact h2
end
end Go.SY
