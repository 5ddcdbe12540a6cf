/- The symbolic executor SY, its soundness, part 27: a loop's head. -/
import Derived.Test.YtolebnomgllgaaaGreatDoorSyS26
set_option linter.unusedVariables false
set_option linter.unusedSimpArgs false
namespace Go.SY
open Go Go.RowKit
noncomputable section
variable {F : Nat → List Dt → Post → Prop} {Q : Post} {P : Program}
variable {C : Cfg} {ty : Ty} {pl : Bool} {G : Nat → Prop} {fz0 : Fz} {w0 w w' : World} {ρ ρ' ρ1 ρ1' ρN ρB : Env} {st : St} {d : Bd} {tm : Tm} {a : Act} {bm : Tb Nat} {β : Bt}
def HsR (ty : Ty) (fz : Fz) (w : World) (β : Bt) (ρB : Env) : List Hs → List SV → List Value → List Dt → List Nat → Prop
  | [], [], vs, ds, fp => vs = [] ∧ ds = [] ∧ fp = []
  | h :: hs, o :: os, vs, ds, fp => ∃ V vr d1 d2 f1 f2, vs = V :: vr ∧ ds = d1 ++ d2 ∧ fp = f1 ++ f2 ∧ (match h with
      | .bot => d1 = [] ∧ f1 = []
      | .keep => d1 = [] ∧ f1 = [] ∧ (o = .bot ∨ V = o.den ρB)
      | .sh s => ∃ cs, s.val ty V cs ∧ ShR ty fz w β s cs d1 f1) ∧ HsR ty fz w β ρB hs os vr d2 f2
  | _, _, _, _, _ => False
theorem HsR.mono {fz fz' : Fz} {β β' : Bt} (hz : FzLe fz fz') (hb : BtLe β β') : ∀ {hs : List Hs} {os : List SV} {vs : List Value} {ds : List Dt} {fp : List Nat}, HsR ty fz w β ρB hs os vs ds fp → HsR ty fz' w β' ρB hs os vs ds fp
  | [], [], _, _, _, h => h
  | [], _ :: _, _, _, _, h => h.elim
  | _ :: _, [], _, _, _, h => h.elim
  | h :: hs, o :: os, _, _, _, hr => by
    simp only [HsR] at hr ⊢
    obtain ⟨V, vr, d1, d2, f1, f2, h1, h2, h3, h4, h5⟩ := hr
    refine ⟨V, vr, d1, d2, f1, f2, h1, h2, h3, ?_, HsR.mono hz hb h5⟩
    cases h with
    | sh s => obtain ⟨cs, q1, q2⟩ := h4; exact ⟨cs, q1, ShR.mono hz hb q2⟩
    | keep => exact h4
    | bot => exact h4
theorem HsR_RMono {hs : List Hs} {os : List SV} {vs : List Value} : RMono (fun fz β ds fp => HsR ty fz w β ρB hs os vs ds fp) := fun _ _ _ _ _ _ hz hb h => HsR.mono hz hb h
def VsOk (ρ : Env) (ni nb : Nat) : List SV → List Value → Prop
  | [], [] => True
  | v :: vs, V :: Vs => (v = .bot ∨ (v.wf ni nb = true ∧ v.ty ρ ∧ V = v.den ρ)) ∧ VsOk ρ ni nb vs Vs
  | _, _ => False
theorem VsOk.app {ni nb : Nat} (hl : ρ.le ρ') (hni : ρ.is.length = ni) (hnb : ρ.bs.length = nb) : ∀ {vs : List SV} {Vs : List Value}, VsOk ρ ni nb vs Vs → VsOk ρ' ρ'.is.length ρ'.bs.length vs Vs
  | [], [], _ => trivial
  | [], _ :: _, h => h
  | _ :: _, [], h => h
  | v :: vs, V :: Vs, h => by
    refine ⟨h.1.imp id fun ⟨h1, h2, h3⟩ => ?_, VsOk.app hl hni hnb h.2⟩
    subst hni; subst hnb
    exact ⟨SV.wf_mono hl.len_is hl.len_bs h1, SV.ty_app hl h1 h2, by rw [h3, SV.den_app hl h1]⟩
def KeepOk (ρB : Env) : List Hs → List SV → Prop
  | [], [] => True
  | h :: hs, o :: os => ((∃ u, h = .keep ∧ u = ()) → o = .bot ∨ (o.wf ρB.is.length ρB.bs.length = true ∧ o.ty ρB)) ∧ KeepOk ρB hs os
  | _, _ => True
theorem mtHs_ok (hty : TyOk P ty) {pc : List (B × Bool)} (hpw : ∀ p ∈ pc, p.1.wf st.ni = true) : ∀ {hs : List Hs} {os vs : List SV} {Vs : List Value} {m m' : Mt} {as : List A} {G : Nat → Prop} {fz0 : Fz} {w0 : World} {ρ ρ1 : Env}, mtHs ty pc hs os vs m = some (as, m') → FsR ty pl G fz0 w0 st w ρ ρ1 m.f → BmOk st.nb m → PcOk ρ.is pc → ρB.le ρ → VsOk ρ st.ni st.nb vs Vs → KeepOk ρB hs os →
      MtR ty pl G fz0 w0 st w ρ ρ1 m m' as (fun fz β ds fp => HsR ty fz w β ρB hs os Vs ds fp)
  | [], [], [], [], m, m', as, G, fz0, w0, ρ, ρ1, h, hf, hb, hpc, hl, hv, hk => by
    simp only [mtHs] at h
    cases h
    exact MtR.same hf hb ⟨rfl, rfl, rfl⟩
  | [], [], [], _ :: _, m, m', as, G, fz0, w0, ρ, ρ1, h, hf, hb, hpc, hl, hv, hk => hv.elim
  | [], [], _ :: _, _, m, m', as, G, fz0, w0, ρ, ρ1, h, _, _, _, _, _, _ => by simp [mtHs] at h
  | [], _ :: _, _, _, m, m', as, G, fz0, w0, ρ, ρ1, h, _, _, _, _, _, _ => by simp [mtHs] at h
  | _ :: _, [], _, _, m, m', as, G, fz0, w0, ρ, ρ1, h, _, _, _, _, _, _ => by simp [mtHs] at h
  | _ :: _, _ :: _, [], _, m, m', as, G, fz0, w0, ρ, ρ1, h, _, _, _, _, _, _ => by simp [mtHs] at h
  | _ :: _, _ :: _, _ :: _, [], m, m', as, G, fz0, w0, ρ, ρ1, h, _, _, _, _, hv, _ => hv.elim
  | x :: hs, o :: os, v :: vs, V :: Vs, m, m', as, G, fz0, w0, ρ, ρ1, h, hf, hb, hpc, hl, hv, hk => by
    have hni := hf.hm.hni
    have hnb := hf.hm.hnb
    simp only [mtHs] at h
    split at h
    · rename_i a1 m1 h1
      split at h
      · rename_i a2 m2 h2
        cases h
        have rest : ∀ (G : Nat → Prop) (fz0 : Fz) (w0 : World) (ρ' ρ1' : Env), ρ.fl ρ' → FsR ty pl G fz0 w0 st w ρ' ρ1' m1.f → BmOk st.nb m1 → MtR ty pl G fz0 w0 st w ρ' ρ1' m1 m' a2 (fun fz β ds fp => HsR ty fz w β ρB hs os Vs ds fp) :=
          fun G fz0 w0 ρ' ρ1' hfl hf' hb' => by
            have hv2 := VsOk.app hfl.le hni hnb hv.2
            rw [hfl.is, hfl.bs, hni, hnb] at hv2
            exact mtHs_ok hty hpw h2 hf' hb' (PcOk.fl hfl hpc) (Env.le_trans hl hfl.le) hv2 hk.2
        cases x with
        | bot =>
          simp only at h1
          cases h1
          exact (rest G fz0 w0 ρ ρ1 (.refl _) hf hb).mono fun fz β ds fp hr => ⟨V, Vs, [], ds, [], fp, rfl, rfl, rfl, ⟨rfl, rfl⟩, hr⟩
        | keep =>
          simp only at h1
          have hov : o = .bot ∨ V = o.den ρB := by
            by_cases ho : o = .bot
            · exact .inl ho
            · right
              have h1' : (bif o.beq v then some (([] : List A), m) else none) = some (a1, m1) := by
                cases o <;> first | exact absurd rfl ho | exact h1
              cases hbe : o.beq v <;> rw [hbe] at h1' <;> simp only [cond_true, cond_false] at h1'
              · cases h1'
              · have := SV.beq_eq hbe
                subst this
                rcases hv.1 with hv1 | ⟨q1, q2, q3⟩
                · exact absurd hv1 ho
                · rcases hk.1 ⟨(), rfl, rfl⟩ with k1 | ⟨k1, k2⟩
                  · exact absurd k1 ho
                  · rw [q3, SV.den_app hl k1]
          have hm1 : a1 = [] ∧ m1 = m := by
            by_cases ho : o = .bot
            · subst ho
              cases h1
              exact ⟨rfl, rfl⟩
            · have h1' : (bif o.beq v then some (([] : List A), m) else none) = some (a1, m1) := by
                cases o <;> first | exact absurd rfl ho | exact h1
              cases hbe : o.beq v <;> rw [hbe] at h1' <;> simp only [cond_true, cond_false] at h1' <;> cases h1'
              exact ⟨rfl, rfl⟩
          obtain ⟨rfl, rfl⟩ := hm1
          exact (rest G fz0 w0 ρ ρ1 (.refl _) hf hb).mono fun fz β ds fp hr => ⟨V, Vs, [], ds, [], fp, rfl, rfl, rfl, ⟨rfl, rfl, hov⟩, hr⟩
        | sh s =>
          simp only at h1
          split at h1
          · rename_i cs hcs
            obtain ⟨k1, k2⟩ := fitV_ok hcs
            have hv1 : v.wf st.ni st.nb = true ∧ v.ty ρ ∧ V = v.den ρ := by
              rcases hv.1 with hv1 | hv1
              · subst hv1; simp [SV.cellsOf] at k1
              · exact hv1
            have r1 := (mt_all hty hpw 60).1 h1 hf hb hpc (cellsOf_wf k1 hv1.1).1 (cellsOf_wf k1 hv1.1).2 (cellsOf_ty k1 hv1.2.1)
            refine (r1.seq ShR_RMono rest).mono ?_
            rintro fz β ds fp ⟨d1, d2, f1, f2, e1, e2, e3, e4⟩
            refine ⟨V, Vs, d1, d2, f1, f2, rfl, e1, e2, ⟨_, ?_, e3⟩, e4⟩
            rw [hv1.2.2]; exact k2 ρ
          · cases h1
      · cases h
    · cases h
def HbE (ty : Ty) (fz : Fz) (w : World) (β : Bt) (ρB : Env) (h : HsB) (o : SO) (b : Nat) (ds : List Dt) (fp : List Nat) : Prop :=
  match h, o with
  | .cells l, .cells c e => ∃ cs, w.heap[ρB.b b]? = some (.cells cs.toArray e (0, 0)) ∧ HsR ty fz w β ρB l c cs ds fp
  | .row, .rowd e s _ => ∃ x, ds = [x] ∧ fp = [] ∧ RowOk ty fz w e s x (ρB.val b)
  | _, o => ds = [] ∧ fp = [] ∧ SO.ok ty { ρB with fz := fz } w b o
def HbR (ty : Ty) (fz : Fz) (w : World) (β : Bt) (ρB : Env) : List HsB → List SO → Nat → List Dt → List Nat → Prop
  | [], [], _, ds, fp => ds = [] ∧ fp = []
  | h :: hs, o :: os, b, ds, fp => ∃ d1 d2 f1 f2, ds = d1 ++ d2 ∧ fp = f1 ++ f2 ∧ HbE ty fz w β ρB h o b d1 f1 ∧ HbR ty fz w β ρB hs os (b + 1) d2 f2
  | _, _, _, _, _ => False
theorem esDen_fz (fz : Fz) (ρ : Env) (es : List (SV × SV × Nat)) : esDen { ρ with fz := fz } es = esDen ρ es := by
  simp only [esDen, den_fz fz ρ]
mutual
theorem ty_fz' {fz : Fz} {ρ : Env} : ∀ {v : SV}, v.ty ρ → v.ty { ρ with fz := fz }
  | .fn f a b, h => by simp only [SV.ty] at h ⊢; exact ⟨tys_fz' h.1, tys_fz' h.2⟩
  | .agg l, h => by simp only [SV.ty] at h ⊢; exact tys_fz' h
  | .tup l, h => by simp only [SV.ty] at h ⊢; exact tys_fz' h
  | .iface t v, h => by simp only [SV.ty] at h ⊢; exact ty_fz' h
  | .gd c w v, h => by simp only [SV.ty] at h ⊢; exact fun e => ty_fz' (h e)
  | .int _ _, h | .bool _, h | .str _, h => by simp only [SV.ty] at h ⊢; exact h
  | .sl _, h | .pt _, h | .map _, h | .ptr _ _, h | .gptr _ _, h | .rp _ _ _ _ _, h | .nilp, h | .nilsl, h | .nilmap, h | .nilfn, h | .niliface, h | .slice _ _ _ _, h | .bot, h => by simp only [SV.ty]
theorem tys_fz' {fz : Fz} {ρ : Env} : ∀ {l : List SV}, SV.tys ρ l → SV.tys { ρ with fz := fz } l
  | [], _ => trivial
  | v :: l, h => ⟨ty_fz' h.1, tys_fz' h.2⟩
end
theorem SO.ok_fz {fz fz' : Fz} (hz : FzLe fz fz') {i : Nat} {o : SO} (h : SO.ok ty { ρ with fz := fz } w i o) : SO.ok ty { ρ with fz := fz' } w i o := by
  cases o with
  | cells c e =>
    simp only [SO.ok] at h ⊢
    refine ⟨?_, tys_fz' (tys_fz h.2)⟩
    rw [dens_fz] at h ⊢
    exact h.1
  | rowd e s x => exact RowOk.mono hz h
  | map es k =>
    simp only [SO.ok] at h ⊢
    refine ⟨?_, fun e he => ⟨ty_fz' (ty_fz (h.2 e he).1), ty_fz' (ty_fz (h.2 e he).2)⟩⟩
    rw [esDen_fz] at h ⊢
    exact h.1
  | pool e s a => exact PoolOk.mono hz h
  | _ => trivial
theorem HbE.mono {fz fz' : Fz} {β β' : Bt} (hz : FzLe fz fz') (hb : BtLe β β') {h : HsB} {o : SO} {b : Nat} {ds : List Dt} {fp : List Nat} (hr : HbE ty fz w β ρB h o b ds fp) : HbE ty fz' w β' ρB h o b ds fp := by
  unfold HbE at hr ⊢
  split at hr
  · obtain ⟨cs, q1, q2⟩ := hr
    exact ⟨cs, q1, HsR.mono hz hb q2⟩
  · obtain ⟨x, q1, q2, q3⟩ := hr
    exact ⟨x, q1, q2, q3.mono hz⟩
  · exact ⟨hr.1, hr.2.1, SO.ok_fz hz hr.2.2⟩
theorem HbR.mono {fz fz' : Fz} {β β' : Bt} (hz : FzLe fz fz') (hb : BtLe β β') : ∀ {hs : List HsB} {os : List SO} {b : Nat} {ds : List Dt} {fp : List Nat}, HbR ty fz w β ρB hs os b ds fp → HbR ty fz' w β' ρB hs os b ds fp
  | [], [], _, _, _, h => h
  | [], _ :: _, _, _, _, h => h.elim
  | _ :: _, [], _, _, _, h => h.elim
  | h :: hs, o :: os, _, _, _, hr => by
    obtain ⟨d1, d2, f1, f2, h1, h2, h3, h4⟩ := hr
    exact ⟨d1, d2, f1, f2, h1, h2, HbE.mono hz hb h3, HbR.mono hz hb h4⟩
def KeepEq : List Hs → List SV → List SV → Prop
  | [], [], [] => True
  | h :: hs, o :: os, o' :: os' => (h = .keep → o' = o) ∧ KeepEq hs os os'
  | _, _, _ => False
theorem HsR.keepEq {fz : Fz} {β : Bt} : ∀ {hs : List Hs} {os os' : List SV} {vs : List Value} {ds : List Dt} {fp : List Nat}, KeepEq hs os os' → HsR ty fz w β ρB hs os' vs ds fp → HsR ty fz w β ρB hs os vs ds fp
  | [], [], [], _, _, _, _, h => h
  | [], _ :: _, [], _, _, _, h, _ => h.elim
  | [], [], _ :: _, _, _, _, h, _ => h.elim
  | [], _ :: _, _ :: _, _, _, _, h, _ => h.elim
  | _ :: _, [], _, _, _, _, h, _ => h.elim
  | _ :: _, _ :: _, [], _, _, _, h, _ => h.elim
  | h :: hs, o :: os, o' :: os', _, _, _, hk, hr => by
    obtain ⟨V, vr, d1, d2, f1, f2, h1, h2, h3, h4, h5⟩ := hr
    refine ⟨V, vr, d1, d2, f1, f2, h1, h2, h3, ?_, HsR.keepEq hk.2 h5⟩
    cases h with
    | sh s => exact h4
    | bot => exact h4
    | keep =>
      have := hk.1 rfl
      subst this
      exact h4
theorem crHs_ok : ∀ {hs : List Hs} {vs : List SV} {c c' : Cr} {l : List SV} {Vs : List Value} {ds : List Dt} {fp0 fp : List Nat} {ρ1 : Env}, crHs ty hs vs c = some (l, c') → CrS ty w ρN c.d ρ1 fp0 → HsR ty ρN.fz w (fun _ => none) ρB hs vs Vs ds fp → (∀ j x, ds[j]? = some x → ρN.is[c.n + j]? = some x) → (fp0 ++ fp).Nodup → KeepOk ρB hs vs → ρB.le ρN →
      ∃ ρ1', CrS ty w ρN c'.d ρ1' (fp0 ++ fp) ∧ ρ1.le ρ1' ∧ c'.n = c.n + ds.length ∧ VsOk ρ1' c'.d.ni c'.d.nb l Vs ∧ KeepEq hs vs l
  | [], [], c, c', l, Vs, ds, fp0, fp, ρ1, h, hc, hr, hd, hnd, hk, hl => by
    simp only [crHs] at h
    cases h
    obtain ⟨rfl, rfl, rfl⟩ := hr
    exact ⟨ρ1, by rw [List.append_nil]; exact hc, Env.le_refl _, rfl, trivial, trivial⟩
  | [], _ :: _, c, c', l, Vs, ds, fp0, fp, ρ1, h, hc, hr, hd, hnd, hk, hl => hr.elim
  | _ :: _, [], c, c', l, Vs, ds, fp0, fp, ρ1, h, hc, hr, hd, hnd, hk, hl => hr.elim
  | x :: hs, v :: vs, c, c', l, Vs, ds, fp0, fp, ρ1, h, hc, hr, hd, hnd, hk, hl => by
    simp only [crHs] at h
    split at h
    · rename_i u c1 h1
      split at h
      · rename_i r c2 h2
        cases h
        obtain ⟨V, vr, d1, d2, f1, f2, rfl, rfl, rfl, h4, h5⟩ := hr
        rw [← List.append_assoc] at hnd
        have one : ∃ ρ2, CrS ty w ρN c1.d ρ2 (fp0 ++ f1) ∧ ρ1.le ρ2 ∧ c1.n = c.n + d1.length ∧ (u = .bot ∨ (u.wf c1.d.ni c1.d.nb = true ∧ u.ty ρ2 ∧ V = u.den ρ2)) ∧ (x = .keep → u = v) := by
          cases x with
          | keep =>
            simp only at h1
            cases h1
            obtain ⟨rfl, rfl, h4⟩ := h4
            refine ⟨ρ1, by rw [List.append_nil]; exact hc, Env.le_refl _, rfl, ?_, fun _ => rfl⟩
            rcases hk.1 ⟨(), rfl, rfl⟩ with h | ⟨h, h'⟩
            · exact .inl h
            · rcases h4 with h4 | h4
              · exact .inl h4
              · right
                have hle := Env.le_trans hl hc.ext.le
                refine ⟨?_, SV.ty_app hle h h', by rw [h4, SV.den_app hle h]⟩
                rw [← hc.ext.len, ← hc.ext.lenb]
                exact SV.wf_mono hle.len_is hle.len_bs h
          | bot =>
            simp only at h1
            cases h1
            obtain ⟨rfl, rfl⟩ := h4
            exact ⟨ρ1, by rw [List.append_nil]; exact hc, Env.le_refl _, rfl, .inl rfl, fun h => by cases h⟩
          | sh s =>
            simp only at h1
            obtain ⟨cs, q1, q2⟩ := h4
            obtain ⟨ρ2, k1, k2, k3, k4, k5, k6⟩ := (cr_all (bm := .e) (β := fun _ => none) (fun j b hh hj => by rw [Tb.get_e] at hj; cases hj) 60).2.1 h1 hc q1 q2 (fun j x hj => hd j x (by rw [List.getElem?_append_left (List.getElem?_eq_some_iff.1 hj).1]; exact hj)) (List.nodup_append.1 hnd).1
            exact ⟨ρ2, k1, k2, k3, .inr ⟨k6, k5, k4.symm⟩, fun h => by cases h⟩
        obtain ⟨ρ2, k1, k2, k3, k4, k5⟩ := one
        obtain ⟨ρ3, m1, m2, m3, m4, m5⟩ := crHs_ok h2 k1 h5 (fun j x hj => by
          rw [k3, Nat.add_assoc]
          exact hd (d1.length + j) x (by rw [List.getElem?_append_right (by omega)]; simpa using hj)) hnd hk.2 hl
        refine ⟨ρ3, by rw [← List.append_assoc]; exact m1, Env.le_trans k2 m2, by rw [m3, k3, List.length_append]; omega, ⟨?_, m4⟩, k5, m5⟩
        refine k4.imp id fun ⟨q1, q2, q3⟩ => ?_
        have hwa : u.wf ρ2.is.length ρ2.bs.length = true := by rw [k1.ext.len, k1.ext.lenb]; exact q1
        have hmn := k1.ext.mono_ni m1.ext m2
        exact ⟨SV.wf_mono hmn.1 hmn.2 q1, SV.ty_app m2 hwa q2, by rw [q3, SV.den_app m2 hwa]⟩
      · cases h
    · cases h
end
end Go.SY
