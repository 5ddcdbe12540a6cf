/- The symbolic executor SY, its soundness, part 25: blocks by shapes; a state with new letters. -/
import Derived.Test.YtolebnomgllgaaaGreatDoorSyS24
set_option linter.unusedVariables false
set_option linter.unusedSimpArgs false
namespace Go.SY
open Go Go.RowKit
noncomputable section
variable {F : Nat → List Dt → Post → Prop} {Q : Post} {P : Program}
variable {C : Cfg} {ty : Ty} {pl : Bool} {G : Nat → Prop} {fz0 : Fz} {w0 w w' : World} {ρ ρ' ρ1 ρ1' ρN : Env} {st : St} {d : Bd} {tm : Tm} {a : Act} {bm : Tb Nat} {β : Bt}
theorem hasTyL_append {l m : List Dt} {t u : List TypeId} (h : hasTyL ty l t = true) (h' : hasTyL ty m u = true) : hasTyL ty (l ++ m) (t ++ u) = true := by
  induction l generalizing t with
  | nil =>
    cases t with
    | nil => exact h'
    | cons _ _ => simp [hasTyL] at h
  | cons x l ih =>
    cases t with
    | nil => simp [hasTyL] at h
    | cons y t =>
      simp only [hasTyL, Bool.and_eq_true, List.cons_append] at h ⊢
      exact ⟨h.1, ih h.2⟩
theorem hasTyL_len : ∀ {l : List Dt} {t : List TypeId}, hasTyL ty l t = true → l.length = t.length
  | [], [], _ => rfl
  | [], _ :: _, h => by simp [hasTyL] at h
  | _ :: _, [], h => by simp [hasTyL] at h
  | x :: l, y :: t, h => by
    simp only [hasTyL, Bool.and_eq_true] at h
    simp [hasTyL_len h.2]
theorem own_hasTy {fz : Fz} {t e s : Nat} {x : Dt} {V : Value} (he : elemOf ty t = some (e, s)) (h : RowOk ty fz w e s x V) : hasTy ty x t = true := by
  have ht : tdOf ty t = .slice e s := by
    unfold elemOf at he
    split at he <;> cases he
    assumption
  have hl := h.len_lt
  rcases h with ⟨rfl, _⟩ | ⟨l, b, cap, xs, rfl, _, _, h4⟩
  · simp only [hasTy, ht]
  · simp only [hasTy, ht, Bool.and_eq_true, decide_eq_true_eq]
    exact ⟨hl, repC_hasTys h4⟩
mutual
theorem ShR.tys {fz : Fz} : ∀ {s : Sh} {cs : List Value} {ds : List Dt} {fp : List Nat}, ShR ty fz w β s cs ds fp → hasTyL ty ds s.tys = true
  | .dat t, _, _, _, h => by
    simp only [ShR] at h
    obtain ⟨_, x, rfl, hr⟩ := h
    simp only [Sh.tys, hasTyL, rep_hasTy hr, Bool.and_self]
  | .lit t x, _, _, _, h => by
    simp only [ShR] at h
    obtain ⟨rfl, _, _⟩ := h
    rfl
  | .own t, _, _, _, h => by
    simp only [ShR] at h
    obtain ⟨x, V, e, s, rfl, _, _, he, hr⟩ := h
    simp only [Sh.tys, hasTyL, own_hasTy he hr, Bool.and_self]
  | .ptr j, _, _, _, h => by simp only [ShR] at h; obtain ⟨rfl, _⟩ := h; rfl
  | .map j, _, _, _, h => by simp only [ShR] at h; obtain ⟨rfl, _⟩ := h; rfl
  | .con v, _, _, _, h => by simp only [ShR] at h; obtain ⟨rfl, _⟩ := h; rfl
  | .fn g fi ca, _, _, _, h => by
    simp only [ShR] at h
    obtain ⟨a, b, d1, d2, f1, f2, _, rfl, _, h4, h5⟩ := h
    simp only [Sh.tys]
    exact hasTyL_append (ShRL.tys h4) (ShRL.tys h5)
  | .ifc t s, _, _, _, h => by
    simp only [ShR] at h
    obtain ⟨V, cs', _, _, h3⟩ := h
    simp only [Sh.tys]
    exact ShR.tys h3
theorem ShRL.tys {fz : Fz} : ∀ {s : List Sh} {cs : List Value} {ds : List Dt} {fp : List Nat}, ShRL ty fz w β s cs ds fp → hasTyL ty ds (Sh.tysL s) = true
  | [], _, _, _, h => by simp only [ShRL] at h; obtain ⟨_, rfl, _⟩ := h; rfl
  | s :: ss, _, _, _, h => by
    simp only [ShRL] at h
    obtain ⟨V, vr, cs, d1, d2, f1, f2, _, rfl, _, _, h5, h6⟩ := h
    simp only [Sh.tysL]
    exact hasTyL_append (ShR.tys h5) (ShRL.tys h6)
end
theorem ShRC.tys {fz : Fz} : ∀ {s : List Sh} {cs : List Value} {ds : List Dt} {fp : List Nat}, ShRC ty fz w β s cs ds fp → hasTyL ty ds (Sh.tysL s) = true
  | [], _, _, _, h => by obtain ⟨_, rfl, _⟩ := h; rfl
  | s :: ss, _, _, _, h => by
    simp only [ShRC] at h
    obtain ⟨c1, c2, d1, d2, f1, f2, _, rfl, _, h5, h6⟩ := h
    simp only [Sh.tysL]
    exact hasTyL_append (ShR.tys h5) (ShRC.tys h6)
theorem ShRE.tys {fz : Fz} : ∀ {s : List (SV × Sh)} {i : Nat} {cs : List MapEntry} {ds : List Dt} {fp : List Nat}, ShRE ty fz w β s i cs ds fp → hasTyL ty ds (esTys s) = true
  | [], _, _, _, _, h => by obtain ⟨_, rfl, _⟩ := h; rfl
  | s :: ss, _, _, _, _, h => by
    simp only [ShRE] at h
    obtain ⟨V, er, cs, d1, d2, f1, f2, _, rfl, _, _, _, h6, h7⟩ := h
    simp only [esTys]
    exact hasTyL_append (ShR.tys h6) (ShRE.tys h7)
theorem BlR.tys {fz : Fz} : ∀ {s : List ShB} {j : Nat} {ds : List Dt} {fp : List Nat}, BlR ty fz w β s j ds fp → hasTyL ty ds (ShB.tysL s) = true
  | [], _, _, _, h => by obtain ⟨rfl, _⟩ := h; rfl
  | .gone :: ss, j, _, _, h => by
    simp only [BlR] at h
    simp only [ShB.tysL, ShB.tys, List.nil_append]
    exact BlR.tys h
  | .cells e l :: ss, j, _, _, h => by
    simp only [BlR] at h
    obtain ⟨k, cs, d1, d2, f1, f2, _, _, rfl, _, h5, h6⟩ := h
    simp only [ShB.tysL, ShB.tys]
    exact hasTyL_append (ShRC.tys h5) (BlR.tys h6)
  | .map es n :: ss, j, _, _, h => by
    simp only [BlR] at h
    obtain ⟨k, cs, d1, d2, f1, f2, _, _, rfl, _, h5, h6⟩ := h
    simp only [ShB.tysL, ShB.tys]
    exact hasTyL_append (ShRE.tys h5) (BlR.tys h6)
theorem crCells_ok (hβ : ∀ j b h, bm.get j = some b → β j = some h → ρN.b b = h ∧ b < ρN.bs.length) : ∀ {ss : List Sh} {c c' : Cr} {l : List SV} {cs : List Value} {ds : List Dt} {fp0 fp : List Nat} {ρ1 : Env}, crCells ty bm ss c = some (l, c') → CrS ty w ρN c.d ρ1 fp0 → ShRC ty ρN.fz w β ss cs ds fp → (∀ j x, ds[j]? = some x → ρN.is[c.n + j]? = some x) → (fp0 ++ fp).Nodup →
      ∃ ρ1', CrS ty w ρN c'.d ρ1' (fp0 ++ fp) ∧ ρ1.le ρ1' ∧ c'.n = c.n + ds.length ∧ SV.dens ρ1' l = cs ∧ SV.tys ρ1' l ∧ SV.wfs c'.d.ni c'.d.nb l = true ∧ allCell l = true
  | [], c, c', l, cs, ds, fp0, fp, ρ1, h, hc, hr, hd, hnd => by
    simp only [crCells] at h
    cases h
    obtain ⟨rfl, rfl, rfl⟩ := hr
    exact ⟨ρ1, by rw [List.append_nil]; exact hc, Env.le_refl _, rfl, rfl, trivial, rfl, rfl⟩
  | s :: ss, c, c', l, cs, ds, fp0, fp, ρ1, h, hc, hr, hd, hnd => by
    simp only [crCells] at h
    split at h
    · rename_i l1 c1 h1
      split at h
      · rename_i r c2 h2
        cases h
        simp only [ShRC] at hr
        obtain ⟨x1, x2, d1, d2, f1, f2, rfl, rfl, rfl, r1, r2⟩ := hr
        rw [← List.append_assoc] at hnd
        obtain ⟨ρ2, k1, k2, k3, k4, k5, k6, k7⟩ := (cr_all hβ 60).1 h1 hc r1 (fun j x hj => hd j x (by rw [List.getElem?_append_left (List.getElem?_eq_some_iff.1 hj).1]; exact hj)) (List.nodup_append.1 hnd).1
        obtain ⟨ρ3, m1, m2, m3, m4, m5, m6, m7⟩ := crCells_ok hβ h2 k1 r2 (fun j x hj => by
          rw [k3, Nat.add_assoc]
          exact hd (d1.length + j) x (by rw [List.getElem?_append_right (by omega)]; simpa using hj)) hnd
        have hwa : SV.wfs ρ2.is.length ρ2.bs.length l1 = true := by rw [k1.ext.len, k1.ext.lenb]; exact k6
        have hmn := k1.ext.mono_ni m1.ext m2
        refine ⟨ρ3, by rw [← List.append_assoc]; exact m1, Env.le_trans k2 m2, by rw [m3, k3, List.length_append]; omega, ?_, tys_append (SV.tys_app m2 hwa k5) m5, wfs_append (SV.wfs_mono hmn.1 hmn.2 k6) m6, allCell_append k7 m7⟩
        rw [dens_append, SV.dens_app m2 hwa, k4, m4]
      · cases h
    · cases h
theorem crEs_ok (hβ : ∀ j b h, bm.get j = some b → β j = some h → ρN.b b = h ∧ b < ρN.bs.length) : ∀ {ss : List (SV × Sh)} {i : Nat} {c c' : Cr} {l : List (SV × SV × Nat)} {cs : List MapEntry} {ds : List Dt} {fp0 fp : List Nat} {ρ1 : Env}, crEs ty bm ss i c = some (l, c') → CrS ty w ρN c.d ρ1 fp0 → ShRE ty ρN.fz w β ss i cs ds fp → (∀ j x, ds[j]? = some x → ρN.is[c.n + j]? = some x) → (fp0 ++ fp).Nodup →
      ∃ ρ1', CrS ty w ρN c'.d ρ1' (fp0 ++ fp) ∧ ρ1.le ρ1' ∧ c'.n = c.n + ds.length ∧ esDen ρ1' l = cs ∧ esTyd ρ1' l ∧ esWf c'.d.ni c'.d.nb l = true
  | [], i, c, c', l, cs, ds, fp0, fp, ρ1, h, hc, hr, hd, hnd => by
    simp only [crEs] at h
    cases h
    obtain ⟨rfl, rfl, rfl⟩ := hr
    exact ⟨ρ1, by rw [List.append_nil]; exact hc, Env.le_refl _, rfl, rfl, (fun _ h => nomatch h), rfl⟩
  | s :: ss, i, c, c', l, cs, ds, fp0, fp, ρ1, h, hc, hr, hd, hnd => by
    simp only [crEs] at h
    cases hk : (s.1.wf 0 0 && s.1.tyC) <;> rw [hk] at h <;> simp only [Bool.not_true, Bool.not_false, cond_true, cond_false] at h
    · cases h
    · simp only [Bool.and_eq_true] at hk
      split at h
      · rename_i v c1 h1
        split at h
        · rename_i r c2 h2
          cases h
          simp only [ShRE] at hr
          obtain ⟨V, er, cs', d1, d2, f1, f2, rfl, rfl, rfl, _, hv, r1, r2⟩ := hr
          rw [← List.append_assoc] at hnd
          obtain ⟨ρ2, k1, k2, k3, k4, k5, k6⟩ := (cr_all hβ 60).2.1 h1 hc hv r1 (fun j x hj => hd j x (by rw [List.getElem?_append_left (List.getElem?_eq_some_iff.1 hj).1]; exact hj)) (List.nodup_append.1 hnd).1
          obtain ⟨ρ3, m1, m2, m3, m4, m5, m6⟩ := crEs_ok hβ h2 k1 r2 (fun j x hj => by
            rw [k3, Nat.add_assoc]
            exact hd (d1.length + j) x (by rw [List.getElem?_append_right (by omega)]; simpa using hj)) hnd
          have hwa : v.wf ρ2.is.length ρ2.bs.length = true := by rw [k1.ext.len, k1.ext.lenb]; exact k6
          have hmn := k1.ext.mono_ni m1.ext m2
          refine ⟨ρ3, by rw [← List.append_assoc]; exact m1, Env.le_trans k2 m2, by rw [m3, k3, List.length_append]; omega, ?_, fun x hx => ?_, ?_⟩
          · simp only [esDen, List.map_cons]
            rw [SV.den_app m2 hwa, k4, SV.den_app (E0_le ρ3) hk.1]
            congr 1
          · rcases List.mem_cons.1 hx with rfl | hx
            · exact ⟨tyC_ok hk.2 _, SV.ty_app m2 hwa k5⟩
            · exact m5 x hx
          · simp only [esWf, Bool.and_eq_true]
            exact ⟨⟨SV.wf_mono (Nat.zero_le _) (Nat.zero_le _) hk.1, SV.wf_mono hmn.1 hmn.2 k6⟩, m6⟩
        · cases h
      · cases h
theorem CrS.more {fp fp' : List Nat} (h : CrS ty w ρN d ρ1 fp) (hs : ∀ k ∈ fp, k ∈ fp') : CrS ty w ρN d ρ1 fp' :=
  ⟨h.ext, h.es, h.gs.row, h.gs.kind, fun j g k h1 h2 => hs k (h.gs.mem j g k h1 h2), h.gs.inj⟩
structure BsR (ty : Ty) (w : World) (ρN ρ1 : Env) (bs : List (Nat × SO)) (fb : List Nat) : Prop where
  ok : ∀ x ∈ bs, x.1 < ρN.bs.length ∧ GhOk ty ρ1 x.1 x.2 ∧ SO.ok ty ρ1 w x.1 x.2 ∧ x.2.wf ρ1.is.length ρ1.bs.length = true
  foot : ∀ x ∈ bs, ∀ k, foot ρ1 x.1 x.2 k → k ∈ fb
  inj : ∀ x ∈ bs, ∀ y ∈ bs, ∀ k, Go.SY.foot ρ1 x.1 x.2 k → Go.SY.foot ρ1 y.1 y.2 k → x.1 = y.1
theorem crB_np : ∀ {ss : List ShB} {j : Nat} {c c' : Cr} {bs : List (Nat × SO)}, crB ty bm ss j c = some (bs, c') → ∀ x ∈ bs, ∀ e s a, x.2 ≠ .pool e s a
  | [], j, c, c', bs, h, x, hx => by simp only [crB] at h; cases h; cases hx
  | s :: ss, j, c, c', bs, h, x, hx => by
    simp only [crB] at h
    split at h
    · rename_i r1 c1 h1
      split at h
      · rename_i q c2 h2
        cases h
        rcases List.mem_append.1 hx with hx | hx
        · split at h1
          · cases h1; cases hx
          · split at h1
            · cases h1; intro e s a he; cases List.mem_singleton.1 hx; cases he
            · cases h1
          · split at h1
            · cases h1; intro e s a he; cases List.mem_singleton.1 hx; cases he
            · cases h1
        · exact crB_np h2 x hx
      · cases h
    · cases h
theorem crB_ok (hβ : ∀ j b h, bm.get j = some b → β j = some h → ρN.b b = h ∧ b < ρN.bs.length) : ∀ {ss : List ShB} {j : Nat} {c c' : Cr} {bs : List (Nat × SO)} {ds : List Dt} {fp0 fp : List Nat} {ρ1 : Env}, crB ty bm ss j c = some (bs, c') → CrS ty w ρN c.d ρ1 fp0 → BlR ty ρN.fz w β ss j ds fp → (∀ j x, ds[j]? = some x → ρN.is[c.n + j]? = some x) → (fp0 ++ fp).Nodup →
      ∃ ρ1' fr fb, CrS ty w ρN c'.d ρ1' (fp0 ++ fr) ∧ ρ1.le ρ1' ∧ c'.n = c.n + ds.length ∧ BsR ty w ρN ρ1' bs fb ∧ (∀ k ∈ fr, k ∈ fp) ∧ (∀ k ∈ fb, k ∈ fp) ∧ (∀ k ∈ fr, k ∉ fb)
  | [], j, c, c', bs, ds, fp0, fp, ρ1, h, hc, hr, hd, hnd => by
    simp only [crB] at h
    cases h
    obtain ⟨rfl, rfl⟩ := hr
    exact ⟨ρ1, [], [], by rw [List.append_nil]; exact hc, Env.le_refl _, rfl, ⟨(fun _ h => nomatch h), (fun _ h => nomatch h), (fun _ h => nomatch h)⟩, (fun _ h => nomatch h), (fun _ h => nomatch h), (fun _ h => nomatch h)⟩
  | s :: ss, j, c, c', bs, ds, fp0, fp, ρ1, h, hc, hr, hd, hnd => by
    simp only [crB] at h
    split at h
    · rename_i r1 c1 h1
      split at h
      · rename_i q c2 h2
        cases h
        have join : ∀ {b : Nat} {fH : List Nat} {so : SO} {d1 d2 : List Dt} {f1 f2 : List Nat} {ρ2 : Env}, r1 = [(b, so)] → b < ρN.bs.length → ds = d1 ++ d2 → fp = (fH ++ f1) ++ f2 →
            CrS ty w ρN c1.d ρ2 (fp0 ++ f1) → ρ1.le ρ2 → c1.n = c.n + d1.length → BlR ty ρN.fz w β ss (j + 1) d2 f2 → (∀ ρ3 : Env, ρ2.le ρ3 → (∀ k, foot ρ3 b so k → k ∈ fH) ∧ GhOk ty ρ3 b so ∧ SO.ok ty ρ3 w b so ∧ so.wf ρ3.is.length ρ3.bs.length = true) →
            ∃ ρ1' fr fb, CrS ty w ρN c'.d ρ1' (fp0 ++ fr) ∧ ρ1.le ρ1' ∧ c'.n = c.n + ds.length ∧ BsR ty w ρN ρ1' (r1 ++ q) fb ∧ (∀ k ∈ fr, k ∈ fp) ∧ (∀ k ∈ fb, k ∈ fp) ∧ (∀ k ∈ fr, k ∉ fb) := by
          intro b fH so d1 d2 f1 f2 ρ2 er q2 ed ef hcs hl hn hr2 hso
          subst er; subst ed; subst ef
          simp only [List.nodup_append, List.mem_append] at hnd
          obtain ⟨n0, ⟨⟨_, n2, n1⟩, n3, n4⟩, n5⟩ := hnd
          obtain ⟨ρ3, fr, fb, m1, m2, m3, m4, m5, m6, m7⟩ := crB_ok hβ h2 hcs hr2 (fun i x hi => by
            rw [hn, Nat.add_assoc]
            exact hd (d1.length + i) x (by rw [List.getElem?_append_right (by omega)]; simpa using hi)) (by
            simp only [List.nodup_append, List.mem_append]
            refine ⟨⟨n0, n2, fun x hx y hy e => n5 x hx y (.inl (.inr hy)) e⟩, n3, ?_⟩
            rintro x (hx | hx) y hy e
            · exact n5 x hx y (.inr hy) e
            · exact n4 x (.inr hx) y hy e)
          refine ⟨ρ3, f1 ++ fr, fH ++ fb, by rw [← List.append_assoc]; exact m1, Env.le_trans hl m2, by rw [m3, hn, List.length_append]; omega, ⟨fun x hx => ?_, fun x hx k hk => ?_, fun x hx y hy k hk hk' => ?_⟩, fun k hk => ?_, fun k hk => ?_, fun k hk => ?_⟩
          · rcases List.mem_append.1 hx with hx | hx
            · simp only [List.mem_singleton] at hx
              subst hx
              exact ⟨q2, (hso ρ3 m2).2⟩
            · exact m4.ok x hx
          · rcases List.mem_append.1 hx with hx | hx
            · simp only [List.mem_singleton] at hx
              subst hx
              exact List.mem_append_left _ ((hso ρ3 m2).1 k hk)
            · exact List.mem_append_right _ (m4.foot x hx k hk)
          · rcases List.mem_append.1 hx with hx | hx <;> rcases List.mem_append.1 hy with hy | hy
            · simp only [List.mem_singleton] at hx hy
              rw [hx, hy]
            · simp only [List.mem_singleton] at hx
              subst hx
              exact absurd rfl (n4 k (.inl ((hso ρ3 m2).1 k hk)) k (m6 k (m4.foot y hy k hk')))
            · simp only [List.mem_singleton] at hy
              subst hy
              exact absurd rfl (n4 k (.inl ((hso ρ3 m2).1 k hk')) k (m6 k (m4.foot x hx k hk)))
            · exact m4.inj x hx y hy k hk hk'
          · simp only [List.mem_append] at hk ⊢
            rcases hk with hk | hk
            · exact .inl (.inr hk)
            · exact .inr (m5 k hk)
          · simp only [List.mem_append] at hk ⊢
            rcases hk with hk | hk
            · exact .inl (.inl hk)
            · exact .inr (m6 k hk)
          · simp only [List.mem_append, not_or] at hk ⊢
            rcases hk with hk | hk
            · exact ⟨fun hkb => n1 k hkb k hk rfl, fun hkb => n4 k (.inr hk) k (m6 k hkb) rfl⟩
            · exact ⟨fun hkb => n4 k (.inl hkb) k (m5 k hk) rfl, m7 k hk⟩
        split at h1
        · cases h1
          simp only [BlR] at hr
          obtain ⟨ρ3, fr, fb, m⟩ := crB_ok hβ h2 hc hr hd hnd
          exact ⟨ρ3, fr, fb, m⟩
        · rename_i e l
          split at h1
          · rename_i b cl b' hbm hcc
            cases h1
            simp only [BlR] at hr
            obtain ⟨hh, cs, d1, d2, f1, f2, hj, hw, rfl, rfl, r1, r2⟩ := hr
            have hnd' := hnd
            simp only [List.cons_append, List.nodup_append, List.nodup_cons, List.mem_cons, List.mem_append] at hnd'
            obtain ⟨n0, ⟨n1, n2, n3, n4⟩, n5⟩ := hnd'
            obtain ⟨ρ2, k1, k2, k3, k4, k5, k6, k7⟩ := crCells_ok hβ hcc hc r1 (fun i x hi => hd i x (by rw [List.getElem?_append_left (List.getElem?_eq_some_iff.1 hi).1]; exact hi)) (by
              rw [List.nodup_append]
              exact ⟨n0, n2, fun x hx y hy e => n5 x hx y (.inr (.inl hy)) e⟩)
            obtain ⟨q1, q2⟩ := hβ j b hh hbm hj
            have hb : ∀ ρ3 : Env, ρ2.le ρ3 → ρ3.b b = hh := fun ρ3 h3 => by rw [Env.b_app (Env.le_trans k1.ext.le h3) q2, q1]
            have hwl : SV.wfs ρ2.is.length ρ2.bs.length cl = true := by rw [k1.ext.len, k1.ext.lenb]; exact k6
            refine join (fH := [hh]) rfl q2 rfl rfl k1 k2 k3 r2 fun ρ3 h3 => ⟨fun k hk => by simp only [foot, hb ρ3 h3] at hk; simp [hk], trivial, ?_, ?_⟩
            · simp only [SO.ok, hb ρ3 h3, SV.dens_app h3 hwl, k4]
              exact ⟨hw, SV.tys_app h3 hwl k5⟩
            · simp only [SO.wf, Bool.and_eq_true]
              exact ⟨SV.wfs_mono h3.len_is h3.len_bs hwl, k7⟩
          · cases h1
        · rename_i es kk
          split at h1
          · rename_i b cl b' hbm hcc
            cases h1
            simp only [BlR] at hr
            obtain ⟨hh, cs, d1, d2, f1, f2, hj, hw, rfl, rfl, r1, r2⟩ := hr
            have hnd' := hnd
            simp only [List.cons_append, List.nodup_append, List.nodup_cons, List.mem_cons, List.mem_append] at hnd'
            obtain ⟨n0, ⟨n1, n2, n3, n4⟩, n5⟩ := hnd'
            obtain ⟨ρ2, k1, k2, k3, k4, k5, k6⟩ := crEs_ok hβ hcc hc r1 (fun i x hi => hd i x (by rw [List.getElem?_append_left (List.getElem?_eq_some_iff.1 hi).1]; exact hi)) (by
              rw [List.nodup_append]
              exact ⟨n0, n2, fun x hx y hy e => n5 x hx y (.inr (.inl hy)) e⟩)
            obtain ⟨q1, q2⟩ := hβ j b hh hbm hj
            have hb : ∀ ρ3 : Env, ρ2.le ρ3 → ρ3.b b = hh := fun ρ3 h3 => by rw [Env.b_app (Env.le_trans k1.ext.le h3) q2, q1]
            have hwl : esWf ρ2.is.length ρ2.bs.length cl = true := by rw [k1.ext.len, k1.ext.lenb]; exact k6
            refine join (fH := [hh]) rfl q2 rfl rfl k1 k2 k3 r2 fun ρ3 h3 => ⟨fun k hk => by simp only [foot, hb ρ3 h3] at hk; simp [hk], trivial, ?_, ?_⟩
            · simp only [SO.ok, hb ρ3 h3, esDen_app h3 hwl, k4]
              exact ⟨hw, esTyd_app h3 hwl k5⟩
            · simp only [SO.wf]
              exact esWf_mono h3.len_is h3.len_bs hwl
          · cases h1
      · cases h
    · cases h
structure NewR (ty : Ty) (w' : World) (ρ1 : Env) (N : Nat → SO → Prop) (fp : List Nat) : Prop where
  ok : ∀ i o, N i o → i < ρ1.bs.length ∧ o.wf ρ1.is.length ρ1.bs.length = true ∧ GhOk ty ρ1 i o ∧ SO.ok ty ρ1 w' i o
  foot : ∀ i o k, N i o → foot ρ1 i o k → k ∈ fp
  inj : ∀ i j oi oj k, N i oi → N j oj → Go.SY.foot ρ1 i oi k → Go.SY.foot ρ1 j oj k → i = j
theorem Md.create' (h : Md ty pl G fz0 w0 ρ st w) {fpT : List Nat} (hown : ∀ k ∈ fpT, w0.heap.size ≤ k ∨ G k) (hfree : ∀ k ∈ fpT, ¬ feet ρ st.mem k) (hb : Belw (· ∈ fpT) w w') (hle : ρ.le ρ1) (hz : FzIn ρ1.fz w') (hzn : ∀ k : Nat, ρ1.fz k ≠ none → ρ.fz k = none → w.heap.size ≤ k ∨ k ∈ fpT)
    {ni nb : Nat} (hni : ρ1.is.length = ni) (hnb : ρ1.bs.length = nb) {pcn : List (B × Bool)} (hp : PcOk ρ1.is pcn) (hpw : ∀ p ∈ pcn, p.1.wf ni = true) {N : Nat → SO → Prop} {fp : List Nat} (hN : NewR ty w' ρ1 N fp) (hfp : ∀ k ∈ fp, (w.heap.size ≤ k ∨ k ∈ fpT) ∧ ρ1.fz k = none)
    {mem : Tb SO} (hm : ∀ i o, mem.get i = some o → N i o ∨ st.mem.get i = some o) (hhk : HkP pl ρ1 ρ.fz mem) {df : List (Nat × List SV)} : Md ty pl G fz0 w0 ρ1 ⟨mem, nb, ni, pcn ++ st.pc, df⟩ w' := by
  have hgk : ∀ k, w.heap.size ≤ k ∨ k ∈ fpT → w0.heap.size ≤ k ∨ G k := by
    rintro k (hk | hk)
    · exact .inl (Nat.le_trans h.below.size hk)
    · exact hown k hk
  have old : ∀ {i : Nat} {o : SO} {k : Nat}, st.mem.get i = some o → foot ρ1 i o k → foot ρ i o k ∧ ¬ (w.heap.size ≤ k ∨ k ∈ fpT) := by
    intro i o k hi hk
    obtain ⟨q1, q2, q3, q4⟩ := h.mem i o hi
    rw [foot_app hle (by rw [h.hnb]; exact q1) _ (by rw [h.hni, h.hnb]; exact q2) q3] at hk
    refine ⟨hk, ?_⟩
    rintro (hh | hh)
    · have := foot_lt q4 hk; omega
    · exact hfree k hh ⟨i, o, hi, hk⟩
  refine ⟨⟨hb.os.trans h.below.os, hb.tape.trans h.below.tape, hb.output.trans h.below.output, Nat.le_trans h.below.size hb.size, fun k hk hn => ?_⟩, hni, hnb, PcOk.append hp (PcOk.app hle (by rw [h.hni]; exact h.hpw) h.hpc), ?_, hz, fun b o ho => hle.fz b o (h.fzl b o ho), fun k h1 h2 => ?_, fun i o hi => ?_, fun i o k hi hk => ?_, fun i j oi oj k hi hj hki hkj => ?_, hhk.ok, fun hp => ⟨fun n => ((hhk.np hp).1 n).trans ((h.hkk.np hp).1 n), (hhk.np hp).2⟩⟩
  · rw [hb.block k (Nat.lt_of_lt_of_le hk h.below.size) (fun hh => ?_)]
    · exact h.below.block k hk hn
    · rcases hown k hh with q | q
      · omega
      · exact hn q
  · intro p hp'
    rcases List.mem_append.1 hp' with hp' | hp'
    · exact hpw p hp'
    · refine B.wf_mono ?_ (h.hpw p hp')
      have := hle.len_is
      rw [h.hni, hni] at this
      exact this
  · cases hz1 : ρ.fz k with
    | none => exact hgk k (hzn k h1 hz1)
    | some o => exact h.fzn k (by rw [hz1]; simp) h2
  · rcases hm i o hi with hi | hi
    · obtain ⟨q1, q2, q3, q4⟩ := hN.ok i o hi
      simp only [← hni, ← hnb]
      exact ⟨q1, q2, q3, q4⟩
    · obtain ⟨q1, q2, q3, q4⟩ := h.mem i o hi
      have hlt : i < ρ.bs.length := by rw [h.hnb]; exact q1
      have hwo : o.wf ρ.is.length ρ.bs.length = true := by rw [h.hni, h.hnb]; exact q2
      refine ⟨by have := hle.len_bs; simp only [← hnb]; omega, by simp only [← hni, ← hnb]; exact SO.wf_mono hle.len_is hle.len_bs hwo, GhOk.app hle hlt hwo q3, ?_⟩
      refine SO.ok_app hle hlt hwo (SO.ok_heap (w := w) (fun k hk => ?_) q4)
      have hk1 : foot ρ1 i o k := by rw [foot_app hle hlt _ hwo q3]; exact hk
      obtain ⟨_, hn⟩ := old hi hk1
      exact hb.block k (by omega) (fun hh => hn (.inr hh))
  · rcases hm i o hi with hi | hi
    · have := hfp k (hN.foot i o k hi hk)
      exact ⟨hgk k this.1, this.2⟩
    · obtain ⟨hk', hn⟩ := old hi hk
      obtain ⟨g1, g2⟩ := h.own i o k hi hk'
      refine ⟨g1, ?_⟩
      cases hz1 : ρ1.fz k with
      | none => rfl
      | some x => exact absurd (hzn k (by rw [hz1]; simp) g2) hn
  · rcases hm i oi hi with hi | hi
    · rcases hm j oj hj with hj | hj
      · exact hN.inj i j oi oj k hi hj hki hkj
      · exact absurd (hfp k (hN.foot i oi k hi hki)).1 (old hj hkj).2
    · rcases hm j oj hj with hj | hj
      · exact absurd (hfp k (hN.foot j oj k hj hkj)).1 (old hi hki).2
      · exact h.inj i j oi oj k hi hj (old hi hki).1 (old hj hkj).1
theorem Md.create (h : Md ty pl G fz0 w0 ρ st w) {fpT : List Nat} (ht : Taken G w0 w ρ st.mem fpT) (hb : Belw (· ∈ fpT) w w') (hle : ρ.le ρ1) (hz : FzIn ρ1.fz w') (hzn : ∀ k : Nat, ρ1.fz k ≠ none → ρ.fz k = none → w.heap.size ≤ k ∨ k ∈ fpT)
    {ni nb : Nat} (hni : ρ1.is.length = ni) (hnb : ρ1.bs.length = nb) {pcn : List (B × Bool)} (hp : PcOk ρ1.is pcn) (hpw : ∀ p ∈ pcn, p.1.wf ni = true) {N : Nat → SO → Prop} {fp : List Nat} (hN : NewR ty w' ρ1 N fp) (hfp : ∀ k ∈ fp, (w.heap.size ≤ k ∨ k ∈ fpT) ∧ ρ1.fz k = none)
    {mem : Tb SO} (hm : ∀ i o, mem.get i = some o → N i o ∨ st.mem.get i = some o) (hhk : HkP pl ρ1 ρ.fz mem) {df : List (Nat × List SV)} : Md ty pl G fz0 w0 ρ1 ⟨mem, nb, ni, pcn ++ st.pc, df⟩ w' :=
  h.create' (fun k hk => (ht.own k hk).1) ht.free hb hle hz hzn hni hnb hp hpw hN hfp hm hhk
theorem get_foldl : ∀ {bs : List (Nat × SO)} {m : Tb SO} {i : Nat} {o : SO}, (bs.foldl (fun m x => m.put x.1 x.2) m).get i = some o → (i, o) ∈ bs ∨ m.get i = some o
  | [], m, i, o, h => .inr h
  | x :: bs, m, i, o, h => by
    rcases get_foldl (bs := bs) (m := m.put x.1 x.2) h with h | h
    · exact .inl (.tail _ h)
    · rcases Tb.get_put h with ⟨rfl, rfl⟩ | ⟨_, h⟩
      · exact .inl (.head _)
      · exact .inr h
theorem CrS.np {fp : List Nat} (h : CrS ty w ρN d ρ1 fp) {o : SO} (ho : o ∈ d.gs) : ∀ e s a, o ≠ .pool e s a := by
  intro e s a he
  obtain ⟨i, hi⟩ := List.mem_iff_getElem?.1 ho
  rcases h.gs.kind _ o hi with hk | ⟨e, s, a, hk⟩
  · subst he; cases hk
  · subst he; cases hk
theorem HkP.create {mem : Tb SO} (h : HkP pl ρ fz0 mem) (hle : ρ.le ρ1) (hwf : ∀ i o, mem.get i = some o → o.wf ρ.is.length ρ.bs.length = true) (hz : ∀ n : Nat, ρ1.fz (.h n) = ρ.fz (.h n)) {mem' : Tb SO} (hm : ∀ i o, mem'.get i = some o → (∀ e s a, o ≠ .pool e s a) ∨ mem.get i = some o) : HkP pl ρ1 ρ.fz mem' := by
  refine ⟨fun e s a hg n hn => ?_, fun hp => ⟨hz, fun e s a hg => ?_⟩⟩
  · rcases hm 0 _ hg with h1 | h1
    · exact absurd rfl (h1 e s a)
    · have hw := hwf 0 _ h1
      simp only [SO.wf] at hw
      rw [Env.A_app hle hw]
      rw [hz] at hn
      exact h.ok e s a h1 n hn
  · rcases hm 0 _ hg with h1 | h1
    · exact absurd rfl (h1 e s a)
    · exact (h.np hp).2 e s a h1
theorem newR_of {bs : List (Nat × SO)} {fr fb fp : List Nat} (hc : CrS ty w' ρN d ρ1 fr) (hb : BsR ty w' ρN ρ1 bs fb) (h1 : ∀ k ∈ fr, k ∈ fp) (h2 : ∀ k ∈ fb, k ∈ fp) (h3 : ∀ k ∈ fr, k ∉ fb) :
    NewR ty w' ρ1 (fun i o => (i, o) ∈ bs ∨ (ρN.bs.length ≤ i ∧ d.gs[i - ρN.bs.length]? = some o)) fp := by
  have hidx : ∀ {i : Nat}, ρN.bs.length ≤ i → ρN.bs.length + (i - ρN.bs.length) = i := fun h => by omega
  refine ⟨fun i o h => ?_, fun i o k h hk => ?_, fun i j oi oj k hi hj hki hkj => ?_⟩
  · rcases h with h | ⟨hi, h⟩
    · obtain ⟨q1, q2, q3, q4⟩ := hb.ok _ h
      exact ⟨Nat.lt_of_lt_of_le q1 hc.ext.le.len_bs, q4, q2, q3⟩
    · have hlt := (List.getElem?_eq_some_iff.1 h).1
      have hg := hc.ext.gs _ o h
      rw [hidx hi] at hg
      refine ⟨by rw [hc.ext.lenb, hc.ext.nb]; omega, by rw [hc.ext.len, hc.ext.lenb]; exact hc.ext.gw o (List.mem_of_getElem? h), hg, ?_⟩
      rcases hc.gs.kind _ o h with hk | ⟨e, s, a, rfl⟩
      · exact (gh_ok hk ρ1 w' i).1
      · have := hc.gs.row _ e s a h
        rw [hidx hi] at this
        simp only [SO.ok]
        rw [hc.ext.fz]
        exact this
  · rcases h with h | ⟨hi, h⟩
    · exact h2 _ (hb.foot _ h k hk)
    · exact h1 k (hc.gs.mem _ o k h (by rw [hidx hi]; exact hk))
  · rcases hi with hi | ⟨hi0, hi⟩
    · rcases hj with hj | ⟨hj0, hj⟩
      · exact hb.inj _ hi _ hj k hki hkj
      · have := hc.gs.mem _ oj k hj (by rw [hidx hj0]; exact hkj)
        exact absurd (hb.foot _ hi k hki) (h3 k this)
    · rcases hj with hj | ⟨hj0, hj⟩
      · have := hc.gs.mem _ oi k hi (by rw [hidx hi0]; exact hki)
        exact absurd (hb.foot _ hj k hkj) (h3 k this)
      · have := hc.gs.inj _ _ oi oj k hi hj (by rw [hidx hi0]; exact hki) (by rw [hidx hj0]; exact hkj)
        omega
end
end Go.SY
