/- The symbolic executor SY, its soundness, part 23: what is matched by shapes. -/
import Derived.Test.YtolebnomgllgaaaGreatDoorSyS22
set_option linter.unusedVariables false
set_option linter.unusedSimpArgs false
namespace Go.SY
open Go Go.RowKit
noncomputable section
variable {F : Nat → List Dt → Post → Prop} {Q : Post} {P : Program}
variable {C : Cfg} {ty : Ty} {pl : Bool} {G : Nat → Prop} {fz0 : Fz} {w0 w w' : World} {ρ ρ' ρ1 ρ1' : Env} {st : St} {d : Bd} {tm : Tm} {a : Act}
theorem Tb.get_set_ne {α : Type} : ∀ (f : Nat) (t : Tb α) (d : Nat) (x : α) (i : Nat), i ≠ d → d + 1 < 2 ^ f → (Tb.set f t d x).get i = t.get i
  | 0, t, d, x, i, _, h => by omega
  | f + 1, .e, 0, x, i, hi, _ => by
    rw [Tb.set_e0]
    cases i with
    | zero => exact absurd rfl hi
    | succ i => rw [Tb.get_ns]; split <;> simp [Tb.get_e]
  | f + 1, .e, d + 1, x, i, hi, h => by
    have hd : d / 2 + 1 < 2 ^ f := by rw [Nat.pow_succ] at h; omega
    rw [Tb.set_es]
    cases i with
    | zero => split <;> simp [Tb.get_n0, Tb.get_e]
    | succ i =>
      rw [Tb.get_e]
      split <;> rw [Tb.get_ns] <;> split <;> first
        | exact Tb.get_e _
        | (rw [Tb.get_set_ne f .e (d / 2) x (i / 2) (by omega) hd]; exact Tb.get_e _)
  | f + 1, .n l v r, 0, x, i, hi, _ => by
    rw [Tb.set_n0]
    cases i with
    | zero => exact absurd rfl hi
    | succ i => rw [Tb.get_ns, Tb.get_ns]
  | f + 1, .n l v r, d + 1, x, i, hi, h => by
    have hd : d / 2 + 1 < 2 ^ f := by rw [Nat.pow_succ] at h; omega
    rw [Tb.set_ns]
    cases i with
    | zero => split <;> rfl
    | succ i =>
      split <;> rw [Tb.get_ns, Tb.get_ns] <;> split <;> first
        | rfl
        | exact Tb.get_set_ne f _ (d / 2) x (i / 2) (by omega) hd
theorem Tb.get_set_same {α : Type} : ∀ (f : Nat) (t : Tb α) (d : Nat) (x : α), d + 1 < 2 ^ f → (Tb.set f t d x).get d = some x
  | 0, t, d, x, h => by omega
  | f + 1, .e, 0, x, _ => by rw [Tb.set_e0]; rfl
  | f + 1, .e, d + 1, x, h => by
    have hd : d / 2 + 1 < 2 ^ f := by rw [Nat.pow_succ] at h; omega
    rw [Tb.set_es]
    split <;> rw [Tb.get_ns] <;> split <;> first
      | exact Tb.get_set_same f .e (d / 2) x hd
      | omega
  | f + 1, .n l v r, 0, x, _ => by rw [Tb.set_n0]; rfl
  | f + 1, .n l v r, d + 1, x, h => by
    have hd : d / 2 + 1 < 2 ^ f := by rw [Nat.pow_succ] at h; omega
    rw [Tb.set_ns]
    split <;> rw [Tb.get_ns] <;> split <;> first
      | exact Tb.get_set_same f _ (d / 2) x hd
      | omega
theorem meet_ok {m m1 : Mt} {j b nb : Nat} (h : m.meet j b = some m1) (hb : b < nb) (hm : BmOk nb m) : m1.f = m.f ∧ m1.bm.get j = some b ∧ (∀ j' b', m.bm.get j' = some b' → m1.bm.get j' = some b') ∧ m1.lim = m.lim ∧ BmOk nb m1 := by
  unfold Mt.meet at h
  split at h
  · rename_i hj
    cases hk : (Nat.blt j 1000000 && Nat.blt j m.lim) <;> rw [hk] at h <;> simp only [cond_true, cond_false] at h <;> cases h
    simp only [Bool.and_eq_true] at hk
    have hj' := blt_nat hk.1
    have hp : j + 1 < 2 ^ 40 := by omega
    refine ⟨rfl, Tb.get_set_same 40 m.bm j b hp, fun j' b' h' => ?_, rfl, fun j' b' h' => ?_⟩
    · have hne : j' ≠ j := fun e => by rw [e, hj] at h'; cases h'
      exact (Tb.get_set_ne 40 m.bm j b j' hne hp).trans h'
    · rcases Tb.get_put h' with ⟨rfl, rfl⟩ | ⟨_, h'⟩
      · exact ⟨hb, blt_nat hk.2⟩
      · exact hm j' b' h'
  · rename_i b' hj
    cases hk : Nat.beq b b' <;> rw [hk] at h <;> simp only [cond_true, cond_false] at h <;> cases h
    have := beq_nat hk
    subst this
    exact ⟨rfl, hj, fun _ _ h => h, rfl, hm⟩
theorem ShR_RMono {s : Sh} {cs : List Value} : RMono (fun fz β ds fp => ShR ty fz w β s cs ds fp) := fun _ _ _ _ _ _ hz hb h => ShR.mono hz hb h
theorem ShRL_RMono {s : List Sh} {cs : List Value} : RMono (fun fz β ds fp => ShRL ty fz w β s cs ds fp) := fun _ _ _ _ _ _ hz hb h => ShRL.mono hz hb h
theorem ShRC_RMono {s : List Sh} {cs : List Value} : RMono (fun fz β ds fp => ShRC ty fz w β s cs ds fp) := fun _ _ _ _ _ _ hz hb h => ShRC.mono hz hb h
theorem ShRE_RMono {s : List (SV × Sh)} {i : Nat} {cs : List MapEntry} : RMono (fun fz β ds fp => ShRE ty fz w β s i cs ds fp) := fun _ _ _ _ _ _ hz hb h => ShRE.mono hz hb h
theorem FsR.wfs {m : Mt} (hf : FsR ty pl G fz0 w0 st w ρ ρ1 m.f) {l : List SV} (h : SV.wfs st.ni st.nb l = true) : SV.wfs ρ.is.length ρ.bs.length l = true := by rw [hf.hm.hni, hf.hm.hnb]; exact h
theorem MtR.gone {m : Mt} (hf : FsR ty pl G fz0 w0 st w ρ ρ1 m.f) (hb : BmOk st.nb m) {i : Nat} {so : SO} (hi : m.f.mem.get i = some so) {fp : List Nat} (hnd : fp.Nodup) (hfp : ∀ k ∈ fp, foot ρ i so k) :
    FsR ty pl G fz0 w0 st w ρ ρ1 { m.f with mem := m.f.mem.put i .gone } ∧ Taken G w0 w ρ (m.f.mem.put i .gone) fp := by
  obtain ⟨h1, _, _, h4⟩ := hf.hm.mem i so hi
  have hg : Md ty pl G fz0 w0 ρ { st with mem := m.f.mem.put i .gone } w := hf.hm.upd (st := { st with mem := m.f.mem }) hi (World.grownBy.refl w none) (fun k hk => by cases hk) rfl trivial trivial (fun k hk => by cases hk)
  refine ⟨⟨hg, hf.he⟩, ?_, ?_, ?_⟩
  · exact hnd
  · intro k hk
    have hk' : foot ρ i so k := hfp k hk
    obtain ⟨q1, q2⟩ := hf.hm.own i so k hi hk'
    exact ⟨q1, q2, foot_lt h4 hk'⟩
  · intro k hk
    have hk' : foot ρ i so k := hfp k hk
    rintro ⟨j, oj, hj, hfj⟩
    rcases Tb.get_put hj with ⟨rfl, rfl⟩ | ⟨hne, hj'⟩
    · cases hfj
    · exact hne (hf.hm.inj j i oj so k hj' hi hfj hk')
theorem mt_all (hty : TyOk P ty) {pc : List (B × Bool)} (hpw : ∀ p ∈ pc, p.1.wf st.ni = true) (n : Nat) :
    (∀ {s : Sh} {cs : List SV} {m m' : Mt} {as : List A} {G : Nat → Prop} {fz0 : Fz} {w0 : World} {ρ ρ1 : Env}, mtC ty pc n s cs m = some (as, m') → FsR ty pl G fz0 w0 st w ρ ρ1 m.f → BmOk st.nb m → PcOk ρ.is pc → SV.wfs st.ni st.nb cs = true → allCell cs = true → SV.tys ρ cs →
      MtR ty pl G fz0 w0 st w ρ ρ1 m m' as (fun fz β ds fp => ShR ty fz w β s (SV.dens ρ cs) ds fp)) ∧
    (∀ {ss : List Sh} {vs : List SV} {m m' : Mt} {as : List A} {G : Nat → Prop} {fz0 : Fz} {w0 : World} {ρ ρ1 : Env}, mtL ty pc n ss vs m = some (as, m') → FsR ty pl G fz0 w0 st w ρ ρ1 m.f → BmOk st.nb m → PcOk ρ.is pc → SV.wfs st.ni st.nb vs = true → SV.tys ρ vs →
      MtR ty pl G fz0 w0 st w ρ ρ1 m m' as (fun fz β ds fp => ShRL ty fz w β ss (SV.dens ρ vs) ds fp)) := by
  induction n with
  | zero => exact ⟨fun h => by simp [mtC] at h, fun h => by simp [mtL] at h⟩
  | succ n ih =>
    refine ⟨?_, ?_⟩
    · intro s cs m m' as G fz0 w0 ρ ρ1 h hf hb hpc hw ha ht
      have hni := hf.hm.hni
      have hnb := hf.hm.hnb
      simp only [mtC] at h
      split at h
      ·
        rename_i t cs
        split at h
        · rename_i x f hx
          cases h
          obtain ⟨ρ', ρ1', g1, g2, g3, g4, g5, g6, g7⟩ := (toD_all hty 60).1 hx hf hpc hpw hw ha ht
          refine ⟨ρ', ρ1', [], g1, g2, g3, g4, g5, fun _ _ h => h, ⟨rfl, hb⟩, ⟨.nil, (fun _ h => nomatch h), (fun _ h => nomatch h)⟩, fun y hy => by simp at hy; subst hy; exact g6, ?_⟩
          simp only [ShR]
          exact ⟨trivial, _, rfl, g7⟩
        · cases h
      ·
        rename_i t x
        split at h
        · rename_i y f hx
          cases hb0 : y.beq (.ofDt x) <;> rw [hb0] at h <;> simp only [cond_true, cond_false] at h <;> cases h
          have := A.beq_eq hb0
          subst this
          obtain ⟨ρ', ρ1', g1, g2, g3, g4, g5, g6, g7⟩ := (toD_all hty 60).1 hx hf hpc hpw hw ha ht
          rw [den_ofDt] at g7
          refine ⟨ρ', ρ1', [], g1, g2, g3, g4, g5, fun _ _ h => h, ⟨rfl, hb⟩, ⟨.nil, (fun _ h => nomatch h), (fun _ h => nomatch h)⟩, (fun y hy => nomatch hy), ?_⟩
          simp only [ShR]
          exact ⟨rfl, trivial, g7⟩
        · cases h
      ·
        rename_i t
        split at h
        · rename_i es hel
          obtain ⟨e, s⟩ := es
          cases h
          refine ⟨ρ, ρ1, [], hf, .refl _, Env.le_refl _, rfl, Nat.le_refl _, fun _ _ h => h, ⟨rfl, hb⟩, ⟨.nil, (fun _ h => nomatch h), (fun _ h => nomatch h)⟩, fun y hy => by simp at hy; subst hy; rfl, ?_⟩
          simp only [ShR]
          exact ⟨_, _, e, s, rfl, rfl, rfl, hel, .inl ⟨rfl, rfl⟩⟩
        · cases h
      · rename_i t b
        split at h
        · rename_i e s xa e' s' hbm hel
          cases hk : (Nat.beq e e' && Nat.beq s s') <;> rw [hk] at h <;> simp only [cond_true, cond_false] at h <;> cases h
          simp only [Bool.and_eq_true] at hk
          have h1 := beq_nat hk.1
          have h2 := beq_nat hk.2
          subst h1; subst h2
          obtain ⟨g1, g2⟩ := MtR.gone hf hb hbm (fp := (ρ.val b).ownBlock.toList) (by cases (ρ.val b).ownBlock <;> simp) (fun k hk => by simp only [foot]; simpa using hk)
          obtain ⟨_, hwx, _, hok⟩ := hf.hm.mem b _ hbm
          simp only [SO.wf] at hwx
          have hwa := hf.he.wfA (x := xa) (by rw [hni]; exact hwx)
          refine ⟨ρ, ρ1, _, g1, .refl _, Env.le_refl _, rfl, Nat.le_refl _, fun _ _ h => h, ⟨rfl, hb⟩, g2, fun y hy => by simp at hy; subst hy; exact hwa.1, ?_⟩
          simp only [ShR]
          refine ⟨_, _, e, s, rfl, rfl, rfl, hel, ?_⟩
          simp only [SO.ok] at hok
          show RowOk ty ρ.fz w e s (A.den ρ1.is xa) (ρ.val b)
          rw [hwa.2]
          exact hok
        · cases h
      ·
        rename_i j b
        split at h
        · rename_i m1 hme
          cases h
          simp only [SV.wfs, SV.wf, Bool.and_true] at hw
          obtain ⟨q1, q2, q3, q0, q4⟩ := meet_ok hme (blt_nat hw) hb
          refine ⟨ρ, ρ1, [], by rw [q1]; exact hf, .refl _, Env.le_refl _, by rw [q1], by rw [q1]; exact Nat.le_refl _, q3, ⟨q0, q4⟩, ⟨.nil, (fun _ h => nomatch h), (fun _ h => nomatch h)⟩, (fun y hy => nomatch hy), ?_⟩
          simp only [ShR]
          exact ⟨rfl, trivial, _, by simp only [bβ, q2]; rfl, rfl⟩
        · cases h
      · rename_i j b
        split at h
        · rename_i m1 hme
          cases h
          simp only [SV.wfs, SV.wf, Bool.and_true] at hw
          obtain ⟨q1, q2, q3, q0, q4⟩ := meet_ok hme (blt_nat hw) hb
          refine ⟨ρ, ρ1, [], by rw [q1]; exact hf, .refl _, Env.le_refl _, by rw [q1], by rw [q1]; exact Nat.le_refl _, q3, ⟨q0, q4⟩, ⟨.nil, (fun _ h => nomatch h), (fun _ h => nomatch h)⟩, (fun y hy => nomatch hy), ?_⟩
          simp only [ShR]
          exact ⟨rfl, trivial, _, by simp only [bβ, q2]; rfl, rfl⟩
        · cases h
      · rename_i v u
        cases hk : (u.beq v && v.wf 0 0) <;> rw [hk] at h <;> simp only [cond_true, cond_false] at h <;> cases h
        simp only [Bool.and_eq_true] at hk
        have := SV.beq_eq hk.1
        subst this
        refine MtR.same hf hb ?_
        simp only [ShR]
        exact ⟨trivial, trivial, hk.2, by simp only [SV.dens]; rw [SV.den_app (E0_le ρ) hk.2]⟩
      ·
        rename_i g fi ca g' fi' ca'
        cases hk : Nat.beq g g' <;> rw [hk] at h <;> simp only [cond_true, cond_false] at h
        · cases h
        · have := beq_nat hk
          subst this
          simp only [SV.wfs, SV.wf, Bool.and_true, Bool.and_eq_true] at hw
          have ht1 := ht.1
          simp only [SV.ty] at ht1
          split at h
          · rename_i a1 m1 h1
            split at h
            · rename_i a2 m2 h2
              cases h
              have r1 := ih.2 h1 hf hb hpc hw.1 ht1.1
              refine (MtR.seq (m2 := m') (as2 := a2) (R2 := fun fz β ds fp => ShRL ty fz w β ca (SV.dens ρ ca') ds fp) r1 ShRL_RMono fun G fz0 w0 ρ' ρ1' hl hf' hb' => ?_).mono ?_
              · have := ih.2 h2 hf' hb' (PcOk.fl hl hpc) hw.2 (SV.tys_app hl.le (by rw [hni, hnb]; exact hw.2) ht1.2)
                rw [SV.dens_fl hl hni hnb hw.2] at this
                exact this
              · rintro fz β ds fp ⟨d1, d2, f1, f2, e1, e2, e3, e4⟩
                simp only [ShR]
                exact ⟨_, _, d1, d2, f1, f2, rfl, e1, e2, e3, e4⟩
            · cases h
          · cases h
      ·
        rename_i t s t' v
        cases hk : Nat.beq t t' <;> rw [hk] at h <;> simp only [cond_true, cond_false] at h
        · cases h
        · have := beq_nat hk
          subst this
          simp only [SV.wfs, SV.wf, Bool.and_true] at hw
          have ht1 := ht.1
          simp only [SV.ty] at ht1
          split at h
          · rename_i cs hcs
            obtain ⟨k1, k2⟩ := fitV_ok hcs
            have r1 := ih.1 h hf hb hpc (cellsOf_wf k1 hw).1 (cellsOf_wf k1 hw).2 (cellsOf_ty k1 ht1)
            refine r1.mono fun fz β ds fp hr => ?_
            simp only [ShR]
            exact ⟨_, _, rfl, k2 ρ, hr⟩
          · cases h
      · cases h
    · intro ss vs m m' as G fz0 w0 ρ ρ1 h hf hb hpc hw ht
      have hni := hf.hm.hni
      have hnb := hf.hm.hnb
      cases ss with
      | nil =>
        cases vs with
        | nil =>
          simp only [mtL] at h
          cases h
          exact MtR.same hf hb (by simp only [ShRL, SV.dens]; exact ⟨trivial, trivial, trivial⟩)
        | cons v vs => simp [mtL] at h
      | cons s ss =>
        cases vs with
        | nil => simp [mtL] at h
        | cons v vs =>
          simp only [mtL] at h
          simp only [SV.wfs, Bool.and_eq_true] at hw
          split at h
          · rename_i cs hcs
            split at h
            · rename_i a1 m1 h1
              split at h
              · rename_i a2 m2 h2
                cases h
                obtain ⟨k1, k2⟩ := fitV_ok hcs
                have r1 := ih.1 h1 hf hb hpc (cellsOf_wf k1 hw.1).1 (cellsOf_wf k1 hw.1).2 (cellsOf_ty k1 ht.1)
                refine (MtR.seq (m2 := m') (as2 := a2) (R2 := fun fz β ds fp => ShRL ty fz w β ss (SV.dens ρ vs) ds fp) r1 ShR_RMono fun G fz0 w0 ρ' ρ1' hl hf' hb' => ?_).mono ?_
                · have := ih.2 h2 hf' hb' (PcOk.fl hl hpc) hw.2 (SV.tys_app hl.le (by rw [hni, hnb]; exact hw.2) ht.2)
                  rw [SV.dens_fl hl hni hnb hw.2] at this
                  exact this
                · rintro fz β ds fp ⟨d1, d2, f1, f2, e1, e2, e3, e4⟩
                  simp only [ShRL, SV.dens]
                  exact ⟨_, _, _, d1, d2, f1, f2, rfl, e1, e2, k2 ρ, e3, e4⟩
              · cases h
            · cases h
          · cases h
theorem mtCells_ok (hty : TyOk P ty) {pc : List (B × Bool)} (hpw : ∀ p ∈ pc, p.1.wf st.ni = true) : ∀ {ss : List Sh} {cs : List SV} {m m' : Mt} {as : List A} {G : Nat → Prop} {fz0 : Fz} {w0 : World} {ρ ρ1 : Env}, mtCells ty pc ss cs m = some (as, m') → FsR ty pl G fz0 w0 st w ρ ρ1 m.f → BmOk st.nb m → PcOk ρ.is pc → SV.wfs st.ni st.nb cs = true → allCell cs = true → SV.tys ρ cs →
      MtR ty pl G fz0 w0 st w ρ ρ1 m m' as (fun fz β ds fp => ShRC ty fz w β ss (SV.dens ρ cs) ds fp)
  | [], [], m, m', as, G, fz0, w0, ρ, ρ1, h, hf, hb, hpc, hw, ha, ht => by
    simp only [mtCells] at h
    cases h
    exact MtR.same hf hb ⟨rfl, rfl, rfl⟩
  | [], _ :: _, m, m', as, G, fz0, w0, ρ, ρ1, h, _, _, _, _, _, _ => by simp [mtCells] at h
  | s :: ss, cs, m, m', as, G, fz0, w0, ρ, ρ1, h, hf, hb, hpc, hw, ha, ht => by
    have hni := hf.hm.hni
    have hnb := hf.hm.hnb
    simp only [mtCells] at h
    split at h
    · rename_i l hl
      split at h
      · rename_i a1 m1 h1
        split at h
        · rename_i a2 m2 h2
          cases h
          obtain ⟨t1, rfl⟩ := takeN_eq _ _ _ hl
          rw [dropN_eq] at h2
          have hwd : SV.wfs st.ni st.nb (cs.drop (s.size ty)) = true := wfs_of_mem fun v hv => wfs_mem hw v (List.mem_of_mem_drop hv)
          have r1 := (mt_all hty hpw 60).1 h1 hf hb hpc (wfs_of_mem fun v hv => wfs_mem hw v (List.mem_of_mem_take hv)) (allCell_of_mem fun v hv => allCell_mem ha v (List.mem_of_mem_take hv)) (tys_of_mem fun v hv => tys_mem ht v (List.mem_of_mem_take hv))
          refine (MtR.seq (m2 := m') (as2 := a2) (R2 := fun fz β ds fp => ShRC ty fz w β ss (SV.dens ρ (cs.drop (s.size ty))) ds fp) r1 ShR_RMono fun G fz0 w0 ρ' ρ1' hl hf' hb' => ?_).mono ?_
          · have := mtCells_ok hty hpw h2 hf' hb' (PcOk.fl hl hpc) hwd (allCell_of_mem fun v hv => allCell_mem ha v (List.mem_of_mem_drop hv)) (SV.tys_app hl.le (by rw [hni, hnb]; exact hwd) (tys_of_mem fun v hv => tys_mem ht v (List.mem_of_mem_drop hv)))
            rw [SV.dens_fl hl hni hnb hwd] at this
            exact this
          · rintro fz β ds fp ⟨d1, d2, f1, f2, e1, e2, e3, e4⟩
            simp only [ShRC]
            refine ⟨_, _, d1, d2, f1, f2, ?_, e1, e2, e3, e4⟩
            rw [← dens_append, List.take_append_drop]
        · cases h
      · cases h
    · cases h
theorem mtEs_ok (hty : TyOk P ty) {pc : List (B × Bool)} (hpw : ∀ p ∈ pc, p.1.wf st.ni = true) : ∀ {ss : List (SV × Sh)} {es : List (SV × SV × Nat)} {i : Nat} {m m' : Mt} {as : List A} {G : Nat → Prop} {fz0 : Fz} {w0 : World} {ρ ρ1 : Env}, mtEs ty pc ss es i m = some (as, m') → FsR ty pl G fz0 w0 st w ρ ρ1 m.f → BmOk st.nb m → PcOk ρ.is pc → esWf st.ni st.nb es = true → esTyd ρ es →
      MtR ty pl G fz0 w0 st w ρ ρ1 m m' as (fun fz β ds fp => ShRE ty fz w β ss i (esDen ρ es) ds fp)
  | [], [], i, m, m', as, G, fz0, w0, ρ, ρ1, h, hf, hb, hpc, hw, ht => by
    simp only [mtEs] at h
    cases h
    exact MtR.same hf hb ⟨rfl, rfl, rfl⟩
  | [], _ :: _, i, m, m', as, G, fz0, w0, ρ, ρ1, h, _, _, _, _, _ => by simp [mtEs] at h
  | _ :: _, [], i, m, m', as, G, fz0, w0, ρ, ρ1, h, _, _, _, _, _ => by simp [mtEs] at h
  | s :: ss, e :: es, i, m, m', as, G, fz0, w0, ρ, ρ1, h, hf, hb, hpc, hw, ht => by
    have hni := hf.hm.hni
    have hnb := hf.hm.hnb
    simp only [mtEs] at h
    cases hk : (e.1.beq s.1 && s.1.wf 0 0 && Nat.beq e.2.2 i) <;> rw [hk] at h <;> simp only [cond_true, cond_false] at h
    · cases h
    · simp only [Bool.and_eq_true] at hk
      have hk1 := SV.beq_eq hk.1.1
      have hk3 := beq_nat hk.2
      split at h
      · rename_i cs hcs
        split at h
        · rename_i a1 m1 h1
          split at h
          · rename_i a2 m2 h2
            cases h
            simp only [esWf, Bool.and_eq_true] at hw
            obtain ⟨k1, k2⟩ := fitV_ok hcs
            have t0 := ht e (.head _)
            have r1 := (mt_all hty hpw 60).1 h1 hf hb hpc (cellsOf_wf k1 hw.1.2).1 (cellsOf_wf k1 hw.1.2).2 (cellsOf_ty k1 t0.2)
            have hwr : esWf ρ.is.length ρ.bs.length es = true := by rw [hni, hnb]; exact hw.2
            refine (MtR.seq (m2 := m') (as2 := a2) (R2 := fun fz β ds fp => ShRE ty fz w β ss (i + 1) (esDen ρ es) ds fp) r1 ShR_RMono fun G fz0 w0 ρ' ρ1' hl hf' hb' => ?_).mono ?_
            · have := mtEs_ok hty hpw h2 hf' hb' (PcOk.fl hl hpc) hw.2 (esTyd_app hl.le hwr (fun x hx => ht x (.tail _ hx)))
              rw [esDen_app hl.le hwr] at this
              exact this
            · rintro fz β ds fp ⟨d1, d2, f1, f2, e1, e2, e3, e4⟩
              simp only [ShRE]
              refine ⟨_, _, _, d1, d2, f1, f2, ?_, e1, e2, hk.1.2, k2 ρ, e3, e4⟩
              simp only [esDen, List.map_cons, hk3]
              rw [hk1, SV.den_app (E0_le ρ) hk.1.2]
          · cases h
        · cases h
      · cases h
theorem mtB_ok (hty : TyOk P ty) {pc : List (B × Bool)} (hpw : ∀ p ∈ pc, p.1.wf st.ni = true) : ∀ {ss : List ShB} {j : Nat} {m m' : Mt} {as : List A} {G : Nat → Prop} {fz0 : Fz} {w0 : World} {ρ ρ1 : Env}, mtB ty pc ss j m = some (as, m') → FsR ty pl G fz0 w0 st w ρ ρ1 m.f → BmOk st.nb m → PcOk ρ.is pc →
      MtR ty pl G fz0 w0 st w ρ ρ1 m m' as (fun fz β ds fp => BlR ty fz w β ss j ds fp)
  | [], j, m, m', as, G, fz0, w0, ρ, ρ1, h, hf, hb, hpc => by
    simp only [mtB] at h
    cases h
    exact MtR.same hf hb ⟨rfl, rfl⟩
  | s :: ss, j, m, m', as, G, fz0, w0, ρ, ρ1, h, hf, hb, hpc => by
    have hni := hf.hm.hni
    have hnb := hf.hm.hnb
    simp only [mtB] at h
    split at h
    · rename_i a1 m1 h1
      split at h
      · rename_i a2 m2 h2
        cases h
        have rest : ∀ (G : Nat → Prop) (fz0 : Fz) (w0 : World) (ρ' ρ1' : Env), ρ.fl ρ' → FsR ty pl G fz0 w0 st w ρ' ρ1' m1.f → BmOk st.nb m1 → MtR ty pl G fz0 w0 st w ρ' ρ1' m1 m' a2 (fun fz β ds fp => BlR ty fz w β ss (j + 1) ds fp) :=
          fun G fz0 w0 ρ' ρ1' hl hf' hb' => mtB_ok hty hpw h2 hf' hb' (PcOk.fl hl hpc)
        have taken : ∀ {b : Nat} {so : SO} {R : Fz → Bt → List Dt → List Nat → Prop} {R' : Fz → Bt → List Dt → List Nat → Prop}, m.bm.get j = some b → m.f.mem.get b = some so → foot ρ b so (ρ.b b) → RMono R →
            (∀ (G : Nat → Prop) (fz0 : Fz) (w0 : World) (ρ' ρ1' : Env), ρ.fl ρ' → FsR ty pl G fz0 w0 st w ρ' ρ1' { m.f with mem := m.f.mem.put b .gone } → BmOk st.nb m → MtR ty pl G fz0 w0 st w ρ' ρ1' { m with f := { m.f with mem := m.f.mem.put b .gone } } m1 a1 R) →
            (∀ fz β d1 d2 f1 f2, β j = some (ρ.b b) → R fz β d1 f1 → BlR ty fz w β ss (j + 1) d2 f2 → R' fz β (d1 ++ d2) ((ρ.b b :: f1) ++ f2)) →
            MtR ty pl G fz0 w0 st w ρ ρ1 m m' (a1 ++ a2) R' := by
          intro b so R R' hbm hbo hfoot hRm hr hjoin
          obtain ⟨g1, g2⟩ := MtR.gone hf hb hbo (fp := [ρ.b b]) (by simp) (fun k hk => by simp only [List.mem_singleton] at hk; rw [hk]; exact hfoot)
          have step : MtR ty pl G fz0 w0 st w ρ ρ1 m { m with f := { m.f with mem := m.f.mem.put b .gone } } [] (fun fz β ds fp => ds = [] ∧ fp = [ρ.b b] ∧ β j = some (ρ.b b)) := by
            refine ⟨ρ, ρ1, _, g1, .refl _, Env.le_refl _, rfl, Nat.le_refl _, fun _ _ h => h, ⟨rfl, hb⟩, g2, (fun _ h => nomatch h), rfl, rfl, ?_⟩
            simp only [bβ, hbm]; rfl
          have s1 := step.seq (fun fz fz' β β' ds fp hz hbt h => ⟨h.1, h.2.1, hbt _ _ h.2.2⟩) hr
          have s2 := s1.seq (fun fz fz' β β' ds fp hz hbt h => by
            obtain ⟨d1, d2, f1, f2, e1, e2, e3, e4⟩ := h
            exact ⟨d1, d2, f1, f2, e1, e2, ⟨e3.1, e3.2.1, hbt _ _ e3.2.2⟩, hRm _ _ _ _ _ _ hz hbt e4⟩) rest
          refine s2.mono ?_
          rintro fz β ds fp ⟨_, d2, _, f2, rfl, rfl, ⟨_, d1, _, f1, rfl, rfl, ⟨rfl, rfl, e3⟩, e4⟩, e5⟩
          exact hjoin fz β d1 d2 f1 f2 e3 e4 e5
        split at h1
        · cases h1
          refine (rest G fz0 w0 ρ ρ1 (.refl _) hf hb).mono fun fz β ds fp hr => ?_
          simp only [BlR]; exact hr
        · rename_i e l
          split at h1
          · rename_i b hbm
            split at h1
            · rename_i c e' hbo
              cases hk : Nat.beq e e' <;> rw [hk] at h1 <;> simp only [cond_true, cond_false] at h1
              · cases h1
              · have := beq_nat hk
                subst this
                obtain ⟨hlt, hwc, _, hok⟩ := hf.hm.mem b _ hbo
                simp only [SO.wf, Bool.and_eq_true] at hwc
                simp only [SO.ok] at hok
                refine taken (R := fun fz β ds fp => ShRC ty fz w β l (SV.dens ρ c) ds fp) hbm hbo rfl ShRC_RMono (fun G fz0 w0 ρ' ρ1' hl hf' hb' => ?_) (fun fz β d1 d2 f1 f2 q1 q2 q3 => ?_)
                · have := mtCells_ok hty hpw h1 hf' hb' (PcOk.fl hl hpc) hwc.1 hwc.2 (SV.tys_app hl.le (by rw [hni, hnb]; exact hwc.1) hok.2)
                  rw [SV.dens_fl hl hni hnb hwc.1] at this
                  exact this
                · simp only [BlR]
                  exact ⟨_, _, d1, d2, f1, f2, q1, hok.1, rfl, rfl, q2, q3⟩
            · cases h1
          · cases h1
        · rename_i es kk
          split at h1
          · rename_i b hbm
            split at h1
            · rename_i c k' hbo
              cases hk : Nat.beq kk k' <;> rw [hk] at h1 <;> simp only [cond_true, cond_false] at h1
              · cases h1
              · have := beq_nat hk
                subst this
                obtain ⟨hlt, hwc, _, hok⟩ := hf.hm.mem b _ hbo
                simp only [SO.wf] at hwc
                simp only [SO.ok] at hok
                have hwr : esWf ρ.is.length ρ.bs.length c = true := by rw [hni, hnb]; exact hwc
                refine taken (R := fun fz β ds fp => ShRE ty fz w β es 0 (esDen ρ c) ds fp) hbm hbo rfl ShRE_RMono (fun G fz0 w0 ρ' ρ1' hl hf' hb' => ?_) (fun fz β d1 d2 f1 f2 q1 q2 q3 => ?_)
                · have := mtEs_ok hty hpw h1 hf' hb' (PcOk.fl hl hpc) hwc (esTyd_app hl.le hwr hok.2)
                  rw [esDen_app hl.le hwr] at this
                  exact this
                · simp only [BlR]
                  exact ⟨_, _, d1, d2, f1, f2, q1, hok.1, rfl, rfl, q2, q3⟩
            · cases h1
          · cases h1
      · cases h
    · cases h
end
end Go.SY
