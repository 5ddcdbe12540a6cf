/- The symbolic executor SY, its soundness, part 22: values by shapes; what is matched. -/
import Derived.Test.YtolebnomgllgaaaGreatDoorSyS21
set_option linter.unusedVariables false
set_option linter.unusedSimpArgs false
namespace Go.SY
open Go Go.RowKit
noncomputable section
variable {F : Nat → List Dt → Post → Prop} {Q : Post} {P : Program}
variable {C : Cfg} {ty : Ty} {pl : Bool} {G : Nat → Prop} {fz0 : Fz} {w0 w w' : World} {ρ ρ' ρ1 ρ1' : Env} {st : St} {d : Bd} {tm : Tm} {a : Act}
def Sh.val (ty : Ty) (s : Sh) (V : Value) (cs : List Value) : Prop := match s with
  | .dat t | .lit t _ => if aggB ty t = true then V = .agg cs.toArray else cs = [V]
  | _ => cs = [V]
abbrev Bt := Nat → Option Nat
mutual
def ShR (ty : Ty) (fz : Fz) (w : World) (β : Bt) : Sh → List Value → List Dt → List Nat → Prop
  | .dat t, cs, ds, fp => fp = [] ∧ ∃ x, ds = [x] ∧ rep ty fz x t cs
  | .lit t x, cs, ds, fp => ds = [] ∧ fp = [] ∧ rep ty fz x t cs
  | .own t, cs, ds, fp => ∃ x V e s, ds = [x] ∧ cs = [V] ∧ fp = V.ownBlock.toList ∧ elemOf ty t = some (e, s) ∧ RowOk ty fz w e s x V
  | .ptr j, cs, ds, fp => ds = [] ∧ fp = [] ∧ ∃ h, β j = some h ∧ cs = [.pointer (some ⟨h, 0, none⟩)]
  | .map j, cs, ds, fp => ds = [] ∧ fp = [] ∧ ∃ h, β j = some h ∧ cs = [.map (some h)]
  | .con v, cs, ds, fp => ds = [] ∧ fp = [] ∧ v.wf 0 0 = true ∧ cs = [v.den E0]
  | .fn g fi ca, cs, ds, fp => ∃ a b d1 d2 f1 f2, cs = [.func (.func g) a.toArray b.toArray] ∧ ds = d1 ++ d2 ∧ fp = f1 ++ f2 ∧ ShRL ty fz w β fi a d1 f1 ∧ ShRL ty fz w β ca b d2 f2
  | .ifc t s, cs, ds, fp => ∃ V cs', cs = [.iface t V] ∧ s.val ty V cs' ∧ ShR ty fz w β s cs' ds fp
def ShRL (ty : Ty) (fz : Fz) (w : World) (β : Bt) : List Sh → List Value → List Dt → List Nat → Prop
  | [], vs, ds, fp => vs = [] ∧ ds = [] ∧ fp = []
  | s :: ss, vs, ds, fp => ∃ V vr cs d1 d2 f1 f2, vs = V :: vr ∧ ds = d1 ++ d2 ∧ fp = f1 ++ f2 ∧ s.val ty V cs ∧ ShR ty fz w β s cs d1 f1 ∧ ShRL ty fz w β ss vr d2 f2
end
def ShRC (ty : Ty) (fz : Fz) (w : World) (β : Bt) : List Sh → List Value → List Dt → List Nat → Prop
  | [], cs, ds, fp => cs = [] ∧ ds = [] ∧ fp = []
  | s :: ss, cs, ds, fp => ∃ c1 c2 d1 d2 f1 f2, cs = c1 ++ c2 ∧ ds = d1 ++ d2 ∧ fp = f1 ++ f2 ∧ ShR ty fz w β s c1 d1 f1 ∧ ShRC ty fz w β ss c2 d2 f2
def ShRE (ty : Ty) (fz : Fz) (w : World) (β : Bt) : List (SV × Sh) → Nat → List MapEntry → List Dt → List Nat → Prop
  | [], _, es, ds, fp => es = [] ∧ ds = [] ∧ fp = []
  | s :: ss, i, es, ds, fp => ∃ V er cs d1 d2 f1 f2, es = ⟨s.1.den E0, V, i⟩ :: er ∧ ds = d1 ++ d2 ∧ fp = f1 ++ f2 ∧ s.1.wf 0 0 = true ∧ s.2.val ty V cs ∧ ShR ty fz w β s.2 cs d1 f1 ∧ ShRE ty fz w β ss (i + 1) er d2 f2
def BlR (ty : Ty) (fz : Fz) (w : World) (β : Bt) : List ShB → Nat → List Dt → List Nat → Prop
  | [], _, ds, fp => ds = [] ∧ fp = []
  | .gone :: ss, j, ds, fp => BlR ty fz w β ss (j + 1) ds fp
  | .cells e l :: ss, j, ds, fp => ∃ h cs d1 d2 f1 f2, β j = some h ∧ w.heap[h]? = some (.cells cs.toArray e (0, 0)) ∧ ds = d1 ++ d2 ∧ fp = (h :: f1) ++ f2 ∧ ShRC ty fz w β l cs d1 f1 ∧ BlR ty fz w β ss (j + 1) d2 f2
  | .map es k :: ss, j, ds, fp => ∃ h cs d1 d2 f1 f2, β j = some h ∧ w.heap[h]? = some (.map cs.toArray k) ∧ ds = d1 ++ d2 ∧ fp = (h :: f1) ++ f2 ∧ ShRE ty fz w β es 0 cs d1 f1 ∧ BlR ty fz w β ss (j + 1) d2 f2
def BtLe (β β' : Bt) : Prop := ∀ j h, β j = some h → β' j = some h
mutual
theorem ShR.mono {fz fz' : Fz} {β β' : Bt} (hz : FzLe fz fz') (hb : BtLe β β') : ∀ {s : Sh} {cs : List Value} {ds : List Dt} {fp : List Nat}, ShR ty fz w β s cs ds fp → ShR ty fz' w β' s cs ds fp
  | .dat t, _, _, _, h => by
    simp only [ShR] at h ⊢
    obtain ⟨h1, x, h2, h3⟩ := h
    exact ⟨h1, x, h2, rep_mono hz h3⟩
  | .lit t x, _, _, _, h => by
    simp only [ShR] at h ⊢
    exact ⟨h.1, h.2.1, rep_mono hz h.2.2⟩
  | .own t, _, _, _, h => by
    simp only [ShR] at h ⊢
    obtain ⟨x, V, e, s, h1, h2, h3, h4, h5⟩ := h
    exact ⟨x, V, e, s, h1, h2, h3, h4, h5.mono hz⟩
  | .ptr j, _, _, _, h => by
    simp only [ShR] at h ⊢
    obtain ⟨h1, h2, k, h3, h4⟩ := h
    exact ⟨h1, h2, k, hb j k h3, h4⟩
  | .map j, _, _, _, h => by
    simp only [ShR] at h ⊢
    obtain ⟨h1, h2, k, h3, h4⟩ := h
    exact ⟨h1, h2, k, hb j k h3, h4⟩
  | .con v, _, _, _, h => by simp only [ShR] at h ⊢; exact h
  | .fn g fi ca, _, _, _, h => by
    simp only [ShR] at h ⊢
    obtain ⟨a, b, d1, d2, f1, f2, h1, h2, h3, h4, h5⟩ := h
    exact ⟨a, b, d1, d2, f1, f2, h1, h2, h3, ShRL.mono hz hb h4, ShRL.mono hz hb h5⟩
  | .ifc t s, _, _, _, h => by
    simp only [ShR] at h ⊢
    obtain ⟨V, cs', h1, h2, h3⟩ := h
    exact ⟨V, cs', h1, h2, ShR.mono hz hb h3⟩
theorem ShRL.mono {fz fz' : Fz} {β β' : Bt} (hz : FzLe fz fz') (hb : BtLe β β') : ∀ {s : List Sh} {cs : List Value} {ds : List Dt} {fp : List Nat}, ShRL ty fz w β s cs ds fp → ShRL ty fz' w β' s cs ds fp
  | [], _, _, _, h => by simp only [ShRL] at h ⊢; exact h
  | s :: ss, _, _, _, h => by
    simp only [ShRL] at h ⊢
    obtain ⟨V, vr, cs, d1, d2, f1, f2, h1, h2, h3, h4, h5, h6⟩ := h
    exact ⟨V, vr, cs, d1, d2, f1, f2, h1, h2, h3, h4, ShR.mono hz hb h5, ShRL.mono hz hb h6⟩
end
theorem ShRC.mono {fz fz' : Fz} {β β' : Bt} (hz : FzLe fz fz') (hb : BtLe β β') : ∀ {s : List Sh} {cs : List Value} {ds : List Dt} {fp : List Nat}, ShRC ty fz w β s cs ds fp → ShRC ty fz' w β' s cs ds fp
  | [], _, _, _, h => h
  | s :: ss, _, _, _, h => by
    simp only [ShRC] at h ⊢
    obtain ⟨c1, c2, d1, d2, f1, f2, h1, h2, h3, h5, h6⟩ := h
    exact ⟨c1, c2, d1, d2, f1, f2, h1, h2, h3, ShR.mono hz hb h5, ShRC.mono hz hb h6⟩
theorem ShRE.mono {fz fz' : Fz} {β β' : Bt} (hz : FzLe fz fz') (hb : BtLe β β') : ∀ {s : List (SV × Sh)} {i : Nat} {cs : List MapEntry} {ds : List Dt} {fp : List Nat}, ShRE ty fz w β s i cs ds fp → ShRE ty fz' w β' s i cs ds fp
  | [], _, _, _, _, h => h
  | s :: ss, _, _, _, _, h => by
    simp only [ShRE] at h ⊢
    obtain ⟨V, er, cs, d1, d2, f1, f2, h1, h2, h3, h4, h5, h6, h7⟩ := h
    exact ⟨V, er, cs, d1, d2, f1, f2, h1, h2, h3, h4, h5, ShR.mono hz hb h6, ShRE.mono hz hb h7⟩
theorem BlR.mono {fz fz' : Fz} {β β' : Bt} (hz : FzLe fz fz') (hb : BtLe β β') : ∀ {s : List ShB} {j : Nat} {ds : List Dt} {fp : List Nat}, BlR ty fz w β s j ds fp → BlR ty fz' w β' s j ds fp
  | [], _, _, _, h => h
  | .gone :: ss, j, _, _, h => by
    simp only [BlR] at h ⊢
    exact BlR.mono hz hb h
  | .cells e l :: ss, j, _, _, h => by
    simp only [BlR] at h ⊢
    obtain ⟨k, cs, d1, d2, f1, f2, h1, h2, h3, h4, h5, h6⟩ := h
    exact ⟨k, cs, d1, d2, f1, f2, hb j k h1, h2, h3, h4, ShRC.mono hz hb h5, BlR.mono hz hb h6⟩
  | .map es n :: ss, j, _, _, h => by
    simp only [BlR] at h ⊢
    obtain ⟨k, cs, d1, d2, f1, f2, h1, h2, h3, h4, h5, h6⟩ := h
    exact ⟨k, cs, d1, d2, f1, f2, hb j k h1, h2, h3, h4, ShRE.mono hz hb h5, BlR.mono hz hb h6⟩
def feet (ρ : Env) (mem : Tb SO) (k : Nat) : Prop := ∃ i o, mem.get i = some o ∧ foot ρ i o k
def feetL (ρ : Env) (mem : Tb SO) (nb : Nat) : List Nat := (List.range nb).flatMap fun i => match mem.get i with
  | some o => footL ρ i o
  | none => []
theorem mem_feetL {mem : Tb SO} {nb : Nat} (h : ∀ i o, mem.get i = some o → i < nb) {k : Nat} : k ∈ feetL ρ mem nb ↔ feet ρ mem k := by
  simp only [feetL, List.mem_flatMap, List.mem_range]
  constructor
  · rintro ⟨i, _, hk⟩
    cases hg : mem.get i with
    | none => rw [hg] at hk; cases hk
    | some o => rw [hg] at hk; exact ⟨i, o, hg, mem_footL.1 hk⟩
  · rintro ⟨i, o, ho, hk⟩
    exact ⟨i, h i o ho, by rw [ho]; exact mem_footL.2 hk⟩
theorem Md.rebase (h : Md ty pl G fz0 w0 ρ st w) : Md ty pl (feet ρ st.mem) ρ.fz w ρ st w :=
  ⟨Belw.refl _ _, h.hni, h.hnb, h.hpc, h.hpw, h.fzw, fun _ _ h => h, fun k h1 h2 => absurd h2 h1, h.mem, fun i o k hi hk => ⟨.inr ⟨i, o, hi, hk⟩, (h.own i o k hi hk).2⟩, h.inj, h.hkk.ok, fun hp => ⟨fun _ => rfl, (h.hkk.np hp).2⟩⟩
theorem Md.unbase {st' : St} (h : Md ty pl G fz0 w0 ρ st w) (h' : Md ty pl (feet ρ st.mem) ρ.fz w ρ' st' w) : Md ty pl G fz0 w0 ρ' st' w := by
  have hg : ∀ k, w.heap.size ≤ k ∨ feet ρ st.mem k → w0.heap.size ≤ k ∨ G k := by
    rintro k (hk | ⟨i, o, hi, hk⟩)
    · exact .inl (Nat.le_trans h.below.size hk)
    · exact (h.own i o k hi hk).1
  refine ⟨h.below, h'.hni, h'.hnb, h'.hpc, h'.hpw, h'.fzw, fun b o ho => h'.fzl b o (h.fzl b o ho), fun k h1 h2 => ?_, h'.mem, fun i o k hi hk => ⟨hg k (h'.own i o k hi hk).1, (h'.own i o k hi hk).2⟩, h'.inj, h'.hkk.ok, fun hp => ⟨fun n => ((h'.hkk.np hp).1 n).trans ((h.hkk.np hp).1 n), (h'.hkk.np hp).2⟩⟩
  cases hz : ρ.fz k with
  | none => exact hg k (h'.fzn k h1 hz)
  | some o => exact h.fzn k (by rw [hz]; simp) h2
structure Taken (G : Nat → Prop) (w0 w : World) (ρ : Env) (mem : Tb SO) (fp : List Nat) : Prop where
  nd : fp.Nodup
  own : ∀ k ∈ fp, (w0.heap.size ≤ k ∨ G k) ∧ ρ.fz k = none ∧ k < w.heap.size
  free : ∀ k ∈ fp, ¬ feet ρ mem k
theorem Taken.nil : Taken G w0 w ρ st.mem [] := ⟨.nil, (fun _ h => nomatch h), (fun _ h => nomatch h)⟩
def bβ (ρ : Env) (bm : Tb Nat) : Bt := fun j => (bm.get j).map ρ.b
def BmOk (nb : Nat) (m : Mt) : Prop := ∀ j b, m.bm.get j = some b → b < nb ∧ j < m.lim
def MtR (ty : Ty) (pl : Bool) (G : Nat → Prop) (fz0 : Fz) (w0 : World) (st : St) (w : World) (ρ ρ1 : Env) (m m' : Mt) (as : List A) (R : Fz → Bt → List Dt → List Nat → Prop) : Prop :=
  ∃ ρ' ρ1' fp, FsR ty pl G fz0 w0 st w ρ' ρ1' m'.f ∧ ρ.fl ρ' ∧ ρ1.le ρ1' ∧ m'.f.d.gs = m.f.d.gs ∧ m.f.d.ni ≤ m'.f.d.ni ∧ (∀ j b, m.bm.get j = some b → m'.bm.get j = some b) ∧ (m'.lim = m.lim ∧ BmOk st.nb m') ∧ Taken G w0 w ρ' m'.f.mem fp ∧ (∀ y ∈ as, y.wf m'.f.d.ni = true) ∧ R ρ'.fz (bβ ρ m'.bm) (as.map (·.den ρ1'.is)) fp
theorem fl_b (h : ρ.fl ρ') : ρ'.b = ρ.b := by funext i; simp only [Env.b, h.bs]
theorem fl_val (h : ρ.fl ρ') : ρ'.val = ρ.val := by funext i; simp only [Env.val, h.bs]
theorem fl_bβ (h : ρ.fl ρ') (bm : Tb Nat) : bβ ρ' bm = bβ ρ bm := by funext j; simp only [bβ, fl_b h]
theorem bβ_le {bm bm' : Tb Nat} (h : ∀ j b, bm.get j = some b → bm'.get j = some b) : BtLe (bβ ρ bm) (bβ ρ bm') := by
  intro j k hk
  simp only [bβ, Option.map_eq_some_iff] at hk ⊢
  obtain ⟨b, h1, h2⟩ := hk
  exact ⟨b, h j b h1, h2⟩
def RMono (R : Fz → Bt → List Dt → List Nat → Prop) : Prop := ∀ fz fz' β β' ds fp, FzLe fz fz' → BtLe β β' → R fz β ds fp → R fz' β' ds fp
def RSeq (R1 R2 : Fz → Bt → List Dt → List Nat → Prop) : Fz → Bt → List Dt → List Nat → Prop := fun fz β ds fp => ∃ d1 d2 f1 f2, ds = d1 ++ d2 ∧ fp = f1 ++ f2 ∧ R1 fz β d1 f1 ∧ R2 fz β d2 f2
theorem MtR.seq {m m1 m2 : Mt} {as1 as2 : List A} {R1 R2 : Fz → Bt → List Dt → List Nat → Prop} (h1 : MtR ty pl G fz0 w0 st w ρ ρ1 m m1 as1 R1) (hR : RMono R1)
    (h2 : ∀ G fz0 w0 ρ' ρ1', ρ.fl ρ' → FsR ty pl G fz0 w0 st w ρ' ρ1' m1.f → BmOk st.nb m1 → MtR ty pl G fz0 w0 st w ρ' ρ1' m1 m2 as2 R2) : MtR ty pl G fz0 w0 st w ρ ρ1 m m2 (as1 ++ as2) (RSeq R1 R2) := by
  obtain ⟨ρ', ρ1', fp1, F1, l1, l2, g1, n1, b1, b2, t1, a1, r1⟩ := h1
  obtain ⟨ρ'', ρ1'', fp2, F2, l3, l4, g2, n2, b3, b4, t2, a2, r2⟩ := h2 (feet ρ' m1.f.mem) ρ'.fz w ρ' ρ1' l1 ⟨F1.hm.rebase, F1.he⟩ b2.2
  have hfp1 : ∀ k ∈ fp1, ¬ (w.heap.size ≤ k ∨ feet ρ' m1.f.mem k) := by
    rintro k hk (h | h)
    · have := (t1.own k hk).2.2; omega
    · exact t1.free k hk h
  refine ⟨ρ'', ρ1'', fp1 ++ fp2, ⟨F1.hm.unbase F2.hm, F2.he⟩, l1.trans l3, Env.le_trans l2 l4, g2.trans g1, Nat.le_trans n1 n2, fun j b h => b3 j b (b1 j b h), ⟨b4.1.trans b2.1, b4.2⟩, ⟨?_, ?_, ?_⟩, ?_, ?_⟩
  · rw [List.nodup_append]
    refine ⟨t1.nd, t2.nd, fun k hk k' hk' e => ?_⟩
    subst e
    exact hfp1 k hk (t2.own k hk').1
  · intro k hk
    rcases List.mem_append.1 hk with hk | hk
    · refine ⟨(t1.own k hk).1, ?_, (t1.own k hk).2.2⟩
      cases hz : ρ''.fz k with
      | none => rfl
      | some o => exact absurd (F2.hm.fzn k (by rw [hz]; simp) (t1.own k hk).2.1) (hfp1 k hk)
    · obtain ⟨q1, q2, q3⟩ := t2.own k hk
      refine ⟨?_, q2, q3⟩
      rcases q1 with q1 | ⟨i, o, hi, hf⟩
      · omega
      · exact (F1.hm.own i o k hi hf).1
  · intro k hk
    rcases List.mem_append.1 hk with hk | hk
    · rintro ⟨i, o, hi, hf⟩
      exact hfp1 k hk (F2.hm.own i o k hi hf).1
    · exact t2.free k hk
  · intro y hy
    rcases List.mem_append.1 hy with hy | hy
    · exact A.wf_mono n2 (a1 y hy)
    · exact a2 y hy
  · refine ⟨as1.map (·.den ρ1'.is), as2.map (·.den ρ1''.is), fp1, fp2, ?_, rfl, hR _ _ _ _ _ _ l3.fz (bβ_le b3) r1, ?_⟩
    · rw [List.map_append]
      congr 1
      apply List.map_congr_left
      intro y hy
      exact Env.A_app l4 (by rw [F1.he.len]; exact a1 y hy)
    · rw [fl_bβ l1] at r2; exact r2
theorem MtR.mono {m m' : Mt} {as : List A} {R R' : Fz → Bt → List Dt → List Nat → Prop} (h : MtR ty pl G fz0 w0 st w ρ ρ1 m m' as R) (hR : ∀ fz β ds fp, R fz β ds fp → R' fz β ds fp) : MtR ty pl G fz0 w0 st w ρ ρ1 m m' as R' := by
  obtain ⟨ρ', ρ1', fp1, F1, l1, l2, g1, n1, b1, b2, t1, a1, r1⟩ := h
  exact ⟨ρ', ρ1', fp1, F1, l1, l2, g1, n1, b1, b2, t1, a1, hR _ _ _ _ r1⟩
theorem MtR.same {m : Mt} {R : Fz → Bt → List Dt → List Nat → Prop} (hf : FsR ty pl G fz0 w0 st w ρ ρ1 m.f) (hb : BmOk st.nb m) (h : R ρ.fz (bβ ρ m.bm) [] []) : MtR ty pl G fz0 w0 st w ρ ρ1 m m [] R :=
  ⟨ρ, ρ1, [], hf, .refl _, Env.le_refl _, rfl, Nat.le_refl _, fun _ _ h => h, ⟨rfl, hb⟩, ⟨.nil, (fun _ h => nomatch h), (fun _ h => nomatch h)⟩, (fun _ h => nomatch h), h⟩
theorem fitV_ok {s : Sh} {v : SV} {cs : List SV} (h : fitV ty s v = some cs) : v.cellsOf = some cs ∧ ∀ ρ, s.val ty (v.den ρ) (SV.dens ρ cs) := by
  have one : (∀ l, v ≠ .agg l) → v.cellsOf = some cs → ∀ ρ, SV.dens ρ cs = [v.den ρ] := by
    intro hn h ρ
    cases v <;> simp only [SV.cellsOf] at h <;> cases h <;> first | rfl | exact absurd rfl (hn _)
  by_cases hv : ∃ l, v = .agg l
  · obtain ⟨l, rfl⟩ := hv
    cases s <;> simp only [fitV] at h <;> first
      | (cases h; done)
      | (rename_i t
         cases ha : aggB ty t <;> rw [ha] at h <;> simp only [cond_true, cond_false] at h <;> cases h
         refine ⟨rfl, fun ρ => ?_⟩
         simp only [Sh.val, ha, if_true, SV.den])
      | (rename_i t x
         cases ha : aggB ty t <;> rw [ha] at h <;> simp only [cond_true, cond_false] at h <;> cases h
         refine ⟨rfl, fun ρ => ?_⟩
         simp only [Sh.val, ha, if_true, SV.den])
  · have hn : ∀ l, v ≠ .agg l := fun l e => hv ⟨l, e⟩
    have h' : v.cellsOf = some cs ∧ (∀ t, s = .dat t → aggB ty t = false) ∧ ∀ t x, s = .lit t x → aggB ty t = false := by
      cases v <;> first
        | exact absurd rfl (hn _)
        | (cases s <;> simp only [fitV] at h <;> first
            | exact ⟨h, (fun t e => by cases e), (fun t x e => by cases e)⟩
            | (rename_i t
               cases ha : aggB ty t <;> rw [ha] at h <;> simp only [cond_true, cond_false] at h <;> first
                 | cases h; done
                 | exact ⟨h, (fun t e => by cases e; exact ha), (fun t x e => by cases e)⟩)
            | (rename_i t x
               cases ha : aggB ty t <;> rw [ha] at h <;> simp only [cond_true, cond_false] at h <;> first
                 | cases h; done
                 | exact ⟨h, (fun t e => by cases e), (fun t x e => by cases e; exact ha)⟩))
    refine ⟨h'.1, fun ρ => ?_⟩
    have := one hn h'.1 ρ
    cases s <;> first
      | exact this
      | (simp only [Sh.val, h'.2.1 _ rfl, Bool.false_eq_true, if_false]; exact this)
      | (simp only [Sh.val, h'.2.2 _ _ rfl, Bool.false_eq_true, if_false]; exact this)
end
end Go.SY
