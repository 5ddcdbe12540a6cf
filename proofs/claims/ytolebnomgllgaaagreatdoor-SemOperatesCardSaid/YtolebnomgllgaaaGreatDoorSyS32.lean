/- The symbolic executor SY, its soundness, part 32: the head of a loop, in any round. -/
import Derived.Test.YtolebnomgllgaaaGreatDoorSyS30
set_option linter.unusedVariables false
set_option linter.unusedSimpArgs false
namespace Go.SY
open Go Go.RowKit
noncomputable section
variable {F : Nat → List Dt → Post → Prop} {Q : Post} {P : Program}
variable {C : Cfg} {ty : Ty} {pl : Bool} {G : Nat → Prop} {fz0 : Fz} {w0 w w' wB : World} {ρ ρ' ρ1 ρ1' ρN ρB : Env} {st stB : St} {d : Bd} {tm : Tm} {a : Act} {bm : Tb Nat} {β : Bt}
theorem tmL_len (tm : Tm) : ∀ n i, (tmL tm n i).length = n
  | 0, _ => rfl
  | n + 1, i => by simp [tmL, tmL_len tm n (i + 1)]
theorem memL_len (mem : Tb SO) : ∀ n i, (memL mem n i).length = n
  | 0, _ => rfl
  | n + 1, i => by simp [memL, memL_len mem n (i + 1)]
theorem memL_get (mem : Tb SO) : ∀ n i j, j < n → (memL mem n i)[j]? = some ((mem.get (i + j)).getD .gone)
  | 0, _, _, h => by omega
  | n + 1, i, 0, _ => by simp [memL]
  | n + 1, i, j + 1, h => by
    simp only [memL, List.getElem?_cons_succ]
    rw [memL_get mem n (i + 1) j (by omega)]
    rw [show i + 1 + j = i + (j + 1) by omega]
def slotVals (a : Act) (N : Nat) : List Value := (List.range N).map fun i => a.tmps.getD i undef
theorem wfsB_mem {ni nb : Nat} : ∀ {l : List SV}, SV.wfsB ni nb l = true → ∀ v ∈ l, v = .bot ∨ v.wf ni nb = true
  | [], _, v, hv => nomatch hv
  | x :: l, h, v, hv => by
    have : (x = .bot ∨ x.wf ni nb = true) ∧ SV.wfsB ni nb l = true := by
      cases x <;> simp only [SV.wfsB, Bool.and_eq_true] at h <;> first
        | exact ⟨.inl rfl, h⟩
        | exact ⟨.inr h.1, h.2⟩
    rcases List.mem_cons.1 hv with rfl | hv
    · exact this.1
    · exact wfsB_mem this.2 v hv
theorem wfSOs_mem {ni nb : Nat} : ∀ {l : List SO}, wfSOs ni nb l = true → ∀ o ∈ l, o.wf ni nb = true
  | [], _, v, hv => nomatch hv
  | x :: l, h, v, hv => by
    simp only [wfSOs, Bool.and_eq_true] at h
    rcases List.mem_cons.1 hv with rfl | hv
    · exact h.1
    · exact wfSOs_mem h.2 v hv
theorem VsOk_get {ni nb : Nat} : ∀ {vs : List SV} {Vs : List Value}, VsOk ρ ni nb vs Vs → ∀ (i : Nat) (v : SV), vs[i]? = some v → ∃ V, Vs[i]? = some V ∧ (v = .bot ∨ (v.wf ni nb = true ∧ v.ty ρ ∧ V = v.den ρ))
  | [], [], _, i, v, h => by simp at h
  | [], _ :: _, h, _, _, _ => h.elim
  | _ :: _, [], h, _, _, _ => h.elim
  | y :: vs, Y :: Vs, h, 0, v, hv => by
    simp only [List.getElem?_cons_zero, Option.some.injEq] at hv
    subst hv
    exact ⟨Y, rfl, h.1⟩
  | y :: vs, Y :: Vs, h, i + 1, v, hv => by
    simp only [List.getElem?_cons_succ] at hv ⊢
    exact VsOk_get h.2 i v hv
theorem slots_ok {tm : Tm} (ht : TmOk ρ st.ni st.nb tm a) (N : Nat) : VsOk ρ st.ni st.nb (tmL tm N 0) (slotVals a N) := by
  have gen : ∀ n i, VsOk ρ st.ni st.nb (tmL tm n i) ((List.range' i n).map fun i => a.tmps.getD i undef) := by
    intro n
    induction n with
    | zero => intro i; trivial
    | succ n ih =>
      intro i
      simp only [tmL, List.range'_succ, List.map_cons]
      refine ⟨?_, ih (i + 1)⟩
      cases hg : tm.get i with
      | none => exact .inl rfl
      | some v =>
        simp only [Option.getD_some]
        rcases (ht i v hg).2 with h | ⟨h1, h2, h3⟩
        · exact .inl h
        · exact .inr ⟨h1, h2, h3⟩
  have := gen N 0
  rw [← List.range_eq_range'] at this
  exact this
theorem tm_of {ni nb N : Nat} {l : List SV} (hl : l.length = N) (hN : N ≤ a.tmps.size) (h : VsOk ρ ni nb l (slotVals a N)) : TmOk ρ ni nb (Tb.ofL l 0 .e) a := by
  intro i v hi
  rcases get_ofL _ _ _ _ _ hi with ⟨_, hi⟩ | hi
  · rw [Nat.sub_zero] at hi
    have hlt := (List.getElem?_eq_some_iff.1 hi).1
    obtain ⟨V, hV, hv⟩ := VsOk_get h i v hi
    refine ⟨by omega, hv.imp id fun ⟨h1, h2, h3⟩ => ⟨h1, h2, ?_⟩⟩
    simp only [slotVals, List.getElem?_map, List.getElem?_range (show i < N by omega), Option.map_some, Option.some.injEq] at hV
    rw [hV, h3]
  · rw [Tb.get_e] at hi; cases hi
structure LInv (ty : Ty) (pl : Bool) (mP : Tb SO) (ρB : Env) (wB : World) (gl : List Nat) (memB : Tb SO) (hs : List Hs) (hb : List HsB) (tl : List SV) (ml : List SO) (N : Nat) (w : World) (a : Act) (s : List Dt) : Prop where
  ex : ∃ fz d1 d2 f1 f2, FzLe ρB.fz fz ∧ FzIn fz w ∧ (∀ k : Nat, fz k ≠ none → ρB.fz k = none → wB.heap.size ≤ k ∨ k ∈ gl) ∧ Belw (· ∈ gl) wB w ∧
    s = d1 ++ d2 ∧ HsR ty fz w (fun _ => none) ρB hs tl (slotVals a N) d1 f1 ∧ HbR ty fz w (fun _ => none) ρB hb ml 0 d2 f2 ∧ (f1 ++ f2).Nodup ∧
    (∀ k ∈ f1 ++ f2, (wB.heap.size ≤ k ∨ k ∈ gl) ∧ fz k = none) ∧ (∀ k, feet ρB memB k → fz k = none ∧ k ∉ f1 ++ f2) ∧ HkP pl { ρB with fz := fz } ρB.fz mP
theorem head_ok {nb : Nat} (hm : Md ty pl G fz0 w0 ρB stB wB) (hnb : stB.nb = nb) {hs : List Hs} {hb : List HsB} {tl tH : List SV} {mH : List SO} {c1 c2 : Cr} {N n : Nat}
    (h1 : crHs ty hs tl ⟨stB.ni, .of (stB.ni + n) nb⟩ = some (tH, c1)) (h2 : crHsB ty hb (memL stB.mem nb 0) c1 = some (mH, c2))
    (hwT : SV.wfsB c2.d.ni c2.d.nb tH = true) (hwM : wfSOs c2.d.ni c2.d.nb mH = true) (hK : KeepOk ρB hs tl) (hB : BaseL ty ρB wB hb (memL stB.mem nb 0) 0) (htl : tH.length = N) (hN : N ≤ a.tmps.size)
    {s : List Dt} (hs0 : s.length = n) {gl : List Nat} (hgl : ∀ k, feet ρB stB.mem k → k ∈ gl) (hkeep : ∀ e s a, (Tb.ofL mH 0 .e).get 0 = some (.pool e s a) → a.wf ρB.is.length = true) (hI : LInv ty pl (Tb.ofL mH 0 .e) ρB wB gl stB.mem hs hb tl (memL stB.mem nb 0) N w a s) {nn : List (B × Bool)} (hnn : PcOk (ρB.is ++ s) nn) (hnw : ∀ p ∈ nn, p.1.wf c2.d.ni = true) :
    ∃ ρH, ρH.is = ρB.is ++ s ∧ ρB.le ρH ∧ Md ty pl (· ∈ gl) ρB.fz wB ρH ⟨pushG (Tb.ofL mH 0 .e) nb c2.d.gs, c2.d.nb, c2.d.ni, nn ++ c2.d.fs ++ stB.pc, stB.df⟩ w ∧ TmOk ρH c2.d.ni c2.d.nb (Tb.ofL tH 0 .e) a ∧ c2.n = stB.ni + n := by
  obtain ⟨fz, d1, d2, f1, f2, z1, z2, z3, z4, rfl, r1, r2, hnd, hfp, hft, hhk⟩ := hI
  let ρN : Env := ⟨ρB.is ++ (d1 ++ d2), ρB.bs, fz⟩
  have hl : ρB.le ρN := ⟨⟨_, rfl⟩, ⟨[], by simp [ρN]⟩, z1⟩
  have hNi : ρN.is.length = stB.ni + n := by simp only [ρN]; rw [List.length_append, hs0, hm.hni]
  have hNb : ρN.bs.length = nb := by simp only [ρN]; rw [hm.hnb, hnb]
  have hext : Ext ty ρN (.of (stB.ni + n) nb) ρN := by
    have := Ext.refl (ty := ty) ρN
    rw [hNi, hNb] at this
    exact this
  have hc0 : CrS ty w ρN (.of (stB.ni + n) nb) ρN [] := ⟨hext, rfl, ⟨fun j e s a h => by simp [Bd.of] at h, fun j g h => by simp [Bd.of] at h, fun j g k h => by simp [Bd.of] at h, fun i j gi gj k h => by simp [Bd.of] at h⟩⟩
  rw [List.nodup_append] at hnd
  obtain ⟨ρ2, k1, k2, k3, k4, k5⟩ := crHs_ok (w := w) h1 hc0 r1 (fun j x hj => by
    simp only [ρN]
    rw [List.getElem?_append_right (by rw [hm.hni]; omega), hm.hni, show stB.ni + j - stB.ni = j by omega, List.getElem?_append_left (List.getElem?_eq_some_iff.1 hj).1]
    exact hj) (by simpa using hnd.1) hK hl
  obtain ⟨ρ3, m1, m2, m3, m4, m5⟩ := crHsB_ok (w := w) h2 k1 r2 (fun j x hj => by
    rw [k3]
    simp only [ρN]
    rw [List.getElem?_append_right (by rw [hm.hni]; omega), hm.hni, show stB.ni + d1.length + j - stB.ni = d1.length + j by omega, List.getElem?_append_right (by omega), show d1.length + j - d1.length = j by omega]
    exact hj) (by rw [List.nil_append, List.nodup_append]; exact hnd) hB (fun i o hi => by
    rw [Nat.zero_add]
    have hlt := (List.getElem?_eq_some_iff.1 hi).1
    rw [memL_len] at hlt
    rw [memL_get _ _ _ _ hlt, Nat.zero_add] at hi
    cases hg : stB.mem.get i with
    | none => rw [hg] at hi; simp only [Option.getD_none, Option.some.injEq] at hi; subst hi; trivial
    | some y => rw [hg] at hi; simp only [Option.getD_some, Option.some.injEq] at hi; subst hi; exact (hm.mem i y hg).2.2.1) hl
  rw [List.nil_append] at m1
  have hz3 : ρ3.fz = fz := m1.ext.fz
  have his : ρ3.is = ρB.is ++ (d1 ++ d2) := m1.is
  have hle3 : ρB.le ρ3 := Env.le_trans hl m1.ext.le
  have hmE : Md ty pl (· ∈ gl) ρB.fz wB ρB { stB with mem := .e } wB :=
    ⟨Belw.refl _ _, hm.hni, hm.hnb, hm.hpc, hm.hpw, hm.fzw, fun _ _ h => h, fun k h1 h2 => absurd h2 h1, (fun i o hi => by rw [Tb.get_e] at hi; cases hi), (fun i o k hi => by rw [Tb.get_e] at hi; cases hi), (fun i j oi oj k hi => by rw [Tb.get_e] at hi; cases hi), HkP.nil⟩
  let fL : List Nat := feetL ρB stB.mem stB.nb
  have hfL : ∀ k, k ∈ fL ↔ feet ρB stB.mem k := fun k => mem_feetL fun i o h => (hm.mem i o h).1
  have hmlen : mH.length = nb := by rw [m4, memL_len]
  have hent : ∀ {i : Nat} {o : SO}, mH[i]? = some o → i < nb ∧ o.wf ρ3.is.length ρ3.bs.length = true ∧ GhOk ty ρ3 i o ∧ SO.ok ty ρ3 w i o ∧ ∀ k, foot ρ3 i o k → ∃ ob, stB.mem.get i = some ob ∧ foot ρB i ob k := by
    intro i o hi
    have hlt : i < nb := by rw [← hmlen]; exact (List.getElem?_eq_some_iff.1 hi).1
    obtain ⟨ob, hob, he⟩ := m5 i o hi
    rw [Nat.zero_add] at he
    have hwo := wfSOs_mem hwM o (List.mem_of_getElem? hi)
    obtain ⟨q1, q2, q3, q4⟩ := he (fun c e hoe => by
      rw [hoe] at hwo
      simp only [SO.wf, Bool.and_eq_true] at hwo
      exact hwo.2)
    refine ⟨hlt, q1, q2, q3, fun k hk => ?_⟩
    rw [memL_get _ _ _ _ hlt, Nat.zero_add] at hob
    rw [q4] at hk
    cases hg : stB.mem.get i with
    | none => rw [hg] at hob; simp only [Option.getD_none, Option.some.injEq] at hob; subst hob; cases hk
    | some y => rw [hg] at hob; simp only [Option.getD_some, Option.some.injEq] at hob; subst hob; exact ⟨_, rfl, hk⟩
  have hgi : ∀ {i : Nat}, nb ≤ i → ρN.bs.length + (i - nb) = i := fun h => by rw [hNb]; omega
  have hNew : NewR ty w ρ3 (fun i o => mH[i]? = some o ∨ (nb ≤ i ∧ c2.d.gs[i - nb]? = some o)) (fL ++ (f1 ++ f2)) := by
    refine ⟨fun i o h => ?_, fun i o k h hk => ?_, fun i j oi oj k hi hj hki hkj => ?_⟩
    · rcases h with h | ⟨hi, h⟩
      · obtain ⟨q1, q2, q3, q4, _⟩ := hent h
        exact ⟨Nat.lt_of_lt_of_le (by rw [hNb]; exact q1) m1.ext.le.len_bs, q2, q3, q4⟩
      · have hlt := (List.getElem?_eq_some_iff.1 h).1
        have hg := m1.ext.gs _ o h
        rw [hgi hi] at hg
        refine ⟨by rw [m1.ext.lenb, m1.ext.nb]; have := hgi hi; omega, by rw [m1.ext.len, m1.ext.lenb]; exact m1.ext.gw o (List.mem_of_getElem? h), hg, ?_⟩
        rcases m1.gs.kind _ o h with hk | ⟨e, s, a, rfl⟩
        · exact (gh_ok hk ρ3 w i).1
        · have := m1.gs.row _ e s a h
          rw [hgi hi] at this
          simp only [SO.ok]
          rw [hz3]
          exact this
    · rcases h with h | ⟨hi, h⟩
      · obtain ⟨_, _, _, _, q⟩ := hent h
        obtain ⟨ob, q1, q2⟩ := q k hk
        exact List.mem_append_left _ ((hfL k).2 ⟨i, ob, q1, q2⟩)
      · exact List.mem_append_right _ (m1.gs.mem _ o k h (by rw [hgi hi]; exact hk))
    · rcases hi with hi | ⟨hi0, hi⟩
      · obtain ⟨_, _, _, _, q⟩ := hent hi
        obtain ⟨ob, q1, q2⟩ := q k hki
        rcases hj with hj | ⟨hj0, hj⟩
        · obtain ⟨_, _, _, _, p⟩ := hent hj
          obtain ⟨oc, p1, p2⟩ := p k hkj
          exact hm.inj i j ob oc k q1 p1 q2 p2
        · have := m1.gs.mem _ oj k hj (by rw [hgi hj0]; exact hkj)
          exact absurd this (hft k ⟨i, ob, q1, q2⟩).2
      · have h3 := m1.gs.mem _ oi k hi (by rw [hgi hi0]; exact hki)
        rcases hj with hj | ⟨hj0, hj⟩
        · obtain ⟨_, _, _, _, p⟩ := hent hj
          obtain ⟨oc, p1, p2⟩ := p k hkj
          exact absurd h3 (hft k ⟨j, oc, p1, p2⟩).2
        · have := m1.gs.inj _ _ oi oj k hi hj (by rw [hgi hi0]; exact hki) (by rw [hgi hj0]; exact hkj)
          omega
  have hmd := hmE.create' (w' := w) (fpT := gl) (df := stB.df) (fun k hk => .inr hk) (fun k _ => by rintro ⟨i, o, hi, _⟩; rw [Tb.get_e] at hi; cases hi)
    z4 hle3 (by rw [hz3]; exact z2) (fun k h1 h2 => z3 k (by rw [← hz3]; exact h1) h2) m1.ext.len m1.ext.lenb
    (pcn := nn ++ c2.d.fs) (PcOk.append (by rw [his]; exact hnn) m1.ext.fs) (fun p hp => (List.mem_append.1 hp).elim (hnw p) (m1.ext.fw p)) hNew (fun k hk => by
      rw [hz3]
      rcases List.mem_append.1 hk with hk | hk
      · exact ⟨.inr (hgl k ((hfL k).1 hk)), (hft k ((hfL k).1 hk)).1⟩
      · exact hfp k hk) (mem := pushG (Tb.ofL mH 0 .e) nb c2.d.gs) (fun i o hi => by
      rcases get_pushG _ _ _ _ _ hi with ⟨q1, q2⟩ | hi
      · exact .inl (.inr ⟨q1, q2⟩)
      · rcases get_ofL _ _ _ _ _ hi with ⟨_, hi⟩ | hi
        · rw [Nat.sub_zero] at hi; exact .inl (.inl hi)
        · exact .inr hi) (by
      have np : ∀ e s a, (pushG (Tb.ofL mH 0 .e) nb c2.d.gs).get 0 = some (.pool e s a) → (Tb.ofL mH 0 .e).get 0 = some (.pool e s a) := fun e s a hg => by
        rcases get_pushG _ _ _ _ _ hg with ⟨_, q2⟩ | hi
        · exact absurd rfl (CrS.np m1 (List.mem_of_getElem? q2) e s a)
        · exact hi
      refine ⟨fun e s a hg n hn => ?_, fun hp => ⟨fun n => by rw [hz3]; exact (hhk.np hp).1 n, fun e s a hg => (hhk.np hp).2 e s a (np e s a hg)⟩⟩
      rw [Env.A_app hle3 (hkeep e s a (np e s a hg))]
      rw [hz3] at hn
      exact hhk.ok e s a (np e s a hg) n hn)
  refine ⟨ρ3, his, hle3, hmd, ?_, ?_⟩
  · have hv := VsOk.app m2 k1.ext.len k1.ext.lenb k4
    rw [m1.ext.len, m1.ext.lenb] at hv
    exact tm_of htl hN hv
  · rw [m3, k3, ← hs0, List.length_append, Nat.add_assoc]
end
end Go.SY
set_option linter.unusedVariables false
set_option linter.unusedSimpArgs false
namespace Go.SY
open Go Go.RowKit
noncomputable section
variable {F : Nat → List Dt → Post → Prop} {Q : Post} {P : Program}
variable {C : Cfg} {ty : Ty} {pl : Bool} {G : Nat → Prop} {fz0 : Fz} {w0 w w' wB : World} {ρ ρ' ρ1 ρ1' ρN ρB : Env} {st st' stB : St} {d : Bd} {tm tm' : Tm} {a : Act} {bm : Tb Nat} {β : Bt}
theorem sosBeq_eq : ∀ {a b : List SO}, sosBeq a b = true → a = b
  | [], [], _ => rfl
  | [], _ :: _, h => by cases h
  | _ :: _, [], h => by cases h
  | x :: a, y :: b, h => by
    simp only [sosBeq, Bool.and_eq_true] at h
    have hxy : x = y := by
      rcases SO.beq_eq h.1.1 with hx | hx
      · rcases SO.beq_eq h.1.2 with hy | hy
        · rw [hx, hy]
        · exact hy.symm
      · exact hx
    rw [hxy, sosBeq_eq h.2]
theorem kindsOk_get : ∀ {a b : List SO}, kindsOk a b = true → ∀ (i : Nat) (x : SO), a[i]? = some x → ∃ y, b[i]? = some y ∧ kindOk x y = true
  | [], [], _, i, x, h => by simp at h
  | [], _ :: _, h, _, _, _ => by cases h
  | _ :: _, [], h, _, _, _ => by cases h
  | y :: a, z :: b, h, 0, x, hx => by
    simp only [kindsOk, Bool.and_eq_true] at h
    simp only [List.getElem?_cons_zero, Option.some.injEq] at hx
    subst hx
    exact ⟨z, rfl, h.1⟩
  | y :: a, z :: b, h, i + 1, x, hx => by
    simp only [kindsOk, Bool.and_eq_true] at h
    simp only [List.getElem?_cons_succ] at hx ⊢
    exact kindsOk_get h.2 i x hx
theorem kind_foot {i : Nat} {x y : SO} (h : kindOk x y = true) {k : Nat} (hk : foot ρ i x k) : foot ρ i y k := by
  cases x <;> cases y <;> simp only [kindOk] at h <;> first
    | (cases h; done)
    | (have := A.beq_eq h; subst this; exact hk)
    | exact hk
    | cases hk
end
end Go.SY
