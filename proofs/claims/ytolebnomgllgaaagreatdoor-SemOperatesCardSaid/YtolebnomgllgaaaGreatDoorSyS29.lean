/- The symbolic executor SY, its soundness, part 29: functions. -/
import Derived.Test.YtolebnomgllgaaaGreatDoorSyS28
set_option linter.unusedVariables false
set_option linter.unusedSimpArgs false
namespace Go.SY
open Go Go.RowKit
noncomputable section
variable {F : Nat → List Dt → Post → Prop} {Q : Post} {P : Program}
variable {C : Cfg} {ty : Ty} {pl : Bool} {G : Nat → Prop} {fz0 : Fz} {w0 w w' : World} {ρ ρ' ρ1 ρ1' ρN ρB : Env} {st : St} {d : Bd} {tm : Tm} {a : Act} {QE : Exit → Act → World → Prop} {β : Bt}
theorem get_ofL_lt {α : Type} : ∀ (l : List α) (i : Nat) (t : Tb α) (j : Nat), j < i → i + l.length + 1 < 2 ^ 40 → (Tb.ofL l i t).get j = t.get j
  | [], _, _, _, _, _ => rfl
  | x :: l, i, t, j, hj, hi => by
    simp only [List.length_cons] at hi
    show (Tb.ofL l (i + 1) (t.put i x)).get j = _
    rw [get_ofL_lt l (i + 1) (t.put i x) j (by omega) (by omega)]
    exact Tb.get_set_ne 40 t i x j (by omega) (by omega)
theorem get_ofL_some {α : Type} : ∀ (l : List α) (i : Nat) (t : Tb α) (j : Nat) (x : α), l[j]? = some x → i + l.length + 1 < 2 ^ 40 → (Tb.ofL l i t).get (i + j) = some x
  | [], _, _, _, _, h, _ => by simp at h
  | y :: l, i, t, 0, x, h, hi => by
    simp only [List.length_cons] at hi
    simp at h; subst h
    show (Tb.ofL l (i + 1) (t.put i y)).get i = _
    rw [get_ofL_lt l (i + 1) (t.put i y) i (by omega) (by omega)]
    exact Tb.get_set_same 40 t i y (by omega)
  | y :: l, i, t, j + 1, x, h, hi => by
    simp only [List.length_cons] at hi
    show (Tb.ofL l (i + 1) (t.put i y)).get (i + (j + 1)) = _
    rw [show i + (j + 1) = i + 1 + j by omega]
    exact get_ofL_some l (i + 1) (t.put i y) j x (by simpa using h) (by omega)
theorem ShRL.len {fz : Fz} : ∀ {ss : List Sh} {vs : List Value} {ds : List Dt} {fp : List Nat}, ShRL ty fz w β ss vs ds fp → vs.length = ss.length
  | [], _, _, _, h => by simp only [ShRL] at h; rw [h.1]; rfl
  | s :: ss, _, _, _, h => by
    simp only [ShRL] at h
    obtain ⟨V, vr, cs, d1, d2, f1, f2, rfl, _, _, _, _, h6⟩ := h
    simp [ShRL.len h6]
theorem retVs_ok {ss : List Sh} {v : SV} {ni nb : Nat} (hw : v.wf ni nb = true) (ht : v.ty ρ) : SV.wfs ni nb (retVs ss v) = true ∧ SV.tys ρ (retVs ss v) ∧ ((SV.dens ρ (retVs ss v)).length = ss.length → v.den ρ = tupVal (SV.dens ρ (retVs ss v))) := by
  unfold retVs
  split
  · exact ⟨by simp only [SV.wfs, hw, Bool.and_self], ⟨ht, trivial⟩, fun _ => rfl⟩
  · rename_i l hn
    refine ⟨hw, ht, fun hl => ?_⟩
    rw [dens_length] at hl
    simp only [SV.den, tupVal]
    split
    · rename_i x hx
      have : ss.length = 1 := by rw [← hl, ← dens_length ρ l, hx]; rfl
      obtain ⟨s, rfl⟩ := List.length_eq_one_iff.1 this
      exact absurd rfl (hn s)
    · rfl
  · exact ⟨by simp only [SV.wfs, hw, Bool.and_self], ⟨ht, trivial⟩, fun _ => rfl⟩
theorem retK_ok (hty : TyOk C.P C.ty) {nbl : Nat} {o : Out} {code : Nat} {fz : Fz} {fpT : List Nat} {v : SV} (hN : ∀ j h, β j = some h → j < nbl ∧ ρN.b j = h) (hNb : nbl ≤ ρN.bs.length) (hl : ρN.le ρ') (hm : Md C.ty C.pl (· ∈ fpT) fz w ρ' st w') (hv : v.ty ρ') (hpl : C.pl = false)
    (h : (retK C code nbl o v st).wp C.ty F ρ'.is Q) : ∃ rs, Q code rs ∧ AftR C.ty o nbl β fz fpT w w' (v.den ρ') rs := by
  unfold retK at h
  cases hck : (v.wf st.ni st.nb && Nat.ble nbl o.bl.length && Nat.blt nbl 1000000) <;> rw [hck] at h <;> simp only [Bool.not_true, Bool.not_false, cond_true, cond_false] at h
  · exact h.elim
  · simp only [Bool.and_eq_true] at hck
    have hnbl := ble_nat hck.1.2
    have hsm := blt_nat hck.2
    obtain ⟨k1, k2, k3⟩ := retVs_ok (ss := o.vs) hck.1.1 hv
    split at h
    · exact h.elim
    · rename_i as m1 h1
      split at h
      · exact h.elim
      · rename_i bs m h2
        have hb0 : BmOk st.nb ⟨st.fs, Tb.ofL (List.range nbl) 0 .e, o.bl.length⟩ := by
          intro j b hj
          rcases get_ofL _ _ _ _ _ hj with ⟨_, hj⟩ | hj
          · rw [Nat.sub_zero] at hj
            have hi := (List.getElem?_eq_some_iff.1 hj).1
            have hi2 := (List.getElem?_eq_some_iff.1 hj).2
            simp only [List.length_range] at hi
            simp only [List.getElem_range] at hi2
            subst hi2
            refine ⟨?_, Nat.lt_of_lt_of_le hi hnbl⟩
            rw [← hm.hnb]
            exact Nat.lt_of_lt_of_le hi (Nat.le_trans hNb hl.len_bs)
          · rw [Tb.get_e] at hj; cases hj
        have r1 := (mt_all hty hm.hpw 60).2 h1 hm.fsR hb0 hm.hpc k1 k2
        have r2 := r1.seq ShRL_RMono fun G fz0 w0 ρ'' ρ1' hl hf hb => mtB_ok hty hm.hpw h2 hf hb (PcOk.fl hl hm.hpc)
        obtain ⟨ρ'', ρ1', fp, F1, l1, l2, g1, n1, b1, b2, t1, a1, d1, d2, f1, f2, hd, rfl, q1, q2⟩ := r2
        obtain ⟨hm1, h⟩ := bindF_ok h F1 l1
        simp only [T.wp] at h
        refine ⟨_, h, ρ''.fz, bβ ρ' m.bm, _, d1, d2, f1, f2, hd, k3 q1.len, q1, q2, t1.nd, fun k hk => ⟨(t1.own k hk).1, (t1.own k hk).2.1⟩, fun j hh hj => ?_, fun j hh hj => ?_, hnbl, fun b o ho => l1.fz b o (hm.fzl b o ho), F1.hm.fzw, F1.hm.fzn, F1.hm.below, (F1.hm.hkk.np hpl).1⟩
        · obtain ⟨p1, p2⟩ := hN j hh hj
          have := get_ofL_some (List.range nbl) 0 .e j j (List.getElem?_range p1) (by simp; omega)
          rw [Nat.zero_add] at this
          have := b1 j j this
          simp only [bβ, this, Option.map_some]
          rw [Env.b_app hl (Nat.lt_of_lt_of_le p1 hNb), p2]
        · simp only [bβ, Option.map_eq_some_iff] at hj
          obtain ⟨b, hj, _⟩ := hj
          have := (b2.2 j b hj).2
          rw [b2.1] at this
          exact this
theorem run_ok (H : Hyp C F) (hpl : C.pl = false) {fuel f : Nat} {sig : Sig} {fz : Fz} {vs : List Value} {d1 d2 : List Dt} {f1 f2 : List Nat} (hg : GOk C.ty C.gl fz) (hz : FzIn fz w) (r1 : ShRL C.ty fz w β sig.ins vs d1 f1) (r2 : BlR C.ty fz w β sig.bl 0 d2 f2) (hnd : (f1 ++ f2).Nodup) (hfp : ∀ k ∈ f1 ++ f2, fz k = none ∧ k < w.heap.size)
    (hβl : ∀ j h, β j = some h → j < sig.bl.length) (h : (sxFunc C fuel f sig).wp C.ty F (d1 ++ d2) Q) :
    CallSem C.P f vs.toArray w (fun V w' => ∃ rs, Q 0 rs ∧ AftR C.ty sig.out sig.bl.length β fz (f1 ++ f2) w w' V rs) (fun V w' => ∃ o rs, sig.pan = some o ∧ Q 1 rs ∧ AftR C.ty o sig.bl.length β fz (f1 ++ f2) w w' V rs) := by
  unfold sxFunc at h
  split at h
  · rename_i args st hst
    unfold startOf at hst
    simp only at hst
    have hty : hasTyL C.ty (d1 ++ d2) (Sh.tysL sig.ins ++ ShB.tysL sig.bl) = true := hasTyL_append r1.tys r2.tys
    have hN : (Sh.tysL sig.ins ++ ShB.tysL sig.bl).length = d1.length + d2.length := by rw [← hasTyL_len hty, List.length_append]
    let ρN : Env := ⟨d1 ++ d2, (List.range sig.bl.length).map (fun j => ((β j).getD 0, .pointer none)), fz⟩
    have hNb : ρN.bs.length = sig.bl.length := by simp [ρN]
    have hNi : ρN.is.length = (Sh.tysL sig.ins ++ ShB.tysL sig.bl).length := by simp only [ρN]; rw [List.length_append, hN]
    have hbN : ∀ j h, β j = some h → ρN.b j = h := by
      intro j hh hj
      have := hβl j hh hj
      simp only [Env.b, ρN, List.getD_eq_getElem?_getD, List.getElem?_map, List.getElem?_range this, Option.map_some, Option.getD_some, hj]
    have hbβ : ∀ j b h, (Tb.ofL (List.range sig.bl.length) 0 .e).get j = some b → β j = some h → ρN.b b = h ∧ b < ρN.bs.length := by
      intro j b hh hgt hj
      rcases get_ofL _ _ _ _ _ hgt with ⟨_, q⟩ | q
      · rw [Nat.sub_zero] at q
        have hi := (List.getElem?_eq_some_iff.1 q).1
        have hi2 := (List.getElem?_eq_some_iff.1 q).2
        simp only [List.length_range] at hi
        simp only [List.getElem_range] at hi2
        subst hi2
        exact ⟨hbN _ _ hj, by rw [hNb]; exact hi⟩
      · rw [Tb.get_e] at q; cases q
    have hext : Ext C.ty ρN (.of (Sh.tysL sig.ins ++ ShB.tysL sig.bl).length sig.bl.length) ρN := by
      have := Ext.refl (ty := C.ty) ρN
      rw [hNi, hNb] at this
      exact this
    have hc0 : CrS C.ty w ρN (.of (Sh.tysL sig.ins ++ ShB.tysL sig.bl).length sig.bl.length) ρN [] := ⟨hext, rfl, ⟨fun j e s a h => by simp [Bd.of] at h, fun j g h => by simp [Bd.of] at h, fun j g k h => by simp [Bd.of] at h, fun i j gi gj k h => by simp [Bd.of] at h⟩⟩
    split at hst
    · cases hst
    · rename_i svs c1 hcr
      split at hst
      · cases hst
      · rename_i bs c2 hcb
        cases hck : (Nat.beq c2.n c2.d.ni && Nat.beq c2.d.es.length 0 && SV.wfs c2.d.ni c2.d.nb svs && wfSOs c2.d.ni c2.d.nb (bs.map (·.2)) && wfSOs c2.d.ni c2.d.nb c2.d.gs && wfFs c2.d.ni c2.d.fs) <;> rw [hck] at hst <;> simp only [cond_true, cond_false] at hst
        · cases hst
        · cases hst
          simp only [Bool.and_eq_true] at hck
          have hwv := hck.1.1.1.2
          have hnd0 := hnd
          rw [List.nodup_append] at hnd
          obtain ⟨ρ2, k1, k2, k3, k4, k5, k6⟩ := (cr_all (w := w) hbβ 60).2.2 hcr hc0 r1 (fun j x hj => by
            simp only [ρN]
            rw [Nat.zero_add, List.getElem?_append_left (List.getElem?_eq_some_iff.1 hj).1]
            exact hj) (by simpa using hnd.1)
          obtain ⟨ρ3, fr, fb, m1, m2, m3, m4, m5, m6, m7⟩ := crB_ok (w := w) hbβ hcb k1 r2 (fun j x hj => by
            rw [k3]
            simp only [ρN]
            rw [Nat.zero_add, List.getElem?_append_right (by omega), show d1.length + j - d1.length = j by omega]
            exact hj) (by rw [List.nil_append, List.nodup_append]; exact hnd)
          rw [List.nil_append] at m1
          have hz3 : ρ3.fz = fz := m1.ext.fz
          have hmem1 : ∀ k ∈ f1 ++ fr, k ∈ f1 ++ f2 := fun k hk => (List.mem_append.1 hk).elim (fun hk => List.mem_append_left _ hk) (fun hk => List.mem_append_right _ (m5 k hk))
          have hN3 := newR_of m1 m4 hmem1 (fun k hk => List.mem_append_right _ (m6 k hk)) (fun k hk hkb => (List.mem_append.1 hk).elim (fun hk => hnd.2.2 k hk k (m6 k hkb) rfl) (fun hk => m7 k hk hkb))
          have hm0 : Md C.ty C.pl (· ∈ f1 ++ f2) fz w ρN ⟨.e, sig.bl.length, (Sh.tysL sig.ins ++ ShB.tysL sig.bl).length, [], []⟩ w :=
            ⟨Belw.refl _ _, hNi, hNb, (fun p hp => nomatch hp), (fun p hp => nomatch hp), hz, fun _ _ h => h, fun k h1 h2 => absurd h2 h1, (fun i o hi => by rw [Tb.get_e] at hi; cases hi), (fun i o k hi => by rw [Tb.get_e] at hi; cases hi), (fun i j oi oj k hi => by rw [Tb.get_e] at hi; cases hi), HkP.nil⟩
          have hT : Taken (· ∈ f1 ++ f2) w w ρN (.e : Tb SO) (f1 ++ f2) := ⟨hnd0, fun k hk => ⟨.inr hk, hfp k hk⟩, fun k hk => by rintro ⟨i, o, hi, _⟩; rw [Tb.get_e] at hi; cases hi⟩
          have hmd := hm0.create (w' := w) (df := []) hT (Belw.refl _ _) m1.ext.le (by rw [hz3]; exact hz) (fun k h1 h2 => absurd h2 (by rw [hz3] at h1; exact h1)) m1.ext.len m1.ext.lenb m1.ext.fs m1.ext.fw hN3 (fun k hk => ⟨.inr hk, by rw [hz3]; exact (hfp k hk).1⟩) (mem := bs.foldl (fun m x => m.put x.1 x.2) (pushG .e sig.bl.length c2.d.gs)) (fun i so hi => by
            rcases get_foldl hi with hi | hi
            · exact .inl (.inl hi)
            · rcases get_pushG _ _ _ _ _ hi with ⟨q1, q2⟩ | hi
              · exact .inl (.inr ⟨by rw [hNb]; exact q1, by rw [hNb]; exact q2⟩)
              · exact .inr hi) (hm0.hkk.create m1.ext.le (fun i so hi => by rw [Tb.get_e] at hi; cases hi) (fun n => by rw [hz3]) fun i so hi => by
            rcases get_foldl hi with hi | hi
            · exact .inl (crB_np hcb _ hi)
            · rcases get_pushG _ _ _ _ _ hi with ⟨_, q2⟩ | hi
              · exact .inl (CrS.np m1 (List.mem_of_getElem? q2))
              · exact .inr hi)
          rw [List.append_nil] at hmd
          have hwv2 : SV.wfs ρ2.is.length ρ2.bs.length args = true := by rw [k1.ext.len, k1.ext.lenb]; exact k6
          have hdens : SV.dens ρ3 args = vs := by rw [SV.dens_app m2 hwv2, k4]
          have hg3 : GOk C.ty C.gl fz := hg
          have his : ρ3.is = d1 ++ d2 := m1.is
          rw [← his] at h
          unfold sxRun at h
          split at h
          · rename_i fn hf
            split at h
            · rename_i c hb
              cases hn : (fn.name == "runtime.NumGoroutine") <;> rw [hn] at h <;> simp only [cond_true, cond_false] at h
              · rw [← hdens]
                refine .inl ⟨run_callFunc_enter hf hb hn w, calls_of_wp_defers hf hb ?_⟩
                obtain ⟨s1, s2, s3, s4⟩ := sx_all H fuel
                refine (s1 0 f c _ _ _ ρ3 w _ (bodyPostD C.P fn _) _ fz w Q hg3 hmd (frame_ok (st := ⟨_, c2.d.nb, c2.d.ni, c2.d.fs, []⟩) hwv (SV.tys_app m2 hwv2 k5)) trivial (fun fn' hf' => ?_) h fun e ρ' st' w' tm' a' hle hm' ht' hdf' hsz hok hd => ?_).1
                · rw [hf] at hf'; cases hf'
                  simp; omega
                · have hlN : ρN.le ρ' := Env.le_trans m1.ext.le hle
                  have hk1 : KVn C.ty C.pl F Q (· ∈ f1 ++ f2) fz w ρ' (fun V w' => ∃ rs, Q 0 rs ∧ AftR C.ty sig.out sig.bl.length β fz (f1 ++ f2) w w' V rs) (retK C 0 sig.bl.length sig.out) := fun ρ'' st'' w'' v hl hm'' hv hd => retK_ok H.ty (ρN := ρN) (fun j hh hj => ⟨hβl j hh hj, hbN j hh hj⟩) (by rw [hNb]; exact Nat.le_refl _) (Env.le_trans hlN hl) hm'' hv hpl hd
                  have hk2 : KPn C.ty C.pl F Q (· ∈ f1 ++ f2) fz w ρ' (fun V w' => ∃ o rs, sig.pan = some o ∧ Q 1 rs ∧ AftR C.ty o sig.bl.length β fz (f1 ++ f2) w w' V rs) (match sig.pan with
                      | some o => retK C 1 sig.bl.length o
                      | none => fun _ _ => .fail 357) := fun ρ'' st'' w'' v hl hm'' hv hwf hd => by
                    cases hp : sig.pan with
                    | none => rw [hp] at hd; exact hd.elim
                    | some o =>
                      rw [hp] at hd
                      obtain ⟨rs, q1, q2⟩ := retK_ok H.ty (ρN := ρN) (fun j hh hj => ⟨hβl j hh hj, hbN j hh hj⟩) (by rw [hNb]; exact Nat.le_refl _) (Env.le_trans hlN hl) hm'' hv hpl hd
                      exact ⟨o, rs, rfl, q1, q2⟩
                  cases e with
                  | norm => exact s4 0 fn tm' none st'.df st' _ _ ρ' w' a' a'.defers .returning _ _ _ fz w Q hg3 hm' ht' hdf' rfl hd hk1 hk2
                  | ret => exact s4 0 fn tm' none st'.df st' _ _ ρ' w' a' a'.defers .returning _ _ _ fz w Q hg3 hm' ht' hdf' rfl hd hk1 hk2
                  | exit i => exact hd.elim
                  | panic v => exact s4 0 fn tm' (some v) st'.df st' _ _ ρ' w' a' a'.defers _ _ _ _ fz w Q hg3 hm' ht' hdf' ⟨hok.2, hok.1, rfl⟩ hd hk1 hk2
              · exact h.elim
            · exact h.elim
          · exact h.elim
  · exact h.elim
end
end Go.SY
