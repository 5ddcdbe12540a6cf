/- The symbolic executor SY, its soundness, part 24: new letters by shapes. -/
import Derived.Test.YtolebnomgllgaaaGreatDoorSyS23
set_option linter.unusedVariables false
set_option linter.unusedSimpArgs false
namespace Go.SY
open Go Go.RowKit
noncomputable section
variable {F : Nat → List Dt → Post → Prop} {Q : Post} {P : Program}
variable {C : Cfg} {ty : Ty} {pl : Bool} {G : Nat → Prop} {fz0 : Fz} {w0 w w' : World} {ρ ρ' ρ1 ρ1' ρN : Env} {st : St} {d : Bd} {tm : Tm} {a : Act}
theorem blt_of {a b : Nat} (h : a < b) : Nat.blt a b = true := Nat.ble_eq_true_of_le h
mutual
theorem tyC_ok : ∀ {v : SV}, v.tyC = true → ∀ ρ, v.ty ρ
  | .int k a, h, ρ => by
    cases a <;> simp only [SV.tyC] at h <;> first | cases h; done | skip
    simp only [Bool.and_eq_true, decide_eq_true_eq] at h
    exact ⟨_, rfl, h.1, h.2⟩
  | .bool b, h, ρ => by
    cases b <;> simp only [SV.tyC] at h <;> first | cases h; done | skip
    trivial
  | .str a, h, ρ => by
    cases a with
    | d x =>
      cases x <;> simp only [SV.tyC] at h <;> first | cases h; done | skip
      exact ⟨_, rfl, of_decide_eq_true h⟩
    | _ => simp only [SV.tyC] at h; cases h
  | .fn _ a b, h, ρ => by
    simp only [SV.tyC, Bool.and_eq_true] at h
    exact ⟨tysC_ok h.1 ρ, tysC_ok h.2 ρ⟩
  | .agg l, h, ρ => by simp only [SV.tyC] at h; exact tysC_ok h ρ
  | .tup l, h, ρ => by simp only [SV.tyC] at h; exact tysC_ok h ρ
  | .iface _ v, h, ρ => by simp only [SV.tyC] at h; exact tyC_ok h ρ
  | .gd _ _ _, h, ρ => by simp only [SV.tyC] at h; cases h
  | .sl _, _, _ | .pt _, _, _ | .map _, _, _ | .ptr _ _, _, _ | .gptr _ _, _, _ | .rp _ _ _ _ _, _, _ | .nilp, _, _ | .nilsl, _, _ | .nilmap, _, _ | .nilfn, _, _ | .niliface, _, _ | .slice _ _ _ _, _, _ | .bot, _, _ => by simp only [SV.ty]
theorem tysC_ok : ∀ {l : List SV}, SV.tysC l = true → ∀ ρ, SV.tys ρ l
  | [], _, _ => trivial
  | v :: l, h, ρ => by
    simp only [SV.tysC, Bool.and_eq_true] at h
    exact ⟨tyC_ok h.1 ρ, tysC_ok h.2 ρ⟩
end
theorem partL_wf {t : TypeId} {cs : List SV} {off : Nat} {v : SV} (h : partL ty t cs off = some v) {ni nb : Nat} (hw : SV.wfs ni nb cs = true) (ha : allCell cs = true) : v.wf ni nb = true := by
  unfold partL at h
  split at h
  · cases h
  · rename_i i hi
    cases hb : i.d.agg <;> rw [hb] at h <;> simp only [cond_true, cond_false] at h
    · rw [nth_eq] at h
      exact wfs_mem hw v (List.mem_of_getElem? h)
    · split at h <;> cases h
      rename_i l hl
      obtain ⟨m1, _⟩ := take_mem hl
      simp only [SV.wf, Bool.and_eq_true]
      exact ⟨wfs_of_mem fun v hv => wfs_mem hw v (m1 v hv), allCell_of_mem fun v hv => allCell_mem ha v (m1 v hv)⟩
def GhX (d d' : Bd) : Prop := d'.es = d.es ∧ ∃ g, d'.gs = d.gs ++ g ∧ allGh g = true
theorem allGh_append : ∀ {l m : List SO}, allGh l = true → allGh m = true → allGh (l ++ m) = true
  | [], _, _, h => h
  | x :: l, m, h, h' => by
    simp only [allGh, Bool.and_eq_true, List.cons_append] at h ⊢
    exact ⟨h.1, allGh_append h.2 h'⟩
theorem GhX.refl (d : Bd) : GhX d d := ⟨rfl, [], by simp, rfl⟩
theorem GhX.trans {a b c : Bd} (h : GhX a b) (k : GhX b c) : GhX a c := by
  obtain ⟨h1, g, h2, h3⟩ := h
  obtain ⟨k1, g', k2, k3⟩ := k
  exact ⟨k1.trans h1, g ++ g', by rw [k2, h2, List.append_assoc], allGh_append h3 k3⟩
theorem mk_gs (n : Nat) :
    (∀ {t : TypeId} {a : A} {c : B} {d d' : Bd} {l : List SV}, mkD ty n t a c d = some (l, d') → GhX d d') ∧
    (∀ {fs : List (Nat × Nat × Nat)} {a : A} {i off : Nat} {c : B} {d d' : Bd} {l : List SV}, mkDF ty n fs a i off c d = some (l, d') → GhX d d') ∧
    (∀ {m : Nat} {e : TypeId} {s : Nat} {a : A} {i : Nat} {c : B} {d d' : Bd} {l : List SV}, mkDA ty n m e s a i c d = some (l, d') → GhX d d') := by
  induction n with
  | zero => exact ⟨fun h => by simp [mkD] at h, fun h => by simp [mkDF] at h, fun h => by simp [mkDA] at h⟩
  | succ n ih =>
    have size : ∀ {t : TypeId} {r : Option (List SV × Bd)} {l : List SV} {d d' : Bd}, sizeIs ty t r = some (l, d') → (∀ l d1, r = some (l, d1) → GhX d d1) → GhX d d' := by
      intro t r l d d' h hr
      unfold sizeIs at h
      split at h
      · rename_i l1 d1 z hz
        cases hb : Nat.beq l1.length z <;> rw [hb] at h <;> simp only [cond_true, cond_false] at h <;> cases h
        exact hr _ _ rfl
      · cases h
    refine ⟨?_, ?_, ?_⟩
    · intro t a c d d' l h
      simp only [mkD] at h
      split at h
      · cases h; exact .refl _
      · cases h; exact .refl _
      · cases h; exact .refl _
      · cases h
        unfold newVal
        split
        · exact .refl _
        · exact ⟨rfl, _, rfl, rfl⟩
      · cases h
        exact ⟨rfl, _, rfl, rfl⟩
      · rename_i fs _ _
        refine size h fun l1 d1 h1 => ?_
        have := ih.2.1 h1
        have hs : GhX d (shpFact c a fs.length d) := by
          unfold shpFact
          split
          · cases a.lit
            · exact ⟨rfl, [], by simp [Bd.fact], rfl⟩
            · exact .refl _
          · exact .refl _
        exact hs.trans this
      · exact size h fun l1 d1 h1 => ih.2.2 h1
      · cases h
    · intro fs a i off c d d' l h
      cases fs with
      | nil => simp only [mkDF] at h; cases h; exact .refl _
      | cons f fs =>
        simp only [mkDF] at h
        split at h
        · rename_i l1 d1 h1
          cases hb : (Nat.beq f.2.1 off && Nat.beq l1.length f.2.2) <;> rw [hb] at h <;> simp only [cond_true, cond_false] at h
          · cases h
          · split at h
            · rename_i r d2 h2
              cases h
              exact (ih.1 h1).trans (ih.2.1 h2)
            · cases h
        · cases h
    · intro m e s a i c d d' l h
      cases m with
      | zero => simp only [mkDA] at h; cases h; exact .refl _
      | succ m =>
        simp only [mkDA] at h
        split at h
        · rename_i l1 d1 h1
          cases hb : Nat.beq l1.length s <;> rw [hb] at h <;> simp only [cond_true, cond_false] at h
          · cases h
          · split at h
            · rename_i r d2 h2
              cases h
              exact (ih.1 h1).trans (ih.2.2 h2)
            · cases h
        · cases h
theorem Ext.ghostB (h : Ext ty ρ d ρ1) {so : SO} {b : Nat} {v : Value} (hv : one1 v = v) (hw : so.wf d.ni d.nb = true)
    (ho : GhOk ty { ρ1 with bs := ρ1.bs ++ [(b, v)] } d.nb so) :
    Ext ty ρ (d.ghost so).2 { ρ1 with bs := ρ1.bs ++ [(b, v)] } ∧ ρ1.le { ρ1 with bs := ρ1.bs ++ [(b, v)] } ∧ ({ ρ1 with bs := ρ1.bs ++ [(b, v)] } : Env).val d.nb = v ∧ ({ ρ1 with bs := ρ1.bs ++ [(b, v)] } : Env).b d.nb = b := by
  have hle : ρ1.le { ρ1 with bs := ρ1.bs ++ [(b, v)] } := ⟨⟨[], by simp⟩, ⟨_, rfl⟩, fun _ _ h => h⟩
  have hval : ({ ρ1 with bs := ρ1.bs ++ [(b, v)] } : Env).val d.nb = v := by
    simp [Env.val, ← h.lenb, hv]
  refine ⟨⟨h.ni, ?_, h.is, ?_, h.fz, h.et, ?_, ?_, h.fw, PcOk.app hle (by rw [h.len]; exact h.fw) h.fs⟩, hle, hval, by simp [Env.b, ← h.lenb]⟩
  · simp only [Bd.ghost, List.length_append, List.length_singleton, h.nb]; omega
  · obtain ⟨y, hy, hyl⟩ := h.bs
    exact ⟨y ++ [(b, v)], by simp [hy], by simp [Bd.ghost, hyl]⟩
  · intro g hg
    simp only [Bd.ghost, List.mem_append, List.mem_singleton] at hg
    rcases hg with hg | rfl
    · exact SO.wf_mono (Nat.le_refl _) (Nat.le_succ _) (h.gw g hg)
    · exact SO.wf_mono (Nat.le_refl _) (Nat.le_succ _) hw
  · intro j g hg
    simp only [Bd.ghost] at hg
    by_cases hj : j < d.gs.length
    · rw [List.getElem?_append_left hj] at hg
      have hb : ρ.bs.length + j < ρ1.bs.length := by rw [h.lenb, h.nb]; omega
      exact GhOk.app hle hb (by rw [h.len, h.lenb]; exact h.gw g (List.mem_of_getElem? hg)) (h.gs j g hg)
    · rw [List.getElem?_append_right (by omega)] at hg
      have h0 : j - d.gs.length = 0 := by
        have := (List.getElem?_eq_some_iff.1 hg).1
        simp at this; omega
      rw [h0] at hg
      simp only [List.getElem?_cons_zero, Option.some.injEq] at hg
      subst hg
      have : ρ.bs.length + j = d.nb := by rw [h.nb]; omega
      rw [this]
      exact ho
structure GsR (ty : Ty) (fz : Fz) (w : World) (ρ1 : Env) (nb : Nat) (gs : List SO) (fp : List Nat) : Prop where
  row : ∀ (j : Nat) (e s : Nat) (a : A), gs[j]? = some (.rowd e s a) → RowOk ty fz w e s (a.den ρ1.is) (ρ1.val (nb + j))
  kind : ∀ (j : Nat) (g : SO), gs[j]? = some g → g.gh = true ∨ ∃ e s a, g = SO.rowd e s a
  mem : ∀ (j : Nat) (g : SO) (k : Nat), gs[j]? = some g → foot ρ1 (nb + j) g k → k ∈ fp
  inj : ∀ (i j : Nat) (gi gj : SO) (k : Nat), gs[i]? = some gi → gs[j]? = some gj → foot ρ1 (nb + i) gi k → foot ρ1 (nb + j) gj k → i = j
structure CrS (ty : Ty) (w : World) (ρN : Env) (d : Bd) (ρ1 : Env) (fp0 : List Nat) : Prop where
  ext : Ext ty ρN d ρ1
  es : d.es = []
  gs : GsR ty ρN.fz w ρ1 ρN.bs.length d.gs fp0
theorem CrS.is {fp : List Nat} (h : CrS ty w ρN d ρ1 fp) : ρ1.is = ρN.is := by rw [h.ext.is, h.es]; rfl
theorem GsR.app {fz : Fz} {nb : Nat} {gs g : List SO} {fp : List Nat} (h : GsR ty fz w ρ1 nb gs fp) (hl : ρ1.le ρ1') (hlen : ρ1.bs.length = nb + gs.length) (hw : ∀ x ∈ gs, x.wf ρ1.is.length ρ1.bs.length = true) (hg : allGh g = true) : GsR ty fz w ρ1' nb (gs ++ g) fp := by
  have old : ∀ {j : Nat} {x : SO}, gs[j]? = some x → foot ρ1' (nb + j) x = foot ρ1 (nb + j) x := by
    intro j x hx
    have := (List.getElem?_eq_some_iff.1 hx).1
    exact foot_app' hl (by omega) x fun e s a he => by
      subst he
      rcases h.kind j _ hx with h | ⟨_, _, _, h⟩ <;> cases h
  have new : ∀ {j : Nat} {x : SO}, (gs ++ g)[j]? = some x → gs[j]? = some x ∨ x.gh = true := by
    intro j x hx
    by_cases hj : j < gs.length
    · rw [List.getElem?_append_left hj] at hx; exact .inl hx
    · rw [List.getElem?_append_right (by omega)] at hx
      exact .inr (allGh_mem hg x (List.mem_of_getElem? hx))
  have nof : ∀ {x : SO} {i k : Nat}, x.gh = true → foot ρ1' i x k → False := by
    intro x i k hx hk
    cases x <;> first | cases hx; done | cases hk
  refine ⟨fun j e s a hj => ?_, fun j x hj => ?_, fun j x k hj hk => ?_, fun i j gi gj k hi hj hki hkj => ?_⟩
  · rcases new hj with hj | hj
    · have hlt := (List.getElem?_eq_some_iff.1 hj).1
      have := h.row j e s a hj
      have hwa := hw _ (List.mem_of_getElem? hj)
      simp only [SO.wf] at hwa
      rw [Env.A_app hl hwa, Env.val_app hl (by omega)]
      exact this
    · cases hj
  · rcases new hj with hj | hj
    · exact h.kind j x hj
    · exact .inl hj
  · rcases new hj with hj | hj
    · rw [old hj] at hk; exact h.mem j x k hj hk
    · exact (nof hj hk).elim
  · rcases new hi with hi | hi
    · rcases new hj with hj | hj
      · rw [old hi] at hki; rw [old hj] at hkj; exact h.inj i j gi gj k hi hj hki hkj
      · exact (nof hj hkj).elim
    · exact (nof hi hki).elim
variable {bm : Tb Nat} {β : Bt}
theorem val_one {s : Sh} {V : Value} {cs : List Value} (hv : s.val ty V cs) (hs : ∀ t, s ≠ .dat t) (hs' : ∀ t x, s ≠ .lit t x) : cs = [V] := by
  cases s <;> first | exact hv | exact absurd rfl (hs _) | exact absurd rfl (hs' _ _)
theorem cr_all (hβ : ∀ j b h, bm.get j = some b → β j = some h → ρN.b b = h ∧ b < ρN.bs.length) (n : Nat) :
    (∀ {s : Sh} {c c' : Cr} {l : List SV} {cs : List Value} {ds : List Dt} {fp0 fp : List Nat} {ρ1 : Env}, crC ty bm n s c = some (l, c') → CrS ty w ρN c.d ρ1 fp0 → ShR ty ρN.fz w β s cs ds fp → (∀ j x, ds[j]? = some x → ρN.is[c.n + j]? = some x) → (fp0 ++ fp).Nodup →
      ∃ ρ1', CrS ty w ρN c'.d ρ1' (fp0 ++ fp) ∧ ρ1.le ρ1' ∧ c'.n = c.n + ds.length ∧ SV.dens ρ1' l = cs ∧ SV.tys ρ1' l ∧ SV.wfs c'.d.ni c'.d.nb l = true ∧ allCell l = true) ∧
    (∀ {s : Sh} {c c' : Cr} {v : SV} {V : Value} {cs : List Value} {ds : List Dt} {fp0 fp : List Nat} {ρ1 : Env}, crV ty bm n s c = some (v, c') → CrS ty w ρN c.d ρ1 fp0 → s.val ty V cs → ShR ty ρN.fz w β s cs ds fp → (∀ j x, ds[j]? = some x → ρN.is[c.n + j]? = some x) → (fp0 ++ fp).Nodup →
      ∃ ρ1', CrS ty w ρN c'.d ρ1' (fp0 ++ fp) ∧ ρ1.le ρ1' ∧ c'.n = c.n + ds.length ∧ v.den ρ1' = V ∧ v.ty ρ1' ∧ v.wf c'.d.ni c'.d.nb = true) ∧
    (∀ {ss : List Sh} {c c' : Cr} {l : List SV} {vs : List Value} {ds : List Dt} {fp0 fp : List Nat} {ρ1 : Env}, crL ty bm n ss c = some (l, c') → CrS ty w ρN c.d ρ1 fp0 → ShRL ty ρN.fz w β ss vs ds fp → (∀ j x, ds[j]? = some x → ρN.is[c.n + j]? = some x) → (fp0 ++ fp).Nodup →
      ∃ ρ1', CrS ty w ρN c'.d ρ1' (fp0 ++ fp) ∧ ρ1.le ρ1' ∧ c'.n = c.n + ds.length ∧ SV.dens ρ1' l = vs ∧ SV.tys ρ1' l ∧ SV.wfs c'.d.ni c'.d.nb l = true) := by
  induction n with
  | zero => exact ⟨fun h => by simp [crC] at h, fun h => by simp [crV] at h, fun h => by simp [crL] at h⟩
  | succ n ih =>
    refine ⟨?_, ?_, ?_⟩
    · intro s c c' l cs ds fp0 fp ρ1 h hc hr hd hnd
      simp only [crC] at h
      split at h
      ·
        rename_i t
        split at h
        · rename_i l1 d1 hmk
          cases h
          simp only [ShR] at hr
          obtain ⟨rfl, x, rfl, hrep⟩ := hr
          have hx := hd 0 x rfl
          rw [Nat.add_zero] at hx
          have hlt := (List.getElem?_eq_some_iff.1 hx).1
          have hxd : (A.v c.n).den ρ1.is = x := by
            rw [hc.is]
            simp only [A.den, List.getD_eq_getElem?_getD, hx, Option.getD_some]
          obtain ⟨ρ2, g1, g2, g3, g4, g5⟩ := (mk_all (ty := ty) (ρ := ρN) 60).1 hmk hc.ext (cs := cs) (by
            simp only [A.wf]
            rw [hc.ext.ni]
            exact blt_of (by omega)) rfl (fun _ => by rw [hxd]; exact hrep)
          obtain ⟨x1, g, x2, x3⟩ := (mk_gs 60).1 hmk
          obtain ⟨t1, t2⟩ := g3 rfl
          refine ⟨ρ2, ⟨g1, by rw [x1]; exact hc.es, ?_⟩, g2, rfl, t1, t2, g4, g5⟩
          rw [x2, List.append_nil]
          exact hc.gs.app g2 (by rw [hc.ext.lenb, hc.ext.nb]) (by rw [hc.ext.len, hc.ext.lenb]; exact hc.ext.gw) x3
        · cases h
      ·
        rename_i t x
        split at h
        · rename_i l1 d1 hmk
          cases h
          simp only [ShR] at hr
          obtain ⟨rfl, rfl, hrep⟩ := hr
          obtain ⟨ρ2, g1, g2, g3, g4, g5⟩ := (mk_all (ty := ty) (ρ := ρN) 60).1 hmk hc.ext (cs := cs) (lit_ofDt _ _) rfl (fun _ => by rw [den_ofDt]; exact hrep)
          obtain ⟨x1, g, x2, x3⟩ := (mk_gs 60).1 hmk
          obtain ⟨t1, t2⟩ := g3 rfl
          refine ⟨ρ2, ⟨g1, by rw [x1]; exact hc.es, ?_⟩, g2, rfl, t1, t2, g4, g5⟩
          rw [x2, List.append_nil]
          exact hc.gs.app g2 (by rw [hc.ext.lenb, hc.ext.nb]) (by rw [hc.ext.len, hc.ext.lenb]; exact hc.ext.gw) x3
        · cases h
      ·
        rename_i t
        split at h
        · rename_i e s hel
          cases h
          simp only [ShR] at hr
          obtain ⟨x, V, e', s', rfl, rfl, rfl, hel', hrow⟩ := hr
          rw [hel] at hel'
          cases hel'
          have hx := hd 0 x rfl
          rw [Nat.add_zero] at hx
          have hlt := (List.getElem?_eq_some_iff.1 hx).1
          have hxd : (A.v c.n).den ρ1.is = x := by
            rw [hc.is]
            simp only [A.den, List.getD_eq_getElem?_getD, hx, Option.getD_some]
          have hwa : (A.v c.n).wf c.d.ni = true := by
            simp only [A.wf]
            rw [hc.ext.ni]
            exact blt_of (by omega)
          have hval : ({ ρ1 with bs := ρ1.bs ++ [(V.ownBlock.getD 0, V)] } : Env).val c.d.nb = V := by
            simp [Env.val, ← hc.ext.lenb, hrow.one1]
          have hbb : ({ ρ1 with bs := ρ1.bs ++ [(V.ownBlock.getD 0, V)] } : Env).b c.d.nb = V.ownBlock.getD 0 := by
            simp [Env.b, ← hc.ext.lenb]
          obtain ⟨g1, g2, g3, g4⟩ := hc.ext.ghostB (so := .rowd e s (.v c.n)) (b := V.ownBlock.getD 0) hrow.one1 hwa (by
            simp only [GhOk]
            rw [hval, hbb, hxd]
            rcases hrow with ⟨h1, h2⟩ | ⟨L, b, cap, xs, h1, h2, h3, h4⟩
            · exact .inl ⟨h1, h2⟩
            · refine .inr ⟨L, cap, h1, by rw [h2]; rfl, ?_⟩
              rcases h3.2 with ⟨q1, _⟩ | ⟨g, c, cur, q5, q6, q7, q8, q9, _⟩
              · rw [h2] at q1; cases q1
              · have : c ≤ 9223372036854775807 := q9
                omega)
          have hold := hc.gs.app (g := []) g2 (by rw [hc.ext.lenb, hc.ext.nb]) (by rw [hc.ext.len, hc.ext.lenb]; exact hc.ext.gw) rfl
          rw [List.append_nil] at hold
          have hnb : ρN.bs.length + c.d.gs.length = c.d.nb := hc.ext.nb.symm
          have hft : ∀ k, foot { ρ1 with bs := ρ1.bs ++ [(V.ownBlock.getD 0, V)] } c.d.nb (.rowd e s (.v c.n)) k = (V.ownBlock = some k) := fun k => by simp only [foot, g3]
          have nw : ∀ {j : Nat} {y : SO}, (c.d.gs ++ [SO.rowd e s (.v c.n)])[j]? = some y → c.d.gs[j]? = some y ∨ (ρN.bs.length + j = c.d.nb ∧ y = .rowd e s (.v c.n) ∧ j = c.d.gs.length) := by
            intro j y hy
            by_cases hj : j < c.d.gs.length
            · rw [List.getElem?_append_left hj] at hy; exact .inl hy
            · rw [List.getElem?_append_right (by omega)] at hy
              have h0 : j - c.d.gs.length = 0 := by
                have := (List.getElem?_eq_some_iff.1 hy).1
                simp at this; omega
              rw [h0] at hy
              simp only [List.getElem?_cons_zero, Option.some.injEq] at hy
              exact .inr ⟨by omega, hy.symm, by omega⟩
          rw [List.nodup_append] at hnd
          refine ⟨_, ⟨g1, hc.es, ?_⟩, g2, rfl, by simp only [SV.dens, SV.den]; rw [show (c.d.ghost (.rowd e s (.v c.n))).1 = c.d.nb from rfl, g3], ⟨trivial, trivial⟩, by simp only [SV.wfs, SV.wf, Bool.and_true]; exact blt_of (Nat.lt_succ_self _), rfl⟩
          refine ⟨fun j e' s' a' hj => ?_, fun j y hj => ?_, fun j y k hj hk => ?_, fun i j yi yj k hi hj hki hkj => ?_⟩
          · rcases nw hj with hj | ⟨q1, q2, _⟩
            · exact hold.row j e' s' a' hj
            · cases q2
              rw [q1, g3, hxd]; exact hrow
          · rcases nw hj with hj | ⟨q1, q2, _⟩
            · exact hold.kind j y hj
            · exact .inr ⟨_, _, _, q2⟩
          · rcases nw hj with hj | ⟨q1, q2, _⟩
            · exact List.mem_append_left _ (hold.mem j y k hj hk)
            · subst q2
              rw [q1, hft] at hk
              exact List.mem_append_right _ (by rw [hk]; simp)
          · rcases nw hi with hi | ⟨q1, q2, q3⟩
            · rcases nw hj with hj | ⟨p1, p2, p3⟩
              · exact hold.inj i j yi yj k hi hj hki hkj
              · subst p2
                rw [p1, hft] at hkj
                exact absurd rfl (hnd.2.2 k (hold.mem i yi k hi hki) k (by rw [hkj]; simp))
            · rcases nw hj with hj | ⟨p1, p2, p3⟩
              · subst q2
                rw [q1, hft] at hki
                exact absurd rfl (hnd.2.2 k (hold.mem j yj k hj hkj) k (by rw [hki]; simp))
              · omega
        · cases h
      ·
        rename_i j
        split at h
        · rename_i b hb
          cases h
          simp only [ShR] at hr
          obtain ⟨rfl, rfl, h, h1, rfl⟩ := hr
          obtain ⟨q1, q2⟩ := hβ j b h hb h1
          have hlt : b < ρ1.bs.length := Nat.lt_of_lt_of_le q2 hc.ext.le.len_bs
          refine ⟨ρ1, by rw [List.append_nil]; exact hc, Env.le_refl _, rfl, ?_, ⟨trivial, trivial⟩, ?_, rfl⟩
          · simp only [SV.dens, SV.den]
            rw [Env.b_app hc.ext.le q2, q1]
          · simp only [SV.wfs, SV.wf, Bool.and_true]
            rw [← hc.ext.lenb]; exact blt_of hlt
        · cases h
      · rename_i j
        split at h
        · rename_i b hb
          cases h
          simp only [ShR] at hr
          obtain ⟨rfl, rfl, h, h1, rfl⟩ := hr
          obtain ⟨q1, q2⟩ := hβ j b h hb h1
          have hlt : b < ρ1.bs.length := Nat.lt_of_lt_of_le q2 hc.ext.le.len_bs
          refine ⟨ρ1, by rw [List.append_nil]; exact hc, Env.le_refl _, rfl, ?_, ⟨trivial, trivial⟩, ?_, rfl⟩
          · simp only [SV.dens, SV.den]
            rw [Env.b_app hc.ext.le q2, q1]
          · simp only [SV.wfs, SV.wf, Bool.and_true]
            rw [← hc.ext.lenb]; exact blt_of hlt
        · cases h
      ·
        rename_i v
        cases hk : (v.wf 0 0 && v.cell && v.tyC) <;> rw [hk] at h <;> simp only [cond_true, cond_false] at h <;> cases h
        simp only [Bool.and_eq_true] at hk
        simp only [ShR] at hr
        obtain ⟨rfl, rfl, h1, rfl⟩ := hr
        refine ⟨ρ1, by rw [List.append_nil]; exact hc, Env.le_refl _, rfl, ?_, ⟨tyC_ok hk.2 _, trivial⟩, ?_, ?_⟩
        · simp only [SV.dens]
          rw [SV.den_app (E0_le ρ1) h1]
        · simp only [SV.wfs, Bool.and_true]
          exact SV.wf_mono (Nat.zero_le _) (Nat.zero_le _) h1
        · simp only [allCell, hk.1.2, Bool.and_self]
      ·
        rename_i f fi ca
        split at h
        · rename_i a c1 h1
          split at h
          · rename_i b c2 h2
            cases h
            simp only [ShR] at hr
            obtain ⟨va, vb, d1, d2, f1, f2, rfl, rfl, rfl, r1, r2⟩ := hr
            rw [← List.append_assoc] at hnd
            obtain ⟨ρ2, k1, k2, k3, k4, k5, k6⟩ := ih.2.2 h1 hc r1 (fun j x hj => hd j x (by rw [List.getElem?_append_left (List.getElem?_eq_some_iff.1 hj).1]; exact hj)) (List.nodup_append.1 hnd).1
            obtain ⟨ρ3, m1, m2, m3, m4, m5, m6⟩ := ih.2.2 h2 k1 r2 (fun j x hj => by
              rw [k3, Nat.add_assoc]
              exact hd (d1.length + j) x (by rw [List.getElem?_append_right (by omega)]; simpa using hj)) hnd
            have hwa : SV.wfs ρ2.is.length ρ2.bs.length a = true := by rw [k1.ext.len, k1.ext.lenb]; exact k6
            have hmn := k1.ext.mono_ni m1.ext m2
            refine ⟨ρ3, by rw [← List.append_assoc]; exact m1, Env.le_trans k2 m2, by rw [m3, k3, List.length_append]; omega, ?_, ⟨⟨SV.tys_app m2 hwa k5, m5⟩, trivial⟩, ?_, rfl⟩
            · simp only [SV.dens, SV.den, SV.dens_app m2 hwa, k4, m4]
            · simp only [SV.wfs, SV.wf, Bool.and_true, SV.wfs_mono hmn.1 hmn.2 k6, m6, Bool.and_self]
          · cases h
        · cases h
      ·
        rename_i t s
        split at h
        · rename_i v c1 h1
          cases h
          simp only [ShR] at hr
          obtain ⟨V, cs', rfl, r1, r2⟩ := hr
          obtain ⟨ρ2, k1, k2, k3, k4, k5, k6⟩ := ih.2.1 h1 hc r1 r2 hd hnd
          refine ⟨ρ2, k1, k2, k3, by simp only [SV.dens, SV.den, k4], ⟨k5, trivial⟩, by simp only [SV.wfs, SV.wf, Bool.and_true, k6], rfl⟩
        · cases h
    · intro s c c' v V cs ds fp0 fp ρ1 h hc hv hr hd hnd
      simp only [crV] at h
      split at h
      · rename_i l c1 h1
        obtain ⟨ρ2, k1, k2, k3, k4, k5, k6, k7⟩ := ih.1 h1 hc hr hd hnd
        have agg : ∀ {t : TypeId} {x : Dt} {v' : SV}, ofCells ty t l = some v' → rep ty ρN.fz x t cs → (if aggB ty t = true then V = .agg cs.toArray else cs = [V]) → v'.den ρ2 = V ∧ v'.ty ρ2 ∧ v'.wf c1.d.ni c1.d.nb = true := by
          intro t x v' hof hrep hv
          have hte : ∃ e, ty.get t = some e := by
            unfold ofCells partL at hof
            split at hof
            · cases hof
            · exact ⟨_, ‹_›⟩
          obtain ⟨e, he⟩ := hte
          have hl : l.length = (if e.d.agg = true then e.size else 1) := by
            rw [← dens_length ρ2 l, k4]; exact rep_size he hrep
          have hden := partL_val he hof ρ2 hl
          refine ⟨?_, partL_ty hof k5, partL_wf hof k6 k7⟩
          rw [hden, k4]
          have ha : aggB ty t = e.d.agg := by simp only [aggB, he]
          rw [ha] at hv
          cases hagg : e.d.agg
          · rw [hagg] at hv
            simp only [Bool.false_eq_true, if_false] at hv ⊢
            rw [hv]; rfl
          · rw [hagg] at hv
            simp only [if_true] at hv ⊢
            exact hv.symm
        split at h
        · rename_i t
          split at h
          · rename_i v' hof
            cases h
            simp only [ShR] at hr
            obtain ⟨_, x, _, hrep⟩ := hr
            obtain ⟨q1, q2, q3⟩ := agg hof hrep hv
            exact ⟨ρ2, k1, k2, k3, q1, q2, q3⟩
          · cases h
        · rename_i t x
          split at h
          · rename_i v' hof
            cases h
            simp only [ShR] at hr
            obtain ⟨q1, q2, q3⟩ := agg hof hr.2.2 hv
            exact ⟨ρ2, k1, k2, k3, q1, q2, q3⟩
          · cases h
        · rename_i hnt hnt'
          split at h
          · rename_i v'
            cases h
            have := val_one hv (fun t e => hnt t e) (fun t x e => hnt' t x e)
            rw [this] at k4
            simp only [SV.dens] at k4
            injection k4 with k4
            refine ⟨ρ2, k1, k2, k3, k4, k5.1, ?_⟩
            simpa [SV.wfs] using k6
          · cases h
      · cases h
    · intro ss c c' l vs ds fp0 fp ρ1 h hc hr hd hnd
      cases ss with
      | nil =>
        simp only [crL] at h
        cases h
        simp only [ShRL] at hr
        obtain ⟨rfl, rfl, rfl⟩ := hr
        exact ⟨ρ1, by rw [List.append_nil]; exact hc, Env.le_refl _, rfl, rfl, trivial, rfl⟩
      | cons s ss =>
        simp only [crL] at h
        split at h
        · rename_i v c1 h1
          split at h
          · rename_i r c2 h2
            cases h
            simp only [ShRL] at hr
            obtain ⟨V, vr, cs, d1, d2, f1, f2, rfl, rfl, rfl, hv, r1, r2⟩ := hr
            rw [← List.append_assoc] at hnd
            obtain ⟨ρ2, k1, k2, k3, k4, k5, k6⟩ := ih.2.1 h1 hc hv r1 (fun j x hj => hd j x (by rw [List.getElem?_append_left (List.getElem?_eq_some_iff.1 hj).1]; exact hj)) (List.nodup_append.1 hnd).1
            obtain ⟨ρ3, m1, m2, m3, m4, m5, m6⟩ := ih.2.2 h2 k1 r2 (fun j x hj => by
              rw [k3, Nat.add_assoc]
              exact hd (d1.length + j) x (by rw [List.getElem?_append_right (by omega)]; simpa using hj)) hnd
            have hwa : v.wf ρ2.is.length ρ2.bs.length = true := by rw [k1.ext.len, k1.ext.lenb]; exact k6
            have hmn := k1.ext.mono_ni m1.ext m2
            refine ⟨ρ3, by rw [← List.append_assoc]; exact m1, Env.le_trans k2 m2, by rw [m3, k3, List.length_append]; omega, ?_, ⟨SV.ty_app m2 hwa k5, m5⟩, ?_⟩
            · simp only [SV.dens, SV.den_app m2 hwa, k4, m4]
            · simp only [SV.wfs, SV.wf_mono hmn.1 hmn.2 k6, m6, Bool.and_self]
          · cases h
        · cases h
end
end Go.SY
