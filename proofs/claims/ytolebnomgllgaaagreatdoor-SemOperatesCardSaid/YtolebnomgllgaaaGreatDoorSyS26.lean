/- The symbolic executor SY, its soundness, part 26: calls by contract. -/
import Derived.Test.YtolebnomgllgaaaGreatDoorSyS25
set_option linter.unusedVariables false
set_option linter.unusedSimpArgs false
namespace Go.SY
open Go Go.RowKit
noncomputable section
variable {F : Nat → List Dt → Post → Prop} {Q : Post} {P : Program}
variable {C : Cfg} {ty : Ty} {pl : Bool} {G : Nat → Prop} {fz0 : Fz} {w0 w w' : World} {ρ ρ' ρ1 ρ1' ρN : Env} {st : St} {d : Bd} {tm : Tm} {a : Act} {bm : Tb Nat} {β : Bt}
def tupVal (l : List Value) : Value := match l with
  | [v] => v
  | l => .tuple l.toArray
theorem tupV_den (ρ : Env) (l : List SV) : (tupV l).den ρ = tupVal (SV.dens ρ l) := by
  unfold tupV tupVal
  split
  · rfl
  · rename_i hn
    split
    · rename_i v hv
      cases l with
      | nil => cases hv
      | cons x l => cases l with
        | nil => exact absurd rfl (hn x)
        | cons y l => simp [SV.dens] at hv
    · rfl
theorem tupV_ty {l : List SV} (h : SV.tys ρ l) : (tupV l).ty ρ := by
  unfold tupV
  split
  · exact h.1
  · exact h
theorem tupV_wf {ni nb : Nat} {l : List SV} (h : SV.wfs ni nb l = true) : (tupV l).wf ni nb = true := by
  unfold tupV
  split
  · simpa [SV.wfs] using h
  · exact h
def AftR (ty : Ty) (o : Out) (nbl : Nat) (β : Bt) (fz : Fz) (fpT : List Nat) (w w' : World) (V : Value) (rs : List Dt) : Prop :=
  ∃ fz' β' vs d1 d2 f1 f2, rs = d1 ++ d2 ∧ V = tupVal vs ∧ ShRL ty fz' w' β' o.vs vs d1 f1 ∧ BlR ty fz' w' β' o.bl 0 d2 f2 ∧ (f1 ++ f2).Nodup ∧
    (∀ k ∈ f1 ++ f2, (w.heap.size ≤ k ∨ k ∈ fpT) ∧ fz' k = none) ∧ BtLe β β' ∧ (∀ j h, β' j = some h → j < o.bl.length) ∧ nbl ≤ o.bl.length ∧
    FzLe fz fz' ∧ FzIn fz' w' ∧ (∀ k : Nat, fz' k ≠ none → fz k = none → w.heap.size ≤ k ∨ k ∈ fpT) ∧ Belw (· ∈ fpT) w w' ∧ ∀ n : Nat, fz' (.h n) = fz (.h n)
def ConOk (P : Program) (ty : Ty) (gl : Gls) (F : Nat → List Dt → Post → Prop) (g f : Nat) (sig : Sig) : Prop :=
  ∀ (fz : Fz) (w : World) (β : Bt) (vs : List Value) (d1 d2 : List Dt) (f1 f2 : List Nat) (Q : Post), GOk ty gl fz → FzIn fz w → ShRL ty fz w β sig.ins vs d1 f1 → BlR ty fz w β sig.bl 0 d2 f2 → (f1 ++ f2).Nodup → (∀ k ∈ f1 ++ f2, fz k = none ∧ k < w.heap.size) →
    (∀ j h, β j = some h → j < sig.bl.length) → F g (d1 ++ d2) Q →
    CallSem P f vs.toArray w (fun V w' => ∃ rs, Q 0 rs ∧ AftR ty sig.out sig.bl.length β fz (f1 ++ f2) w w' V rs) (fun V w' => ∃ o rs, sig.pan = some o ∧ Q 1 rs ∧ AftR ty o sig.bl.length β fz (f1 ++ f2) w w' V rs)
theorem CallSem.mono {f : FuncId} {args : Array Value} {next next' nextP nextP' : Value → World → Prop} (h : CallSem P f args w next nextP) (h1 : ∀ v w', next v w' → next' v w') (h2 : ∀ v w', nextP v w' → nextP' v w') : CallSem P f args w next' nextP' := by
  rcases h with ⟨q1, q2⟩ | ⟨v, q1, q2⟩
  · refine .inl ⟨q1, Calls.mono q2 fun e w' he => ?_⟩
    cases e with
    | returned v => exact h1 _ _ he
    | panicked chain => obtain ⟨v, rfl, he⟩ := he; exact ⟨v, rfl, h2 _ _ he⟩
    | outgrown => exact he.elim
  · exact .inr ⟨v, q1, h1 _ _ q2⟩
theorem GOk.mono {ty : Ty} {gl : Gls} {fz fz' : Fz} (hz : FzLe fz fz') (h : GOk ty gl fz) : GOk ty gl fz' := ⟨fun g off n l hl j v hj => by
  obtain ⟨h1, h2, h3, h4⟩ := h.fl g off n l hl j v hj
  exact ⟨h1, h2, h3, fzCell_mono hz h4⟩, h.dt.mono hz⟩
theorem get_ofL2 {α : Type} : ∀ {l : List α} {i : Nat} {t : Tb α} {j : Nat} {x : α}, (Tb.ofL l i t).get j = some x → (i ≤ j ∧ l[j - i]? = some x) ∨ t.get j = some x
  | [], i, t, j, x, h => .inr h
  | y :: l, i, t, j, x, h => by
    rcases get_ofL2 (l := l) (i := i + 1) h with ⟨h1, h2⟩ | h1
    · refine .inl ⟨by omega, ?_⟩
      rw [show j - i = (j - (i + 1)) + 1 by omega, List.getElem?_cons_succ]; exact h2
    · rcases Tb.get_put h1 with ⟨rfl, rfl⟩ | ⟨_, h3⟩
      · exact .inl ⟨Nat.le_refl _, by simp⟩
      · exact .inr h3
theorem after_ok {o : Out} {nbl : Nat} {V : Value} {rs : List Dt} {fpT : List Nat} {k : SV → St → T} {next : Value → World → Prop} (hm : Md C.ty C.pl G fz0 w0 ρ st w) (hT : Taken G w0 w ρ st.mem fpT) (ha : AftR C.ty o nbl (bβ ρ bm) ρ.fz fpT w w' V rs)
    (hbm : ∀ j b, bm.get j = some b → b < st.nb ∧ j < nbl) (h : hasTyL C.ty rs o.tys = true → (afterCall C st bm nbl o k).wp C.ty F (ρ.is ++ rs) Q) (hk : KP C.ty C.pl F Q G fz0 w0 ρ st next k) : next V w' := by
  obtain ⟨fz', β', vs, e1, e2, f1, f2, rfl, rfl, r1, r2, hnd, hfr, hβ, hlim, hnbl, z1, z2, z3, hb, hhz⟩ := ha
  have hty : hasTyL C.ty (e1 ++ e2) o.tys = true := hasTyL_append r1.tys r2.tys
  have h := h hty
  have hN : o.tys.length = e1.length + e2.length := by rw [← hasTyL_len hty, List.length_append]
  unfold afterCall at h
  simp only at h
  let ρN : Env := ⟨ρ.is ++ (e1 ++ e2), ρ.bs ++ (List.range (o.bl.length - nbl)).map (fun i => ((β' (nbl + i)).getD 0, .pointer none)), fz'⟩
  have hl : ρ.le ρN := ⟨⟨_, rfl⟩, ⟨_, rfl⟩, z1⟩
  have hNb : ρN.bs.length = st.nb + (o.bl.length - nbl) := by simp [ρN, hm.hnb]
  have hNi : ρN.is.length = st.ni + o.tys.length := by simp [ρN, hm.hni, hN]
  have hbβ : ∀ j b h, (Tb.ofL ((List.range (o.bl.length - nbl)).map (st.nb + ·)) nbl bm).get j = some b → β' j = some h → ρN.b b = h ∧ b < ρN.bs.length := by
    intro j b hh hg hj
    rcases get_ofL2 hg with ⟨q1, q2⟩ | q1
    · rw [List.getElem?_map, Option.map_eq_some_iff] at q2
      obtain ⟨i, q2, rfl⟩ := q2
      have hi := (List.getElem?_eq_some_iff.1 q2).1
      have hi2 := (List.getElem?_eq_some_iff.1 q2).2
      simp only [List.length_range] at hi
      simp only [List.getElem_range] at hi2
      subst hi2
      refine ⟨?_, by rw [hNb]; omega⟩
      simp only [Env.b, ρN, List.getD_eq_getElem?_getD]
      rw [List.getElem?_append_right (by rw [hm.hnb]; omega), hm.hnb]
      rw [show st.nb + (j - nbl) - st.nb = j - nbl by omega, List.getElem?_map, List.getElem?_range hi]
      simp only [Option.map_some, Option.getD_some]
      rw [show nbl + (j - nbl) = j by omega, hj]; rfl
    · obtain ⟨q2, q3⟩ := hbm j b q1
      have := hβ j (ρ.b b) (by simp only [bβ, q1]; rfl)
      rw [this] at hj
      cases hj
      exact ⟨Env.b_app hl (by rw [hm.hnb]; exact q2), by rw [hNb]; omega⟩
  have hext : Ext C.ty ρN (.of (st.ni + o.tys.length) (st.nb + (o.bl.length - nbl))) ρN := by
    have := Ext.refl (ty := C.ty) ρN
    rw [hNi, hNb] at this
    exact this
  have hc0 : CrS C.ty w' ρN (.of (st.ni + o.tys.length) (st.nb + (o.bl.length - nbl))) ρN [] := ⟨hext, rfl, ⟨fun j e s a h => by simp [Bd.of] at h, fun j g h => by simp [Bd.of] at h, fun j g k h => by simp [Bd.of] at h, fun i j gi gj k h => by simp [Bd.of] at h⟩⟩
  split at h
  · exact h.elim
  · rename_i svs c1 hcr
    split at h
    · exact h.elim
    · rename_i bs c2 hcb
      rw [List.nodup_append] at hnd
      obtain ⟨ρ2, k1, k2, k3, k4, k5, k6⟩ := (cr_all (w := w') hbβ 60).2.2 hcr hc0 r1 (fun j x hj => by
        simp only [ρN]
        rw [List.getElem?_append_right (by rw [hm.hni]; omega), hm.hni, show st.ni + j - st.ni = j by omega, List.getElem?_append_left (List.getElem?_eq_some_iff.1 hj).1]
        exact hj) (by simpa using hnd.1)
      obtain ⟨ρ3, fr, fb, m1, m2, m3, m4, m5, m6, m7⟩ := crB_ok (w := w') hbβ hcb k1 r2 (fun j x hj => by
        rw [k3]
        simp only [ρN]
        rw [List.getElem?_append_right (by rw [hm.hni]; omega), hm.hni, show st.ni + e1.length + j - st.ni = e1.length + j by omega, List.getElem?_append_right (by omega), show e1.length + j - e1.length = j by omega]
        exact hj) (by rw [List.nil_append, List.nodup_append]; exact hnd)
      cases hck : (Nat.beq c2.n c2.d.ni && Nat.beq c2.d.es.length 0 && SV.wfs c2.d.ni c2.d.nb svs && wfSOs c2.d.ni c2.d.nb (bs.map (·.2)) && wfSOs c2.d.ni c2.d.nb c2.d.gs && wfFs c2.d.ni c2.d.fs) <;> rw [hck] at h <;> simp only [cond_true, cond_false] at h
      · exact h.elim
      · simp only [Bool.and_eq_true] at hck
        have hwv := hck.1.1.1.2
        have hle3 : ρ.le ρ3 := Env.le_trans hl m1.ext.le
        rw [List.nil_append] at m1
        have hmem1 : ∀ k ∈ f1 ++ fr, k ∈ f1 ++ f2 := fun k hk => (List.mem_append.1 hk).elim (fun hk => List.mem_append_left _ hk) (fun hk => List.mem_append_right _ (m5 k hk))
        have hN3 := newR_of m1 m4 hmem1 (fun k hk => List.mem_append_right _ (m6 k hk)) (fun k hk hkb => (List.mem_append.1 hk).elim (fun hk => hnd.2.2 k hk k (m6 k hkb) rfl) (fun hk => m7 k hk hkb))
        have hz3 : ρ3.fz = fz' := m1.ext.fz
        have hmd : Md C.ty C.pl G fz0 w0 ρ3 ⟨bs.foldl (fun m x => m.put x.1 x.2) (pushG st.mem (st.nb + (o.bl.length - nbl)) c2.d.gs), c2.d.nb, c2.d.ni, c2.d.fs ++ st.pc, st.df⟩ w' :=
          hm.create hT hb hle3 (by rw [hz3]; exact z2) (fun k h1 h2 => z3 k (by rw [← hz3]; exact h1) h2) m1.ext.len m1.ext.lenb m1.ext.fs m1.ext.fw hN3 (fun k hk => by rw [hz3]; exact hfr k hk) (fun i so hi => by
            rcases get_foldl hi with hi | hi
            · exact .inl (.inl hi)
            · rcases get_pushG _ _ _ _ _ hi with ⟨q1, q2⟩ | hi
              · exact .inl (.inr ⟨by rw [hNb]; exact q1, by rw [hNb]; exact q2⟩)
              · exact .inr hi) (hm.hkk.create hle3 (fun i so hi => by rw [hm.hni, hm.hnb]; exact (hm.mem i so hi).2.1) (fun n => by rw [hz3]; exact hhz n) fun i so hi => by
            rcases get_foldl hi with hi | hi
            · exact .inl (crB_np hcb _ hi)
            · rcases get_pushG _ _ _ _ _ hi with ⟨_, q2⟩ | hi
              · exact .inl (CrS.np m1 (List.mem_of_getElem? q2))
              · exact .inr hi)
        have hwv2 : SV.wfs ρ2.is.length ρ2.bs.length svs = true := by rw [k1.ext.len, k1.ext.lenb]; exact k6
        have hfin := hk ρ3 _ w' (tupV svs) hle3 hmd rfl (tupV_ty (SV.tys_app m2 hwv2 k5)) (tupV_wf hwv) (by rw [m1.is]; exact h)
        rw [tupV_den, SV.dens_app m2 hwv2, k4] at hfin
        exact hfin
theorem conCall_ok (hty : TyOk C.P C.ty) (hg : GOk C.ty C.gl fz0) {g f : Nat} {sig : Sig} (hcon : ConOk C.P C.ty C.gl F g f sig) (hm : Md C.ty C.pl G fz0 w0 ρ st w) {args : List SV} {k kp : SV → St → T} {next nextP : Value → World → Prop} (hw : SV.wfs st.ni st.nb args = true) (ht : SV.tys ρ args)
    (h : (conCall C g sig args st k kp).wp C.ty F ρ.is Q) (hk : KV C.ty C.pl F Q G fz0 w0 ρ st next k) (hkp : KP C.ty C.pl F Q G fz0 w0 ρ st nextP kp) : CallSem C.P f (SV.dens ρ args).toArray w next nextP := by
  unfold conCall at h
  split at h
  · exact h.elim
  · rename_i as m1 h1
    split at h
    · exact h.elim
    · rename_i bs m h2
      have hb0 : BmOk st.nb ⟨st.fs, .e, sig.bl.length⟩ := fun j b hj => by simp [Tb.get_e] at hj
      have r1 := (mt_all hty hm.hpw 60).2 h1 hm.fsR hb0 hm.hpc hw ht
      have r2 := r1.seq ShRL_RMono fun G fz0 w0 ρ' ρ1' hl hf hb => mtB_ok hty hm.hpw h2 hf hb (PcOk.fl hl hm.hpc)
      obtain ⟨ρ', ρ1', fp, F1, l1, l2, g1, n1, b1, b2, t1, a1, d1, d2, f1, f2, hd, rfl, q1, q2⟩ := r2
      obtain ⟨hm1, h⟩ := bindF_ok h F1 l1
      have hgs : m.f.d.gs = [] := g1
      have hz1 : ρ1'.fz = ρ'.fz := F1.he.fz
      have hmem : (stD { st with mem := m.f.mem } m.f.d).mem = m.f.mem := by simp only [stD, hgs, pushG]
      have hbs : ρ1'.bs = ρ.bs := by
        obtain ⟨y, hy, hyl⟩ := F1.he.bs
        rw [hgs] at hyl
        rw [hy, List.eq_nil_of_length_eq_zero hyl, List.append_nil, l1.bs]
      have hbβ : bβ ρ1' m.bm = bβ ρ m.bm := by
        have : ρ1'.b = ρ.b := by funext i; simp only [Env.b, hbs]
        funext j; simp only [bβ, this]
      have hfoot : ∀ i o, m.f.mem.get i = some o → foot ρ1' i o = foot ρ' i o := fun i o hi => by
        obtain ⟨y1, y2, y3, _⟩ := F1.hm.mem i o hi
        exact foot_app F1.he.le (by rw [F1.hm.hnb]; exact y1) o (by rw [F1.hm.hni, F1.hm.hnb]; exact y2) y3
      have hT : Taken G w0 w ρ1' (stD { st with mem := m.f.mem } m.f.d).mem (f1 ++ f2) := by
        rw [hmem]
        refine ⟨t1.nd, fun k hk => by rw [hz1]; exact t1.own k hk, fun k hk => ?_⟩
        rintro ⟨i, o, hi, hf⟩
        rw [hfoot i o hi] at hf
        exact t1.free k hk ⟨i, o, hi, hf⟩
      have hlim : m.lim = sig.bl.length := b2.1
      have hnb : (stD { st with mem := m.f.mem } m.f.d).nb = st.nb := by
        show m.f.d.nb = st.nb
        have := F1.he.nb
        rw [hgs, l1.bs, hm.hnb] at this
        simpa using this
      have hbm : ∀ j b, m.bm.get j = some b → b < (stD { st with mem := m.f.mem } m.f.d).nb ∧ j < sig.bl.length := by
        intro j b hj
        have := b2.2 j b hj
        rw [hlim] at this
        rw [hnb]; exact this
      have hle1 : ρ.le ρ1' := Env.le_trans l1.le F1.he.le
      simp only [T.wp] at h
      rw [hd] at h
      have hcall := hcon ρ'.fz w (bβ ρ m.bm) (SV.dens ρ args) d1 d2 f1 f2 _ (hg.mono fun b o ho => l1.fz b o (hm.fzl b o ho)) F1.hm.fzw q1 q2 t1.nd (fun k hk => (t1.own k hk).2) (fun j hh hj => by
        simp only [bβ, Option.map_eq_some_iff] at hj
        obtain ⟨b, hj, _⟩ := hj
        exact (hbm j b hj).2) h
      refine hcall.mono ?_ ?_
      · rintro V w' ⟨rs, hq, ha⟩
        simp only [if_true] at hq
        rw [← hz1, ← hbβ] at ha
        exact after_ok hm1 hT ha hbm hq fun ρ2 st2 w2 v hl2 hm2 hdf hv _ hw2 => hk ρ2 st2 w2 v (Env.le_trans hle1 hl2) hm2 hdf hv hw2
      · rintro V w' ⟨o, rs, hpan, hq, ha⟩
        rw [hpan] at hq
        simp only [show (1 : Nat) ≠ 0 by decide, if_false, if_true] at hq
        rw [← hz1, ← hbβ] at ha
        exact after_ok hm1 hT ha hbm hq fun ρ2 st2 w2 v hl2 hm2 hdf hv hwf hw2 => hkp ρ2 st2 w2 v (Env.le_trans hle1 hl2) hm2 hdf hv hwf hw2
theorem conCallL_ok (hty : TyOk C.P C.ty) (hg : GOk C.ty C.gl fz0) {f : Nat} (hm : Md C.ty C.pl G fz0 w0 ρ st w) {args : List SV} {k kp : SV → St → T} {next nextP : Value → World → Prop} (hw : SV.wfs st.ni st.nb args = true) (ht : SV.tys ρ args)
    (hk : KV C.ty C.pl F Q G fz0 w0 ρ st next k) (hkp : KP C.ty C.pl F Q G fz0 w0 ρ st nextP kp) : ∀ {l : List (Nat × Sig)}, (∀ x ∈ l, ConOk C.P C.ty C.gl F x.1 f x.2) → (conCallL C l args st k kp).wp C.ty F ρ.is Q → CallSem C.P f (SV.dens ρ args).toArray w next nextP
  | [], _, h => h.elim
  | x :: l, hcon, h => by
    unfold conCallL at h
    split at h
    · exact conCall_ok hty hg (hcon x (.head _)) hm hw ht h hk hkp
    · exact conCallL_ok hty hg hm hw ht hk hkp (fun y hy => hcon y (.tail _ hy)) h
end
end Go.SY
