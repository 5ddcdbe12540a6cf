/- The symbolic executor SY, its soundness, part 38: functions that have a pool of their own. -/
import Derived.Test.YtolebnomgllgaaaGreatDoorSyT
import Derived.Test.YtolebnomgllgaaaGreatDoorSyE
set_option linter.unusedVariables false
set_option linter.unusedSimpArgs false
namespace Go.SY
open Go Go.RowKit
noncomputable section
variable {F : Nat → List Dt → Post → Prop} {Q : Post} {P : Program}
variable {C : Cfg} {ty : Ty} {pl : Bool} {G : Nat → Prop} {fz0 fz fz' : Fz} {w0 w w' : World} {ρ ρ' ρ1 ρ1' ρN ρB : Env} {st : St} {d : Bd} {tm : Tm} {a : Act} {QE : Exit → Act → World → Prop} {β : Bt} {D : List TypeId}
def SameB (fz fz' : Fz) : Prop := ∀ k : Nat, fz (.b k) = fz' (.b k)
theorem SameB.cell (h : SameB fz fz') (b off : Nat) : fzCell fz b off = fzCell fz' b off := by
  unfold fzCell
  rw [show fz (b : Key) = fz' (b : Key) from h b]
theorem SameB.lies (h : SameB fz fz') {b off : Nat} {cs : List Value} (hl : Lies fz b off cs) : Lies fz' b off cs := fun j v hj => by rw [← h.cell]; exact hl j v hj
theorem D_get (hD : dataD ty D D = true) {t : TypeId} (ht : t ∈ D) : ∃ i, ty.get t = some i ∧ tdOf ty t = i.d ∧ dataIn ty D t = true := by
  have hin := dataD_mem hD t ht
  have h0 := hin
  unfold dataIn at h0
  split at h0
  · rename_i i hi
    exact ⟨i, hi, by simp only [tdOf, hi], hin⟩
  · cases h0
theorem D_slice (hD : dataD ty D D = true) {t : TypeId} (ht : t ∈ D) {e s : Nat} (h : tdOf ty t = .slice e s) : e ∈ D := by
  obtain ⟨i, h1, h2, h3⟩ := D_get hD ht
  unfold dataIn at h3
  rw [h1] at h3
  simp only [← h2, h, Bool.and_eq_true] at h3
  exact memN_mem h3.1
theorem D_struct (hD : dataD ty D D = true) {t : TypeId} (ht : t ∈ D) {fs : List (Nat × Nat × Nat)} {q : Bool} (h : tdOf ty t = .struct fs q) : ∀ f ∈ fs, f.1 ∈ D := by
  obtain ⟨i, h1, h2, h3⟩ := D_get hD ht
  unfold dataIn at h3
  rw [h1] at h3
  simp only [← h2, h, Bool.and_eq_true] at h3
  exact allIn1_mem h3.1
theorem D_arr (hD : dataD ty D D = true) {t : TypeId} (ht : t ∈ D) {n e s : Nat} (h : tdOf ty t = .arr n e s) : e ∈ D := by
  obtain ⟨i, h1, h2, h3⟩ := D_get hD ht
  unfold dataIn at h3
  rw [h1] at h3
  simp only [← h2, h, Bool.and_eq_true] at h3
  exact memN_mem h3.1
theorem D_noHnd (hD : dataD ty D D = true) {t : TypeId} (ht : t ∈ D) {e s : Nat} (h : tdOf ty t = .hnd e s) : False := by
  obtain ⟨i, h1, h2, h3⟩ := D_get hD ht
  unfold dataIn at h3
  rw [h1] at h3
  simp only [← h2, h] at h3
  cases h3
mutual
theorem rep_sw (hD : dataD ty D D = true) (h : SameB fz fz') : ∀ {x : Dt} {t : TypeId} {cs : List Value}, t ∈ D → rep ty fz x t cs → rep ty fz' x t cs
  | .num _, t, _, ht, hr => by
    simp only [rep] at hr ⊢
    rcases hr with hr | ⟨e, s, V, h1, _⟩
    · exact .inl hr
    · exact (D_noHnd hD ht h1).elim
  | .tru _, _, _, _, hr => hr
  | .byt _, _, _, _, hr => hr
  | .nil, _, _, _, hr => hr
  | .row l, t, cs, ht, hr => by
    simp only [rep] at hr ⊢
    obtain ⟨e, s, b, off, sp, cap, h1, h2, h3, h4, h5, h6⟩ := hr
    exact ⟨e, s, b, off, sp, cap, h1, h2, h3, h4, repL_sw hD h (D_slice hD ht h1) h5, h6⟩
  | .tup l, t, cs, ht, hr => by
    simp only [rep] at hr ⊢
    refine ⟨hr.1, ?_⟩
    rcases hr.2 with ⟨fs, q, h1, h2⟩ | ⟨n, e, s, h1, h2, h3⟩
    · exact .inl ⟨fs, q, h1, repF_sw hD h (D_struct hD ht h1) h2⟩
    · exact .inr ⟨n, e, s, h1, h2, repA_sw hD h (D_arr hD ht h1) h3⟩
theorem repL_sw (hD : dataD ty D D = true) (h : SameB fz fz') : ∀ {l : List Dt} {e : TypeId} {s b off : Nat}, e ∈ D → repL ty fz l e s b off → repL ty fz' l e s b off
  | [], _, _, _, _, _, _ => by simp only [repL]
  | x :: l, e, s, b, off, he, hr => by
    simp only [repL] at hr ⊢
    obtain ⟨⟨cs, h1, h2, h3⟩, h4⟩ := hr
    exact ⟨⟨cs, h1, h.lies h2, rep_sw hD h he h3⟩, repL_sw hD h he h4⟩
theorem repF_sw (hD : dataD ty D D = true) (h : SameB fz fz') : ∀ {l : List Dt} {fs : List (Nat × Nat × Nat)} {cs : List Value}, (∀ f ∈ fs, f.1 ∈ D) → repF ty fz l fs cs → repF ty fz' l fs cs
  | [], [], _, _, _ => by simp only [repF]
  | x :: l, f :: fs, cs, hf, hr => by
    simp only [repF] at hr ⊢
    exact ⟨⟨hr.1.1, rep_sw hD h (hf f (.head _)) hr.1.2⟩, repF_sw hD h (fun g hg => hf g (.tail _ hg)) hr.2⟩
  | [], _ :: _, _, _, hr => by simp only [repF] at hr
  | _ :: _, [], _, _, hr => by simp only [repF] at hr
theorem repA_sw (hD : dataD ty D D = true) (h : SameB fz fz') : ∀ {l : List Dt} {e : TypeId} {s : Nat} {cs : List Value}, e ∈ D → repA ty fz l e s cs → repA ty fz' l e s cs
  | [], _, _, _, _, _ => by simp only [repA]
  | x :: l, e, s, cs, he, hr => by
    simp only [repA] at hr ⊢
    exact ⟨⟨hr.1.1, rep_sw hD h he hr.1.2⟩, repA_sw hD h he hr.2⟩
end
def shD (D : List TypeId) : List Sh → Bool
  | [] => true
  | .dat t :: l => memN t D && shD D l
  | .lit t _ :: l => memN t D && shD D l
  | _ => false
def goneB : List ShB → Bool
  | [] => true
  | .gone :: l => goneB l
  | _ => false
theorem ShRL_sw (hD : dataD ty D D = true) (h : SameB fz fz') {β' : Bt} {w' : World} : ∀ {ss : List Sh} {vs : List Value} {ds : List Dt} {fp : List Nat}, shD D ss = true → ShRL ty fz w β ss vs ds fp → ShRL ty fz' w' β' ss vs ds fp
  | [], _, _, _, _, hr => by simp only [ShRL] at hr ⊢; exact hr
  | .dat t :: ss, _, _, _, hs, hr => by
    simp only [shD, Bool.and_eq_true] at hs
    simp only [ShRL, ShR] at hr ⊢
    obtain ⟨V, vr, cs, d1, d2, f1, f2, h1, h2, h3, h4, ⟨h5, x, h6, h7⟩, h8⟩ := hr
    exact ⟨V, vr, cs, d1, d2, f1, f2, h1, h2, h3, h4, ⟨h5, x, h6, rep_sw hD h (memN_mem hs.1) h7⟩, ShRL_sw hD h hs.2 h8⟩
  | .lit t x :: ss, _, _, _, hs, hr => by
    simp only [shD, Bool.and_eq_true] at hs
    simp only [ShRL, ShR] at hr ⊢
    obtain ⟨V, vr, cs, d1, d2, f1, f2, h1, h2, h3, h4, ⟨h5, h6, h7⟩, h8⟩ := hr
    exact ⟨V, vr, cs, d1, d2, f1, f2, h1, h2, h3, h4, ⟨h5, h6, rep_sw hD h (memN_mem hs.1) h7⟩, ShRL_sw hD h hs.2 h8⟩
  | .own _ :: _, _, _, _, hs, _ | .ptr _ :: _, _, _, _, hs, _ | .map _ :: _, _, _, _, hs, _ | .con _ :: _, _, _, _, hs, _ | .fn _ _ _ :: _, _, _, _, hs, _ | .ifc _ _ :: _, _, _, _, hs, _ => by simp only [shD] at hs; cases hs
theorem BlR_gone {β' : Bt} {w' : World} : ∀ {bl : List ShB} {j : Nat} {ds : List Dt} {fp : List Nat}, goneB bl = true → BlR ty fz w β bl j ds fp → BlR ty fz' w' β' bl j ds fp
  | [], _, _, _, _, hr => hr
  | .gone :: l, j, _, _, hb, hr => by
    simp only [BlR] at hr ⊢
    exact BlR_gone (by simpa [goneB] using hb) hr
  | .cells _ _ :: _, _, _, _, hb, _ | .map _ _ :: _, _, _, _, hb, _ => by simp only [goneB] at hb; cases hb
def strip (fz : Fz) : Fz
  | .b k => fz (.b k)
  | .h _ => none
def unstrip (fz fz1 : Fz) : Fz
  | .b k => fz1 (.b k)
  | .h k => fz (.h k)
theorem strip_same : SameB fz (strip fz) := fun _ => rfl
theorem unstrip_same {fz1 : Fz} : SameB fz1 (unstrip fz fz1) := fun _ => rfl
def gdD (D : List TypeId) : List (Nat × TypeId × Dt) → Bool
  | [] => true
  | e :: l => memN e.2.1 D && gdD D l
theorem gdD_mem : ∀ {l : List (Nat × TypeId × Dt)} {g : Nat} {x : TypeId × Dt}, gdD D l = true → gdOf l g = some x → x.1 ∈ D
  | [], _, _, _, h => nomatch h
  | e :: l, g, x, hl, h => by
    simp only [gdD, Bool.and_eq_true] at hl
    simp only [gdOf] at h
    cases hb : Nat.beq e.1 g <;> rw [hb] at h <;> simp only [cond_true, cond_false] at h
    · exact gdD_mem hl.2 h
    · cases h; exact memN_mem hl.1
theorem GOk.strip {gl : Gls} (hD : dataD ty D D = true) (hd : gdD D gl.dt = true) (h : GOk ty gl fz) : GOk ty gl (strip fz) := ⟨fun g off n l hl j v hj => by
  obtain ⟨h1, h2, h3, h4⟩ := h.fl g off n l hl j v hj
  exact ⟨h1, h2, h3, by rw [← strip_same.cell]; exact h4⟩, fun g t x hg => by
  obtain ⟨cs, h1, h2⟩ := h.dt g t x hg
  exact ⟨cs, strip_same.lies h1, rep_sw hD strip_same (gdD_mem hd hg) h2⟩⟩
theorem Md.pool0 (h : Md ty pl G fz0 w0 ρ st w) (hpl : pl = true) (h0 : st.mem.get 0 = none) (hnb : 0 < st.nb) (hk : ∀ n : Nat, ρ.fz (.h n) = none) (e s : Nat) : Md ty pl G fz0 w0 ρ { st with mem := st.mem.put 0 (.pool e s (.d (.row []))) } w := by
  refine ⟨h.below, h.hni, h.hnb, h.hpc, h.hpw, h.fzw, h.fzl, h.fzn, fun j oj hj => ?_, fun j oj k hj hf => ?_, fun i j oi oj k hi hj hfi hfj => ?_, ⟨fun e' s' a hg n hn => absurd (hk n) hn, fun hp => by rw [hpl] at hp; cases hp⟩⟩
  · rcases Tb.get_put (t := st.mem) (d := 0) (x := .pool e s (.d (.row []))) hj with ⟨rfl, rfl⟩ | ⟨_, hj'⟩
    · refine ⟨hnb, rfl, ?_, ?_⟩
      · simp only [GhOk]
        exact ⟨[], rfl, fun j y hj => by simp at hj⟩
      · simp only [SO.ok, PoolOk]
        exact ⟨fun j y hj => by simp [A.den, Dt.list] at hj, fun j j' V V' k hj => by simp [A.den, Dt.list] at hj⟩
    · exact h.mem j oj hj'
  · rcases Tb.get_put (t := st.mem) (d := 0) (x := .pool e s (.d (.row []))) hj with ⟨rfl, rfl⟩ | ⟨_, hj'⟩
    · obtain ⟨j, V, q, _⟩ := hf
      simp [A.den, Dt.list] at q
    · exact h.own j oj k hj' hf
  · rcases Tb.get_put (t := st.mem) (d := 0) (x := .pool e s (.d (.row []))) hi with ⟨rfl, rfl⟩ | ⟨_, hi'⟩
    · obtain ⟨j, V, q, _⟩ := hfi
      simp [A.den, Dt.list] at q
    · rcases Tb.get_put (t := st.mem) (d := 0) (x := .pool e s (.d (.row []))) hj with ⟨rfl, rfl⟩ | ⟨_, hj'⟩
      · obtain ⟨j, V, q, _⟩ := hfj
        simp [A.den, Dt.list] at q
      · exact h.inj i j oi oj k hi' hj' hfi hfj
def sxFuncP (C : Cfg) (fuel f : Nat) (sig : Sig) (e s : Nat) : T := match startOf C sig with
  | some (args, st) => match st.mem.get 0, Nat.blt 0 st.nb with
    | none, true => sxRun C fuel f sig args { st with mem := st.mem.put 0 (.pool e s (.d (.row []))) }
    | _, _ => .fail 358
  | none => .fail 358
def poolSig (D : List TypeId) (sig : Sig) : Bool := shD D sig.ins && goneB sig.bl && Nat.blt 0 sig.bl.length && shD D sig.out.vs && goneB sig.out.bl && (match sig.pan with
  | none => true
  | some o => shD D o.vs && goneB o.bl)
theorem retK_okP (hty : TyOk C.P C.ty) {nbl : Nat} {o : Out} {code : Nat} {fz : Fz} {fpT : List Nat} {v : SV} (hN : ∀ j h, β j = some h → j < nbl ∧ ρN.b j = h) (hNb : nbl ≤ ρN.bs.length) (hl : ρN.le ρ') (hm : Md C.ty C.pl (· ∈ fpT) fz w ρ' st w') (hv : v.ty ρ')
    (h : (retK C code nbl o v st).wp C.ty F ρ'.is Q) : ∃ rs, Q code rs ∧ ∃ fz' β' vs d1 d2 f1 f2, rs = d1 ++ d2 ∧ v.den ρ' = tupVal vs ∧ ShRL C.ty fz' w' β' o.vs vs d1 f1 ∧ BlR C.ty fz' w' β' o.bl 0 d2 f2 ∧ (f1 ++ f2).Nodup ∧
    (∀ k ∈ f1 ++ f2, (w.heap.size ≤ k ∨ k ∈ fpT) ∧ fz' k = none) ∧ BtLe β β' ∧ (∀ j h, β' j = some h → j < o.bl.length) ∧ nbl ≤ o.bl.length ∧
    FzLe fz fz' ∧ FzIn fz' w' ∧ (∀ k : Nat, fz' k ≠ none → fz k = none → w.heap.size ≤ k ∨ k ∈ fpT) ∧ Belw (· ∈ fpT) w w' := by
  unfold retK at h
  cases hck : (v.wf st.ni st.nb && Nat.ble nbl o.bl.length && Nat.blt nbl 1000000) <;> rw [hck] at h <;> simp only [Bool.not_true, Bool.not_false, cond_true, cond_false] at h
  · exact h.elim
  · simp only [Bool.and_eq_true] at hck
    have hnbl := ble_nat hck.1.2
    have hsm := blt_nat hck.2
    obtain ⟨k1, k2, k3⟩ := retVs_ok (ss := o.vs) hck.1.1 hv
    split at h
    · exact h.elim
    · rename_i as m1 h1
      split at h
      · exact h.elim
      · rename_i bs m h2
        have hb0 : BmOk st.nb ⟨st.fs, Tb.ofL (List.range nbl) 0 .e, o.bl.length⟩ := by
          intro j b hj
          rcases get_ofL _ _ _ _ _ hj with ⟨_, hj⟩ | hj
          · rw [Nat.sub_zero] at hj
            have hi := (List.getElem?_eq_some_iff.1 hj).1
            have hi2 := (List.getElem?_eq_some_iff.1 hj).2
            simp only [List.length_range] at hi
            simp only [List.getElem_range] at hi2
            subst hi2
            refine ⟨?_, Nat.lt_of_lt_of_le hi hnbl⟩
            rw [← hm.hnb]
            exact Nat.lt_of_lt_of_le hi (Nat.le_trans hNb hl.len_bs)
          · rw [Tb.get_e] at hj; cases hj
        have r1 := (mt_all hty hm.hpw 60).2 h1 hm.fsR hb0 hm.hpc k1 k2
        have r2 := r1.seq ShRL_RMono fun G fz0 w0 ρ'' ρ1' hl hf hb => mtB_ok hty hm.hpw h2 hf hb (PcOk.fl hl hm.hpc)
        obtain ⟨ρ'', ρ1', fp, F1, l1, l2, g1, n1, b1, b2, t1, a1, d1, d2, f1, f2, hd, rfl, q1, q2⟩ := r2
        obtain ⟨hm1, h⟩ := bindF_ok h F1 l1
        simp only [T.wp] at h
        refine ⟨_, h, ρ''.fz, bβ ρ' m.bm, _, d1, d2, f1, f2, hd, k3 q1.len, q1, q2, t1.nd, fun k hk => ⟨(t1.own k hk).1, (t1.own k hk).2.1⟩, fun j hh hj => ?_, fun j hh hj => ?_, hnbl, fun b o ho => l1.fz b o (hm.fzl b o ho), F1.hm.fzw, F1.hm.fzn, F1.hm.below⟩
        · obtain ⟨p1, p2⟩ := hN j hh hj
          have := get_ofL_some (List.range nbl) 0 .e j j (List.getElem?_range p1) (by simp; omega)
          rw [Nat.zero_add] at this
          have := b1 j j this
          simp only [bβ, this, Option.map_some]
          rw [Env.b_app hl (Nat.lt_of_lt_of_le p1 hNb), p2]
        · simp only [bβ, Option.map_eq_some_iff] at hj
          obtain ⟨b, hj, _⟩ := hj
          have := (b2.2 j b hj).2
          rw [b2.1] at this
          exact this
theorem unstrip_aft (hD : dataD ty D D = true) {o : Out} {nbl : Nat} {fpT : List Nat} {V : Value} {rs : List Dt} (ho : shD D o.vs = true) (hob : goneB o.bl = true)
    (h : ∃ fz' β' vs d1 d2 f1 f2, rs = d1 ++ d2 ∧ V = tupVal vs ∧ ShRL ty fz' w' β' o.vs vs d1 f1 ∧ BlR ty fz' w' β' o.bl 0 d2 f2 ∧ (f1 ++ f2).Nodup ∧
    (∀ k ∈ f1 ++ f2, (w.heap.size ≤ k ∨ k ∈ fpT) ∧ fz' k = none) ∧ BtLe β β' ∧ (∀ j h, β' j = some h → j < o.bl.length) ∧ nbl ≤ o.bl.length ∧
    FzLe (strip fz) fz' ∧ FzIn fz' w' ∧ (∀ k : Nat, fz' k ≠ none → (strip fz) k = none → w.heap.size ≤ k ∨ k ∈ fpT) ∧ Belw (· ∈ fpT) w w') : AftR ty o nbl β fz fpT w w' V rs := by
  obtain ⟨fz', β', vs, d1, d2, f1, f2, h1, h2, h3, h4, h5, h6, h7, h8, h9, h10, h11, h12, h13⟩ := h
  refine ⟨unstrip fz fz', β', vs, d1, d2, f1, f2, h1, h2, ShRL_sw hD unstrip_same ho h3, BlR_gone hob h4, h5, fun k hk => h6 k hk, h7, h8, h9, fun b x hb => ?_, fun b x hb => h11 b x hb, fun k hk => h12 k hk, h13, fun n => rfl⟩
  cases b with
  | b n => exact h10 (.b n) x hb
  | h n => exact hb
theorem run_okP (H : Hyp C F) (hpl : C.pl = true) (hD : dataD C.ty D D = true) (hgd : gdD D C.gl.dt = true) {fuel f : Nat} {sig : Sig} (hps : poolSig D sig = true) {pe ps : Nat} {fz : Fz} {vs : List Value} {d1 d2 : List Dt} {f1 f2 : List Nat} (hg : GOk C.ty C.gl fz) (hz : FzIn fz w) (r1 : ShRL C.ty fz w β sig.ins vs d1 f1) (r2 : BlR C.ty fz w β sig.bl 0 d2 f2) (hnd : (f1 ++ f2).Nodup) (hfp : ∀ k ∈ f1 ++ f2, fz k = none ∧ k < w.heap.size)
    (hβl : ∀ j h, β j = some h → j < sig.bl.length) (h : (sxFuncP C fuel f sig pe ps).wp C.ty F (d1 ++ d2) Q) :
    CallSem C.P f vs.toArray w (fun V w' => ∃ rs, Q 0 rs ∧ AftR C.ty sig.out sig.bl.length β fz (f1 ++ f2) w w' V rs) (fun V w' => ∃ o rs, sig.pan = some o ∧ Q 1 rs ∧ AftR C.ty o sig.bl.length β fz (f1 ++ f2) w w' V rs) := by
  simp only [poolSig, Bool.and_eq_true] at hps
  obtain ⟨⟨⟨⟨⟨p1, p2⟩, p3⟩, p4⟩, p5⟩, p6⟩ := hps
  have hfull := hfp
  have hfz := hg
  replace hg := hg.strip hD hgd
  replace r1 := ShRL_sw (w' := w) (β' := β) hD (strip_same (fz := fz)) p1 r1
  replace r2 : BlR C.ty (strip fz) w β sig.bl 0 d2 f2 := BlR_gone p2 r2
  replace hz : FzIn (strip fz) w := fun b o ho => hz b o ho
  replace hfp : ∀ k ∈ f1 ++ f2, (strip fz) k = none ∧ k < w.heap.size := hfp
  have goal : CallSem C.P f vs.toArray w (fun V w' => ∃ rs, Q 0 rs ∧ ∃ fz' β' vs d1 d2 g1 g2, rs = d1 ++ d2 ∧ V = tupVal vs ∧ ShRL C.ty fz' w' β' sig.out.vs vs d1 g1 ∧ BlR C.ty fz' w' β' sig.out.bl 0 d2 g2 ∧ (g1 ++ g2).Nodup ∧
    (∀ k ∈ g1 ++ g2, (w.heap.size ≤ k ∨ k ∈ f1 ++ f2) ∧ fz' k = none) ∧ BtLe β β' ∧ (∀ j h, β' j = some h → j < sig.out.bl.length) ∧ sig.bl.length ≤ sig.out.bl.length ∧
    FzLe (strip fz) fz' ∧ FzIn fz' w' ∧ (∀ k : Nat, fz' k ≠ none → (strip fz) k = none → w.heap.size ≤ k ∨ k ∈ f1 ++ f2) ∧ Belw (· ∈ f1 ++ f2) w w')
      (fun V w' => ∃ o rs, sig.pan = some o ∧ Q 1 rs ∧ ∃ fz' β' vs d1 d2 g1 g2, rs = d1 ++ d2 ∧ V = tupVal vs ∧ ShRL C.ty fz' w' β' o.vs vs d1 g1 ∧ BlR C.ty fz' w' β' o.bl 0 d2 g2 ∧ (g1 ++ g2).Nodup ∧
    (∀ k ∈ g1 ++ g2, (w.heap.size ≤ k ∨ k ∈ f1 ++ f2) ∧ fz' k = none) ∧ BtLe β β' ∧ (∀ j h, β' j = some h → j < o.bl.length) ∧ sig.bl.length ≤ o.bl.length ∧
    FzLe (strip fz) fz' ∧ FzIn fz' w' ∧ (∀ k : Nat, fz' k ≠ none → (strip fz) k = none → w.heap.size ≤ k ∨ k ∈ f1 ++ f2) ∧ Belw (· ∈ f1 ++ f2) w w') := ?goal
  · refine CallSem.mono goal ?_ ?_
    · rintro V w' ⟨rs, hq, ha⟩
      exact ⟨rs, hq, unstrip_aft hD p4 p5 ha⟩
    · rintro V w' ⟨o, rs, hp, hq, ha⟩
      rw [hp] at p6
      simp only [Bool.and_eq_true] at p6
      exact ⟨o, rs, hp, hq, unstrip_aft hD p6.1 p6.2 ha⟩
  clear hfull hfz
  have hkn : ∀ n : Nat, strip fz (.h n) = none := fun n => rfl
  generalize strip fz = fzs at *
  unfold sxFuncP at h
  split at h
  · rename_i args st hst
    unfold startOf at hst
    simp only at hst
    have hty : hasTyL C.ty (d1 ++ d2) (Sh.tysL sig.ins ++ ShB.tysL sig.bl) = true := hasTyL_append r1.tys r2.tys
    have hN : (Sh.tysL sig.ins ++ ShB.tysL sig.bl).length = d1.length + d2.length := by rw [← hasTyL_len hty, List.length_append]
    let ρN : Env := ⟨d1 ++ d2, (List.range sig.bl.length).map (fun j => ((β j).getD 0, .pointer none)), fzs⟩
    have hNb : ρN.bs.length = sig.bl.length := by simp [ρN]
    have hNi : ρN.is.length = (Sh.tysL sig.ins ++ ShB.tysL sig.bl).length := by simp only [ρN]; rw [List.length_append, hN]
    have hbN : ∀ j h, β j = some h → ρN.b j = h := by
      intro j hh hj
      have := hβl j hh hj
      simp only [Env.b, ρN, List.getD_eq_getElem?_getD, List.getElem?_map, List.getElem?_range this, Option.map_some, Option.getD_some, hj]
    have hbβ : ∀ j b h, (Tb.ofL (List.range sig.bl.length) 0 .e).get j = some b → β j = some h → ρN.b b = h ∧ b < ρN.bs.length := by
      intro j b hh hgt hj
      rcases get_ofL _ _ _ _ _ hgt with ⟨_, q⟩ | q
      · rw [Nat.sub_zero] at q
        have hi := (List.getElem?_eq_some_iff.1 q).1
        have hi2 := (List.getElem?_eq_some_iff.1 q).2
        simp only [List.length_range] at hi
        simp only [List.getElem_range] at hi2
        subst hi2
        exact ⟨hbN _ _ hj, by rw [hNb]; exact hi⟩
      · rw [Tb.get_e] at q; cases q
    have hext : Ext C.ty ρN (.of (Sh.tysL sig.ins ++ ShB.tysL sig.bl).length sig.bl.length) ρN := by
      have := Ext.refl (ty := C.ty) ρN
      rw [hNi, hNb] at this
      exact this
    have hc0 : CrS C.ty w ρN (.of (Sh.tysL sig.ins ++ ShB.tysL sig.bl).length sig.bl.length) ρN [] := ⟨hext, rfl, ⟨fun j e s a h => by simp [Bd.of] at h, fun j g h => by simp [Bd.of] at h, fun j g k h => by simp [Bd.of] at h, fun i j gi gj k h => by simp [Bd.of] at h⟩⟩
    split at hst
    · cases hst
    · rename_i svs c1 hcr
      split at hst
      · cases hst
      · rename_i bs c2 hcb
        cases hck : (Nat.beq c2.n c2.d.ni && Nat.beq c2.d.es.length 0 && SV.wfs c2.d.ni c2.d.nb svs && wfSOs c2.d.ni c2.d.nb (bs.map (·.2)) && wfSOs c2.d.ni c2.d.nb c2.d.gs && wfFs c2.d.ni c2.d.fs) <;> rw [hck] at hst <;> simp only [cond_true, cond_false] at hst
        · cases hst
        · cases hst
          simp only [Bool.and_eq_true] at hck
          have hwv := hck.1.1.1.2
          have hnd0 := hnd
          rw [List.nodup_append] at hnd
          obtain ⟨ρ2, k1, k2, k3, k4, k5, k6⟩ := (cr_all (w := w) hbβ 60).2.2 hcr hc0 r1 (fun j x hj => by
            simp only [ρN]
            rw [Nat.zero_add, List.getElem?_append_left (List.getElem?_eq_some_iff.1 hj).1]
            exact hj) (by simpa using hnd.1)
          obtain ⟨ρ3, fr, fb, m1, m2, m3, m4, m5, m6, m7⟩ := crB_ok (w := w) hbβ hcb k1 r2 (fun j x hj => by
            rw [k3]
            simp only [ρN]
            rw [Nat.zero_add, List.getElem?_append_right (by omega), show d1.length + j - d1.length = j by omega]
            exact hj) (by rw [List.nil_append, List.nodup_append]; exact hnd)
          rw [List.nil_append] at m1
          have hz3 : ρ3.fz = fzs := m1.ext.fz
          have hmem1 : ∀ k ∈ f1 ++ fr, k ∈ f1 ++ f2 := fun k hk => (List.mem_append.1 hk).elim (fun hk => List.mem_append_left _ hk) (fun hk => List.mem_append_right _ (m5 k hk))
          have hN3 := newR_of m1 m4 hmem1 (fun k hk => List.mem_append_right _ (m6 k hk)) (fun k hk hkb => (List.mem_append.1 hk).elim (fun hk => hnd.2.2 k hk k (m6 k hkb) rfl) (fun hk => m7 k hk hkb))
          have hm0 : Md C.ty C.pl (· ∈ f1 ++ f2) fzs w ρN ⟨.e, sig.bl.length, (Sh.tysL sig.ins ++ ShB.tysL sig.bl).length, [], []⟩ w :=
            ⟨Belw.refl _ _, hNi, hNb, (fun p hp => nomatch hp), (fun p hp => nomatch hp), hz, fun _ _ h => h, fun k h1 h2 => absurd h2 h1, (fun i o hi => by rw [Tb.get_e] at hi; cases hi), (fun i o k hi => by rw [Tb.get_e] at hi; cases hi), (fun i j oi oj k hi => by rw [Tb.get_e] at hi; cases hi), HkP.nil⟩
          have hT : Taken (· ∈ f1 ++ f2) w w ρN (.e : Tb SO) (f1 ++ f2) := ⟨hnd0, fun k hk => ⟨.inr hk, hfp k hk⟩, fun k hk => by rintro ⟨i, o, hi, _⟩; rw [Tb.get_e] at hi; cases hi⟩
          have hmd := hm0.create (w' := w) (df := []) hT (Belw.refl _ _) m1.ext.le (by rw [hz3]; exact hz) (fun k h1 h2 => absurd h2 (by rw [hz3] at h1; exact h1)) m1.ext.len m1.ext.lenb m1.ext.fs m1.ext.fw hN3 (fun k hk => ⟨.inr hk, by rw [hz3]; exact (hfp k hk).1⟩) (mem := bs.foldl (fun m x => m.put x.1 x.2) (pushG .e sig.bl.length c2.d.gs)) (fun i so hi => by
            rcases get_foldl hi with hi | hi
            · exact .inl (.inl hi)
            · rcases get_pushG _ _ _ _ _ hi with ⟨q1, q2⟩ | hi
              · exact .inl (.inr ⟨by rw [hNb]; exact q1, by rw [hNb]; exact q2⟩)
              · exact .inr hi) (hm0.hkk.create m1.ext.le (fun i so hi => by rw [Tb.get_e] at hi; cases hi) (fun n => by rw [hz3]) fun i so hi => by
            rcases get_foldl hi with hi | hi
            · exact .inl (crB_np hcb _ hi)
            · rcases get_pushG _ _ _ _ _ hi with ⟨_, q2⟩ | hi
              · exact .inl (CrS.np m1 (List.mem_of_getElem? q2))
              · exact .inr hi)
          rw [List.append_nil] at hmd
          split at h
          case h_2 => exact h.elim
          rename_i hq1 hq2
          replace hmd := hmd.pool0 hpl hq1 (blt_nat hq2) (fun n => by rw [hz3]; exact hkn n) pe ps
          have hwv2 : SV.wfs ρ2.is.length ρ2.bs.length args = true := by rw [k1.ext.len, k1.ext.lenb]; exact k6
          have hdens : SV.dens ρ3 args = vs := by rw [SV.dens_app m2 hwv2, k4]
          have hg3 : GOk C.ty C.gl fzs := hg
          have his : ρ3.is = d1 ++ d2 := m1.is
          rw [← his] at h
          unfold sxRun at h
          split at h
          · rename_i fn hf
            split at h
            · rename_i c hb
              cases hn : (fn.name == "runtime.NumGoroutine") <;> rw [hn] at h <;> simp only [cond_true, cond_false] at h
              · rw [← hdens]
                refine .inl ⟨run_callFunc_enter hf hb hn w, calls_of_wp_defers hf hb ?_⟩
                obtain ⟨s1, s2, s3, s4⟩ := sx_all H fuel
                refine (s1 0 f c _ _ _ ρ3 w _ (bodyPostD C.P fn _) _ fzs w Q hg3 hmd (frame_ok (st := ⟨_, c2.d.nb, c2.d.ni, c2.d.fs, []⟩) hwv (SV.tys_app m2 hwv2 k5)) trivial (fun fn' hf' => ?_) h fun e ρ' st' w' tm' a' hle hm' ht' hdf' hsz hok hd => ?_).1
                · rw [hf] at hf'; cases hf'
                  simp; omega
                · have hlN : ρN.le ρ' := Env.le_trans m1.ext.le hle
                  have hk1 : KVn C.ty C.pl F Q (· ∈ f1 ++ f2) fzs w ρ' (fun V w' => ∃ rs, Q 0 rs ∧ ∃ fz' β' vs d1 d2 g1 g2, rs = d1 ++ d2 ∧ V = tupVal vs ∧ ShRL C.ty fz' w' β' sig.out.vs vs d1 g1 ∧ BlR C.ty fz' w' β' sig.out.bl 0 d2 g2 ∧ (g1 ++ g2).Nodup ∧ (∀ k ∈ g1 ++ g2, (w.heap.size ≤ k ∨ k ∈ f1 ++ f2) ∧ fz' k = none) ∧ BtLe β β' ∧ (∀ j h, β' j = some h → j < sig.out.bl.length) ∧ sig.bl.length ≤ sig.out.bl.length ∧ FzLe fzs fz' ∧ FzIn fz' w' ∧ (∀ k : Nat, fz' k ≠ none → fzs k = none → w.heap.size ≤ k ∨ k ∈ f1 ++ f2) ∧ Belw (· ∈ f1 ++ f2) w w') (retK C 0 sig.bl.length sig.out) := fun ρ'' st'' w'' v hl hm'' hv hd => retK_okP H.ty (ρN := ρN) (fun j hh hj => ⟨hβl j hh hj, hbN j hh hj⟩) (by rw [hNb]; exact Nat.le_refl _) (Env.le_trans hlN hl) hm'' hv hd
                  have hk2 : KPn C.ty C.pl F Q (· ∈ f1 ++ f2) fzs w ρ' (fun V w' => ∃ o rs, sig.pan = some o ∧ Q 1 rs ∧ ∃ fz' β' vs d1 d2 g1 g2, rs = d1 ++ d2 ∧ V = tupVal vs ∧ ShRL C.ty fz' w' β' o.vs vs d1 g1 ∧ BlR C.ty fz' w' β' o.bl 0 d2 g2 ∧ (g1 ++ g2).Nodup ∧ (∀ k ∈ g1 ++ g2, (w.heap.size ≤ k ∨ k ∈ f1 ++ f2) ∧ fz' k = none) ∧ BtLe β β' ∧ (∀ j h, β' j = some h → j < o.bl.length) ∧ sig.bl.length ≤ o.bl.length ∧ FzLe fzs fz' ∧ FzIn fz' w' ∧ (∀ k : Nat, fz' k ≠ none → fzs k = none → w.heap.size ≤ k ∨ k ∈ f1 ++ f2) ∧ Belw (· ∈ f1 ++ f2) w w') (match sig.pan with
                      | some o => retK C 1 sig.bl.length o
                      | none => fun _ _ => .fail 357) := fun ρ'' st'' w'' v hl hm'' hv hwf hd => by
                    cases hp : sig.pan with
                    | none => rw [hp] at hd; exact hd.elim
                    | some o =>
                      rw [hp] at hd
                      obtain ⟨rs, q1, q2⟩ := retK_okP H.ty (ρN := ρN) (fun j hh hj => ⟨hβl j hh hj, hbN j hh hj⟩) (by rw [hNb]; exact Nat.le_refl _) (Env.le_trans hlN hl) hm'' hv hd
                      exact ⟨o, rs, rfl, q1, q2⟩
                  cases e with
                  | norm => exact s4 0 fn tm' none st'.df st' _ _ ρ' w' a' a'.defers .returning _ _ _ fzs w Q hg3 hm' ht' hdf' rfl hd hk1 hk2
                  | ret => exact s4 0 fn tm' none st'.df st' _ _ ρ' w' a' a'.defers .returning _ _ _ fzs w Q hg3 hm' ht' hdf' rfl hd hk1 hk2
                  | exit i => exact hd.elim
                  | panic v => exact s4 0 fn tm' (some v) st'.df st' _ _ ρ' w' a' a'.defers _ _ _ _ fzs w Q hg3 hm' ht' hdf' ⟨hok.2, hok.1, rfl⟩ hd hk1 hk2
              · exact h.elim
            · exact h.elim
          · exact h.elim
  · exact h.elim
end
end Go.SY
set_option linter.unusedVariables false
set_option linter.unusedSimpArgs false
namespace Go.SY
open Go Go.RowKit
noncomputable section
def Pg.cfgP (X : Pg) (l : List Ct) (un : Nat → Bool) (ow : Nat → List Nat) (mv : Bool) (lv : Lv) : Cfg := ⟨X.P, X.ty, X.gl, spOf l, un, ow, mv, true, lv⟩
theorem ent_ofP {X : Pg} (hX : X.Ok) {l : List Ct} (hn : numsOk l = true) (h : ∀ e ∈ l, Ent X e) {un : Nat → Bool} {ow : Nat → List Nat} {mv : Bool} {lv : Lv} (hlv : LvOk X lv) {D : List TypeId} (hD : dataD X.ty D D = true) (hgd : gdD D X.gl.dt = true)
    {fuel f g : Nat} {sig : Sig} (hps : poolSig D sig = true) {pe ps : Nat} {t : T} {s : Spec} (ht : sxFuncP (X.cfgP l un ow mv lv) fuel f sig pe ps = t) (hm : SMono s)
    (hs : ∀ is Q, hasTyL X.ty is (Sh.tysL sig.ins ++ ShB.tysL sig.bl) = true → s is Q → t.wp X.ty (fOf l) is Q) : Ent X (f, g, sig, s) := by
  refine ⟨?_, hm⟩
  intro fz w β vs d1 d2 f1 f2 Q hg hz r1 r2 hnd hfp hβ hF
  have H : Hyp (X.cfgP l un ow mv lv) (fOf l) := ⟨hX.ty, hX.mix, con_of hn h, fOf_mono fun e he => (h e he).2, lit_of hn hlv rfl⟩
  refine run_okP (C := X.cfgP l un ow mv lv) (F := fOf l) (fuel := fuel) (D := D) H rfl hD hgd hps (pe := pe) (ps := ps) hg hz r1 r2 hnd hfp hβ ?_
  rw [ht]
  exact hs _ _ (hasTyL_append r1.tys r2.tys) hF
def fe0 (l : List Nat) : EvF := fun f args => match args with
  | [] => bif Nat.beq f litG || memN f l then some (0, []) else none
  | _ => none
def lits (l : List (Nat × Nat × Sig)) : List Ct := l.map fun e => (e.1, e.2.1, e.2.2, s0)
theorem fe0_ok {l : List (Nat × Nat × Sig)} (hn : numsOk (lits l) = true) : ∀ f args c r (Q : Post), fe0 (l.map (·.2.1)) f args = some (c, r) → Q c r → fOf (lits l) f args Q := by
  intro f args c r Q h hQ
  unfold fe0 at h
  split at h
  · cases hb : (Nat.beq f litG || memN f (l.map (·.2.1))) <;> rw [hb] at h <;> simp only [cond_true, cond_false] at h
    · cases h
    · cases h
      rw [Bool.or_eq_true] at hb
      rcases hb with hb | hb
      · rw [Nat.eq_of_beq_eq_true hb]
        exact (fOf_lit hn [] Q).2 ⟨rfl, hQ⟩
      · obtain ⟨e, he, rfl⟩ := List.mem_map.1 (memN_mem hb)
        exact (fOf_get hn (List.mem_map.2 ⟨e, he, rfl⟩ : (e.1, e.2.1, e.2.2, s0) ∈ lits l) [] Q).2 ⟨rfl, hQ⟩
  · cases h
theorem ev_run {ty : Ty} {l : List (Nat × Nat × Sig)} (hn : numsOk (lits l) = true) {t : T} (h : t.ev (fe0 (l.map (·.2.1))) 1 ⟨[], 0⟩ = some (0, [])) {is : List Dt} {Q : Post} (hs : s0 is Q) : t.wp ty (fOf (lits l)) is Q := by
  obtain ⟨rfl, hQ⟩ := hs
  rw [T.ev_eqC] at h
  exact T.evC_ok (fe0_ok hn) t ⟨[], 0⟩ 0 [] Q rfl h hQ
theorem ents_lits {X : Pg} {l : List (Nat × Nat × Sig)} (h : ∀ e ∈ l, Ent X (e.1, e.2.1, e.2.2, s0)) : ∀ e ∈ lits l, Ent X e := fun e he => by
  obtain ⟨x, hx, rfl⟩ := List.mem_map.1 he
  exact h x hx
theorem ent_run {X : Pg} (hX : X.Ok) {l : List (Nat × Nat × Sig)} (hn : numsOk (lits l) = true) (h : ∀ e ∈ l, Ent X (e.1, e.2.1, e.2.2, s0)) {mv : Bool} {lv : Lv} (hlv : LvOk X lv) {f g : Nat} {sig : Sig}
    (hr : (sxFunc (X.cfgL (lits l) unAll noOw mv lv) 400 f sig).ev (fe0 (l.map (·.2.1))) 1 ⟨[], 0⟩ = some (0, [])) : Ent X (f, g, sig, s0) :=
  ent_ofL hX hn (ents_lits h) hlv rfl s0_mono fun is Q _ hs => ev_run hn hr hs
theorem ent_runP {X : Pg} (hX : X.Ok) {l : List (Nat × Nat × Sig)} (hn : numsOk (lits l) = true) (h : ∀ e ∈ l, Ent X (e.1, e.2.1, e.2.2, s0)) {mv : Bool} {lv : Lv} (hlv : LvOk X lv) {D : List TypeId} (hD : dataD X.ty D D = true) (hgd : gdD D X.gl.dt = true)
    {f g : Nat} {sig : Sig} (hps : poolSig D sig = true) {pe ps : Nat}
    (hr : (sxFuncP (X.cfgP (lits l) unAll noOw mv lv) 400 f sig pe ps).ev (fe0 (l.map (·.2.1))) 1 ⟨[], 0⟩ = some (0, [])) : Ent X (f, g, sig, s0) :=
  ent_ofP hX hn (ents_lits h) hlv hD hgd hps rfl s0_mono fun is Q _ hs => ev_run hn hr hs
end
end Go.SY
