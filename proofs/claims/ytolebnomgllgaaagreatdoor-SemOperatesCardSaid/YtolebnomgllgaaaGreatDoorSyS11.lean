/- The symbolic executor SY, its soundness, part 11: trees; cells as data; loads. -/
import Derived.Test.YtolebnomgllgaaaGreatDoorSyS10
set_option linter.unusedVariables false
set_option linter.unusedSimpArgs false
namespace Go.SY
open Go Go.RowKit
noncomputable section
variable {F : Nat → List Dt → Post → Prop} {Q : Post}
variable {P : Program} {ty : Ty} {pl : Bool} {fz fz' : Fz} {G : Nat → Prop} {fz0 : Fz} {w0 w w' : World} {ρ ρ' ρ1 ρ1' : Env} {st : St} {d : Bd} {tm : Tm} {a : Act}
theorem wp_lts : ∀ (es : List (Option TypeId × E)) (t : T) (is : List Dt), (T.lts es t).wp ty F is Q → esTy ty is es → t.wp ty F (extP is es) Q
  | [], t, is, h, _ => h
  | e :: es, t, is, h, ht => by
    simp only [T.lts, T.wp] at h
    exact wp_lts es t _ (h ht.1) ht.2
def stD (st : St) (d : Bd) : St := { st with ni := d.ni, nb := d.nb, mem := pushG st.mem st.nb d.gs, pc := d.fs ++ st.pc }
theorem bindD_gh {k : St → T} (h : (bindD st d k).wp ty F ρ.is Q) : allGh d.gs = true ∧ (T.lts d.es (k (stD st d))).wp ty F ρ.is Q := by
  unfold bindD at h
  simp only [frc_eq] at h
  cases hc : (wfEs st.ni d.es && Nat.beq d.ni (st.ni + d.es.length) && Nat.beq d.nb (st.nb + d.gs.length) && wfSOs d.ni d.nb d.gs && wfFs d.ni d.fs && allGh d.gs) <;> rw [hc] at h <;> simp only [cond_true, cond_false] at h
  · exact h.elim
  · simp only [Bool.and_eq_true] at hc
    exact ⟨hc.2, h⟩
theorem bindD_ok {k : St → T} (hm : Md ty pl G fz0 w0 ρ st w) (he : Ext ty ρ d ρ1) (h : (bindD st d k).wp ty F ρ.is Q) : Md ty pl G fz0 w0 ρ1 (stD st d) w ∧ (k (stD st d)).wp ty F ρ1.is Q := by
  obtain ⟨h1, h2⟩ := bindD_gh h
  refine ⟨hm.ext he h1, ?_⟩
  rw [he.is]
  exact wp_lts _ _ _ h2 he.et
theorem condB_ok {c : B} {k : Bool → St → T} (hm : Md ty pl G fz0 w0 ρ st w) (h : (condB c st k).wp ty F ρ.is Q) : ∃ b p, c.den ρ.is = b ∧ Md ty pl G fz0 w0 ρ { st with pc := p } w ∧ (k b { st with pc := p }).wp ty F ρ.is Q := by
  unfold condB at h
  split at h
  · rename_i b hb
    exact ⟨b, st.pc, B.infer_ok hm.hpc hb, hm, h⟩
  · cases hw : c.wf st.ni <;> rw [hw] at h <;> simp only [cond_true, cond_false] at h
    · exact h.elim
    · simp only [T.wp] at h
      cases hc : c.den ρ.is
      · rw [hc] at h
        simp only [Bool.false_eq_true, if_false] at h
        exact ⟨false, _, rfl, hm.assume hw hc, h⟩
      · rw [hc] at h
        simp only [if_true] at h
        exact ⟨true, _, rfl, hm.assume hw hc, h⟩
theorem putT_ok {t : Option Tmp} {v : SV} {k : Tm → St → T} (ht : TmOk ρ st.ni st.nb tm a) (h : (putT tm t v st k).wp ty F ρ.is Q) (hv : v.ty ρ) {x : Value} (hx : x = v.den ρ) :
    ∃ tm', TmOk ρ st.ni st.nb tm' (a.put t x) ∧ (k tm' st).wp ty F ρ.is Q := by
  unfold putT at h
  split at h
  · exact ⟨tm, ht, h⟩
  · rename_i t
    split at h
    · rename_i u hu
      cases hw : v.wf st.ni st.nb <;> rw [hw] at h <;> simp only [cond_true, cond_false] at h
      · exact h.elim
      · exact ⟨_, ht.put hu (.inr hw) (.inr ⟨hv, hx⟩), h⟩
    · exact h.elim
theorem Md.tmok {st' : St} (hm : Md ty pl G fz0 w0 ρ st w) (hm' : Md ty pl G fz0 w0 ρ' st' w') (hl : ρ.le ρ') (ht : TmOk ρ st.ni st.nb tm a) : TmOk ρ' st'.ni st'.nb tm a := by
  rw [← hm.hni, ← hm.hnb] at ht
  have := ht.app hl
  rw [hm'.hni, hm'.hnb] at this
  exact this
theorem Md.gmem (hm : Md ty pl G fz0 w0 ρ st w) : ∀ i o, st.mem.get i = some o → i < st.nb ∧ o.wf st.ni st.nb = true ∧ GhOk ty ρ i o := fun i o h => ⟨(hm.mem i o h).1, (hm.mem i o h).2.1, (hm.mem i o h).2.2.1⟩
theorem Md.px {C : Cfg} (hm : Md C.ty C.pl G fz0 w0 ρ st w) (ht : TmOk ρ st.ni st.nb tm a) : Px ρ (puOf C tm st) a := ⟨hm.hni, hm.hnb, ht, rfl, fun _ => hm.hpc, hm.gmem, hm.hkk.ok⟩
theorem Md.pxc {C : Cfg} (hm : Md C.ty C.pl G fz0 w0 ρ st w) (ht : TmOk ρ st.ni st.nb tm a) {c : B} (hc : c.wf st.ni = true) : Px ρ ⟨C.ty, st.mem, tm, st.ni, st.nb, c.facts true ++ st.pc, c, C.gl.dt⟩ a :=
  ⟨hm.hni, hm.hnb, ht, hc, fun h => PcOk.append (B.facts_ok _ _ _ h) hm.hpc, hm.gmem, hm.hkk.ok⟩
theorem Md.ext0 (hm : Md ty pl G fz0 w0 ρ st w) : Ext ty ρ st.bd ρ := by
  have := Ext.refl (ty := ty) ρ
  rw [hm.hni, hm.hnb] at this
  exact this
theorem Md.wfA (hm : Md ty pl G fz0 w0 ρ st w) (he : Ext ty ρ d ρ1) {x : A} (hx : x.wf st.ni = true) : x.wf d.ni = true ∧ x.den ρ1.is = x.den ρ.is := he.wfA (by rw [hm.hni]; exact hx)
structure FsR (ty : Ty) (pl : Bool) (G : Nat → Prop) (fz0 : Fz) (w0 : World) (st : St) (w : World) (ρ ρ1 : Env) (f : Fs) : Prop where
  hm : Md ty pl G fz0 w0 ρ { st with mem := f.mem } w
  he : Ext ty ρ f.d ρ1
structure Env.fl (ρ ρ' : Env) : Prop where
  is : ρ'.is = ρ.is
  bs : ρ'.bs = ρ.bs
  fz : FzLe ρ.fz ρ'.fz
theorem Env.fl.refl (ρ : Env) : ρ.fl ρ := ⟨rfl, rfl, fun _ _ h => h⟩
theorem Env.fl.trans {a b c : Env} (h : a.fl b) (k : b.fl c) : a.fl c := ⟨k.is.trans h.is, k.bs.trans h.bs, fun b o x => k.fz b o (h.fz b o x)⟩
theorem Env.fl.le (h : ρ.fl ρ') : ρ.le ρ' := ⟨⟨[], by simp [h.is]⟩, ⟨[], by simp [h.bs]⟩, h.fz⟩
theorem SV.den_fl (h : ρ.fl ρ') {v : SV} {ni nb : Nat} (hn : ρ.is.length = ni) (hb : ρ.bs.length = nb) (hw : v.wf ni nb = true) : v.den ρ' = v.den ρ := SV.den_app h.le (by rw [hn, hb]; exact hw)
theorem Ext.fl (h : Ext ty ρ d ρ1) (hl : ρ.fl ρ') : ∃ ρ1', Ext ty ρ' d ρ1' ∧ ρ1.fl ρ1' := by
  have hf : ρ1.fl { ρ1 with fz := ρ'.fz } := ⟨rfl, rfl, fun b o hb => hl.fz b o (by rw [← h.fz]; exact hb)⟩
  refine ⟨{ ρ1 with fz := ρ'.fz }, ⟨by rw [hl.is]; exact h.ni, by rw [hl.bs]; exact h.nb, by rw [hl.is]; exact h.is, by rw [hl.bs]; exact h.bs, rfl, by rw [hl.is]; exact h.et, h.gw, fun j g hg => ?_, h.fw, h.fs⟩, hf⟩
  rw [hl.bs]
  have hlt := (List.getElem?_eq_some_iff.1 hg).1
  refine GhOk.app hf.le ?_ ?_ (h.gs j g hg)
  · rw [h.lenb, h.nb]; omega
  · rw [h.len, h.lenb]; exact h.gw g (List.mem_of_getElem? hg)
theorem litsOf_ok : ∀ {l : List A} {x : List Dt}, litsOf l = some x → ∀ is, l.map (·.den is) = x
  | [], x, h, is => by simp only [litsOf] at h; cases h; rfl
  | y :: l, x, h, is => by
    cases y <;> simp only [litsOf] at h <;> first
      | (cases h; done)
      | (split at h <;> cases h
         rename_i r hr
         simp only [List.map_cons, A.den, litsOf_ok hr is])
theorem sameFld_ok {x : A} : ∀ {l : List A} {j : Nat}, sameFld x l j = true → ∀ (i : Nat) y, l[i]? = some y → y = .fld x (j + i)
  | [], _, _, i, y, h => by simp at h
  | z :: l, j, hs, i, y, h => by
    cases z <;> simp only [sameFld, Bool.and_eq_true] at hs <;> first
      | (cases hs; done)
      | skip
    obtain ⟨⟨h1, h2⟩, h3⟩ := hs
    cases i with
    | zero => simp at h; subst h; rw [← beq_nat h1, A.beq_eq h2]; rfl
    | succ i =>
      have := sameFld_ok h3 i y (by simpa using h)
      rw [this]; congr 1; omega
theorem etaA_ok {is : List Dt} {pc : List (B × Bool)} (hp : PcOk is pc) {l : List A} {x : A} (h : etaA pc l = some x) : x.den is = .tup (l.map (·.den is)) := by
  unfold etaA at h
  split at h
  · rename_i y i r
    cases hc : (sameFld y (A.fld y i :: r) 0 && knownIs pc (.shp y (A.fld y i :: r).length) true) <;> rw [hc] at h <;> simp only [cond_true, cond_false] at h <;> cases h
    simp only [Bool.and_eq_true] at hc
    have h1 := knownIs_ok hp hc.2
    simp only [B.den] at h1
    cases hx : x.den is <;> rw [hx] at h1 <;> simp only [Dt.isShp] at h1 <;> (try (cases h1; done))
    rename_i z
    have hz := beq_nat h1
    congr 1
    apply List.ext_getElem?
    intro j
    by_cases hj : j < z.length
    · have hj2 : j < (A.fld x i :: r).length := by omega
      have e1 := sameFld_ok hc.1 j _ (List.getElem?_eq_getElem hj2)
      rw [List.getElem?_map, List.getElem?_eq_getElem hj2, e1, Option.map_some, Nat.zero_add]
      simp [A.den, hx, Dt.fld, Dt.list, hj]
    · rw [List.getElem?_eq_none (by omega), List.getElem?_eq_none (by rw [List.length_map]; omega)]
  · cases h
theorem etaA_wf {pc : List (B × Bool)} {n : Nat} {l : List A} {x : A} (hl : ∀ y ∈ l, y.wf n = true) (h : etaA pc l = some x) : x.wf n = true := by
  unfold etaA at h
  split at h
  · rename_i y i r
    cases hc : (sameFld y (A.fld y i :: r) 0 && knownIs pc (.shp y (A.fld y i :: r).length) true) <;> rw [hc] at h <;> simp only [cond_true, cond_false] at h <;> cases h
    exact hl (.fld x i) (.head _)
  · cases h
theorem mkTup_ok {pc : List (B × Bool)} (hpc : PcOk ρ1.is pc) (he : Ext ty ρ d ρ1) {l : List A} (hl : ∀ y ∈ l, y.wf d.ni = true) :
    ∃ ρ2, Ext ty ρ (mkTup pc l d).2 ρ2 ∧ ρ1.le ρ2 ∧ (mkTup pc l d).1.den ρ2.is = .tup (l.map (·.den ρ1.is)) ∧ (mkTup pc l d).1.wf (mkTup pc l d).2.ni = true ∧ (mkTup pc l d).2.gs = d.gs := by
  unfold mkTup
  split
  · rename_i x hx
    exact ⟨ρ1, he, Env.le_refl _, by simp only [A.den, litsOf_ok hx], rfl, rfl⟩
  · split
    · rename_i x hx
      exact ⟨ρ1, he, Env.le_refl _, etaA_ok hpc hx, etaA_wf hl hx, rfl⟩
    · obtain ⟨ρ2, h1, h2, h3, h4⟩ := he.bind (.mk l)
      refine ⟨ρ2, h1, h2, h3, h4, ?_⟩
      unfold Bd.bind Bd.bindT
      cases (E.mk l).lit <;> rfl
theorem boolA_ok {b : B} (he : Ext ty ρ d ρ1) (hb : b.wf ρ.is.length = true) (ht : b.tyd ρ.is) :
    ∃ ρ2, Ext ty ρ (boolA b d).2 ρ2 ∧ ρ1.le ρ2 ∧ (boolA b d).1.den ρ2.is = .tru (b.den ρ.is) ∧ (boolA b d).1.wf (boolA b d).2.ni = true ∧ (boolA b d).2.gs = d.gs := by
  unfold boolA
  split
  · exact ⟨ρ1, he, Env.le_refl _, rfl, rfl, rfl⟩
  · rename_i x
    obtain ⟨t, hx⟩ := ht
    have := he.wfA (by simpa [B.wf] using hb : x.wf ρ.is.length = true)
    exact ⟨ρ1, he, Env.le_refl _, by rw [this.2, hx]; simp only [B.den, hx, Dt.bool], this.1, rfl⟩
  · obtain ⟨ρ2, h1, h2, h3, h4⟩ := he.bind (.boo b)
    refine ⟨ρ2, h1, h2, by rw [h3]; simp only [E.den, (he.wfB hb).2], h4, ?_⟩
    unfold Bd.bind Bd.bindT
    cases (E.boo b).lit <;> rfl
def ToR (ty : Ty) (pl : Bool) (G : Nat → Prop) (fz0 : Fz) (w0 : World) (st : St) (w : World) (ρ ρ1 : Env) (f f' : Fs) (R : Env → Env → Prop) : Prop :=
  ∃ ρ' ρ1', FsR ty pl G fz0 w0 st w ρ' ρ1' f' ∧ ρ.fl ρ' ∧ ρ1.le ρ1' ∧ f'.d.gs = f.d.gs ∧ f.d.ni ≤ f'.d.ni ∧ R ρ' ρ1'
theorem slD_ok (hty : TyOk P ty) {f f' : Fs} (hf : FsR ty pl G fz0 w0 st w ρ ρ1 f) {pc : List (B × Bool)} (hpc : PcOk ρ.is pc) {t e s b : Nat} (ht : tdOf ty t = .slice e s) {x : A} (h : slD ty pc t e s b f = some (x, f')) :
    ToR ty pl G fz0 w0 st w ρ ρ1 f f' fun ρ' ρ1' => x.wf st.ni = true ∧ rep ty ρ'.fz (x.den ρ.is) t [ρ.val b] := by
  unfold slD at h
  split at h
  · rename_i c t' xa hb
    obtain ⟨_, hw, hg, _⟩ := hf.hm.mem b _ hb
    simp only [SO.wf, Bool.and_eq_true] at hw
    split at h
    · rename_i e' s' ht'
      cases hk : (Nat.beq e e' && knownIs pc c true) <;> rw [hk] at h <;> simp only [cond_true, cond_false] at h <;> cases h
      simp only [Bool.and_eq_true] at hk
      have := beq_nat hk.1
      subst this
      exact ⟨ρ, ρ1, hf, .refl _, Env.le_refl _, rfl, Nat.le_refl _, hw.2, rep_retype hty ht ht' (hg (knownIs_ok hpc hk.2))⟩
    · cases h
  · rename_i e' s' xa hb
    cases hk : (Nat.beq e e' && Nat.beq s s') <;> rw [hk] at h <;> simp only [cond_true, cond_false] at h <;> cases h
    simp only [Bool.and_eq_true] at hk
    have h1 := beq_nat hk.1
    have h2 := beq_nat hk.2
    subst h1; subst h2
    obtain ⟨_, hw, _, _⟩ := hf.hm.mem b _ hb
    obtain ⟨fz', g1, g2, g3⟩ := hf.hm.freeze hty hb ht rfl
    have hl : ρ.fl { ρ with fz := fz' } := ⟨rfl, rfl, g1⟩
    obtain ⟨ρ1', k1, k2⟩ := hf.he.fl hl
    exact ⟨{ ρ with fz := fz' }, ρ1', ⟨g3, k1⟩, hl, k2.le, rfl, Nat.le_refl _, hw, g2⟩
  · cases h
theorem hnD_ok {f f' : Fs} (hf : FsR ty pl G fz0 w0 st w ρ ρ1 f) {pc : List (B × Bool)} (hpc : PcOk ρ.is pc) {t b : Nat} {x : A} (h : hnD pc t b f = some (x, f')) :
    ToR ty pl G fz0 w0 st w ρ ρ1 f f' fun ρ' ρ1' => x.wf st.ni = true ∧ rep ty ρ'.fz (x.den ρ.is) t [ρ.val b] := by
  unfold hnD at h
  split at h
  · rename_i c t' xa hb
    obtain ⟨_, hw, hg, _⟩ := hf.hm.mem b _ hb
    simp only [SO.wf, Bool.and_eq_true] at hw
    cases hk : (Nat.beq t t' && knownIs pc c true) <;> rw [hk] at h <;> simp only [cond_true, cond_false] at h <;> cases h
    simp only [Bool.and_eq_true] at hk
    have := beq_nat hk.1
    subst this
    exact ⟨ρ, ρ1, hf, .refl _, Env.le_refl _, rfl, Nat.le_refl _, hw.2, hg (knownIs_ok hpc hk.2)⟩
  · cases h
theorem PcOk.fl {pc : List (B × Bool)} (h : ρ.fl ρ') (hp : PcOk ρ.is pc) : PcOk ρ'.is pc := by rw [h.is]; exact hp
theorem SV.dens_fl (h : ρ.fl ρ') {l : List SV} {ni nb : Nat} (hn : ρ.is.length = ni) (hb : ρ.bs.length = nb) (hw : SV.wfs ni nb l = true) : SV.dens ρ' l = SV.dens ρ l := SV.dens_app h.le (by rw [hn, hb]; exact hw)
theorem take_mem {l r : List SV} {m n : Nat} (h : takeN n (dropN m l) = some r) : (∀ v ∈ r, v ∈ l) ∧ r.length = n ∧ m + n ≤ l.length + (if n = 0 then m else 0) ∧ ∀ ρ, SV.dens ρ r = ((SV.dens ρ l).drop m).take n := by
  rw [dropN_eq] at h
  obtain ⟨h1, rfl⟩ := takeN_eq _ _ _ h
  rw [List.length_drop] at h1
  refine ⟨fun v hv => List.mem_of_mem_drop (List.mem_of_mem_take hv), by simp; omega, by split <;> omega, fun ρ => by rw [dens_take, dens_drop]⟩
theorem toD_all (hty : TyOk P ty) {pc : List (B × Bool)} (n : Nat) :
    (∀ {t : TypeId} {cs : List SV} {f f' : Fs} {x : A} {ρ ρ1 : Env}, toD ty pc n t cs f = some (x, f') → FsR ty pl G fz0 w0 st w ρ ρ1 f → PcOk ρ.is pc → (∀ p ∈ pc, p.1.wf st.ni = true) → SV.wfs st.ni st.nb cs = true → allCell cs = true → SV.tys ρ cs →
      ToR ty pl G fz0 w0 st w ρ ρ1 f f' fun ρ' ρ1' => x.wf f'.d.ni = true ∧ rep ty ρ'.fz (x.den ρ1'.is) t (SV.dens ρ cs)) ∧
    (∀ {gs : List (Nat × Nat × Nat)} {cs : List SV} {f f' : Fs} {l : List A} {ρ ρ1 : Env}, toDF ty pc n gs cs f = some (l, f') → FsR ty pl G fz0 w0 st w ρ ρ1 f → PcOk ρ.is pc → (∀ p ∈ pc, p.1.wf st.ni = true) → SV.wfs st.ni st.nb cs = true → allCell cs = true → SV.tys ρ cs →
      ToR ty pl G fz0 w0 st w ρ ρ1 f f' fun ρ' ρ1' => (∀ y ∈ l, y.wf f'.d.ni = true) ∧ repF ty ρ'.fz (l.map (·.den ρ1'.is)) gs (SV.dens ρ cs)) ∧
    (∀ {m : Nat} {e : TypeId} {s : Nat} {cs : List SV} {f f' : Fs} {l : List A} {ρ ρ1 : Env}, toDA ty pc n m e s cs f = some (l, f') → FsR ty pl G fz0 w0 st w ρ ρ1 f → PcOk ρ.is pc → (∀ p ∈ pc, p.1.wf st.ni = true) → SV.wfs st.ni st.nb cs = true → allCell cs = true → SV.tys ρ cs →
      ToR ty pl G fz0 w0 st w ρ ρ1 f f' fun ρ' ρ1' => (∀ y ∈ l, y.wf f'.d.ni = true) ∧ l.length = m ∧ repA ty ρ'.fz (l.map (·.den ρ1'.is)) e s (SV.dens ρ cs)) := by
  induction n with
  | zero => exact ⟨fun h => by simp [toD] at h, fun h => by simp [toDF] at h, fun h => by simp [toDA] at h⟩
  | succ n ih =>
    have same : ∀ {f : Fs} {ρ ρ1 : Env} {R : Env → Env → Prop}, FsR ty pl G fz0 w0 st w ρ ρ1 f → R ρ ρ1 → ToR ty pl G fz0 w0 st w ρ ρ1 f f R := fun hf hr => ⟨_, _, hf, .refl _, Env.le_refl _, rfl, Nat.le_refl _, hr⟩
    refine ⟨?_, ?_, ?_⟩
    · intro t cs f f' x ρ ρ1 h hf hpc hpw hw ha ht
      have hni := hf.hm.hni
      have hnb := hf.hm.hnb
      simp only [toD] at h
      split at h
      · rename_i k k' y htd
        cases hk : kindEq k k' <;> rw [hk] at h <;> simp only [cond_true, cond_false] at h <;> cases h
        cases kindEq_eq hk
        simp only [SV.wfs, SV.wf, Bool.and_true] at hw
        obtain ⟨m, h1, h2⟩ := ht.1
        have := hf.he.wfA (by rw [hni]; exact hw)
        refine same hf ⟨this.1, ?_⟩
        rw [this.2, h1]
        simp only [rep]
        exact .inl ⟨k, htd, by simp [SV.dens, SV.den, A.int, h1, Dt.int], h2⟩
      · rename_i b htd
        cases h
        simp only [SV.wfs, SV.wf, Bool.and_true] at hw
        obtain ⟨ρ2, g1, g2, g3, g4, g5⟩ := boolA_ok hf.he (by rw [hni]; exact hw) ht.1
        refine ⟨ρ, ρ2, ⟨hf.hm, g1⟩, .refl _, g2, g5, (hf.he.mono_ni g1 g2).1, g4, ?_⟩
        rw [g3]
        simp only [rep]
        exact ⟨htd, by simp [SV.dens, SV.den]⟩
      · rename_i y htd
        cases h
        simp only [SV.wfs, SV.wf, Bool.and_true] at hw
        obtain ⟨m, h1, h2⟩ := ht.1
        have := hf.he.wfA (by rw [hni]; exact hw)
        refine same hf ⟨this.1, ?_⟩
        rw [this.2, h1]
        simp only [rep]
        exact ⟨htd, by simp [SV.dens, SV.den, h1, Dt.str], h2⟩
      · rename_i e s htd
        cases h
        refine same hf ⟨rfl, ?_⟩
        simp only [A.den, rep]
        exact ⟨⟨_, _, htd⟩, by simp [SV.dens, SV.den]⟩
      · rename_i e s b htd
        obtain ⟨ρ', ρ1', g1, g2, g3, g4, g5, g6, g7⟩ := slD_ok hty hf hpc htd h
        have hx := g1.he.wfA (by rw [g2.is, hni]; exact g6)
        refine ⟨ρ', ρ1', g1, g2, g3, g4, g5, hx.1, ?_⟩
        rw [hx.2, g2.is]
        simpa [SV.dens, SV.den] using g7
      · rename_i e s b htd
        obtain ⟨ρ', ρ1', g1, g2, g3, g4, g5, g6, g7⟩ := hnD_ok hf hpc h
        have hx := g1.he.wfA (by rw [g2.is, hni]; exact g6)
        refine ⟨ρ', ρ1', g1, g2, g3, g4, g5, hx.1, ?_⟩
        rw [hx.2, g2.is]
        simpa [SV.dens, SV.den] using g7
      · rename_i cs _ _ fs q htd
        cases hs : sizeOk ty t cs.length <;> rw [hs] at h <;> simp only [cond_true, cond_false] at h
        · cases h
        · split at h <;> cases h
          rename_i l f1 hl
          obtain ⟨ρ', ρ1', g1, g2, g3, g4, g5, g6, g7⟩ := ih.2.1 hl hf hpc hpw hw ha ht
          have hpc1 : PcOk ρ1'.is pc := PcOk.app g1.he.le (by rw [g2.is, hni]; exact hpw) (PcOk.fl g2 hpc)
          obtain ⟨ρ2, k1, k2, k3, k4, k5⟩ := mkTup_ok hpc1 g1.he g6
          refine ⟨ρ', ρ2, ⟨g1.hm, k1⟩, g2, Env.le_trans g3 k2, k5.trans g4, Nat.le_trans g5 (g1.he.mono_ni k1 k2).1, k4, ?_⟩
          rw [k3]
          simp only [rep]
          refine ⟨⟨?_, fun v hv => ?_⟩, .inl ⟨fs, q, htd, g7⟩⟩
          · unfold sizeOk at hs
            split at hs
            · rename_i z hz
              rw [hz, dens_length, beq_nat hs]
            · cases hs
          · obtain ⟨j, hj⟩ := List.getElem?_of_mem hv
            rw [dens_getElem?] at hj
            cases hc : cs[j]? with
            | none => rw [hc] at hj; cases hj
            | some u => rw [hc] at hj; cases hj; exact SV.oneCell_of_cell (allCell_mem ha u (List.mem_of_getElem? hc)) ρ
      · rename_i cs _ _ m e s htd
        cases hs : sizeOk ty t cs.length <;> rw [hs] at h <;> simp only [cond_true, cond_false] at h
        · cases h
        · split at h <;> cases h
          rename_i l f1 hl
          obtain ⟨ρ', ρ1', g1, g2, g3, g4, g5, g6, g8, g7⟩ := ih.2.2 hl hf hpc hpw hw ha ht
          have hpc1 : PcOk ρ1'.is pc := PcOk.app g1.he.le (by rw [g2.is, hni]; exact hpw) (PcOk.fl g2 hpc)
          obtain ⟨ρ2, k1, k2, k3, k4, k5⟩ := mkTup_ok hpc1 g1.he g6
          refine ⟨ρ', ρ2, ⟨g1.hm, k1⟩, g2, Env.le_trans g3 k2, k5.trans g4, Nat.le_trans g5 (g1.he.mono_ni k1 k2).1, k4, ?_⟩
          rw [k3]
          simp only [rep]
          refine ⟨⟨?_, fun v hv => ?_⟩, .inr ⟨m, e, s, htd, by simpa using g8, g7⟩⟩
          · unfold sizeOk at hs
            split at hs
            · rename_i z hz
              rw [hz, dens_length, beq_nat hs]
            · cases hs
          · obtain ⟨j, hj⟩ := List.getElem?_of_mem hv
            rw [dens_getElem?] at hj
            cases hc : cs[j]? with
            | none => rw [hc] at hj; cases hj
            | some u => rw [hc] at hj; cases hj; exact SV.oneCell_of_cell (allCell_mem ha u (List.mem_of_getElem? hc)) ρ
      · cases h
    · intro gs cs f f' l ρ ρ1 h hf hpc hpw hw ha ht
      cases gs with
      | nil =>
        simp only [toDF] at h
        cases h
        exact same hf ⟨fun y hy => (nomatch hy), by simp [repF]⟩
      | cons g gs =>
        simp only [toDF] at h
        split at h
        · rename_i r hr
          obtain ⟨m1, m2, m3, m4⟩ := take_mem hr
          split at h
          · rename_i x f1 hx
            split at h
            · rename_i l f2 hl
              cases hb : Nat.ble (g.2.1 + g.2.2) cs.length <;> rw [hb] at h <;> simp only [cond_true, cond_false] at h <;> cases h
              have hb := ble_nat hb
              obtain ⟨ρ', ρ1', g1, g2, g3, g4, g5, g6, g7⟩ := ih.1 hx hf hpc hpw (wfs_of_mem fun v hv => wfs_mem hw v (m1 v hv)) (allCell_of_mem fun v hv => allCell_mem ha v (m1 v hv)) (tys_of_mem fun v hv => tys_mem ht v (m1 v hv))
              have hw' : SV.wfs ρ.is.length ρ.bs.length cs = true := by rw [hf.hm.hni, hf.hm.hnb]; exact hw
              obtain ⟨ρ2, ρ2', k1, k2, k3, k4, k5, k6, k7⟩ := ih.2.1 hl g1 (PcOk.fl g2 hpc) hpw hw ha (SV.tys_app g2.le hw' ht)
              refine ⟨ρ2, ρ2', k1, g2.trans k2, Env.le_trans g3 k3, k4.trans g4, Nat.le_trans g5 k5, ?_, ?_⟩
              · intro y hy
                rcases List.mem_cons.1 hy with rfl | hy
                · exact A.wf_mono k5 g6
                · exact k6 y hy
              · simp only [List.map_cons, repF]
                refine ⟨⟨?_, ?_⟩, ?_⟩
                · rw [dens_length]; exact hb
                · rw [Env.A_app k3 (by rw [g1.he.len]; exact g6), ← m4]
                  exact rep_mono k2.fz g7
                · rw [← SV.dens_app g2.le hw']; exact k7
            · cases h
          · cases h
        · cases h
    · intro m e s cs f f' l ρ ρ1 h hf hpc hpw hw ha ht
      cases m with
      | zero =>
        simp only [toDA] at h
        cases h
        exact same hf ⟨fun y hy => (nomatch hy), rfl, by simp [repA]⟩
      | succ m =>
        simp only [toDA] at h
        split at h
        · rename_i r hr
          obtain ⟨m0, rfl⟩ := takeN_eq _ _ _ hr
          have m1 : ∀ v ∈ cs.take s, v ∈ cs := fun v hv => List.mem_of_mem_take hv
          have n1 : ∀ v ∈ dropN s cs, v ∈ cs := fun v hv => by rw [dropN_eq] at hv; exact List.mem_of_mem_drop hv
          split at h
          · rename_i x f1 hx
            split at h <;> cases h
            rename_i l f2 hl
            obtain ⟨ρ', ρ1', g1, g2, g3, g4, g5, g6, g7⟩ := ih.1 hx hf hpc hpw (wfs_of_mem fun v hv => wfs_mem hw v (m1 v hv)) (allCell_of_mem fun v hv => allCell_mem ha v (m1 v hv)) (tys_of_mem fun v hv => tys_mem ht v (m1 v hv))
            have hw' : SV.wfs ρ.is.length ρ.bs.length cs = true := by rw [hf.hm.hni, hf.hm.hnb]; exact hw
            have hwd : SV.wfs ρ.is.length ρ.bs.length (dropN s cs) = true := wfs_of_mem fun v hv => wfs_mem hw' v (n1 v hv)
            obtain ⟨ρ2, ρ2', k1, k2, k3, k4, k5, k6, k8, k7⟩ := ih.2.2 hl g1 (PcOk.fl g2 hpc) hpw (wfs_of_mem fun v hv => wfs_mem hw v (n1 v hv)) (allCell_of_mem fun v hv => allCell_mem ha v (n1 v hv)) (SV.tys_app g2.le hwd (tys_of_mem fun v hv => tys_mem ht v (n1 v hv)))
            refine ⟨ρ2, ρ2', k1, g2.trans k2, Env.le_trans g3 k3, k4.trans g4, Nat.le_trans g5 k5, ?_, by simp [k8], ?_⟩
            · intro y hy
              rcases List.mem_cons.1 hy with rfl | hy
              · exact A.wf_mono k5 g6
              · exact k6 y hy
            · simp only [List.map_cons, repA]
              refine ⟨⟨by rw [dens_length]; exact m0, ?_⟩, ?_⟩
              · rw [Env.A_app k3 (by rw [g1.he.len]; exact g6), ← dens_take]
                exact rep_mono k2.fz g7
              · rw [SV.dens_app g2.le hwd, dropN_eq, dens_drop] at k7
                exact k7
          · cases h
        · cases h
end
end Go.SY
