/- The symbolic executor SY, its soundness, part 5: what pure operations look at; moves, choices. -/
import Derived.Test.YtolebnomgllgaaaGreatDoorSyS4
set_option linter.unusedVariables false
set_option linter.unusedSimpArgs false
namespace Go.SY
open Go Go.RowKit
noncomputable section
theorem evO_wf {ρ : Env} {ni nb : Nat} {tm : Tm} {a : Act} (ht : TmOk ρ ni nb tm a) {pc : List (B × Bool)} {x : Operand} {v : SV} (hv : evO pc tm x = some v) : v.wf ni nb = true := by
  cases x with
  | tmp t =>
    simp only [evO] at hv
    split at hv
    · cases hv
    · rename_i u hne hu
      cases hv
      obtain ⟨_, h2⟩ := ht t u hu
      rcases h2 with rfl | ⟨h3, h5, h4⟩
      · exact absurd rfl hne
      · exact SV.wf_under h3
    · cases hv
  | const c => exact (ofVal_spec (by simpa [evO] using hv) ρ ni nb).2.1
  | global g => simp only [evO] at hv; cases hv; rfl
  | func f => simp only [evO] at hv; cases hv; rfl
theorem evO_den {ρ : Env} {ni nb : Nat} {tm : Tm} {a : Act} (ht : TmOk ρ ni nb tm a) {pc : List (B × Bool)} (hp : PcOk ρ.is pc) {x : Operand} {v : SV} (hv : evO pc tm x = some v) : a.eval x = v.den ρ := by
  cases x with
  | tmp t =>
    simp only [evO] at hv
    split at hv
    · cases hv
    · rename_i u hne hu
      cases hv
      obtain ⟨_, h2⟩ := ht t u hu
      rcases h2 with rfl | ⟨h3, h5, h4⟩
      · exact absurd rfl hne
      · rw [SV.den_under hp]; exact h4
    · cases hv
  | const c =>
    show c = _
    exact (ofVal_spec (by simpa [evO] using hv) ρ ni nb).1.symm
  | global g => simp only [evO] at hv; cases hv; rfl
  | func f => simp only [evO] at hv; cases hv; rfl
theorem evO_ty {ρ : Env} {ni nb : Nat} {tm : Tm} {a : Act} (ht : TmOk ρ ni nb tm a) {pc : List (B × Bool)} (hp : PcOk ρ.is pc) {x : Operand} {v : SV} (hv : evO pc tm x = some v) : v.ty ρ := by
  cases x with
  | tmp t =>
    simp only [evO] at hv
    split at hv
    · cases hv
    · rename_i u hne hu
      cases hv
      obtain ⟨_, h2⟩ := ht t u hu
      rcases h2 with rfl | ⟨h3, h5, h4⟩
      · exact absurd rfl hne
      · exact SV.ty_under hp h5
    · cases hv
  | const c => exact (ofVal_spec (by simpa [evO] using hv) ρ ni nb).2.2
  | global g => simp only [evO] at hv; cases hv; trivial
  | func f => simp only [evO] at hv; cases hv; exact ⟨trivial, trivial⟩
theorem evOs_ty {ρ : Env} {ni nb : Nat} {tm : Tm} {a : Act} (ht : TmOk ρ ni nb tm a) {pc : List (B × Bool)} (hp : PcOk ρ.is pc) : ∀ {xs : List Operand} {vs : List SV}, evOs pc tm xs = some vs → SV.tys ρ vs
  | [], vs, hv => by simp only [evOs] at hv; cases hv; trivial
  | x :: xs, vs, hv => by
    simp only [evOs] at hv
    split at hv
    · cases hv
    · rename_i v hx
      split at hv
      · cases hv
      · rename_i r hr
        cases hv
        exact ⟨evO_ty ht hp hx, evOs_ty ht hp hr⟩
theorem evPs_ty {ρ : Env} {ni nb : Nat} {tm : Tm} {a : Act} (ht : TmOk ρ ni nb tm a) {pc : List (B × Bool)} (hp : PcOk ρ.is pc) : ∀ {xs : List (Nat × Operand)} {vs : List (Nat × SV)}, evPs pc tm xs = some vs → ∀ p ∈ vs, p.2.ty ρ
  | [], vs, hv => by simp only [evPs] at hv; cases hv; simp
  | (i, x) :: xs, vs, hv => by
    simp only [evPs] at hv
    split at hv
    · cases hv
    · rename_i v hx
      split at hv
      · cases hv
      · rename_i r hr
        cases hv
        exact fun p hp' => (List.mem_cons.1 hp').elim (fun e => e ▸ evO_ty ht hp hx) (evPs_ty ht hp hr p)
theorem evOs_wf {ρ : Env} {ni nb : Nat} {tm : Tm} {a : Act} (ht : TmOk ρ ni nb tm a) {pc : List (B × Bool)} : ∀ {xs : List Operand} {vs : List SV}, evOs pc tm xs = some vs → SV.wfs ni nb vs = true
  | [], vs, hv => by simp only [evOs] at hv; cases hv; rfl
  | x :: xs, vs, hv => by
    simp only [evOs] at hv
    split at hv
    · cases hv
    · rename_i v hx
      split at hv
      · cases hv
      · rename_i r hr
        cases hv
        simp only [SV.wfs, evO_wf ht hx, evOs_wf ht hr, Bool.and_self]
theorem evOs_den {ρ : Env} {ni nb : Nat} {tm : Tm} {a : Act} (ht : TmOk ρ ni nb tm a) {pc : List (B × Bool)} (hp : PcOk ρ.is pc) : ∀ {xs : List Operand} {vs : List SV}, evOs pc tm xs = some vs → xs.map a.eval = SV.dens ρ vs
  | [], vs, hv => by simp only [evOs] at hv; cases hv; rfl
  | x :: xs, vs, hv => by
    simp only [evOs] at hv
    split at hv
    · cases hv
    · rename_i v hx
      split at hv
      · cases hv
      · rename_i r hr
        cases hv
        simp only [List.map_cons, SV.dens, evO_den ht hp hx, evOs_den ht hp hr]
theorem evs_array {ρ : Env} {ni nb : Nat} {tm : Tm} {a : Act} (ht : TmOk ρ ni nb tm a) {pc : List (B × Bool)} (hp : PcOk ρ.is pc) {xs : Array Operand} {vs : List SV} (h : evOs pc tm xs.toList = some vs) : xs.map a.eval = (SV.dens ρ vs).toArray := by
  have := evOs_den ht hp h
  apply Array.ext'
  simpa using this
theorem evPs_wf {ρ : Env} {ni nb : Nat} {tm : Tm} {a : Act} (ht : TmOk ρ ni nb tm a) {pc : List (B × Bool)} : ∀ {xs : List (Nat × Operand)} {vs : List (Nat × SV)}, evPs pc tm xs = some vs → ∀ p ∈ vs, p.2.wf ni nb = true
  | [], vs, hv => by simp only [evPs] at hv; cases hv; simp
  | (i, x) :: xs, vs, hv => by
    simp only [evPs] at hv
    split at hv
    · cases hv
    · rename_i v hx
      split at hv
      · cases hv
      · rename_i r hr
        cases hv
        exact fun p hp => (List.mem_cons.1 hp).elim (fun e => e ▸ evO_wf ht hx) (evPs_wf ht hr p)
theorem evPs_den {ρ : Env} {ni nb : Nat} {tm : Tm} {a : Act} (ht : TmOk ρ ni nb tm a) {pc : List (B × Bool)} (hp : PcOk ρ.is pc) : ∀ {xs : List (Nat × Operand)} {vs : List (Nat × SV)}, evPs pc tm xs = some vs →
    xs.map (fun p => (p.1, a.eval p.2)) = vs.map (fun p => (p.1, p.2.den ρ))
  | [], vs, hv => by simp only [evPs] at hv; cases hv; rfl
  | (i, x) :: xs, vs, hv => by
    simp only [evPs] at hv
    split at hv
    · cases hv
    · rename_i v hx
      split at hv
      · cases hv
      · rename_i r hr
        cases hv
        simp only [List.map_cons, evO_den ht hp hx, evPs_den ht hp hr]
theorem evps_array {ρ : Env} {ni nb : Nat} {tm : Tm} {a : Act} (ht : TmOk ρ ni nb tm a) {pc : List (B × Bool)} (hp : PcOk ρ.is pc) {xs : Array (Nat × Operand)} {ps : List (Nat × SV)} (h : evPs pc tm xs.toList = some ps) : (xs.map fun (i, x) => (i, a.eval x)).toList = ps.map fun p => (p.1, p.2.den ρ) := by
  have := evPs_den ht hp h
  simpa using this
structure Px (ρ : Env) (p : Pu) (a : Act) : Prop where
  hni : ρ.is.length = p.ni
  hnb : ρ.bs.length = p.nb
  htm : TmOk ρ p.ni p.nb p.tm a
  hcw : p.cg.wf p.ni = true
  hpc : p.cg.den ρ.is = true → PcOk ρ.is p.pc
  hmem : ∀ i o, p.mem.get i = some o → i < p.nb ∧ o.wf p.ni p.nb = true ∧ GhOk p.ty ρ i o
  hhk : HkOk ρ p.mem
variable {P : Program} {ρ ρ1 ρ2 : Env} {p : Pu} {a : Act} {o : Oper} {v : SV} {d d' : Bd}
theorem Px.ev (h : Px ρ p a) {x : Operand} (hv : p.ev x = some v) : p.cg.den ρ.is = true → a.eval x = v.den ρ := fun hc => evO_den h.htm (h.hpc hc) hv
theorem Px.evt (h : Px ρ p a) {x : Operand} (hv : p.ev x = some v) : p.cg.den ρ.is = true → v.ty ρ := fun hc => evO_ty h.htm (h.hpc hc) hv
theorem Px.evw (h : Px ρ p a) {x : Operand} (hv : p.ev x = some v) : v.wf p.ni p.nb = true := evO_wf h.htm hv
def Pure (P : Program) (o : Oper) (a : Act) (ρ : Env) (p : Pu) (v : SV) (d : Bd) : Prop :=
  ∃ ρ1, Ext p.ty ρ d ρ1 ∧ (p.cg.den ρ.is = true → v.ty ρ1 ∧ ∀ w, FzIn ρ.fz w → (execOp a.eval o).run P w = .ok (.value (v.den ρ1)) w)
theorem Px.ext0 (h : Px ρ p a) : Ext p.ty ρ p.d ρ := by
  have := Ext.refl (ty := p.ty) ρ
  rw [h.hni, h.hnb] at this
  exact this
theorem Pure.plain (h : Px ρ p a) (ht : p.cg.den ρ.is = true → v.ty ρ) (hr : p.cg.den ρ.is = true → ∀ w, FzIn ρ.fz w → (execOp a.eval o).run P w = .ok (.value (v.den ρ)) w) : Pure P o a ρ p v p.d :=
  ⟨ρ, h.ext0, fun hc => ⟨ht hc, hr hc⟩⟩
theorem Ext.bind {ty : Ty} (h : Ext ty ρ d ρ1) (e : E) : ∃ ρ2, Ext ty ρ (d.bind e).2 ρ2 ∧ ρ1.le ρ2 ∧ (d.bind e).1.den ρ2.is = e.den ρ1.is ∧ (d.bind e).1.wf (d.bind e).2.ni = true := h.bindT none e trivial
theorem Pure.bind (h : Px ρ p a) (e : E) (mk : A → SV) (hr : p.cg.den ρ.is = true → ∀ (ρ1 : Env) (x : A), ρ.le ρ1 → x.den ρ1.is = e.den ρ.is → (mk x).ty ρ1 ∧ ∀ w, FzIn ρ.fz w → (execOp a.eval o).run P w = .ok (.value ((mk x).den ρ1)) w) :
    Pure P o a ρ p (mk (p.d.bind e).1) (p.d.bind e).2 := by
  obtain ⟨ρ1, h1, h2, h3, _⟩ := h.ext0.bind e
  exact ⟨ρ1, h1, fun hc => hr hc ρ1 _ h2 h3⟩
theorem int_of_den {x : A} {e : Dt} {is : List Dt} (h : x.den is = e) : x.int is = e.int := by simp only [A.int, h]
theorem pMove_ok (hc : Px ρ p a) {x : Operand} (ho : o.op = .move x ∨ o.op = .assign x) (h : pMove p x = some (v, d)) : Pure P o a ρ p v d := by
  unfold pMove at h
  split at h <;> cases h
  rename_i hv
  refine Pure.plain hc (hc.evt hv) fun hcg w _ => ?_
  unfold execOp
  rcases ho with ho | ho <;> simp [ho, hc.ev hv hcg]
theorem newVal_ok {ty : Ty} {t : TypeId} {c : B} {x : A} (he : Ext ty ρ d ρ1) (hx : x.wf d.ni = true) (hc : c.wf d.ni = true) {V : Value} (hV : c.den ρ1.is = true → rep ty ρ.fz (x.den ρ1.is) t [V] ∧ ∃ e s, tdOf ty t = .slice e s) :
    ∃ ρ2, Ext ty ρ (newVal t c x d).2 ρ2 ∧ ρ1.le ρ2 ∧ (c.den ρ1.is = true → (newVal t c x d).1.den ρ2 = V) ∧ (newVal t c x d).1.wf (newVal t c x d).2.ni (newVal t c x d).2.nb = true ∧ (newVal t c x d).1.cell = true ∧ ∀ ρ, (newVal t c x d).1.ty ρ := by
  by_cases hn : x = .d .nil
  · subst hn
    refine ⟨ρ1, he, Env.le_refl _, fun hcc => ?_, rfl, rfl, fun _ => trivial⟩
    obtain ⟨h1, e, s, ht⟩ := hV hcc
    rcases rep_slice ht h1 with ⟨_, h2⟩ | ⟨l, _, _, _, _, h1, _⟩
    · simp only [newVal, SV.den]; injection h2 with h2; exact h2.symm
    · simp [A.den] at h1
  · have hnv : newVal t c x d = ((.sl (d.ghost (.val c t x)).1), (d.ghost (.val c t x)).2) := by
      unfold newVal
      split
      · exact absurd rfl hn
      · rfl
    rw [hnv]
    have hwf : ∀ b : Nat, (SV.sl d.nb).wf (d.ghost (.val c t x)).2.ni (d.ghost (.val c t x)).2.nb = true := fun _ => by
      simp only [SV.wf, Bd.ghost]
      exact Nat.ble_eq.mpr (Nat.le_refl _)
    by_cases hcc : c.den ρ1.is = true
    · obtain ⟨h1, e, s, ht⟩ := hV hcc
      have h2 : one1 V = V := by
        obtain ⟨v, hv, hv1⟩ := rep_slice_one ht h1
        injection hv with hv
        rw [hv]; exact hv1
      obtain ⟨ρ2, g1, g2, g3, g4⟩ := he.ghost (so := .val c t x) h2 (by simp only [SO.wf, hc, hx, Bool.and_self]) (fun ρ2 e1 e2 e3 _ => by rw [e1, e2, e3, he.fz]; exact h1)
      exact ⟨ρ2, g1, g2, fun _ => g3, hwf 0, rfl, fun _ => trivial⟩
    · obtain ⟨ρ2, g1, g2, g3, g4⟩ := he.ghost (so := .val c t x) (v := .pointer none) rfl (by simp only [SO.wf, hc, hx, Bool.and_self]) (fun ρ2 e1 e2 e3 hc' => by rw [e1] at hc'; exact absurd hc' hcc)
      exact ⟨ρ2, g1, g2, fun h => absurd h hcc, hwf 0, rfl, fun _ => trivial⟩
theorem slice_size {P : Program} {ty : Ty} (hty : TyOk P ty) {t t' e s s' : Nat} (h : tdOf ty t = .slice e s) (h' : tdOf ty t' = .slice e s') : s = s' := by
  have key : ∀ {t e s : Nat}, tdOf ty t = .slice e s → ∃ i, P.info? (SY.un e) = some i ∧ i.size = s := by
    intro t e s h
    unfold tdOf at h
    split at h
    · rename_i te he
      obtain ⟨dd, i, hu, hi, hm, _⟩ := hty.info he (by rw [h]; rfl)
      rw [h] at hm
      exact (mkTD_slice (e := SY.un e) hm).2
    · cases h
  obtain ⟨i, h1, h2⟩ := key h
  obtain ⟨j, h3, h4⟩ := key h'
  rw [h1] at h3
  cases h3
  rw [← h2, h4]
theorem rep_retype {P : Program} {ty : Ty} (hty : TyOk P ty) {fz : Fz} {x : Dt} {t t' e s s' : Nat} {cs : List Value} (h : tdOf ty t = .slice e s) (h' : tdOf ty t' = .slice e s') (hr : rep ty fz x t' cs) : rep ty fz x t cs := by
  have hs := slice_size hty h h'
  subst hs
  rcases rep_slice h' hr with ⟨rfl, rfl⟩ | ⟨l, b, off, sp, cap, rfl, rfl, h1, h2, h3⟩
  · simp only [rep]; exact ⟨⟨e, s, h⟩, trivial⟩
  · simp only [rep]; exact ⟨e, s, b, off, sp, cap, h, rfl, h1, h2, h3⟩
theorem slF_wf {ty : Ty} {mem : Tb SO} {ni nb : Nat} (hm : ∀ i o, mem.get i = some o → i < nb ∧ o.wf ni nb = true ∧ GhOk ty ρ i o) {pc : List (B × Bool)} {t : TypeId} {v : SV} {x : A} (h : slF ty mem pc t v = some x) : x.wf ni = true := by
  unfold slF at h
  split at h
  · cases h; rfl
  · split at h
    · rename_i b _ _ c t' a e s hb htd
      obtain ⟨_, hw, _⟩ := hm b _ hb
      split at h
      · cases hk : (Nat.beq e _ && knownIs pc c true) <;> rw [hk] at h <;> simp only [cond_true, cond_false] at h <;> cases h
        simp only [SO.wf, Bool.and_eq_true] at hw
        exact hw.2
      · cases h
    · cases h
  · cases h
theorem slF_ok {ty : Ty} (hty : TyOk P ty) {mem : Tb SO} {ni nb : Nat} (hm : ∀ i o, mem.get i = some o → i < nb ∧ o.wf ni nb = true ∧ GhOk ty ρ i o) {pc : List (B × Bool)} (hp : PcOk ρ.is pc) {t : TypeId} {e s : Nat} (ht : tdOf ty t = .slice e s) {v : SV} {x : A} (h : slF ty mem pc t v = some x) :
    rep ty ρ.fz (x.den ρ.is) t [v.den ρ] := by
  unfold slF at h
  split at h
  · cases h; simp only [A.den, rep, SV.den]; exact ⟨⟨e, s, ht⟩, trivial⟩
  · split at h
    · rename_i b _ _ c t' a e' s' hb htd
      obtain ⟨_, hw, hg⟩ := hm b _ hb
      split at h
      · rename_i e'' s'' ht'
        cases hk : (Nat.beq e' e'' && knownIs pc c true) <;> rw [hk] at h <;> simp only [cond_true, cond_false] at h <;> cases h
        simp only [Bool.and_eq_true] at hk
        have := beq_nat hk.1
        subst this
        exact rep_retype hty htd ht' (hg (knownIs_ok hp hk.2))
      · cases h
    · cases h
  · cases h
theorem slF_slice {ty : Ty} {mem : Tb SO} {pc : List (B × Bool)} {t : TypeId} {b : Nat} {x : A} (h : slF ty mem pc t (.sl b) = some x) : ∃ e s, tdOf ty t = .slice e s := by
  simp only [slF] at h
  split at h
  · rename_i htd; exact ⟨_, _, htd⟩
  · cases h
theorem slA_ok {ty : Ty} {mem : Tb SO} {ni nb : Nat} (hm : ∀ i o, mem.get i = some o → i < nb ∧ o.wf ni nb = true ∧ GhOk ty ρ i o) {pc : List (B × Bool)} (hp : PcOk ρ.is pc) {t : TypeId} {v : SV} {x : A} (h : slA ty mem pc t v = some x) :
    (x.den ρ.is = .nil ∧ v.den ρ = .slice none 0 0) ∨ ∃ l ad cap, x.den ρ.is = .row l ∧ v.den ρ = .slice (some ad) l.length cap ∧ l.length < 9223372036854775808 := by
  unfold slA at h
  split at h
  · cases h; exact .inl ⟨rfl, rfl⟩
  · split at h
    · rename_i b _ _ c t' a e' s' hb htd
      obtain ⟨_, hw, hg⟩ := hm b _ hb
      split at h
      · rename_i e'' s'' ht'
        cases hk : (Nat.beq e' e'' && knownIs pc c true) <;> rw [hk] at h <;> simp only [cond_true, cond_false] at h <;> cases h
        simp only [Bool.and_eq_true] at hk
        rcases rep_slice ht' (hg (knownIs_ok hp hk.2)) with ⟨h1, h2⟩ | ⟨l, B, off, sp, cap, h1, h2, h3, _⟩
        · injection h2 with h2; exact .inl ⟨h1, h2⟩
        · injection h2 with h2; exact .inr ⟨l, _, cap, h1, h2, h3⟩
      · cases h
    · rename_i b _ _ e' s' a e n hb htd
      obtain ⟨_, hw, hg⟩ := hm b _ hb
      cases hk : (Nat.beq e e' && Nat.beq n s') <;> rw [hk] at h <;> simp only [cond_true, cond_false] at h <;> cases h
      simp only [GhOk] at hg
      have hval : ∀ V, ρ.val b = V → SV.den ρ (.sl b) = V := fun V hV => hV
      rcases hg with ⟨h1, h2⟩ | ⟨l, cap, h1, h2, h3⟩
      · exact .inl ⟨h1, h2⟩
      · exact .inr ⟨l, _, cap, h1, h2, h3⟩
    · cases h
  · cases h
theorem rep_hnd {ty : Ty} {fz : Fz} {e s t : Nat} {x : Dt} {V : Value} (ht : tdOf ty t = .hnd e s) (hr : rep ty fz x t [V]) : ∃ n : Int, x = .num n ∧ Hdr fz n V := by
  cases x <;> simp only [rep, ht] at hr
  case num n =>
    rcases hr with ⟨_, h1, _⟩ | ⟨_, _, V', _, h2, h3⟩
    · cases h1
    · injection h3 with h3
      exact ⟨n, rfl, h3 ▸ h2⟩
  all_goals (first | (obtain ⟨h1, _⟩ := hr; cases h1; done) | (obtain ⟨⟨_, _, h1⟩, _⟩ := hr; cases h1; done) | (obtain ⟨_, _, _, _, _, _, h1, _⟩ := hr; cases h1; done) | (obtain ⟨_, h1 | h1⟩ := hr <;> (first | (obtain ⟨_, _, h1, _⟩ := h1; cases h1; done) | (obtain ⟨_, _, _, h1, _⟩ := h1; cases h1; done))))
theorem hnd_row {ty : Ty} {mem : Tb SO} {ni nb : Nat} (hm : ∀ i o, mem.get i = some o → i < nb ∧ o.wf ni nb = true ∧ GhOk ty ρ i o) (hhk : HkOk ρ mem) {b t e s e2 s2 : Nat} {c : B} {a P : A} (hb : mem.get b = some (.val c t a)) (hc : c.den ρ.is = true) (ht : tdOf ty t = .hnd e s) (hp : mem.get 0 = some (.pool e2 s2 P)) :
    ∃ (l : List Dt) (j : Nat) (y : Dt), P.den ρ.is = .row l ∧ a.den ρ.is = .num (j : Int) ∧ l[j]? = some y ∧ ρ.fz (.h j) = some (hob (ρ.val b)) ∧ Hd1 y (ρ.val b) ∧ (P.mkIdx a).den ρ.is = y := by
  obtain ⟨n, ha, h1, h2, _⟩ := rep_hnd ht ((hm b _ hb).2.2 hc)
  obtain ⟨l, hl, hpo⟩ := (hm 0 _ hp).2.2
  have hlt := hhk e2 s2 P hp n.toNat (by rw [h2]; simp)
  rw [hl] at hlt
  have hlt : n.toNat < l.length := hlt
  obtain ⟨V, q1, q2⟩ := hpo n.toNat _ (List.getElem?_eq_getElem hlt)
  rw [h2] at q1
  injection q1 with q1
  have hV := hob_inj q1
  refine ⟨l, n.toNat, _, hl, by rw [ha]; congr 1; omega, List.getElem?_eq_getElem hlt, h2, by rw [hV]; exact q2, ?_⟩
  rw [den_mkIdx, hl]
  simp only [A.int, ha, Dt.int, Dt.idx, Dt.list, List.getD_eq_getElem?_getD, List.getElem?_eq_getElem hlt, Option.getD_some]
theorem slA_wf {ty : Ty} {mem : Tb SO} {ni nb : Nat} (hm : ∀ i o, mem.get i = some o → i < nb ∧ o.wf ni nb = true ∧ GhOk ty ρ i o) {pc : List (B × Bool)} {t : TypeId} {v : SV} {x : A} (h : slA ty mem pc t v = some x) : x.wf ni = true := by
  unfold slA at h
  split at h
  · cases h; rfl
  · split at h
    · rename_i b _ _ c t' a e' s' hb htd
      obtain ⟨_, hw, hg⟩ := hm b _ hb
      split at h
      · cases hk : (Nat.beq e' _ && knownIs pc c true) <;> rw [hk] at h <;> simp only [cond_true, cond_false] at h <;> cases h
        simp only [SO.wf, Bool.and_eq_true] at hw
        exact hw.2
      · cases h
    · rename_i b _ _ e' s' a e n hb htd
      obtain ⟨_, hw, hg⟩ := hm b _ hb
      cases hk : (Nat.beq e e' && Nat.beq n s') <;> rw [hk] at h <;> simp only [cond_true, cond_false] at h <;> cases h
      exact hw
    · cases h
  · cases h
theorem B.wf_mkNot {n : Nat} {p : B} (hp : p.wf n = true) : p.mkNot.wf n = true := by cases p <;> simp_all [B.mkNot, B.wf]
theorem B.wf_mkAnd {n : Nat} {p q : B} (hp : p.wf n = true) (hq : q.wf n = true) : (p.mkAnd q).wf n = true := by
  unfold B.mkAnd
  split <;> simp_all [B.wf]
theorem B.wf_mkOr {n : Nat} {p q : B} (hp : p.wf n = true) (hq : q.wf n = true) : (p.mkOr q).wf n = true := by
  unfold B.mkOr
  split <;> simp_all [B.wf]
theorem B.wf_mkIs {n : Nat} {p : B} (hp : p.wf n = true) (b : Bool) : (p.mkIs b).wf n = true := by
  unfold B.mkIs; cases b
  · exact B.wf_mkNot hp
  · exact hp
structure PickH (P : Program) (ρ : Env) (ty : Ty) (mem : Tb SO) (ni nb : Nat) (pt pe : List (B × Bool)) (cg c : B) : Prop where
  hty : TyOk P ty
  hni : ρ.is.length = ni
  hnb : ρ.bs.length = nb
  hm : ∀ i o, mem.get i = some o → i < nb ∧ o.wf ni nb = true ∧ GhOk ty ρ i o
  hcw : c.wf ni = true
  hgw : cg.wf ni = true
  hpt : cg.den ρ.is = true → c.den ρ.is = true → PcOk ρ.is pt
  hpe : cg.den ρ.is = true → c.den ρ.is = false → PcOk ρ.is pe
  hct : cg.den ρ.is = true → c.tyd ρ.is
def PickR (ty : Ty) (ρ ρ1 : Env) (cg c : B) (x y v : SV) (d' : Bd) : Prop :=
  ∃ ρ2, Ext ty ρ d' ρ2 ∧ ρ1.le ρ2 ∧ v.wf d'.ni d'.nb = true ∧ (x.cell = true → v.cell = true) ∧ (cg.den ρ.is = true → (c.den ρ.is = true → x.ty ρ) → (c.den ρ.is = false → y.ty ρ) → v.ty ρ2 ∧ v.den ρ2 = if c.den ρ.is = true then x.den ρ else y.den ρ)
variable {ty : Ty} {pl : Bool} {mem : Tb SO} {ni nb : Nat} {pt pe : List (B × Bool)} {cg c : B}
theorem Ext.wfA (h : Ext ty ρ d ρ1) {x : A} (hx : x.wf ρ.is.length = true) : x.wf d.ni = true ∧ x.den ρ1.is = x.den ρ.is := ⟨A.wf_mono (by rw [h.ni]; omega) hx, Env.A_app h.le hx⟩
theorem Ext.wfB (h : Ext ty ρ d ρ1) {x : B} (hx : x.wf ρ.is.length = true) : x.wf d.ni = true ∧ x.den ρ1.is = x.den ρ.is := ⟨B.wf_mono (by rw [h.ni]; omega) hx, Env.B_app h.le hx⟩
theorem Ext.wfV (h : Ext ty ρ d ρ1) {x : SV} (hx : x.wf ρ.is.length ρ.bs.length = true) : x.wf d.ni d.nb = true ∧ x.den ρ1 = x.den ρ := ⟨SV.wf_mono (by rw [h.ni]; omega) (by rw [h.nb]; omega) hx, SV.den_app h.le hx⟩
theorem pickA (H : PickH P ρ ty mem ni nb pt pe cg c) (he : Ext ty ρ d ρ1) {x y : A} (hx : x.wf ni = true) (hy : y.wf ni = true) : ∃ ρ2, Ext ty ρ (d.bind (.sel c x y)).2 ρ2 ∧ ρ1.le ρ2 ∧
    (d.bind (.sel c x y)).1.den ρ2.is = (if c.den ρ.is = true then x.den ρ.is else y.den ρ.is) ∧ (d.bind (.sel c x y)).1.wf (d.bind (.sel c x y)).2.ni = true := by
  obtain ⟨ρ2, h1, h2, h3, h4⟩ := he.bind (.sel c x y)
  refine ⟨ρ2, h1, h2, ?_, h4⟩
  rw [h3]
  simp only [E.den]
  have hn := H.hni
  rw [(he.wfB (by rw [hn]; exact H.hcw)).2, (he.wfA (by rw [hn]; exact hx)).2, (he.wfA (by rw [hn]; exact hy)).2]
theorem pickS_ok (H : PickH P ρ ty mem ni nb pt pe cg c) (he : Ext ty ρ d ρ1) {t : Option TypeId} {x y : SV} (hxy : (∃ i, x = .sl i) ∨ ∃ i, y = .sl i) (hxc : x.cell = true) (h : pickS ty mem pt pe cg c t x y d = some (v, d')) : PickR ty ρ ρ1 cg c x y v d' := by
  cases t with
  | none => simp [pickS] at h
  | some t =>
    simp only [pickS] at h
    split at h
    · rename_i p q hp hq
      simp only [Option.some.injEq] at h
      have hts : ∃ e s, tdOf ty t = .slice e s := by
        rcases hxy with ⟨i, rfl⟩ | ⟨i, rfl⟩
        · exact slF_slice hp
        · exact slF_slice hq
      obtain ⟨e, s, hts⟩ := hts
      obtain ⟨ρ2, h1, h2, h3, h4⟩ := pickA H he (slF_wf H.hm hp) (slF_wf H.hm hq)
      have hcg := h1.wfB (by rw [H.hni]; exact H.hgw)
      obtain ⟨ρ3, g1, g2, g3, g4, g5, g6⟩ := newVal_ok (t := t) (c := cg) h1 h4 hcg.1 (V := if c.den ρ.is = true then x.den ρ else y.den ρ) (fun hc => by
        rw [hcg.2] at hc
        rw [h3]
        refine ⟨?_, e, s, hts⟩
        cases hcd : c.den ρ.is
        · simp only [Bool.false_eq_true, if_false]; exact slF_ok H.hty H.hm (H.hpe hc hcd) hts hq
        · simp only [if_true]; exact slF_ok H.hty H.hm (H.hpt hc hcd) hts hp)
      rw [h] at g1 g3 g4 g5 g6
      exact ⟨ρ3, g1, Env.le_trans h2 g2, g4, fun _ => g5, fun hc _ _ => ⟨g6 _, g3 (by rw [hcg.2]; exact hc)⟩⟩
    · cases h
mutual
theorem pickV_ok (H : PickH P ρ ty mem ni nb pt pe cg c) : ∀ {x y : SV} {d : Bd} {ρ1 : Env} {v : SV} {d' : Bd}, Ext ty ρ d ρ1 → x.wf ni nb = true → y.wf ni nb = true → pickV ty mem pt pe cg c x y d = some (v, d') → PickR ty ρ ρ1 cg c x y v d' := by
  intro x y d ρ1 v d' he hx hy h
  have hn := H.hni
  have hb := H.hnb
  have plain : ∀ {z : SV}, z.wf ni nb = true → x = z → y = z → PickR ty ρ ρ1 cg c x y z d := by
    intro z hz e1 e2
    subst e1
    have := he.wfV (by rw [hn, hb]; exact hx)
    refine ⟨ρ1, he, Env.le_refl _, this.1, id, fun _ t1 t2 => ⟨?_, ?_⟩⟩
    · refine SV.ty_app he.le (by rw [hn, hb]; exact hx) ?_
      cases hcd : c.den ρ.is
      · rw [← e2]; exact t2 hcd
      · exact t1 hcd
    · rw [this.2, e2]; split <;> rfl
  cases x with
  | int k x =>
    cases y with
    | int k' y =>
      simp only [pickV] at h
      cases hk : kindEq k k' <;> rw [hk] at h <;> simp only [cond_true, cond_false] at h
      · cases h
      · cases kindEq_eq hk
        cases hxy : x.beq y <;> rw [hxy] at h <;> simp only [cond_true, cond_false] at h <;> cases h
        · simp only [SV.wf] at hx hy
          obtain ⟨ρ2, h1, h2, h3, h4⟩ := pickA H he hx hy
          refine ⟨ρ2, h1, h2, by simpa [SV.wf] using h4, fun _ => rfl, fun _ t1 t2 => ⟨?_, ?_⟩⟩
          · simp only [SV.ty, h3] at t1 t2 ⊢
            cases hcd : c.den ρ.is
            · simp only [Bool.false_eq_true, if_false]; exact t2 hcd
            · simp only [if_true]; exact t1 hcd
          · simp only [SV.den, A.int, h3]
            split <;> rfl
        · exact plain hx rfl (by rw [A.beq_eq hxy])
    | _ => simp [pickV] at h
  | str x =>
    cases y with
    | str y =>
      simp only [pickV] at h
      cases hxy : x.beq y <;> rw [hxy] at h <;> simp only [cond_true, cond_false] at h <;> cases h
      · simp only [SV.wf] at hx hy
        obtain ⟨ρ2, h1, h2, h3, h4⟩ := pickA H he hx hy
        refine ⟨ρ2, h1, h2, by simpa [SV.wf] using h4, fun _ => rfl, fun _ t1 t2 => ⟨?_, ?_⟩⟩
        · simp only [SV.ty, h3] at t1 t2 ⊢
          cases hcd : c.den ρ.is
          · simp only [Bool.false_eq_true, if_false]; exact t2 hcd
          · simp only [if_true]; exact t1 hcd
        · simp only [SV.den, h3]
          split <;> rfl
      · exact plain hx rfl (by rw [A.beq_eq hxy])
    | _ => simp [pickV] at h
  | bool x =>
    cases y with
    | bool y =>
      simp only [pickV] at h
      cases h
      simp only [SV.wf] at hx hy
      have hx' := he.wfB (by rw [hn]; exact hx)
      have hy' := he.wfB (by rw [hn]; exact hy)
      have hc' := he.wfB (by rw [hn]; exact H.hcw)
      refine ⟨ρ1, he, Env.le_refl _, ?_, fun _ => rfl, fun hcg t1 t2 => ⟨?_, ?_⟩⟩
      · simp only [SV.wf]
        exact B.wf_mkOr (B.wf_mkAnd hc'.1 hx'.1) (B.wf_mkAnd (B.wf_mkNot hc'.1) hy'.1)
      · obtain ⟨u, hu⟩ := he.le.is
        simp only [SV.ty] at t1 t2 ⊢
        refine tyd_pick ?_ (fun h => ?_) (fun h => ?_)
        · rw [hu]; exact B.tyd_app (by rw [hn]; exact H.hcw) (H.hct hcg)
        · rw [hc'.2] at h
          rw [hu]; exact B.tyd_app (by rw [hn]; exact hx) (t1 h)
        · rw [hc'.2] at h
          rw [hu]; exact B.tyd_app (by rw [hn]; exact hy) (t2 h)
      · simp only [SV.den, B.den_mkOr, B.den_mkAnd, B.den_mkNot, hx'.2, hy'.2, hc'.2]
        cases c.den ρ.is <;> simp
    | _ => simp [pickV] at h
  | agg xs =>
    cases y with
    | agg ys =>
      simp only [pickV] at h
      split at h
      · rename_i l d1 hp
        cases h
        simp only [SV.wf, Bool.and_eq_true] at hx hy
        obtain ⟨ρ2, h1, h2, h3, h4, h5⟩ := pickVs_ok H he hx.1 hy.1 hp
        refine ⟨ρ2, h1, h2, ?_, fun h => (by cases h), fun hcg t1 t2 => ?_⟩
        · simp only [SV.wf, h3, Bool.true_and]; exact h4 hx.2
        · obtain ⟨k1, k2⟩ := h5 hcg t1 t2
          refine ⟨k1, ?_⟩
          simp only [SV.den, k2]; split <;> rfl
      · cases h
    | _ => simp [pickV] at h
  | sl i =>
    cases y with
    | sl j =>
      simp only [pickV] at h
      cases hij : Nat.beq i j <;> rw [hij] at h <;> simp only [cond_true, cond_false] at h
      · exact pickS_ok H he (.inl ⟨_, rfl⟩) rfl h
      · cases h
        exact plain hx rfl (by rw [beq_nat hij])
    | nilsl =>
      simp only [pickV] at h
      exact pickS_ok H he (.inl ⟨_, rfl⟩) rfl h
    | _ => simp [pickV] at h
  | nilsl =>
    cases y with
    | sl j =>
      simp only [pickV] at h
      exact pickS_ok H he (.inr ⟨_, rfl⟩) rfl h
    | nilsl => simp only [pickV] at h; cases h; exact plain hx rfl rfl
    | _ => simp [pickV] at h
  | nilp =>
    cases y with
    | nilp => simp only [pickV] at h; cases h; exact plain hx rfl rfl
    | _ => simp [pickV] at h
  | niliface =>
    cases y with
    | niliface => simp only [pickV] at h; cases h; exact plain hx rfl rfl
    | _ => simp [pickV] at h
  | _ => cases y <;> simp [pickV] at h
theorem pickVs_ok (H : PickH P ρ ty mem ni nb pt pe cg c) : ∀ {xs ys : List SV} {d : Bd} {ρ1 : Env} {l : List SV} {d' : Bd}, Ext ty ρ d ρ1 → SV.wfs ni nb xs = true → SV.wfs ni nb ys = true → pickVs ty mem pt pe cg c xs ys d = some (l, d') →
    ∃ ρ2, Ext ty ρ d' ρ2 ∧ ρ1.le ρ2 ∧ SV.wfs d'.ni d'.nb l = true ∧ (allCell xs = true → allCell l = true) ∧ (cg.den ρ.is = true → (c.den ρ.is = true → SV.tys ρ xs) → (c.den ρ.is = false → SV.tys ρ ys) → SV.tys ρ2 l ∧ SV.dens ρ2 l = if c.den ρ.is = true then SV.dens ρ xs else SV.dens ρ ys) := by
  intro xs ys d ρ1 l d' he hx hy h
  cases xs with
  | nil =>
    cases ys with
    | nil =>
      simp only [pickVs] at h
      cases h
      exact ⟨ρ1, he, Env.le_refl _, rfl, fun _ => rfl, fun _ _ _ => ⟨trivial, by simp [SV.dens]⟩⟩
    | cons _ _ => simp [pickVs] at h
  | cons x xs =>
    cases ys with
    | nil => simp [pickVs] at h
    | cons y ys =>
      simp only [pickVs] at h
      split at h
      · rename_i v d1 hp
        split at h
        · rename_i l1 d2 hq
          cases h
          simp only [SV.wfs, Bool.and_eq_true] at hx hy
          obtain ⟨ρ2, h1, h2, h3, h4, h5⟩ := pickV_ok H he hx.1 hy.1 hp
          obtain ⟨ρ3, g1, g2, g3, g4, g5⟩ := pickVs_ok H h1 hx.2 hy.2 hq
          refine ⟨ρ3, g1, Env.le_trans h2 g2, ?_, ?_, fun hcg t1 t2 => ?_⟩
          · simp only [SV.wfs, g3, Bool.and_true]
            have := h1.mono_ni g1 g2
            exact SV.wf_mono this.1 this.2 h3
          · intro ha
            simp only [allCell, Bool.and_eq_true] at ha ⊢
            exact ⟨h4 ha.1, g4 ha.2⟩
          · obtain ⟨k1, k2⟩ := h5 hcg (fun h => (t1 h).1) (fun h => (t2 h).1)
            obtain ⟨k3, k4⟩ := g5 hcg (fun h => (t1 h).2) (fun h => (t2 h).2)
            refine ⟨⟨SV.ty_app g2 (by rw [h1.len, h1.lenb]; exact h3) k1, k3⟩, ?_⟩
            simp only [SV.dens]
            rw [SV.den_app g2 (by rw [h1.len, h1.lenb]; exact h3), k2, k4]
            split <;> rfl
        · cases h
      · cases h
end
theorem den_pickB (is : List Dt) (c x y : B) : (pickB c x y).den is = if c.den is = true then x.den is else y.den is := by
  unfold pickB
  split <;> simp only [B.den_mkOr, B.den_mkAnd, B.den_mkNot, B.den] <;> cases c.den is <;> simp
theorem pPick_ok (hty : TyOk P p.ty) (hc : Px ρ p a) {c x y : Operand} (ho : o.op = .pick c x y) (h : pPick p c x y = some (v, d)) : Pure P o a ρ p v d := by
  unfold pPick at h
  split at h
  · rename_i hcv
    split at h <;> cases h
    rename_i hx
    refine Pure.plain hc (hc.evt hx) fun hcg w _ => ?_
    unfold execOp
    simp [ho, hc.ev hcv hcg, SV.den, B.den, asBool, hc.ev hx hcg]
  · rename_i hcv
    split at h <;> cases h
    rename_i hx
    refine Pure.plain hc (hc.evt hx) fun hcg w _ => ?_
    unfold execOp
    simp [ho, hc.ev hcv hcg, SV.den, B.den, asBool, hc.ev hx hcg]
  · rename_i cb _ _ hcv
    split at h
    · rename_i vx vy hx hy
      have wc := hc.evw hcv
      have wx := hc.evw hx
      have wy := hc.evw hy
      simp only [SV.wf] at wc
      have hX : p.cg.den ρ.is = true → cb.den ρ.is = true → (vx.under (cb.facts true ++ p.pc)).den ρ = vx.den ρ := fun hcg ht => SV.den_under (PcOk.append (B.facts_ok _ _ _ ht) (hc.hpc hcg)) vx
      have hY : p.cg.den ρ.is = true → cb.den ρ.is = false → (vy.under (cb.facts false ++ p.pc)).den ρ = vy.den ρ := fun hcg ht => SV.den_under (PcOk.append (B.facts_ok _ _ _ ht) (hc.hpc hcg)) vy
      have TX : p.cg.den ρ.is = true → cb.den ρ.is = true → (vx.under (cb.facts true ++ p.pc)).ty ρ := fun hcg ht => SV.ty_under (PcOk.append (B.facts_ok _ _ _ ht) (hc.hpc hcg)) (hc.evt hx hcg)
      have TY : p.cg.den ρ.is = true → cb.den ρ.is = false → (vy.under (cb.facts false ++ p.pc)).ty ρ := fun hcg ht => SV.ty_under (PcOk.append (B.facts_ok _ _ _ ht) (hc.hpc hcg)) (hc.evt hy hcg)
      have run : p.cg.den ρ.is = true → ∀ w, (execOp a.eval o).run P w = .ok (.value (if cb.den ρ.is = true then vx.den ρ else vy.den ρ)) w := by
        intro hcg w
        unfold execOp
        simp [ho, hc.ev hcv hcg, hc.ev hx hcg, hc.ev hy hcg, SV.den, asBool]
      split at h
      · rename_i bx bY hbx hby
        cases h
        refine Pure.plain hc (fun hcg => ?_) fun hcg w _ => ?_
        · have e1 := TX hcg
          have e2 := TY hcg
          rw [hbx] at e1
          rw [hby] at e2
          exact tyd_pickB (hc.evt hcv hcg) e1 e2
        rw [run hcg w]
        simp only [SV.den, den_pickB]
        cases hcd : cb.den ρ.is
        · simp only [Bool.false_eq_true, if_false]; rw [← hY hcg hcd, hby]; rfl
        · simp only [if_true]; rw [← hX hcg hcd, hbx]; rfl
      · have wx' := SV.wf_under (pc := cb.facts true ++ p.pc) wx
        have wy' := SV.wf_under (pc := cb.facts false ++ p.pc) wy
        have H : PickH P ρ p.ty p.mem p.ni p.nb (cb.facts true ++ p.pc) (cb.facts false ++ p.pc) p.cg cb := ⟨hty, hc.hni, hc.hnb, hc.hmem, wc, hc.hcw, fun hcg ht => PcOk.append (B.facts_ok _ _ _ ht) (hc.hpc hcg), fun hcg ht => PcOk.append (B.facts_ok _ _ _ ht) (hc.hpc hcg), hc.evt hcv⟩
        obtain ⟨ρ2, h1, h2, h3, h4, h5⟩ := pickV_ok H hc.ext0 wx' wy' h
        refine ⟨ρ2, h1, fun hcg => ⟨(h5 hcg (TX hcg) (TY hcg)).1, fun w _ => ?_⟩⟩
        rw [run hcg w, (h5 hcg (TX hcg) (TY hcg)).2]
        cases hcd : cb.den ρ.is
        · simp only [Bool.false_eq_true, if_false]; rw [← hY hcg hcd]
        · simp only [if_true]; rw [← hX hcg hcd]
    · cases h
  · cases h
theorem slH_ok {ty : Ty} {mem : Tb SO} {ni nb : Nat} (hm : ∀ i o, mem.get i = some o → i < nb ∧ o.wf ni nb = true ∧ GhOk ty ρ i o) (hhk : HkOk ρ mem) {pc : List (B × Bool)} (hp : PcOk ρ.is pc) {t : TypeId} {v : SV} {x : A} (h : slH ty mem pc t v = some x) :
    (x.den ρ.is = .nil ∧ v.den ρ = .slice none 0 0) ∨ ∃ l ad cap, x.den ρ.is = .row l ∧ v.den ρ = .slice (some ad) l.length cap ∧ l.length < 9223372036854775808 := by
  unfold slH at h
  split at h
  · rename_i y hy
    cases h
    exact slA_ok hm hp hy
  · split at h
    · rename_i b
      split at h
      · rename_i c t' a e n e2 s2 P hb htd hpool
        split at h
        · rename_i e' s' ht'
          cases hk : (Nat.beq e e' && Nat.beq n s' && knownIs pc c true) <;> rw [hk] at h <;> simp only [cond_true, cond_false] at h <;> cases h
          simp only [Bool.and_eq_true] at hk
          obtain ⟨l, j, y, h1, h2, h3, h4, h5, h6⟩ := hnd_row hm hhk hb (knownIs_ok hp hk.2) ht' hpool
          rw [h6]
          rcases h5 with h5 | ⟨m, B, cap, q1, q2, q3⟩
          · exact .inl h5
          · exact .inr ⟨m, _, cap, q1, q2, q3⟩
        · cases h
      · cases h
    · cases h
theorem slH_wf {ty : Ty} {mem : Tb SO} {ni nb : Nat} (hm : ∀ i o, mem.get i = some o → i < nb ∧ o.wf ni nb = true ∧ GhOk ty ρ i o) {pc : List (B × Bool)} {t : TypeId} {v : SV} {x : A} (h : slH ty mem pc t v = some x) : x.wf ni = true := by
  unfold slH at h
  split at h
  · rename_i y hy
    cases h
    exact slA_wf hm hy
  · split at h
    · split at h
      · rename_i c t' a e n e2 s2 P hb htd hpool
        split at h
        · cases hk : (Nat.beq e _ && Nat.beq n _ && knownIs pc c true) <;> rw [hk] at h <;> simp only [cond_true, cond_false] at h <;> cases h
          have w1 := (hm _ _ hb).2.1
          have w2 := (hm _ _ hpool).2.1
          simp only [SO.wf, Bool.and_eq_true] at w1 w2
          exact wf_mkIdx w2 w1.2
        · cases h
      · cases h
    · cases h
end
end Go.SY
