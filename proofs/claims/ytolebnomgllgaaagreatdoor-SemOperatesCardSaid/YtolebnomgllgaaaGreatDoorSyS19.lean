/- The symbolic executor SY, its soundness, part 19: calls, panics, what is deferred; all operations. -/
import Derived.Test.YtolebnomgllgaaaGreatDoorSyS18
import Derived.Test.YtolebnomgllgaaaGreatDoorSyD
set_option linter.unusedVariables false
set_option linter.unusedSimpArgs false
namespace Go.SY
open Go Go.RowKit
noncomputable section
variable {F : Nat → List Dt → Post → Prop} {Q : Post}
variable {C : Cfg} {G : Nat → Prop} {fz0 : Fz} {w0 w w' : World} {ρ ρ' ρ1 ρ1' : Env} {st : St} {d : Bd} {tm : Tm} {a : Act} {o : Oper} {k : SV → St → T} {next : Act → World → Prop} {QE : Exit → Act → World → Prop}
def RetR (next nextP : Value → World → Prop) : Ending → World → Prop
  | .returned v, w => next v w
  | .panicked chain, w => ∃ v, chain = [{ v, recovered := false }] ∧ nextP v w
  | .outgrown, _ => False
def CallSem (P : Program) (f : FuncId) (args : Array Value) (w : World) (next nextP : Value → World → Prop) : Prop :=
  ((callFunc f args).run P w = .ok (.enter f args) w ∧ Calls P f args w (RetR next nextP)) ∨ (∃ v, (callFunc f args).run P w = .ok (.value v) w ∧ next v w)
def KV (ty : Ty) (pl : Bool) (F : Nat → List Dt → Post → Prop) (Q : Post) (G : Nat → Prop) (fz0 : Fz) (w0 : World) (ρ : Env) (st : St) (next : Value → World → Prop) (k : SV → St → T) : Prop :=
  ∀ ρ' st' w' v, ρ.le ρ' → Md ty pl G fz0 w0 ρ' st' w' → st'.df = st.df → v.ty ρ' → (k v st').wp ty F ρ'.is Q → next (v.den ρ') w'
def KP (ty : Ty) (pl : Bool) (F : Nat → List Dt → Post → Prop) (Q : Post) (G : Nat → Prop) (fz0 : Fz) (w0 : World) (ρ : Env) (st : St) (next : Value → World → Prop) (k : SV → St → T) : Prop :=
  ∀ ρ' st' w' v, ρ.le ρ' → Md ty pl G fz0 w0 ρ' st' w' → st'.df = st.df → v.ty ρ' → v.wf st'.ni st'.nb = true → (k v st').wp ty F ρ'.is Q → next (v.den ρ') w'
def CallOk (F : Nat → List Dt → Post → Prop) (Q : Post) (C : Cfg) (G : Nat → Prop) (fz0 : Fz) (w0 : World) (callF : CallF) : Prop :=
  ∀ (f : Nat) (args : List SV) (st : St) (k kp : SV → St → T) (ρ : Env) (w : World) (next nextP : Value → World → Prop), (callF f args st k kp).wp C.ty F ρ.is Q → Md C.ty C.pl G fz0 w0 ρ st w → SV.wfs st.ni st.nb args = true → SV.tys ρ args →
    KV C.ty C.pl F Q G fz0 w0 ρ st next k → KP C.ty C.pl F Q G fz0 w0 ρ st nextP kp → CallSem C.P f (SV.dens ρ args).toArray w next nextP
def DfOk (ρ : Env) (ni nb : Nat) : List (Nat × List SV) → List Deferred → Prop
  | [], [] => True
  | x :: l, d :: ds => (SV.wfs ni nb x.2 = true ∧ SV.tys ρ x.2 ∧ ∃ cap, d.target = .fn (.func x.1) cap ∧ d.args ++ cap = (SV.dens ρ x.2).toArray) ∧ DfOk ρ ni nb l ds
  | _, _ => False
theorem DfOk.app (hl : ρ.le ρ') : ∀ {l : List (Nat × List SV)} {ds : List Deferred}, DfOk ρ ρ.is.length ρ.bs.length l ds → DfOk ρ' ρ'.is.length ρ'.bs.length l ds
  | [], [], _ => trivial
  | [], _ :: _, h => h
  | _ :: _, [], h => h
  | x :: l, d :: ds, h => by
    obtain ⟨⟨h1, h2, cap, h3, h4⟩, h5⟩ := h
    exact ⟨⟨SV.wfs_mono hl.len_is hl.len_bs h1, SV.tys_app hl h1 h2, cap, h3, by rw [h4, SV.dens_app hl h1]⟩, DfOk.app hl h5⟩
theorem Md.dfok {st' : St} (hm : Md C.ty C.pl G fz0 w0 ρ st w) (hm' : Md C.ty C.pl G fz0 w0 ρ' st' w') (hl : ρ.le ρ') {l : List (Nat × List SV)} {ds : List Deferred} (h : DfOk ρ st.ni st.nb l ds) : DfOk ρ' st'.ni st'.nb l ds := by
  rw [← hm.hni, ← hm.hnb] at h
  have := h.app hl
  rwa [hm'.hni, hm'.hnb] at this
def HKD (ty : Ty) (pl : Bool) (F : Nat → List Dt → Post → Prop) (Q : Post) (G : Nat → Prop) (fz0 : Fz) (w0 : World) (ρ : Env) (a : Act) (dst : Option Tmp) (next : Act → World → Prop) (k : SV → St → T) : Prop :=
  ∀ ρ' st' w' v ds, ρ.le ρ' → Md ty pl G fz0 w0 ρ' st' w' → DfOk ρ' st'.ni st'.nb st'.df ds → v.ty ρ' → (k v st').wp ty F ρ'.is Q → next (Act.put { a with defers := ds } dst (v.den ρ')) w'
def HP (ty : Ty) (pl : Bool) (F : Nat → List Dt → Post → Prop) (Q : Post) (G : Nat → Prop) (fz0 : Fz) (w0 : World) (ρ : Env) (st : St) (a : Act) (QE : Exit → Act → World → Prop) (kp : SV → St → T) : Prop :=
  ∀ ρ' st' w' v, ρ.le ρ' → Md ty pl G fz0 w0 ρ' st' w' → st'.df = st.df → v.ty ρ' → v.wf st'.ni st'.nb = true → (kp v st').wp ty F ρ'.is Q → QE (.panic [{ v := v.den ρ', recovered := false }]) a w'
theorem HKD.hk (h : HKD C.ty C.pl F Q G fz0 w0 ρ a o.dst next k) (hm : Md C.ty C.pl G fz0 w0 ρ st w) (hd : DfOk ρ st.ni st.nb st.df a.defers) : HK C.ty C.pl F Q G fz0 w0 ρ st a o.dst next k := fun ρ' st' w' v hl hm' hdf hv hw => by
  have := h ρ' st' w' v a.defers hl hm' (by rw [hdf]; exact hm.dfok hm' hl hd) hv hw
  exact this
theorem eCall_ok (hty : TyOk C.P C.ty) (hm : Md C.ty C.pl G fz0 w0 ρ st w) (ht : TmOk ρ st.ni st.nb tm a) {callF : CallF} {kp : SV → St → T} (hcall : CallOk F Q C G fz0 w0 callF) {c : Call} (ho : o.op = .call c) (h : (eCall C tm st k kp callF c).wp C.ty F ρ.is Q)
    (hk : HK C.ty C.pl F Q G fz0 w0 ρ st a o.dst next k) (hkp : HP C.ty C.pl F Q G fz0 w0 ρ st a QE kp) : o.wp C.P a w next QE := by
  obtain ⟨ce, args, ats⟩ := c
  unfold eCall at h
  simp only at h
  split at h
  · rename_i f
    split at h
    · rename_i f' fi ca vs hf hvs
      have ef := evO_den ht hm.hpc hf
      have wf := evO_wf ht hf
      have tf := evO_ty ht hm.hpc hf
      have ev := evs_array ht hm.hpc hvs
      have wv := evOs_wf ht hvs
      have tv := evOs_ty ht hm.hpc hvs
      simp only [SV.wf, Bool.and_eq_true] at wf
      have := hcall f' (fi ++ vs ++ ca) st k kp ρ w (fun v w' => next (a.put o.dst v) w') (fun v w' => QE (.panic [{ v, recovered := false }]) a w') h hm (wfs_append (wfs_append wf.1 wv) wf.2) (tys_append (tys_append tf.1 tv) tf.2) hk hkp
      have hargs : ((SV.dens ρ fi).toArray ++ (SV.dens ρ vs).toArray) ++ (SV.dens ρ ca).toArray = (SV.dens ρ (fi ++ vs ++ ca)).toArray := by
        rw [dens_append, dens_append]; simp
      have hop : (execOp a.eval o).run C.P w = (callFunc f' (SV.dens ρ (fi ++ vs ++ ca)).toArray).run C.P w := by
        unfold execOp
        simp only [ho, resolve, ef, ev, SV.den, Deferred.ofValue, Sem.run_bind, Sem.run_pure, Result.andThen_ok, invoke, hargs]
      rcases this with ⟨h1, h2⟩ | ⟨v, h1, h2⟩
      · unfold Oper.wp
        rw [hop, h1]
        refine Calls.mono h2 fun e w' he => ?_
        cases e with
        | returned v => exact he
        | panicked chain => obtain ⟨v, rfl, he⟩ := he; exact he
        | outgrown => exact he.elim
      · exact wp_value (hop.trans h1) h2
    · exact h.elim
  · split at h
    · rename_i t t' s x hts hvs
      have ev := evs_array ht hm.hpc hvs
      have wv := evOs_wf ht hvs
      simp only [SV.wfs, Bool.and_eq_true] at wv
      have hts' : ats = #[t, t'] := by apply Array.ext'; simpa using hts
      split at h
      · rename_i kx xa
        refine eAppendZ_ok hty hm wv.1 (by simpa [SV.wf] using wv.2.1) (fun v w' hr => ?_) h hk
        unfold execOp
        simp only [ho, resolve, ev, hts', invoke, builtin, Sem.run_bind, Sem.run_pure, Result.andThen_ok, SV.dens, hr]
      · refine eAppend_ok hty hm wv.1 (fun v w' htt hr => ?_) h hk
        subst htt
        unfold execOp
        simp only [ho, resolve, ev, hts', invoke, builtin, Sem.run_bind, Sem.run_pure, Result.andThen_ok, SV.dens, hr]
    · exact h.elim
  · split at h
    · rename_i t t' s x hts hvs
      have ev := evs_array ht hm.hpc hvs
      have hts' : ats = #[t, t'] := by apply Array.ext'; simpa using hts
      refine eCopy_ok hty hm (s := s) (fun v w' htt hr => ?_) h hk
      subst htt
      unfold execOp
      simp only [ho, resolve, ev, hts', invoke, builtin, Sem.run_bind, Sem.run_pure, Result.andThen_ok, SV.dens, hr]
    · exact h.elim
  · split at h <;> first
      | exact h.elim
      | (split at h <;> exact h.elim)
  · exact h.elim
theorem ePanic_ok (hm : Md C.ty C.pl G fz0 w0 ρ st w) (ht : TmOk ρ st.ni st.nb tm a) {kp : SV → St → T} {x : Operand} (ho : o.op = .panic x) (h : (ePanic C tm st kp x).wp C.ty F ρ.is Q) (hkp : HP C.ty C.pl F Q G fz0 w0 ρ st a QE kp) : o.wp C.P a w next QE := by
  unfold ePanic at h
  split at h
  · rename_i t v hx
    have ex := evO_den ht hm.hpc hx
    have tx := evO_ty ht hm.hpc hx
    have hop : (execOp a.eval o).run C.P w = .halt (.panic (SV.den ρ (.iface t v))) w := by
      unfold execOp
      simp only [ho, ex, SV.den, Instr.panic, goPanic]
      rfl
    unfold Oper.wp
    rw [hop]
    exact hkp ρ st w (.iface t v) (Env.le_refl ρ) hm rfl tx (evO_wf ht hx) h
  · exact h.elim
theorem eDefer_ok (hm : Md C.ty C.pl G fz0 w0 ρ st w) (ht : TmOk ρ st.ni st.nb tm a) (hdf : DfOk ρ st.ni st.nb st.df a.defers) {c : Call} (ho : o.op = .defer c) (h : (eDefer C tm st k c).wp C.ty F ρ.is Q) (hk : HKD C.ty C.pl F Q G fz0 w0 ρ a o.dst next k) : o.wp C.P a w next QE := by
  obtain ⟨ce, args, ats⟩ := c
  unfold eDefer at h
  simp only at h
  split at h
  · rename_i x
    split at h
    · rename_i g fi ca vs hf hvs
      have ef := evO_den ht hm.hpc hf
      have wf := evO_wf ht hf
      have tf := evO_ty ht hm.hpc hf
      have ev := evs_array ht hm.hpc hvs
      have wv := evOs_wf ht hvs
      have tv := evOs_ty ht hm.hpc hvs
      simp only [SV.wf, Bool.and_eq_true] at wf
      have hop : (execOp a.eval o).run C.P w = .ok (.defer ⟨.fn (.func g) (SV.dens ρ ca).toArray, (SV.dens ρ fi).toArray ++ (SV.dens ρ vs).toArray⟩) w := by
        unfold execOp
        simp only [ho, resolve, ef, ev, SV.den, Deferred.ofValue, Sem.run_bind, Sem.run_pure, Result.andThen_ok]
      unfold Oper.wp
      rw [hop]
      have hm' : Md C.ty C.pl G fz0 w0 ρ { st with df := (g, fi ++ vs ++ ca) :: st.df } w := ⟨hm.below, hm.hni, hm.hnb, hm.hpc, hm.hpw, hm.fzw, hm.fzl, hm.fzn, hm.mem, hm.own, hm.inj, hm.hkk⟩
      exact hk ρ _ w (.tup []) _ (Env.le_refl ρ) hm' ⟨⟨wfs_append (wfs_append wf.1 wv) wf.2, tys_append (tys_append tf.1 tv) tf.2, _, rfl, by rw [dens_append, dens_append]; simp⟩, hdf⟩ trivial h
    · exact h.elim
  · exact h.elim
theorem eMakeMap_ok (hm : Md C.ty C.pl G fz0 w0 ρ st w) {t : TypeId} (ho : o.op = .makeMap t none) (h : (eMakeMap C tm st k).wp C.ty F ρ.is Q) (hk : HK C.ty C.pl F Q G fz0 w0 ρ st a o.dst next k) : o.wp C.P a w next QE := by
  unfold eMakeMap at h
  have hm1 := hm.later (World.grownBy_alloc w (.map #[] 0) none)
  have hb := push_b (C := C) hm w.heap.size (.pointer none)
  obtain ⟨g1, g2⟩ := newB_ok hm1 h w.heap.size (.pointer none) rfl fun hw => by
    refine ⟨trivial, ⟨?_, fun _ h => nomatch h⟩, fun k hk => ?_⟩
    · rw [hb]
      exact heap_alloc_new w _
    · simp only [foot, hb] at hk
      cases hk
      obtain ⟨f1, f2, f3⟩ := fresh_ok hm (Nat.le_refl _)
      exact ⟨f1, f2, f3⟩
  refine wp_value (x := SV.den _ (.map st.nb)) (w' := _) ?_ (hk _ _ _ (.map st.nb) push_le g1 rfl trivial g2)
  unfold execOp
  simp only [ho, Option.map_none, Instr.makeMap, Sem.run_bind, Sem.run_pure, Result.andThen_ok, run_newObj, SV.den, hb]
  rfl
theorem HK.later (hk : HK C.ty C.pl F Q G fz0 w0 ρ st a o.dst next k) {st' : St} (hl : ρ.le ρ') (hd : st'.df = st.df) : HK C.ty C.pl F Q G fz0 w0 ρ' st' a o.dst next k :=
  fun ρ2 st2 w2 v h1 h2 h3 h4 h5 => hk ρ2 st2 w2 v (Env.le_trans hl h1) h2 (h3.trans hd) h4 h5
theorem tmok' {st' : St} (hm : Md C.ty C.pl G fz0 w0 ρ st w) (hm' : Md C.ty C.pl G fz0 w0 ρ' st' w) (hl : ρ.le ρ') (ht : TmOk ρ st.ni st.nb tm a) : TmOk ρ' st'.ni st'.nb tm a := by
  rw [← hm.hni, ← hm.hnb] at ht
  rw [← hm'.hni, ← hm'.hnb]
  exact ht.app hl
theorem eBuildSliceG_ok (hty : TyOk C.P C.ty) (hm : Md C.ty C.pl G fz0 w0 ρ st w) (ht : TmOk ρ st.ni st.nb tm a) {t : TypeId} {len : Nat} {parts : Array (Nat × Operand)} (ho : o.op = .buildSlice t len parts) (h : (eBuildSliceG C tm st k t len parts).wp C.ty F ρ.is Q) (hk : HK C.ty C.pl F Q G fz0 w0 ρ st a o.dst next k) : o.wp C.P a w next QE := by
  unfold eBuildSliceG at h
  cases hpl : C.pl <;> rw [hpl] at h <;> simp only [cond_true, cond_false] at h
  · exact eBuildSlice_ok hty hm ht ho h hk
  · split at h
    · exact giveL_ok (R := o.wp C.P a w next QE) (fun ρ' st' hl hm' hd h => eBuildSlice_ok hty hm' (tmok' hm hm' hl ht) ho h (hk.later hl hd)) (Env.le_refl ρ) hm rfl h
    · exact h.elim
theorem eStoreG_ok (hty : TyOk C.P C.ty) (hm : Md C.ty C.pl G fz0 w0 ρ st w) (ht : TmOk ρ st.ni st.nb tm a) {t : TypeId} {x y : Operand} (ho : o.op = .store t x y) (h : (eStoreG C tm st k t x y).wp C.ty F ρ.is Q) (hk : HK C.ty C.pl F Q G fz0 w0 ρ st a o.dst next k) : o.wp C.P a w next QE := by
  unfold eStoreG at h
  cases hpl : C.pl <;> rw [hpl] at h <;> simp only [cond_true, cond_false] at h
  · exact eStore_ok hty hm ht ho h hk
  · split at h
    · split at h
      · exact giveL_ok (R := o.wp C.P a w next QE) (fun ρ' st' hl hm' hd h => eStore_ok hty hm' (tmok' hm hm' hl ht) ho h (hk.later hl hd)) (Env.le_refl ρ) hm rfl h
      · exact h.elim
    · exact h.elim
theorem sxEff_ok (hty : TyOk C.P C.ty) (hg : GOk C.ty C.gl fz0) (hm : Md C.ty C.pl G fz0 w0 ρ st w) (ht : TmOk ρ st.ni st.nb tm a) (hdf : DfOk ρ st.ni st.nb st.df a.defers) {callF : CallF} {kp : SV → St → T} (hcall : CallOk F Q C G fz0 w0 callF) (h : (sxEff C callF o tm st k kp).wp C.ty F ρ.is Q)
    (hkd : HKD C.ty C.pl F Q G fz0 w0 ρ a o.dst next k) (hkp : HP C.ty C.pl F Q G fz0 w0 ρ st a QE kp) : o.wp C.P a w next QE := by
  have hk := hkd.hk hm hdf
  unfold sxEff at h
  split at h
  · exact eAlloc_ok hty hm ‹_› h hk
  · exact eBox_ok hm ht ‹_› h hk
  · exact eBuildSliceG_ok hty hm ht ‹_› h hk
  · exact eLoad_ok hty hg hm ht ‹_› h hk
  · exact eStoreG_ok hty hm ht ‹_› h hk
  · exact eMakeMap_ok hm ‹_› h hk
  · exact eMapUpdate_ok hty hm ht (.inl ‹_›) h hk
  · exact eMapUpdate_ok hty hm ht (.inr ‹_›) h hk
  · exact eMapEntry_ok hty hm ht ‹_› h hk
  · exact eEntryStore_ok hm ht ‹_› h hk
  · exact eLookup_ok hty hm ht ‹_› h hk
  · exact eIndexAddr_ok hty hm ht ‹_› h hk
  · exact eIndex_ok hty hm ht ‹_› h hk
  · exact eBinOp_ok hm ht ‹_› h hk
  · exact ePick_ok hm ht ‹_› h hk
  · exact eSlice_ok hty hm ht ‹_› h hk
  · exact eMakeSlice_ok hty hm ht ‹_› h hk
  · exact eCall_ok hty hm ht hcall ‹_› h hk hkp
  · exact ePanic_ok hm ht ‹_› h hkp
  · exact eDefer_ok hm ht hdf ‹_› h hkd
  · split at h
    · rename_i e n x h1 h2 hx
      split at h
      · rename_i ax he hax
        cases hn : Nat.beq n 1 <;> rw [hn] at he <;> simp only [cond_true, cond_false] at he
        · cases he
        · exact eConv_ok hty hm ht ‹_› h1 h2 hx (beq_nat hn) he hax h hk
      · exact h.elim
    · exact h.elim
  · exact h.elim
theorem sxOp_ok (hty : TyOk C.P C.ty) (hg : GOk C.ty C.gl fz0) (hm : Md C.ty C.pl G fz0 w0 ρ st w) (ht : TmOk ρ st.ni st.nb tm a) (hdf : DfOk ρ st.ni st.nb st.df a.defers) {callF : CallF} {kp : SV → St → T} (hcall : CallOk F Q C G fz0 w0 callF) (h : (sxOp C callF o tm st k kp).wp C.ty F ρ.is Q)
    (hkd : HKD C.ty C.pl F Q G fz0 w0 ρ a o.dst next k) (hkp : HP C.ty C.pl F Q G fz0 w0 ρ st a QE kp) : o.wp C.P a w next QE := by
  unfold sxOp at h
  split at h
  · rename_i v d hp
    obtain ⟨ρ1, h1, h2⟩ := pureOp_ok hty (hg.dt.mono hm.fzl) (hm.px ht) hp
    obtain ⟨hm', h⟩ := bindD_ok hm h1 h
    obtain ⟨h3, h4⟩ := h2 rfl
    exact wp_value (h4 w hm.fzw) (hkd.hk hm hdf ρ1 _ w v h1.le hm' rfl h3 h)
  · exact sxEff_ok hty hg hm ht hdf hcall h hkd hkp
end
end Go.SY
set_option linter.unusedVariables false
set_option linter.unusedSimpArgs false
namespace Go.SY
open Go Go.RowKit
noncomputable section
variable {F : Nat → List Dt → Post → Prop} {Q : Post}
variable {C : Cfg} {G : Nat → Prop} {fz0 : Fz} {w0 w w' : World} {ρ ρ' ρ1 ρ1' : Env} {st : St} {d : Bd} {tm : Tm} {a : Act} {o : Oper} {k : SV → St → T} {next : Act → World → Prop} {QE : Exit → Act → World → Prop}
theorem fnEq_eq {f g : Fn} (h : fnEq f g = true) : f = g := by
  cases f <;> cases g <;> simp only [fnEq] at h <;> first | (rw [beq_nat h]) | cases h
theorem natsEq_eq : ∀ {a b : List Nat}, natsEq a b = true → a = b
  | [], [], _ => rfl
  | [], _ :: _, h => by cases h
  | _ :: _, [], h => by cases h
  | x :: a, y :: b, h => by
    simp only [natsEq, Bool.and_eq_true] at h
    rw [beq_nat h.1, natsEq_eq h.2]
mutual
theorem SV.beq_eq : ∀ {a b : SV}, a.beq b = true → a = b := by
  intro a b h
  cases a with
  | int k x =>
    cases b <;> simp only [SV.beq, Bool.and_eq_true] at h <;> first | cases h; done | skip
    rw [kindEq_eq h.1, A.beq_eq h.2]
  | bool x =>
    cases b <;> simp only [SV.beq] at h <;> first | cases h; done | skip
    rw [B.beq_eq h]
  | str x =>
    cases b <;> simp only [SV.beq] at h <;> first | cases h; done | skip
    rw [A.beq_eq h]
  | sl x | pt x =>
    cases b <;> simp only [SV.beq] at h <;> first | cases h; done | skip
    rw [beq_nat h]
  | rp b1 s i o p =>
    cases b <;> simp only [SV.beq, Bool.and_eq_true] at h <;> first | cases h; done | skip
    rw [beq_nat h.1.1.1.1, beq_nat h.1.1.1.2, A.beq_eq h.1.1.2, beq_nat h.1.2, natsEq_eq h.2]
  | ptr x y =>
    cases b <;> simp only [SV.beq, Bool.and_eq_true] at h <;> first | cases h; done | skip
    rw [beq_nat h.1, beq_nat h.2]
  | gptr x y =>
    cases b <;> simp only [SV.beq, Bool.and_eq_true] at h <;> first | cases h; done | skip
    rw [beq_nat h.1, beq_nat h.2]
  | slice x y z u =>
    cases b <;> simp only [SV.beq, Bool.and_eq_true] at h <;> first | cases h; done | skip
    rw [beq_nat h.1.1.1, beq_nat h.1.1.2, beq_nat h.1.2, beq_nat h.2]
  | map x =>
    cases b <;> simp only [SV.beq] at h <;> first | cases h; done | skip
    rw [beq_nat h]
  | nilp | nilsl | nilmap | nilfn | niliface => cases b <;> simp only [SV.beq] at h <;> first | rfl | cases h
  | fn f x y =>
    cases b <;> simp only [SV.beq, Bool.and_eq_true] at h <;> first | cases h; done | skip
    rw [fnEq_eq h.1.1, SV.beqs_eq h.1.2, SV.beqs_eq h.2]
  | agg x =>
    cases b <;> simp only [SV.beq] at h <;> first | cases h; done | skip
    rw [SV.beqs_eq h]
  | tup x =>
    cases b <;> simp only [SV.beq] at h <;> first | cases h; done | skip
    rw [SV.beqs_eq h]
  | iface t x =>
    cases b <;> simp only [SV.beq, Bool.and_eq_true] at h <;> first | cases h; done | skip
    rw [beq_nat h.1, SV.beq_eq h.2]
  | gd c w v =>
    cases b <;> simp only [SV.beq, Bool.and_eq_true] at h <;> first | cases h; done | skip
    rw [B.beq_eq h.1.1, SV.beq_eq h.2, show w = _ from by simpa using h.1.2]
  | bot => cases b <;> simp only [SV.beq] at h <;> cases h
theorem SV.beqs_eq : ∀ {a b : List SV}, SV.beqs a b = true → a = b := by
  intro a b h
  cases a with
  | nil => cases b <;> simp only [SV.beqs] at h <;> first | rfl | cases h
  | cons x a =>
    cases b <;> simp only [SV.beqs, Bool.and_eq_true] at h <;> first | cases h; done | skip
    rw [SV.beq_eq h.1, SV.beqs_eq h.2]
end
theorem A.beqs_eq : ∀ {a b : List A}, A.beqs a b = true → a = b
  | [], [], _ => rfl
  | [], _ :: _, h => by cases h
  | _ :: _, [], h => by cases h
  | x :: a, y :: b, h => by
    simp only [A.beqs, Bool.and_eq_true] at h
    rw [A.beq_eq h.1, A.beqs_eq h.2]
theorem E.beq_eq {a b : E} (h : a.beq b = true) : a = b := by
  cases a <;> cases b <;> simp only [E.beq, Bool.and_eq_true] at h <;> first
    | (cases h; done)
    | (rw [kindEq_eq h.1.1, A.beq_eq h.1.2, A.beq_eq h.2])
    | (rw [A.beq_eq h.1, A.beq_eq h.2])
    | (rw [kindEq_eq h.1, A.beq_eq h.2])
    | (rw [B.beq_eq h.1.1, A.beq_eq h.1.2, A.beq_eq h.2])
    | (rw [A.beq_eq h.1.1, A.beq_eq h.1.2, A.beq_eq h.2])
    | (rw [beq_nat h.1.1, A.beq_eq h.1.2, A.beq_eq h.2])
    | (rw [B.beq_eq h])
    | (rw [A.beqs_eq h])
    | (rw [A.beq_eq h])
theorem oEq_eq {a b : Option Nat} (h : oEq a b = true) : a = b := by
  cases a <;> cases b <;> simp only [oEq] at h <;> first | rfl | (rw [beq_nat h]) | cases h
theorem osEq_eq : ∀ {a b : List (Option Nat)}, osEq a b = true → a = b
  | [], [], _ => rfl
  | [], _ :: _, h => by cases h
  | _ :: _, [], h => by cases h
  | x :: a, y :: b, h => by
    simp only [osEq, Bool.and_eq_true] at h
    rw [oEq_eq h.1, osEq_eq h.2]
theorem fsEq_eq : ∀ {a b : List (B × Bool)}, fsEq a b = true → a = b
  | [], [], _ => rfl
  | [], _ :: _, h => by cases h
  | _ :: _, [], h => by cases h
  | x :: a, y :: b, h => by
    simp only [fsEq, Bool.and_eq_true] at h
    obtain ⟨⟨h1, h2⟩, h3⟩ := h
    have h1 := B.beq_eq h1
    have h2 : x.2 = y.2 := by simpa using h2
    rw [fsEq_eq h3, show x = y from Prod.ext h1 h2]
theorem T.beq_eq : ∀ {a b : T}, a.beq b = true → a = b := by
  intro a
  induction a with
  | ret c l =>
    intro b h
    cases b <;> simp only [T.beq, Bool.and_eq_true] at h <;> first | cases h; done | rw [beq_nat h.1, A.beqs_eq h.2]
  | fail n =>
    intro b h
    cases b <;> simp only [T.beq] at h <;> first | cases h; done | rw [beq_nat h]
  | lt o e t ih =>
    intro b h
    cases b <;> simp only [T.beq, Bool.and_eq_true] at h <;> first | cases h; done | rw [oEq_eq h.1.1, E.beq_eq h.1.2, ih h.2]
  | br c t e ih1 ih2 =>
    intro b h
    cases b <;> simp only [T.beq, Bool.and_eq_true] at h <;> first | cases h; done | rw [B.beq_eq h.1.1, ih1 h.1.2, ih2 h.2]
  | call f l n t m p ih1 ih2 =>
    intro b h
    cases b <;> simp only [T.beq, Bool.and_eq_true] at h <;> first | cases h; done | rw [beq_nat h.1.1.1.1.1, A.beqs_eq h.1.1.1.1.2, natsEq_eq h.1.1.1.2, ih1 h.1.1.2, natsEq_eq h.1.2, ih2 h.2]
  | again d l =>
    intro b h
    cases b <;> simp only [T.beq, Bool.and_eq_true] at h <;> first | cases h; done | rw [beq_nat h.1, A.beqs_eq h.2]
  | loop d n fs l t ih =>
    intro b h
    cases b <;> simp only [T.beq, Bool.and_eq_true] at h <;> first | cases h; done | rw [beq_nat h.1.1.1.1, osEq_eq h.1.1.1.2, fsEq_eq h.1.1.2, A.beqs_eq h.1.2, ih h.2]
  | out d t ih =>
    intro b h
    cases b <;> simp only [T.beq, Bool.and_eq_true] at h <;> first | cases h; done | rw [beq_nat h.1, ih h.2]
theorem guardB_ok {ops : Array Oper} {dstOf : Nat → Option Tmp} (hd : ∀ j, dstOf j = (ops[j]?).bind (·.dst)) (ht : TmOk ρ st.ni st.nb tm a) {j : Nat} {want : Bool} {c : B} (h : guardB dstOf tm j want = some c) :
    (yielded ops a.tmps j == some want) = c.den ρ.is ∧ c.wf st.ni = true := by
  unfold guardB at h
  split at h
  · cases h
  · rename_i t hdt
    have hy : ∀ x, a.tmps[t]? = some x → yielded ops a.tmps j = (match x with | .bool b => some b | _ => none) := by
      intro x hx
      unfold yielded
      rw [← hd j, hdt]
      simp only [Option.bind_some, hx]
      cases x <;> rfl
    split at h
    · rename_i b hg
      cases h
      obtain ⟨h1, h2⟩ := ht t _ hg
      rcases h2 with h2 | ⟨h2, hty2, h3⟩
      · cases h2
      · have hx : a.tmps[t]? = some (.bool (b.den ρ.is)) := by
          rw [Array.getElem?_eq_getElem h1]
          have : a.tmps.getD t undef = a.tmps[t] := by simp [h1]
          rw [← this, h3]; rfl
        rw [hy _ hx, B.den_mkIs]
        exact ⟨rfl, B.wf_mkIs (by simpa [SV.wf] using h2) want⟩
    · rename_i c' w b hg
      cases h
      obtain ⟨h1, h2⟩ := ht t _ hg
      rcases h2 with h2 | ⟨h2, hty2, h3⟩
      · cases h2
      · have hx : a.tmps[t]? = some ((SV.gd c' w (.bool b)).den ρ) := by
          rw [Array.getElem?_eq_getElem h1]
          have : a.tmps.getD t undef = a.tmps[t] := by simp [h1]
          rw [← this, h3]
        rw [hy _ hx, B.den_mkAnd, B.den_mkIs, B.den_mkIs]
        simp only [SV.wf, Bool.and_eq_true] at h2
        refine ⟨?_, B.wf_mkAnd (B.wf_mkIs h2.1 _) (B.wf_mkIs h2.2 _)⟩
        simp only [SV.den]
        by_cases hcw : c'.den ρ.is = w
        · rw [if_pos hcw, hcw]; simp
        · rw [if_neg hcw]
          have : (c'.den ρ.is == w) = false := by simpa using hcw
          rw [this]; rfl
    · rename_i hg
      cases h
      obtain ⟨h1, h2⟩ := ht t _ hg
      rcases h2 with h2 | ⟨h2, hty2, h3⟩
      · cases h2
      · have hx : a.tmps[t]? = some ((SV.tup []).den ρ) := by
          rw [Array.getElem?_eq_getElem h1]
          have : a.tmps.getD t undef = a.tmps[t] := by simp [h1]
          rw [← this, h3]
        rw [hy _ hx]
        exact ⟨rfl, rfl⟩
    · cases h
def HT (ty : Ty) (pl : Bool) (F : Nat → List Dt → Post → Prop) (Q : Post) (G : Nat → Prop) (fz0 : Fz) (w0 : World) (ρ : Env) (a : Act) (next : Act → World → Prop) (k : Tm → St → T) : Prop :=
  ∀ ρ' st' w' tm' a', ρ.le ρ' → Md ty pl G fz0 w0 ρ' st' w' → TmOk ρ' st'.ni st'.nb tm' a' → DfOk ρ' st'.ni st'.nb st'.df a'.defers → a'.tmps.size = a.tmps.size → (k tm' st').wp ty F ρ'.is Q → next a' w'
def HTP (ty : Ty) (pl : Bool) (F : Nat → List Dt → Post → Prop) (Q : Post) (G : Nat → Prop) (fz0 : Fz) (w0 : World) (ρ : Env) (a : Act) (QE : Exit → Act → World → Prop) (kp : SV → Tm → St → T) : Prop :=
  ∀ ρ' st' w' v tm' a', ρ.le ρ' → Md ty pl G fz0 w0 ρ' st' w' → TmOk ρ' st'.ni st'.nb tm' a' → DfOk ρ' st'.ni st'.nb st'.df a'.defers → a'.tmps.size = a.tmps.size → v.ty ρ' → v.wf st'.ni st'.nb = true → (kp v tm' st').wp ty F ρ'.is Q → QE (.panic [{ v := v.den ρ', recovered := false }]) a' w'
theorem put_size (a : Act) (d : Option Tmp) (v : Value) : (a.put d v).tmps.size = a.tmps.size := by
  cases d <;> simp [Act.put]
theorem put_defers (a : Act) (d : Option Tmp) (v : Value) : (a.put d v).defers = a.defers := by
  cases d <;> simp [Act.put]
theorem HTP.hp {kp : SV → Tm → St → T} (hm : Md C.ty C.pl G fz0 w0 ρ st w) (ht : TmOk ρ st.ni st.nb tm a) (hdf : DfOk ρ st.ni st.nb st.df a.defers) (h : HTP C.ty C.pl F Q G fz0 w0 ρ a QE kp) : HP C.ty C.pl F Q G fz0 w0 ρ st a QE (fun v st => kp v tm st) := fun ρ' st' w' v hl hm' hd hv hw h' =>
  h ρ' st' w' v tm a hl hm' (hm.tmok hm' hl ht) (by rw [hd]; exact hm.dfok hm' hl hdf) rfl hv hw h'
theorem op_put (hty : TyOk C.P C.ty) (hg : GOk C.ty C.gl fz0) (hm : Md C.ty C.pl G fz0 w0 ρ st w) (ht : TmOk ρ st.ni st.nb tm a) (hdf : DfOk ρ st.ni st.nb st.df a.defers) {callF : CallF} (hcall : CallOk F Q C G fz0 w0 callF) {k : Tm → St → T} {kp : SV → Tm → St → T}
    (h : (sxOp C callF o tm st (fun v st => putT tm o.dst v st k) (fun v st => kp v tm st)).wp C.ty F ρ.is Q) (hk : HT C.ty C.pl F Q G fz0 w0 ρ a next k) (hkp : HTP C.ty C.pl F Q G fz0 w0 ρ a QE kp) : o.wp C.P a w next QE := by
  refine sxOp_ok hty hg hm ht hdf hcall h (fun ρ' st' w' v ds hle hm' hds hv hd => ?_) (hkp.hp hm ht hdf)
  have ht' : TmOk ρ' st'.ni st'.nb tm { a with defers := ds } := hm.tmok hm' hle ht
  obtain ⟨tm', h1, h2⟩ := putT_ok ht' hd hv rfl
  exact hk _ _ _ _ _ hle hm' h1 (by rw [put_defers]; exact hds) (put_size _ _ _) h2
theorem sxG_ok (hty : TyOk C.P C.ty) (hg : GOk C.ty C.gl fz0) {ops : Array Oper} {dstOf : Nat → Option Tmp} (hd : ∀ j, dstOf j = (ops[j]?).bind (·.dst)) (hm : Md C.ty C.pl G fz0 w0 ρ st w) (ht : TmOk ρ st.ni st.nb tm a) (hdf : DfOk ρ st.ni st.nb st.df a.defers) {callF : CallF} (hcall : CallOk F Q C G fz0 w0 callF)
    {k : Tm → St → T} {kp : SV → Tm → St → T} (h : (sxG C callF dstOf o tm st k kp).wp C.ty F ρ.is Q) (hk : HT C.ty C.pl F Q G fz0 w0 ρ a next k) (hkp : HTP C.ty C.pl F Q G fz0 w0 ρ a QE kp) :
    if Region.wanted o (yielded ops a.tmps) = true then o.wp C.P a w next QE else next (a.put o.dst undef) w := by
  unfold sxG at h
  split at h
  · rename_i hgd
    rw [if_pos (by simp [Region.wanted, hgd])]
    exact op_put hty hg hm ht hdf hcall h hk hkp
  · rename_i j want hgd
    have hwant : Region.wanted o (yielded ops a.tmps) = (yielded ops a.tmps j == some want) := by simp [Region.wanted, hgd]
    split at h
    · exact h.elim
    · rename_i c hc
      obtain ⟨hy, hcw⟩ := guardB_ok hd ht hc
      rw [hwant, hy]
      have skip : (putT tm o.dst (.tup []) st k).wp C.ty F ρ.is Q → next (a.put o.dst undef) w := by
        intro h
        obtain ⟨tm', h1, h2⟩ := putT_ok ht h (x := undef) trivial rfl
        exact hk _ _ _ _ _ (Env.le_refl ρ) hm h1 (by rw [put_defers]; exact hdf) (put_size _ _ _) h2
      split at h
      · rename_i hkn
        rw [if_pos (B.known_ok hm.hpc hkn)]
        exact op_put hty hg hm ht hdf hcall h hk hkp
      · rename_i hkn
        rw [if_neg (by rw [B.known_ok hm.hpc hkn]; simp)]
        exact skip h
      · have guarded : ∀ {v : SV} {d : Bd} {ρ1 : Env}, Ext C.ty ρ d ρ1 → (bindD st d fun st => putT tm o.dst (.gd c true v) st k).wp C.ty F ρ.is Q → (c.den ρ.is = true → v.ty ρ1 ∧ (execOp a.eval o).run C.P w = .ok (.value (v.den ρ1)) w) →
            if c.den ρ.is = true then o.wp C.P a w next QE else next (a.put o.dst undef) w := by
          intro v d ρ1 he h hv
          obtain ⟨hm', h⟩ := bindD_ok hm he h
          have ht' := hm.tmok hm' he.le ht
          have hcd : c.den ρ1.is = c.den ρ.is := Env.B_app he.le (by rw [hm.hni]; exact hcw)
          have hdf' : DfOk ρ1 (stD st d).ni (stD st d).nb (stD st d).df a.defers := hm.dfok hm' he.le hdf
          cases hcv : c.den ρ.is
          · rw [if_neg (by simp)]
            obtain ⟨tm', h1, h2⟩ := putT_ok ht' h (v := .gd c true v) (fun e => by rw [hcd, hcv] at e; cases e) (x := undef) (by
              simp only [SV.den, hcd, hcv]; rfl)
            exact hk _ _ _ _ _ he.le hm' h1 (by rw [put_defers]; exact hdf') (put_size _ _ _) h2
          · rw [if_pos rfl]
            obtain ⟨hv1, hv2⟩ := hv hcv
            obtain ⟨tm', h1, h2⟩ := putT_ok ht' h (v := .gd c true v) (fun _ => hv1) (x := v.den ρ1) (by
              simp only [SV.den, hcd, hcv]; rfl)
            exact wp_value hv2 (hk _ _ _ _ _ he.le hm' h1 (by rw [put_defers]; exact hdf') (put_size _ _ _) h2)
        dsimp only at h
        split at h
        · rename_i v d hp
          obtain ⟨ρ1, h1, h2⟩ := pureOp_ok hty (hg.dt.mono hm.fzl) (hm.pxc ht hcw) hp
          exact guarded h1 h fun hcv => ⟨(h2 hcv).1, (h2 hcv).2 w hm.fzw⟩
        · split at h
          · rename_i v d hv
            split at hv
            · rename_i t x ho
              split at hv
              · rename_i ad hx
                have hpc : c.den ρ.is = true → PcOk ρ.is (c.facts true ++ st.pc) := fun hcv => PcOk.append (B.facts_ok _ _ _ hcv) hm.hpc
                have hx : evO (c.facts true ++ st.pc) tm x = some ad := hx
                obtain ⟨ρ1, h1, h2⟩ := loadV_ok hty hg hm hcw hpc (evO_wf ht hx) hv
                refine guarded h1 h fun hcv => ?_
                obtain ⟨h3, ad, h4, h5⟩ := h2 hcv
                have ev := evO_den ht (hpc hcv) hx
                refine ⟨h3, ?_⟩
                unfold execOp
                simp only [ho, ev, h4, Instr.loadAt, Instr.sureAddr, Sem.run_bind, Sem.run_pure, Result.andThen_ok, h5]
              · cases hv
            · cases hv
          · obtain ⟨b, p, hb, hm', hd'⟩ := condB_ok hm h
            cases b
            · simp only [cond_false] at hd'
              rw [if_neg (by rw [hb]; simp)]
              obtain ⟨tm', h1, h2⟩ := putT_ok (st := { st with pc := p }) ht hd' (x := undef) trivial rfl
              exact hk _ _ _ _ _ (Env.le_refl ρ) hm' h1 (by rw [put_defers]; exact hdf) (put_size _ _ _) h2
            · simp only [cond_true] at hd'
              rw [if_pos hb]
              exact op_put hty hg hm' ht hdf hcall hd' hk hkp
theorem sxL_ok (hty : TyOk C.P C.ty) (hg : GOk C.ty C.gl fz0) {ops : Array Oper} {dstOf : Nat → Option Tmp} (hd : ∀ j, dstOf j = (ops[j]?).bind (·.dst)) {callF : CallF} (hcall : CallOk F Q C G fz0 w0 callF) {k : Tm → St → T} {kp : SV → Tm → St → T} : ∀ (l : List Oper) {ρ : Env} {st : St} {w : World} {tm : Tm} {a : Act}, Md C.ty C.pl G fz0 w0 ρ st w → TmOk ρ st.ni st.nb tm a → DfOk ρ st.ni st.nb st.df a.defers →
    (sxL C callF dstOf l tm st k kp).wp C.ty F ρ.is Q → HT C.ty C.pl F Q G fz0 w0 ρ a (QE .normal) k → HTP C.ty C.pl F Q G fz0 w0 ρ a QE kp → wpList C.P ops QE l a w
  | [], ρ, st, w, tm, a, hm, ht, hdf, h, hk, _ => hk _ _ _ _ _ (Env.le_refl ρ) hm ht hdf rfl h
  | o :: l, ρ, st, w, tm, a, hm, ht, hdf, h, hk, hkp => by
    simp only [sxL] at h
    have := sxG_ok (QE := QE) hty hg hd hm ht hdf hcall h (next := wpList C.P ops QE l) (fun ρ' st' w' tm' a' hle hm' ht' hdf' hsz hd' =>
      sxL_ok hty hg hd hcall l hm' ht' hdf' hd' (fun ρ'' st'' w'' tm'' a'' hle' hm'' ht'' hdf'' hsz' hd'' => hk _ _ _ _ _ (Env.le_trans hle hle') hm'' ht'' hdf'' (hsz'.trans hsz) hd'')
        (fun ρ'' st'' w'' v tm'' a'' hle' hm'' ht'' hdf'' hsz' hv hw hd'' => hkp _ _ _ _ _ _ (Env.le_trans hle hle') hm'' ht'' hdf'' (hsz'.trans hsz) hv hw hd'')) hkp
    unfold wpList
    split
    · rename_i hw; rw [if_pos hw] at this; exact .inl this
    · rename_i hw; rw [if_neg hw] at this; exact this
end
end Go.SY
