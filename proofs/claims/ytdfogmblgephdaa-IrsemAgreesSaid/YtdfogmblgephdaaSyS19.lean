/- The symbolic executor SY, its soundness, part 19: calls, panics, what is deferred; all operations. -/
import Derived.Test.YtdfogmblgephdaaSyS18
set_option linter.unusedVariables false
set_option linter.unusedSimpArgs false
namespace Go.SY
open Go Go.RowKit

variable {F : Nat → List Dt → Post → Prop} {Q : Post}
variable {C : Cfg} {G : Nat → Prop} {fz0 : Fz} {w0 w w' : World} {ρ ρ' ρ1 ρ1' : Env} {st : St} {d : Bd} {tm : Tm} {a : Act} {o : Oper} {k : SV → St → T} {next : Act → World → Prop} {QE : Exit → Act → World → Prop}

/-- What comes of a call. -/
def RetR (next nextP : Value → World → Prop) : Ending → World → Prop
  | .returned v, w => next v w
  | .panicked chain, w => ∃ v, chain = [{ v, recovered := false }] ∧ nextP v w
  | .outgrown, _ => False
/-- A call, by whichever way the machine makes it. -/
def CallSem (P : Program) (f : FuncId) (args : Array Value) (w : World) (next nextP : Value → World → Prop) : Prop :=
  ((callFunc f args).run P w = .ok (.enter f args) w ∧ Calls P f args w (RetR next nextP)) ∨ (∃ v, (callFunc f args).run P w = .ok (.value v) w ∧ next v w)
def KV (ty : Ty) (F : Nat → List Dt → Post → Prop) (Q : Post) (G : Nat → Prop) (fz0 : Fz) (w0 : World) (ρ : Env) (st : St) (next : Value → World → Prop) (k : SV → St → T) : Prop :=
  ∀ ρ' st' w' v, ρ.le ρ' → Md ty G fz0 w0 ρ' st' w' → st'.df = st.df → v.ty ρ' → (k v st').wp ty F ρ'.is Q → next (v.den ρ') w'
/-- The same for a panic's value. -/
def KP (ty : Ty) (F : Nat → List Dt → Post → Prop) (Q : Post) (G : Nat → Prop) (fz0 : Fz) (w0 : World) (ρ : Env) (st : St) (next : Value → World → Prop) (k : SV → St → T) : Prop :=
  ∀ ρ' st' w' v, ρ.le ρ' → Md ty G fz0 w0 ρ' st' w' → st'.df = st.df → v.ty ρ' → v.wf st'.ni st'.nb = true → (k v st').wp ty F ρ'.is Q → next (v.den ρ') w'
def CallOk (F : Nat → List Dt → Post → Prop) (Q : Post) (C : Cfg) (G : Nat → Prop) (fz0 : Fz) (w0 : World) (callF : CallF) : Prop :=
  ∀ (f : Nat) (args : List SV) (st : St) (k kp : SV → St → T) (ρ : Env) (w : World) (next nextP : Value → World → Prop), (callF f args st k kp).wp C.ty F ρ.is Q → Md C.ty G fz0 w0 ρ st w → SV.wfs st.ni st.nb args = true → SV.tys ρ args →
    KV C.ty F Q G fz0 w0 ρ st next k → KP C.ty F Q G fz0 w0 ρ st nextP kp → CallSem C.P f (SV.dens ρ args).toArray w next nextP

/-- What is deferred. -/
def DfOk (ρ : Env) (ni nb : Nat) : List (Nat × List SV) → List Deferred → Prop
  | [], [] => True
  | x :: l, d :: ds => (SV.wfs ni nb x.2 = true ∧ SV.tys ρ x.2 ∧ ∃ cap, d.target = .fn (.func x.1) cap ∧ d.args ++ cap = (SV.dens ρ x.2).toArray) ∧ DfOk ρ ni nb l ds
  | _, _ => False
theorem DfOk.app (hl : ρ.le ρ') : ∀ {l : List (Nat × List SV)} {ds : List Deferred}, DfOk ρ ρ.is.length ρ.bs.length l ds → DfOk ρ' ρ'.is.length ρ'.bs.length l ds
  | [], [], _ => trivial
  | [], _ :: _, h => h
  | _ :: _, [], h => h
  | x :: l, d :: ds, h => by
    obtain ⟨⟨h1, h2, cap, h3, h4⟩, h5⟩ := h
    exact ⟨⟨SV.wfs_mono hl.len_is hl.len_bs h1, SV.tys_app hl h1 h2, cap, h3, by rw [h4, SV.dens_app hl h1]⟩, DfOk.app hl h5⟩
theorem Md.dfok {st' : St} (hm : Md C.ty G fz0 w0 ρ st w) (hm' : Md C.ty G fz0 w0 ρ' st' w') (hl : ρ.le ρ') {l : List (Nat × List SV)} {ds : List Deferred} (h : DfOk ρ st.ni st.nb l ds) : DfOk ρ' st'.ni st'.nb l ds := by
  rw [← hm.hni, ← hm.hnb] at h
  have := h.app hl
  rwa [hm'.hni, hm'.hnb] at this
def HKD (ty : Ty) (F : Nat → List Dt → Post → Prop) (Q : Post) (G : Nat → Prop) (fz0 : Fz) (w0 : World) (ρ : Env) (a : Act) (dst : Option Tmp) (next : Act → World → Prop) (k : SV → St → T) : Prop :=
  ∀ ρ' st' w' v ds, ρ.le ρ' → Md ty G fz0 w0 ρ' st' w' → DfOk ρ' st'.ni st'.nb st'.df ds → v.ty ρ' → (k v st').wp ty F ρ'.is Q → next (Act.put { a with defers := ds } dst (v.den ρ')) w'
def HP (ty : Ty) (F : Nat → List Dt → Post → Prop) (Q : Post) (G : Nat → Prop) (fz0 : Fz) (w0 : World) (ρ : Env) (st : St) (a : Act) (QE : Exit → Act → World → Prop) (kp : SV → St → T) : Prop :=
  ∀ ρ' st' w' v, ρ.le ρ' → Md ty G fz0 w0 ρ' st' w' → st'.df = st.df → v.ty ρ' → v.wf st'.ni st'.nb = true → (kp v st').wp ty F ρ'.is Q → QE (.panic [{ v := v.den ρ', recovered := false }]) a w'
theorem HKD.hk (h : HKD C.ty F Q G fz0 w0 ρ a o.dst next k) (hm : Md C.ty G fz0 w0 ρ st w) (hd : DfOk ρ st.ni st.nb st.df a.defers) : HK C.ty F Q G fz0 w0 ρ st a o.dst next k := fun ρ' st' w' v hl hm' hdf hv hw => by
  have := h ρ' st' w' v a.defers hl hm' (by rw [hdf]; exact hm.dfok hm' hl hd) hv hw
  exact this
theorem eCall_ok (hty : TyOk C.P C.ty) (hm : Md C.ty G fz0 w0 ρ st w) (ht : TmOk ρ st.ni st.nb tm a) {callF : CallF} {kp : SV → St → T} (hcall : CallOk F Q C G fz0 w0 callF) {c : Call} (ho : o.op = .call c) (h : (eCall C tm st k kp callF c).wp C.ty F ρ.is Q)
    (hk : HK C.ty F Q G fz0 w0 ρ st a o.dst next k) (hkp : HP C.ty F Q G fz0 w0 ρ st a QE kp) : o.wp C.P a w next QE := by
  obtain ⟨ce, args, ats⟩ := c
  unfold eCall at h
  simp only at h
  split at h
  · rename_i f
    split at h
    · rename_i f' fi ca vs hf hvs
      have ef := evO_den ht hm.hpc hf
      have wf := evO_wf ht hf
      have tf := evO_ty ht hm.hpc hf
      have ev := evs_array ht hm.hpc hvs
      have wv := evOs_wf ht hvs
      have tv := evOs_ty ht hm.hpc hvs
      simp only [SV.wf, Bool.and_eq_true] at wf
      have := hcall f' (fi ++ vs ++ ca) st k kp ρ w (fun v w' => next (a.put o.dst v) w') (fun v w' => QE (.panic [{ v, recovered := false }]) a w') h hm (wfs_append (wfs_append wf.1 wv) wf.2) (tys_append (tys_append tf.1 tv) tf.2) hk hkp
      have hargs : ((SV.dens ρ fi).toArray ++ (SV.dens ρ vs).toArray) ++ (SV.dens ρ ca).toArray = (SV.dens ρ (fi ++ vs ++ ca)).toArray := by
        rw [dens_append, dens_append]; simp
      have hop : (execOp a.eval o).run C.P w = (callFunc f' (SV.dens ρ (fi ++ vs ++ ca)).toArray).run C.P w := by
        unfold execOp
        simp only [ho, resolve, ef, ev, SV.den, Deferred.ofValue, Sem.run_bind, Sem.run_pure, Result.andThen_ok, invoke, hargs]
      rcases this with ⟨h1, h2⟩ | ⟨v, h1, h2⟩
      · unfold Oper.wp
        rw [hop, h1]
        refine Calls.mono h2 fun e w' he => ?_
        cases e with
        | returned v => exact he
        | panicked chain => obtain ⟨v, rfl, he⟩ := he; exact he
        | outgrown => exact he.elim
      · exact wp_value (hop.trans h1) h2
    · exact h.elim
  · split at h
    · rename_i t t' s x hts hvs
      have ev := evs_array ht hm.hpc hvs
      have wv := evOs_wf ht hvs
      simp only [SV.wfs, Bool.and_eq_true] at wv
      have hts' : ats = #[t, t'] := by apply Array.ext'; simpa using hts
      refine eAppend_ok hty hm wv.1 (fun v w' htt hr => ?_) h hk
      subst htt
      unfold execOp
      simp only [ho, resolve, ev, hts', invoke, builtin, Sem.run_bind, Sem.run_pure, Result.andThen_ok, SV.dens, hr]
    · exact h.elim
  · split at h
    · rename_i t t' s x hts hvs
      have ev := evs_array ht hm.hpc hvs
      have hts' : ats = #[t, t'] := by apply Array.ext'; simpa using hts
      refine eCopy_ok hty hm (s := s) (fun v w' htt hr => ?_) h hk
      subst htt
      unfold execOp
      simp only [ho, resolve, ev, hts', invoke, builtin, Sem.run_bind, Sem.run_pure, Result.andThen_ok, SV.dens, hr]
    · exact h.elim
  · split at h <;> first
      | exact h.elim
      | (split at h <;> exact h.elim)
  · exact h.elim
theorem ePanic_ok (hm : Md C.ty G fz0 w0 ρ st w) (ht : TmOk ρ st.ni st.nb tm a) {kp : SV → St → T} {x : Operand} (ho : o.op = .panic x) (h : (ePanic C tm st kp x).wp C.ty F ρ.is Q) (hkp : HP C.ty F Q G fz0 w0 ρ st a QE kp) : o.wp C.P a w next QE := by
  unfold ePanic at h
  split at h
  · rename_i t v hx
    have ex := evO_den ht hm.hpc hx
    have tx := evO_ty ht hm.hpc hx
    have hop : (execOp a.eval o).run C.P w = .halt (.panic (SV.den ρ (.iface t v))) w := by
      unfold execOp
      simp only [ho, ex, SV.den, Instr.panic, goPanic]
      rfl
    unfold Oper.wp
    rw [hop]
    exact hkp ρ st w (.iface t v) (Env.le_refl ρ) hm rfl tx (evO_wf ht hx) h
  · exact h.elim
theorem eDefer_ok (hm : Md C.ty G fz0 w0 ρ st w) (ht : TmOk ρ st.ni st.nb tm a) (hdf : DfOk ρ st.ni st.nb st.df a.defers) {c : Call} (ho : o.op = .defer c) (h : (eDefer C tm st k c).wp C.ty F ρ.is Q) (hk : HKD C.ty F Q G fz0 w0 ρ a o.dst next k) : o.wp C.P a w next QE := by
  obtain ⟨ce, args, ats⟩ := c
  unfold eDefer at h
  simp only at h
  split at h
  · rename_i x
    split at h
    · rename_i g fi ca vs hf hvs
      have ef := evO_den ht hm.hpc hf
      have wf := evO_wf ht hf
      have tf := evO_ty ht hm.hpc hf
      have ev := evs_array ht hm.hpc hvs
      have wv := evOs_wf ht hvs
      have tv := evOs_ty ht hm.hpc hvs
      simp only [SV.wf, Bool.and_eq_true] at wf
      have hop : (execOp a.eval o).run C.P w = .ok (.defer ⟨.fn (.func g) (SV.dens ρ ca).toArray, (SV.dens ρ fi).toArray ++ (SV.dens ρ vs).toArray⟩) w := by
        unfold execOp
        simp only [ho, resolve, ef, ev, SV.den, Deferred.ofValue, Sem.run_bind, Sem.run_pure, Result.andThen_ok]
      unfold Oper.wp
      rw [hop]
      have hm' : Md C.ty G fz0 w0 ρ { st with df := (g, fi ++ vs ++ ca) :: st.df } w := ⟨hm.below, hm.hni, hm.hnb, hm.hpc, hm.hpw, hm.fzw, hm.fzl, hm.fzn, hm.mem, hm.own, hm.inj⟩
      exact hk ρ _ w (.tup []) _ (Env.le_refl ρ) hm' ⟨⟨wfs_append (wfs_append wf.1 wv) wf.2, tys_append (tys_append tf.1 tv) tf.2, _, rfl, by rw [dens_append, dens_append]; simp⟩, hdf⟩ trivial h
    · exact h.elim
  · exact h.elim
theorem eMakeMap_ok (hm : Md C.ty G fz0 w0 ρ st w) {t : TypeId} (ho : o.op = .makeMap t none) (h : (eMakeMap C tm st k).wp C.ty F ρ.is Q) (hk : HK C.ty F Q G fz0 w0 ρ st a o.dst next k) : o.wp C.P a w next QE := by
  unfold eMakeMap at h
  have hm1 := hm.later (World.grownBy_alloc w (.map #[] 0) none)
  have hb := push_b (C := C) hm w.heap.size (.pointer none)
  obtain ⟨g1, g2⟩ := newB_ok hm1 h w.heap.size (.pointer none) rfl fun hw => by
    refine ⟨trivial, ⟨?_, fun _ h => nomatch h⟩, fun k hk => ?_⟩
    · rw [hb]
      exact heap_alloc_new w _
    · simp only [foot, hb] at hk
      cases hk
      obtain ⟨f1, f2, f3⟩ := fresh_ok hm (Nat.le_refl _)
      exact ⟨f1, f2, f3⟩
  refine wp_value (x := SV.den _ (.map st.nb)) (w' := _) ?_ (hk _ _ _ (.map st.nb) push_le g1 rfl trivial g2)
  unfold execOp
  simp only [ho, Option.map_none, Instr.makeMap, Sem.run_bind, Sem.run_pure, Result.andThen_ok, run_newObj, SV.den, hb]
  rfl
theorem sxEff_ok (hty : TyOk C.P C.ty) (hg : GOk C.gl fz0) (hm : Md C.ty G fz0 w0 ρ st w) (ht : TmOk ρ st.ni st.nb tm a) (hdf : DfOk ρ st.ni st.nb st.df a.defers) {callF : CallF} {kp : SV → St → T} (hcall : CallOk F Q C G fz0 w0 callF) (h : (sxEff C callF o tm st k kp).wp C.ty F ρ.is Q)
    (hkd : HKD C.ty F Q G fz0 w0 ρ a o.dst next k) (hkp : HP C.ty F Q G fz0 w0 ρ st a QE kp) : o.wp C.P a w next QE := by
  have hk := hkd.hk hm hdf
  unfold sxEff at h
  split at h
  · exact eAlloc_ok hty hm ‹_› h hk
  · exact eBox_ok hm ht ‹_› h hk
  · exact eBuildSlice_ok hty hm ht ‹_› h hk
  · exact eLoad_ok hty hg hm ht ‹_› h hk
  · exact eStore_ok hty hm ht ‹_› h hk
  · exact eMakeMap_ok hm ‹_› h hk
  · exact eMapUpdate_ok hty hm ht (.inl ‹_›) h hk
  · exact eMapUpdate_ok hty hm ht (.inr ‹_›) h hk
  · exact eMapEntry_ok hty hm ht ‹_› h hk
  · exact eEntryStore_ok hm ht ‹_› h hk
  · exact eLookup_ok hty hm ht ‹_› h hk
  · exact eIndexAddr_ok hty hm ht ‹_› h hk
  · exact eIndex_ok hty hm ht ‹_› h hk
  · exact eBinOp_ok hm ht ‹_› h hk
  · exact ePick_ok hm ht ‹_› h hk
  · exact eSlice_ok hty hm ht ‹_› h hk
  · exact eMakeSlice_ok hty hm ht ‹_› h hk
  · exact eCall_ok hty hm ht hcall ‹_› h hk hkp
  · exact ePanic_ok hm ht ‹_› h hkp
  · exact eDefer_ok hm ht hdf ‹_› h hkd
  · split at h
    · rename_i e n x h1 h2 hx
      split at h
      · rename_i ax he hax
        cases hn : Nat.beq n 1 <;> rw [hn] at he <;> simp only [cond_true, cond_false] at he
        · cases he
        · exact eConv_ok hty hm ht ‹_› h1 h2 hx (beq_nat hn) he hax h hk
      · exact h.elim
    · exact h.elim
  · exact h.elim
theorem sxOp_ok (hty : TyOk C.P C.ty) (hg : GOk C.gl fz0) (hm : Md C.ty G fz0 w0 ρ st w) (ht : TmOk ρ st.ni st.nb tm a) (hdf : DfOk ρ st.ni st.nb st.df a.defers) {callF : CallF} {kp : SV → St → T} (hcall : CallOk F Q C G fz0 w0 callF) (h : (sxOp C callF o tm st k kp).wp C.ty F ρ.is Q)
    (hkd : HKD C.ty F Q G fz0 w0 ρ a o.dst next k) (hkp : HP C.ty F Q G fz0 w0 ρ st a QE kp) : o.wp C.P a w next QE := by
  unfold sxOp at h
  split at h
  · rename_i v d hp
    obtain ⟨ρ1, h1, h2⟩ := pureOp_ok hty (hm.px ht) hp
    obtain ⟨hm', h⟩ := bindD_ok hm h1 h
    obtain ⟨h3, h4⟩ := h2 rfl
    exact wp_value (h4 w hm.fzw) (hkd.hk hm hdf ρ1 _ w v h1.le hm' rfl h3 h)
  · exact sxEff_ok hty hg hm ht hdf hcall h hkd hkp

end Go.SY
