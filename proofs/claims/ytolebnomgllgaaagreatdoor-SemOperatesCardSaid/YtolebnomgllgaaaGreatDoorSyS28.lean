/- The symbolic executor SY, its soundness, part 28: code, calls, what is deferred. -/
import Derived.Test.YtolebnomgllgaaaGreatDoorSyS34
import Derived.Test.YtolebnomgllgaaaGreatDoorSyS35
import Derived.LoopN
import Derived.Scope
import Derived.Recover
set_option linter.unusedVariables false
set_option linter.unusedSimpArgs false
namespace Go.SY
open Go Go.RowKit
noncomputable section
variable {F : Nat → List Dt → Post → Prop} {Q : Post} {P : Program}
variable {C : Cfg} {ty : Ty} {pl : Bool} {G : Nat → Prop} {fz0 : Fz} {w0 w w' : World} {ρ ρ' ρ1 ρ1' ρN ρB : Env} {st : St} {d : Bd} {tm : Tm} {a : Act} {QE : Exit → Act → World → Prop}
def resS (a : Act) (r : ResultVar) : Sem Value := match r with
  | .tmp t => pure (a.tmps.getD t undef)
  | .cell x t => do loadVar t (← asAddr (a.tmps.getD x undef))
theorem resV_ok (hty : TyOk C.P C.ty) (hg : GOk C.ty C.gl fz0) (hm : Md C.ty C.pl G fz0 w0 ρ st w) (ht : TmOk ρ st.ni st.nb tm a) {r : ResultVar} {v : SV} (h : resV C tm st r = some v) :
    v.ty ρ ∧ (resS a r).run C.P w = .ok (v.den ρ) w := by
  cases r with
  | tmp t =>
    simp only [resV] at h
    split at h
    · cases h
    · rename_i u hu hne
      cases h
      rcases (ht t u hne).2 with h | ⟨_, h2, h⟩
      · exact absurd h hu
      · refine ⟨SV.ty_under hm.hpc h2, ?_⟩
        rw [SV.den_under hm.hpc]
        simp only [resS, Sem.run_pure, h]
    · cases h
  | cell x t =>
    simp only [resV] at h
    split at h
    · rename_i b off hx
      split at h
      · rename_i v' d' hl
        cases h
        have hwx : (SV.ptr b off).wf st.ni st.nb = true := by
          rcases (ht x _ hx).2 with h | h
          · cases h
          · exact h.1
        have hd : d' = st.bd := by
          unfold loadV at hl
          split at hl
          · rename_i n agg hag
            simp only at hl
            split at hl
            · cases hl
            · cases agg <;> simp only [cond_true, cond_false] at hl
              · split at hl <;> cases hl
                rfl
              · cases hl; rfl
          · cases hl
        obtain ⟨ρ1, h1, h2⟩ := loadV_ok hty hg hm (cg := .c true) rfl (fun _ => hm.hpc) hwx hl
        obtain ⟨h3, ad, h4, h5⟩ := h2 rfl
        have hρ : ρ1 = ρ := by
          have q1 : ρ1.is = ρ.is := by rw [h1.is, hd]; rfl
          have q2 : ρ1.bs = ρ.bs := by
            obtain ⟨y, hy, hyl⟩ := h1.bs
            rw [hd] at hyl
            rw [hy, List.eq_nil_of_length_eq_zero hyl, List.append_nil]
          have q3 := h1.fz
          cases ρ1; cases ρ; simp_all
        rw [hρ] at h3 h5
        refine ⟨h3, ?_⟩
        have : a.tmps.getD x undef = SV.den ρ (.ptr b off) := by
          rcases (ht x _ hx).2 with h | ⟨_, _, h⟩
          · cases h
          · exact h
        simp only [resS, this, h4, asAddr, Sem.run_bind, Sem.run_pure, Result.andThen_ok, h5]
      · cases h
    · cases h
theorem evRes_ok (hty : TyOk C.P C.ty) (hg : GOk C.ty C.gl fz0) (hm : Md C.ty C.pl G fz0 w0 ρ st w) (ht : TmOk ρ st.ni st.nb tm a) : ∀ {rs : List ResultVar} {l : List SV}, evRes C tm st rs = some l →
    SV.tys ρ l ∧ (rs.mapM (m := Sem) (resS a)).run C.P w = .ok (SV.dens ρ l) w
  | [], l, h => by simp only [evRes] at h; cases h; exact ⟨trivial, rfl⟩
  | x :: rs, l, h => by
    simp only [evRes] at h
    split at h
    · cases h
    · rename_i v hv
      split at h <;> cases h
      rename_i l' hl
      obtain ⟨ih1, ih2⟩ := evRes_ok hty hg hm ht hl
      obtain ⟨h1, h2⟩ := resV_ok hty hg hm ht hv
      refine ⟨⟨h1, ih1⟩, ?_⟩
      rw [List.mapM_cons, Sem.run_bind, h2]
      simp only [Result.andThen_ok, Sem.run_bind, ih2, Sem.run_pure]
      rfl
theorem results_ok (hty : TyOk C.P C.ty) (hg : GOk C.ty C.gl fz0) (hm : Md C.ty C.pl G fz0 w0 ρ st w) (ht : TmOk ρ st.ni st.nb tm a) {fn : Func} {l : List SV} (h : evRes C tm st fn.results.toList = some l) :
    SV.tys ρ l ∧ (results fn a.tmps).run C.P w = .ok ((tupV l).den ρ) w := by
  obtain ⟨h1, e⟩ := evRes_ok hty hg hm ht h
  refine ⟨h1, ?_⟩
  unfold results
  have hfun : (fun r => (match r with
      | ResultVar.tmp t => pure (a.tmps.getD t undef)
      | ResultVar.cell x t => do loadVar t (← asAddr (a.tmps.getD x undef)) : Sem Value)) = resS a := by
    funext r; cases r <;> rfl
  rw [← hfun] at e
  simp only [Sem.run_bind, Array.mapM_eq_mapM_toList, Sem.run_map, Sem.run_pure, tupV_den]
  refine Eq.trans (congrArg (fun x => (Result.andThen x fun (a : List Value) w' => Result.ok a.toArray w').andThen fun a w' => Result.ok (if h : a.size = 1 then a[0] else Value.tuple a) w') e) ?_
  simp only [Result.andThen_ok]
  match SV.dens ρ l with
  | [] => rfl
  | [v] => rfl
  | _ :: _ :: _ => rfl
def Room (C : Cfg) (f : Nat) (a : Act) : Prop := ∀ fn, C.P.funcs[f]? = some fn → fn.ntmps ≤ a.tmps.size
theorem Room.like {f : Nat} {a' : Act} (h : Room C f a) (k : a'.tmps.size = a.tmps.size) : Room C f a' := fun fn hf => by rw [k]; exact h fn hf
def SxP (F : Nat → List Dt → Post → Prop) (C : Cfg) (n : Nat) : Prop :=
  ∀ (dep f : Nat) (c : Code) (tm : Tm) (st : St) (k : KE) (ρ : Env) (w : World) (a : Act) (QE : Exit → Act → World → Prop) (G : Nat → Prop) (fz0 : Fz) (w0 : World) (Q : Post), GOk C.ty C.gl fz0 → Md C.ty C.pl G fz0 w0 ρ st w → TmOk ρ st.ni st.nb tm a → DfOk ρ st.ni st.nb st.df a.defers → Room C f a →
    (sx C n dep f c tm st k).wp C.ty F ρ.is Q → HE C.ty C.pl F Q G fz0 w0 ρ a QE k → c.wp C.P QE a w ∧ ∀ b, c = .loop b → C.un f = true → Code.rounds C.P b QE n a w
def CoP (F : Nat → List Dt → Post → Prop) (C : Cfg) (n : Nat) : Prop := ∀ dep G fz0 w0 Q, GOk C.ty C.gl fz0 → CallOk F Q C G fz0 w0 (callOf C n dep)
theorem noSel_spec : ∀ {l : List Oper}, noSel l = true → ∀ o ∈ l, ∀ cs b, o.op ≠ .select cs b
  | [], _, o, ho, _, _ => nomatch ho
  | x :: l, h, o, ho, cs, b => by
    simp only [noSel, Bool.and_eq_true] at h
    rcases List.mem_cons.1 ho with rfl | ho
    · intro e; rw [e] at h; cases h.1
    · exact noSel_spec h.2 o ho cs b
theorem dstOfOps_eq (ops : Array Oper) (j : Nat) : dstOfOps ops.toList j = (ops[j]?).bind (·.dst) := by
  unfold dstOfOps
  rw [nth_eq, Array.getElem?_toList]
  cases ops[j]? <;> rfl
def AgrD (ops : Array Oper) (a a' : Act) : Prop := a'.tmps.size = a.tmps.size ∧ a'.defers = a.defers ∧ ∀ t, (∀ (i : Nat) (o : Oper), ops[i]? = some o → o.dst ≠ some t) → a'.tmps.getD t undef = a.tmps.getD t undef
def QEd (ops : Array Oper) (QE : Exit → Act → World → Prop) : Exit → Act → World → Prop
  | .panic c, a, w => ∀ a', AgrD ops a a' → QE (.panic c) a' w
  | e, a, w => QE e a w
theorem AgrD.refl (ops : Array Oper) (a : Act) : AgrD ops a a := ⟨rfl, rfl, fun _ _ => rfl⟩
theorem AgrD.of_put {ops : Array Oper} {i : Nat} {o : Oper} (ho : ops[i]? = some o) {a a' : Act} {v : Value} (h : AgrD ops a a') : AgrD ops (a.put o.dst v) a' := by
  refine ⟨h.1.trans (put_size _ _ _).symm, h.2.1.trans (put_defers _ _ _).symm, fun t ht => ?_⟩
  rw [h.2.2 t ht]
  exact ((agr_put (o := o) (a := a) (v := v) rfl) t (ht i o ho)).symm
theorem botL_get : ∀ {l : List Oper} {tm : Tm} {i : Nat} {v : SV}, (botL l tm).get i = some v → (v = .bot ∧ ∃ u, tm.get i = some u) ∨ (tm.get i = some v ∧ ∀ o ∈ l, o.dst ≠ some i)
  | [], tm, i, v, h => .inr ⟨h, fun _ h => nomatch h⟩
  | o :: l, tm, i, v, h => by
    simp only [botL] at h
    split at h
    · rename_i d hd
      split at h
      · rename_i u hu
        rcases botL_get h with ⟨h1, x, h2⟩ | ⟨h1, h2⟩
        · rcases Tb.get_put h2 with ⟨rfl, rfl⟩ | ⟨_, h2⟩
          · exact .inl ⟨h1, u, hu⟩
          · exact .inl ⟨h1, x, h2⟩
        · rcases Tb.get_put h1 with ⟨rfl, rfl⟩ | ⟨hne, h1⟩
          · exact .inl ⟨rfl, u, hu⟩
          · refine .inr ⟨h1, fun o' ho' => ?_⟩
            rcases List.mem_cons.1 ho' with rfl | ho'
            · rw [hd]; intro e; cases e; exact hne rfl
            · exact h2 o' ho'
      · rename_i hu
        rcases botL_get h with h1 | ⟨h1, h2⟩
        · exact .inl h1
        · refine .inr ⟨h1, fun o' ho' => ?_⟩
          rcases List.mem_cons.1 ho' with rfl | ho'
          · rw [hd]; intro e; cases e; rw [hu] at h1; cases h1
          · exact h2 o' ho'
    · rename_i hd
      rcases botL_get h with h1 | ⟨h1, h2⟩
      · exact .inl h1
      · refine .inr ⟨h1, fun o' ho' => ?_⟩
        rcases List.mem_cons.1 ho' with rfl | ho'
        · rw [hd]; simp
        · exact h2 o' ho'
theorem TmOk.botL {ops : Array Oper} {a' : Act} {ni nb : Nat} (ht : TmOk ρ ni nb tm a) (h : AgrD ops a a') : TmOk ρ ni nb (botL ops.toList tm) a' := by
  intro i v hv
  rcases botL_get hv with ⟨rfl, u, hu⟩ | ⟨h1, h2⟩
  · exact ⟨by rw [h.1]; exact (ht i u hu).1, .inl rfl⟩
  · obtain ⟨q1, q2⟩ := ht i v h1
    refine ⟨by rw [h.1]; exact q1, q2.imp id fun ⟨r1, r2, r3⟩ => ⟨r1, r2, ?_⟩⟩
    rw [h.2.2 i fun j o ho => h2 o (by rw [← Array.getElem?_toList] at ho; exact List.mem_of_getElem? ho)]
    exact r3
theorem HTP.dead {ops : Array Oper} {kp : SV → Tm → St → T} (h : HTP C.ty C.pl F Q G fz0 w0 ρ a QE kp) : HTP C.ty C.pl F Q G fz0 w0 ρ a (QEd ops QE) (fun v tm st => kp v (botL ops.toList tm) st) :=
  fun ρ' st' w' v tm' a' h1 h2 h3 h4 h5 h6 h7 h8 a'' ha => h ρ' st' w' v _ a'' h1 h2 (h3.botL ha) (by rw [ha.2.1]; exact h4) (ha.1.trans h5) h6 h7 h8
theorem QEd.back {ops : Array Oper} {e : Exit} (h : QEd ops QE e a w) : QE e a w := by
  cases e with
  | panic c => exact h a (AgrD.refl ops a)
  | _ => exact h
theorem botZ_get {lz : Nat} : ∀ {l : List Ro} {tm : Tm} {i : Nat} {v : SV}, (botZ lz l tm).get i = some v → (v = .bot ∧ ∃ u, tm.get i = some u) ∨ tm.get i = some v
  | [], tm, i, v, h => .inr h
  | r :: l, tm, i, v, h => by
    simp only [botZ] at h
    cases hb : Nat.testBit lz r.i <;> rw [hb] at h <;> simp only [cond_true, cond_false] at h
    · exact botZ_get h
    · split at h
      · rename_i d hd
        split at h
        · rename_i u hu
          rcases botZ_get h with ⟨h1, x, h2⟩ | h1
          · rcases Tb.get_put h2 with ⟨rfl, rfl⟩ | ⟨_, h2⟩
            · exact .inl ⟨h1, u, hu⟩
            · exact .inl ⟨h1, x, h2⟩
          · rcases Tb.get_put h1 with ⟨rfl, rfl⟩ | ⟨_, h1⟩
            · exact .inl ⟨rfl, u, hu⟩
            · exact .inr h1
        · exact botZ_get h
      · exact botZ_get h
theorem TmOk.botZ {ni nb lz : Nat} {l : List Ro} (ht : TmOk ρ ni nb tm a) : TmOk ρ ni nb (botZ lz l tm) a := by
  intro i v hv
  rcases botZ_get hv with ⟨rfl, u, hu⟩ | h1
  · exact ⟨(ht i u hu).1, .inl rfl⟩
  · exact ht i v h1
theorem region_draw_ok (H : Hyp C F) (hg : GOk C.ty C.gl fz0) {id : Nat} {ops : Array Oper} {callF : CallF} (hcall : ∀ (G : Nat → Prop) (fz0 : Fz) (w0 : World), GOk C.ty C.gl fz0 → CallOk F Q C G fz0 w0 callF) (hsel : noSel ops.toList = true) {k : Tm → St → T} {kp : SV → Tm → St → T} {hs : Hd} {n : Nat}
    (hm : Md C.ty C.pl G fz0 w0 ρ st w) (ht : TmOk ρ st.ni st.nb tm a) (hdf : DfOk ρ st.ni st.nb st.df a.defers) (h : (sxAny C callF (dstOfOps ops.toList) hs (bfL ops.toList 0 .e) (lzOf (rosOf ops)) st.mem n (rosOf ops) 0 0 (botZ (lzOf (rosOf ops)) (rosOf ops) tm) st k (fun v tm st => kp v (botL ops.toList tm) st)).wp C.ty F ρ.is Q) (hk : HT C.ty C.pl F Q G fz0 w0 ρ a (QE .normal) k) (hkp : HTP C.ty C.pl F Q G fz0 w0 ρ a QE kp) : (Code.region id ops true).wp C.P QE a w := by
  have main : (Code.region id ops true).wp C.P (QEd ops QE) a w := by
    refine wp_region_R (R := Rl C.ty ρ st.mem hs ρ.fz) (bf := bfOf (bfL ops.toList 0 .e)) H.mix ?_
    have hm' : Md C.ty C.pl G fz0 w0 ρ st { w with drawn := w.drawn + 1 } := hm.drew
    refine sxAny_ok H.ty hg (dstOfOps_eq ops) (fun j o cs b ho => noSel_spec hsel o (by
      rw [← Array.getElem?_toList] at ho; exact List.mem_of_getElem? ho) cs b) (fun i o c a v w ho h a' ha => h a' (AgrD.of_put ho ha)) hcall hm' (bfOf_ok ops) (lzOf_ok ops) n (psOk_start ops) (MkL.of ⟨by simp, fun i => ?_⟩) (fun k o e hk _ _ _ => ?_) (fun y hy => by rw [Nat.zero_testBit] at hy; exact absurd hy (by simp)) ?_ (Env.le_refl ρ) hm' ht.botZ hdf (fun y _ => Sv.of hm' (plOf hs y)) HZ.zero h (fun ρ' st' w' tm' a' h1 h2 h3 h4 h5 h6 => hk ρ' st' w' tm' a' h1 h2 h3 h4 h5 h6) hkp.dead
    · rw [Nat.zero_testBit]
      by_cases hi : i < ops.size
      · simp [hi]
      · simp [hi]
    · by_cases hi : k < ops.size
      · simp [hi] at hk
      · simp [hi] at hk
    · rw [Array.toList_replicate, unc_replicate]; exact Nat.le_refl _
  exact wp_mono main fun e a w h => h.back
theorem region_fill_ok (H : Hyp C F) (hg : GOk C.ty C.gl fz0) {id : Nat} {ops : Array Oper} {callF : CallF} (hcall : ∀ (G : Nat → Prop) (fz0 : Fz) (w0 : World), GOk C.ty C.gl fz0 → CallOk F Q C G fz0 w0 callF) (hsel : noSel ops.toList = true) {k : Tm → St → T} {kp : SV → Tm → St → T} {hs : Hd} {n : Nat} {fl : Fl} (hfl : fillOf C.ty (rosOf ops) = some fl)
    (hm : Md C.ty C.pl G fz0 w0 ρ st w) (ht : TmOk ρ st.ni st.nb tm a) (hdf : DfOk ρ st.ni st.nb st.df a.defers) (h : (sxAnyM C callF (dstOfOps ops.toList) hs (bfL ops.toList 0 .e) st.mem fl n (dropRo fl.mkr (filtIns false (rosOf ops))) (2 ^ fl.mkr) 0 (hideM tm fl.m) st k (fun v tm st => kp v (botL ops.toList tm) st)).wp C.ty F ρ.is Q) (hk : HT C.ty C.pl F Q G fz0 w0 ρ a (QE .normal) k) (hkp : HTP C.ty C.pl F Q G fz0 w0 ρ a QE kp) : (Code.region id ops true).wp C.P QE a w := by
  have main : (Code.region id ops true).wp C.P (QEd ops QE) a w := by
    refine wp_region_R (R := Rl C.ty ρ st.mem hs ρ.fz) (bf := bfOf (bfL ops.toList 0 .e)) H.mix ?_
    have hm' : Md C.ty C.pl G fz0 w0 ρ st { w with drawn := w.drawn + 1 } := hm.drew
    have hfo := fillOf_ok hfl
    have hin0 : inD ops 0 = [] := by
      unfold inD
      rw [List.filter_eq_nil_iff]
      intro r _
      simp
    have hps0 : PsM ops (2 ^ fl.mkr) (dropRo fl.mkr (filtIns false (rosOf ops))) := by
      have := (psM_start ops).drop fl.mkr
      rwa [show Nat.lor 0 (2 ^ fl.mkr) = 2 ^ fl.mkr from Nat.zero_or _] at this
    refine sxAnyM_ok H.ty hg (dstOfOps_eq ops) (fun j o cs b ho => noSel_spec hsel o (by
      rw [← Array.getElem?_toList] at ho; exact List.mem_of_getElem? ho) cs b) (fun i o c a v w ho h a' ha => h a' (AgrD.of_put ho ha)) hcall hm' (bfOf_ok ops) hfo n (dm := 0) (mA := 0) hps0 ⟨by simp, fun i => ?_, Nat.zero_and _, (fun i h => by rw [Nat.zero_testBit] at h; exact absurd h (by simp)), fun e => ?_⟩ ⟨(Nat.zero_or _).symm⟩ (fun r hr => by rw [hin0] at hr; exact absurd hr (by simp)) (fun k o e hk _ _ _ => ?_) (fun y hy => by rw [Nat.zero_testBit] at hy; exact absurd hy (by simp)) ?_ (Env.le_refl ρ) hm' ht.hide hdf (fun y _ => Sv.of hm' (plOf hs y)) (show HbOk G w0 ρ st _ a ops fl 0 0 from .inl ⟨Nat.zero_testBit _, rfl⟩) h (fun ρ' st' w' tm' a' h1 h2 h3 h4 h5 h6 => hk ρ' st' w' tm' a' h1 h2 h3 h4 h5 h6) hkp.dead
    · rw [Nat.zero_testBit]
      by_cases hi : i < ops.size
      · simp [hi]
      · simp [hi]
    · cases hr : filtIns true (rosOf ops) with
      | nil => exact hfo.ne hr
      | cons r rs =>
        have : Nat.testBit fl.bits r.i = true := by rw [hfo.bits]; exact bitsRo_bit.2 ⟨r, by rw [hr]; exact .head _, rfl⟩
        rw [← e, Nat.zero_testBit] at this; cases this
    · by_cases hi : k < ops.size
      · simp [hi] at hk
      · simp [hi] at hk
    · rw [Array.toList_replicate, unc_replicate]; exact Nat.le_refl _
  exact wp_mono main fun e a w h => h.back
theorem sx_succ (H : Hyp C F) {n : Nat} (ih : SxP F C n) (ihc : CoP F C n) : SxP F C (n + 1) := by
  intro dep f c tm st k ρ w a QE G fz0 w0 Q hg hm ht hdf hr h hk
  cases c with
  | skip =>
    simp only [sx] at h
    exact ⟨Go.wp_skip (hk .norm _ _ _ _ _ (Env.le_refl ρ) hm ht hdf rfl trivial h), fun b e => by cases e⟩
  | region id ops draw =>
    refine ⟨?_, fun b e => by cases e⟩
    simp only [sx] at h
    have hk' : HT C.ty C.pl F Q G fz0 w0 ρ a (QE .normal) (k .norm) := fun ρ' st' w' tm' a' h1 h2 h3 h4 h5 h6 => hk .norm ρ' st' w' tm' a' h1 h2 h3 h4 h5 trivial h6
    cases draw
    · simp only [cond_false] at h
      exact wp_region_list (sxL_ok (QE := QE) H.ty hg (dstOfOps_eq ops) (ihc dep G fz0 w0 Q hg) ops.toList hm ht hdf h hk' (fun ρ' st' w' v tm' a' h1 h2 h3 h4 h5 h6 h7 h8 => hk (.panic v) ρ' st' w' tm' a' h1 h2 h3 h4 h5 ⟨h6, h7⟩ h8))
    · simp only [cond_true] at h
      cases hs : noSel ops.toList <;> rw [hs] at h <;> simp only [cond_true, cond_false] at h
      · exact h.elim
      · split at h
        · exact region_draw_ok (kp := fun v tm st => k (.panic v) tm st) H hg (fun G fz0 w0 hg => ihc dep G fz0 w0 Q hg) hs hm ht hdf h hk' (fun ρ' st' w' v tm' a' h1 h2 h3 h4 h5 h6 h7 h8 => hk (.panic v) ρ' st' w' tm' a' h1 h2 h3 h4 h5 ⟨h6, h7⟩ h8)
        · rename_i fl hfl
          exact region_fill_ok (kp := fun v tm st => k (.panic v) tm st) H hg (fun G fz0 w0 hg => ihc dep G fz0 w0 Q hg) hs hfl hm ht hdf h hk' (fun ρ' st' w' v tm' a' h1 h2 h3 h4 h5 h6 h7 h8 => hk (.panic v) ρ' st' w' tm' a' h1 h2 h3 h4 h5 ⟨h6, h7⟩ h8)
  | seq x y =>
    refine ⟨?_, fun b e => by cases e⟩
    simp only [sx] at h
    refine wp_seq ((ih dep f x tm st _ ρ w a (Exit.then (y.wp C.P QE) QE) G fz0 w0 Q hg hm ht hdf hr h fun e ρ' st' w' tm' a' hle hm' ht' hdf' hsz hok hd => ?_).1)
    cases e with
    | norm => exact (ih dep f y tm' st' k ρ' w' a' QE G fz0 w0 Q hg hm' ht' hdf' (hr.like hsz) hd fun e ρ'' st'' w'' tm'' a'' hle' hm'' ht'' hdf'' hsz' => hk e _ _ _ _ _ (Env.le_trans hle hle') hm'' ht'' hdf'' (hsz'.trans hsz)).1
    | exit i => exact hk (.exit i) _ _ _ _ _ hle hm' ht' hdf' hsz hok hd
    | ret => exact hk .ret _ _ _ _ _ hle hm' ht' hdf' hsz hok hd
    | panic v => exact hk (.panic v) _ _ _ _ _ hle hm' ht' hdf' hsz hok hd
  | cond x y z =>
    refine ⟨?_, fun b e => by cases e⟩
    simp only [sx] at h
    split at h
    · rename_i c hc
      have ev := evO_den ht hm.hpc hc
      obtain ⟨b, p, hb, hm', hd⟩ := condB_ok hm h
      refine wp_cond (t := b) (by rw [ev]; simp only [SV.den, hb]) ?_
      cases b
      · exact (ih dep f z tm _ k ρ w a QE G fz0 w0 Q hg hm' ht hdf hr hd hk).1
      · exact (ih dep f y tm _ k ρ w a QE G fz0 w0 Q hg hm' ht hdf hr hd hk).1
    · exact h.elim
  | block id b =>
    refine ⟨?_, fun b e => by cases e⟩
    simp only [sx] at h
    refine wp_block ((ih dep f b tm st _ ρ w a (Exit.inBlock id QE) G fz0 w0 Q hg hm ht hdf hr h fun e ρ' st' w' tm' a' hle hm' ht' hdf' hsz hok hd => ?_).1)
    cases e with
    | norm => exact hk .norm _ _ _ _ _ hle hm' ht' hdf' hsz hok hd
    | exit i =>
      show (if i = id then QE .normal a' w' else QE (.exit i) a' w')
      simp only at hd
      cases hi : Nat.beq i id <;> rw [hi] at hd
      · rw [if_neg (fun e => by rw [e, Nat.beq_refl] at hi; cases hi)]
        exact hk (.exit i) _ _ _ _ _ hle hm' ht' hdf' hsz hok hd
      · rw [if_pos (beq_nat hi)]
        exact hk .norm _ _ _ _ _ hle hm' ht' hdf' hsz trivial hd
    | ret => exact hk .ret _ _ _ _ _ hle hm' ht' hdf' hsz hok hd
    | panic v => exact hk (.panic v) _ _ _ _ _ hle hm' ht' hdf' hsz hok hd
  | exit id =>
    simp only [sx] at h
    exact ⟨wp_exit (hk (.exit id) _ _ _ _ _ (Env.le_refl ρ) hm ht hdf rfl trivial h), fun b e => by cases e⟩
  | ret =>
    simp only [sx] at h
    exact ⟨wp_ret (hk .ret _ _ _ _ _ (Env.le_refl ρ) hm ht hdf rfl trivial h), fun b e => by cases e⟩
  | scope b =>
    refine ⟨?_, fun b e => by cases e⟩
    simp only [sx] at h
    refine wp_scope_straight ((ih dep f b tm st k ρ w a (Exit.noGoto QE) G fz0 w0 Q hg hm ht hdf hr h fun e ρ' st' w' tm' a' hle hm' ht' hdf' hsz hok hd => ?_).1)
    cases e <;> exact hk _ _ _ _ _ _ hle hm' ht' hdf' hsz hok hd
  | label l =>
    simp only [sx] at h
    exact ⟨wp_label (hk .norm _ _ _ _ _ (Env.le_refl ρ) hm ht hdf rfl trivial h), fun b e => by cases e⟩
  | goto l => simp only [sx] at h; exact h.elim
  | refuse _ => simp only [sx] at h; exact h.elim
  | rangeFunc _ _ _ _ => simp only [sx] at h; exact h.elim
  | loop b =>
    simp only [sx] at h
    cases hu : C.un f <;> rw [hu] at h <;> simp only [cond_true, cond_false] at h
    · refine ⟨?_, fun b e hu' => nomatch hu'⟩
      refine sxLoop_ok H.mono H.ty hg ?_ hm ht hdf h hk fun tm st k ρ w a' QE G fz0 w0 Q hg hm ht hdf hsz h hk => (ih (dep + 1) f b tm st k ρ w a' QE G fz0 w0 Q hg hm ht hdf (hr.like hsz) h hk).1
      unfold ntmpsOf
      split
      · rename_i fn hf; exact hr fn hf
      · exact Nat.zero_le _
    · have : Code.rounds C.P b QE (n + 1) a w := by
        rw [rounds_succ]
        refine (ih dep f b tm st _ ρ w a (Exit.then (Code.rounds C.P b QE n) QE) G fz0 w0 Q hg hm ht hdf hr h fun e ρ' st' w' tm' a' hle hm' ht' hdf' hsz hok hd => ?_).1
        cases e with
        | norm => exact (ih dep f (.loop b) tm' st' k ρ' w' a' QE G fz0 w0 Q hg hm' ht' hdf' (hr.like hsz) hd fun e ρ'' st'' w'' tm'' a'' hle' hm'' ht'' hdf'' hsz' => hk e _ _ _ _ _ (Env.le_trans hle hle') hm'' ht'' hdf'' (hsz'.trans hsz)).2 b rfl hu
        | exit i => exact hk (.exit i) _ _ _ _ _ hle hm' ht' hdf' hsz hok hd
        | ret => exact hk .ret _ _ _ _ _ hle hm' ht' hdf' hsz hok hd
        | panic v => exact hk (.panic v) _ _ _ _ _ hle hm' ht' hdf' hsz hok hd
      refine ⟨wp_loop_rounds _ this, fun b' e _ => ?_⟩
      cases e
      exact this
def MoR (ρ : Env) (ni nb : Nat) (m : Option SV) (u : FrameMode) : Prop := match m with
  | some v => v.wf ni nb = true ∧ v.ty ρ ∧ u = .panicking [{ v := v.den ρ, recovered := false }]
  | none => u = .returning ∨ ∃ x, u = .panicking [{ v := x, recovered := true }]
theorem MoR.app {m : Option SV} {u : FrameMode} (hl : ρ.le ρ') (h : MoR ρ ρ.is.length ρ.bs.length m u) : MoR ρ' ρ'.is.length ρ'.bs.length m u := by
  cases m with
  | none => exact h
  | some v =>
    obtain ⟨h1, h2, h3⟩ := h
    exact ⟨SV.wf_mono hl.len_is hl.len_bs h1, SV.ty_app hl h1 h2, by rw [h3, SV.den_app hl h1]⟩
theorem Md.mor {st' : St} {m : Option SV} {u : FrameMode} (hm : Md C.ty C.pl G fz0 w0 ρ st w) (hm' : Md C.ty C.pl G fz0 w0 ρ' st' w') (hl : ρ.le ρ') (h : MoR ρ st.ni st.nb m u) : MoR ρ' st'.ni st'.nb m u := by
  rw [← hm.hni, ← hm.hnb] at h
  have := h.app hl
  rwa [hm'.hni, hm'.hnb] at this
def HS (ty : Ty) (pl : Bool) (F : Nat → List Dt → Post → Prop) (Q : Post) (G : Nat → Prop) (fz0 : Fz) (w0 : World) (ρ : Env) (a : Act) (c₀ : Frame) (cs : List Frame) (QS : Exit → Act → List Frame → World → Prop) (k : Ex → Tm → St → Option SV → T) : Prop :=
  ∀ e ρ' st' w' tm' a' m' u', ρ.le ρ' → Md ty pl G fz0 w0 ρ' st' w' → TmOk ρ' st'.ni st'.nb tm' a' → DfOk ρ' st'.ni st'.nb st'.df a'.defers → a'.tmps.size = a.tmps.size → Ex.ok ρ' st'.ni st'.nb e → MoR ρ' st'.ni st'.nb m' u' → (k e tm' st' m').wp ty F ρ'.is Q → QS (e.ex ρ') a' ({ c₀ with mode := u' } :: cs) w'
def SsP (F : Nat → List Dt → Post → Prop) (C : Cfg) (n : Nat) : Prop :=
  ∀ (dep f : Nat) (c : Code) (tm : Tm) (st : St) (m : Option SV) (k : Ex → Tm → St → Option SV → T) (ρ : Env) (w : World) (a : Act) (QS : Exit → Act → List Frame → World → Prop) (c₀ : Frame) (cs : List Frame) (u : FrameMode) (G : Nat → Prop) (fz0 : Fz) (w0 : World) (Q : Post), GOk C.ty C.gl fz0 → Md C.ty C.pl G fz0 w0 ρ st w → TmOk ρ st.ni st.nb tm a → DfOk ρ st.ni st.nb st.df a.defers → Room C f a → MoR ρ st.ni st.nb m u →
    (sxS C n dep f c tm st m k).wp C.ty F ρ.is Q → HS C.ty C.pl F Q G fz0 w0 ρ a c₀ cs QS k → c.wpS C.P QS a ({ c₀ with mode := u } :: cs) w
theorem opS_ok {ops : Array Oper} {QS : Exit → Act → List Frame → World → Prop} {o : Oper} {i : Nat} {rest : List Nat} {cs : List Frame} (ho : ops[i]? = some o)
    (h : if Region.wanted o (yielded ops a.tmps) = true then o.wp P a w (fun a' w' => wpOpsS P ops QS rest a' cs w') (fun e a' w' => QS e a' cs w') else wpOpsS P ops QS rest (a.put o.dst undef) cs w) : wpOpsS P ops QS (i :: rest) a cs w := by
  unfold wpOpsS
  simp only [ho]
  split
  · rename_i hw
    rw [if_pos hw] at h
    unfold Oper.wp at h
    split
    · rename_i w' hr
      rw [hr] at h
      exact h.elim
    · exact h
  · rename_i hw
    rw [if_neg hw] at h
    exact h
theorem sxSL_ok (H : Hyp C F) (hg : GOk C.ty C.gl fz0) {ops : Array Oper} {callF : CallF} (hcall : CallOk F Q C G fz0 w0 callF) {k : Tm → St → Option SV → T} {QS : Exit → Act → List Frame → World → Prop} {c₀ : Frame} {cs : List Frame} : ∀ (l : List Oper) (i : Nat) {ρ : Env} {st : St} {w : World} {tm : Tm} {a : Act} {m : Option SV} {u : FrameMode}, (∀ j o, l[j]? = some o → ops[i + j]? = some o) → Md C.ty C.pl G fz0 w0 ρ st w → TmOk ρ st.ni st.nb tm a → DfOk ρ st.ni st.nb st.df a.defers → MoR ρ st.ni st.nb m u →
    (sxSL C callF (dstOfOps ops.toList) l tm st m k).wp C.ty F ρ.is Q →
    (∀ ρ' st' w' tm' a' m' u', ρ.le ρ' → Md C.ty C.pl G fz0 w0 ρ' st' w' → TmOk ρ' st'.ni st'.nb tm' a' → DfOk ρ' st'.ni st'.nb st'.df a'.defers → a'.tmps.size = a.tmps.size → MoR ρ' st'.ni st'.nb m' u' → (k tm' st' m').wp C.ty F ρ'.is Q → QS .normal a' ({ c₀ with mode := u' } :: cs) w') →
    wpOpsS C.P ops QS (List.range' i l.length) a ({ c₀ with mode := u } :: cs) w
  | [], i, ρ, st, w, tm, a, m, u, hl, hm, ht, hdf, hmo, h, hk => by
    simp only [List.length_nil, List.range'_zero, wpOpsS]
    simp only [sxSL] at h
    exact hk _ _ _ _ _ _ _ (Env.le_refl ρ) hm ht hdf rfl hmo h
  | o :: l, i, ρ, st, w, tm, a, m, u, hl, hm, ht, hdf, hmo, h, hk => by
    have ho : ops[i]? = some o := hl 0 o rfl
    have hl' : ∀ j o, l[j]? = some o → ops[i + 1 + j]? = some o := fun j o' hj => by
      have := hl (j + 1) o' (by simpa using hj)
      rwa [show i + (j + 1) = i + 1 + j by omega] at this
    rw [List.length_cons, List.range'_succ]
    have plain : ∀ {x : Nat}, (sxG C callF (dstOfOps ops.toList) o tm st (fun tm st => sxSL C callF (dstOfOps ops.toList) l tm st m k) (fun _ _ _ => .fail x)).wp C.ty F ρ.is Q → wpOpsS C.P ops QS (i :: List.range' (i + 1) l.length) a ({ c₀ with mode := u } :: cs) w := by
      intro x h
      refine opS_ok ho ?_
      exact sxG_ok (QE := fun e a' w' => QS e a' ({ c₀ with mode := u } :: cs) w') (next := fun a' w' => wpOpsS C.P ops QS (List.range' (i + 1) l.length) a' ({ c₀ with mode := u } :: cs) w') H.ty hg (dstOfOps_eq ops) hm ht hdf hcall h
        (fun ρ' st' w' tm' a' hle hm' ht' hdf' hsz hd => sxSL_ok H hg hcall l (i + 1) hl' hm' ht' hdf' (hm.mor hm' hle hmo) hd fun ρ'' st'' w'' tm'' a'' m'' u'' hle' hm'' ht'' hdf'' hsz' => hk ρ'' st'' w'' tm'' a'' m'' u'' (Env.le_trans hle hle') hm'' ht'' hdf'' (hsz'.trans hsz))
        (fun _ _ _ _ _ _ _ _ _ _ _ _ _ h => h.elim)
    unfold sxSL at h
    split at h
    · rename_i c hop hgd
      split at h
      · rename_i hce
        have hrun : (execOp a.eval o).run C.P w = .ok .recover w := by
          unfold execOp
          simp only [hop, resolve, hce, invoke, builtin, Sem.run_bind, Sem.run_pure, Result.andThen_ok]
        have hw : Region.wanted o (yielded ops a.tmps) = true := by simp [Region.wanted, hgd]
        unfold wpOpsS
        simp only [ho, hw, if_true, hrun]
        have go : ∀ {v : SV} {x : Value} {u' : FrameMode}, v.ty ρ → x = v.den ρ → MoR ρ st.ni st.nb none u' → (putT tm o.dst v st fun tm st => sxSL C callF (dstOfOps ops.toList) l tm st none k).wp C.ty F ρ.is Q → wpOpsS C.P ops QS (List.range' (i + 1) l.length) (a.put o.dst x) ({ c₀ with mode := u' } :: cs) w := by
          intro v x u' hv hx hmo' h
          obtain ⟨tm', h1, h2⟩ := putT_ok ht h hv hx
          exact sxSL_ok H hg hcall l (i + 1) hl' hm h1 (by rw [put_defers]; exact hdf) hmo' h2 fun ρ'' st'' w'' tm'' a'' m'' u'' hle' hm'' ht'' hdf'' hsz' => hk ρ'' st'' w'' tm'' a'' m'' u'' hle' hm'' ht'' hdf'' (hsz'.trans (put_size _ _ _))
        cases m with
        | some v =>
          obtain ⟨h1, h2, rfl⟩ := hmo
          simp only [recoverD]
          exact go h2 rfl (.inr ⟨_, rfl⟩) h
        | none =>
          rcases hmo with rfl | ⟨x, rfl⟩
          · simp only [recoverD]
            exact go (v := .niliface) trivial rfl (.inl rfl) h
          · simp only [recoverD]
            exact go (v := .niliface) trivial rfl (.inr ⟨x, rfl⟩) h
      · exact plain h
    · exact plain h
theorem ss_succ (H : Hyp C F) {n : Nat} (ih : SxP F C n) (ihc : CoP F C n) (ihs : SsP F C n) : SsP F C (n + 1) := by
  intro dep f c tm st m k ρ w a QS c₀ cs u G fz0 w0 Q hg hm ht hdf hr hmo h hk
  unfold sxS at h
  cases hrec : hasRec (opsOfCode c) <;> rw [hrec] at h <;> simp only [cond_true, cond_false] at h
  · refine wpS_of_wp ((ih dep f c tm st _ ρ w a _ G fz0 w0 Q hg hm ht hdf hr h fun e ρ' st' w' tm' a' hle hm' ht' hdf' hsz hok hd => ?_).1)
    exact hk e ρ' st' w' tm' a' m u hle hm' ht' hdf' hsz hok (hm.mor hm' hle hmo) hd
  · split at h
    · rename_i x y
      refine wpS_seq (ihs dep f x tm st m _ ρ w a _ c₀ cs u G fz0 w0 Q hg hm ht hdf hr hmo h fun e ρ' st' w' tm' a' m' u' hle hm' ht' hdf' hsz hok hmo' hd => ?_)
      cases e with
      | norm => exact ihs dep f y tm' st' m' k ρ' w' a' QS c₀ cs u' G fz0 w0 Q hg hm' ht' hdf' (hr.like hsz) hmo' hd fun e ρ'' st'' w'' tm'' a'' m'' u'' hle' hm'' ht'' hdf'' hsz' => hk e ρ'' st'' w'' tm'' a'' m'' u'' (Env.le_trans hle hle') hm'' ht'' hdf'' (hsz'.trans hsz)
      | exit i => exact hk (.exit i) _ _ _ _ _ _ _ hle hm' ht' hdf' hsz hok hmo' hd
      | ret => exact hk .ret _ _ _ _ _ _ _ hle hm' ht' hdf' hsz hok hmo' hd
      | panic v => exact hk (.panic v) _ _ _ _ _ _ _ hle hm' ht' hdf' hsz hok hmo' hd
    · rename_i x y z
      split at h
      · rename_i c hc
        have ev := evO_den ht hm.hpc hc
        obtain ⟨b, p, hb, hm', hd⟩ := condB_ok hm h
        refine wpS_cond (t := b) (by rw [ev]; simp only [SV.den, hb]) ?_
        cases b
        · exact ihs dep f z tm _ m k ρ w a QS c₀ cs u G fz0 w0 Q hg hm' ht hdf hr hmo hd hk
        · exact ihs dep f y tm _ m k ρ w a QS c₀ cs u G fz0 w0 Q hg hm' ht hdf hr hmo hd hk
      · exact h.elim
    · rename_i id ops
      refine wpS_region ?_
      have := sxSL_ok H hg (ihc dep G fz0 w0 Q hg) (ops := ops) (QS := QS) (c₀ := c₀) (cs := cs) ops.toList 0 (fun j o hj => by simpa using hj) hm ht hdf hmo h fun ρ' st' w' tm' a' m' u' h1 h2 h3 h4 h5 h6 h7 => hk .norm ρ' st' w' tm' a' m' u' h1 h2 h3 h4 h5 trivial h6 h7
      rwa [Array.length_toList, ← List.range_eq_range'] at this
    · exact h.elim
def KVn (ty : Ty) (pl : Bool) (F : Nat → List Dt → Post → Prop) (Q : Post) (G : Nat → Prop) (fz0 : Fz) (w0 : World) (ρ : Env) (next : Value → World → Prop) (k : SV → St → T) : Prop :=
  ∀ ρ' st' w' v, ρ.le ρ' → Md ty pl G fz0 w0 ρ' st' w' → v.ty ρ' → (k v st').wp ty F ρ'.is Q → next (v.den ρ') w'
def KPn (ty : Ty) (pl : Bool) (F : Nat → List Dt → Post → Prop) (Q : Post) (G : Nat → Prop) (fz0 : Fz) (w0 : World) (ρ : Env) (next : Value → World → Prop) (k : SV → St → T) : Prop :=
  ∀ ρ' st' w' v, ρ.le ρ' → Md ty pl G fz0 w0 ρ' st' w' → v.ty ρ' → v.wf st'.ni st'.nb = true → (k v st').wp ty F ρ'.is Q → next (v.den ρ') w'
theorem frame_ok {args : List SV} {n : Nat} (hw : SV.wfs st.ni st.nb args = true) (hty : SV.tys ρ args) :
    TmOk ρ st.ni st.nb (frameT args n) { tmps := (SV.dens ρ args).toArray ++ Array.replicate (n - (SV.dens ρ args).toArray.size) undef, defers := [] } := by
  intro i v hi
  have hi' : (args ++ List.replicate (n - args.length) (SV.tup []))[i]? = some v := by
    rcases get_ofL _ _ _ _ _ hi with ⟨_, h⟩ | h
    · simpa using h
    · cases h
  have hden : SV.dens ρ (args ++ List.replicate (n - args.length) (SV.tup [])) = SV.dens ρ args ++ List.replicate (n - args.length) undef := by
    rw [dens_append]
    congr 1
    induction n - args.length with
    | zero => rfl
    | succ m ih => rw [List.replicate_succ, List.replicate_succ]; simp only [SV.dens, ih]; rfl
  have hsz : ((SV.dens ρ args).toArray ++ Array.replicate (n - (SV.dens ρ args).toArray.size) undef) = (SV.dens ρ (args ++ List.replicate (n - args.length) (SV.tup []))).toArray := by
    rw [hden]
    apply Array.ext'
    simp [dens_length]
  have hget : (SV.dens ρ (args ++ List.replicate (n - args.length) (SV.tup [])))[i]? = some (v.den ρ) := by rw [dens_getElem?, hi']; rfl
  simp only [hsz]
  have hmem := List.mem_of_getElem? hi'
  refine ⟨by simpa using (List.getElem?_eq_some_iff.1 hget).1, .inr ⟨?_, ?_, ?_⟩⟩
  · rcases List.mem_append.1 hmem with h | h
    · exact wfs_mem hw v h
    · rw [(List.mem_replicate.1 h).2]; rfl
  · rcases List.mem_append.1 hmem with h | h
    · exact tys_mem hty v h
    · rw [(List.mem_replicate.1 h).2]; trivial
  · simp [Array.getD_eq_getD_getElem?, hget]
theorem run_callFunc_enter {P : Program} {f : Nat} {fn : Func} {c : Code} {args : Array Value} (hf : P.funcs[f]? = some fn) (hb : fn.body = some c) (hn : (fn.name == "runtime.NumGoroutine") = false) (w : World) :
    (callFunc f args).run P w = .ok (.enter f args) w := by
  unfold callFunc
  simp only [Sem.run_bind, run_program, Result.andThen_ok, hf, hn, hb, Option.isNone_some, Bool.false_eq_true, if_false, Sem.run_pure]
def LvP (F : Nat → List Dt → Post → Prop) (C : Cfg) (n : Nat) : Prop :=
  ∀ (dep : Nat) (fn : Func) (tm : Tm) (m : Option SV) (ds : List (Nat × List SV)) (st : St) (k kp : SV → St → T) (ρ : Env) (w : World) (a : Act) (dl : List Deferred) (u : FrameMode) (next nextP : Value → World → Prop) (G : Nat → Prop) (fz0 : Fz) (w0 : World) (Q : Post), GOk C.ty C.gl fz0 → Md C.ty C.pl G fz0 w0 ρ st w → TmOk ρ st.ni st.nb tm a → DfOk ρ st.ni st.nb ds dl →
    (match m with
    | some v => v.wf st.ni st.nb = true ∧ v.ty ρ ∧ u = .panicking [{ v := v.den ρ, recovered := false }]
    | none => u = .returning) → (leave C n dep fn tm m ds st k kp).wp C.ty F ρ.is Q → KVn C.ty C.pl F Q G fz0 w0 ρ next k → KPn C.ty C.pl F Q G fz0 w0 ρ nextP kp → Leaves C.P fn a.tmps (RetR next nextP) dl u w
theorem leave_succ (H : Hyp C F) {n : Nat} (ihs : SsP F C n) (ihl : LvP F C n) : LvP F C (n + 1) := by
  intro dep fn tm m ds st k kp ρ w a dl u next nextP G fz0 w0 Q hg hm ht hds hmo h hk hkp
  cases ds with
  | nil =>
    cases dl with
    | cons _ _ => exact hds.elim
    | nil =>
      unfold leave at h
      cases m with
      | some v =>
        obtain ⟨h1, h2, rfl⟩ := hmo
        exact ⟨v.den ρ, rfl, hkp ρ st w v (Env.le_refl ρ) hm h2 h1 h⟩
      | none =>
        subst hmo
        dsimp only at h
        split at h
        · rename_i l hl
          obtain ⟨r1, r2⟩ := results_ok H.ty hg hm ht hl
          exact ⟨_, r2, hk ρ st w (tupV l) (Env.le_refl ρ) hm (tupV_ty r1) h⟩
        · exact h.elim
  | cons x ds =>
    cases dl with
    | nil => exact hds.elim
    | cons dd dl =>
      obtain ⟨⟨hw, hty, cap, htar, hargs⟩, hds⟩ := hds
      obtain ⟨dt, da⟩ := dd
      have htar : dt = .fn (.func x.1) cap := htar
      have hargs : da ++ cap = (SV.dens ρ x.2).toArray := hargs
      subst htar
      simp only [leave] at h
      split at h
      · rename_i gn hgn
        split at h
        · rename_i c hb
          cases hn : (gn.name == "runtime.NumGoroutine" || !Nat.beq gn.results.size 0) <;> rw [hn] at h <;> simp only [cond_true, cond_false] at h
          · simp only [Bool.or_eq_false_iff, Bool.not_eq_false'] at hn
            have hres : gn.results = #[] := by
              have := beq_nat hn.2
              exact Array.eq_empty_of_size_eq_zero this
            have hmo' : MoR ρ st.ni st.nb m u := by
              cases m with
              | some v => exact hmo
              | none => exact .inl hmo
            have hu : u ≠ .run := by
              cases m with
              | some v => rw [hmo.2.2]; simp
              | none => rw [hmo]; simp
            refine leaves_cons (f := x.1) (args := (SV.dens ρ x.2).toArray) hu ?_ ?_
            · show (callFunc x.1 (da ++ cap)).run C.P w = _
              rw [hargs]
              exact run_callFunc_enter hgn hb hn.1 w
            · refine callsD_of_wpS hgn hb fun c₀ cs hc₀ => ?_
              have hc : c₀ = { c₀ with mode := u } := by subst hc₀; rfl
              rw [hc]
              refine ihs dep x.1 c _ { st with df := [] } m _ ρ w _ _ c₀ cs u G fz0 w0 Q hg (hm.df []) (frame_ok (st := { st with df := [] }) hw hty) trivial (fun fn' hf' => by rw [hgn] at hf'; cases hf'; simp; omega) hmo' h ?_
              intro e ρ' st' w' tm' a' m' u' hle hm' ht' hdf' hsz hok hmo'' hd
              have fin : (match st'.df with
                  | [] => leave C n dep fn tm m' ds st' k kp
                  | _ => .fail 328).wp C.ty F ρ'.is Q → a'.defers = [] ∧ ∃ v, (results gn a'.tmps).run C.P w' = .ok v w' ∧ Leaves C.P fn a.tmps (RetR next nextP) dl (settle u') w' := by
                intro hd
                split at hd
                · rename_i hdfe
                  rw [hdfe] at hdf'
                  refine ⟨by cases hh : a'.defers with
                    | nil => rfl
                    | cons _ _ => rw [hh] at hdf'; exact hdf'.elim, _, (results_ok H.ty hg hm' ht' (fn := gn) (l := []) (by rw [hres]; rfl)).2, ?_⟩
                  refine ihl dep fn tm m' ds st' k kp ρ' w' a dl (settle u') next nextP G fz0 w0 Q hg hm' (hm.tmok hm' hle ht) (hm.dfok hm' hle hds) ?_ hd (fun ρ'' st'' w'' v hl' => hk ρ'' st'' w'' v (Env.le_trans hle hl')) (fun ρ'' st'' w'' v hl' => hkp ρ'' st'' w'' v (Env.le_trans hle hl'))
                  cases m' with
                  | some v => obtain ⟨q1, q2, rfl⟩ := hmo''; exact ⟨q1, q2, rfl⟩
                  | none =>
                    rcases hmo'' with rfl | ⟨x, rfl⟩
                    · rfl
                    · rfl
                · exact hd.elim
              cases e with
              | norm =>
                obtain ⟨q1, v, q2, q3⟩ := fin hd
                exact ⟨q1, u', rfl, v, q2, q3⟩
              | ret =>
                obtain ⟨q1, v, q2, q3⟩ := fin hd
                exact ⟨q1, u', rfl, v, q2, q3⟩
              | exit i => exact hd.elim
              | panic v => exact hd.elim
          · exact h.elim
        · exact h.elim
      · exact h.elim
theorem call_succ (H : Hyp C F) {n : Nat} (ih : SxP F C n) (ihl : LvP F C n) : CoP F C (n + 1) := by
  intro dep G fz0 w0 Q hg f args st k kp ρ w next nextP h hm hw hty hk hkp
  simp only [callOf] at h
  split at h
  · rename_i sig hlit
    exact conCall_ok H.ty hg (H.lit f args st sig hlit) hm hw hty h hk hkp
  split at h
  · rename_i x l hsp
    exact conCallL_ok H.ty hg hm hw hty hk hkp (fun y hy => H.con f y (by rw [hsp]; exact hy)) h
  · split at h
    · rename_i fn hf
      split at h
      · rename_i c hb
        cases hn : (fn.name == "runtime.NumGoroutine") <;> rw [hn] at h <;> simp only [cond_true, cond_false] at h
        · refine .inl ⟨run_callFunc_enter hf hb hn w, calls_of_wp_defers hf hb ?_⟩
          refine (ih dep f c _ { st with df := [] } _ ρ w _ (bodyPostD C.P fn _) G fz0 w0 Q hg (hm.df []) (frame_ok (st := { st with df := [] }) hw hty) trivial (fun fn' hf' => ?_) h fun e ρ' st' w' tm' a' hle hm' ht' hdf' hsz hok hd => ?_).1
          · rw [hf] at hf'; cases hf'
            simp; omega
          · have hk1 : KVn C.ty C.pl F Q G fz0 w0 ρ' next (fun v st' => k v { st' with df := st.df }) := fun ρ'' st'' w'' v hl hm'' hv hd => hk ρ'' _ w'' v (Env.le_trans hle hl) (hm''.df st.df) rfl hv hd
            have hk2 : KPn C.ty C.pl F Q G fz0 w0 ρ' nextP (fun v st' => kp v { st' with df := st.df }) := fun ρ'' st'' w'' v hl hm'' hv hwf hd => hkp ρ'' _ w'' v (Env.le_trans hle hl) (hm''.df st.df) rfl hv hwf hd
            cases e with
            | norm => exact ihl dep fn tm' none st'.df st' _ _ ρ' w' a' a'.defers .returning next nextP G fz0 w0 Q hg hm' ht' hdf' rfl hd hk1 hk2
            | ret => exact ihl dep fn tm' none st'.df st' _ _ ρ' w' a' a'.defers .returning next nextP G fz0 w0 Q hg hm' ht' hdf' rfl hd hk1 hk2
            | exit i => exact hd.elim
            | panic v => exact ihl dep fn tm' (some v) st'.df st' _ _ ρ' w' a' a'.defers _ next nextP G fz0 w0 Q hg hm' ht' hdf' ⟨hok.2, hok.1, rfl⟩ hd hk1 hk2
        · exact h.elim
      · exact h.elim
    · exact h.elim
theorem sx_all (H : Hyp C F) : ∀ n, SxP F C n ∧ CoP F C n ∧ SsP F C n ∧ LvP F C n
  | 0 => by
    refine ⟨?_, ?_, ?_, ?_⟩
    · intro dep f c tm st k ρ w a QE G fz0 w0 Q _ _ _ _ _ h
      simp only [sx] at h; exact h.elim
    · intro dep G fz0 w0 Q hg f args st k kp ρ w next nextP h
      simp only [callOf] at h; exact h.elim
    · intro dep f c tm st m k ρ w a QS c₀ cs u G fz0 w0 Q _ _ _ _ _ _ h
      simp only [sxS] at h; exact h.elim
    · intro dep fn tm m ds st k kp ρ w a dl u next nextP G fz0 w0 Q _ _ _ _ _ h
      simp only [leave] at h; exact h.elim
  | n + 1 => by
    obtain ⟨h1, h2, h3, h4⟩ := sx_all H n
    exact ⟨sx_succ H h1 h2, call_succ H h1 h4, ss_succ H h1 h2 h3, leave_succ H h3 h4⟩
end
end Go.SY
