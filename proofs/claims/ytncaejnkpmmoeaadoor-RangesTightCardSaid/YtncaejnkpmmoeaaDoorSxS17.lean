/- The symbolic executor SX, its soundness, part 17: calls, functions. -/
import Derived.Test.YtncaejnkpmmoeaaDoorSxS16
set_option linter.unusedVariables false
set_option linter.unusedSimpArgs false
namespace Go.SX
open Go Go.RowKit

variable {F : Nat → List Int → Option (List Int)} {K : Nat} {r : Nat × List Int}
variable {C : Cfg} {w0 w w' : World} {ρ ρ' : Env} {st : St} {tm : Tm} {a : Act} {Q : Exit → Act → World → Prop}

theorem frame_ok {args : List SV} {n : Nat} (hw : SV.wfs st.ni st.nb args = true) :
    TmOk ρ st.ni st.nb (frameT args n) { tmps := (SV.dens ρ args).toArray ++ Array.replicate (n - (SV.dens ρ args).toArray.size) undef, defers := [] } := by
  intro i v hi
  have hi' : (args ++ List.replicate (n - args.length) (SV.tup []))[i]? = some v := by
    rcases get_ofL _ _ _ _ _ hi with ⟨_, h⟩ | h
    · simpa using h
    · cases h
  have hden : SV.dens ρ (args ++ List.replicate (n - args.length) (SV.tup [])) = SV.dens ρ args ++ List.replicate (n - args.length) undef := by
    rw [dens_append]
    congr 1
    induction n - args.length with
    | zero => rfl
    | succ m ih => rw [List.replicate_succ, List.replicate_succ]; simp only [SV.dens, ih]; rfl
  have hsz : ((SV.dens ρ args).toArray ++ Array.replicate (n - (SV.dens ρ args).toArray.size) undef) = (SV.dens ρ (args ++ List.replicate (n - args.length) (SV.tup []))).toArray := by
    rw [hden]
    apply Array.ext'
    simp [dens_length]
  have hget : (SV.dens ρ (args ++ List.replicate (n - args.length) (SV.tup [])))[i]? = some (v.den ρ) := by rw [dens_getElem?, hi']; rfl
  simp only [hsz]
  refine ⟨by simpa using (List.getElem?_eq_some_iff.1 hget).1, .inr ⟨?_, ?_⟩⟩
  · have := List.mem_of_getElem? hi'
    rcases List.mem_append.1 this with h | h
    · exact wfs_mem hw v h
    · rw [(List.mem_replicate.1 h).2]; rfl
  · simp [Array.getD_eq_getD_getElem?, hget]

theorem run_callFunc_enter {P : Program} {f : Nat} {fn : Func} {c : Code} {args : Array Value} (hf : P.funcs[f]? = some fn) (hb : fn.body = some c) (hn : (fn.name == "runtime.NumGoroutine") = false) (w : World) :
    (callFunc f args).run P w = .ok (.enter f args) w := by
  unfold callFunc
  simp only [Sem.run_bind, run_program, Result.andThen_ok, hf, hn, hb, Option.isNone_some, Bool.false_eq_true, if_false, Sem.run_pure]

/-- A call whose body is walked. -/
theorem body_ok (H : Hyp C F w0) {n dep f : Nat} (ih : SxP F K C w0 n) {args : List SV} {k : List SV → St → T} {next : Value → World → Prop} (hm : Md C w0 ρ st w) (hw : SV.wfs st.ni st.nb args = true) (h : (sxBody C n dep f args st k).den F K ρ.is = some r)
    (hk : ∀ ρ' st' w' l, ρ.le ρ' → Md C w0 ρ' st' w' → (k l st').den F K ρ'.is = some r → next (tupW (SV.dens ρ' l)) w') : CallSem C.P f (SV.dens ρ args).toArray w next := by
  unfold sxBody at h
  split at h
  · rename_i fn hf
    split at h
    · rename_i c hb
      cases hn : (fn.name == "runtime.NumGoroutine") <;> rw [hn] at h <;> simp only [cond_true, cond_false] at h
      · refine .inl ⟨run_callFunc_enter hf hb hn w, calls_of_wp hf hb ?_⟩
        refine (ih dep f c _ st _ ρ w _ (bodyPost C.P fn _) r hm (frame_ok hw) (fun fn' hf' => ?_) (fun _ _ _ h => h.2) h fun e ρ' st' w' tm' a' hle hm' ht' hlk hd => ?_).1
        · rw [hf] at hf'; cases hf'
          simp; omega
        · have fin : (match evRes C tm' st'.mem fn.results.toList with
              | some l => k l st'
              | none => (.fail 321)).den F K ρ'.is = some r → a'.defers = [] ∧ ∃ v, (results fn a'.tmps).run C.P w' = .ok v w' ∧ next v w' := by
            intro hd
            split at hd
            · rename_i l hl
              exact ⟨hlk.1, _, results_ok H.ty H.gl hm' ht' hl, by rw [tupV_den]; exact hk ρ' st' w' l hle hm' hd⟩
            · exact (den_fail hd).elim
          cases e with
          | norm => exact fin hd
          | ret => exact fin hd
          | exit i => exact (den_fail hd).elim
      · exact (den_fail h).elim
    · exact (den_fail h).elim
  · exact (den_fail h).elim

theorem call_succ (H : Hyp C F w0) {n : Nat} (ih : SxP F K C w0 n) : CoP F K C w0 (n + 1) := by
  intro dep r f args st k ρ w next h hm hw hnext
  simp only [callOf] at h
  split at h
  · rename_i sig hsp
    split at h
    · rename_i l d hfl
      obtain ⟨h, hdn⟩ := bindEs_ok h
      have hm1 : Md C w0 ⟨extE ρ.is d.es, ρ.bs⟩ { st with ni := d.ni } w := extE_nums hm (by rw [hm.hni]; exact hdn)
      obtain ⟨_, _, q3, q4⟩ := flatS_ok (ρ := ρ) (by simp [hm.hni]) (by rw [hm.hni, hm.hnb]; exact hw) hfl
      simp only [T.den] at h
      split at h
      · cases h
      · rename_i rs hrs
        split at h
        · rename_i hlen
          have hcall := H.con f sig hsp _ rs w hrs (by rw [List.length_map, q3]) (H.gl.below hm.below)
          rw [q4]
          have hx : ∀ v w', v = tupW (vS sig.outs rs) ∧ Below w.heap.size w w' → next v w' := by
            rintro v w' ⟨rfl, hb⟩
            have hm2 := (hm1.later hb).nums (x := rs) (n := d.ni + Sh.len sig.outs) (by simp only [hlen])
            have := hnext _ _ w' (tupV (mkS d.ni sig.outs)) (Env.le_trans (extEnv_le ρ d.es) ⟨⟨rs, rfl⟩, ⟨[], by simp⟩⟩) hm2 h
            rw [tupV_den, mkS_den] at this
            have hl1 : (extE ρ.is d.es).length = d.ni := extE_len d (by rw [hdn, hm.hni])
            rw [show (⟨extE ρ.is d.es ++ rs, ρ.bs⟩ : Env).is.drop d.ni = rs from by
              show List.drop d.ni (extE ρ.is d.es ++ rs) = rs
              rw [← hl1, List.drop_append_of_le_length (Nat.le_refl _), List.drop_of_length_le (Nat.le_refl _), List.nil_append]] at this
            exact this
          rcases hcall with ⟨h1, h2⟩ | ⟨v, h1, h2⟩
          · refine .inl ⟨h1, Calls.mono h2 fun e w' he => ?_⟩
            cases e with
            | returned v => exact hx v w' he
            | panicked _ => exact he
            | outgrown => exact he
          · exact .inr ⟨v, h1, hx v w h2⟩
        · cases h
    · exact (den_fail h).elim
  · rename_i hsp
    refine body_ok H (dep := dep) (k := fun l st => k (tupV l) st) ih hm hw h fun ρ' st' w' l hle hm' hd => ?_
    rw [← tupV_den]
    exact hnext ρ' st' w' (tupV l) hle hm' hd

theorem sx_all (H : Hyp C F w0) : ∀ n, SxP F K C w0 n ∧ CoP F K C w0 n
  | 0 => ⟨fun dep f c tm st k ρ w a Q r _ _ _ _ h _ => by simp only [sx] at h; exact (den_fail h).elim, fun dep r f args st k ρ w next h _ _ _ => by simp only [callOf] at h; exact (den_fail h).elim⟩
  | n + 1 => ⟨sx_succ H (sx_all H n).1 (sx_all H n).2, call_succ H (sx_all H n).1⟩

theorem Md.start {is : List Int} {pc : List (B × Bool)} {n : Nat} (hn : is.length = n) (hpc : PcOk is pc) (hpw : ∀ p ∈ pc, p.1.wf n = true) : Md C w ⟨is, []⟩ ⟨.e, 0, n, pc⟩ w :=
  ⟨.refl _ _, hn, rfl, hpc, hpw, fun i o h => by simp [Tb.get] at h, fun i j oi oj h => by simp [Tb.get] at h⟩

/-- **What a function answers**: by its tree. -/
theorem run_ok (hty : TyOk C.P C.ty) (hmix : C.P.follows .mixedOrders = true) (hcon : Con C F) (hg : GOk C w) {fuel f : Nat} {sig : Sig} {args : List SV} {pc : List (B × Bool)} {is rs : List Int}
    (hl : is.length = Sh.len sig.ins) (hargs : SV.dens ⟨is, []⟩ args = vS sig.ins is) (hw : SV.wfs (Sh.len sig.ins) 0 args = true) (hpc : PcOk is pc) (hpw : ∀ p ∈ pc, p.1.wf (Sh.len sig.ins) = true)
    (h : (sxRun C fuel f sig args pc).den F K is = some (0, rs)) : CallSem C.P f (vS sig.ins is).toArray w fun v w' => v = tupW (vS sig.outs rs) ∧ Below w.heap.size w w' := by
  have H : Hyp C F w := ⟨hty, hg, hmix, hcon⟩
  rw [← hargs]
  refine body_ok (st := ⟨.e, 0, Sh.len sig.ins, pc⟩) H (sx_all H fuel).1 (Md.start hl hpc hpw) hw h fun ρ' st' w' l hle hm' hd => ?_
  unfold retK at hd
  split at hd
  · rename_i as d hfl
    cases hwl : SV.wfs st'.ni st'.nb l <;> rw [hwl] at hd <;> simp only [cond_true, cond_false] at hd
    · exact (den_fail hd).elim
    · obtain ⟨hd, _⟩ := bindEs_ok hd
      simp only [T.den] at hd
      injection hd with hd
      injection hd with _ hd
      obtain ⟨_, _, _, q4⟩ := flatS_ok (ρ := ρ') (by simp [hm'.hni]) (by rw [hm'.hni, hm'.hnb]; exact hwl) hfl
      rw [q4, hd]
      exact ⟨rfl, hm'.below⟩
  · exact (den_fail hd).elim

theorem mkS_wfs : ∀ (n : Nat) (l : List Sh) (m : Nat), n + Sh.len l ≤ m → SV.wfs m 0 (mkS n l) = true
  | n, [], m, _ => rfl
  | n, s :: ss, m, h => by
    simp only [Sh.len] at h
    simp only [mkS, SV.wfs, Bool.and_eq_true]
    refine ⟨?_, mkS_wfs (n + s.size) ss m (by omega)⟩
    have one : ∀ n s, n < m → (mk1 n s).wf m 0 = true ∧ (mk1 n s).cell = true := by
      intro n s h
      cases s
      · exact ⟨Nat.ble_eq.mpr (by omega : n + 1 ≤ m), rfl⟩
      · refine ⟨?_, rfl⟩
        simp only [mk1, SV.wf, B.wf, A.wf, Bool.and_true]
        exact Nat.ble_eq.mpr (by omega : n + 1 ≤ m)
    have many : ∀ l n, n + l.length ≤ m → SV.wfs m 0 (mkL n l) = true ∧ allCell (mkL n l) = true := by
      intro l
      induction l with
      | nil => intro n _; exact ⟨rfl, rfl⟩
      | cons s l ih =>
        intro n h
        simp only [List.length_cons] at h
        obtain ⟨h1, h2⟩ := ih (n + 1) (by omega)
        obtain ⟨g1, g2⟩ := one n s (by omega)
        simp only [mkL, SV.wfs, allCell, h1, h2, g1, g2, Bool.and_self, and_self]
    cases s with
    | one s => exact (one n s (by simp only [Sh.size] at h; omega)).1
    | agg l =>
      obtain ⟨h1, h2⟩ := many l n (by simp only [Sh.size] at h; omega)
      simp only [mkSh, SV.wf, h1, h2, Bool.and_self]
theorem func_ok (hty : TyOk C.P C.ty) (hmix : C.P.follows .mixedOrders = true) (hcon : Con C F) (hg : GOk C w) {fuel f : Nat} {sig : Sig} {is rs : List Int}
    (hl : is.length = Sh.len sig.ins) (h : (sxFunc C fuel f sig).den F K is = some (0, rs)) : CallSem C.P f (vS sig.ins is).toArray w fun v w' => v = tupW (vS sig.outs rs) ∧ Below w.heap.size w w' :=
  run_ok hty hmix hcon hg hl (by rw [mkS_den]; rfl) (mkS_wfs 0 _ _ (by omega)) (fun p hp => absurd hp List.not_mem_nil) (fun p hp => absurd hp List.not_mem_nil) h

end Go.SX
