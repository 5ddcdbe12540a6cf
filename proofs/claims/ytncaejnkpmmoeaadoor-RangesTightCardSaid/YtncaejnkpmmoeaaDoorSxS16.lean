/- The symbolic executor SX, its soundness, part 16: code, calls, functions. -/
import Derived.Test.YtncaejnkpmmoeaaDoorSxS15
import Derived.LoopN
import Derived.Scope
set_option linter.unusedVariables false
set_option linter.unusedSimpArgs false
namespace Go.SX
open Go Go.RowKit

variable {F : Nat → List Int → Option (List Int)} {K : Nat} {r : Nat × List Int}
variable {C : Cfg} {w0 w w' : World} {ρ ρ' : Env} {st : St} {tm : Tm} {a : Act} {Q : Exit → Act → World → Prop}

/-- The functions that are taken by their contracts keep them. -/
def Con (C : Cfg) (F : Nat → List Int → Option (List Int)) : Prop :=
  ∀ f sig, C.sp f = some sig → ∀ args rs w, F f args = some rs → args.length = Sh.len sig.ins → GOk C w →
    CallSem C.P f (vS sig.ins args).toArray w fun v w' => v = tupW (vS sig.outs rs) ∧ Below w.heap.size w w'
structure Hyp (C : Cfg) (F : Nat → List Int → Option (List Int)) (w0 : World) : Prop where
  ty : TyOk C.P C.ty
  gl : GOk C w0
  mix : C.P.follows .mixedOrders = true
  con : Con C F

def Ex.ex : Ex → Exit
  | .norm => .normal
  | .exit i => .exit i
  | .ret => .ret
/-- What is asked of what comes behind a piece of code. -/
def HE (F : Nat → List Int → Option (List Int)) (K : Nat) (r : Nat × List Int) (C : Cfg) (w0 : World) (ρ : Env) (a : Act) (Q : Exit → Act → World → Prop) (k : Ex → Tm → St → T) : Prop :=
  ∀ e ρ' st' w' tm' a', ρ.le ρ' → Md C w0 ρ' st' w' → TmOk ρ' st'.ni st'.nb tm' a' → ActLike a a' → (k e tm' st').den F K ρ'.is = some r → Q e.ex a' w'
def Room (C : Cfg) (f : Nat) (a : Act) : Prop := ∀ fn, C.P.funcs[f]? = some fn → fn.ntmps ≤ a.tmps.size
theorem Room.like {f : Nat} {a' : Act} (h : Room C f a) (k : ActLike a a') : Room C f a' := fun fn hf => by rw [k.2]; exact h fn hf

def SxP (F : Nat → List Int → Option (List Int)) (K : Nat) (C : Cfg) (w0 : World) (n : Nat) : Prop :=
  ∀ (dep f : Nat) (c : Code) (tm : Tm) (st : St) (k : Ex → Tm → St → T) (ρ : Env) (w : World) (a : Act) (Q : Exit → Act → World → Prop) (r : Nat × List Int), Md C w0 ρ st w → TmOk ρ st.ni st.nb tm a → Room C f a → (∀ c a w, ¬ Q (.panic c) a w) →
    (sx C n dep f c tm st k).den F K ρ.is = some r → HE F K r C w0 ρ a Q k → c.wp C.P Q a w ∧ ∀ b, c = .loop b → C.un f = true → Code.rounds C.P b Q n a w
def CoP (F : Nat → List Int → Option (List Int)) (K : Nat) (C : Cfg) (w0 : World) (n : Nat) : Prop := ∀ dep r, CallOk F K r C w0 (callOf C n dep)

theorem noSel_spec : ∀ {l : List Oper}, noSel l = true → ∀ o ∈ l, ∀ cs b, o.op ≠ .select cs b
  | [], _, o, ho, _, _ => nomatch ho
  | x :: l, h, o, ho, cs, b => by
    simp only [noSel, Bool.and_eq_true] at h
    rcases List.mem_cons.1 ho with rfl | ho
    · intro e; rw [e] at h; cases h.1
    · exact noSel_spec h.2 o ho cs b
theorem dstOfOps_eq (ops : Array Oper) (j : Nat) : dstOfOps ops.toList j = (ops[j]?).bind (·.dst) := by
  unfold dstOfOps
  rw [nth_eq, Array.getElem?_toList]
  cases ops[j]? <;> rfl

theorem iter_step {f : List Int → Option (Nat × List Int)} {d k : Nat} {s : List Int} (h : iter (k + 1) f d s = some r) : ∃ r1, f s = some r1 ∧ (if r1.1 = d then iter k f d r1.2 = some r else r1 = r) := by
  simp only [iter] at h
  split at h
  · cases h
  · rename_i r1 h1
    refine ⟨r1, h1, ?_⟩
    split at h
    · rename_i hd; rw [if_pos hd]; exact h
    · rename_i hd; rw [if_neg hd]; injection h

theorem region_draw_ok (H : Hyp C F w0) {id : Nat} {ops : Array Oper} {callF : Nat → List SV → St → (SV → St → T) → T} (hcall : CallOk F K r C w0 callF) (hQ0 : ∀ c a w, ¬ Q (.panic c) a w) (hsel : noSel ops.toList = true) {k : Tm → St → T} {L : List (Nat × Nat)} {n : Nat}
    (hm : Md C w0 ρ st w) (ht : TmOk ρ st.ni st.nb tm a) (h : (sxAny C callF (dstOfOps ops.toList) (rosOf ops) L st.mem n 0 tm st k).den F K ρ.is = some r) (hk : HT F K r C w0 ρ a (Q .normal) k) : (Code.region id ops true).wp C.P Q a w := by
  refine wp_region_held (S := Sv w0 ρ st.mem L) H.mix ?_
  have hm' : Md C w0 ρ st { w with drawn := w.drawn + 1 } := hm.drew
  refine sxAny_ok H.ty H.gl (dstOfOps_eq ops) (fun j o cs b ho => noSel_spec hsel o (by
    rw [← Array.getElem?_toList] at ho; exact List.mem_of_getElem? ho) cs b) hQ0 hcall hm' n ⟨by simp, fun i => ?_⟩ ?_ (Env.le_refl ρ) hm' ht (Sv.of hm' L) h hk
  · rw [Nat.zero_testBit]
    by_cases hi : i < ops.size
    · simp [hi]
    · simp [hi]
  · rw [Array.toList_replicate, unc_replicate]; exact Nat.le_refl _

/-- A loop, by its rounds. -/
theorem sxLoop_ok {dep N : Nat} {p : Nat → SV → Bool} {Hc : List (Nat × Nat)} {b : Code} {body : Tm → St → (Ex → Tm → St → T) → T} {k : Ex → Tm → St → T} (hm : Md C w0 ρ st w) (ht : TmOk ρ st.ni st.nb tm a) (hN : N ≤ a.tmps.size) (hQ : ∀ c a w, ¬ Q (.panic c) a w)
    (h : (sxLoop dep p Hc N (tmL tm N 0) (memL st.mem st.nb 0) body st k).den F K ρ.is = some r) (hk : HE F K r C w0 ρ a Q k)
    (hbody : ∀ (tm : Tm) (st : St) (k : Ex → Tm → St → T) (ρ : Env) (w : World) (a' : Act) (Q : Exit → Act → World → Prop) (r : Nat × List Int), Md C w0 ρ st w → TmOk ρ st.ni st.nb tm a' → ActLike a a' → (∀ c a w, ¬ Q (.panic c) a w) →
      (body tm st k).den F K ρ.is = some r → HE F K r C w0 ρ a' Q k → b.wp C.P Q a' w) : (Code.loop b).wp C.P Q a w := by
  unfold sxLoop at h
  split at h
  · exact (den_fail h).elim
  · rename_i as d ha
    split at h
    · exact (den_fail h).elim
    · rename_i bs d1 hb
      obtain ⟨h, hdn⟩ := bindEs_ok h
      simp only at h
      have his1 : ρ.le ⟨extE ρ.is d1.es, ρ.bs⟩ := extEnv_le ρ d1.es
      have hlen1 : (extE ρ.is d1.es).length = d1.ni := extE_len d1 (by rw [hdn, hm.hni])
      rw [← hlen1] at h
      generalize htH : (headL p 0 (tmL tm N 0) (extE ρ.is d1.es).length).1 = tH at h
      generalize hn1 : (headL p 0 (tmL tm N 0) (extE ρ.is d1.es).length).2 = n1 at h
      generalize hmH : (headM Hc 0 (memL st.mem st.nb 0) n1).1 = mH at h
      generalize hn2 : (headM Hc 0 (memL st.mem st.nb 0) n1).2 = n2 at h
      cases hc : (Nat.beq n2 ((extE ρ.is d1.es).length + (as ++ bs).length) && SV.wfsB n2 st.nb tH && SO.wfs n2 st.nb mH) <;> rw [hc] at h <;> simp only [cond_true, cond_false] at h
      · exact (den_fail h).elim
      · simp only [Bool.and_eq_true] at hc
        obtain ⟨⟨hc1, hc2⟩, hc3⟩ := hc
        have e2 := beq_nat hc1
        subst e2
        simp only [T.den] at h
        -- a state at a round's end is one of the head
        have head : ∀ {ρ' : Env} {st' : St} {w' : World} {tm' : Tm} {a' : Act} {as' bs' : List A} {d d' : Bd}, ρ.le ρ' → Md C w0 ρ' st' w' → TmOk ρ' st'.ni st'.nb tm' a' → ActLike a a' → againL p 0 (tmL tm N 0) (tmL tm' N 0) ⟨st'.ni, []⟩ = some (as', d) → againM Hc 0 (memL st.mem st.nb 0) (memL st'.mem st.nb 0) d = some (bs', d') →
            Md C w0 ⟨extE ρ.is d1.es ++ (as' ++ bs').map (·.den (extE ρ'.is d'.es)), ρ.bs⟩ { st with mem := Tb.ofL mH 0 .e, ni := (extE ρ.is d1.es).length + (as ++ bs).length } w' ∧
            TmOk ⟨extE ρ.is d1.es ++ (as' ++ bs').map (·.den (extE ρ'.is d'.es)), ρ.bs⟩ ((extE ρ.is d1.es).length + (as ++ bs).length) st.nb (Tb.ofL tH 0 .e) a' := by
          intro ρ' st' w' tm' a' as' bs' d d' hle hm' ht' hlk ha' hb'
          subst hn1; subst htH; subst hmH
          exact head_ok hm ht hle hm' ht' (by rw [hlk.2]; exact hN) his1 ha' hb' rfl hn2 hc2 hc3
        have go : ∀ (K' : Nat) (s : List Int) (a' : Act) (w' : World), Md C w0 ⟨extE ρ.is d1.es ++ s, ρ.bs⟩ { st with mem := Tb.ofL mH 0 .e, ni := (extE ρ.is d1.es).length + (as ++ bs).length } w' →
            TmOk ⟨extE ρ.is d1.es ++ s, ρ.bs⟩ ((extE ρ.is d1.es).length + (as ++ bs).length) st.nb (Tb.ofL tH 0 .e) a' → ActLike a a' →
            iter K' (fun s => T.den F K (body (Tb.ofL tH 0 .e) { st with mem := Tb.ofL mH 0 .e, ni := (extE ρ.is d1.es).length + (as ++ bs).length } (loopK dep p Hc N st.nb (tmL tm N 0) (memL st.mem st.nb 0) k)) (extE ρ.is d1.es ++ s)) (dep + 1) s = some r → Code.rounds C.P b Q K' a' w' := by
          intro K'
          induction K' with
          | zero => intro s a' w' _ _ _ h; cases h
          | succ K' ihK =>
            intro s a' w' hmN htN hlk hit
            obtain ⟨r1, hr1, hrest⟩ := iter_step hit
            rw [rounds_succ]
            refine hbody _ _ _ ⟨extE ρ.is d1.es ++ s, ρ.bs⟩ w' a' (Exit.then (Code.rounds C.P b Q K') Q) r1 hmN htN hlk (fun c a w => hQ c a w) hr1 fun e ρ' st' w' tm' a' hle hm' ht' hlk' hd => ?_
            have hle0 : ρ.le ρ' := Env.le_trans (Env.le_trans his1 ⟨⟨s, rfl⟩, ⟨[], by simp⟩⟩) hle
            have out : ∀ {x : T}, (T.out (dep + 1) x).den F K ρ'.is = some r1 → x.den F K ρ'.is = some r := by
              intro x hx
              simp only [T.den] at hx
              split at hx
              · cases hx
              · rename_i r2 hr2
                split at hx
                · cases hx
                · rename_i hne
                  injection hx with hx
                  subst hx
                  rw [if_neg hne] at hrest
                  rw [← hrest]; exact hr2
            unfold loopK at hd
            cases e with
            | norm =>
              show Code.rounds C.P b Q K' a' w'
              simp only at hd
              split at hd
              · exact (den_fail hd).elim
              · rename_i as' d' ha'
                split at hd
                · exact (den_fail hd).elim
                · rename_i bs' d1' hb'
                  obtain ⟨hd, hdn'⟩ := bindEs_ok hd
                  simp only [T.den] at hd
                  injection hd with hd
                  subst hd
                  rw [if_pos rfl] at hrest
                  obtain ⟨g1, g2⟩ := head hle0 hm' ht' (hlk.trans hlk') ha' hb'
                  exact ihK _ a' w' g1 g2 (hlk.trans hlk') hrest
            | exit i => exact hk (.exit i) _ _ _ _ _ hle0 hm' ht' (hlk.trans hlk') (out hd)
            | ret => exact hk .ret _ _ _ _ _ hle0 hm' ht' (hlk.trans hlk') (out hd)
        obtain ⟨g1, g2⟩ := head (Env.le_refl ρ) hm ht (.refl a) ha hb
        exact wp_loop_rounds K (go K _ a w g1 g2 (.refl a) h)

theorem sx_succ (H : Hyp C F w0) {n : Nat} (ih : SxP F K C w0 n) (ihc : CoP F K C w0 n) : SxP F K C w0 (n + 1) := by
  intro dep f c tm st k ρ w a Q r hm ht hr hQ h hk
  cases c with
  | skip =>
    simp only [sx] at h
    exact ⟨Go.wp_skip (hk .norm _ _ _ _ _ (Env.le_refl ρ) hm ht (.refl a) h), fun b e => by cases e⟩
  | region id ops draw =>
    refine ⟨?_, fun b e => by cases e⟩
    simp only [sx] at h
    have hk' : HT F K r C w0 ρ a (Q .normal) (k .norm) := fun ρ' st' w' tm' a' => hk .norm ρ' st' w' tm' a'
    cases draw
    · simp only [cond_false] at h
      exact wp_region_list (sxL_ok (Q := Q) H.ty H.gl (dstOfOps_eq ops) (ihc dep r) ops.toList hm ht h hk')
    · simp only [cond_true] at h
      cases hs : noSel ops.toList <;> rw [hs] at h <;> simp only [cond_true, cond_false] at h
      · exact (den_fail h).elim
      · exact region_draw_ok H (ihc dep r) hQ hs hm ht h hk'
  | seq x y =>
    refine ⟨?_, fun b e => by cases e⟩
    simp only [sx] at h
    refine wp_seq ((ih dep f x tm st _ ρ w a (Exit.then (y.wp C.P Q) Q) r hm ht hr (fun c a w => hQ c a w) h fun e ρ' st' w' tm' a' hle hm' ht' hlk hd => ?_).1)
    cases e with
    | norm => exact (ih dep f y tm' st' k ρ' w' a' Q r hm' ht' (hr.like hlk) hQ hd fun e ρ'' st'' w'' tm'' a'' hle' hm'' ht'' hlk' => hk e _ _ _ _ _ (Env.le_trans hle hle') hm'' ht'' (hlk.trans hlk')).1
    | exit i => exact hk (.exit i) _ _ _ _ _ hle hm' ht' hlk hd
    | ret => exact hk .ret _ _ _ _ _ hle hm' ht' hlk hd
  | cond x y z =>
    refine ⟨?_, fun b e => by cases e⟩
    simp only [sx] at h
    split at h
    · rename_i c hc
      obtain ⟨ev, _⟩ := (hm.cx ht).ev hc
      obtain ⟨b, p, hb, hm', hd⟩ := condB_ok hm h
      refine wp_cond (t := b) (by rw [ev]; simp only [SV.den, hb]) ?_
      cases b
      · exact (ih dep f z tm _ k ρ w a Q r hm' ht hr hQ hd hk).1
      · exact (ih dep f y tm _ k ρ w a Q r hm' ht hr hQ hd hk).1
    · exact (den_fail h).elim
  | block id b =>
    refine ⟨?_, fun b e => by cases e⟩
    simp only [sx] at h
    refine wp_block ((ih dep f b tm st _ ρ w a (Exit.inBlock id Q) r hm ht hr (fun c a w => hQ c a w) h fun e ρ' st' w' tm' a' hle hm' ht' hlk hd => ?_).1)
    cases e with
    | norm => exact hk .norm _ _ _ _ _ hle hm' ht' hlk hd
    | exit i =>
      show (if i = id then Q .normal a' w' else Q (.exit i) a' w')
      simp only at hd
      cases hi : Nat.beq i id <;> rw [hi] at hd
      · rw [if_neg (fun e => by rw [e, Nat.beq_refl] at hi; cases hi)]
        exact hk (.exit i) _ _ _ _ _ hle hm' ht' hlk hd
      · rw [if_pos (beq_nat hi)]
        exact hk .norm _ _ _ _ _ hle hm' ht' hlk hd
    | ret => exact hk .ret _ _ _ _ _ hle hm' ht' hlk hd
  | exit id =>
    simp only [sx] at h
    exact ⟨wp_exit (hk (.exit id) _ _ _ _ _ (Env.le_refl ρ) hm ht (.refl a) h), fun b e => by cases e⟩
  | ret =>
    simp only [sx] at h
    exact ⟨wp_ret (hk .ret _ _ _ _ _ (Env.le_refl ρ) hm ht (.refl a) h), fun b e => by cases e⟩
  | scope b =>
    refine ⟨?_, fun b e => by cases e⟩
    simp only [sx] at h
    refine wp_scope_straight ((ih dep f b tm st k ρ w a (Exit.noGoto Q) r hm ht hr (fun c a w => hQ c a w) h fun e ρ' st' w' tm' a' hle hm' ht' hlk hd => ?_).1)
    cases e <;> exact hk _ _ _ _ _ _ hle hm' ht' hlk hd
  | label l =>
    simp only [sx] at h
    exact ⟨wp_label (hk .norm _ _ _ _ _ (Env.le_refl ρ) hm ht (.refl a) h), fun b e => by cases e⟩
  | goto l => simp only [sx] at h; exact (den_fail h).elim
  | refuse _ => simp only [sx] at h; exact (den_fail h).elim
  | rangeFunc _ _ _ _ => simp only [sx] at h; exact (den_fail h).elim
  | loop b =>
    simp only [sx] at h
    cases hu : C.un f <;> rw [hu] at h <;> simp only [cond_true, cond_false] at h
    · refine ⟨?_, fun b _ e => by cases e⟩
      refine sxLoop_ok hm ht ?_ hQ h hk fun tm st k ρ w a' Q r hm ht hlk hQ h hk => (ih (dep + 1) f b tm st k ρ w a' Q r hm ht (hr.like hlk) hQ h hk).1
      unfold ntmpsOf
      split
      · rename_i fn hfn; exact hr fn hfn
      · exact Nat.zero_le _
    · have : Code.rounds C.P b Q (n + 1) a w := by
        rw [rounds_succ]
        refine (ih dep f b tm st _ ρ w a (Exit.then (Code.rounds C.P b Q n) Q) r hm ht hr (fun c a w => hQ c a w) h fun e ρ' st' w' tm' a' hle hm' ht' hlk hd => ?_).1
        cases e with
        | norm => exact (ih dep f (.loop b) tm' st' k ρ' w' a' Q r hm' ht' (hr.like hlk) hQ hd fun e ρ'' st'' w'' tm'' a'' hle' hm'' ht'' hlk' => hk e _ _ _ _ _ (Env.le_trans hle hle') hm'' ht'' (hlk.trans hlk')).2 b rfl hu
        | exit i => exact hk (.exit i) _ _ _ _ _ hle hm' ht' hlk hd
        | ret => exact hk .ret _ _ _ _ _ hle hm' ht' hlk hd
      refine ⟨wp_loop_rounds _ this, fun b' e _ => ?_⟩
      cases e
      exact this

end Go.SX
