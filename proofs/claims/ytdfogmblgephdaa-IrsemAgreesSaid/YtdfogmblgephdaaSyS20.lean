/- The symbolic executor SY, its soundness, part 20: equal texts, guards, regions in the order of their text. -/
import Derived.Test.YtdfogmblgephdaaSyS19
import Derived.Test.YtdfogmblgephdaaSyD
set_option linter.unusedVariables false
set_option linter.unusedSimpArgs false
namespace Go.SY
open Go Go.RowKit

variable {F : Nat → List Dt → Post → Prop} {Q : Post}
variable {C : Cfg} {G : Nat → Prop} {fz0 : Fz} {w0 w w' : World} {ρ ρ' ρ1 ρ1' : Env} {st : St} {d : Bd} {tm : Tm} {a : Act} {o : Oper} {k : SV → St → T} {next : Act → World → Prop} {QE : Exit → Act → World → Prop}

theorem fnEq_eq {f g : Fn} (h : fnEq f g = true) : f = g := by
  cases f <;> cases g <;> simp only [fnEq] at h <;> first | (rw [beq_nat h]) | cases h
theorem natsEq_eq : ∀ {a b : List Nat}, natsEq a b = true → a = b
  | [], [], _ => rfl
  | [], _ :: _, h => by cases h
  | _ :: _, [], h => by cases h
  | x :: a, y :: b, h => by
    simp only [natsEq, Bool.and_eq_true] at h
    rw [beq_nat h.1, natsEq_eq h.2]
mutual
theorem SV.beq_eq : ∀ {a b : SV}, a.beq b = true → a = b := by
  intro a b h
  cases a with
  | int k x =>
    cases b <;> simp only [SV.beq, Bool.and_eq_true] at h <;> first | cases h; done | skip
    rw [kindEq_eq h.1, A.beq_eq h.2]
  | bool x =>
    cases b <;> simp only [SV.beq] at h <;> first | cases h; done | skip
    rw [B.beq_eq h]
  | str x =>
    cases b <;> simp only [SV.beq] at h <;> first | cases h; done | skip
    rw [A.beq_eq h]
  | sl x | pt x =>
    cases b <;> simp only [SV.beq] at h <;> first | cases h; done | skip
    rw [beq_nat h]
  | rp b1 s i o p =>
    cases b <;> simp only [SV.beq, Bool.and_eq_true] at h <;> first | cases h; done | skip
    rw [beq_nat h.1.1.1.1, beq_nat h.1.1.1.2, A.beq_eq h.1.1.2, beq_nat h.1.2, natsEq_eq h.2]
  | ptr x y =>
    cases b <;> simp only [SV.beq, Bool.and_eq_true] at h <;> first | cases h; done | skip
    rw [beq_nat h.1, beq_nat h.2]
  | gptr x y =>
    cases b <;> simp only [SV.beq, Bool.and_eq_true] at h <;> first | cases h; done | skip
    rw [beq_nat h.1, beq_nat h.2]
  | slice x y z u =>
    cases b <;> simp only [SV.beq, Bool.and_eq_true] at h <;> first | cases h; done | skip
    rw [beq_nat h.1.1.1, beq_nat h.1.1.2, beq_nat h.1.2, beq_nat h.2]
  | map x =>
    cases b <;> simp only [SV.beq] at h <;> first | cases h; done | skip
    rw [beq_nat h]
  | nilp | nilsl | nilmap | nilfn | niliface => cases b <;> simp only [SV.beq] at h <;> first | rfl | cases h
  | fn f x y =>
    cases b <;> simp only [SV.beq, Bool.and_eq_true] at h <;> first | cases h; done | skip
    rw [fnEq_eq h.1.1, SV.beqs_eq h.1.2, SV.beqs_eq h.2]
  | agg x =>
    cases b <;> simp only [SV.beq] at h <;> first | cases h; done | skip
    rw [SV.beqs_eq h]
  | tup x =>
    cases b <;> simp only [SV.beq] at h <;> first | cases h; done | skip
    rw [SV.beqs_eq h]
  | iface t x =>
    cases b <;> simp only [SV.beq, Bool.and_eq_true] at h <;> first | cases h; done | skip
    rw [beq_nat h.1, SV.beq_eq h.2]
  | gd c w v =>
    cases b <;> simp only [SV.beq, Bool.and_eq_true] at h <;> first | cases h; done | skip
    rw [B.beq_eq h.1.1, SV.beq_eq h.2, show w = _ from by simpa using h.1.2]
  | bot => cases b <;> simp only [SV.beq] at h <;> cases h
theorem SV.beqs_eq : ∀ {a b : List SV}, SV.beqs a b = true → a = b := by
  intro a b h
  cases a with
  | nil => cases b <;> simp only [SV.beqs] at h <;> first | rfl | cases h
  | cons x a =>
    cases b <;> simp only [SV.beqs, Bool.and_eq_true] at h <;> first | cases h; done | skip
    rw [SV.beq_eq h.1, SV.beqs_eq h.2]
end
theorem A.beqs_eq : ∀ {a b : List A}, A.beqs a b = true → a = b
  | [], [], _ => rfl
  | [], _ :: _, h => by cases h
  | _ :: _, [], h => by cases h
  | x :: a, y :: b, h => by
    simp only [A.beqs, Bool.and_eq_true] at h
    rw [A.beq_eq h.1, A.beqs_eq h.2]
theorem E.beq_eq {a b : E} (h : a.beq b = true) : a = b := by
  cases a <;> cases b <;> simp only [E.beq, Bool.and_eq_true] at h <;> first
    | (cases h; done)
    | (rw [kindEq_eq h.1.1, A.beq_eq h.1.2, A.beq_eq h.2])
    | (rw [A.beq_eq h.1, A.beq_eq h.2])
    | (rw [kindEq_eq h.1, A.beq_eq h.2])
    | (rw [B.beq_eq h.1.1, A.beq_eq h.1.2, A.beq_eq h.2])
    | (rw [A.beq_eq h.1.1, A.beq_eq h.1.2, A.beq_eq h.2])
    | (rw [beq_nat h.1.1, A.beq_eq h.1.2, A.beq_eq h.2])
    | (rw [B.beq_eq h])
    | (rw [A.beqs_eq h])
    | (rw [A.beq_eq h])
theorem oEq_eq {a b : Option Nat} (h : oEq a b = true) : a = b := by
  cases a <;> cases b <;> simp only [oEq] at h <;> first | rfl | (rw [beq_nat h]) | cases h
theorem osEq_eq : ∀ {a b : List (Option Nat)}, osEq a b = true → a = b
  | [], [], _ => rfl
  | [], _ :: _, h => by cases h
  | _ :: _, [], h => by cases h
  | x :: a, y :: b, h => by
    simp only [osEq, Bool.and_eq_true] at h
    rw [oEq_eq h.1, osEq_eq h.2]
theorem fsEq_eq : ∀ {a b : List (B × Bool)}, fsEq a b = true → a = b
  | [], [], _ => rfl
  | [], _ :: _, h => by cases h
  | _ :: _, [], h => by cases h
  | x :: a, y :: b, h => by
    simp only [fsEq, Bool.and_eq_true] at h
    obtain ⟨⟨h1, h2⟩, h3⟩ := h
    have h1 := B.beq_eq h1
    have h2 : x.2 = y.2 := by simpa using h2
    rw [fsEq_eq h3, show x = y from Prod.ext h1 h2]
theorem T.beq_eq : ∀ {a b : T}, a.beq b = true → a = b := by
  intro a
  induction a with
  | ret c l =>
    intro b h
    cases b <;> simp only [T.beq, Bool.and_eq_true] at h <;> first | cases h; done | rw [beq_nat h.1, A.beqs_eq h.2]
  | fail n =>
    intro b h
    cases b <;> simp only [T.beq] at h <;> first | cases h; done | rw [beq_nat h]
  | lt o e t ih =>
    intro b h
    cases b <;> simp only [T.beq, Bool.and_eq_true] at h <;> first | cases h; done | rw [oEq_eq h.1.1, E.beq_eq h.1.2, ih h.2]
  | br c t e ih1 ih2 =>
    intro b h
    cases b <;> simp only [T.beq, Bool.and_eq_true] at h <;> first | cases h; done | rw [B.beq_eq h.1.1, ih1 h.1.2, ih2 h.2]
  | call f l n t m p ih1 ih2 =>
    intro b h
    cases b <;> simp only [T.beq, Bool.and_eq_true] at h <;> first | cases h; done | rw [beq_nat h.1.1.1.1.1, A.beqs_eq h.1.1.1.1.2, natsEq_eq h.1.1.1.2, ih1 h.1.1.2, natsEq_eq h.1.2, ih2 h.2]
  | again d l =>
    intro b h
    cases b <;> simp only [T.beq, Bool.and_eq_true] at h <;> first | cases h; done | rw [beq_nat h.1, A.beqs_eq h.2]
  | loop d n fs l t ih =>
    intro b h
    cases b <;> simp only [T.beq, Bool.and_eq_true] at h <;> first | cases h; done | rw [beq_nat h.1.1.1.1, osEq_eq h.1.1.1.2, fsEq_eq h.1.1.2, A.beqs_eq h.1.2, ih h.2]
  | out d t ih =>
    intro b h
    cases b <;> simp only [T.beq, Bool.and_eq_true] at h <;> first | cases h; done | rw [beq_nat h.1, ih h.2]

/-! ### Guards -/
theorem guardB_ok {ops : Array Oper} {dstOf : Nat → Option Tmp} (hd : ∀ j, dstOf j = (ops[j]?).bind (·.dst)) (ht : TmOk ρ st.ni st.nb tm a) {j : Nat} {want : Bool} {c : B} (h : guardB dstOf tm j want = some c) :
    (yielded ops a.tmps j == some want) = c.den ρ.is ∧ c.wf st.ni = true := by
  unfold guardB at h
  split at h
  · cases h
  · rename_i t hdt
    have hy : ∀ x, a.tmps[t]? = some x → yielded ops a.tmps j = (match x with | .bool b => some b | _ => none) := by
      intro x hx
      unfold yielded
      rw [← hd j, hdt]
      simp only [Option.bind_some, hx]
      cases x <;> rfl
    split at h
    · rename_i b hg
      cases h
      obtain ⟨h1, h2⟩ := ht t _ hg
      rcases h2 with h2 | ⟨h2, hty2, h3⟩
      · cases h2
      · have hx : a.tmps[t]? = some (.bool (b.den ρ.is)) := by
          rw [Array.getElem?_eq_getElem h1]
          have : a.tmps.getD t undef = a.tmps[t] := by simp [h1]
          rw [← this, h3]; rfl
        rw [hy _ hx, B.den_mkIs]
        exact ⟨rfl, B.wf_mkIs (by simpa [SV.wf] using h2) want⟩
    · rename_i c' w b hg
      cases h
      obtain ⟨h1, h2⟩ := ht t _ hg
      rcases h2 with h2 | ⟨h2, hty2, h3⟩
      · cases h2
      · have hx : a.tmps[t]? = some ((SV.gd c' w (.bool b)).den ρ) := by
          rw [Array.getElem?_eq_getElem h1]
          have : a.tmps.getD t undef = a.tmps[t] := by simp [h1]
          rw [← this, h3]
        rw [hy _ hx, B.den_mkAnd, B.den_mkIs, B.den_mkIs]
        simp only [SV.wf, Bool.and_eq_true] at h2
        refine ⟨?_, B.wf_mkAnd (B.wf_mkIs h2.1 _) (B.wf_mkIs h2.2 _)⟩
        simp only [SV.den]
        by_cases hcw : c'.den ρ.is = w
        · rw [if_pos hcw, hcw]; simp
        · rw [if_neg hcw]
          have : (c'.den ρ.is == w) = false := by simpa using hcw
          rw [this]; rfl
    · rename_i hg
      cases h
      obtain ⟨h1, h2⟩ := ht t _ hg
      rcases h2 with h2 | ⟨h2, hty2, h3⟩
      · cases h2
      · have hx : a.tmps[t]? = some ((SV.tup []).den ρ) := by
          rw [Array.getElem?_eq_getElem h1]
          have : a.tmps.getD t undef = a.tmps[t] := by simp [h1]
          rw [← this, h3]
        rw [hy _ hx]
        exact ⟨rfl, rfl⟩
    · cases h

/-- What is asked of what comes behind an operation of a region. -/
def HT (ty : Ty) (F : Nat → List Dt → Post → Prop) (Q : Post) (G : Nat → Prop) (fz0 : Fz) (w0 : World) (ρ : Env) (a : Act) (next : Act → World → Prop) (k : Tm → St → T) : Prop :=
  ∀ ρ' st' w' tm' a', ρ.le ρ' → Md ty G fz0 w0 ρ' st' w' → TmOk ρ' st'.ni st'.nb tm' a' → DfOk ρ' st'.ni st'.nb st'.df a'.defers → a'.tmps.size = a.tmps.size → (k tm' st').wp ty F ρ'.is Q → next a' w'
def HTP (ty : Ty) (F : Nat → List Dt → Post → Prop) (Q : Post) (G : Nat → Prop) (fz0 : Fz) (w0 : World) (ρ : Env) (a : Act) (QE : Exit → Act → World → Prop) (kp : SV → Tm → St → T) : Prop :=
  ∀ ρ' st' w' v tm' a', ρ.le ρ' → Md ty G fz0 w0 ρ' st' w' → TmOk ρ' st'.ni st'.nb tm' a' → DfOk ρ' st'.ni st'.nb st'.df a'.defers → a'.tmps.size = a.tmps.size → v.ty ρ' → v.wf st'.ni st'.nb = true → (kp v tm' st').wp ty F ρ'.is Q → QE (.panic [{ v := v.den ρ', recovered := false }]) a' w'
theorem put_size (a : Act) (d : Option Tmp) (v : Value) : (a.put d v).tmps.size = a.tmps.size := by
  cases d <;> simp [Act.put]
theorem put_defers (a : Act) (d : Option Tmp) (v : Value) : (a.put d v).defers = a.defers := by
  cases d <;> simp [Act.put]
theorem HTP.hp {kp : SV → Tm → St → T} (hm : Md C.ty G fz0 w0 ρ st w) (ht : TmOk ρ st.ni st.nb tm a) (hdf : DfOk ρ st.ni st.nb st.df a.defers) (h : HTP C.ty F Q G fz0 w0 ρ a QE kp) : HP C.ty F Q G fz0 w0 ρ st a QE (fun v st => kp v tm st) := fun ρ' st' w' v hl hm' hd hv hw h' =>
  h ρ' st' w' v tm a hl hm' (hm.tmok hm' hl ht) (by rw [hd]; exact hm.dfok hm' hl hdf) rfl hv hw h'
theorem op_put (hty : TyOk C.P C.ty) (hg : GOk C.gl fz0) (hm : Md C.ty G fz0 w0 ρ st w) (ht : TmOk ρ st.ni st.nb tm a) (hdf : DfOk ρ st.ni st.nb st.df a.defers) {callF : CallF} (hcall : CallOk F Q C G fz0 w0 callF) {k : Tm → St → T} {kp : SV → Tm → St → T}
    (h : (sxOp C callF o tm st (fun v st => putT tm o.dst v st k) (fun v st => kp v tm st)).wp C.ty F ρ.is Q) (hk : HT C.ty F Q G fz0 w0 ρ a next k) (hkp : HTP C.ty F Q G fz0 w0 ρ a QE kp) : o.wp C.P a w next QE := by
  refine sxOp_ok hty hg hm ht hdf hcall h (fun ρ' st' w' v ds hle hm' hds hv hd => ?_) (hkp.hp hm ht hdf)
  have ht' : TmOk ρ' st'.ni st'.nb tm { a with defers := ds } := hm.tmok hm' hle ht
  obtain ⟨tm', h1, h2⟩ := putT_ok ht' hd hv rfl
  exact hk _ _ _ _ _ hle hm' h1 (by rw [put_defers]; exact hds) (put_size _ _ _) h2

/-- An operation with its guard. -/
theorem sxG_ok (hty : TyOk C.P C.ty) (hg : GOk C.gl fz0) {ops : Array Oper} {dstOf : Nat → Option Tmp} (hd : ∀ j, dstOf j = (ops[j]?).bind (·.dst)) (hm : Md C.ty G fz0 w0 ρ st w) (ht : TmOk ρ st.ni st.nb tm a) (hdf : DfOk ρ st.ni st.nb st.df a.defers) {callF : CallF} (hcall : CallOk F Q C G fz0 w0 callF)
    {k : Tm → St → T} {kp : SV → Tm → St → T} (h : (sxG C callF dstOf o tm st k kp).wp C.ty F ρ.is Q) (hk : HT C.ty F Q G fz0 w0 ρ a next k) (hkp : HTP C.ty F Q G fz0 w0 ρ a QE kp) :
    if Region.wanted o (yielded ops a.tmps) = true then o.wp C.P a w next QE else next (a.put o.dst undef) w := by
  unfold sxG at h
  split at h
  · rename_i hgd
    rw [if_pos (by simp [Region.wanted, hgd])]
    exact op_put hty hg hm ht hdf hcall h hk hkp
  · rename_i j want hgd
    have hwant : Region.wanted o (yielded ops a.tmps) = (yielded ops a.tmps j == some want) := by simp [Region.wanted, hgd]
    split at h
    · exact h.elim
    · rename_i c hc
      obtain ⟨hy, hcw⟩ := guardB_ok hd ht hc
      rw [hwant, hy]
      have skip : (putT tm o.dst (.tup []) st k).wp C.ty F ρ.is Q → next (a.put o.dst undef) w := by
        intro h
        obtain ⟨tm', h1, h2⟩ := putT_ok ht h (x := undef) trivial rfl
        exact hk _ _ _ _ _ (Env.le_refl ρ) hm h1 (by rw [put_defers]; exact hdf) (put_size _ _ _) h2
      split at h
      · rename_i hkn
        rw [if_pos (B.known_ok hm.hpc hkn)]
        exact op_put hty hg hm ht hdf hcall h hk hkp
      · rename_i hkn
        rw [if_neg (by rw [B.known_ok hm.hpc hkn]; simp)]
        exact skip h
      · have guarded : ∀ {v : SV} {d : Bd} {ρ1 : Env}, Ext C.ty ρ d ρ1 → (bindD st d fun st => putT tm o.dst (.gd c true v) st k).wp C.ty F ρ.is Q → (c.den ρ.is = true → v.ty ρ1 ∧ (execOp a.eval o).run C.P w = .ok (.value (v.den ρ1)) w) →
            if c.den ρ.is = true then o.wp C.P a w next QE else next (a.put o.dst undef) w := by
          intro v d ρ1 he h hv
          obtain ⟨hm', h⟩ := bindD_ok hm he h
          have ht' := hm.tmok hm' he.le ht
          have hcd : c.den ρ1.is = c.den ρ.is := Env.B_app he.le (by rw [hm.hni]; exact hcw)
          have hdf' : DfOk ρ1 (stD st d).ni (stD st d).nb (stD st d).df a.defers := hm.dfok hm' he.le hdf
          cases hcv : c.den ρ.is
          · rw [if_neg (by simp)]
            obtain ⟨tm', h1, h2⟩ := putT_ok ht' h (v := .gd c true v) (fun e => by rw [hcd, hcv] at e; cases e) (x := undef) (by
              simp only [SV.den, hcd, hcv]; rfl)
            exact hk _ _ _ _ _ he.le hm' h1 (by rw [put_defers]; exact hdf') (put_size _ _ _) h2
          · rw [if_pos rfl]
            obtain ⟨hv1, hv2⟩ := hv hcv
            obtain ⟨tm', h1, h2⟩ := putT_ok ht' h (v := .gd c true v) (fun _ => hv1) (x := v.den ρ1) (by
              simp only [SV.den, hcd, hcv]; rfl)
            exact wp_value hv2 (hk _ _ _ _ _ he.le hm' h1 (by rw [put_defers]; exact hdf') (put_size _ _ _) h2)
        dsimp only at h
        split at h
        · rename_i v d hp
          obtain ⟨ρ1, h1, h2⟩ := pureOp_ok hty (hm.pxc ht hcw) hp
          exact guarded h1 h fun hcv => ⟨(h2 hcv).1, (h2 hcv).2 w hm.fzw⟩
        · split at h
          · rename_i v d hv
            split at hv
            · rename_i t x ho
              split at hv
              · rename_i ad hx
                have hpc : c.den ρ.is = true → PcOk ρ.is (c.facts true ++ st.pc) := fun hcv => PcOk.append (B.facts_ok _ _ _ hcv) hm.hpc
                have hx : evO (c.facts true ++ st.pc) tm x = some ad := hx
                obtain ⟨ρ1, h1, h2⟩ := loadV_ok hty hg hm hcw hpc (evO_wf ht hx) hv
                refine guarded h1 h fun hcv => ?_
                obtain ⟨h3, ad, h4, h5⟩ := h2 hcv
                have ev := evO_den ht (hpc hcv) hx
                refine ⟨h3, ?_⟩
                unfold execOp
                simp only [ho, ev, h4, Instr.loadAt, Instr.sureAddr, Sem.run_bind, Sem.run_pure, Result.andThen_ok, h5]
              · cases hv
            · cases hv
          · obtain ⟨b, p, hb, hm', hd'⟩ := condB_ok hm h
            cases b
            · simp only [cond_false] at hd'
              rw [if_neg (by rw [hb]; simp)]
              obtain ⟨tm', h1, h2⟩ := putT_ok (st := { st with pc := p }) ht hd' (x := undef) trivial rfl
              exact hk _ _ _ _ _ (Env.le_refl ρ) hm' h1 (by rw [put_defers]; exact hdf) (put_size _ _ _) h2
            · simp only [cond_true] at hd'
              rw [if_pos hb]
              exact op_put hty hg hm' ht hdf hcall hd' hk hkp

/-- A region in the order of its text. -/
theorem sxL_ok (hty : TyOk C.P C.ty) (hg : GOk C.gl fz0) {ops : Array Oper} {dstOf : Nat → Option Tmp} (hd : ∀ j, dstOf j = (ops[j]?).bind (·.dst)) {callF : CallF} (hcall : CallOk F Q C G fz0 w0 callF) {k : Tm → St → T} {kp : SV → Tm → St → T} : ∀ (l : List Oper) {ρ : Env} {st : St} {w : World} {tm : Tm} {a : Act}, Md C.ty G fz0 w0 ρ st w → TmOk ρ st.ni st.nb tm a → DfOk ρ st.ni st.nb st.df a.defers →
    (sxL C callF dstOf l tm st k kp).wp C.ty F ρ.is Q → HT C.ty F Q G fz0 w0 ρ a (QE .normal) k → HTP C.ty F Q G fz0 w0 ρ a QE kp → wpList C.P ops QE l a w
  | [], ρ, st, w, tm, a, hm, ht, hdf, h, hk, _ => hk _ _ _ _ _ (Env.le_refl ρ) hm ht hdf rfl h
  | o :: l, ρ, st, w, tm, a, hm, ht, hdf, h, hk, hkp => by
    simp only [sxL] at h
    have := sxG_ok (QE := QE) hty hg hd hm ht hdf hcall h (next := wpList C.P ops QE l) (fun ρ' st' w' tm' a' hle hm' ht' hdf' hsz hd' =>
      sxL_ok hty hg hd hcall l hm' ht' hdf' hd' (fun ρ'' st'' w'' tm'' a'' hle' hm'' ht'' hdf'' hsz' hd'' => hk _ _ _ _ _ (Env.le_trans hle hle') hm'' ht'' hdf'' (hsz'.trans hsz) hd'')
        (fun ρ'' st'' w'' v tm'' a'' hle' hm'' ht'' hdf'' hsz' hv hw hd'' => hkp _ _ _ _ _ _ (Env.le_trans hle hle') hm'' ht'' hdf'' (hsz'.trans hsz) hv hw hd'')) hkp
    unfold wpList
    split
    · rename_i hw; rw [if_pos hw] at this; exact .inl this
    · rename_i hw; rw [if_neg hw] at this; exact this

end Go.SY
