/- The symbolic executor SX, its soundness, part 12: equal texts; guards; regions in the order of the text. -/
import Derived.Test.YtncaejnkpmmoeaaDoorSxS11
set_option linter.unusedVariables false
set_option linter.unusedSimpArgs false
namespace Go.SX
open Go Go.RowKit

variable {F : Nat → List Int → Option (List Int)} {K : Nat} {r : Nat × List Int}
variable {C : Cfg} {w0 w w' : World} {ρ ρ' : Env} {st : St} {tm : Tm} {a : Act} {o : Oper} {next : Act → World → Prop} {Q : Exit → Act → World → Prop}

/-! ### Equal texts -/
theorem strEq_eq : ∀ {a b : List UInt8}, strEq a b = true → a = b := by
  intro a b h; rw [strEq_spec] at h; simpa using h
theorem fnEq_eq {f g : Fn} (h : fnEq f g = true) : f = g := by
  cases f <;> cases g <;> simp only [fnEq] at h <;> first | (rw [beq_nat h]) | cases h
mutual
theorem SV.beq_eq : ∀ {a b : SV}, a.beq b = true → a = b := by
  intro a b h
  cases a with
  | int k x =>
    cases b <;> simp only [SV.beq, Bool.and_eq_true] at h <;> first | cases h; done | skip
    rw [kindEq_eq h.1, A.beq_eq h.2]
  | bool x =>
    cases b <;> simp only [SV.beq] at h <;> first | cases h; done | skip
    rw [B.beq_eq h]
  | str x =>
    cases b <;> simp only [SV.beq] at h <;> first | cases h; done | skip
    rw [strEq_eq h]
  | ptr x y =>
    cases b <;> simp only [SV.beq, Bool.and_eq_true] at h <;> first | cases h; done | skip
    rw [beq_nat h.1, beq_nat h.2]
  | gptr x y =>
    cases b <;> simp only [SV.beq, Bool.and_eq_true] at h <;> first | cases h; done | skip
    rw [beq_nat h.1, beq_nat h.2]
  | own x y =>
    cases b <;> simp only [SV.beq, Bool.and_eq_true] at h <;> first | cases h; done | skip
    rw [beq_nat h.1, beq_nat h.2]
  | slice x y z u =>
    cases b <;> simp only [SV.beq, Bool.and_eq_true] at h <;> first | cases h; done | skip
    rw [beq_nat h.1.1.1, beq_nat h.1.1.2, beq_nat h.1.2, beq_nat h.2]
  | map x =>
    cases b <;> simp only [SV.beq] at h <;> first | cases h; done | skip
    rw [beq_nat h]
  | nilp | nilsl | nilmap | nilfn | niliface => cases b <;> simp only [SV.beq] at h <;> first | rfl | cases h
  | fn f x y =>
    cases b <;> simp only [SV.beq, Bool.and_eq_true] at h <;> first | cases h; done | skip
    rw [fnEq_eq h.1.1, SV.beqs_eq h.1.2, SV.beqs_eq h.2]
  | agg x =>
    cases b <;> simp only [SV.beq] at h <;> first | cases h; done | skip
    rw [SV.beqs_eq h]
  | tup x =>
    cases b <;> simp only [SV.beq] at h <;> first | cases h; done | skip
    rw [SV.beqs_eq h]
  | iface t x =>
    cases b <;> simp only [SV.beq, Bool.and_eq_true] at h <;> first | cases h; done | skip
    rw [beq_nat h.1, SV.beq_eq h.2]
  | gd c w v =>
    cases b <;> simp only [SV.beq, Bool.and_eq_true] at h <;> first | cases h; done | skip
    rw [B.beq_eq h.1.1, SV.beq_eq h.2, show w = _ from by simpa using h.1.2]
  | bot => cases b <;> simp only [SV.beq] at h <;> cases h
theorem SV.beqs_eq : ∀ {a b : List SV}, SV.beqs a b = true → a = b := by
  intro a b h
  cases a with
  | nil => cases b <;> simp only [SV.beqs] at h <;> first | rfl | cases h
  | cons x a =>
    cases b <;> simp only [SV.beqs, Bool.and_eq_true] at h <;> first | cases h; done | skip
    rw [SV.beq_eq h.1, SV.beqs_eq h.2]
end
theorem A.beqs_eq : ∀ {a b : List A}, A.beqs a b = true → a = b
  | [], [], _ => rfl
  | [], _ :: _, h => by cases h
  | _ :: _, [], h => by cases h
  | x :: a, y :: b, h => by
    simp only [A.beqs, Bool.and_eq_true] at h
    rw [A.beq_eq h.1, A.beqs_eq h.2]
theorem E.beq_eq {a b : E} (h : a.beq b = true) : a = b := by
  cases a <;> cases b <;> simp only [E.beq, Bool.and_eq_true] at h <;> first
    | (cases h; done)
    | (rw [kindEq_eq h.1.1, A.beq_eq h.1.2, A.beq_eq h.2])
    | (rw [A.beq_eq h.1, A.beq_eq h.2])
    | (rw [kindEq_eq h.1, A.beq_eq h.2])
    | (rw [B.beq_eq h.1.1, A.beq_eq h.1.2, A.beq_eq h.2])
    | (rw [strEq_eq h.1, A.beq_eq h.2])
theorem T.beq_eq : ∀ {a b : T}, a.beq b = true → a = b := by
  intro a
  induction a with
  | ret l =>
    intro b h
    cases b <;> simp only [T.beq] at h <;> first | cases h; done | rw [A.beqs_eq h]
  | fail n =>
    intro b h
    cases b <;> simp only [T.beq] at h <;> first | cases h; done | rw [beq_nat h]
  | lt e t ih =>
    intro b h
    cases b <;> simp only [T.beq, Bool.and_eq_true] at h <;> first | cases h; done | rw [E.beq_eq h.1, ih h.2]
  | br c t e ih1 ih2 =>
    intro b h
    cases b <;> simp only [T.beq, Bool.and_eq_true] at h <;> first | cases h; done | rw [B.beq_eq h.1.1, ih1 h.1.2, ih2 h.2]
  | call f l n t ih =>
    intro b h
    cases b <;> simp only [T.beq, Bool.and_eq_true] at h <;> first | cases h; done | rw [beq_nat h.1.1.1, A.beqs_eq h.1.1.2, beq_nat h.1.2, ih h.2]
  | again d l =>
    intro b h
    cases b <;> simp only [T.beq, Bool.and_eq_true] at h <;> first | cases h; done | rw [beq_nat h.1, A.beqs_eq h.2]
  | loop d l t ih =>
    intro b h
    cases b <;> simp only [T.beq, Bool.and_eq_true] at h <;> first | cases h; done | rw [beq_nat h.1.1, A.beqs_eq h.1.2, ih h.2]
  | out d t ih =>
    intro b h
    cases b <;> simp only [T.beq, Bool.and_eq_true] at h <;> first | cases h; done | rw [beq_nat h.1, ih h.2]

/-! ### Guards -/
theorem B.wf_mkNot {n : Nat} {p : B} (hp : p.wf n = true) : p.mkNot.wf n = true := by cases p <;> simp_all [B.mkNot, B.wf]
theorem B.wf_mkAnd {n : Nat} {p q : B} (hp : p.wf n = true) (hq : q.wf n = true) : (p.mkAnd q).wf n = true := by
  unfold B.mkAnd
  split <;> (try simp_all [B.wf])
  cases p.lit <;> simp_all [B.wf]
theorem B.wf_mkIs {n : Nat} {p : B} (hp : p.wf n = true) (b : Bool) : (p.mkIs b).wf n = true := by
  unfold B.mkIs; cases b
  · exact B.wf_mkNot hp
  · exact hp

theorem guardB_ok {ops : Array Oper} {dstOf : Nat → Option Tmp} (hd : ∀ j, dstOf j = (ops[j]?).bind (·.dst)) (ht : TmOk ρ st.ni st.nb tm a) {j : Nat} {want : Bool} {c : B} (h : guardB dstOf tm j want = some c) :
    (yielded ops a.tmps j == some want) = c.den ρ.is ∧ c.wf st.ni = true := by
  unfold guardB at h
  split at h
  · cases h
  · rename_i t hdt
    have hy : ∀ x, a.tmps[t]? = some x → yielded ops a.tmps j = (match x with | .bool b => some b | _ => none) := by
      intro x hx
      unfold yielded
      rw [← hd j, hdt]
      simp only [Option.bind_some, hx]
      cases x <;> rfl
    split at h
    · rename_i b hg
      cases h
      obtain ⟨h1, h2⟩ := ht t _ hg
      rcases h2 with h2 | ⟨h2, h3⟩
      · cases h2
      · have hx : a.tmps[t]? = some (.bool (b.den ρ.is)) := by
          rw [Array.getElem?_eq_getElem h1]
          have : a.tmps.getD t undef = a.tmps[t] := by simp [h1]
          rw [← this, h3]; rfl
        rw [hy _ hx, B.den_mkIs]
        exact ⟨rfl, B.wf_mkIs (by simpa [SV.wf] using h2) want⟩
    · rename_i c' w b hg
      cases h
      obtain ⟨h1, h2⟩ := ht t _ hg
      rcases h2 with h2 | ⟨h2, h3⟩
      · cases h2
      · have hx : a.tmps[t]? = some ((SV.gd c' w (.bool b)).den ρ) := by
          rw [Array.getElem?_eq_getElem h1]
          have : a.tmps.getD t undef = a.tmps[t] := by simp [h1]
          rw [← this, h3]
        rw [hy _ hx, B.den_mkAnd, B.den_mkIs, B.den_mkIs]
        simp only [SV.wf, Bool.and_eq_true] at h2
        refine ⟨?_, B.wf_mkAnd (B.wf_mkIs h2.1 _) (B.wf_mkIs h2.2 _)⟩
        simp only [SV.den]
        by_cases hcw : c'.den ρ.is = w
        · rw [if_pos hcw, hcw]; simp
        · rw [if_neg hcw]
          have : (c'.den ρ.is == w) = false := by simpa using hcw
          rw [this]; rfl
    · rename_i hg
      cases h
      obtain ⟨h1, h2⟩ := ht t _ hg
      rcases h2 with h2 | ⟨h2, h3⟩
      · cases h2
      · have hx : a.tmps[t]? = some ((SV.tup []).den ρ) := by
          rw [Array.getElem?_eq_getElem h1]
          have : a.tmps.getD t undef = a.tmps[t] := by simp [h1]
          rw [← this, h3]
        rw [hy _ hx]
        exact ⟨rfl, rfl⟩
    · cases h

/-- A frame of the same size, and with the same deferred calls. -/
def ActLike (a a' : Act) : Prop := a'.defers = a.defers ∧ a'.tmps.size = a.tmps.size
theorem ActLike.refl (a : Act) : ActLike a a := ⟨rfl, rfl⟩
theorem ActLike.put (a : Act) (d : Option Tmp) (v : Value) : ActLike a (a.put d v) := by
  cases d
  · exact .refl a
  · exact ⟨rfl, by simp [Act.put]⟩
theorem ActLike.trans {a b c : Act} (h : ActLike a b) (k : ActLike b c) : ActLike a c := ⟨k.1.trans h.1, k.2.trans h.2⟩
/-- What is asked of what comes behind an operation of a region. -/
def HT (F : Nat → List Int → Option (List Int)) (K : Nat) (r : Nat × List Int) (C : Cfg) (w0 : World) (ρ : Env) (a : Act) (next : Act → World → Prop) (k : Tm → St → T) : Prop :=
  ∀ ρ' st' w' tm' a', ρ.le ρ' → Md C w0 ρ' st' w' → TmOk ρ' st'.ni st'.nb tm' a' → ActLike a a' → (k tm' st').den F K ρ'.is = some r → next a' w'

theorem op_put (hty : TyOk C.P C.ty) (hg : GOk C w0) (hm : Md C w0 ρ st w) (ht : TmOk ρ st.ni st.nb tm a) {callF : Nat → List SV → St → (SV → St → T) → T} (hcall : CallOk F K r C w0 callF) {k : Tm → St → T} (h : (sxOp C callF o tm st fun v st => putT tm o.dst v st k).den F K ρ.is = some r) (hk : HT F K r C w0 ρ a next k) : o.wp C.P a w next Q := by
  refine sxOp_ok hty hg hm ht hcall h fun ρ' st' w' v hle hm' hd => ?_
  obtain ⟨tm', h1, h2⟩ := putT_ok (hm.tmok hm' hle ht) hd rfl
  exact hk _ _ _ _ _ hle hm' h1 (.put _ _ _) h2

/-- An operation with its guard. -/
theorem sxG_ok (hty : TyOk C.P C.ty) (hg : GOk C w0) {ops : Array Oper} {dstOf : Nat → Option Tmp} (hd : ∀ j, dstOf j = (ops[j]?).bind (·.dst)) (hm : Md C w0 ρ st w) (ht : TmOk ρ st.ni st.nb tm a) {callF : Nat → List SV → St → (SV → St → T) → T} (hcall : CallOk F K r C w0 callF)
    {k : Tm → St → T} (h : (sxG C callF dstOf o tm st k).den F K ρ.is = some r) (hk : HT F K r C w0 ρ a next k) :
    if Region.wanted o (yielded ops a.tmps) = true then o.wp C.P a w next Q else next (a.put o.dst undef) w := by
  unfold sxG at h
  split at h
  · rename_i hgd
    rw [if_pos (by simp [Region.wanted, hgd])]
    exact op_put hty hg hm ht hcall h hk
  · rename_i j want hgd
    have hwant : Region.wanted o (yielded ops a.tmps) = (yielded ops a.tmps j == some want) := by simp [Region.wanted, hgd]
    split at h
    · exact (den_fail h).elim
    · rename_i c hc
      obtain ⟨hy, hcw⟩ := guardB_ok hd ht hc
      rw [hwant, hy]
      have skip : (putT tm o.dst (.tup []) st k).den F K ρ.is = some r → next (a.put o.dst undef) w := by
        intro h
        obtain ⟨tm', h1, h2⟩ := putT_ok ht h (x := undef) rfl
        exact hk _ _ _ _ _ (Env.le_refl ρ) hm h1 (.put _ _ _) h2
      split at h
      · rename_i hkn
        rw [if_pos (B.known_ok hm.hpc hkn)]
        exact op_put hty hg hm ht hcall h hk
      · rename_i hkn
        rw [if_neg (by rw [B.known_ok hm.hpc hkn]; simp)]
        exact skip h
      · split at h
        · rename_i v d hp
          obtain ⟨hd1, hd2⟩ := bindEs_ok h
          have hm' : Md C w0 ⟨extE ρ.is d.es, ρ.bs⟩ { st with ni := d.ni } w := extE_nums hm (by rw [hm.hni]; exact hd2)
          have ht' := hm.tmok hm' (extEnv_le ρ d.es) ht
          have hcd : c.den (extE ρ.is d.es) = c.den ρ.is := Env.B_app (extEnv_le ρ d.es) (by rw [hm.hni]; exact hcw)
          cases hcv : c.den ρ.is
          · rw [if_neg (by simp)]
            obtain ⟨tm', h1, h2⟩ := putT_ok (ρ := ⟨extE ρ.is d.es, ρ.bs⟩) ht' hd1 (x := undef) (by
              simp only [SV.den, hcd, hcv]; rfl)
            exact hk _ _ _ _ _ (extEnv_le ρ d.es) hm' h1 (.put _ _ _) h2
          · rw [if_pos rfl]
            have hcx : Cx ρ st.ni st.nb (c.facts true ++ st.pc) tm a := ⟨hm.hni, hm.hnb, PcOk.append (B.facts_ok _ _ _ hcv) hm.hpc, ht⟩
            obtain ⟨_, p2⟩ := pureOp_ok hty hcx hp
            obtain ⟨tm', h1, h2⟩ := putT_ok (ρ := ⟨extE ρ.is d.es, ρ.bs⟩) ht' hd1 (x := v.den ⟨extE ρ.is d.es, ρ.bs⟩) (by
              simp only [SV.den, hcd, hcv]; rfl)
            exact wp_value (p2 w) (hk _ _ _ _ _ (extEnv_le ρ d.es) hm' h1 (.put _ _ _) h2)
        · split at h
          · rename_i v hv
            cases hcv : c.den ρ.is
            · rw [if_neg (by simp)]
              obtain ⟨tm', h1, h2⟩ := putT_ok ht h (x := undef) (by simp only [SV.den, hcv]; rfl)
              exact hk _ _ _ _ _ (Env.le_refl ρ) hm h1 (.put _ _ _) h2
            · rw [if_pos rfl]
              split at hv
              · rename_i t x ho
                split at hv
                · rename_i ad hx
                  have hcx : Cx ρ st.ni st.nb (c.facts true ++ st.pc) tm a := ⟨hm.hni, hm.hnb, PcOk.append (B.facts_ok _ _ _ hcv) hm.hpc, ht⟩
                  obtain ⟨ev, _⟩ := hcx.ev hx
                  obtain ⟨addr, q1, q2⟩ := loadV_ok hty hg hm hv
                  obtain ⟨tm', h1, h2⟩ := putT_ok ht h (x := v.den ρ) (by simp only [SV.den, hcv]; rfl)
                  refine wp_value (x := v.den ρ) (w' := w) ?_ (hk _ _ _ _ _ (Env.le_refl ρ) hm h1 (.put _ _ _) h2)
                  unfold execOp
                  simp only [ho, ev, q1, Instr.loadAt, Instr.sureAddr, Sem.run_bind, Sem.run_pure, Result.andThen_ok, q2]
                · cases hv
              · cases hv
          · obtain ⟨b, p, hb, hm', hd'⟩ := condB_ok hm h
            cases b
            · simp only [cond_false] at hd'
              rw [if_neg (by rw [hb]; simp)]
              obtain ⟨tm', h1, h2⟩ := putT_ok (st := { st with pc := p }) ht hd' (x := undef) rfl
              exact hk _ _ _ _ _ (Env.le_refl ρ) hm' h1 (.put _ _ _) h2
            · simp only [cond_true] at hd'
              rw [if_pos hb]
              exact op_put hty hg hm' ht hcall hd' hk

/-- A region in the order of its text. -/
theorem sxL_ok (hty : TyOk C.P C.ty) (hg : GOk C w0) {ops : Array Oper} {dstOf : Nat → Option Tmp} (hd : ∀ j, dstOf j = (ops[j]?).bind (·.dst)) {callF : Nat → List SV → St → (SV → St → T) → T} (hcall : CallOk F K r C w0 callF) {k : Tm → St → T} : ∀ (l : List Oper) {ρ : Env} {st : St} {w : World} {tm : Tm} {a : Act}, Md C w0 ρ st w → TmOk ρ st.ni st.nb tm a →
    (sxL C callF dstOf l tm st k).den F K ρ.is = some r → HT F K r C w0 ρ a (Q .normal) k → wpList C.P ops Q l a w
  | [], ρ, st, w, tm, a, hm, ht, h, hk => hk _ _ _ _ _ (Env.le_refl ρ) hm ht (.refl a) h
  | o :: l, ρ, st, w, tm, a, hm, ht, h, hk => by
    simp only [sxL] at h
    have := sxG_ok (Q := Q) hty hg hd hm ht hcall h (next := wpList C.P ops Q l) fun ρ' st' w' tm' a' hle hm' ht' hlk hd' =>
      sxL_ok hty hg hd hcall l hm' ht' hd' fun ρ'' st'' w'' tm'' a'' hle' hm'' ht'' hlk' hd'' => hk _ _ _ _ _ (Env.le_trans hle hle') hm'' ht'' (hlk.trans hlk') hd''
    unfold wpList
    split
    · rename_i hw; rw [if_pos hw] at this; exact .inl this
    · rename_i hw; rw [if_neg hw] at this; exact this

end Go.SX
