/- The symbolic executor SY, its soundness, part 34: what is asked of code; loops. -/
import Derived.Test.YtolebnomgllgaaaGreatDoorSyS32
import Derived.LoopN
import Derived.Scope
import Derived.Recover
set_option linter.unusedVariables false
set_option linter.unusedSimpArgs false
namespace Go.SY
open Go Go.RowKit
noncomputable section
variable {F : Nat → List Dt → Post → Prop} {Q : Post} {P : Program}
variable {C : Cfg} {ty : Ty} {pl : Bool} {G : Nat → Prop} {fz0 : Fz} {w0 w w' wB : World} {ρ ρ' ρ1 ρ1' ρN ρB : Env} {st st' stB : St} {d : Bd} {tm tm' : Tm} {a a' : Act} {bm : Tb Nat} {β : Bt} {QE : Exit → Act → World → Prop}
def FMono (F : Nat → List Dt → Post → Prop) : Prop := ∀ f is Q Q', (∀ c r, Q c r → Q' c r) → F f is Q → F f is Q'
theorem iterW_mono {f : List Dt → Post → Prop} {d : Nat} (hf : ∀ s Q Q', (∀ c r, Q c r → Q' c r) → f s Q → f s Q') : ∀ (K : Nat) (s : List Dt) (Q Q' : Post), (∀ c r, Q c r → Q' c r) → iterW K f d s Q → iterW K f d s Q'
  | 0, _, _, _, _, h => h.elim
  | K + 1, s, Q, Q', hq, h => by
    simp only [iterW] at h ⊢
    refine hf s _ _ (fun c r hc => ?_) h
    by_cases he : c = d
    · rw [if_pos he] at hc ⊢
      exact iterW_mono hf K r Q Q' hq hc
    · rw [if_neg he] at hc ⊢
      exact hq c r hc
theorem T.wp_mono (hF : FMono F) : ∀ (t : T) (is : List Dt) (Q Q' : Post), (∀ c r, Q c r → Q' c r) → t.wp ty F is Q → t.wp ty F is Q' := by
  intro t
  induction t with
  | ret c l => intro is Q Q' hq h; exact hq _ _ h
  | fail n => intro is Q Q' hq h; exact h
  | lt o e t ih => intro is Q Q' hq h; exact fun ho => ih _ _ _ hq (h ho)
  | br c t e iht ihe =>
    intro is Q Q' hq h
    simp only [T.wp] at h ⊢
    split
    · rename_i hc; rw [if_pos hc] at h; exact iht _ _ _ hq h
    · rename_i hc; rw [if_neg hc] at h; exact ihe _ _ _ hq h
  | call f args ts t ps p iht ihp =>
    intro is Q Q' hq h
    simp only [T.wp] at h ⊢
    refine hF _ _ _ _ (fun c r hc => ?_) h
    by_cases h0 : c = 0
    · rw [if_pos h0] at hc ⊢; exact fun hr => iht _ _ _ hq (hc hr)
    · rw [if_neg h0] at hc ⊢
      by_cases h1 : c = 1
      · rw [if_pos h1] at hc ⊢; exact fun hr => ihp _ _ _ hq (hc hr)
      · rw [if_neg h1] at hc; exact hc.elim
  | again d l => intro is Q Q' hq h; exact hq _ _ h
  | loop d ts fs init t ih =>
    intro is Q Q' hq h
    simp only [T.wp] at h ⊢
    refine ⟨h.1, ?_⟩
    obtain ⟨K, h2⟩ := h.2
    refine ⟨K, iterW_mono (fun s R R' hR hs hty => ?_) K _ _ _ hq h2⟩
    refine ih _ _ _ (fun c r hc => ?_) (hs hty)
    by_cases he : c = d + 2
    · rw [if_pos he] at hc ⊢; exact ⟨hc.1, hR _ _ hc.2⟩
    · rw [if_neg he] at hc ⊢; exact hR _ _ hc
  | out d t ih =>
    intro is Q Q' hq h
    simp only [T.wp] at h ⊢
    exact ih _ _ _ (fun c r hc => ⟨hc.1, hq _ _ hc.2⟩) h
theorem Md.df (hm : Md ty pl G fz0 w0 ρ st w) (x : List (Nat × List SV)) : Md ty pl G fz0 w0 ρ { st with df := x } w :=
  ⟨hm.below, hm.hni, hm.hnb, hm.hpc, hm.hpw, hm.fzw, hm.fzl, hm.fzn, hm.mem, hm.own, hm.inj, hm.hkk⟩
structure Hyp (C : Cfg) (F : Nat → List Dt → Post → Prop) : Prop where
  ty : TyOk C.P C.ty
  mix : C.P.follows .mixedOrders = true
  con : ∀ f x, x ∈ C.sp f → ConOk C.P C.ty C.gl F x.1 f x.2
  mono : FMono F
  lit : ∀ f args st sig, litOf C f args st = some sig → ConOk C.P C.ty C.gl F litG f sig
def Ex.ex (ρ : Env) : Ex → Exit
  | .norm => .normal
  | .exit i => .exit i
  | .ret => .ret
  | .panic v => .panic [{ v := v.den ρ, recovered := false }]
def Ex.ok (ρ : Env) (ni nb : Nat) : Ex → Prop
  | .panic v => v.ty ρ ∧ v.wf ni nb = true
  | _ => True
def HE (ty : Ty) (pl : Bool) (F : Nat → List Dt → Post → Prop) (Q : Post) (G : Nat → Prop) (fz0 : Fz) (w0 : World) (ρ : Env) (a : Act) (QE : Exit → Act → World → Prop) (k : KE) : Prop :=
  ∀ e ρ' st' w' tm' a', ρ.le ρ' → Md ty pl G fz0 w0 ρ' st' w' → TmOk ρ' st'.ni st'.nb tm' a' → DfOk ρ' st'.ni st'.nb st'.df a'.defers → a'.tmps.size = a.tmps.size → Ex.ok ρ' st'.ni st'.nb e → (k e tm' st').wp ty F ρ'.is Q → QE (e.ex ρ') a' w'
theorem KeepOk_of : ∀ {hs : List Hs} {os : List SV}, (∀ v ∈ os, v = .bot ∨ (v.wf ρ.is.length ρ.bs.length = true ∧ v.ty ρ)) → KeepOk ρ hs os
  | [], [], _ => trivial
  | [], _ :: _, _ => by simp only [KeepOk]
  | _ :: _, [], _ => by simp only [KeepOk]
  | h :: hs, o :: os, hv => ⟨fun _ => hv o (.head _), KeepOk_of fun v hm => hv v (.tail _ hm)⟩
theorem VsOk_mem {ni nb : Nat} : ∀ {vs : List SV} {Vs : List Value}, VsOk ρ ni nb vs Vs → ∀ v ∈ vs, v = .bot ∨ (v.wf ni nb = true ∧ v.ty ρ)
  | [], [], _, v, hv => nomatch hv
  | [], _ :: _, h, _, _ => h.elim
  | _ :: _, [], h, _, _ => h.elim
  | x :: vs, X :: Vs, h, v, hv => by
    rcases List.mem_cons.1 hv with rfl | hv
    · exact h.1.imp id fun h => ⟨h.1, h.2.1⟩
    · exact VsOk_mem h.2 v hv
theorem BaseL_of (hm : Md ty pl G fz0 w0 ρ st w) : ∀ (n i : Nat) (hb : List HsB), i + n ≤ st.nb → BaseL ty ρ w hb (memL st.mem n i) i
  | 0, i, hb, _ => by cases hb <;> simp only [memL, BaseL]
  | n + 1, i, [], _ => by simp only [memL, BaseL]
  | n + 1, i, x :: hb, hi => by
    simp only [memL, BaseL]
    refine ⟨⟨by rw [hm.hnb]; omega, ?_⟩, BaseL_of hm n (i + 1) hb (by omega)⟩
    cases hg : st.mem.get i with
    | none =>
      simp only [Option.getD_none]
      first | exact .inl trivial | exact .inl rfl
    | some y =>
      simp only [Option.getD_some]
      obtain ⟨h1, h2, h3, h4⟩ := hm.mem i y hg
      rw [← hm.hni, ← hm.hnb] at h2
      split
      · rename_i l c e
        simp only [SO.wf, Bool.and_eq_true] at h2
        simp only [SO.ok] at h4
        exact KeepOk_of fun v hv => .inr ⟨wfs_mem h2.1 v hv, tys_mem h4.2 v hv⟩
      · trivial
      · exact .inr ⟨h2, h4⟩
theorem BaseL.gone {bs : List Nat} : ∀ {hb : List HsB} {os : List SO} {i : Nat}, BaseL ty ρ w hb os i → BaseL ty ρ w hb (goneL bs i os) i
  | [], os, i, _ => by cases os <;> simp only [goneL, BaseL]
  | x :: hb, [], i, _ => by simp only [goneL, BaseL]
  | x :: hb, o :: os, i, h => by
    simp only [goneL, BaseL] at h ⊢
    refine ⟨?_, BaseL.gone h.2⟩
    cases memN i bs with
    | false => exact h.1
    | true =>
      refine ⟨h.1.1, ?_⟩
      simp only [cond_true]
      first | exact .inl trivial | exact .inl rfl | (cases x <;> first | exact .inl trivial | exact .inl rfl)
theorem HsR.base {fz : Fz} (hl : ρ.le ρ') : ∀ {hs : List Hs} {os : List SV} {vs : List Value} {ds : List Dt} {fp : List Nat}, KeepOk ρ hs os → HsR ty fz w β ρ hs os vs ds fp → HsR ty fz w β ρ' hs os vs ds fp
  | [], [], _, _, _, _, h => h
  | [], _ :: _, _, _, _, _, h => h.elim
  | _ :: _, [], _, _, _, _, h => h.elim
  | h :: hs, o :: os, _, _, _, hk, hr => by
    simp only [HsR] at hr ⊢
    obtain ⟨V, vr, d1, d2, f1, f2, h1, h2, h3, h4, h5⟩ := hr
    refine ⟨V, vr, d1, d2, f1, f2, h1, h2, h3, ?_, HsR.base hl hk.2 h5⟩
    cases h with
    | sh s => exact h4
    | bot => exact h4
    | keep =>
      obtain ⟨q1, q2, q3⟩ := h4
      refine ⟨q1, q2, ?_⟩
      rcases hk.1 ⟨(), rfl, rfl⟩ with hk1 | hk1
      · exact .inl hk1
      · rcases q3 with q3 | q3
        · exact .inl q3
        · exact .inr (by rw [q3, SV.den_app hl hk1.1])
theorem HbR.base {fz : Fz} (hl : ρ.le ρ') : ∀ {hs : List HsB} {os : List SO} {b : Nat} {ds : List Dt} {fp : List Nat}, BaseL ty ρ wB hs os b → HbR ty fz w β ρ hs os b ds fp → HbR ty fz w β ρ' hs os b ds fp
  | [], [], _, _, _, _, h => h
  | [], _ :: _, _, _, _, _, h => h.elim
  | _ :: _, [], _, _, _, _, h => h.elim
  | x :: hs, o :: os, b, _, _, hB, hr => by
    obtain ⟨⟨hlt, hB1⟩, hB2⟩ := hB
    obtain ⟨d1, d2, f1, f2, h1, h2, h3, h4⟩ := hr
    refine ⟨d1, d2, f1, f2, h1, h2, ?_, HbR.base hl hB2 h4⟩
    unfold HbE at h3 ⊢
    split at h3
    · obtain ⟨cs, q1, q2⟩ := h3
      exact ⟨cs, by rw [Env.b_app hl hlt]; exact q1, HsR.base hl hB1 q2⟩
    · obtain ⟨y, q1, q2, q3⟩ := h3
      exact ⟨y, q1, q2, by rw [Env.val_app hl hlt]; exact q3⟩
    · rename_i g1 g2
      obtain ⟨q1, q2, q3⟩ := h3
      refine ⟨q1, q2, ?_⟩
      have hB1' : o = .gone ∨ (o.wf ρ.is.length ρ.bs.length = true ∧ SO.ok ty ρ wB b o) := by
        split at hB1
        · exact absurd rfl (g1 _ _ _ rfl)
        · exact absurd rfl (g2 _ _ _ rfl)
        · exact hB1
      rcases hB1' with h | ⟨h, _⟩
      · rw [h]; trivial
      · have hl2 : ({ ρ with fz := fz } : Env).le { ρ' with fz := fz } := ⟨hl.is, hl.bs, fun _ _ h => h⟩
        exact SO.ok_app hl2 hlt h q3
theorem KeepEq.len : ∀ {hs : List Hs} {os os' : List SV}, KeepEq hs os os' → os'.length = os.length
  | [], [], [], _ => rfl
  | [], _ :: _, [], h => h.elim
  | [], [], _ :: _, h => h.elim
  | [], _ :: _, _ :: _, h => h.elim
  | _ :: _, [], _, h => h.elim
  | _ :: _, _ :: _, [], h => h.elim
  | h :: hs, o :: os, o' :: os', hk => by simp only [List.length_cons, KeepEq.len hk.2]
theorem hasTyO_append : ∀ {l m : List Dt} {t u : List (Option TypeId)}, hasTyO ty l t = true → hasTyO ty m u = true → hasTyO ty (l ++ m) (t ++ u) = true
  | [], m, [], u, _, h' => h'
  | [], _, _ :: _, _, h, _ => by simp [hasTyO] at h
  | _ :: _, _, [], _, h, _ => by simp [hasTyO] at h
  | x :: l, m, t :: ts, u, h, h' => by
    simp only [hasTyO, Bool.and_eq_true, List.cons_append] at h ⊢
    exact ⟨h.1, hasTyO_append h.2 h'⟩
theorem hasTyO_some : ∀ {l : List Dt} {t : List TypeId}, hasTyL ty l t = true → hasTyO ty l (t.map some) = true
  | [], [], _ => rfl
  | [], _ :: _, h => by simp [hasTyL] at h
  | _ :: _, [], h => by simp [hasTyL] at h
  | x :: l, t :: ts, h => by
    simp only [hasTyL, Bool.and_eq_true] at h
    simp only [List.map_cons, hasTyO, h.1, hasTyO_some h.2, Bool.and_self]
theorem hasTyO_len : ∀ {l : List Dt} {t : List (Option TypeId)}, hasTyO ty l t = true → l.length = t.length
  | [], [], _ => rfl
  | [], _ :: _, h => by simp [hasTyO] at h
  | _ :: _, [], h => by simp [hasTyO] at h
  | x :: l, t :: ts, h => by
    simp only [hasTyO, Bool.and_eq_true] at h
    simp only [List.length_cons, hasTyO_len h.2]
theorem HsR.tys {fz : Fz} : ∀ {hs : List Hs} {os : List SV} {vs : List Value} {ds : List Dt} {fp : List Nat}, HsR ty fz w β ρB hs os vs ds fp → hasTyO ty ds (hsTys hs) = true
  | [], [], _, _, _, h => by obtain ⟨_, rfl, _⟩ := h; rfl
  | [], _ :: _, _, _, _, h => h.elim
  | _ :: _, [], _, _, _, h => h.elim
  | h :: hs, o :: os, _, _, _, hr => by
    obtain ⟨V, vr, d1, d2, f1, f2, h1, rfl, h3, h4, h5⟩ := hr
    have ih := HsR.tys h5
    cases h with
    | sh s =>
      obtain ⟨cs, q1, q2⟩ := h4
      exact hasTyO_append (hasTyO_some q2.tys) ih
    | bot => obtain ⟨rfl, _⟩ := h4; exact ih
    | keep => obtain ⟨rfl, _⟩ := h4; exact ih
theorem HbR.tys {fz : Fz} : ∀ {hs : List HsB} {os : List SO} {b : Nat} {ds : List Dt} {fp : List Nat}, HbR ty fz w β ρB hs os b ds fp → hasTyO ty ds (hsBTys hs os) = true
  | [], [], _, _, _, h => by obtain ⟨rfl, _⟩ := h; rfl
  | [], _ :: _, _, _, _, h => h.elim
  | _ :: _, [], _, _, _, h => h.elim
  | x :: hs, o :: os, b, _, _, hr => by
    obtain ⟨d1, d2, f1, f2, rfl, h2, h3, h4⟩ := hr
    have ih := HbR.tys h4
    simp only [hsBTys]
    refine hasTyO_append ?_ ih
    unfold HbE at h3
    split at h3
    · obtain ⟨cs, q1, q2⟩ := h3
      exact q2.tys
    · obtain ⟨y, rfl, q2, q3⟩ := h3
      rfl
    · rename_i g1 g2
      obtain ⟨rfl, _⟩ := h3
      split
      · exact absurd rfl (g1 _ _ _ rfl)
      · exact absurd rfl (g2 _ _ _ rfl)
      · rfl
theorem hsBTys_keep : ∀ {hs : List HsB} {os os' : List SO}, KeepEqB hs os os' → hsBTys hs os' = hsBTys hs os
  | [], [], [], _ => rfl
  | [], _ :: _, [], h => h.elim
  | [], [], _ :: _, h => h.elim
  | [], _ :: _, _ :: _, h => h.elim
  | _ :: _, [], _, h => h.elim
  | _ :: _, _ :: _, [], h => h.elim
  | x :: hs, o :: os, o' :: os', hk => by
    have ih := hsBTys_keep hk.2
    have hk1 := hk.1
    simp only [hsBTys, ih]
    split at hk1
    · obtain ⟨c', rfl, _⟩ := hk1; rfl
    · obtain ⟨a, rfl⟩ := hk1; rfl
    · rw [hk1]
theorem nnFacts_wf {ni nb : Nat} {no : List Nat} : ∀ {vs hs : List SV} {i : Nat}, SV.wfsB ni nb hs = true → ∀ p ∈ nnFacts no i vs hs, p.1.wf ni = true
  | [], hs, i, _, p, hp => by simp [nnFacts] at hp
  | v :: vs, [], i, _, p, hp => by
    unfold nnFacts at hp
    split at hp <;> first | cases hp | simp at *
  | v :: vs, x :: hs, i, hw, p, hp => by
    have hw2 : SV.wfsB ni nb hs = true := by
      cases x <;> simp only [SV.wfsB, Bool.and_eq_true] at hw <;> first | exact hw | exact hw.2
    unfold nnFacts at hp
    split at hp
    · rename_i k c vs' k' n hs' h1 h2
      cases h1; cases h2
      rw [cond_eq_ite] at hp
      split at hp
      rotate_left
      · exact nnFacts_wf hw2 p hp
      · rcases List.mem_cons.1 hp with rfl | hp
        · simp only [SV.wfsB, Bool.and_eq_true, SV.wf] at hw
          show (A.wf ni (.v n) && A.wf ni (.n 0)) = true
          rw [hw.1]; rfl
        · exact nnFacts_wf hw2 p hp
    · rename_i h1 h2
      cases h1; cases h2
      exact nnFacts_wf hw2 p hp
    · cases hp
theorem factsB_ok : ∀ {l : List (B × Bool)} {is : List Dt}, factsB l is = true → PcOk is l
  | [], _, _ => fun p hp => nomatch hp
  | p :: l, is, h => by
    simp only [factsB, Bool.and_eq_true, beq_iff_eq] at h
    intro q hq
    rcases List.mem_cons.1 hq with rfl | hq
    · exact h.1
    · exact factsB_ok h.2 q hq
theorem dfBeq_eq : ∀ {a b : List (Nat × List SV)}, dfBeq a b = true → a = b
  | [], [], _ => rfl
  | [], _ :: _, h => by cases h
  | _ :: _, [], h => by cases h
  | x :: a, y :: b, h => by
    simp only [dfBeq, Bool.and_eq_true] at h
    rw [dfBeq_eq h.2, show x = y from Prod.ext (beq_nat h.1.1) (SV.beqs_eq h.1.2)]
theorem DfOk.back {ni nb : Nat} (hl : ρB.le ρ) : ∀ {l : List (Nat × List SV)} {ds ds' : List Deferred}, DfOk ρB ρB.is.length ρB.bs.length l ds → DfOk ρ ni nb l ds' → DfOk ρB ρB.is.length ρB.bs.length l ds'
  | [], _, [], _, _ => trivial
  | [], _, _ :: _, _, h => h.elim
  | _ :: _, [], _, h, _ => h.elim
  | _ :: _, _ :: _, [], _, h => h.elim
  | x :: l, d :: ds, d' :: ds', h, h' => by
    obtain ⟨⟨h1, h2, _⟩, h5⟩ := h
    obtain ⟨⟨_, _, cap, q3, q4⟩, q5⟩ := h'
    exact ⟨⟨h1, h2, cap, q3, by rw [q4, SV.dens_app hl h1]⟩, DfOk.back hl h5 q5⟩
theorem Md.unbase' {st' : St} {gl : List Nat} (h : Md ty pl G fz0 w0 ρ st w) (h' : Md ty pl (· ∈ gl) ρ.fz w ρ' st' w') (hgl : ∀ k ∈ gl, w0.heap.size ≤ k ∨ G k) : Md ty pl G fz0 w0 ρ' st' w' := by
  have hg : ∀ k, w.heap.size ≤ k ∨ k ∈ gl → w0.heap.size ≤ k ∨ G k := by
    rintro k (hk | hk)
    · exact .inl (Nat.le_trans h.below.size hk)
    · exact hgl k hk
  refine ⟨⟨h'.below.os.trans h.below.os, h'.below.tape.trans h.below.tape, h'.below.output.trans h.below.output, Nat.le_trans h.below.size h'.below.size, fun k hk hn => ?_⟩, h'.hni, h'.hnb, h'.hpc, h'.hpw, h'.fzw, fun b o ho => h'.fzl b o (h.fzl b o ho), fun k h1 h2 => ?_, h'.mem, fun i o k hi hk => ⟨hg k (h'.own i o k hi hk).1, (h'.own i o k hi hk).2⟩, h'.inj, h'.hkk.ok, fun hp => ⟨fun n => ((h'.hkk.np hp).1 n).trans ((h.hkk.np hp).1 n), (h'.hkk.np hp).2⟩⟩
  · rw [h'.below.block k (Nat.lt_of_lt_of_le hk h.below.size) fun hf => ?_]
    · exact h.below.block k hk hn
    · rcases hg k (.inr hf) with hh | hh
      · omega
      · exact hn hh
  cases hz : ρ.fz k with
  | none => exact hg k (h'.fzn k h1 hz)
  | some o => exact h.fzn k (by rw [hz]; simp) h2
theorem keepB_foot : ∀ {hs : List HsB} {os os' : List SO}, KeepEqB hs os os' → ∀ (i : Nat) (o : SO), os[i]? = some o → ∃ o', os'[i]? = some o' ∧ (∀ _j : Nat, foot ρ i o' = foot ρ i o) ∧ ∀ e s a, o' = SO.pool e s a → o' = o
  | hs, os, os', hk, i, o, hi => by
    have gen : ∀ (n : Nat) {hs : List HsB} {os os' : List SO}, KeepEqB hs os os' → ∀ (i : Nat) (o : SO), os[i]? = some o → ∃ o', os'[i]? = some o' ∧ foot ρ (n + i) o' = foot ρ (n + i) o ∧ ∀ e s a, o' = SO.pool e s a → o' = o := by
      intro n hs
      induction hs generalizing n with
      | nil =>
        intro os os' hk i o hi
        cases os <;> cases os' <;> first | exact hk.elim | simp at hi
      | cons x hs ih =>
        intro os os' hk i o hi
        cases os with
        | nil => exact hk.elim
        | cons y os =>
          cases os' with
          | nil => exact hk.elim
          | cons y' os' =>
            cases i with
            | zero =>
              simp only [List.getElem?_cons_zero, Option.some.injEq] at hi
              subst hi
              refine ⟨y', rfl, ?_⟩
              have hk1 := hk.1
              split at hk1
              · obtain ⟨c', rfl, _⟩ := hk1; exact ⟨rfl, fun _ _ _ h => by cases h⟩
              · obtain ⟨a, rfl⟩ := hk1; exact ⟨rfl, fun _ _ _ h => by cases h⟩
              · rw [hk1]; exact ⟨rfl, fun _ _ _ _ => rfl⟩
            | succ i =>
              simp only [List.getElem?_cons_succ] at hi ⊢
              obtain ⟨o', q1, q2, q3⟩ := ih (n + 1) hk.2 i o hi
              exact ⟨o', q1, by rw [show n + (i + 1) = n + 1 + i by omega]; exact q2, q3⟩
    obtain ⟨o', q1, q2, q3⟩ := gen 0 hk i o hi
    rw [Nat.zero_add] at q2
    exact ⟨o', q1, fun _ => q2, q3⟩
theorem keepB_pool {e s : Nat} {x : A} : ∀ {hs : List HsB} {os os' : List SO}, KeepEqB hs os os' → os'[0]? = some (SO.pool e s x) → os[0]? = some (SO.pool e s x)
  | [], [], [], _, h => by simp at h
  | [], [], _ :: _, hk, _ => hk.elim
  | [], _ :: _, _, hk, _ => hk.elim
  | _ :: _, [], _, hk, _ => hk.elim
  | _ :: _, _ :: _, [], hk, _ => hk.elim
  | z :: _, y :: _, y' :: _, hk, h => by
    simp only [List.getElem?_cons_zero, Option.some.injEq] at h ⊢
    have hk1 := hk.1
    subst h
    split at hk1
    · obtain ⟨c', hc, _⟩ := hk1; cases hc
    · obtain ⟨a, hc⟩ := hk1; cases hc
    · exact hk1.symm
theorem bβ_none {m : Mt} (hb : BmOk st.nb m) (hl : m.lim = 0) : BtLe (bβ ρ m.bm) (fun _ => none) := by
  intro j k hk
  simp only [bβ, Option.map_eq_some_iff] at hk
  obtain ⟨b, h1, _⟩ := hk
  have := (hb j b h1).2
  omega
theorem LInv.tys {gl : List Nat} {memB : Tb SO} {hs : List Hs} {hb : List HsB} {tl : List SV} {ml : List SO} {N : Nat} {s : List Dt} {mP : Tb SO} (h : LInv ty pl mP ρB wB gl memB hs hb tl ml N w a s) : hasTyO ty s (hsTys hs ++ hsBTys hb ml) = true := by
  obtain ⟨fz, d1, d2, f1, f2, _, _, _, _, rfl, r1, r2, _⟩ := h
  exact hasTyO_append r1.tys r2.tys
theorem sxLoop_ok (hF : FMono F) (hty : TyOk C.P C.ty) (hg : GOk C.ty C.gl fz0) {no : List Nat} {dep N : Nat} {hs : List Hs} {hb : List HsB} {ml : List SO} {b : Code} {body : Tm → St → KE → T} {k : KE} (hN : N ≤ a.tmps.size)
    (hm : Md C.ty C.pl G fz0 w0 ρ st w) (ht : TmOk ρ st.ni st.nb tm a) (hdf : DfOk ρ st.ni st.nb st.df a.defers)
    (h : (sxLoop C no dep N hs hb (tmL tm N 0) ml body st k).wp C.ty F ρ.is Q) (hk : HE C.ty C.pl F Q G fz0 w0 ρ a QE k)
    (hbody : ∀ (tm : Tm) (st : St) (k : KE) (ρ : Env) (w : World) (a' : Act) (QE : Exit → Act → World → Prop) (G : Nat → Prop) (fz0 : Fz) (w0 : World) (Q : Post), GOk C.ty C.gl fz0 → Md C.ty C.pl G fz0 w0 ρ st w → TmOk ρ st.ni st.nb tm a' → DfOk ρ st.ni st.nb st.df a'.defers → a'.tmps.size = a.tmps.size →
      (body tm st k).wp C.ty F ρ.is Q → HE C.ty C.pl F Q G fz0 w0 ρ a' QE k → b.wp C.P QE a' w) : (Code.loop b).wp C.P QE a w := by
  unfold sxLoop at h
  split at h
  · exact h.elim
  · rename_i as m0 h1
    split at h
    · exact h.elim
    · rename_i bs m h2
      cases hsb : sosBeq (headL hb (memL m0.f.mem st.nb 0)) (memL m.f.mem st.nb 0) <;> rw [hsb] at h <;> simp only [Bool.not_true, Bool.not_false, cond_true, cond_false] at h
      · exact h.elim
      · have hml := sosBeq_eq hsb
        have hV := slots_ok ht N
        have hK0 : KeepOk ρ hs (tmL tm N 0) := KeepOk_of fun v hv => by
          rw [hm.hni, hm.hnb]; exact VsOk_mem hV v hv
        have hb0 : BmOk st.nb ⟨st.fs, .e, 0⟩ := fun j b hj => by simp [Tb.get_e] at hj
        have r1 := mtHs_ok (ρB := ρ) hty hm.hpw h1 hm.fsR hb0 hm.hpc (Env.le_refl ρ) hV hK0
        have r2 := r1.seq HsR_RMono (R2 := fun fz β ds fp => ∃ ρ', ρ.fl ρ' ∧ FzLe ρ'.fz fz ∧ BaseL C.ty ρ' w hb (headL hb (memL m0.f.mem st.nb 0)) 0 ∧ HbR C.ty fz w β ρ' hb (headL hb (memL m0.f.mem st.nb 0)) 0 ds fp) fun G fz0 w0 ρ' ρ1' hl hf hbm => by
          have hB := BaseL.gone (bs := ownsHb hb (memL m0.f.mem st.nb 0)) (BaseL_of hf.hm st.nb 0 hb (by simp))
          obtain ⟨ρ2, ρ3, fp2, F2, l3, l4, g2, n2, b3, b4, t2, a2, r⟩ := mtHsB_ok (ρB := ρ') hty hm.hpw h2 hf hbm (PcOk.fl hl hm.hpc) (Env.le_refl _) hB
          exact ⟨ρ2, ρ3, fp2, F2, l3, l4, g2, n2, b3, b4, t2, a2, ρ', hl, l3.fz, hB, r⟩
        obtain ⟨ρ', ρB, fp, F1, l1, l2, g1, n1, b1, b2, t1, a1, d1, d2, f1, f2, hd, rfl, q1, ρf, lf, lfz, qB, q2⟩ := r2
        obtain ⟨hmB, h⟩ := bindF_ok h F1 l1
        have hgs : m.f.d.gs = [] := g1
        have hz1 : ρB.fz = ρ'.fz := F1.he.fz
        have hnb : (stD { st with mem := m.f.mem } m.f.d).nb = st.nb := by
          show m.f.d.nb = st.nb
          have := F1.he.nb
          rw [hgs, l1.bs, hm.hnb] at this
          simpa using this
        have hmem : (stD { st with mem := m.f.mem } m.f.d).mem = m.f.mem := by simp only [stD, hgs, pushG]
        have hdfB : (stD { st with mem := m.f.mem } m.f.d).df = st.df := rfl
        have hbs : ρB.bs = ρ.bs := by
          obtain ⟨y, hy, hyl⟩ := F1.he.bs
          rw [hgs] at hyl
          rw [hy, List.eq_nil_of_length_eq_zero hyl, List.append_nil, l1.bs]
        have hleB : ρ.le ρB := Env.le_trans l1.le F1.he.le
        have hlfB : ρf.le ρB := ⟨by rw [lf.is]; exact hleB.is, by rw [lf.bs]; exact hleB.bs, fun x o hx => by rw [hz1]; exact lfz x o hx⟩
        have hfoot : ∀ i o, m.f.mem.get i = some o → foot ρB i o = foot ρ' i o := fun i o hi => by
          obtain ⟨y1, y2, y3, _⟩ := F1.hm.mem i o hi
          exact foot_app F1.he.le (by rw [F1.hm.hnb]; exact y1) o (by rw [F1.hm.hni, F1.hm.hnb]; exact y2) y3
        generalize hstB : stD { st with mem := m.f.mem } m.f.d = stB at hmB h hnb hmem hdfB
        have hlim : m.lim = 0 := b2.1
        have hβ := bβ_none (ρ := ρ) b2.2 hlim
        have qH := (q1.mono (fun _ _ h => h) hβ).base hleB hK0
        have qM := (q2.mono (fun _ _ h => h) hβ).base hlfB qB
        rw [hml] at qM
        have hBB : BaseL C.ty ρB w hb (memL m.f.mem st.nb 0) 0 := by
          have := BaseL_of hmB st.nb 0 hb (by rw [hnb]; simp)
          rw [hmem] at this; exact this
        have hKB : KeepOk ρB hs (tmL tm N 0) := by
          have hV := slots_ok (hm.tmok hmB hleB ht) N
          exact KeepOk_of fun v hv => by rw [hmB.hni, hmB.hnb]; exact VsOk_mem hV v hv
        have hdfk : DfOk ρB ρB.is.length ρB.bs.length st.df a.defers := by
          have := hm.dfok hmB hleB hdf
          rw [hmB.hni, hmB.hnb]; exact this
        rw [hmem] at h
        have hfL : ∀ k, k ∈ feetL ρB stB.mem stB.nb ↔ feet ρB stB.mem k := fun k => mem_feetL fun i o h => (hmB.mem i o h).1
        have hgl : ∀ k, feet ρB stB.mem k → k ∈ feetL ρB stB.mem stB.nb ++ (f1 ++ f2) := fun k hk => List.mem_append_left _ ((hfL k).2 hk)
        have hglG : ∀ k ∈ feetL ρB stB.mem stB.nb ++ (f1 ++ f2), w0.heap.size ≤ k ∨ G k := fun k hk => by
          rcases List.mem_append.1 hk with hk | hk
          · obtain ⟨i, o, hi, hf⟩ := (hfL k).1 hk
            exact (hmB.own i o k hi hf).1
          · exact (t1.own k hk).1
        have hI : ∀ mP : Tb SO, HkP C.pl { ρB with fz := ρ'.fz } ρB.fz mP → LInv C.ty C.pl mP ρB w (feetL ρB stB.mem stB.nb ++ (f1 ++ f2)) stB.mem hs hb (tmL tm N 0) (memL stB.mem st.nb 0) N w a ((as ++ bs).map (·.den ρB.is)) := by
          intro mP hmP
          refine ⟨ρ'.fz, d1, d2, f1, f2, by rw [hz1]; exact fun _ _ h => h, F1.hm.fzw, fun k h1 h2 => absurd h2 (by rw [hz1]; exact h1), Belw.refl _ _, hd, qH, by rw [hmem]; exact qM, t1.nd, fun k hk => ?_, fun k hk => ?_, hmP⟩
          · exact ⟨.inr (List.mem_append_right _ hk), (t1.own k hk).2.1⟩
          · obtain ⟨i, o, hi, hf⟩ := hk
            rw [hmem] at hi
            rw [hfoot i o hi] at hf
            exact ⟨(F1.hm.own i o k hi hf).2, fun hk => t1.free k hk ⟨i, o, hi, hf⟩⟩
        generalize hgle : feetL ρB stB.mem stB.nb ++ (f1 ++ f2) = gl at hI hgl hglG
        have hgB : GOk C.ty C.gl ρB.fz := hg.mono hmB.fzl
        split at h
        · exact h.elim
        · rename_i tH c1 h3
          split at h
          · exact h.elim
          · rename_i mH c2 h4
            rw [hnb] at h3
            rw [← hmem] at h4
            cases hck : (Nat.beq c2.n c2.d.ni && SV.wfsB c2.d.ni c2.d.nb tH && wfSOs c2.d.ni c2.d.nb mH && wfSOs c2.d.ni c2.d.nb c2.d.gs && wfFs c2.d.ni c2.d.fs) <;> rw [hck] at h <;> simp only [cond_true, cond_false] at h
            · exact h.elim
            · simp only [Bool.and_eq_true] at hck
              obtain ⟨⟨⟨⟨_, hwT⟩, hwM⟩, _⟩, _⟩ := hck
              have hPH : ∀ e s x, (Tb.ofL mH 0 .e).get 0 = some (SO.pool e s x) → mH[0]? = some (SO.pool e s x) := fun e s x hg => by
                rcases get_ofL _ _ _ _ _ hg with ⟨_, hg⟩ | hg
                · exact hg
                · rw [Tb.get_e] at hg; cases hg
              have hPB : ∀ e s x, (Tb.ofL mH 0 .e).get 0 = some (SO.pool e s x) → stB.mem.get 0 = some (SO.pool e s x) := fun e s x hg => by
                have h0 := keepB_pool (crHsB_keep h4) (hPH e s x hg)
                have hlt := (List.getElem?_eq_some_iff.1 h0).1
                rw [memL_len] at hlt
                rw [memL_get _ _ _ _ hlt, Nat.zero_add] at h0
                cases hg' : stB.mem.get 0 with
                | none => rw [hg'] at h0; simp only [Option.getD_none, Option.some.injEq] at h0; cases h0
                | some z => rw [hg'] at h0; simp only [Option.getD_some, Option.some.injEq] at h0; rw [h0]
              have hPw : ∀ e s x, (Tb.ofL mH 0 .e).get 0 = some (SO.pool e s x) → x.wf ρB.is.length = true := fun e s x hg => by
                have := (hmB.mem 0 _ (hPB e s x hg)).2.1
                simp only [SO.wf] at this
                rw [hmB.hni]; exact this
              have hI := hI (Tb.ofL mH 0 .e) ⟨fun e s x hg n hn => hmB.hkk.ok e s x (hPB e s x hg) n (by rw [hz1]; exact hn), fun hp => ⟨fun n => by rw [hz1], fun e s x hg => (hmB.hkk.np hp).2 e s x (hPB e s x hg)⟩⟩
              have htH : tH.length = N := by rw [(crHs_keep h3).len, tmL_len]
              have hlen : (as ++ bs).length = (hsTys hs ++ hsBTys hb (memL stB.mem st.nb 0)).length := by
                rw [← hasTyO_len hI.tys, List.length_map]
              simp only [T.wp] at h
              obtain ⟨hnn0, K, hK⟩ := h
              rw [hmem] at hlen
              obtain ⟨fW, hfW⟩ : ∃ fW : List Dt → Post → Prop, fW = (fun s Q => hasTyO C.ty s (hsTys hs ++ hsBTys hb (memL m.f.mem st.nb 0)) = true → (body (Tb.ofL tH 0 .e)
                    { stB with mem := pushG (Tb.ofL mH 0 .e) stB.nb c2.d.gs, ni := c2.d.ni, nb := c2.d.nb, pc := nnFacts no 0 (tmL tm N 0) tH ++ c2.d.fs ++ stB.pc }
                    (loopK C dep N stB.nb hs hb tH mH stB.df k)).wp C.ty F (ρB.is ++ s) fun c r => if c = dep + 1 + 2 then factsB (nnFacts no 0 (tmL tm N 0) tH) (ρB.is ++ r) = true ∧ Q c r else Q c r) := ⟨_, rfl⟩
              rw [← hfW] at hK
              have go : ∀ (K : Nat) (s : List Dt) (a' : Act) (w' : World), LInv C.ty C.pl (Tb.ofL mH 0 .e) ρB w gl stB.mem hs hb (tmL tm N 0) (memL stB.mem st.nb 0) N w' a' s → a'.tmps.size = a.tmps.size → DfOk ρB ρB.is.length ρB.bs.length st.df a'.defers →
                  PcOk (ρB.is ++ s) (nnFacts no 0 (tmL tm N 0) tH) → iterW K fW (dep + 1 + 2) s Q → Code.rounds C.P b QE K a' w' := by
                intro K
                induction K with
                | zero => intro s a' w' _ _ _ _ h; exact h.elim
                | succ K ihK =>
                  intro s a' w' hI' hsz hdf' hpn hit
                  simp only [iterW] at hit
                  have hty' := hI'.tys
                  rw [hmem] at hty'
                  obtain ⟨ρH, p1, p2, p3, p4, _⟩ := head_ok hmB hnb h3 h4 hwT hwM hKB (by rw [hmem]; exact hBB) htH (by rw [hsz]; exact hN) (by rw [hlen, hasTyO_len hty']) hgl hPw hI' hpn (fun p hp => nnFacts_wf hwT p hp)
                  obtain ⟨PP, hP1, hP2, hit⟩ : ∃ PP : Post, (∀ c r, c ≠ dep + 1 + 2 → PP c r → Q c r) ∧ (∀ r, PP (dep + 1 + 2) r → factsB (nnFacts no 0 (tmL tm N 0) tH) (ρB.is ++ r) = true ∧ iterW K fW (dep + 1 + 2) r Q) ∧ (body (Tb.ofL tH 0 .e)
                    { stB with mem := pushG (Tb.ofL mH 0 .e) stB.nb c2.d.gs, ni := c2.d.ni, nb := c2.d.nb, pc := nnFacts no 0 (tmL tm N 0) tH ++ c2.d.fs ++ stB.pc }
                    (loopK C dep N stB.nb hs hb tH mH stB.df k)).wp C.ty F ρH.is PP := by
                    rw [p1]
                    rw [hfW] at hit
                    have hit := hit hty'
                    rw [← hfW] at hit
                    refine ⟨_, fun c r hc h => ?_, fun r h => ?_, hit⟩
                    · simp only [if_neg hc] at h; exact h
                    · simp only [if_true] at h; exact h
                  rw [rounds_succ]
                  rw [hnb] at hit
                  refine hbody _ _ _ ρH w' a' _ (· ∈ gl) ρB.fz w _ hgB p3 p4 ?_ hsz hit fun e ρ2 st2 w2 tm2 a2 hle2 hm2 ht2 hdf2 hsz2 hok hd2 => ?_
                  · have := hdf'.app p2
                    rw [p3.hni, p3.hnb] at this
                    rw [hdfB]; exact this
                  have hle0 : ρB.le ρ2 := Env.le_trans p2 hle2
                  have hm2' : Md C.ty C.pl G fz0 w0 ρ2 st2 w2 := hmB.unbase' hm2 hglG
                  have fin : ∀ {x : T}, (T.out (dep + 1) x).wp C.ty F ρ2.is PP → x.wp C.ty F ρ2.is Q := by
                    intro x hx
                    simp only [T.wp] at hx
                    exact T.wp_mono hF _ _ _ _ (fun c r hc => hP1 c r hc.1 hc.2) hx
                  have hle1 : ρ.le ρ2 := Env.le_trans hleB hle0
                  unfold loopK at hd2
                  cases e with
                  | exit i => exact hk (.exit i) _ _ _ _ _ hle1 hm2' ht2 hdf2 (hsz2.trans hsz) hok (fin hd2)
                  | ret => exact hk .ret _ _ _ _ _ hle1 hm2' ht2 hdf2 (hsz2.trans hsz) hok (fin hd2)
                  | panic v => exact hk (.panic v) _ _ _ _ _ hle1 hm2' ht2 hdf2 (hsz2.trans hsz) hok (fin hd2)
                  | norm =>
                    show Code.rounds C.P b QE K a2 w2
                    simp only at hd2
                    cases hdb : dfBeq stB.df st2.df <;> rw [hdb] at hd2 <;> simp only [Bool.not_true, Bool.not_false, cond_true, cond_false] at hd2
                    · exact hd2.elim
                    · have hdfe := dfBeq_eq hdb
                      split at hd2
                      · exact hd2.elim
                      · rename_i as2 m3 h5
                        split at hd2
                        · exact hd2.elim
                        · rename_i bs2 m4 h6
                          cases hkd : kindsOk mH (memL m4.f.mem st.nb 0) <;> rw [hkd] at hd2 <;> simp only [cond_true, cond_false] at hd2
                          · exact hd2.elim
                          · have hV2 := slots_ok ht2 N
                            have hK2 : KeepOk ρB hs tH := hKB.keepEq (crHs_keep h3)
                            have hB2 : BaseL C.ty ρB w hb mH 0 := by
                              have := hBB.keepEq (os' := mH) (by rw [← hmem]; exact crHsB_keep h4)
                              exact this
                            have hb0 : BmOk st2.nb ⟨st2.fs, .e, 0⟩ := fun j b hj => by simp [Tb.get_e] at hj
                            have r1 := mtHs_ok (ρB := ρB) hty hm2.hpw h5 hm2.fsR hb0 hm2.hpc hle0 hV2 hK2
                            have r2 := r1.seq HsR_RMono (R2 := fun fz β ds fp => HbR C.ty fz w2 β ρB hb mH 0 ds fp) fun G fz0 w0 ρ' ρ1' hl hf hbm => mtHsB_ok (ρB := ρB) hty hm2.hpw h6 hf hbm (PcOk.fl hl hm2.hpc) (Env.le_trans hle0 hl.le) hB2
                            obtain ⟨ρ3, ρ4, fp, F3, l3, l4, g3, n3, b5, b6, t3, a3, e1, e2, v1, v2, hd3, rfl, q3, q4⟩ := r2
                            obtain ⟨hm4, hd4⟩ := bindF_ok hd2 F3 l3
                            have hlim2 : m4.lim = 0 := b6.1
                            have hβ2 := bβ_none (ρ := ρ2) b6.2 hlim2
                            have qH2 := (q3.mono (fun _ _ h => h) hβ2).keepEq (crHs_keep h3)
                            have qM2 := (q4.mono (fun _ _ h => h) hβ2).keepEq (crHsB_keep h4)
                            have hle3 : ρB.le ρ3 := Env.le_trans hle0 l3.le
                            have hI2 : LInv C.ty C.pl (Tb.ofL mH 0 .e) ρB w gl stB.mem hs hb (tmL tm N 0) (memL stB.mem st.nb 0) N w2 a2 ((as2 ++ bs2).map (·.den ρ4.is)) := by
                              refine ⟨ρ3.fz, e1, e2, v1, v2, hle3.fz, F3.hm.fzw, F3.hm.fzn, F3.hm.below, hd3, qH2, qM2, t3.nd, fun k hk => ⟨(t3.own k hk).1, (t3.own k hk).2.1⟩, fun k hk => ?_, ⟨fun e s x hg n hn => ?_, fun hp => ⟨fun n => (F3.hm.hkk.np hp).1 n, fun e s x hg => (hmB.hkk.np hp).2 e s x (hPB e s x hg)⟩⟩⟩
                              rotate_left
                              · obtain ⟨y, hy, hky⟩ := kindsOk_get hkd 0 _ (hPH e s x hg)
                                have hlt := (List.getElem?_eq_some_iff.1 hy).1
                                rw [memL_len] at hlt
                                rw [memL_get _ _ _ _ hlt, Nat.zero_add] at hy
                                cases y with
                                | pool e' s' x' =>
                                  have hx := A.beq_eq hky
                                  subst hx
                                  have hg4 : m4.f.mem.get 0 = some (.pool e' s' x) := by
                                    cases hg' : m4.f.mem.get 0 with
                                    | none => rw [hg'] at hy; simp only [Option.getD_none, Option.some.injEq] at hy; cases hy
                                    | some z => rw [hg'] at hy; simp only [Option.getD_some, Option.some.injEq] at hy; rw [hy]
                                  have := F3.hm.hkk.ok e' s' x hg4 n hn
                                  rw [Env.A_app hle3 (hPw e s x hg)] at this
                                  exact this
                                | _ => cases hky
                              obtain ⟨i, o, hi, hf⟩ := hk
                              have hlt : i < st.nb := by rw [← hnb]; exact (hmB.mem i o hi).1
                              have hgi : (memL stB.mem st.nb 0)[i]? = some o := by rw [memL_get _ _ _ _ hlt, Nat.zero_add, hi]; rfl
                              obtain ⟨o', ho', hf', hpl⟩ := keepB_foot (ρ := ρB) (crHsB_keep h4) i o hgi
                              obtain ⟨y, hy, hky⟩ := kindsOk_get hkd i o' ho'
                              have hlt2 : i < ρB.bs.length := by rw [hmB.hnb, hnb]; exact hlt
                              have hfy : foot ρ3 i y k := kind_foot hky (by
                                have hfe : foot ρ3 i o' = foot ρB i o' := by
                                  by_cases hp : ∃ e s a, o' = SO.pool e s a
                                  · obtain ⟨e, s, a, hp⟩ := hp
                                    rw [hpl e s a hp]
                                    obtain ⟨_, y2, y3, _⟩ := hmB.mem i o hi
                                    exact foot_app hle3 hlt2 o (by rw [hmB.hni, hmB.hnb]; exact y2) y3
                                  · exact foot_app' hle3 hlt2 o' fun e s a h => hp ⟨e, s, a, h⟩
                                rw [hfe, hf' 0]; exact hf)
                              rw [memL_get _ _ _ _ hlt, Nat.zero_add] at hy
                              have hyg : m4.f.mem.get i = some y := by
                                cases hg' : m4.f.mem.get i with
                                | none => rw [hg'] at hy; simp only [Option.getD_none, Option.some.injEq] at hy; subst hy; cases hfy
                                | some z => rw [hg'] at hy; simp only [Option.getD_some, Option.some.injEq] at hy; rw [hy]
                              exact ⟨(F3.hm.own i y k hyg hfy).2, fun hk => t3.free k hk ⟨i, y, hyg, hfy⟩⟩
                            simp only [T.wp] at hd4
                            obtain ⟨hn4, hi4⟩ := hP2 _ hd4
                            refine ihK _ a2 w2 hI2 (hsz2.trans hsz) ?_ (factsB_ok hn4) hi4
                            rw [← hdfe, hdfB] at hdf2
                            exact hdf'.back hle0 hdf2
              refine wp_loop_rounds K (go K _ a w hI rfl hdfk ?_ hK)
              exact factsB_ok hnn0
end
end Go.SY
