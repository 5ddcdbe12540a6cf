/- The symbolic executor SY, its soundness, part 37: the pool. -/
import Derived.Test.YtolebnomgllgaaaGreatDoorSyS12
set_option linter.unusedVariables false
set_option linter.unusedSimpArgs false
namespace Go.SY
open Go Go.RowKit
noncomputable section
variable {F : Nat → List Dt → Post → Prop} {Q : Post} {C : Cfg} {tm : Tm} {a : Act} {o : Oper} {k : SV → St → T} {next : Act → World → Prop} {QE : Exit → Act → World → Prop}
variable {ty : Ty} {pl : Bool} {G : Nat → Prop} {fz0 : Fz} {w0 w w' : World} {ρ ρ' : Env} {st : St}
theorem RowOk.hdr {e s : Nat} {fz : Fz} {x : Dt} {V : Value} (h : RowOk ty fz w e s x V) : V = .slice none 0 0 ∨ ∃ b l c, V = .slice (some ⟨b, 0, none⟩) l c := by
  rcases h with ⟨_, h⟩ | ⟨l, b, cap, xs, _, h, _⟩
  · exact .inl h
  · exact .inr ⟨b, _, cap, h⟩
theorem pool_ne {mem : Tb SO} {i e s e' s' : Nat} {x P : A} (hi : mem.get i = some (.rowd e s x)) (hp : mem.get 0 = some (.pool e' s' P)) : i ≠ 0 := by
  rintro rfl
  rw [hi] at hp; cases hp
theorem RowOk.hd1 {e s : Nat} {fz : Fz} {x : Dt} {V : Value} (h : RowOk ty fz w e s x V) : Hd1 x V := by
  rcases h with h | ⟨l, b, cap, xs, h1, h2, h3, h4⟩
  · exact .inl h
  · refine .inr ⟨l, b, cap, h1, h2, ?_⟩
    rcases h3.2 with ⟨q1, _⟩ | ⟨g, c, cur, q5, q6, q7, q8, q9, _⟩
    · rw [h2] at q1; cases q1
    · have : c ≤ 9223372036854775807 := q9
      omega
theorem Md.pool (h : Md ty pl G fz0 w0 ρ st w) {e s : Nat} {P : A} (hp : st.mem.get 0 = some (.pool e s P)) : ∃ l, P.den ρ.is = .row l ∧ PoolOk ty ρ.fz w e s l ∧ ∀ n : Nat, ρ.fz (.h n) ≠ none → n < l.length := by
  obtain ⟨h1, h2, h3, h4⟩ := h.mem 0 _ hp
  simp only [GhOk] at h3
  obtain ⟨l, h5, h6⟩ := h3
  simp only [SO.ok, h5, Dt.list] at h4
  refine ⟨l, h5, h4, fun n hn => ?_⟩
  have := h.hkk.ok e s P hp n hn
  rw [h5] at this
  exact this
theorem Md.give (h : Md ty pl G fz0 w0 ρ st w) (hpl : pl = true) {i e s t : Nat} {x P n P' : A} {l : List Dt} (hi : st.mem.get i = some (.rowd e s x)) (hp : st.mem.get 0 = some (.pool e s P)) (ht : tdOf ty t = .hnd e s) (hl : P.den ρ.is = .row l)
    (hn : n.den ρ.is = .num (l.length : Int)) (hnw : n.wf st.ni = true) (hP : P'.den ρ.is = .row (l ++ [x.den ρ.is])) (hPw : P'.wf st.ni = true) :
    ∃ fz', FzLe ρ.fz fz' ∧ rep ty fz' (n.den ρ.is) t [ρ.val i] ∧ Md ty pl G fz0 w0 { ρ with fz := fz' } { st with mem := (st.mem.put i (.val (.c true) t n)).put 0 (.pool e s P') } w := by
  have hi0 := pool_ne hi hp
  obtain ⟨l', hl', hpo, hk⟩ := h.pool hp
  rw [hl] at hl'
  cases hl'
  obtain ⟨a1, a2, a3, a4⟩ := h.mem i _ hi
  obtain ⟨b1, b2, b3, b4⟩ := h.mem 0 _ hp
  simp only [SO.ok] at a4
  have hnone : ρ.fz (.h l.length) = none := by
    cases hz : ρ.fz (.h l.length) with
    | none => rfl
    | some o => exact absurd (hk l.length (by rw [hz]; simp)) (Nat.lt_irrefl _)
  let fz' : Fz := fun k => if k = .h l.length then some (hob (ρ.val i)) else ρ.fz k
  have hnew : fz' (.h l.length) = some (hob (ρ.val i)) := if_pos rfl
  have hle : FzLe ρ.fz fz' := by
    intro k o hk
    by_cases hkb : k = .h l.length
    · rw [hkb, hnone] at hk; cases hk
    · simp only [fz', if_neg hkb]; exact hk
  have hbk : ∀ k : Nat, fz' (.b k) = ρ.fz (.b k) := fun k => if_neg (by simp)
  have hhk : ∀ j : Nat, j ≠ l.length → fz' (.h j) = ρ.fz (.h j) := fun j hj => if_neg (by simpa using hj)
  have hρ : ρ.le { ρ with fz := fz' } := ⟨⟨[], by simp⟩, ⟨[], by simp⟩, hle⟩
  have hrep : rep ty fz' (n.den ρ.is) t [ρ.val i] := by
    rw [hn]
    simp only [rep]
    exact .inr ⟨e, s, ρ.val i, ht, ⟨by omega, by rw [Int.toNat_natCast]; exact hnew, a4.hdr⟩, rfl⟩
  have ft : ∀ j oj, st.mem.get j = some oj → foot { ρ with fz := fz' } j oj = foot ρ j oj := fun j oj hj => foot_app hρ (by rw [h.hnb]; exact (h.mem j oj hj).1) oj (by rw [h.hni, h.hnb]; exact (h.mem j oj hj).2.1) (h.mem j oj hj).2.2.1
  have hdn : ∀ {j V}, j < l.length → hdV fz' j = some V → hdV ρ.fz j = some V := fun {j V} hj hV => by
    simp only [hdV, hhk j (by omega)] at hV
    exact hV
  have hdl : ∀ {V}, hdV fz' l.length = some V → V = ρ.val i := fun {V} hV => by
    rw [hdV_hob hnew] at hV
    injection hV with hV
    exact hV.symm
  have fp : ∀ k, foot { ρ with fz := fz' } 0 (.pool e s P') k → foot ρ 0 (.pool e s P) k ∨ foot ρ i (.rowd e s x) k := by
    rintro k ⟨j, V, q1, q2, q3⟩
    simp only [hP, Dt.list, List.length_append, List.length_cons, List.length_nil] at q1
    by_cases hj : j = l.length
    · subst hj
      have := hdl q2
      subst this
      exact .inr q3
    · exact .inl ⟨j, V, by simp only [hl, Dt.list]; omega, hdn (by omega) q2, q3⟩
  have hpok : PoolOk ty fz' w e s (l ++ [x.den ρ.is]) := by
    refine ⟨fun j y hj => ?_, fun j j' V V' k hj hj' hV hV' hk hk' => ?_⟩
    · by_cases hjl : j < l.length
      · rw [List.getElem?_append_left hjl] at hj
        obtain ⟨V, q1, q2⟩ := hpo.1 j y hj
        exact ⟨V, hle _ _ q1, q2.mono hle⟩
      · have hlt := (List.getElem?_eq_some_iff.1 hj).1
        simp only [List.length_append, List.length_cons, List.length_nil] at hlt
        have : j = l.length := by omega
        subst this
        rw [List.getElem?_append_right (Nat.le_refl _), Nat.sub_self] at hj
        simp only [List.getElem?_cons_zero, Option.some.injEq] at hj
        subst hj
        exact ⟨ρ.val i, hnew, a4.mono hle⟩
    · simp only [List.length_append, List.length_cons, List.length_nil] at hj hj'
      have cross : ∀ {j V k}, j < l.length → hdV fz' j = some V → V.ownBlock = some k → (ρ.val i).ownBlock = some k → False := fun {j V k} hj hV hk hk' => by
        have h1 : foot ρ 0 (.pool e s P) k := ⟨j, V, by simp only [hl, Dt.list]; exact hj, hdn hj hV, hk⟩
        exact hi0 (h.inj i 0 _ _ k hi hp hk' h1)
      by_cases hjl : j < l.length
      · by_cases hjl' : j' < l.length
        · exact hpo.2 j j' V V' k hjl hjl' (hdn hjl hV) (hdn hjl' hV') hk hk'
        · have : j' = l.length := by omega
          subst this
          have := hdl hV'
          subst this
          exact (cross hjl hV hk hk').elim
      · have : j = l.length := by omega
        subst this
        have := hdl hV
        subst this
        by_cases hjl' : j' < l.length
        · exact (cross hjl' hV' hk' hk).elim
        · omega
  have old : ∀ {j : Nat} {oj : SO}, ((st.mem.put i (.val (.c true) t n)).put 0 (.pool e s P')).get j = some oj → (j = 0 ∧ oj = .pool e s P') ∨ (j = i ∧ oj = .val (.c true) t n) ∨ (j ≠ i ∧ j ≠ 0 ∧ st.mem.get j = some oj) := fun {j oj} hj => by
    rcases Tb.get_put hj with ⟨rfl, rfl⟩ | ⟨hne, hj'⟩
    · exact .inl ⟨rfl, rfl⟩
    · rcases Tb.get_put hj' with ⟨rfl, rfl⟩ | ⟨hne', hj''⟩
      · exact .inr (.inl ⟨rfl, rfl⟩)
      · exact .inr (.inr ⟨hne', hne, hj''⟩)
  have feetOld : ∀ {j : Nat} {oj : SO} {k : Nat}, ((st.mem.put i (.val (.c true) t n)).put 0 (.pool e s P')).get j = some oj → foot { ρ with fz := fz' } j oj k → ∃ j' oj', st.mem.get j' = some oj' ∧ foot ρ j' oj' k ∧ (j' = j ∨ (j' = i ∧ j = 0)) := fun {j oj k} hj hk => by
    rcases old hj with ⟨rfl, rfl⟩ | ⟨rfl, rfl⟩ | ⟨_, _, hj'⟩
    · rcases fp k hk with hk | hk
      · exact ⟨0, _, hp, hk, .inl rfl⟩
      · exact ⟨i, _, hi, hk, .inr ⟨rfl, rfl⟩⟩
    · cases hk
    · rw [ft j oj hj'] at hk
      exact ⟨j, oj, hj', hk, .inl rfl⟩
  refine ⟨fz', hle, hrep, h.below, h.hni, h.hnb, h.hpc, h.hpw, fun k o hk => h.fzw k o (by rw [← hbk]; exact hk), fun b o hb => hle b o (h.fzl b o hb), fun k h1 h2 => h.fzn k (by rw [← hbk]; exact h1) h2, fun j oj hj => ?_, fun j oj k hj hk => ?_, fun j m oj om k hj hm hkj hkm => ?_, ⟨fun e2 s2 a2 hg m hm => ?_, fun hq => by rw [hpl] at hq; cases hq⟩⟩
  · rcases old hj with ⟨rfl, rfl⟩ | ⟨rfl, rfl⟩ | ⟨_, _, hj'⟩
    · refine ⟨b1, by simp only [SO.wf]; exact hPw, ?_, ?_⟩
      · simp only [GhOk]
        refine ⟨_, hP, fun j y hj => ?_⟩
        obtain ⟨V, q1, q2⟩ := hpok.1 j y hj
        exact ⟨V, q1, q2.hd1⟩
      · simp only [SO.ok, hP, Dt.list]; exact hpok
    · exact ⟨a1, by simp only [SO.wf, B.wf, hnw, Bool.and_self], fun _ => hrep, trivial⟩
    · obtain ⟨q1, q2, q3, q4⟩ := h.mem j oj hj'
      exact ⟨q1, q2, GhOk.app hρ (by rw [h.hnb]; exact q1) (by rw [h.hni, h.hnb]; exact q2) q3, SO.ok_app hρ (by rw [h.hnb]; exact q1) (by rw [h.hni, h.hnb]; exact q2) q4⟩
  · obtain ⟨j', oj', hj', hk', _⟩ := feetOld hj hk
    obtain ⟨q1, q2⟩ := h.own j' oj' k hj' hk'
    exact ⟨q1, by show fz' (.b k) = none; rw [hbk]; exact q2⟩
  · obtain ⟨j', oj', hj', hk', r1⟩ := feetOld hj hkj
    obtain ⟨m', om', hm', hkm', r2⟩ := feetOld hm hkm
    have := h.inj j' m' oj' om' k hj' hm' hk' hkm'
    subst this
    rcases r1 with rfl | ⟨r1, rfl⟩
    · rcases r2 with rfl | ⟨r2, rfl⟩
      · rfl
      · subst r2
        rcases old hj with ⟨r3, _⟩ | ⟨_, rfl⟩ | ⟨r3, _⟩
        · exact r3
        · cases hkj
        · exact absurd rfl r3
    · rcases r2 with rfl | ⟨_, rfl⟩
      · subst r1
        rcases old hm with ⟨r3, _⟩ | ⟨_, rfl⟩ | ⟨r3, _⟩
        · exact r3.symm
        · cases hkm
        · exact absurd rfl r3
      · rfl
  · rcases old hg with ⟨_, r⟩ | ⟨r, _⟩ | ⟨_, r, _⟩
    · cases r
      simp only [hP, Dt.list, List.length_append, List.length_cons, List.length_nil]
      by_cases hml : m = l.length
      · omega
      · have := hk m (by rw [← hhk m hml]; exact hm)
        omega
    · exact absurd r.symm hi0
    · exact absurd rfl r
theorem Md.hnd (h : Md ty pl G fz0 w0 ρ st w) {b e s t : Nat} {c : B} {a P : A} (hb : st.mem.get b = some (.val c t a)) (hc : c.den ρ.is = true) (ht : tdOf ty t = .hnd e s) (hp : st.mem.get 0 = some (.pool e s P)) :
    ∃ (l : List Dt) (j : Nat) (y : Dt), P.den ρ.is = .row l ∧ a.den ρ.is = .num (j : Int) ∧ l[j]? = some y ∧ ρ.fz (.h j) = some (hob (ρ.val b)) ∧ RowOk ty ρ.fz w e s y (ρ.val b) ∧ (P.mkIdx a).den ρ.is = y := by
  obtain ⟨l', hl', hpo, _⟩ := h.pool hp
  obtain ⟨l, j, y, h1, h2, h3, h4, _, h6⟩ := hnd_row (fun i o hi => ⟨(h.mem i o hi).1, (h.mem i o hi).2.1, (h.mem i o hi).2.2.1⟩) h.hkk.ok hb hc ht hp
  rw [h1] at hl'
  injection hl' with hl'
  subst hl'
  obtain ⟨V, q1, q2⟩ := hpo.1 j y h3
  rw [h4] at q1
  injection q1 with q1
  have hV := hob_inj q1
  exact ⟨l, j, y, h1, h2, h3, h4, by rw [hV]; exact q2, h6⟩
theorem Md.turn (h : Md ty pl G fz0 w0 ρ st w) (hpl : pl = true) {e s j : Nat} {P P' : A} {l : List Dt} {y : Dt} {V : Value} (hp : st.mem.get 0 = some (.pool e s P)) (hl : P.den ρ.is = .row l) (hj : j < l.length) (hV : ρ.fz (.h j) = some (hob V))
    {row : Option Nat} (hg : w.grownBy w' row) (hrow : ∀ k, row = some k → V.ownBlock = some k) (hy : RowOk ty ρ.fz w' e s y V) (hP : P'.den ρ.is = .row (l.set j y)) (hPw : P'.wf st.ni = true) :
    Md ty pl G fz0 w0 ρ { st with mem := st.mem.put 0 (.pool e s P') } w' := by
  obtain ⟨l', hl', hpo, hk⟩ := h.pool hp
  rw [hl] at hl'
  cases hl'
  have hok' := (h.mem 0 _ hp).2.2.2
  have hlen : (l.set j y).length = l.length := List.length_set
  have hdx : ∀ {i : Nat} {V' : Value}, ρ.fz (.h i) = some (hob V') → ρ.fz (.h i) ≠ none := fun h => by rw [h]; simp
  have hpok : PoolOk ty ρ.fz w' e s (l.set j y) := by
    refine ⟨fun i z hi => ?_, fun i i' V1 V2 k hi hi' => hpo.2 i i' V1 V2 k (by rw [← hlen]; exact hi) (by rw [← hlen]; exact hi')⟩
    by_cases hij : j = i
    · subst hij
      rw [List.getElem?_set_self hj] at hi
      cases hi
      exact ⟨V, hV, hy⟩
    · rw [List.getElem?_set_ne hij] at hi
      obtain ⟨V', q1, q2⟩ := hpo.1 i z hi
      refine ⟨V', q1, ?_⟩
      rcases q2 with q2 | ⟨m, b, cap, xs, g1, g2, g3, g4⟩
      · exact .inl q2
      · refine .inr ⟨m, b, cap, xs, g1, g2, ?_, g4⟩
        have hb : w'.heap[b]? = w.heap[b]? := by
          refine hg.block b ?_ fun hr => ?_
          · have := (g3.lt b (by rw [g2]; rfl)).2
            exact this
          · exact hij (hpo.2 j i V V' b hj (List.getElem?_eq_some_iff.1 hi).1 (hdV_hob hV) (hdV_hob q1) (hrow b hr.symm) (by rw [g2]; rfl))
        rw [g2] at g3 ⊢
        exact ownsRow_heap g3 hb
  refine h.upd hp hg (fun k hk => ⟨j, V, by simp only [hl, Dt.list]; exact hj, hdV_hob hV, hrow k hk⟩) (by simp only [SO.wf]; exact hPw) ?_ (by simp only [SO.ok, hP, Dt.list]; exact hpok) ?_ ?_
  · simp only [GhOk]
    refine ⟨_, hP, fun i z hi => ?_⟩
    obtain ⟨V', q1, q2⟩ := hpok.1 i z hi
    exact ⟨V', q1, q2.hd1⟩
  · rintro k ⟨i, V1, q1, q2, q3⟩
    simp only [hP, Dt.list, hlen] at q1
    exact ⟨i, V1, by simp only [hl, Dt.list]; exact q1, q2, q3⟩
  · intro e2 s2 a2 he
    cases he
    refine ⟨hpl, fun n hn => ?_⟩
    simp only [hP, Dt.list, hlen]
    exact hk n hn
theorem bind1_ok (hm : Md C.ty C.pl G fz0 w0 ρ st w) {e : E} {kk : A → St → T} (h : (bind1 st e kk).wp C.ty F ρ.is Q) : ∃ ρ' x st', ρ.le ρ' ∧ x.den ρ'.is = e.den ρ.is ∧ x.wf st'.ni = true ∧ st'.mem = st.mem ∧ st'.nb = st.nb ∧ st'.df = st.df ∧ Md C.ty C.pl G fz0 w0 ρ' st' w ∧ (kk x st').wp C.ty F ρ'.is Q := by
  unfold bind1 at h
  obtain ⟨ρ1, h1, h2, h3, h4⟩ := hm.ext0.bind e
  obtain ⟨hm', hd⟩ := bindD_ok hm h1 h
  have hgs : (st.bd.bind e).2.gs = [] := by
    unfold Bd.bind Bd.bindT
    cases e.lit <;> rfl
  have hnb : (st.bd.bind e).2.nb = st.nb := by
    unfold Bd.bind Bd.bindT
    cases e.lit <;> rfl
  exact ⟨ρ1, _, stD st (st.bd.bind e).2, h2, h3, h4, by simp only [stD, hgs, pushG], hnb, rfl, hm', hd⟩
theorem giveL_ok {kk : St → T} {R : Prop} (hk : ∀ ρ' st', ρ.le ρ' → Md C.ty C.pl G fz0 w0 ρ' st' w → st'.df = st.df → (kk st').wp C.ty F ρ'.is Q → R) :
    ∀ {l : List (Nat × TypeId)} {ρ1 : Env} {st1 : St}, ρ.le ρ1 → Md C.ty C.pl G fz0 w0 ρ1 st1 w → st1.df = st.df → (giveL C kk l st1).wp C.ty F ρ1.is Q → R
  | [], ρ1, st1, hl, hm, hd, h => hk ρ1 st1 hl hm hd h
  | p :: r, ρ1, st1, hl, hm, hd, h => by
    simp only [giveL] at h
    split at h
    · rename_i e s x e' s' P e2 s2 hb hp ht
      cases hc : (Nat.beq e e' && Nat.beq s s' && Nat.beq e e2 && Nat.beq s s2) <;> rw [hc] at h <;> simp only [cond_true, cond_false] at h
      · exact giveL_ok hk hl hm hd h
      · simp only [Bool.and_eq_true] at hc
        have e1 := beq_nat hc.1.1.1
        have e2' := beq_nat hc.1.1.2
        have e3 := beq_nat hc.1.2
        have e4 := beq_nat hc.2
        subst e1; subst e2'; subst e3; subst e4
        have hpl : C.pl = true := by
          cases hq : C.pl with
          | true => rfl
          | false => exact absurd hp ((hm.hkk.np hq).2 e s P)
        have wx := (hm.mem _ _ hb).2.1
        have wP := (hm.mem _ _ hp).2.1
        simp only [SO.wf] at wx wP
        rw [← hm.hni] at wx wP
        obtain ⟨ρ2, x2, st2, l2, d2, w2, m2, n2, f2, hm2, h⟩ := bind1_ok hm h
        have wP2 : P.wf ρ2.is.length = true := A.wf_mono l2.len_is wP
        obtain ⟨ρ3, x3, st3, l3, d3, w3, m3, n3, f3, hm3, h⟩ := bind1_ok hm2 h
        have hb3 : st3.mem.get p.1 = some (.rowd e s x) := by rw [m3, m2]; exact hb
        have hp3 : st3.mem.get 0 = some (.pool e s P) := by rw [m3, m2]; exact hp
        have l13 := Env.le_trans l2 l3
        obtain ⟨l, hl3, _⟩ := hm3.pool hp3
        have hx3 : x.den ρ3.is = x.den ρ1.is := Env.A_app l13 wx
        have hP2 : P.den ρ2.is = .row l := by rw [← hl3]; exact (Env.A_app l3 wP2).symm
        obtain ⟨fz', q1, _, q2⟩ := hm3.give hpl hb3 hp3 ht hl3 (n := P.mkLen) (P' := x3) (by rw [den_mkLen, hl3]; rfl) (wf_mkLen (by rw [← hm3.hni]; exact A.wf_mono l13.len_is wP)) (by rw [d3]; simp only [E.den, hP2, d2, hx3]; rfl) w3
        have lz : ρ3.le { ρ3 with fz := fz' } := ⟨⟨[], by simp⟩, ⟨[], by simp⟩, q1⟩
        exact giveL_ok hk (Env.le_trans (Env.le_trans hl l13) lz) q2 (by show st3.df = st.df; rw [f3, f2, hd]) h
    · exact giveL_ok hk hl hm hd h
theorem rowH_ok (hm : Md C.ty C.pl G fz0 w0 ρ st w) {b e s : Nat} {x : A} (h : rowH C st.mem st.pc b = some (e, s, x)) :
    ∃ (c : B) (t : TypeId) (aa P : A) (l : List Dt) (j : Nat), st.mem.get b = some (.val c t aa) ∧ st.mem.get 0 = some (.pool e s P) ∧ P.den ρ.is = .row l ∧ j < l.length ∧ aa.den ρ.is = .num (j : Int) ∧ aa.wf st.ni = true ∧ P.wf st.ni = true ∧ ρ.fz (.h j) = some (hob (ρ.val b)) ∧ x = P.mkIdx aa ∧ RowOk C.ty ρ.fz w e s (x.den ρ.is) (ρ.val b) := by
  unfold rowH at h
  split at h
  · rename_i c t aa e1 s1 P hb hp
    split at h
    · rename_i e' s' ht
      cases hk : (Nat.beq e1 e' && Nat.beq s1 s' && knownIs st.pc c true) <;> rw [hk] at h <;> simp only [cond_true, cond_false] at h <;> cases h
      simp only [Bool.and_eq_true] at hk
      have k1 := beq_nat hk.1.1
      have k2 := beq_nat hk.1.2
      subst k1; subst k2
      obtain ⟨l, j, y, h1, h2, h3, h4, h5, h6⟩ := hm.hnd hb (knownIs_ok hm.hpc hk.2) ht hp
      have w1 := (hm.mem b _ hb).2.1
      have w2 := (hm.mem 0 _ hp).2.1
      simp only [SO.wf, Bool.and_eq_true] at w1 w2
      exact ⟨c, t, aa, P, l, j, hb, hp, h1, (List.getElem?_eq_some_iff.1 h3).1, h2, w1.2, w2, h4, rfl, by rw [h6]; exact h5⟩
    · cases h
  · cases h
theorem loadH_ok (hty : TyOk C.P C.ty) (hg : GOk C.ty C.gl fz0) (hm : Md C.ty C.pl G fz0 w0 ρ st w) {t : TypeId} {x v : SV} {d : Bd} (hxw : x.wf st.ni st.nb = true) (h : loadH C st t x = some (v, d)) :
    ∃ ρ1, Ext C.ty ρ d ρ1 ∧ (v.ty ρ1 ∧ ∃ ad, x.den ρ = .pointer (some ad) ∧ (loadVar t ad).run C.P w = .ok (v.den ρ1) w) := by
  unfold loadH at h
  split at h
  · rename_i b s i off pth
    split at h
    · rename_i e s2 xa hrow
      obtain ⟨c, t2, aa, P, l, j, h1, h2, h3, h4, h5, h6, h7, h8, h9, h10⟩ := rowH_ok hm hrow
      obtain ⟨ρ1, g1, g2⟩ := loadV_gen (st := st) hty hg hm.ext0 hm.fzw hm.fzl (cg := .c true) rfl (fun _ => hm.hpc) hxw (fun b' off' n agg l' hx => by cases hx) (fun b' s' i' off' p' e' s3 xb hx hb => by
        cases hx
        rcases Tb.get_put hb with ⟨_, q2⟩ | ⟨q1, _⟩
        · cases q2
          exact ⟨by rw [h9]; exact wf_mkIdx h7 h6, h10⟩
        · exact absurd rfl q1) h
      exact ⟨ρ1, g1, g2 rfl⟩
    · cases h
  · cases h
end
end Go.SY
