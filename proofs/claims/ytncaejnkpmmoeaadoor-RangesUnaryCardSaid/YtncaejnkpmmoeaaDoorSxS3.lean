/- The symbolic executor SX, its soundness, part 3: pure operations. -/
import Derived.Test.YtncaejnkpmmoeaaDoorSxS2
import Derived.Laws.BitsLemmas
set_option linter.unusedVariables false
set_option linter.unusedSimpArgs false
namespace Go.SX
open Go Go.RowKit

/-! ### Numbers that are bound -/
theorem extE_app : ∀ (es : List E) (is : List Int), ∃ x, extE is es = is ++ x ∧ x.length = es.length
  | [], is => ⟨[], by simp [extE], rfl⟩
  | e :: es, is => by
    obtain ⟨x, hx, hl⟩ := extE_app es (is ++ [e.den is])
    exact ⟨e.den is :: x, by simp [extE, hx], by simp [hl]⟩
theorem extE_snoc : ∀ (es : List E) (is : List Int) (e : E), extE is (es ++ [e]) = extE is es ++ [e.den (extE is es)]
  | [], is, e => rfl
  | f :: es, is, e => by simp only [List.cons_append, extE]; exact extE_snoc es _ e
theorem E.den_lit {e : E} (h : e.lit = true) (is js : List Int) : e.den is = e.den js := by
  cases e <;> simp only [E.lit, Bool.and_eq_true] at h <;> simp only [E.den] <;> first
    | rw [A.den_lit h.1 is js, A.den_lit h.2 is js]
    | rw [A.den_lit h is js]
    | rw [B.den_lit h.1.1 is js, A.den_lit h.1.2 is js, A.den_lit h.2 is js]
theorem bind_spec {ni : Nat} {is : List Int} (hl : is.length = ni) {d : Bd} (hd : d.ni = ni + d.es.length) (e : E) :
    (d.bind e).2.ni = ni + (d.bind e).2.es.length ∧ (∃ y, extE is (d.bind e).2.es = extE is d.es ++ y) ∧ (d.bind e).1.den (extE is (d.bind e).2.es) = e.den (extE is d.es) ∧
      (d.bind e).1.wf (d.bind e).2.ni = true ∧ d.ni ≤ (d.bind e).2.ni := by
  unfold Bd.bind
  cases h : e.lit
  · simp only [cond_false]
    obtain ⟨x, hx, hxl⟩ := extE_app d.es is
    refine ⟨by simp; omega, ⟨[e.den (extE is d.es)], extE_snoc _ _ _⟩, ?_, ?_, by omega⟩
    · rw [extE_snoc]
      have hlen : (extE is d.es).length = d.ni := by rw [hx, List.length_append, hl, hxl, hd]
      simp [A.den, List.getD, ← hlen]
    · exact Nat.ble_eq.mpr (by omega : d.ni + 1 ≤ d.ni + 1)
  · simp only [cond_true]
    exact ⟨hd, ⟨[], by simp⟩, E.den_lit h _ _, rfl, Nat.le_refl _⟩

/-- What a pure operation comes to. -/
def Pure (P : Program) (o : Oper) (a : Act) (ρ : Env) (v : SV) (d : Bd) : Prop :=
  d.ni = ρ.is.length + d.es.length ∧ ∀ w, (execOp a.eval o).run P w = .ok (.value (v.den ⟨extE ρ.is d.es, ρ.bs⟩)) w
theorem extEnv_le (ρ : Env) (es : List E) : ρ.le ⟨extE ρ.is es, ρ.bs⟩ := by
  obtain ⟨x, hx, _⟩ := extE_app es ρ.is
  exact ⟨⟨x, hx⟩, ⟨[], by simp⟩⟩
theorem Pure.plain {P : Program} {o : Oper} {a : Act} {ρ : Env} {v : SV} {ni : Nat} (hn : ρ.is.length = ni) (h : ∀ w, (execOp a.eval o).run P w = .ok (.value (v.den ρ)) w) : Pure P o a ρ v ⟨ni, []⟩ :=
  ⟨by simp [hn], h⟩

variable {P : Program} {ty : Ty} {ρ : Env} {ni nb : Nat} {pc : List (B × Bool)} {tm : Tm} {a : Act} {o : Oper} {v : SV} {d : Bd}

theorem pMove_ok (hc : Cx ρ ni nb pc tm a) {x : Operand} (ho : o.op = .move x ∨ o.op = .assign x) (h : pMove ty tm ni pc x = some (v, d)) : Pure P o a ρ v d := by
  unfold pMove at h
  simp only at h
  split at h <;> cases h
  rename_i hv
  refine Pure.plain hc.hni fun w => ?_
  unfold execOp
  rcases ho with ho | ho <;> simp [ho, (hc.ev hv).1]

theorem extE_is (ρ : Env) : (⟨extE ρ.is [], ρ.bs⟩ : Env) = ρ := rfl

mutual
theorem pickV_ok {is : List Int} {bs : List (Nat × Nat)} (hl : is.length = ni) {c : B} (hcw : c.wf ni = true) : ∀ {x y : SV} {d : Bd} {v : SV} {d' : Bd}, x.wf ni nb = true → y.wf ni nb = true → bs.length = nb → d.ni = ni + d.es.length → pickV c x y d = some (v, d') →
    d'.ni = ni + d'.es.length ∧ (∃ z, extE is d'.es = extE is d.es ++ z) ∧ v.wf d'.ni nb = true ∧ d.ni ≤ d'.ni ∧ v.den ⟨extE is d'.es, bs⟩ = if c.den is = true then x.den ⟨is, bs⟩ else y.den ⟨is, bs⟩ := by
  intro x y d v d' hx hy hb hd h
  obtain ⟨z, hz, hzl⟩ := extE_app d.es is
  have hlen : (extE is d.es).length = d.ni := by rw [hz, List.length_append, hl, hzl, hd]
  cases x with
  | int k x =>
    cases y with
    | int k' y =>
      simp only [pickV] at h
      cases hk : kindEq k k'
      · rw [hk] at h; cases h
      · rw [hk] at h
        simp only [cond_true] at h
        cases kindEq_eq hk
        cases hxy : x.beq y
        · rw [hxy] at h
          simp only [cond_false] at h
          cases h
          obtain ⟨h1, h2, h3, h4, h5⟩ := bind_spec (is := is) hl hd (.sel c x y)
          refine ⟨h1, h2, by simpa [SV.wf] using h4, h5, ?_⟩
          simp only [SV.den, h3, E.den]
          have hx' : x.den (extE is d.es) = x.den is := by rw [hz, A.den_app (by simpa [SV.wf, hl] using hx)]
          have hy' : y.den (extE is d.es) = y.den is := by rw [hz, A.den_app (by simpa [SV.wf, hl] using hy)]
          have hc' : c.den (extE is d.es) = c.den is := by rw [hz, B.den_app (by rw [hl]; exact hcw)]
          rw [hx', hy', hc']
          split <;> rfl
        · rw [hxy] at h
          simp only [cond_true] at h
          cases h
          cases A.beq_eq hxy
          refine ⟨hd, ⟨[], by simp⟩, SV.wf_mono (by omega) (Nat.le_refl _) hx, Nat.le_refl _, ?_⟩
          have hx' : x.den (extE is d.es) = x.den is := by rw [hz, A.den_app (by simpa [SV.wf, hl] using hx)]
          simp only [SV.den, hx']
          split <;> rfl
    | _ => simp [pickV] at h
  | bool x =>
    cases y with
    | bool y =>
      simp only [pickV] at h
      cases h
      have hx' : x.den (extE is d.es) = x.den is := by rw [hz, B.den_app (by simpa [SV.wf, hl] using hx)]
      have hy' : y.den (extE is d.es) = y.den is := by rw [hz, B.den_app (by simpa [SV.wf, hl] using hy)]
      have hc' : c.den (extE is d.es) = c.den is := by rw [hz, B.den_app (by rw [hl]; exact hcw)]
      refine ⟨hd, ⟨[], by simp⟩, ?_, Nat.le_refl _, ?_⟩
      · have wAnd : ∀ {p q : B}, p.wf d.ni = true → q.wf d.ni = true → (p.mkAnd q).wf d.ni = true := by
          intro p q hp hq
          unfold B.mkAnd
          split <;> (try simp_all [B.wf])
          cases p.lit <;> simp_all [B.wf]
        have wOr : ∀ {p q : B}, p.wf d.ni = true → q.wf d.ni = true → (p.mkOr q).wf d.ni = true := by
          intro p q hp hq
          unfold B.mkOr
          split <;> simp_all [B.wf]
        have wNot : ∀ {p : B}, p.wf d.ni = true → p.mkNot.wf d.ni = true := by
          intro p hp
          cases p <;> simp_all [B.mkNot, B.wf]
        have c' := B.wf_mono (show ni ≤ d.ni by omega) hcw
        have x' := B.wf_mono (show ni ≤ d.ni by omega) (by simpa [SV.wf] using hx : x.wf ni = true)
        have y' := B.wf_mono (show ni ≤ d.ni by omega) (by simpa [SV.wf] using hy : y.wf ni = true)
        simp only [SV.wf]
        exact wOr (wAnd c' x') (wAnd (wNot c') y')
      · simp only [SV.den, B.den_mkOr, B.den_mkAnd, B.den_mkNot, hx', hy', hc']
        cases c.den is <;> simp
    | _ => simp [pickV] at h
  | agg xs =>
    cases y with
    | agg ys =>
      simp only [pickV] at h
      split at h
      · rename_i l d1 hp
        cases h
        simp only [SV.wf, Bool.and_eq_true] at hx hy
        obtain ⟨h1, h2, h3, h4, h5, h6⟩ := pickVs_ok hl hcw hx.1 hy.1 hb hd hp
        refine ⟨h1, h2, ?_, h4, ?_⟩
        · simp only [SV.wf, h3, Bool.true_and]; exact h6 hx.2 hy.2
        · simp only [SV.den, h5]; split <;> rfl
      · cases h
    | _ => simp [pickV] at h
  | _ => cases y <;> simp [pickV] at h
theorem pickVs_ok {is : List Int} {bs : List (Nat × Nat)} (hl : is.length = ni) {c : B} (hcw : c.wf ni = true) : ∀ {xs ys : List SV} {d : Bd} {l : List SV} {d' : Bd}, SV.wfs ni nb xs = true → SV.wfs ni nb ys = true → bs.length = nb → d.ni = ni + d.es.length → pickVs c xs ys d = some (l, d') →
    d'.ni = ni + d'.es.length ∧ (∃ z, extE is d'.es = extE is d.es ++ z) ∧ SV.wfs d'.ni nb l = true ∧ d.ni ≤ d'.ni ∧ SV.dens ⟨extE is d'.es, bs⟩ l = (if c.den is = true then SV.dens ⟨is, bs⟩ xs else SV.dens ⟨is, bs⟩ ys) ∧ (allCell xs = true → allCell ys = true → allCell l = true) := by
  intro xs ys d l d' hx hy hb hd h
  cases xs with
  | nil =>
    cases ys with
    | nil =>
      simp only [pickVs] at h
      cases h
      exact ⟨hd, ⟨[], by simp⟩, rfl, Nat.le_refl _, by simp [SV.dens], fun _ _ => rfl⟩
    | cons _ _ => simp [pickVs] at h
  | cons x xs =>
    cases ys with
    | nil => simp [pickVs] at h
    | cons y ys =>
      simp only [pickVs] at h
      split at h
      · rename_i v d1 hp
        split at h
        · rename_i l1 d2 hq
          cases h
          simp only [SV.wfs, Bool.and_eq_true] at hx hy
          obtain ⟨h1, ⟨z1, h2⟩, h3, h4, h5⟩ := pickV_ok hl hcw hx.1 hy.1 hb hd hp
          obtain ⟨g1, ⟨z2, g2⟩, g3, g4, g5, g6⟩ := pickVs_ok hl hcw hx.2 hy.2 hb h1 hq
          refine ⟨g1, ⟨z1 ++ z2, by rw [g2, h2, List.append_assoc]⟩, ?_, by omega, ?_, ?_⟩
          · simp only [SV.wfs, g3, Bool.and_true]
            exact SV.wf_mono g4 (Nat.le_refl _) h3
          · obtain ⟨u, hu, hul⟩ := extE_app d1.es is
            have hlen : (extE is d1.es).length = d1.ni := by rw [hu, List.length_append, hl, hul, h1]
            have : v.den ⟨extE is d'.es, bs⟩ = v.den ⟨extE is d1.es, bs⟩ := SV.den_app (ρ := ⟨extE is d1.es, bs⟩) (ρ' := ⟨extE is d'.es, bs⟩) ⟨⟨z2, g2⟩, ⟨[], by simp⟩⟩ (by
              show v.wf (extE is d1.es).length bs.length = true
              rw [hlen, hb]; exact h3)
            simp only [SV.dens, this, h5, g5]
            split <;> rfl
          · intro ha hb'
            simp only [allCell, Bool.and_eq_true] at ha hb' ⊢
            refine ⟨?_, g6 ha.2 hb'.2⟩
            have : v.cell = true ∨ ∃ l, v = .agg l := by
              cases x <;> cases y <;> simp only [pickV] at hp <;> (try cases hp) <;> first
                | (left; rfl)
                | (split at hp <;> cases hp; right; exact ⟨_, rfl⟩)
                | skip
              rename_i k1 a1 k2 a2
              left
              cases hk : kindEq k1 k2
              · rw [hk] at hp; cases hp
              · rw [hk] at hp
                cases hh : a1.beq a2 <;> rw [hh] at hp <;> simp only [cond_true, cond_false] at hp <;> cases hp <;> rfl
            rcases this with h | ⟨l, rfl⟩
            · exact h
            · exfalso
              cases x <;> cases y <;> simp only [pickV] at hp <;> (try cases hp)
              · rename_i k1 a1 k2 a2
                cases hk : kindEq k1 k2
                · rw [hk] at hp; cases hp
                · rw [hk] at hp
                  cases hh : a1.beq a2 <;> rw [hh] at hp <;> simp only [cond_true, cond_false] at hp <;> cases hp
              · cases ha.1
        · cases h
      · cases h
end

theorem den_pickB (is : List Int) (c x y : B) : (pickB c x y).den is = if c.den is = true then x.den is else y.den is := by
  unfold pickB
  split <;> simp only [B.den_mkOr, B.den_mkAnd, B.den_mkNot, B.den] <;> cases c.den is <;> simp

theorem pPick_ok (hc : Cx ρ ni nb pc tm a) {c x y : Operand} (ho : o.op = .pick c x y) (h : pPick ty tm ni pc c x y = some (v, d)) : Pure P o a ρ v d := by
  unfold pPick at h
  simp only at h
  split at h
  · rename_i hcv
    split at h <;> cases h
    rename_i hx
    refine Pure.plain hc.hni fun w => ?_
    unfold execOp
    simp [ho, (hc.ev hcv).1, SV.den, B.den, asBool, (hc.ev hx).1]
  · rename_i hcv
    split at h <;> cases h
    rename_i hx
    refine Pure.plain hc.hni fun w => ?_
    unfold execOp
    simp [ho, (hc.ev hcv).1, SV.den, B.den, asBool, (hc.ev hx).1]
  · rename_i cb _ _ hcv
    split at h
    · rename_i vx vy hx hy
      obtain ⟨ec, wc⟩ := hc.ev hcv
      obtain ⟨ex, wx⟩ := hc.ev hx
      obtain ⟨ey, wy⟩ := hc.ev hy
      simp only [SV.wf] at wc
      -- what is known in either case
      have hX : cb.den ρ.is = true → (vx.under (cb.facts true ++ pc)).den ρ = vx.den ρ := fun ht => SV.den_under (PcOk.append (B.facts_ok _ _ _ ht) hc.hpc) vx
      have hY : cb.den ρ.is = false → (vy.under (cb.facts false ++ pc)).den ρ = vy.den ρ := fun ht => SV.den_under (PcOk.append (B.facts_ok _ _ _ ht) hc.hpc) vy
      have run : ∀ w, (execOp a.eval o).run P w = .ok (.value (if cb.den ρ.is = true then vx.den ρ else vy.den ρ)) w := by
        intro w
        unfold execOp
        simp [ho, ec, ex, ey, SV.den, asBool]
      split at h
      · rename_i bx bY hbx hby
        cases h
        refine Pure.plain hc.hni fun w => ?_
        rw [run w]
        simp only [SV.den, den_pickB]
        cases hcd : cb.den ρ.is
        · simp only [Bool.false_eq_true, if_false]; rw [← hY hcd, hby]; rfl
        · simp only [if_true]; rw [← hX hcd, hbx]; rfl
      · have wx' := SV.wf_under (pc := cb.facts true ++ pc) wx
        have wy' := SV.wf_under (pc := cb.facts false ++ pc) wy
        obtain ⟨h1, h2, h3, h4, h5⟩ := pickV_ok (is := ρ.is) (bs := ρ.bs) hc.hni wc wx' wy' hc.hnb (d := ⟨ni, []⟩) (by simp) h
        refine ⟨by rw [hc.hni]; exact h1, fun w => ?_⟩
        rw [run w, h5]
        cases hcd : cb.den ρ.is
        · simp only [Bool.false_eq_true, if_false]; rw [← hY hcd]
        · simp only [if_true]; rw [← hX hcd]
    · cases h
  · cases h

end Go.SX
