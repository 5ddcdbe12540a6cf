/- The symbolic executor SX, its soundness, part 8: trees; loads and stores. -/
import Derived.Test.YtncaejnkpmmoeaaDoorSxS7
set_option linter.unusedVariables false
set_option linter.unusedSimpArgs false
namespace Go.SX
open Go Go.RowKit

variable {F : Nat → List Int → Option (List Int)} {K : Nat} {r : Nat × List Int}
variable {C : Cfg} {w0 w w' : World} {ρ ρ' : Env} {st : St} {tm : Tm} {a : Act}

theorem den_lts : ∀ (es : List E) (t : T) (is : List Int), (T.lts es t).den F K is = t.den F K (extE is es)
  | [], t, is => rfl
  | e :: es, t, is => by simp only [T.lts, T.den, extE]; exact den_lts es t _
theorem den_fail {n : Nat} {is : List Int} (h : (T.fail n).den F K is = some r) : False := by simp [T.den] at h
theorem bindEs_ok {d : Bd} {k : St → T} (h : (bindEs st d k).den F K ρ.is = some r) : (k { st with ni := d.ni }).den F K (extE ρ.is d.es) = some r ∧ d.ni = st.ni + d.es.length := by
  unfold bindEs at h
  cases hw : (wfEs st.ni d.es && Nat.beq d.ni (st.ni + d.es.length)) <;> rw [hw] at h <;> simp only [cond_true, cond_false] at h
  · exact (den_fail h).elim
  · rw [den_lts] at h
    simp only [Bool.and_eq_true] at hw
    exact ⟨h, beq_nat hw.2⟩
theorem condB_ok {c : B} {k : Bool → St → T} (hm : Md C w0 ρ st w) (h : (condB c st k).den F K ρ.is = some r) : ∃ b p, c.den ρ.is = b ∧ Md C w0 ρ { st with pc := p } w ∧ (k b { st with pc := p }).den F K ρ.is = some r := by
  unfold condB at h
  split at h
  · rename_i b hb
    exact ⟨b, st.pc, B.known_ok hm.hpc hb, hm, h⟩
  · cases hw : c.wf st.ni <;> rw [hw] at h <;> simp only [cond_true, cond_false] at h
    · exact (den_fail h).elim
    · simp only [T.den] at h
      cases hc : c.den ρ.is
      · rw [hc] at h
        simp only [Bool.false_eq_true, if_false] at h
        exact ⟨false, _, rfl, hm.assume hw hc, h⟩
      · rw [hc] at h
        simp only [if_true] at h
        exact ⟨true, _, rfl, hm.assume hw hc, h⟩
theorem putT_ok {d : Option Tmp} {v : SV} {k : Tm → St → T} (ht : TmOk ρ st.ni st.nb tm a) (h : (putT tm d v st k).den F K ρ.is = some r) {x : Value} (hx : x = v.den ρ) :
    ∃ tm', TmOk ρ st.ni st.nb tm' (a.put d x) ∧ (k tm' st).den F K ρ.is = some r := by
  unfold putT at h
  split at h
  · exact ⟨tm, ht, h⟩
  · rename_i t
    split at h
    · rename_i u hu
      cases hw : v.wf st.ni st.nb <;> rw [hw] at h <;> simp only [cond_true, cond_false] at h
      · exact (den_fail h).elim
      · exact ⟨_, ht.put hu (.inr hw) (.inr hx), h⟩
    · exact (den_fail h).elim
theorem Md.cx (hm : Md C w0 ρ st w) (ht : TmOk ρ st.ni st.nb tm a) : Cx ρ st.ni st.nb st.pc tm a := ⟨hm.hni, hm.hnb, hm.hpc, ht⟩
theorem Md.tmok {st' : St} (hm : Md C w0 ρ st w) (hm' : Md C w0 ρ' st' w') (hl : ρ.le ρ') (ht : TmOk ρ st.ni st.nb tm a) : TmOk ρ' st'.ni st'.nb tm a := by
  rw [← hm.hni, ← hm.hnb] at ht
  have := ht.app hl
  rw [hm'.hni, hm'.hnb] at this
  exact this

/-! ### Loads -/
theorem rdMem_ok (hm : Md C w0 ρ st w) {b off n : Nat} {l : List SV} (h : rdMem st.mem b off n = some l) :
    l.length = n ∧ SV.wfs st.ni st.nb l = true ∧ allCell l = true ∧ ∀ (j : Nat) v, l[j]? = some v → w.cell? ⟨ρ.b b, off + j, none⟩ = some (v.den ρ) := by
  have seg : ∀ (c : List SV), takeN n (dropN off c) = some l → SV.wfs st.ni st.nb c = true → allCell c = true → l.length = n ∧ SV.wfs st.ni st.nb l = true ∧ allCell l = true ∧ ∀ (j : Nat) v, l[j]? = some v → c[off + j]? = some v := by
    intro c hc hw ha
    rw [dropN_eq] at hc
    obtain ⟨h1, rfl⟩ := takeN_eq _ _ _ hc
    refine ⟨by simp at h1 ⊢; omega, wfs_of_mem fun v hv => wfs_mem hw v (List.mem_of_mem_drop (List.mem_of_mem_take hv)), allCell_of_mem fun v hv => allCell_mem ha v (List.mem_of_mem_drop (List.mem_of_mem_take hv)), fun j v hj => ?_⟩
    rw [List.getElem?_take] at hj
    split at hj
    · rwa [List.getElem?_drop] at hj
    · cases hj
  unfold rdMem at h
  split at h
  · rename_i c e hb
    obtain ⟨_, h2, h3⟩ := hm.mem b _ hb
    have hok := (h3 rfl).2
    simp only [SO.wf, Bool.and_eq_true] at h2
    obtain ⟨q1, q2, q3, q4⟩ := seg c h h2.1 h2.2
    refine ⟨q1, q2, q3, fun j v hj => ?_⟩
    simp only [SO.ok] at hok
    simp only [World.cell?, hok, Option.isSome_none, Bool.false_eq_true, if_false, List.getElem?_toArray, dens_getElem?, q4 j v hj, Option.map_some]
  · rename_i c e s m hb
    obtain ⟨_, h2, h3⟩ := hm.mem b _ hb
    have hok := (h3 rfl).2
    simp only [SO.wf, Bool.and_eq_true] at h2
    obtain ⟨q1, q2, q3, q4⟩ := seg c h h2.1 h2.2
    refine ⟨q1, q2, q3, fun j v hj => ?_⟩
    have := hok.cells (g := ρ.b b) rfl (off + j) (v.den ρ) (by rw [dens_getElem?, q4 j v hj]; rfl)
    rwa [add_plain, Nat.zero_add] at this
  · cases h

theorem loadV_ok (hty : TyOk C.P C.ty) (hg : GOk C w0) (hm : Md C w0 ρ st w) {t : TypeId} {x v : SV} (h : loadV C st.mem t x = some v) :
    ∃ ad, x.den ρ = .pointer (some ad) ∧ (loadVar t ad).run C.P w = .ok (v.den ρ) w := by
  unfold loadV at h
  split at h
  · rename_i e he
    obtain ⟨dd, i, hu, hi, hmt, hs, _, _⟩ := hty.info he
    -- the cells
    have fin : ∀ (B off : Nat) (l : List SV), l.length = (if e.d.agg = true then e.size else 1) → (∀ (j : Nat) v, l[j]? = some v → w.cell? ⟨B, off + j, none⟩ = some (v.den ρ)) → (bif e.d.agg then some (.agg l) else match l with
      | [v] => some v
      | _ => none) = some v → (loadVar t ⟨B, off, none⟩).run C.P w = .ok (v.den ρ) w := by
      intro B off l hl hc hv
      simp only [loadVar, Sem.run_bind, run_agg hu hmt, Result.andThen_ok]
      cases ha : e.d.agg
      · rw [ha] at hv hl
        simp only [cond_false] at hv
        split at hv
        · cases hv
          have := hc 0 v rfl
          simp only [Bool.false_eq_true, if_false, run_load]
          rw [Nat.add_zero] at this
          rw [this]
        · cases hv
      · rw [ha] at hv hl
        simp only [cond_true] at hv
        cases hv
        simp only [if_true] at hl
        have := run_loadCells_list (P := C.P) w ⟨B, off, none⟩ (SV.dens ρ l) (fun j u hj => by
          rw [dens_getElem?] at hj
          cases hlj : l[j]? with
          | none => rw [hlj] at hj; cases hj
          | some y =>
            rw [hlj] at hj
            cases hj
            rw [add_plain]; exact hc j y hlj)
        rw [dens_length, hl] at this
        simp only [if_true, Sem.run_bind, run_size hi, Result.andThen_ok, hs, this, Sem.run_pure]
        rfl
    split at h
    · cases h
    · rename_i l hl
      split at hl
      · rename_i b off
        obtain ⟨h1, _, _, h2⟩ := rdMem_ok hm hl
        refine ⟨_, rfl, fin _ off l ?_ h2 h⟩
        rw [h1]; cases e.d.agg <;> rfl
      · rename_i g off
        refine ⟨_, rfl, fin g off l ?_ (fun j v hj => ?_) h⟩
        · have : ∀ (gl : List (Nat × List SV)) (n : Nat), rdGl gl g off n = some l → l.length = n := by
            intro gl
            induction gl with
            | nil => intro n h; cases h
            | cons x xs ih =>
              intro n h
              obtain ⟨hh, c⟩ := x
              simp only [rdGl] at h
              cases hb : Nat.beq hh g <;> rw [hb] at h <;> simp only [cond_true, cond_false] at h
              · exact ih n h
              · rw [dropN_eq] at h
                obtain ⟨h1, rfl⟩ := takeN_eq _ _ _ h
                simp at h1 ⊢; omega
          rw [this _ _ hl]; cases e.d.agg <;> rfl
        · obtain ⟨g1, g2, g3⟩ := hg g off _ l hl j v hj
          have hlt := World.block_lt_of_cell? (w := w0) (a := ⟨g, off + j, none⟩) g3
          rw [hm.below.cell hlt, g3]
          have hle : (⟨[], []⟩ : Env).le ρ := ⟨⟨ρ.is, rfl⟩, ⟨ρ.bs, rfl⟩⟩
          rw [SV.den_app hle g1]
      · cases hl
  · cases h

/-! ### Stores -/
theorem list_put {l ys r : List SV} {n : Nat} (h : putN l n ys = some r) (ρ : Env) : SV.dens ρ r = (SV.dens ρ l).take n ++ SV.dens ρ ys ++ (SV.dens ρ l).drop (n + ys.length) := by
  obtain ⟨h1, h2, h3⟩ := putN_spec _ _ _ _ h
  apply List.ext_getElem?
  intro j
  rw [dens_getElem?, h3 j]
  have hlen : (List.take n (SV.dens ρ l)).length = n := by simp [dens_length]; omega
  by_cases hj : j < n
  · rw [if_neg (by omega), List.append_assoc, List.getElem?_append_left (by omega), List.getElem?_take, if_pos hj, dens_getElem?]
  · by_cases hj2 : j < n + ys.length
    · rw [if_pos ⟨by omega, hj2⟩, List.append_assoc, List.getElem?_append_right (by omega), hlen, List.getElem?_append_left (by rw [dens_length]; omega), dens_getElem?]
    · rw [if_neg (by omega), List.getElem?_append_right (by simp [dens_length]; omega), List.getElem?_drop, dens_getElem?]
      congr 2
      simp [dens_length]; omega
theorem putN_mem {α : Type} {l ys r : List α} {n : Nat} (h : putN l n ys = some r) : ∀ v ∈ r, v ∈ ys ∨ v ∈ l := by
  obtain ⟨h1, h2, h3⟩ := putN_spec _ _ _ _ h
  intro v hv
  obtain ⟨j, hj⟩ := List.getElem?_of_mem hv
  rw [h3 j] at hj
  split at hj
  · exact .inl (List.mem_of_getElem? hj)
  · exact .inr (List.mem_of_getElem? hj)

theorem wrMem_ok (hm : Md C w0 ρ st w) {b off : Nat} {vs : List SV} {mem : Tb SO} (h : wrMem st.mem b off vs = some mem) (hw : SV.wfs st.ni st.nb vs = true) (hc : allCell vs = true) :
    ∃ w', (storeCells ⟨ρ.b b, off, none⟩ (SV.dens ρ vs) 0).run C.P w = .ok () w' ∧ Md C w0 ρ { st with mem := mem } w' := by
  have h1 : ∀ v ∈ SV.dens ρ vs, v.oneCell' = true := by
    intro v hv
    obtain ⟨j, hj⟩ := List.getElem?_of_mem hv
    rw [dens_getElem?] at hj
    cases hx : vs[j]? with
    | none => rw [hx] at hj; cases hj
    | some u =>
      rw [hx] at hj; cases hj
      exact SV.oneCell_of_cell (allCell_mem hc u (List.mem_of_getElem? hx)) ρ
  have wf' : ∀ {c c' : List SV}, putN c off vs = some c' → SV.wfs st.ni st.nb c = true → allCell c = true → SV.wfs st.ni st.nb c' = true ∧ allCell c' = true := by
    intro c c' hp hwc hac
    refine ⟨wfs_of_mem fun v hv => ?_, allCell_of_mem fun v hv => ?_⟩
    · exact (putN_mem hp v hv).elim (wfs_mem hw v) (wfs_mem hwc v)
    · exact (putN_mem hp v hv).elim (allCell_mem hc v) (allCell_mem hac v)
  unfold wrMem at h
  split at h
  · rename_i c e hb
    obtain ⟨_, h2, h3⟩ := hm.mem b _ hb
    have hok := (h3 rfl).2
    simp only [SO.wf, Bool.and_eq_true] at h2
    simp only [SO.ok] at hok
    split at h <;> cases h
    rename_i c' hp
    obtain ⟨q1, q2, q3⟩ := putN_spec _ _ _ _ hp
    have hst := run_storeCells_at C.P (ρ.b b) off e (SV.dens ρ vs) 0 (SV.dens ρ c).toArray w hok (by simp [dens_length]; omega) h1
    refine ⟨_, hst, ?_⟩
    refine hm.upd hb rfl (o' := .cells c' e) (by simp only [SO.wf, Bool.and_eq_true]; exact wf' hp h2.1 h2.2) rfl rfl rfl (by simp [World.setRow]) (fun k hk => setRow_other w _ k _ hk) (fun _ => ?_)
    simp only [SO.ok]
    rw [setRow_heap w _ _ _ e _ hok]
    congr 3
    rw [list_put hp ρ]
    simp [dens_length]
  · rename_i c e s n hb
    obtain ⟨_, h2, h3⟩ := hm.mem b _ hb
    have hok := (h3 rfl).2
    simp only [SO.wf, Bool.and_eq_true] at h2
    split at h <;> cases h
    rename_i c' hp
    obtain ⟨q1, q2, q3⟩ := putN_spec _ _ _ _ hp
    obtain ⟨o1, o2⟩ := hok
    rcases o2 with ⟨h0, _⟩ | ⟨g, cap, cur, hg, hgb, hcur, hnc, hcm, hcs, htake⟩
    · cases h0
    · have e1 : ρ.b b = g ∧ ρ.cap b = cap := by injection hg with hg1 hg2 hg3; injection hg1 with hg1; injection hg1 with hg1; exact ⟨hg1, hg3⟩
      obtain ⟨e1, e2⟩ := e1
      rw [dens_length] at o1
      have hfit : c.length ≤ cur.size := by rw [o1, hcs]; exact Nat.mul_le_mul_right _ hnc
      have hst := run_storeCells_at C.P (ρ.b b) off e (SV.dens ρ vs) 0 cur w (by rw [e1]; exact hcur) (by simp [dens_length]; omega) h1
      refine ⟨_, hst, ?_⟩
      refine hm.upd hb rfl (o' := .row c' e s n) (by simp only [SO.wf, Bool.and_eq_true]; exact wf' hp h2.1 h2.2) rfl rfl rfl (by simp [World.setRow]) (fun k hk => setRow_other w _ k _ hk) (fun _ => ?_)
      refine ⟨by rw [dens_length, q1, o1], .inr ⟨g, cap, _, hg, hgb, by rw [e1]; exact setRow_heap w g cur _ e _ hcur, hnc, hcm, ?_, ?_⟩⟩
      · simp only [List.size_toArray, List.length_append, List.length_take, List.length_drop, Array.length_toList, dens_length, Nat.add_zero]
        omega
      · simp only [Nat.add_zero]
        rw [list_put hp ρ, ← htake]
        apply List.ext_getElem?
        intro j
        rw [← o1]
        simp only [List.getElem?_take, List.getElem?_append, List.length_append, List.length_take, dens_length, List.getElem?_drop, Array.length_toList]
        by_cases hj : j < c.length
        · rw [if_pos hj]
          have m1 : min off cur.size = off := by omega
          have m2 : min off (min c.length cur.size) = off := by omega
          simp only [m1, m2]
          split
          · split <;> first | rfl | rw [if_pos hj]
          · rw [if_pos (by omega)]
        · rw [if_neg hj]
          have m2 : min off (min c.length cur.size) = off := by omega
          simp only [m2]
          rw [if_neg (by omega), if_neg (by omega)]
  · cases h

theorem storeV_ok (hty : TyOk C.P C.ty) (hm : Md C w0 ρ st w) {t : TypeId} {x v : SV} {mem : Tb SO} (h : storeV C st.mem t x v = some mem) (hw : v.wf st.ni st.nb = true) :
    ∃ ad w', x.den ρ = .pointer (some ad) ∧ (storeVar t ad (v.den ρ)).run C.P w = .ok () w' ∧ Md C w0 ρ { st with mem := mem } w' := by
  unfold storeV at h
  split at h
  · rename_i b off vs n hvs hn
    cases hl : Nat.beq vs.length n <;> rw [hl] at h <;> simp only [cond_true, cond_false] at h
    · cases h
    · obtain ⟨q1, q2⟩ := cellsOf_wf hvs hw
      obtain ⟨w', hr, hm'⟩ := wrMem_ok hm h q1 q2
      refine ⟨_, w', rfl, ?_, hm'⟩
      unfold sizeT at hn
      split at hn
      · rename_i e he
        cases hn
        obtain ⟨dd, i, hu, hi, hmt, hs, _, _⟩ := hty.info he
        have hcs := cellsOf_spec hvs ρ
        have : ¬ (v.den ρ).cells.size ≠ i.size := by rw [hcs, hs]; simp [dens_length, beq_nat hl]
        simp only [storeVar, Sem.run_bind, run_size hi, Result.andThen_ok, if_neg this, Sem.run_ite]
        rw [hcs]; exact hr
      · cases hn
  · cases h

end Go.SX
