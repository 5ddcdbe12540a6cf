/- The symbolic executor SY, its soundness, part 9: structs put together, slices cut, built-in functions; all pure operations. -/
import Derived.Test.YtolebnomgllgaaaGreatDoorSyS8
set_option linter.unusedVariables false
set_option linter.unusedSimpArgs false
namespace Go.SY
open Go Go.RowKit
noncomputable section
variable {P : Program} {ty : Ty} {pl : Bool} {ρ ρ1 ρ2 : Env} {p : Pu} {a : Act} {o : Oper} {v : SV} {d d' : Bd}
theorem foldl_put : ∀ (vs : List Value) (k off : Nat) (cs : Array Value),
    ((vs.zipIdx k).foldl (fun cs x => cs.setIfInBounds (off + x.2) x.1) cs).size = cs.size ∧
    ∀ i, ((vs.zipIdx k).foldl (fun cs x => cs.setIfInBounds (off + x.2) x.1) cs)[i]? = if off + k ≤ i ∧ i < off + k + vs.length ∧ i < cs.size then vs[i - (off + k)]? else cs[i]?
  | [], k, off, cs => by
    refine ⟨rfl, fun i => ?_⟩
    rw [if_neg (by simp; omega)]; rfl
  | v :: vs, k, off, cs => by
    simp only [List.zipIdx_cons, List.foldl_cons]
    obtain ⟨h1, h2⟩ := foldl_put vs (k + 1) off (cs.setIfInBounds (off + k) v)
    refine ⟨by rw [h1]; simp, fun i => ?_⟩
    rw [h2 i]
    simp only [Array.size_setIfInBounds, List.length_cons, Array.getElem?_setIfInBounds]
    by_cases hi : off + (k + 1) ≤ i ∧ i < off + (k + 1) + vs.length ∧ i < cs.size
    · rw [if_pos hi, if_pos (by omega), show i - (off + k) = (i - (off + (k + 1))) + 1 from by omega, List.getElem?_cons_succ]
    · rw [if_neg hi]
      by_cases he : off + k = i
      · subst he
        rw [if_pos rfl]
        by_cases hs : off + k < cs.size
        · rw [if_pos hs, if_pos (by omega)]; simp
        · rw [if_neg hs, if_neg (by omega), Array.getElem?_eq_none (by omega)]
      · rw [if_neg he]
        rw [if_neg (by omega)]
theorem fill_ok {place place' : Nat → Option (Nat × Nat)} (hp : ∀ i p, place i = some p → place' i = some p) (ρ : Env) : ∀ (ps : List (Nat × SV)) {cs r : List SV}, fillL place cs ps = some r →
    Instr.fill place' (SV.dens ρ cs).toArray (ps.map fun p => (p.1, p.2.den ρ)) = some (SV.dens ρ r).toArray
  | [], cs, r, h => by simp only [fillL] at h; cases h; rfl
  | (i, v) :: ps, cs, r, h => by
    simp only [fillL] at h
    split at h
    · rename_i off size vs hpl hvs
      cases hl : Nat.beq vs.length size
      · rw [hl] at h; cases h
      · rw [hl] at h
        simp only [cond_true] at h
        split at h
        · rename_i c hc
          have hcells := cellsOf_spec hvs ρ
          have hlen := beq_nat hl
          obtain ⟨p1, p2, p3⟩ := putN_spec _ _ _ _ hc
          simp only [List.map_cons, Instr.fill, hp _ _ hpl, hcells, List.size_toArray, dens_length, hlen]
          rw [hlen] at p2
          have hfit : ((size != size) || decide (off + size > cs.length)) = false := by simp; omega
          have ih := fill_ok hp ρ ps h
          have e : (SV.dens ρ vs).toArray.zipIdx.foldl (fun cs x => cs.setIfInBounds (off + x.2) x.1) (SV.dens ρ cs).toArray = (SV.dens ρ c).toArray := by
            obtain ⟨f1, f2⟩ := foldl_put (SV.dens ρ vs) 0 off (SV.dens ρ cs).toArray
            rw [← Array.foldl_toList, Array.toList_zipIdx]
            apply Array.ext_getElem?
            intro i
            rw [f2 i]
            simp only [List.getElem?_toArray, dens_getElem?, p3, Nat.add_zero, List.size_toArray, dens_length, hlen]
            by_cases hi : off ≤ i ∧ i < off + size
            · rw [if_pos ⟨hi.1, hi.2, by omega⟩, if_pos hi]
            · rw [if_neg (fun h => hi ⟨h.1, h.2.1⟩), if_neg hi]
          rw [if_neg (by simpa using hfit)]
          have e' : (Array.foldl (fun cs x => match x with | (c, j) => cs.setIfInBounds (off + j) c) (SV.dens ρ cs).toArray (SV.dens ρ vs).toArray.zipIdx) = (SV.dens ρ c).toArray := e
          rw [e']
          exact ih
        · cases h
    · cases h
theorem unF_pl : ∀ (fs : List (Nat × Nat × Nat)), (unF fs).map (fun f => (f.2.1, f.2.2)) = fs.map fun f => (f.2.1, f.2.2)
  | [] => rfl
  | f :: fs => by simp [unF, unF_pl fs]
theorem fieldsTD_places {P : Program} : ∀ {gs : List Field} {fs : List (Nat × Nat × Nat)}, fieldsTD P gs = some fs → gs.mapM (fun f => (P.info? f.type).map fun i => (f.offset, i.size)) = some (fs.map fun f => (f.2.1, f.2.2))
  | [], fs, h => by simp only [fieldsTD] at h; cases h; rfl
  | g :: gs, fs, h => by
    simp only [fieldsTD] at h
    split at h
    · cases h
    · rename_i j hj
      split at h
      · cases h
      · rename_i r hr
        cases h
        simp [List.mapM_cons, hj, fieldsTD_places hr]
theorem ofVals_den {l : List Value} {r : List SV} (h : ofVals l = some r) (ρ : Env) : (SV.dens ρ r).toArray = l.toArray := by rw [(ofVals_spec h ρ 0 0).1]
theorem buildV_ok (hty : TyOk P ty) {t : TypeId} {ps : List (Nat × SV)} {v : SV} (h : buildV ty t ps = some v) (ρ : Env) (parts : Array (Nat × Value)) (hp : parts.toList = ps.map fun p => (p.1, p.2.den ρ)) (w : World) :
    (Instr.build t parts).run P w = .ok (v.den ρ) w := by
  unfold buildV at h
  split at h
  · cases h
  · rename_i e he
    split at h
    · rename_i z fs b hz1 hd
      obtain ⟨dd, i, hu, hi, hm, hs, _, hz⟩ := hty.info he (hty.infoZ he hz1)
      rw [hd] at hm
      obtain ⟨gs, rfl, hf, _⟩ := mkTD_struct hm
      obtain ⟨zv, hzv, hzc, _⟩ := hz z hz1
      split at h <;> cases h
      rename_i l hl
      refine run_build w t parts _ ?_
      unfold Program.built
      simp only [hi, hu, hzv, fieldsTD_places hf]
      rw [hp, show zv.cells = (SV.dens ρ z).toArray from by rw [ofVals_den hzc ρ]]
      refine fill_ok (fun j p hj => ?_) ρ ps hl
      unfold fieldPl at hj
      rw [nth_eq] at hj
      split at hj
      · rename_i f hf'
        cases hj
        simp [unF_pl, hf']
      · cases hj
    · rename_i z n el m hz1 hd
      obtain ⟨dd, i, hu, hi, hm, hs, _, hz⟩ := hty.info he (hty.infoZ he hz1)
      rw [hd] at hm
      obtain ⟨rfl, j, hj, rfl⟩ := mkTD_arr hm
      obtain ⟨zv, hzv, hzc, _⟩ := hz z hz1
      split at h <;> cases h
      rename_i l hl
      refine run_build w t parts _ ?_
      unfold Program.built
      simp only [hi, hu, hzv, hj]
      rw [hp, show zv.cells = (SV.dens ρ z).toArray from by rw [ofVals_den hzc ρ]]
      exact fill_ok (fun _ p hj => hj) ρ ps hl
    · cases h
theorem fillL_ty {place : Nat → Option (Nat × Nat)} : ∀ {ps : List (Nat × SV)} {cs r : List SV}, fillL place cs ps = some r → SV.tys ρ cs → (∀ q ∈ ps, q.2.ty ρ) → SV.tys ρ r
  | [], cs, r, h, hc, _ => by simp only [fillL] at h; cases h; exact hc
  | (i, v) :: ps, cs, r, h, hc, hp => by
    simp only [fillL] at h
    split at h
    · rename_i off size vs hpl hvs
      cases hl : Nat.beq vs.length size <;> rw [hl] at h <;> simp only [cond_true, cond_false] at h
      · cases h
      · split at h
        · rename_i c hcc
          refine fillL_ty h (tys_of_mem fun u hu => ?_) (fun q hq => hp q (List.mem_cons_of_mem _ hq))
          obtain ⟨h1, h2, h3⟩ := putN_spec _ _ _ _ hcc
          obtain ⟨j, hj⟩ := List.getElem?_of_mem hu
          rw [h3 j] at hj
          split at hj
          · exact tys_mem (cellsOf_ty hvs (hp _ List.mem_cons_self)) u (List.mem_of_getElem? hj)
          · exact tys_mem hc u (List.mem_of_getElem? hj)
        · cases h
    · cases h
theorem buildV_ty (hty : TyOk P ty) {t : TypeId} {ps : List (Nat × SV)} {v : SV} (h : buildV ty t ps = some v) (hp : ∀ q ∈ ps, q.2.ty ρ) : v.ty ρ := by
  unfold buildV at h
  split at h
  · cases h
  · rename_i e he
    split at h
    · rename_i z fs b hz1 hd
      obtain ⟨dd, i, hu, hi, hm, hs, _, hz⟩ := hty.info he (hty.infoZ he hz1)
      obtain ⟨zv, hzv, hzc, _⟩ := hz z hz1
      split at h <;> cases h
      rename_i hl
      exact fillL_ty hl (ofVals_spec hzc ρ 0 0).2.2.2 hp
    · rename_i z n el m hz1 hd
      obtain ⟨dd, i, hu, hi, hm, hs, _, hz⟩ := hty.info he (hty.infoZ he hz1)
      obtain ⟨zv, hzv, hzc, _⟩ := hz z hz1
      split at h <;> cases h
      rename_i hl
      exact fillL_ty hl (ofVals_spec hzc ρ 0 0).2.2.2 hp
    · cases h
theorem pBuild_ok (hty : TyOk P p.ty) (hc : Px ρ p a) {t : TypeId} {parts : Array (Nat × Operand)} (ho : o.op = .build t parts) (h : pBuild p t parts = some (v, d)) : Pure P o a ρ p v d := by
  unfold pBuild at h
  split at h
  · rename_i ps hps
    split at h <;> cases h
    rename_i hb
    refine Pure.plain hc (fun hcg => buildV_ty hty hb (evPs_ty hc.htm (hc.hpc hcg) hps)) fun hcg w _ => ?_
    unfold execOp
    simp only [ho, Sem.run_bind, buildV_ok hty hb ρ _ (evps_array hc.htm (hc.hpc hcg) hps) w, Result.andThen_ok, Sem.run_pure]
  · cases h
theorem str_byt (x : List UInt8) : (Dt.byt x).str = x := rfl
theorem run_sliceBound {k : IntKind} {n y : Nat} (h : n ≤ y) (c : BoundsCode) (w : World) : (Instr.sliceBound (.int k (n : Int)) y c).run P w = .ok n w := by
  have : (0 : Int) ≤ (n : Int) ∧ (n : Int) ≤ (y : Int) := by omega
  simp [Instr.sliceBound, asIntOf]
  intro hh; omega
theorem bndA_ok (hc : Px ρ p a) {x : Option Operand} {dflt n : A} (h : bndA p x dflt = some n) : (x = none ∧ n = dflt) ∨ (p.cg.den ρ.is = true → ∃ k, x.map a.eval = some (.int k (n.int ρ.is))) := by
  unfold bndA at h
  split at h
  · cases h; exact .inl ⟨rfl, rfl⟩
  · rename_i y
    split at h
    · rename_i k c hy
      cases h
      exact .inr fun hcg => ⟨k, by simp only [Option.map_some, hc.ev hy hcg, SV.den]⟩
    · cases h
theorem bndA_wf (hc : Px ρ p a) {x : Option Operand} {dflt n : A} (hd : dflt.wf p.ni = true) (h : bndA p x dflt = some n) : n.wf p.ni = true := by
  unfold bndA at h
  split at h
  · cases h; exact hd
  · split at h
    · rename_i hy
      cases h
      have := hc.evw hy
      simpa [SV.wf] using this
    · cases h
theorem sliceBounds_ok (hc : Px ρ p a) (hcg : p.cg.den ρ.is = true) {isS : Bool} {len cap L H : Nat} {lo hi : Option Operand} {l h ln : A} (hl : bndA p lo (.n 0) = some l) (hh : bndA p hi ln = some h) (hln : ln.int ρ.is = len) (eL : l.int ρ.is = L) (eH : h.int ρ.is = H) (h1 : H ≤ cap) (h2 : L ≤ H) (w : World) :
    (Instr.sliceBounds isS len cap (lo.map a.eval) (hi.map a.eval) none).run P w = .ok (L, H, cap) w := by
  unfold Instr.sliceBounds
  have e1 : lo = none ∧ L = 0 ∨ ∃ k, lo.map a.eval = some (.int k (L : Int)) := by
    rcases bndA_ok hc hl with ⟨r1, r2⟩ | r
    · rw [r2, int_n] at eL; exact .inl ⟨r1, by omega⟩
    · obtain ⟨k, hk⟩ := r hcg; exact .inr ⟨k, by rw [hk, eL]⟩
  have e2 : hi = none ∧ H = len ∨ ∃ k, hi.map a.eval = some (.int k (H : Int)) := by
    rcases bndA_ok hc hh with ⟨r1, r2⟩ | r
    · rw [r2, hln] at eH; exact .inl ⟨r1, by omega⟩
    · obtain ⟨k, hk⟩ := r hcg; exact .inr ⟨k, by rw [hk, eH]⟩
  rcases e1 with ⟨rfl, rfl⟩ | ⟨k, hk⟩ <;> rcases e2 with ⟨rfl, rfl⟩ | ⟨k', hk'⟩
  · simp
  · simp [hk', run_sliceBound h1]
  · simp [hk, run_sliceBound h2]
  · simp [hk, hk', run_sliceBound h1, run_sliceBound h2]
theorem sliceBounds3_ok (hc : Px ρ p a) (hcg : p.cg.den ρ.is = true) {isS : Bool} {len cap L H : Nat} {lo hi : Option Operand} {m : Operand} {km : IntKind} {l h ln : A} (hl : bndA p lo (.n 0) = some l) (hh : bndA p hi ln = some h) (hhi : hi ≠ none) (eL : l.int ρ.is = L) (eH : h.int ρ.is = H) (hm : a.eval m = .int km (H : Int)) (h1 : H ≤ cap) (h2 : L ≤ H) (w : World) :
    (Instr.sliceBounds isS len cap (lo.map a.eval) (hi.map a.eval) (some (a.eval m))).run P w = .ok (L, H, H) w := by
  unfold Instr.sliceBounds
  have e1 : lo = none ∧ L = 0 ∨ ∃ k, lo.map a.eval = some (.int k (L : Int)) := by
    rcases bndA_ok hc hl with ⟨r1, r2⟩ | r
    · rw [r2, int_n] at eL; exact .inl ⟨r1, by omega⟩
    · obtain ⟨k, hk⟩ := r hcg; exact .inr ⟨k, by rw [hk, eL]⟩
  have e2 : ∃ k, hi.map a.eval = some (.int k (H : Int)) := by
    rcases bndA_ok hc hh with ⟨r1, r2⟩ | r
    · exact absurd r1 hhi
    · obtain ⟨k, hk⟩ := r hcg; exact ⟨k, by rw [hk, eH]⟩
  obtain ⟨k', hk'⟩ := e2
  rcases e1 with ⟨rfl, rfl⟩ | ⟨k, hk⟩
  · simp [hm, hk', run_sliceBound h1, run_sliceBound (Nat.le_refl H)]
  · simp [hm, hk, hk', run_sliceBound h1, run_sliceBound h2, run_sliceBound (Nat.le_refl H)]
theorem inOrder_ok (hp : PcOk ρ.is p.pc) {l h n : A} {N : Nat} (hn : n.int ρ.is = N) (hk : inOrder p.pc l h n = true) : ∃ L H : Nat, l.int ρ.is = L ∧ h.int ρ.is = H ∧ L ≤ H ∧ H ≤ N ∧ (l.int ρ.is).toNat = L ∧ (h.int ρ.is).toNat = H := by
  unfold inOrder at hk
  simp only [Bool.and_eq_true] at hk
  obtain ⟨⟨k1, k2⟩, k3⟩ := hk
  have h1 := knownIs_ok hp k1
  have h2 := knownIs_ok hp k2
  have h3 := knownIs_ok hp k3
  rw [B.den_mkLt] at h1 h2 h3
  have h1 := of_decide_eq_false h1
  have h2 := of_decide_eq_false h2
  have h3 := of_decide_eq_false h3
  rw [int_n] at h1
  rw [hn] at h3
  exact ⟨(l.int ρ.is).toNat, (h.int ρ.is).toNat, by omega, by omega, by omega, by omega, rfl, rfl⟩
theorem repL_cut {fz : Fz} : ∀ {l : List Dt} {e : TypeId} {s b off : Nat}, repL ty fz l e s b off → ∀ (lo n : Nat), repL ty fz ((l.drop lo).take n) e s b (off + lo * s)
  | [], e, s, b, off, _, lo, n => by simp [repL]
  | x :: l, e, s, b, off, hr, lo + 1, n => by
    simp only [repL] at hr
    have := repL_cut hr.2 lo n
    rw [show off + s + lo * s = off + (lo + 1) * s by rw [Nat.add_mul]; omega] at this
    simpa using this
  | x :: l, e, s, b, off, hr, 0, 0 => by simp [repL]
  | x :: l, e, s, b, off, hr, 0, n + 1 => by
    simp only [repL] at hr
    have := repL_cut hr.2 0 n
    simp only [List.drop_zero, List.take_succ_cons, repL, Nat.zero_mul, Nat.add_zero] at this ⊢
    exact ⟨hr.1, this⟩
theorem rep_cut {fz : Fz} {t e s : Nat} (ht : tdOf ty t = .slice e s) {x : Dt} {V : Value} (hr : rep ty fz x t [V]) {L H : Nat} (h1 : L ≤ H) (h2 : H ≤ x.len) : ∃ ao n c, V = .slice ao n c ∧ n = x.len ∧ H ≤ c ∧
    ∀ m, m = c ∨ m = H → rep ty fz (x.cut L H) t [.slice (if m = L then ao else ao.map (·.add (L * s))) (H - L) (m - L)] := by
  rcases rep_slice ht hr with ⟨rfl, hv⟩ | ⟨l, b, off, sp, cap, rfl, hv, h3, h4, h5, h6⟩
  · injection hv with hv
    subst hv
    simp only [Dt.len] at h2
    have hH : H = 0 := by omega
    have hL : L = 0 := by omega
    subst hH; subst hL
    refine ⟨none, 0, 0, rfl, rfl, Nat.le_refl _, fun m hm => ?_⟩
    have : m = 0 := by omega
    subst this
    simp only [Dt.cut, if_true, Nat.sub_self, rep, and_true]
    exact ⟨e, s, ht⟩
  · injection hv with hv
    subst hv
    simp only [Dt.len] at h2
    refine ⟨_, _, cap, rfl, rfl, by omega, fun m hm => ?_⟩
    have hcut := repL_cut h5 L (H - L)
    have hl : ((l.drop L).take (H - L)).length = H - L := by simp; omega
    have heq : (Dt.row l).cut L H = .row ((l.drop L).take (H - L)) := by
      simp only [Dt.cut, Dt.list]
      rw [List.drop_take]
    rw [heq]
    simp only [rep]
    by_cases hmL : m = L
    · rw [if_pos hmL]
      have hHL : H = L := by omega
      subst hHL
      refine ⟨e, s, b, off, sp, m - H, ht, by rw [hl], by simp, by rw [hl]; omega, by simp [repL], .inr (by simp)⟩
    · rw [if_neg hmL]
      rcases h6 with rfl | rfl
      · refine ⟨e, s, b, off + L * s, none, m - L, ht, ?_, by rw [hl]; omega, by rw [hl]; omega, hcut, .inl rfl⟩
        rw [hl]
        simp [add_plain]
      · simp only [List.length_nil] at h2
        have hL : L = 0 := by omega
        subst hL
        refine ⟨e, s, b, off, sp, m, ht, ?_, by simp, by simp, by simp [repL], .inr (by simp)⟩
        have hH : H = 0 := by omega
        subst hH
        simp [Addr.add]
theorem int_of_n {c : Int} {j : Nat} (h : litNat c = some j) (is : List Dt) : (A.n c).int is = (j : Int) := by rw [int_n]; exact litNat_eq h
theorem litNatA_ok {x : A} {j : Nat} (h : litNatA x = some j) (is : List Dt) : x.int is = (j : Int) := by
  cases x <;> simp only [litNatA] at h <;> first | (cases h; done) | exact int_of_n h is
theorem sliceV_ok (hty : TyOk P p.ty) (hc : Px ρ p a) {t : TypeId} {x v : SV} (hw : x.wf p.ni p.nb = true) {lo hi mx : Option Operand} (h : sliceV p t x lo hi mx = some (v, d)) :
    ∃ ρ1, Ext p.ty ρ d ρ1 ∧ (p.cg.den ρ.is = true → (x.ty ρ → v.ty ρ1) ∧ ∀ w, (Instr.sliceAt t (x.den ρ) (lo.map a.eval) (hi.map a.eval) (mx.map a.eval)).run P w = .ok (v.den ρ1) w) := by
  unfold sliceV at h
  split at h
  · rename_i ht
    obtain ⟨_, d1, _, _, _, hu1, _, hm1, _⟩ := tdOf_info hty ht (by simp)
    cases mkTD_str hm1
    split at h
    · rename_i s
      split at h
      · rename_i l hh hl hhi
        cases hk : (inOrder p.pc l hh s.mkSlen && noMx mx) <;> rw [hk] at h <;> simp only [cond_true, cond_false] at h <;> cases h
        simp only [Bool.and_eq_true] at hk
        have hmx : mx = none := by
          cases mx with
          | none => rfl
          | some _ => cases hk.2
        subst hmx
        obtain ⟨ρ1, g1, g2, g3, _⟩ := hc.ext0.bind (.scut s l hh)
        refine ⟨ρ1, g1, fun hcg => ⟨fun ⟨l', e1, e2⟩ => ?_, fun w => ?_⟩⟩
        · simp only [SV.ty, g3, E.den]
          refine ⟨_, rfl, ?_⟩
          rw [e1]
          simp only [Dt.str, List.length_drop, List.length_take]
          omega
        obtain ⟨L, H, q1, q2, q3, q4, q5, q6⟩ := inOrder_ok (hc.hpc hcg) (int_mkSlen s ρ.is) hk.1
        have hb := sliceBounds_ok (P := P) hc hcg (isS := false) (len := (s.den ρ.is).str.length) (cap := (s.den ρ.is).str.length) hl hhi (int_mkSlen s ρ.is) q1 q2 q4 q3 w
        have hsz : (⟨(s.den ρ.is).str.toArray⟩ : ByteArray).size = (s.den ρ.is).str.length := by simp [ByteArray.size]
        simp only [Instr.sliceAt, Sem.run_bind, run_underlying hu1, Result.andThen_ok, SV.den, bytesOf, Option.map_none, Instr.slice, hsz, hb, Sem.run_pure, Option.isSome_none, Bool.false_eq_true, if_false, g3, E.den, str_byt, q5, q6]
        congr 2
        apply ByteArray.ext
        rw [ByteArray.data_extract]
        simp [List.extract_eq_take_drop, List.drop_take]
      · cases h
    · cases h
  · rename_i e n ht
    obtain ⟨_, d1, _, _, _, hu1, _, hm1, _⟩ := tdOf_info hty ht (by simp)
    obtain ⟨rfl, j, hj, rfl⟩ := mkTD_slice hm1
    split at h
    · rename_i b off len cap
      split at h
      · rename_i l hh hl hhi
        split at h
        · rename_i L H hL hH
          cases hk : (Nat.ble L H && Nat.ble H cap) <;> rw [hk] at h <;> simp only [cond_true, cond_false] at h <;> cases h
          simp only [Bool.and_eq_true] at hk
          refine ⟨ρ, hc.ext0, fun hcg => ⟨fun _ => trivial, fun w => ?_⟩⟩
          have hb := sliceBounds_ok (P := P) hc hcg (isS := true) (len := len) hl hhi (int_n _ _) (litNatA_ok hL ρ.is) (litNatA_ok hH ρ.is) (ble_nat hk.2) (ble_nat hk.1) w
          simp only [Instr.sliceAt, Sem.run_bind, run_underlying hu1, Result.andThen_ok, SV.den, Option.map_none, Instr.slice, hb, run_size hj, Sem.run_pure]
          congr 2
          cases hcl : Nat.beq cap L
          · simp only [cond_false]
            rw [if_neg (by intro e; rw [e] at hcl; simp at hcl)]
            simp [add_plain]
          · simp only [cond_true]
            rw [if_pos (beq_nat hcl)]
        · cases h
      · cases h
    · split at h
      · rename_i xa hxa
        split at h
        · rename_i l hh hl hhi
          cases hk : (inOrder p.pc l hh xa.mkLen && mxIs p hi mx hh) <;> rw [hk] at h <;> simp only [cond_true, cond_false] at h
          · cases h
          · simp only [Bool.and_eq_true, Option.some.injEq] at hk h
            have wxa := slF_wf hc.hmem hxa
            have wl := bndA_wf hc (dflt := .n 0) rfl hl
            have whh := bndA_wf hc (wf_mkLen wxa) hhi
            obtain ⟨ρ1, g1, g2, g3, g4⟩ := hc.ext0.bind (.cut xa l hh)
            have hcg1 := g1.wfB (by rw [hc.hni]; exact hc.hcw)
            have val : ∃ V : Value, p.cg.den ρ.is = true → rep p.ty ρ.fz ((xa.den ρ.is).cut (l.int ρ.is).toNat (hh.int ρ.is).toNat) t [V] ∧ ∀ w, (Instr.sliceAt t (x.den ρ) (lo.map a.eval) (hi.map a.eval) (mx.map a.eval)).run P w = .ok V w := by
              by_cases hcg : p.cg.den ρ.is = true
              · have hrep := slF_ok hty hc.hmem (hc.hpc hcg) ht hxa
                obtain ⟨L, H, q1, q2, q3, q4, q5, q6⟩ := inOrder_ok (hc.hpc hcg) (int_mkLen xa ρ.is) hk.1
                obtain ⟨ao, m, c, e1, e2, e3, e4⟩ := rep_cut ht hrep q3 q4
                have run : ∀ M, (∀ w, (Instr.sliceBounds true m c (lo.map a.eval) (hi.map a.eval) (mx.map a.eval)).run P w = .ok (L, H, M) w) → ∀ w, (Instr.sliceAt t (x.den ρ) (lo.map a.eval) (hi.map a.eval) (mx.map a.eval)).run P w = .ok (.slice (if M = L then ao else ao.map (·.add (L * j.size))) (H - L) (M - L)) w := by
                  intro M hM w
                  rw [e1]
                  simp only [Instr.sliceAt, Sem.run_bind, run_underlying hu1, Result.andThen_ok, Instr.slice, hM, run_size hj, Sem.run_pure]
                cases mx with
                | none =>
                  refine ⟨_, fun _ => ⟨by rw [q5, q6]; exact e4 c (.inl rfl), run c fun w => ?_⟩⟩
                  exact sliceBounds_ok (P := P) hc hcg hl hhi (by rw [e2]; exact int_mkLen xa ρ.is) q1 q2 e3 q3 w
                | some mo =>
                  refine ⟨_, fun _ => ⟨by rw [q5, q6]; exact e4 H (.inr rfl), run H fun w => ?_⟩⟩
                  have hk2 := hk.2
                  simp only [mxIs] at hk2
                  split at hk2
                  · rename_i m' _ km ma hmo
                    have hm : ma.int ρ.is = (H : Int) := by
                      simp only [Bool.or_eq_true] at hk2
                      rcases hk2 with hk2 | hk2
                      · rw [A.beq_eq hk2]; exact q2
                      · have := knownIs_ok (hc.hpc hcg) hk2
                        rw [B.den_mkEq] at this
                        rw [← q2]; simpa using this
                    exact sliceBounds3_ok (P := P) hc hcg hl hhi (by simp) q1 q2 (km := km) (by rw [hc.ev hmo hcg, SV.den, hm]) e3 q3 w
                  · cases hk2
              · exact ⟨.nilFunc, fun h => absurd h hcg⟩
            obtain ⟨V, hV⟩ := val
            obtain ⟨ρ2, k1, k2, k3, k4, k5, k6⟩ := newVal_ok (t := t) (c := p.cg) g1 g4 hcg1.1 (V := V) (fun hcc => by
              rw [hcg1.2] at hcc
              rw [g3]
              exact ⟨(hV hcc).1, _, _, ht⟩)
            have hcut : newVal t p.cg (cutA xa l hh p.d).1 (cutA xa l hh p.d).2 = (v, d) := h
            unfold cutA at hcut
            rw [hcut] at k1 k3 k6
            refine ⟨ρ2, k1, fun hcg => ⟨fun _ => k6 _, fun w => ?_⟩⟩
            rw [(hV hcg).2 w, k3 (by rw [hcg1.2]; exact hcg)]
        · cases h
      · cases h
  · rename_i n e m ht
    obtain ⟨_, d1, _, _, _, hu1, _, hm1, _⟩ := tdOf_info hty ht (by simp)
    obtain ⟨rfl, j, hj, rfl⟩ := mkTD_arr hm1
    split at h
    · rename_i b off
      split at h
      · rename_i l hh hl hhi
        split at h
        · rename_i L H hL hH
          cases hk : (Nat.ble L H && Nat.ble H n) <;> rw [hk] at h <;> simp only [cond_true, cond_false] at h <;> cases h
          simp only [Bool.and_eq_true] at hk
          refine ⟨ρ, hc.ext0, fun hcg => ⟨fun _ => trivial, fun w => ?_⟩⟩
          have hb := sliceBounds_ok (P := P) hc hcg (isS := false) (len := n) hl hhi (int_n _ _) (litNatA_ok hL ρ.is) (litNatA_ok hH ρ.is) (ble_nat hk.2) (ble_nat hk.1) w
          simp only [Instr.sliceAt, Sem.run_bind, run_underlying hu1, Result.andThen_ok, SV.den, Option.map_none, Instr.sureAddr, Sem.run_pure, hb, run_size hj]
          congr 2
          cases hcl : Nat.beq n L
          · simp only [cond_false]
            rw [if_neg (by intro e; rw [e] at hcl; simp at hcl)]
            simp [add_plain]
          · simp only [cond_true]
            rw [if_pos (beq_nat hcl)]
        · cases h
      · cases h
    · cases h
  · cases h
theorem pSlice_ok (hty : TyOk P p.ty) (hc : Px ρ p a) {t : TypeId} {x : Operand} {lo hi mx : Option Operand} (ho : o.op = .slice t x lo hi mx) (h : pSlice p t x lo hi mx = some (v, d)) : Pure P o a ρ p v d := by
  unfold pSlice at h
  split at h
  · rename_i hx
    obtain ⟨ρ1, h1, h2⟩ := sliceV_ok hty hc (hc.evw hx) h
    refine ⟨ρ1, h1, fun hcg => ⟨(h2 hcg).1 (hc.evt hx hcg), fun w _ => ?_⟩⟩
    unfold execOp
    simp only [ho, hc.ev hx hcg, Sem.run_bind, (h2 hcg).2 w, Result.andThen_ok, Sem.run_pure]
  · cases h
theorem lenV_ok (hty : TyOk P p.ty) (hc : Px ρ p a) (hcg : p.cg.den ρ.is = true) {t : TypeId} {x : SV} {n : A} (h : lenV p t x = some n) (tt : TypeId) (w : World) : (Builtin.len_ #[t] tt #[x.den ρ]).run P w = .ok (.int .i64 (n.int ρ.is)) w := by
  unfold lenV at h
  split at h
  · rename_i ht
    obtain ⟨_, d1, _, _, _, hu1, _, hm1, _⟩ := tdOf_info hty ht (by simp)
    cases mkTD_str hm1
    split at h <;> cases h
    rename_i s
    have hsz : (⟨(s.den ρ.is).str.toArray⟩ : ByteArray).size = (s.den ρ.is).str.length := rfl
    simp [Builtin.len_, run_underlying hu1, SV.den, goInt, bytesOf, hsz, int_mkSlen]
  · rename_i m e s ht
    obtain ⟨_, d1, _, _, _, hu1, _, hm1, _⟩ := tdOf_info hty ht (by simp)
    obtain ⟨rfl, j, hj, rfl⟩ := mkTD_arr hm1
    cases hb : decide (m < 9223372036854775808) <;> rw [hb] at h <;> simp only [cond_true, cond_false] at h <;> cases h
    simp [Builtin.len_, run_underlying hu1, goInt, int_n]
  · rename_i e s ht
    obtain ⟨_, d1, _, _, _, hu1, _, hm1, _⟩ := tdOf_info hty ht (by simp)
    obtain ⟨rfl, j, hj, rfl⟩ := mkTD_slice hm1
    split at h
    · rename_i len _
      cases hb : decide (len < 9223372036854775808) <;> rw [hb] at h <;> simp only [cond_true, cond_false] at h <;> cases h
      simp [Builtin.len_, run_underlying hu1, SV.den, goInt, int_n]
    · cases h; simp [Builtin.len_, run_underlying hu1, SV.den, goInt, int_n]
    · split at h <;> cases h
      rename_i xa hxa
      rw [int_mkLen]
      rcases slH_ok hc.hmem hc.hhk (hc.hpc hcg) hxa with ⟨h1, h2⟩ | ⟨l, ad, cap, h1, h2, _⟩
      · rw [h1, h2]; simp [Builtin.len_, run_underlying hu1, goInt, Dt.len]
      · rw [h1, h2]; simp [Builtin.len_, run_underlying hu1, goInt, Dt.len]
  · rename_i e s ht
    obtain ⟨_, d1, _, _, _, hu1, _, hm1, _⟩ := tdOf_info hty ht (by simp)
    cases mkTD_map hm1
    split at h <;> cases h
    simp [Builtin.len_, run_underlying hu1, SV.den, goInt, int_n]
  · cases h
theorem i64_nat {n : Nat} (h : n < 9223372036854775808) : IntKind.i64.min ≤ (n : Int) ∧ (n : Int) ≤ IntKind.i64.max := by
  have h1 : IntKind.i64.min = -9223372036854775808 := by decide
  have h2 : IntKind.i64.max = 9223372036854775807 := by decide
  rw [h1, h2]; omega
theorem lenV_ty (hc : Px ρ p a) (hcg : p.cg.den ρ.is = true) {t : TypeId} {x : SV} {n : A} (h : lenV p t x = some n) (hx : x.ty ρ) : (SV.int .i64 n).ty ρ := by
  unfold lenV at h
  split at h
  · split at h <;> cases h
    rename_i s
    obtain ⟨l, h1, h2⟩ := hx
    exact ⟨_, den_mkSlen s ρ.is, by rw [h1]; exact i64_nat h2⟩
  · rename_i m e s ht
    cases hb : decide (m < 9223372036854775808) <;> rw [hb] at h <;> simp only [cond_true, cond_false] at h <;> cases h
    exact ⟨_, rfl, i64_nat (of_decide_eq_true hb)⟩
  · split at h
    · rename_i len _
      cases hb : decide (len < 9223372036854775808) <;> rw [hb] at h <;> simp only [cond_true, cond_false] at h <;> cases h
      exact ⟨_, rfl, i64_nat (of_decide_eq_true hb)⟩
    · cases h; exact ⟨0, rfl, i64_nat (n := 0) (by omega)⟩
    · split at h <;> cases h
      rename_i xa hxa
      refine ⟨_, den_mkLen xa ρ.is, ?_⟩
      rcases slH_ok hc.hmem hc.hhk (hc.hpc hcg) hxa with ⟨h1, h2⟩ | ⟨l, ad, cap, h1, h2, h3⟩
      · rw [h1]; exact i64_nat (n := 0) (by omega)
      · rw [h1]; exact i64_nat h3
  · split at h <;> cases h
    exact ⟨0, rfl, i64_nat (n := 0) (by omega)⟩
  · cases h
theorem foldMM_ok {ni nb : Nat} (hni : ρ.is.length = ni) (hnb : ρ.bs.length = nb) (m : Bool) : ∀ {l : List SV} {x : A} {k : IntKind} {d : Bd} {ρ1 : Env} {v : SV} {d' : Bd}, SV.wfs ni nb l = true → x.wf d.ni = true → Ext ty ρ d ρ1 → foldMM m l x k d = some (v, d') →
    ∃ ρ2, Ext ty ρ d' ρ2 ∧ ρ1.le ρ2 ∧ (SV.tys ρ l → (SV.int k x).ty ρ1 → v.ty ρ2) ∧ ∀ w, ((SV.dens ρ l).foldlM (if m then Builtin.min2 else Builtin.max2) (.int k (x.int ρ1.is))).run P w = .ok (v.den ρ2) w
  | [], x, k, d, ρ1, v, d', _, _, he, h => by
    simp only [foldMM] at h
    cases h
    exact ⟨ρ1, he, Env.le_refl _, fun _ h => h, fun w => rfl⟩
  | y :: l, x, k, d, ρ1, v, d', hw, hx, he, h => by
    cases y with
    | int k' y =>
      simp only [foldMM] at h
      cases hk : kindEq k k' <;> rw [hk] at h <;> simp only [cond_true, cond_false] at h
      · cases h
      · cases kindEq_eq hk
        simp only [SV.wfs, SV.wf, Bool.and_eq_true] at hw
        obtain ⟨ρ2, g1, g2, g3, g4⟩ := he.bind (bif m then .mn x y else .mx x y)
        obtain ⟨ρ3, r1, r2, r4, r3⟩ := foldMM_ok hni hnb m hw.2 g4 g1 h
        have hy := (he.wfA (by rw [hni]; exact hw.1)).2
        refine ⟨ρ3, r1, Env.le_trans g2 r2, fun ⟨t1, t2⟩ t3 => r4 t2 ?_, fun w => ?_⟩
        · obtain ⟨n1, e1, f1⟩ := t1
          obtain ⟨n2, e2, f2⟩ := t3
          simp only [SV.ty, g3]
          have i1 : y.int ρ1.is = n1 := by simp only [A.int, hy, e1, Dt.int]
          have i2 : x.int ρ1.is = n2 := by simp only [A.int, e2, Dt.int]
          cases m
          · refine ⟨_, rfl, ?_⟩
            rw [i1, i2]; split <;> assumption
          · refine ⟨_, rfl, ?_⟩
            rw [i1, i2]; split <;> assumption
        simp only [SV.dens, List.foldlM_cons, Sem.run_bind]
        have step : ((if m then Builtin.min2 else Builtin.max2) (.int k (x.int ρ1.is)) (SV.den ρ (.int k y))).run P w = .ok (.int k ((d.bind (bif m then .mn x y else .mx x y)).1.int ρ2.is)) w := by
          rw [int_of_den g3]
          cases m
          · simp [SV.den, Builtin.max2, E.den, Dt.int, A.int, hy]
          · simp [SV.den, Builtin.min2, E.den, Dt.int, A.int, hy]
        rw [step]
        exact r3 w
    | _ => simp [foldMM] at h
theorem pCall_ok (hty : TyOk P p.ty) (hc : Px ρ p a) {c : Call} (ho : o.op = .call c) (h : pCall p c = some (v, d)) : Pure P o a ρ p v d := by
  obtain ⟨ce, args, ats⟩ := c
  unfold pCall evOsP at h
  simp only at h
  split at h
  · rename_i hce
    split at h
    · rename_i t x ht hx
      split at h <;> cases h
      rename_i n hn
      have ht' : ats = #[t] := by apply Array.ext'; simpa using ht
      refine Pure.plain hc (fun hcg => lenV_ty hc hcg hn (evOs_ty hc.htm (hc.hpc hcg) hx).1) fun hcg w _ => ?_
      have hx' := evs_array hc.htm (hc.hpc hcg) hx
      unfold execOp
      simp only [ho, resolve, hx', ht', invoke, builtin, Sem.run_bind, Sem.run_pure, Result.andThen_ok, SV.dens, lenV_ok hty hc hcg hn, SV.den]
    · cases h
  · rename_i hce
    split at h
    · rename_i k x l hx
      have hw := evOs_wf hc.htm hx
      simp only [SV.wfs, SV.wf, Bool.and_eq_true] at hw
      obtain ⟨ρ1, g1, g2, g4, g3⟩ := foldMM_ok (P := P) hc.hni hc.hnb true hw.2 hw.1 hc.ext0 h
      refine ⟨ρ1, g1, fun hcg => ⟨g4 (evOs_ty hc.htm (hc.hpc hcg) hx).2 (evOs_ty hc.htm (hc.hpc hcg) hx).1, fun w _ => ?_⟩⟩
      have hx' := evs_array hc.htm (hc.hpc hcg) hx
      have := g3 w
      simp only [if_true] at this
      unfold execOp
      simp only [ho, resolve, hx', invoke, builtin, Builtin.min_, Sem.run_bind, Sem.run_pure, Result.andThen_ok, SV.dens, SV.den, this]
    · cases h
  · rename_i hce
    split at h
    · rename_i k x l hx
      have hw := evOs_wf hc.htm hx
      simp only [SV.wfs, SV.wf, Bool.and_eq_true] at hw
      obtain ⟨ρ1, g1, g2, g4, g3⟩ := foldMM_ok (P := P) hc.hni hc.hnb false hw.2 hw.1 hc.ext0 h
      refine ⟨ρ1, g1, fun hcg => ⟨g4 (evOs_ty hc.htm (hc.hpc hcg) hx).2 (evOs_ty hc.htm (hc.hpc hcg) hx).1, fun w _ => ?_⟩⟩
      have hx' := evs_array hc.htm (hc.hpc hcg) hx
      have := g3 w
      simp only [Bool.false_eq_true, if_false] at this
      unfold execOp
      simp only [ho, resolve, hx', invoke, builtin, Builtin.max_, Sem.run_bind, Sem.run_pure, Result.andThen_ok, SV.dens, SV.den, this]
    · cases h
  · rename_i hce
    split at h
    · rename_i t ht hx
      split at h <;> cases h
      rename_i e s htd
      have ht' : ats = #[t] := by apply Array.ext'; simpa using ht
      obtain ⟨_, d1, _, _, _, hu1, _, hm1, _⟩ := tdOf_info hty htd (by simp)
      obtain ⟨rfl, j, hj, rfl⟩ := mkTD_slice hm1
      refine Pure.plain hc (fun hcg => ⟨0, rfl, by decide⟩) fun hcg w _ => ?_
      have hx' := evs_array hc.htm (hc.hpc hcg) hx
      unfold execOp
      simp [ho, resolve, hx', ht', invoke, builtin, Builtin.cap_, Sem.run_bind, Sem.run_pure, Result.andThen_ok, SV.dens, SV.den, run_underlying hu1, goInt, int_n]
    · cases h
  · cases h
theorem run_zero {t : TypeId} {i : TypeInfo} {z : Value} (hi : P.info? t = some i) (hz : i.zero = some z) (w : World) : (zeroValue t).run P w = .ok z w := by simp [zeroValue, run_info hi, hz]
theorem zeroV_ok (hty : TyOk P ty) {t : TypeId} {z : SV} (h : zeroV ty t = some z) (ρ : Env) (w : World) : (zeroValue t).run P w = .ok (z.den ρ) w := by
  unfold zeroV at h
  split at h
  · rename_i e he
    split at h
    · rename_i l hl
      obtain ⟨dd, i, hu, hi, hmt, hs, _, hz⟩ := hty.info he (hty.infoZ he hl)
      obtain ⟨v, hv, _, hzo⟩ := hz l hl
      rw [run_zero hi hv]
      unfold zeroOf at hzo
      cases ha : e.d.agg <;> rw [ha] at h hzo <;> simp only [cond_true, cond_false] at h hzo
      · cases hv1 : ofVal1 v with
        | none => rw [hv1] at hzo; cases hzo
        | some s =>
          rw [hv1] at hzo
          cases hzo
          cases h
          rw [(ofVal1_spec hv1 ρ 0 0).1]
      · cases h
        split at hzo
        · rw [SV.den, ofVals_den hzo ρ]
        · cases hzo
    · cases h
  · cases h
theorem zeroV_ty (hty : TyOk P ty) {t : TypeId} {z : SV} (h : zeroV ty t = some z) (ρ : Env) : z.ty ρ := by
  unfold zeroV at h
  split at h
  · rename_i e he
    split at h
    · rename_i l hl
      obtain ⟨dd, i, hu, hi, hmt, hs, _, hz⟩ := hty.info he (hty.infoZ he hl)
      obtain ⟨v, hv, hvs, _⟩ := hz l hl
      have := (ofVals_spec hvs ρ 0 0).2.2.2
      cases ha : e.d.agg <;> rw [ha] at h <;> simp only [cond_true, cond_false] at h
      · split at h <;> cases h
        exact this.1
      · cases h; exact this
    · cases h
  · cases h
theorem pTypeAssert_ok (hty : TyOk P p.ty) (hc : Px ρ p a) {x : Operand} {xt asd : TypeId} {ok : Bool} (ho : o.op = .typeAssert x xt asd ok) (h : pTypeAssert p x asd ok = some (v, d)) : Pure P o a ρ p v d := by
  unfold pTypeAssert at h
  split at h
  · cases h
  · cases h
  · rename_i t u _ _ _
    have hx : p.ev x = some (.iface t u) := by assumption
    have hn1 : tdOf p.ty asd ≠ .iface := by assumption
    have hn2 : tdOf p.ty asd ≠ .other := by assumption
    cases hnh : (tdOf p.ty asd).isH <;> rw [hnh] at h <;> simp only [cond_true, cond_false] at h
    case true => cases h
    obtain ⟨_, d1, _, _, _, hu1, _, hm1, _⟩ := tdOf_info hty rfl hn2 hnh
    have hd := mkTD_concrete hm1 (fun e => hn1 (by revert e; cases tdOf p.ty asd <;> simp [TD.un]))
    have hun : ∀ (w : World) (r : Value), (∀ ms, d1 ≠ .interface ms) → ((Instr.typeAssert (.iface t (u.den ρ)) xt asd ok).run P w = (if t = asd then .ok (if ok then .tuple #[u.den ρ, .bool true] else u.den ρ) w else (if ok then Result.andThen ((zeroValue asd).run P w) fun z w => .ok (.tuple #[z, .bool false]) w else (runtimePanic (.typeAssertion (some xt) (some t) asd "")).run P w))) := by
      intro w r _
      simp only [Instr.typeAssert, Sem.run_bind, run_underlying hu1, Result.andThen_ok]
      cases d1 with
      | interface ms => exact absurd rfl (hd ms)
      | _ => by_cases htt : t = asd <;> cases ok <;> simp [htt]
    cases ht : Nat.beq t asd <;> rw [ht] at h <;> simp only [cond_true, cond_false] at h
    · have hne : ¬ t = asd := fun e => by rw [e] at ht; simp at ht
      split at h
      · rename_i hz
        cases h
        refine Pure.plain hc (fun _ => ⟨zeroV_ty hty hz ρ, trivial, trivial⟩) fun hcg w _ => ?_
        unfold execOp
        simp only [ho, hc.ev hx hcg, SV.den, Sem.run_bind, hun w undef hd, if_neg hne, if_true, zeroV_ok hty hz ρ w, Result.andThen_ok, Sem.run_pure, SV.dens, B.den]
      · cases h
    · cases h
      have heq := beq_nat ht
      refine Pure.plain hc (fun hcg => ?_) fun hcg w _ => ?_
      · have := hc.evt hx hcg
        cases ok
        · exact this
        · exact ⟨this, trivial, trivial⟩
      unfold execOp
      simp only [ho, hc.ev hx hcg, SV.den, Sem.run_bind, hun w undef hd, if_pos heq, Result.andThen_ok, Sem.run_pure]
      cases ok <;> simp [SV.den, SV.dens, B.den]
  · have hx : p.ev x = some .niliface := by assumption
    have hn1 : tdOf p.ty asd ≠ .iface := by assumption
    have hn2 : tdOf p.ty asd ≠ .other := by assumption
    cases hnh : (tdOf p.ty asd).isH <;> rw [hnh] at h <;> simp only [cond_true, cond_false] at h
    case true => cases h
    obtain ⟨_, d1, _, _, _, hu1, _, hm1, _⟩ := tdOf_info hty rfl hn2 hnh
    have hd := mkTD_concrete hm1 (fun e => hn1 (by revert e; cases tdOf p.ty asd <;> simp [TD.un]))
    split at h
    · rename_i hz
      cases h
      refine Pure.plain hc (fun _ => ⟨zeroV_ty hty hz ρ, trivial, trivial⟩) fun hcg w _ => ?_
      have hun : (Instr.typeAssert .nilIface xt asd true).run P w = Result.andThen ((zeroValue asd).run P w) fun z w => .ok (.tuple #[z, .bool false]) w := by
        simp only [Instr.typeAssert, Sem.run_bind, run_underlying hu1, Result.andThen_ok]
        cases d1 with
        | interface ms => exact absurd rfl (hd ms)
        | _ => simp
      unfold execOp
      simp only [ho, hc.ev hx hcg, SV.den, Sem.run_bind, hun, zeroV_ok hty hz ρ w, Result.andThen_ok, Sem.run_pure, SV.dens, B.den]
    · cases h
  · cases h
theorem load_of (hty : TyOk P ty) {t : TypeId} {e : TE} (he : ty.get t = some e) (hh : e.d.isH = false) {B off : Nat} {cs : List Value} {w : World} (hl : cs.length = (if e.d.agg = true then e.size else 1)) (hc : ∀ (j : Nat) u, cs[j]? = some u → w.cell? ⟨B, off + j, none⟩ = some u) :
    (loadVar t ⟨B, off, none⟩).run P w = .ok (if e.d.agg = true then .agg cs.toArray else cs.getD 0 undef) w := by
  obtain ⟨dd, i, hu, hi, hmt, hs, _, _⟩ := hty.info he hh
  simp only [loadVar, Sem.run_bind, run_agg hu hmt, Result.andThen_ok]
  cases ha : e.d.agg
  · rw [ha] at hl
    simp only [Bool.false_eq_true, if_false] at hl ⊢
    obtain ⟨v, rfl⟩ : ∃ v, cs = [v] := by
      match cs, hl with
      | [v], _ => exact ⟨v, rfl⟩
    have := hc 0 v rfl
    simp only [run_load]
    rw [Nat.add_zero] at this
    rw [this]; rfl
  · rw [ha] at hl
    simp only [if_true] at hl ⊢
    have := run_loadCells_list (P := P) w ⟨B, off, none⟩ cs (fun j u hj => by rw [add_plain]; exact hc j u hj)
    rw [hl] at this
    simp only [Sem.run_bind, run_size hi, Result.andThen_ok, hs, this, Sem.run_pure]
theorem Lies.cell {fz : Fz} {b off : Nat} {cs : List Value} (h : Lies fz b off cs) {w : World} (hw : FzIn fz w) : ∀ (j : Nat) u, cs[j]? = some u → w.cell? ⟨b, off + j, none⟩ = some u := fun j u hj => fzCell_w hw (h j u hj)
theorem rep_size {fz : Fz} {x : Dt} {t : TypeId} {cs : List Value} {e : TE} (he : ty.get t = some e) (hr : rep ty fz x t cs) : cs.length = (if e.d.agg = true then e.size else 1) := by
  have htd : tdOf ty t = e.d := by simp [tdOf, he]
  cases x <;> simp only [rep, htd] at hr
  case num n =>
    rcases hr with ⟨k, h1, h2, _⟩ | ⟨_, _, V, h1, _, h2⟩
    · rw [h1, h2]; rfl
    · rw [h1, h2]; rfl
  case tru b => rw [hr.1, hr.2]; rfl
  case byt l => rw [hr.1, hr.2.1]; rfl
  case nil => obtain ⟨⟨a, b, h1⟩, h2⟩ := hr; rw [h1, h2]; rfl
  case row l => obtain ⟨a, b, _, _, _, _, h1, h2, _⟩ := hr; rw [h1, h2]; rfl
  case tup l =>
    obtain ⟨⟨h0, _⟩, h⟩ := hr
    simp only [sizeT, he, Option.some.injEq] at h0
    rcases h with ⟨fs, q, h1, _⟩ | ⟨n, a, b, h1, _⟩ <;> rw [h1] <;> simp [TD.agg, h0]
theorem partL_val {t : TypeId} {e : TE} (he : ty.get t = some e) {l : List SV} {v : SV} (h : partL ty t l 0 = some v) (ρ : Env) (hl : l.length = (if e.d.agg = true then e.size else 1)) : v.den ρ = if e.d.agg = true then .agg (SV.dens ρ l).toArray else (SV.dens ρ l).getD 0 undef := by
  unfold partL at h
  rw [he] at h
  simp only at h
  cases ha : e.d.agg <;> rw [ha] at h hl <;> simp only [cond_true, cond_false] at h
  · simp only [Bool.false_eq_true, if_false] at hl ⊢
    match l, hl with
    | [u], _ => simp only [nth] at h; cases h; rfl
  · simp only [if_true] at hl ⊢
    split at h <;> cases h
    rename_i r hr
    rw [dropN_eq, List.drop_zero] at hr
    obtain ⟨_, rfl⟩ := takeN_eq _ _ _ hr
    rw [← hl, List.take_length]; rfl
theorem mkV_ok {n : Nat} {t : TypeId} {x : A} {c : B} {v : SV} (he : Ext ty ρ d ρ1) (hx : x.wf d.ni = true) (hc : c.wf d.ni = true) {cs : List Value} (hr : c.den ρ1.is = true → rep ty ρ.fz (x.den ρ1.is) t cs) (h : mkV ty t x c d = some (v, d')) :
    ∃ ρ2, Ext ty ρ d' ρ2 ∧ ρ1.le ρ2 ∧ (c.den ρ1.is = true → v.ty ρ2 ∧ ∀ e, ty.get t = some e → v.den ρ2 = if e.d.agg = true then .agg cs.toArray else cs.getD 0 undef) := by
  unfold mkV at h
  split at h
  · rename_i l d1 hm
    split at h <;> cases h
    rename_i hp
    obtain ⟨ρ2, g1, g2, g3, g4, g5⟩ := (mk_all (ty := ty) (ρ := ρ) 60).1 hm he hx hc hr
    refine ⟨ρ2, g1, g2, fun hcc => ⟨partL_ty hp (g3 hcc).2, fun e hte => ?_⟩⟩
    have hl : SV.dens ρ2 l = cs := (g3 hcc).1
    have := partL_val hte hp ρ2 (by rw [← dens_length ρ2 l, hl]; exact rep_size hte (hr hcc))
    rw [this, hl]
  · cases h
theorem mkV_te {t : TypeId} {x : A} {c : B} {v : SV} (h : mkV ty t x c d = some (v, d')) : ∃ e, ty.get t = some e := by
  unfold mkV at h
  split at h
  · rename_i l d1 hm
    split at h <;> cases h
    rename_i hp
    unfold ofCells partL at hp
    split at hp
    · cases hp
    · exact ⟨_, ‹_›⟩
  · cases h
def GdOk (ty : Ty) (gd : List (Nat × TypeId × Dt)) (fz : Fz) : Prop := ∀ g t x, gdOf gd g = some (t, x) → ∃ cs, Lies fz g 0 cs ∧ rep ty fz x t cs
theorem GdOk.mono {ty : Ty} {gd : List (Nat × TypeId × Dt)} {fz fz' : Fz} (hz : FzLe fz fz') (h : GdOk ty gd fz) : GdOk ty gd fz' := fun g t x hg => by
  obtain ⟨cs, h1, h2⟩ := h g t x hg
  exact ⟨cs, h1.mono hz, rep_mono hz h2⟩
theorem pLoad_ok (hty : TyOk P p.ty) (hgd : GdOk p.ty p.gd ρ.fz) (hc : Px ρ p a) {t : TypeId} {x : Operand} (ho : o.op = .load t x) (h : pLoad p t x = some (v, d)) : Pure P o a ρ p v d := by
  unfold pLoad at h
  split at h
  · rename_i b hx
    split at h
    · rename_i c t' xa hb
      cases hk : (Nat.beq t t' && knownIs p.pc c true && !(tdOf p.ty t).isH) <;> rw [hk] at h <;> simp only [cond_true, cond_false] at h
      · cases h
      · simp only [Bool.and_eq_true, Bool.not_eq_true'] at hk
        have hnh := hk.2
        replace hk := hk.1
        have htt := beq_nat hk.1
        subst htt
        obtain ⟨_, hw, hgo⟩ := hc.hmem b _ hb
        simp only [SO.wf, Bool.and_eq_true] at hw
        obtain ⟨te, hte⟩ := mkV_te h
        have key : ∃ cs : List Value, p.cg.den ρ.is = true → ∃ B off, ρ.val b = .pointer (some ⟨B, off, none⟩) ∧ Lies ρ.fz B off cs ∧ rep p.ty ρ.fz (xa.den ρ.is) t cs := by
          by_cases hcg : p.cg.den ρ.is = true
          · obtain ⟨B, off, cs, h1, h2, h3⟩ := hgo (knownIs_ok (hc.hpc hcg) hk.2)
            exact ⟨cs, fun _ => ⟨B, off, h1, h2, h3⟩⟩
          · exact ⟨[], fun h => absurd h hcg⟩
        obtain ⟨cs, hcs⟩ := key
        obtain ⟨ρ2, g1, g2, g3⟩ := mkV_ok (n := 0) hc.ext0 (x := xa) (c := p.cg) hw.2 hc.hcw (cs := cs) (fun hcg => (hcs hcg).choose_spec.choose_spec.2.2) h
        refine ⟨ρ2, g1, fun hcg => ⟨(g3 hcg).1, fun w hfz => ?_⟩⟩
        obtain ⟨B, off, h1, h2, h3⟩ := hcs hcg
        have hv : SV.den ρ (.pt b) = .pointer (some ⟨B, off, none⟩) := h1
        unfold execOp
        simp only [ho, hc.ev hx hcg, hv, Instr.loadAt, Instr.sureAddr, Sem.run_bind, Sem.run_pure, Result.andThen_ok, load_of hty hte (by simpa [tdOf, hte] using hnh) (rep_size hte h3) (h2.cell hfz), (g3 hcg).2 te hte]
    · cases h
  · rename_i g hx
    split at h
    · rename_i t' x' hgo
      cases hk : (Nat.beq t t' && !(tdOf p.ty t).isH) <;> rw [hk] at h <;> simp only [cond_true, cond_false] at h
      · cases h
      · simp only [Bool.and_eq_true, Bool.not_eq_true'] at hk
        have htt := beq_nat hk.1
        subst htt
        obtain ⟨te, hte⟩ := mkV_te h
        obtain ⟨cs, h2, h3⟩ := hgd _ _ _ hgo
        obtain ⟨ρ2, g1, g2, g3⟩ := mkV_ok (n := 0) hc.ext0 (x := .d x') (c := p.cg) rfl hc.hcw (cs := cs) (fun _ => h3) h
        refine ⟨ρ2, g1, fun hcg => ⟨(g3 hcg).1, fun w hfz => ?_⟩⟩
        have hv : SV.den ρ (.gptr g 0) = .pointer (some ⟨g, 0, none⟩) := rfl
        unfold execOp
        simp only [ho, hc.ev hx hcg, hv, Instr.loadAt, Instr.sureAddr, Sem.run_bind, Sem.run_pure, Result.andThen_ok, load_of hty hte (by simpa [tdOf, hte] using hk.2) (rep_size hte h3) (h2.cell hfz), (g3 hcg).2 te hte]
    · cases h
  · cases h
theorem pureOp_ok (hty : TyOk P p.ty) (hgd : GdOk p.ty p.gd ρ.fz) (hc : Px ρ p a) (h : pureOp p o.op = some (v, d)) : Pure P o a ρ p v d := by
  unfold pureOp at h
  split at h
  · exact pMove_ok hc (.inl ‹_›) h
  · exact pMove_ok hc (.inr ‹_›) h
  · exact pPick_ok hty hc ‹_› h
  · exact pBinOp_ok hty hc ‹_› h
  · exact pUnOp_ok hc ‹_› h
  · exact pConvert_ok hty hc ‹_› h
  · exact pMakeFunc_ok hc ‹_› h
  · exact pMakeInterface_ok hty hc ‹_› h
  · exact pFieldAddr_ok hty hc ‹_› h
  · exact pField_ok hty hc ‹_› h
  · exact pExtract_ok hc ‹_› h
  · exact pBuild_ok hty hc ‹_› h
  · exact pIndexAddr_ok hty hc ‹_› h
  · exact pIndex_ok hty hc ‹_› h
  · exact pSlice_ok hty hc ‹_› h
  · exact pNilCheck_ok hc ‹_› h
  · exact pTypeAssert_ok hty hc ‹_› h
  · exact pLoad_ok hty hgd hc ‹_› h
  · exact pCall_ok hty hc ‹_› h
  · cases h
end
end Go.SY
