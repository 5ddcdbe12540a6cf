/- The symbolic executor SX, its soundness, part 6: structs put together, slices cut, built-in functions; all pure operations. -/
import Derived.Test.YtncaejnkpmmoeaaDoorSxS5
import Derived.Laws.Tables
set_option linter.unusedVariables false
set_option linter.unusedSimpArgs false
namespace Go.SX
open Go Go.RowKit

variable {P : Program} {ty : Ty} {ρ : Env} {ni nb : Nat} {pc : List (B × Bool)} {tm : Tm} {a : Act} {o : Oper} {v : SV} {d : Bd}

theorem foldl_put : ∀ (vs : List Value) (k off : Nat) (cs : Array Value),
    ((vs.zipIdx k).foldl (fun cs x => cs.setIfInBounds (off + x.2) x.1) cs).size = cs.size ∧
    ∀ i, ((vs.zipIdx k).foldl (fun cs x => cs.setIfInBounds (off + x.2) x.1) cs)[i]? = if off + k ≤ i ∧ i < off + k + vs.length ∧ i < cs.size then vs[i - (off + k)]? else cs[i]?
  | [], k, off, cs => by
    refine ⟨rfl, fun i => ?_⟩
    rw [if_neg (by simp; omega)]; rfl
  | v :: vs, k, off, cs => by
    simp only [List.zipIdx_cons, List.foldl_cons]
    obtain ⟨h1, h2⟩ := foldl_put vs (k + 1) off (cs.setIfInBounds (off + k) v)
    refine ⟨by rw [h1]; simp, fun i => ?_⟩
    rw [h2 i]
    simp only [Array.size_setIfInBounds, List.length_cons, Array.getElem?_setIfInBounds]
    by_cases hi : off + (k + 1) ≤ i ∧ i < off + (k + 1) + vs.length ∧ i < cs.size
    · rw [if_pos hi, if_pos (by omega), show i - (off + k) = (i - (off + (k + 1))) + 1 from by omega, List.getElem?_cons_succ]
    · rw [if_neg hi]
      by_cases he : off + k = i
      · subst he
        rw [if_pos rfl]
        by_cases hs : off + k < cs.size
        · rw [if_pos hs, if_pos (by omega)]; simp
        · rw [if_neg hs, if_neg (by omega), Array.getElem?_eq_none (by omega)]
      · rw [if_neg he]
        rw [if_neg (by omega)]

theorem fill_ok {place place' : Nat → Option (Nat × Nat)} (hp : ∀ i p, place i = some p → place' i = some p) (ρ : Env) : ∀ (ps : List (Nat × SV)) {cs r : List SV}, fillL place cs ps = some r →
    Instr.fill place' (SV.dens ρ cs).toArray (ps.map fun p => (p.1, p.2.den ρ)) = some (SV.dens ρ r).toArray
  | [], cs, r, h => by simp only [fillL] at h; cases h; rfl
  | (i, v) :: ps, cs, r, h => by
    simp only [fillL] at h
    split at h
    · rename_i off size vs hpl hvs
      cases hl : Nat.beq vs.length size
      · rw [hl] at h; cases h
      · rw [hl] at h
        simp only [cond_true] at h
        split at h
        · rename_i c hc
          have hcells := cellsOf_spec hvs ρ
          have hlen := beq_nat hl
          obtain ⟨p1, p2, p3⟩ := putN_spec _ _ _ _ hc
          simp only [List.map_cons, Instr.fill, hp _ _ hpl, hcells, List.size_toArray, dens_length, hlen]
          rw [hlen] at p2
          have hfit : ((size != size) || decide (off + size > cs.length)) = false := by simp; omega
          have ih := fill_ok hp ρ ps h
          have e : (SV.dens ρ vs).toArray.zipIdx.foldl (fun cs x => cs.setIfInBounds (off + x.2) x.1) (SV.dens ρ cs).toArray = (SV.dens ρ c).toArray := by
            obtain ⟨f1, f2⟩ := foldl_put (SV.dens ρ vs) 0 off (SV.dens ρ cs).toArray
            rw [← Array.foldl_toList, Array.toList_zipIdx]
            apply Array.ext_getElem?
            intro i
            rw [f2 i]
            simp only [List.getElem?_toArray, dens_getElem?, p3, Nat.add_zero, List.size_toArray, dens_length, hlen]
            by_cases hi : off ≤ i ∧ i < off + size
            · rw [if_pos ⟨hi.1, hi.2, by omega⟩, if_pos hi]
            · rw [if_neg (fun h => hi ⟨h.1, h.2.1⟩), if_neg hi]
          rw [if_neg (by simpa using hfit)]
          have e' : (Array.foldl (fun cs x => match x with | (c, j) => cs.setIfInBounds (off + j) c) (SV.dens ρ cs).toArray (SV.dens ρ vs).toArray.zipIdx) = (SV.dens ρ c).toArray := e
          rw [e']
          exact ih
        · cases h
    · cases h

theorem fieldsTD_places {P : Program} : ∀ {gs : List Field} {fs : List (Nat × Nat × Nat)}, fieldsTD P gs = some fs → gs.mapM (fun f => (P.info? f.type).map fun i => (f.offset, i.size)) = some (fs.map fun f => (f.2.1, f.2.2))
  | [], fs, h => by simp only [fieldsTD] at h; cases h; rfl
  | g :: gs, fs, h => by
    simp only [fieldsTD] at h
    split at h
    · cases h
    · rename_i j hj
      split at h
      · cases h
      · rename_i r hr
        cases h
        simp [List.mapM_cons, hj, fieldsTD_places hr]

theorem ofVals_den {l : List Value} {r : List SV} (h : ofVals l = some r) (ρ : Env) : (SV.dens ρ r).toArray = l.toArray := by rw [(ofVals_spec h ρ 0 0).1]

theorem buildV_ok (hty : TyOk P ty) {t : TypeId} {ps : List (Nat × SV)} {v : SV} (h : buildV ty t ps = some v) (ρ : Env) (parts : Array (Nat × Value)) (hp : parts.toList = ps.map fun p => (p.1, p.2.den ρ)) (w : World) :
    (Instr.build t parts).run P w = .ok (v.den ρ) w := by
  unfold buildV at h
  split at h
  · cases h
  · rename_i e he
    obtain ⟨dd, i, hu, hi, hm, hs, _, hz⟩ := hty.info he
    split at h
    · rename_i z fs b hz1 hd
      rw [hd] at hm
      obtain ⟨gs, rfl, hf, _⟩ := mkTD_struct hm
      obtain ⟨zv, hzv, hzc, _⟩ := hz z hz1
      split at h <;> cases h
      rename_i l hl
      refine run_build w t parts _ ?_
      unfold Program.built
      simp only [hi, hu, hzv, fieldsTD_places hf]
      rw [hp, show zv.cells = (SV.dens ρ z).toArray from by rw [ofVals_den hzc ρ]]
      refine fill_ok (fun j p hj => ?_) ρ ps hl
      unfold fieldPl at hj
      rw [nth_eq] at hj
      split at hj
      · rename_i f hf'
        cases hj
        simp [hf']
      · cases hj
    · rename_i z n el m hz1 hd
      rw [hd] at hm
      obtain ⟨rfl, j, hj, rfl⟩ := mkTD_arr hm
      obtain ⟨zv, hzv, hzc, _⟩ := hz z hz1
      split at h <;> cases h
      rename_i l hl
      refine run_build w t parts _ ?_
      unfold Program.built
      simp only [hi, hu, hzv, hj]
      rw [hp, show zv.cells = (SV.dens ρ z).toArray from by rw [ofVals_den hzc ρ]]
      exact fill_ok (fun _ p hj => hj) ρ ps hl
    · cases h

theorem evps_array (hc : Cx ρ ni nb pc tm a) {xs : Array (Nat × Operand)} {ps : List (Nat × SV)} (h : evPs pc tm xs.toList = some ps) : (xs.map fun (i, x) => (i, a.eval x)).toList = ps.map fun p => (p.1, p.2.den ρ) := by
  have := (hc.evps h).1
  simpa using this

theorem pBuild_ok (hty : TyOk P ty) (hc : Cx ρ ni nb pc tm a) {t : TypeId} {parts : Array (Nat × Operand)} (ho : o.op = .build t parts) (h : pBuild ty tm ni pc t parts = some (v, d)) : Pure P o a ρ v d := by
  unfold pBuild at h
  simp only at h
  split at h
  · rename_i ps hps
    split at h <;> cases h
    rename_i hb
    refine Pure.plain hc.hni fun w => ?_
    unfold execOp
    simp only [ho, Sem.run_bind, buildV_ok hty hb ρ _ (evps_array hc hps) w, Result.andThen_ok, Sem.run_pure]
  · cases h

/-! ### Slices -/
theorem run_sliceBound {k : IntKind} {n y : Nat} (h : n ≤ y) (c : BoundsCode) (w : World) : (Instr.sliceBound (.int k (n : Int)) y c).run P w = .ok n w := by
  have : (0 : Int) ≤ (n : Int) ∧ (n : Int) ≤ (y : Int) := by omega
  simp [Instr.sliceBound, asIntOf]
  intro hh; omega
theorem bnd_ok (hc : Cx ρ ni nb pc tm a) {x : Option Operand} {dflt n : Nat} (h : bnd pc tm x dflt = some n) : (x = none ∧ n = dflt) ∨ ∃ k, x.map a.eval = some (.int k (n : Int)) := by
  unfold bnd at h
  split at h
  · cases h; exact .inl ⟨rfl, rfl⟩
  · rename_i y
    split at h
    · rename_i k c hy
      right
      refine ⟨k, ?_⟩
      simp only [Option.map_some, (hc.ev hy).1, SV.den, A.den, litNat_eq h]
    · cases h
theorem sliceBounds_ok (hc : Cx ρ ni nb pc tm a) {isS : Bool} {len cap l h : Nat} {lo hi : Option Operand} (hl : bnd pc tm lo 0 = some l) (hh : bnd pc tm hi len = some h) (h1 : h ≤ cap) (h2 : l ≤ h) (w : World) :
    (Instr.sliceBounds isS len cap (lo.map a.eval) (hi.map a.eval) none).run P w = .ok (l, h, cap) w := by
  unfold Instr.sliceBounds
  rcases bnd_ok hc hl with ⟨rfl, rfl⟩ | ⟨k, hk⟩ <;> rcases bnd_ok hc hh with ⟨rfl, rfl⟩ | ⟨k', hk'⟩
  · simp
  · simp [hk', run_sliceBound h1]
  · simp [hk, run_sliceBound h2]
  · simp [hk, hk', run_sliceBound h1, run_sliceBound h2]

theorem toList_eq_data (s : ByteArray) : s.toList = s.data.toList := ByteArray.toList_eq s

theorem sliceV_ok (hty : TyOk P ty) (hc : Cx ρ ni nb pc tm a) {t : TypeId} {x v : SV} {lo hi : Option Operand} (h : sliceV ty t x lo hi pc tm = some v) (w : World) :
    (Instr.sliceAt t (x.den ρ) (lo.map a.eval) (hi.map a.eval) none).run P w = .ok (v.den ρ) w := by
  unfold sliceV at h
  split at h
  · cases h
  · rename_i e he
    obtain ⟨dd, i, hu, hi', hm, hs, _, _⟩ := hty.info he
    split at h
    · rename_i el n hd
      rw [hd] at hm
      obtain ⟨rfl, j, hj, rfl⟩ := mkTD_slice hm
      split at h
      · split at h
        · rename_i h1 h2
          cases h
          have := sliceBounds_ok (P := P) hc (isS := true) (len := 0) (cap := 0) h1 h2 (Nat.le_refl _) (Nat.le_refl _) w
          simp [Instr.sliceAt, run_underlying hu, SV.den, Instr.slice, this, run_size hj]
        · cases h
      · rename_i b off len cap
        split at h
        · rename_i hh hhb
          cases hle : Nat.ble hh cap <;> rw [hle] at h <;> simp only [cond_true, cond_false] at h
          · cases h
          · split at h
            · rename_i l hlb
              cases hll : Nat.ble l hh <;> rw [hll] at h <;> simp only [cond_true, cond_false] at h
              · cases h
              · cases h
                have := sliceBounds_ok (P := P) hc (isS := true) hlb hhb (ble_nat hle) (ble_nat hll) w
                simp only [Instr.sliceAt, Sem.run_bind, run_underlying hu, Result.andThen_ok, SV.den, Instr.slice, this, run_size hj, Sem.run_pure]
                congr 2
                cases hcl : Nat.beq cap l
                · simp only [cond_false]
                  rw [if_neg (by intro e; rw [e] at hcl; simp at hcl)]
                  simp [add_plain]
                · simp only [cond_true]
                  rw [if_pos (beq_nat hcl)]
            · cases h
        · cases h
      · cases h
    · rename_i hd
      rw [hd] at hm
      cases mkTD_str hm
      split at h
      · rename_i s
        split at h
        · rename_i hh hhb
          cases hle : Nat.ble hh s.length <;> rw [hle] at h <;> simp only [cond_true, cond_false] at h
          · cases h
          · split at h
            · rename_i l hlb
              cases hll : Nat.ble l hh <;> rw [hll] at h <;> simp only [cond_true, cond_false] at h
              · cases h
              · split at h <;> cases h
                rename_i r hr
                rw [dropN_eq] at hr
                obtain ⟨hr1, rfl⟩ := takeN_eq _ _ _ hr
                have := sliceBounds_ok (P := P) hc (isS := false) hlb hhb (ble_nat hle) (ble_nat hll) w
                have hsz : (⟨s.toArray⟩ : ByteArray).size = s.length := by simp [ByteArray.size]
                simp only [Instr.sliceAt, Sem.run_bind, run_underlying hu, Result.andThen_ok, SV.den, Instr.slice, hsz, this, Sem.run_pure, Option.isSome_none, Bool.false_eq_true, if_false]
                congr 2
                apply ByteArray.ext
                rw [ByteArray.data_extract]
                simp [List.extract_eq_take_drop]
            · cases h
        · cases h
      · cases h
    · rename_i n el m hd
      rw [hd] at hm
      obtain ⟨rfl, j, hj, rfl⟩ := mkTD_arr hm
      split at h
      · rename_i hh hhb
        cases hle : Nat.ble hh n <;> rw [hle] at h <;> simp only [cond_true, cond_false] at h
        · cases h
        · split at h
          · rename_i l hlb
            cases hll : Nat.ble l hh <;> rw [hll] at h <;> simp only [cond_true, cond_false] at h
            · cases h
            · split at h
              · rename_i b off
                cases h
                have := sliceBounds_ok (P := P) hc (isS := false) hlb hhb (ble_nat hle) (ble_nat hll) w
                simp only [Instr.sliceAt, Sem.run_bind, run_underlying hu, Result.andThen_ok, SV.den, Instr.sureAddr, Sem.run_pure, this, run_size hj]
                congr 2
                cases hcl : Nat.beq n l
                · simp only [cond_false]
                  rw [if_neg (by intro e; rw [e] at hcl; simp at hcl)]
                  simp [add_plain]
                · simp only [cond_true]
                  rw [if_pos (beq_nat hcl)]
              · cases h
          · cases h
      · cases h
    · cases h

theorem pSlice_ok (hty : TyOk P ty) (hc : Cx ρ ni nb pc tm a) {t : TypeId} {x : Operand} {lo hi mx : Option Operand} (ho : o.op = .slice t x lo hi mx) (h : pSlice ty tm ni pc t x lo hi mx = some (v, d)) : Pure P o a ρ v d := by
  unfold pSlice at h
  simp only at h
  split at h
  · rename_i hx
    split at h <;> cases h
    rename_i hs
    refine Pure.plain hc.hni fun w => ?_
    unfold execOp
    simp only [ho, (hc.ev hx).1, Option.map_none, Sem.run_bind, sliceV_ok hty hc hs w, Result.andThen_ok, Sem.run_pure]
  · cases h

/-! ### len, min, max -/
theorem lenV_ok (hty : TyOk P ty) {t : TypeId} {x : SV} {n : Nat} (h : lenV ty t x = some n) (ρ : Env) (tt : TypeId) (w : World) : (Builtin.len_ #[t] tt #[x.den ρ]).run P w = .ok (.int .i64 n) w := by
  unfold lenV at h
  split at h
  · cases h
  · rename_i e he
    obtain ⟨dd, i, hu, hi', hm, hs, _, _⟩ := hty.info he
    split at h
    · rename_i hd
      rw [hd] at hm
      cases mkTD_str hm
      split at h <;> cases h
      rename_i s
      have hsz : (⟨s.toArray⟩ : ByteArray).size = s.length := rfl
      simp [Builtin.len_, run_underlying hu, SV.den, goInt, hsz]
    · rename_i hd
      rw [hd] at hm
      obtain ⟨rfl, j, hj, rfl⟩ := mkTD_arr hm
      cases h
      simp [Builtin.len_, run_underlying hu, goInt]
    · rename_i hd
      rw [hd] at hm
      obtain ⟨rfl, j, hj, rfl⟩ := mkTD_slice hm
      split at h <;> cases h <;> simp [Builtin.len_, run_underlying hu, SV.den, goInt]
    · cases h

theorem foldMM_ok {is : List Int} {bs : List (Nat × Nat)} (hl : is.length = ni) (m : Bool) (P : Program) (w : World) : ∀ {l : List SV} {x : A} {k : IntKind} {d : Bd} {v : SV} {d' : Bd}, SV.wfs ni nb l = true → x.wf d.ni = true → d.ni = ni + d.es.length → foldMM m l x k d = some (v, d') →
    d'.ni = ni + d'.es.length ∧ ((SV.dens ⟨is, bs⟩ l).foldlM (if m then Builtin.min2 else Builtin.max2) (.int k (x.den (extE is d.es)))).run P w = .ok (v.den ⟨extE is d'.es, bs⟩) w
  | [], x, k, d, v, d', _, _, hd, h => by
    simp only [foldMM] at h
    cases h
    exact ⟨hd, rfl⟩
  | y :: l, x, k, d, v, d', hw, hx, hd, h => by
    cases y with
    | int k' y =>
      simp only [foldMM] at h
      cases hk : kindEq k k' <;> rw [hk] at h <;> simp only [cond_true, cond_false] at h
      · cases h
      · cases kindEq_eq hk
        simp only [SV.wfs, SV.wf, Bool.and_eq_true] at hw
        obtain ⟨g1, ⟨z, g2⟩, g3, g4, g5⟩ := bind_spec (is := is) hl hd (bif m then .mn x y else .mx x y)
        obtain ⟨r1, r2⟩ := foldMM_ok (bs := bs) hl m P w hw.2 g4 g1 h
        refine ⟨r1, ?_⟩
        obtain ⟨u, hu, hul⟩ := extE_app d.es is
        have hy : y.den (extE is d.es) = y.den is := by rw [hu, A.den_app (by rw [hl]; exact hw.1)]
        simp only [SV.dens, List.foldlM_cons, Sem.run_bind]
        have step : ((if m then Builtin.min2 else Builtin.max2) (.int k (x.den (extE is d.es))) (SV.den ⟨is, bs⟩ (.int k y))).run P w = .ok (.int k ((d.bind (bif m then .mn x y else .mx x y)).1.den (extE is (d.bind (bif m then .mn x y else .mx x y)).2.es))) w := by
          rw [g3]
          cases m
          · simp [SV.den, Builtin.max2, E.den, hy]
          · simp [SV.den, Builtin.min2, E.den, hy]
        rw [step]
        exact r2
    | _ => simp [foldMM] at h

theorem pCall_ok (hty : TyOk P ty) (hc : Cx ρ ni nb pc tm a) {c : Call} (ho : o.op = .call c) (h : pCall ty tm ni pc c = some (v, d)) : Pure P o a ρ v d := by
  obtain ⟨ce, args, ats⟩ := c
  unfold pCall at h
  simp only at h
  split at h
  · rename_i hce
    split at h
    · rename_i t x ht hx
      split at h <;> cases h
      rename_i n hn
      have ht' : ats = #[t] := by apply Array.ext'; simpa using ht
      have hx' := evs_array hc hx
      refine Pure.plain hc.hni fun w => ?_
      unfold execOp
      simp only [ho, resolve, hx', ht', invoke, builtin, Sem.run_bind, Sem.run_pure, Result.andThen_ok, SV.dens, lenV_ok hty hn ρ, SV.den, A.den]
    · cases h
  · rename_i hce
    split at h
    · rename_i k x l hx
      have hx' := evs_array hc hx
      have hw := (hc.evs hx).2
      simp only [SV.wfs, SV.wf, Bool.and_eq_true] at hw
      obtain ⟨h1, _⟩ := foldMM_ok (bs := ρ.bs) hc.hni true P default hw.2 (d := ⟨ni, []⟩) hw.1 (by simp) h
      refine ⟨by rw [hc.hni]; exact h1, fun w => ?_⟩
      have := (foldMM_ok (bs := ρ.bs) hc.hni true P w hw.2 (d := ⟨ni, []⟩) hw.1 (by simp) h).2
      simp only [if_true, extE] at this
      unfold execOp
      simp only [ho, resolve, hx', invoke, builtin, Builtin.min_, Sem.run_bind, Sem.run_pure, Result.andThen_ok, SV.dens, SV.den, this]
    · cases h
  · rename_i hce
    split at h
    · rename_i k x l hx
      have hx' := evs_array hc hx
      have hw := (hc.evs hx).2
      simp only [SV.wfs, SV.wf, Bool.and_eq_true] at hw
      obtain ⟨h1, _⟩ := foldMM_ok (bs := ρ.bs) hc.hni false P default hw.2 (d := ⟨ni, []⟩) hw.1 (by simp) h
      refine ⟨by rw [hc.hni]; exact h1, fun w => ?_⟩
      have := (foldMM_ok (bs := ρ.bs) hc.hni false P w hw.2 (d := ⟨ni, []⟩) hw.1 (by simp) h).2
      simp only [Bool.false_eq_true, if_false, extE] at this
      unfold execOp
      simp only [ho, resolve, hx', invoke, builtin, Builtin.max_, Sem.run_bind, Sem.run_pure, Result.andThen_ok, SV.dens, SV.den, this]
    · cases h
  · cases h

/-- All pure operations. -/
theorem pureOp_ok (hty : TyOk P ty) (hc : Cx ρ ni nb pc tm a) (h : pureOp ty o.op tm ni pc = some (v, d)) : Pure P o a ρ v d := by
  unfold pureOp at h
  split at h
  · exact pMove_ok (ty := ty) hc (.inl ‹_›) h
  · exact pMove_ok (ty := ty) hc (.inr ‹_›) h
  · exact pPick_ok (ty := ty) hc ‹_› h
  · exact pBinOp_ok hty hc ‹_› h
  · exact pUnOp_ok (ty := ty) hc ‹_› h
  · exact pConvert_ok hty hc ‹_› h
  · exact pMakeFunc_ok (ty := ty) hc ‹_› h
  · exact pMakeInterface_ok hty hc ‹_› h
  · exact pFieldAddr_ok hty hc ‹_› h
  · exact pField_ok hty hc ‹_› h
  · exact pExtract_ok (ty := ty) hc ‹_› h
  · exact pBuild_ok hty hc ‹_› h
  · exact pIndexAddr_ok hty hc ‹_› h
  · exact pIndex_ok hty hc ‹_› h
  · exact pSlice_ok hty hc ‹_› h
  · exact pNilCheck_ok (ty := ty) hc ‹_› h
  · exact pCall_ok hty hc ‹_› h
  · cases h

end Go.SX
