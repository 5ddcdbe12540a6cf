/- The symbolic executor SX, its soundness, part 6: structs put together, slices cut, built-in functions; all pure operations. -/
import Derived.Test.YtncaejnkpmmoeaaDoorSxU2
import Derived.Laws.Tables
import Derived.Maps.AppendAt
import Derived.Deep.AppendLies
import Derived.Laws.CopyRow
import Derived.Great.BuildSlice
set_option linter.unusedVariables false
set_option linter.unusedSimpArgs false
namespace Go.SX
open Go Go.RowKit

variable {P : Program} {ty : Ty} {ρ : Env} {ni nb : Nat} {pc : List (B × Bool)} {tm : Tm} {a : Act} {o : Oper} {v : SV} {d : Bd}

theorem foldl_put : ∀ (vs : List Value) (k off : Nat) (cs : Array Value),
    ((vs.zipIdx k).foldl (fun cs x => cs.setIfInBounds (off + x.2) x.1) cs).size = cs.size ∧
    ∀ i, ((vs.zipIdx k).foldl (fun cs x => cs.setIfInBounds (off + x.2) x.1) cs)[i]? = if off + k ≤ i ∧ i < off + k + vs.length ∧ i < cs.size then vs[i - (off + k)]? else cs[i]?
  | [], k, off, cs => by
    refine ⟨rfl, fun i => ?_⟩
    rw [if_neg (by simp; omega)]; rfl
  | v :: vs, k, off, cs => by
    simp only [List.zipIdx_cons, List.foldl_cons]
    obtain ⟨h1, h2⟩ := foldl_put vs (k + 1) off (cs.setIfInBounds (off + k) v)
    refine ⟨by rw [h1]; simp, fun i => ?_⟩
    rw [h2 i]
    simp only [Array.size_setIfInBounds, List.length_cons, Array.getElem?_setIfInBounds]
    by_cases hi : off + (k + 1) ≤ i ∧ i < off + (k + 1) + vs.length ∧ i < cs.size
    · rw [if_pos hi, if_pos (by omega), show i - (off + k) = (i - (off + (k + 1))) + 1 from by omega, List.getElem?_cons_succ]
    · rw [if_neg hi]
      by_cases he : off + k = i
      · subst he
        rw [if_pos rfl]
        by_cases hs : off + k < cs.size
        · rw [if_pos hs, if_pos (by omega)]; simp
        · rw [if_neg hs, if_neg (by omega), Array.getElem?_eq_none (by omega)]
      · rw [if_neg he]
        rw [if_neg (by omega)]

theorem fill_ok {place place' : Nat → Option (Nat × Nat)} (hp : ∀ i p, place i = some p → place' i = some p) (ρ : Env) : ∀ (ps : List (Nat × SV)) {cs r : List SV}, fillL place cs ps = some r →
    Instr.fill place' (SV.dens ρ cs).toArray (ps.map fun p => (p.1, p.2.den ρ)) = some (SV.dens ρ r).toArray
  | [], cs, r, h => by simp only [fillL] at h; cases h; rfl
  | (i, v) :: ps, cs, r, h => by
    simp only [fillL] at h
    split at h
    · rename_i off size vs hpl hvs
      cases hl : Nat.beq vs.length size
      · rw [hl] at h; cases h
      · rw [hl] at h
        simp only [cond_true] at h
        split at h
        · rename_i c hc
          have hcells := cellsOf_spec hvs ρ
          have hlen := beq_nat hl
          obtain ⟨p1, p2, p3⟩ := putN_spec _ _ _ _ hc
          simp only [List.map_cons, Instr.fill, hp _ _ hpl, hcells, List.size_toArray, dens_length, hlen]
          rw [hlen] at p2
          have hfit : ((size != size) || decide (off + size > cs.length)) = false := by simp; omega
          have ih := fill_ok hp ρ ps h
          have e : (SV.dens ρ vs).toArray.zipIdx.foldl (fun cs x => cs.setIfInBounds (off + x.2) x.1) (SV.dens ρ cs).toArray = (SV.dens ρ c).toArray := by
            obtain ⟨f1, f2⟩ := foldl_put (SV.dens ρ vs) 0 off (SV.dens ρ cs).toArray
            rw [← Array.foldl_toList, Array.toList_zipIdx]
            apply Array.ext_getElem?
            intro i
            rw [f2 i]
            simp only [List.getElem?_toArray, dens_getElem?, p3, Nat.add_zero, List.size_toArray, dens_length, hlen]
            by_cases hi : off ≤ i ∧ i < off + size
            · rw [if_pos ⟨hi.1, hi.2, by omega⟩, if_pos hi]
            · rw [if_neg (fun h => hi ⟨h.1, h.2.1⟩), if_neg hi]
          rw [if_neg (by simpa using hfit)]
          have e' : (Array.foldl (fun cs x => match x with | (c, j) => cs.setIfInBounds (off + j) c) (SV.dens ρ cs).toArray (SV.dens ρ vs).toArray.zipIdx) = (SV.dens ρ c).toArray := e
          rw [e']
          exact ih
        · cases h
    · cases h

theorem fieldsTD_places {P : Program} : ∀ {gs : List Field} {fs : List (Nat × Nat × Nat)}, fieldsTD P gs = some fs → gs.mapM (fun f => (P.info? f.type).map fun i => (f.offset, i.size)) = some (fs.map fun f => (f.2.1, f.2.2))
  | [], fs, h => by simp only [fieldsTD] at h; cases h; rfl
  | g :: gs, fs, h => by
    simp only [fieldsTD] at h
    split at h
    · cases h
    · rename_i j hj
      split at h
      · cases h
      · rename_i r hr
        cases h
        simp [List.mapM_cons, hj, fieldsTD_places hr]

theorem ofVals_den {l : List Value} {r : List SV} (h : ofVals l = some r) (ρ : Env) : (SV.dens ρ r).toArray = l.toArray := by rw [(ofVals_spec h ρ 0 0).1]

theorem buildV_ok (hty : TyOk P ty) {t : TypeId} {ps : List (Nat × SV)} {v : SV} (h : buildV ty t ps = some v) (ρ : Env) (parts : Array (Nat × Value)) (hp : parts.toList = ps.map fun p => (p.1, p.2.den ρ)) (w : World) :
    (Instr.build t parts).run P w = .ok (v.den ρ) w := by
  unfold buildV at h
  split at h
  · cases h
  · rename_i e he
    obtain ⟨dd, i, hu, hi, hm, hs, _, hz⟩ := hty.info he
    split at h
    · rename_i z fs b hz1 hd
      rw [hd] at hm
      obtain ⟨gs, rfl, hf, _⟩ := mkTD_struct hm
      obtain ⟨zv, hzv, hzc, _⟩ := hz z hz1
      split at h <;> cases h
      rename_i l hl
      refine run_build w t parts _ ?_
      unfold Program.built
      simp only [hi, hu, hzv, fieldsTD_places hf]
      rw [hp, show zv.cells = (SV.dens ρ z).toArray from by rw [ofVals_den hzc ρ]]
      refine fill_ok (fun j p hj => ?_) ρ ps hl
      unfold fieldPl at hj
      rw [nth_eq] at hj
      split at hj
      · rename_i f hf'
        cases hj
        simp [hf']
      · cases hj
    · rename_i z n el m hz1 hd
      rw [hd] at hm
      obtain ⟨rfl, j, hj, rfl⟩ := mkTD_arr hm
      obtain ⟨zv, hzv, hzc, _⟩ := hz z hz1
      split at h <;> cases h
      rename_i l hl
      refine run_build w t parts _ ?_
      unfold Program.built
      simp only [hi, hu, hzv, hj]
      rw [hp, show zv.cells = (SV.dens ρ z).toArray from by rw [ofVals_den hzc ρ]]
      exact fill_ok (fun _ p hj => hj) ρ ps hl
    · cases h

theorem evps_array (hc : Cx ρ ni nb pc tm a) {xs : Array (Nat × Operand)} {ps : List (Nat × SV)} (h : evPs pc tm xs.toList = some ps) : (xs.map fun (i, x) => (i, a.eval x)).toList = ps.map fun p => (p.1, p.2.den ρ) := by
  have := (hc.evps h).1
  simpa using this

theorem pBuild_ok (hty : TyOk P ty) (hc : Cx ρ ni nb pc tm a) {t : TypeId} {parts : Array (Nat × Operand)} (ho : o.op = .build t parts) (h : pBuild ty tm ni pc t parts = some (v, d)) : Pure P o a ρ v d := by
  unfold pBuild at h
  simp only at h
  split at h
  · rename_i ps hps
    split at h <;> cases h
    rename_i hb
    refine Pure.plain hc.hni fun w => ?_
    unfold execOp
    simp only [ho, Sem.run_bind, buildV_ok hty hb ρ _ (evps_array hc hps) w, Result.andThen_ok, Sem.run_pure]
  · cases h

/-! ### Slices -/
theorem run_sliceBound {k : IntKind} {n y : Nat} (h : n ≤ y) (c : BoundsCode) (w : World) : (Instr.sliceBound (.int k (n : Int)) y c).run P w = .ok n w := by
  have : (0 : Int) ≤ (n : Int) ∧ (n : Int) ≤ (y : Int) := by omega
  simp [Instr.sliceBound, asIntOf]
  intro hh; omega
theorem bnd_ok (hc : Cx ρ ni nb pc tm a) {x : Option Operand} {dflt n : Nat} (h : bnd pc tm x dflt = some n) : (x = none ∧ n = dflt) ∨ ∃ k, x.map a.eval = some (.int k (n : Int)) := by
  unfold bnd at h
  split at h
  · cases h; exact .inl ⟨rfl, rfl⟩
  · rename_i y
    split at h
    · rename_i k c hy
      right
      refine ⟨k, ?_⟩
      simp only [Option.map_some, (hc.ev hy).1, SV.den, A.den, litNat_eq h]
    · cases h
theorem sliceBounds_ok (hc : Cx ρ ni nb pc tm a) {isS : Bool} {len cap l h : Nat} {lo hi : Option Operand} (hl : bnd pc tm lo 0 = some l) (hh : bnd pc tm hi len = some h) (h1 : h ≤ cap) (h2 : l ≤ h) (w : World) :
    (Instr.sliceBounds isS len cap (lo.map a.eval) (hi.map a.eval) none).run P w = .ok (l, h, cap) w := by
  unfold Instr.sliceBounds
  rcases bnd_ok hc hl with ⟨rfl, rfl⟩ | ⟨k, hk⟩ <;> rcases bnd_ok hc hh with ⟨rfl, rfl⟩ | ⟨k', hk'⟩
  · simp
  · simp [hk', run_sliceBound h1]
  · simp [hk, run_sliceBound h2]
  · simp [hk, hk', run_sliceBound h1, run_sliceBound h2]

theorem toList_eq_data (s : ByteArray) : s.toList = s.data.toList := ByteArray.toList_eq s

theorem sliceV_ok (hty : TyOk P ty) (hc : Cx ρ ni nb pc tm a) {t : TypeId} {x v : SV} {lo hi : Option Operand} (h : sliceV ty t x lo hi pc tm = some v) (w : World) :
    (Instr.sliceAt t (x.den ρ) (lo.map a.eval) (hi.map a.eval) none).run P w = .ok (v.den ρ) w := by
  unfold sliceV at h
  split at h
  · cases h
  · rename_i e he
    obtain ⟨dd, i, hu, hi', hm, hs, _, _⟩ := hty.info he
    split at h
    · rename_i el n hd
      rw [hd] at hm
      obtain ⟨rfl, j, hj, rfl⟩ := mkTD_slice hm
      split at h
      · split at h
        · rename_i h1 h2
          cases h
          have := sliceBounds_ok (P := P) hc (isS := true) (len := 0) (cap := 0) h1 h2 (Nat.le_refl _) (Nat.le_refl _) w
          simp [Instr.sliceAt, run_underlying hu, SV.den, Instr.slice, this, run_size hj]
        · cases h
      · rename_i b off len cap
        split at h
        · rename_i hh hhb
          cases hle : Nat.ble hh cap <;> rw [hle] at h <;> simp only [cond_true, cond_false] at h
          · cases h
          · split at h
            · rename_i l hlb
              cases hll : Nat.ble l hh <;> rw [hll] at h <;> simp only [cond_true, cond_false] at h
              · cases h
              · cases h
                have := sliceBounds_ok (P := P) hc (isS := true) hlb hhb (ble_nat hle) (ble_nat hll) w
                simp only [Instr.sliceAt, Sem.run_bind, run_underlying hu, Result.andThen_ok, SV.den, Instr.slice, this, run_size hj, Sem.run_pure]
                congr 2
                cases hcl : Nat.beq cap l
                · simp only [cond_false]
                  rw [if_neg (by intro e; rw [e] at hcl; simp at hcl)]
                  simp [add_plain]
                · simp only [cond_true]
                  rw [if_pos (beq_nat hcl)]
            · cases h
        · cases h
      · cases h
    · rename_i hd
      rw [hd] at hm
      cases mkTD_str hm
      split at h
      · rename_i s
        split at h
        · rename_i hh hhb
          cases hle : Nat.ble hh s.length <;> rw [hle] at h <;> simp only [cond_true, cond_false] at h
          · cases h
          · split at h
            · rename_i l hlb
              cases hll : Nat.ble l hh <;> rw [hll] at h <;> simp only [cond_true, cond_false] at h
              · cases h
              · split at h <;> cases h
                rename_i r hr
                rw [dropN_eq] at hr
                obtain ⟨hr1, rfl⟩ := takeN_eq _ _ _ hr
                have := sliceBounds_ok (P := P) hc (isS := false) hlb hhb (ble_nat hle) (ble_nat hll) w
                have hsz : (⟨s.toArray⟩ : ByteArray).size = s.length := by simp [ByteArray.size]
                simp only [Instr.sliceAt, Sem.run_bind, run_underlying hu, Result.andThen_ok, SV.den, Instr.slice, hsz, this, Sem.run_pure, Option.isSome_none, Bool.false_eq_true, if_false]
                congr 2
                apply ByteArray.ext
                rw [ByteArray.data_extract]
                simp [List.extract_eq_take_drop]
            · cases h
        · cases h
      · cases h
    · rename_i n el m hd
      rw [hd] at hm
      obtain ⟨rfl, j, hj, rfl⟩ := mkTD_arr hm
      split at h
      · rename_i hh hhb
        cases hle : Nat.ble hh n <;> rw [hle] at h <;> simp only [cond_true, cond_false] at h
        · cases h
        · split at h
          · rename_i l hlb
            cases hll : Nat.ble l hh <;> rw [hll] at h <;> simp only [cond_true, cond_false] at h
            · cases h
            · split at h
              · rename_i b off
                cases h
                have := sliceBounds_ok (P := P) hc (isS := false) hlb hhb (ble_nat hle) (ble_nat hll) w
                simp only [Instr.sliceAt, Sem.run_bind, run_underlying hu, Result.andThen_ok, SV.den, Instr.sureAddr, Sem.run_pure, this, run_size hj]
                congr 2
                cases hcl : Nat.beq n l
                · simp only [cond_false]
                  rw [if_neg (by intro e; rw [e] at hcl; simp at hcl)]
                  simp [add_plain]
                · simp only [cond_true]
                  rw [if_pos (beq_nat hcl)]
              · cases h
          · cases h
      · cases h
    · cases h

theorem pSlice_ok (hty : TyOk P ty) (hc : Cx ρ ni nb pc tm a) {t : TypeId} {x : Operand} {lo hi mx : Option Operand} (ho : o.op = .slice t x lo hi mx) (h : pSlice ty tm ni pc t x lo hi mx = some (v, d)) : Pure P o a ρ v d := by
  unfold pSlice at h
  simp only at h
  split at h
  · rename_i hx
    split at h <;> cases h
    rename_i hs
    refine Pure.plain hc.hni fun w => ?_
    unfold execOp
    simp only [ho, (hc.ev hx).1, Option.map_none, Sem.run_bind, sliceV_ok hty hc hs w, Result.andThen_ok, Sem.run_pure]
  · cases h

/-! ### len, min, max -/
theorem lenV_ok (hty : TyOk P ty) {t : TypeId} {x : SV} {n : Nat} (h : lenV ty t x = some n) (ρ : Env) (tt : TypeId) (w : World) : (Builtin.len_ #[t] tt #[x.den ρ]).run P w = .ok (.int .i64 n) w := by
  unfold lenV at h
  split at h
  · cases h
  · rename_i e he
    obtain ⟨dd, i, hu, hi', hm, hs, _, _⟩ := hty.info he
    split at h
    · rename_i hd
      rw [hd] at hm
      cases mkTD_str hm
      split at h <;> cases h
      rename_i s
      have hsz : (⟨s.toArray⟩ : ByteArray).size = s.length := rfl
      simp [Builtin.len_, run_underlying hu, SV.den, goInt, hsz]
    · rename_i hd
      rw [hd] at hm
      obtain ⟨rfl, j, hj, rfl⟩ := mkTD_arr hm
      cases h
      simp [Builtin.len_, run_underlying hu, goInt]
    · rename_i hd
      rw [hd] at hm
      obtain ⟨rfl, j, hj, rfl⟩ := mkTD_slice hm
      split at h <;> cases h <;> simp [Builtin.len_, run_underlying hu, SV.den, goInt]
    · cases h

theorem foldMM_ok {is : List Int} {bs : List (Nat × Nat)} (hl : is.length = ni) (m : Bool) (P : Program) (w : World) : ∀ {l : List SV} {x : A} {k : IntKind} {d : Bd} {v : SV} {d' : Bd}, SV.wfs ni nb l = true → x.wf d.ni = true → d.ni = ni + d.es.length → foldMM m l x k d = some (v, d') →
    d'.ni = ni + d'.es.length ∧ ((SV.dens ⟨is, bs⟩ l).foldlM (if m then Builtin.min2 else Builtin.max2) (.int k (x.den (extE is d.es)))).run P w = .ok (v.den ⟨extE is d'.es, bs⟩) w
  | [], x, k, d, v, d', _, _, hd, h => by
    simp only [foldMM] at h
    cases h
    exact ⟨hd, rfl⟩
  | y :: l, x, k, d, v, d', hw, hx, hd, h => by
    cases y with
    | int k' y =>
      simp only [foldMM] at h
      cases hk : kindEq k k' <;> rw [hk] at h <;> simp only [cond_true, cond_false] at h
      · cases h
      · cases kindEq_eq hk
        simp only [SV.wfs, SV.wf, Bool.and_eq_true] at hw
        obtain ⟨g1, ⟨z, g2⟩, g3, g4, g5⟩ := bind_spec (is := is) hl hd (bif m then .mn x y else .mx x y)
        obtain ⟨r1, r2⟩ := foldMM_ok (bs := bs) hl m P w hw.2 g4 g1 h
        refine ⟨r1, ?_⟩
        obtain ⟨u, hu, hul⟩ := extE_app d.es is
        have hy : y.den (extE is d.es) = y.den is := by rw [hu, A.den_app (by rw [hl]; exact hw.1)]
        simp only [SV.dens, List.foldlM_cons, Sem.run_bind]
        have step : ((if m then Builtin.min2 else Builtin.max2) (.int k (x.den (extE is d.es))) (SV.den ⟨is, bs⟩ (.int k y))).run P w = .ok (.int k ((d.bind (bif m then .mn x y else .mx x y)).1.den (extE is (d.bind (bif m then .mn x y else .mx x y)).2.es))) w := by
          rw [g3]
          cases m
          · simp [SV.den, Builtin.max2, E.den, hy]
          · simp [SV.den, Builtin.min2, E.den, hy]
        rw [step]
        exact r2
    | _ => simp [foldMM] at h

theorem pCall_ok (hty : TyOk P ty) (hc : Cx ρ ni nb pc tm a) {c : Call} (ho : o.op = .call c) (h : pCall ty tm ni pc c = some (v, d)) : Pure P o a ρ v d := by
  obtain ⟨ce, args, ats⟩ := c
  unfold pCall at h
  simp only at h
  split at h
  · rename_i hce
    split at h
    · rename_i t x ht hx
      split at h <;> cases h
      rename_i n hn
      have ht' : ats = #[t] := by apply Array.ext'; simpa using ht
      have hx' := evs_array hc hx
      refine Pure.plain hc.hni fun w => ?_
      unfold execOp
      simp only [ho, resolve, hx', ht', invoke, builtin, Sem.run_bind, Sem.run_pure, Result.andThen_ok, SV.dens, lenV_ok hty hn ρ, SV.den, A.den]
    · cases h
  · rename_i hce
    split at h
    · rename_i k x l hx
      have hx' := evs_array hc hx
      have hw := (hc.evs hx).2
      simp only [SV.wfs, SV.wf, Bool.and_eq_true] at hw
      obtain ⟨h1, _⟩ := foldMM_ok (bs := ρ.bs) hc.hni true P default hw.2 (d := ⟨ni, []⟩) hw.1 (by simp) h
      refine ⟨by rw [hc.hni]; exact h1, fun w => ?_⟩
      have := (foldMM_ok (bs := ρ.bs) hc.hni true P w hw.2 (d := ⟨ni, []⟩) hw.1 (by simp) h).2
      simp only [if_true, extE] at this
      unfold execOp
      simp only [ho, resolve, hx', invoke, builtin, Builtin.min_, Sem.run_bind, Sem.run_pure, Result.andThen_ok, SV.dens, SV.den, this]
    · cases h
  · rename_i hce
    split at h
    · rename_i k x l hx
      have hx' := evs_array hc hx
      have hw := (hc.evs hx).2
      simp only [SV.wfs, SV.wf, Bool.and_eq_true] at hw
      obtain ⟨h1, _⟩ := foldMM_ok (bs := ρ.bs) hc.hni false P default hw.2 (d := ⟨ni, []⟩) hw.1 (by simp) h
      refine ⟨by rw [hc.hni]; exact h1, fun w => ?_⟩
      have := (foldMM_ok (bs := ρ.bs) hc.hni false P w hw.2 (d := ⟨ni, []⟩) hw.1 (by simp) h).2
      simp only [Bool.false_eq_true, if_false, extE] at this
      unfold execOp
      simp only [ho, resolve, hx', invoke, builtin, Builtin.max_, Sem.run_bind, Sem.run_pure, Result.andThen_ok, SV.dens, SV.den, this]
    · cases h
  · cases h

/-- All pure operations. -/
theorem pureOp_ok (hty : TyOk P ty) (hc : Cx ρ ni nb pc tm a) (h : pureOp ty o.op tm ni pc = some (v, d)) : Pure P o a ρ v d := by
  unfold pureOp at h
  split at h
  · exact pMove_ok (ty := ty) hc (.inl ‹_›) h
  · exact pMove_ok (ty := ty) hc (.inr ‹_›) h
  · exact pPick_ok (ty := ty) hc ‹_› h
  · exact pBinOp_ok hty hc ‹_› h
  · exact pUnOp_ok (ty := ty) hc ‹_› h
  · exact pConvert_ok hty hc ‹_› h
  · exact pMakeFunc_ok (ty := ty) hc ‹_› h
  · exact pMakeInterface_ok hty hc ‹_› h
  · exact pFieldAddr_ok hty hc ‹_› h
  · exact pField_ok hty hc ‹_› h
  · exact pExtract_ok (ty := ty) hc ‹_› h
  · exact pBuild_ok hty hc ‹_› h
  · exact pIndexAddr_ok hty hc ‹_› h
  · exact pIndex_ok hty hc ‹_› h
  · exact pSlice_ok hty hc ‹_› h
  · exact pNilCheck_ok (ty := ty) hc ‹_› h
  · exact pCall_ok hty hc ‹_› h
  · cases h

end Go.SX
set_option linter.unusedVariables false
set_option linter.unusedSimpArgs false
namespace Go.SX
open Go Go.RowKit

def SO.live : SO → Bool
  | .gone => false
  | _ => true
def esDen (ρ : Env) (es : List (SV × SV × Nat)) : List MapEntry := es.map fun e => ⟨e.1.den ρ, e.2.1.den ρ, e.2.2⟩
/-- A block holds what is known of it. -/
def SO.ok (ρ : Env) (w : World) (b : Nat) : SO → Prop
  | .cells c e => w.heap[ρ.b b]? = some (.cells (SV.dens ρ c).toArray e (0, 0))
  | .row c e s n => w.ownsRow 0 e s (.slice (some ⟨ρ.b b, 0, none⟩) n (ρ.cap b)) n (SV.dens ρ c)
  | .map es k => w.heap[ρ.b b]? = some (.map (esDen ρ es).toArray k)
  | .gone => True

/-- What the executor's state says of a world. -/
structure Md (C : Cfg) (w0 : World) (ρ : Env) (st : St) (w : World) : Prop where
  below : Below w0.heap.size w0 w
  hni : ρ.is.length = st.ni
  hnb : ρ.bs.length = st.nb
  hpc : PcOk ρ.is st.pc
  hpw : ∀ p ∈ st.pc, p.1.wf st.ni = true
  mem : ∀ i o, st.mem.get i = some o → i < st.nb ∧ o.wf st.ni st.nb = true ∧ (o.live = true → w0.heap.size ≤ ρ.b i ∧ SO.ok ρ w i o)
  inj : ∀ i j oi oj, st.mem.get i = some oi → st.mem.get j = some oj → oi.live = true → oj.live = true → ρ.b i = ρ.b j → i = j

/-- The package variables whose contents are constants. -/
def GOk (C : Cfg) (w : World) : Prop := ∀ g off n l, rdGl C.gl g off n = some l → ∀ (j : Nat) (v : SV), l[j]? = some v → v.wf 0 0 = true ∧ v.cell = true ∧ w.cell? ⟨g, off + j, none⟩ = some (v.den ⟨[], []⟩)

variable {C : Cfg} {w0 w w' : World} {ρ ρ' : Env} {st : St}

theorem GOk.below (h : GOk C w0) (hb : Below w0.heap.size w0 w) : GOk C w := by
  intro g off n l hl j v hv
  obtain ⟨h1, h2, h3⟩ := h g off n l hl j v hv
  have hlt := World.block_lt_of_cell? (w := w0) (a := ⟨g, off + j, none⟩) h3
  exact ⟨h1, h2, by rw [hb.cell hlt]; exact h3⟩

theorem esDen_app (h : ρ.le ρ') : ∀ {es : List (SV × SV × Nat)}, esWf ρ.is.length ρ.bs.length es = true → esDen ρ' es = esDen ρ es
  | [], _ => rfl
  | e :: es, he => by
    simp only [esWf, Bool.and_eq_true] at he
    simp only [esDen, List.map_cons]
    rw [SV.den_app h he.1.1, SV.den_app h he.1.2]
    congr 1
    exact esDen_app h he.2
theorem SO.ok_app (h : ρ.le ρ') {b : Nat} (hb : b < ρ.bs.length) : ∀ {o : SO}, o.wf ρ.is.length ρ.bs.length = true → SO.ok ρ w b o → SO.ok ρ' w b o
  | .cells c e, hw, ho => by
    simp only [SO.wf, Bool.and_eq_true] at hw
    simp only [SO.ok] at ho ⊢
    rw [Env.b_app h hb, SV.dens_app h hw.1]; exact ho
  | .row c e s n, hw, ho => by
    simp only [SO.wf, Bool.and_eq_true] at hw
    simp only [SO.ok] at ho ⊢
    rw [Env.b_app h hb, Env.cap_app h hb, SV.dens_app h hw.1]; exact ho
  | .map es k, hw, ho => by
    simp only [SO.wf] at hw
    simp only [SO.ok] at ho ⊢
    rw [Env.b_app h hb, esDen_app h hw]; exact ho
  | .gone, _, _ => trivial
theorem ownsRow_heap {e s n g cap : Nat} {xs : List Value} (h : w.ownsRow 0 e s (.slice (some ⟨g, 0, none⟩) n cap) n xs) (hh : w'.heap[g]? = w.heap[g]?) : w'.ownsRow 0 e s (.slice (some ⟨g, 0, none⟩) n cap) n xs := by
  refine ⟨h.1, ?_⟩
  rcases h.2 with ⟨h1, _⟩ | ⟨g', cap', cur, h1, h2, h3, h4⟩
  · cases h1
  · refine .inr ⟨g', cap', cur, h1, h2, ?_, h4⟩
    have : g = g' := by injection h1 with h1; injection h1 with h1; injection h1
    subst this
    rw [hh]; exact h3
theorem SO.ok_heap {b : Nat} (hh : w'.heap[ρ.b b]? = w.heap[ρ.b b]?) : ∀ {o : SO}, SO.ok ρ w b o → SO.ok ρ w' b o
  | .cells c e, ho => by simp only [SO.ok] at ho ⊢; rw [hh]; exact ho
  | .row c e s n, ho => ownsRow_heap ho hh
  | .map es k, ho => by simp only [SO.ok] at ho ⊢; rw [hh]; exact ho
  | .gone, _ => trivial
theorem SO.ok_lt {b : Nat} : ∀ {o : SO}, o.live = true → SO.ok ρ w b o → ρ.b b < w.heap.size
  | .cells c e, _, ho => (Array.getElem?_eq_some_iff.1 ho).1
  | .row c e s n, _, ho => by
    rcases ho.2 with ⟨h1, _⟩ | ⟨g', cap', cur, h1, h2, h3, h4⟩
    · cases h1
    · have : ρ.b b = g' := by injection h1 with h1; injection h1 with h1; injection h1
      rw [this]; exact (Array.getElem?_eq_some_iff.1 h3).1
  | .map es k, _, ho => (Array.getElem?_eq_some_iff.1 ho).1
  | .gone, h, _ => by cases h
theorem esWf_mono {n m n' m' : Nat} (h : n ≤ m) (h' : n' ≤ m') : ∀ {es : List (SV × SV × Nat)}, esWf n n' es = true → esWf m m' es = true
  | [], _ => rfl
  | e :: es, he => by
    simp only [esWf, Bool.and_eq_true] at he ⊢
    exact ⟨⟨SV.wf_mono h h' he.1.1, SV.wf_mono h h' he.1.2⟩, esWf_mono h h' he.2⟩
theorem SO.wf_mono {n m n' m' : Nat} (h : n ≤ m) (h' : n' ≤ m') : ∀ {o : SO}, o.wf n n' = true → o.wf m m' = true
  | .cells c e, hw => by
    simp only [SO.wf, Bool.and_eq_true] at hw ⊢
    exact ⟨SV.wfs_mono h h' hw.1, hw.2⟩
  | .row c e s n, hw => by
    simp only [SO.wf, Bool.and_eq_true] at hw ⊢
    exact ⟨SV.wfs_mono h h' hw.1, hw.2⟩
  | .map es k, hw => by simp only [SO.wf] at hw ⊢; exact esWf_mono h h' hw
  | .gone, _ => rfl

/-! ### Steps of the world -/
theorem Md.drew (h : Md C w0 ρ st w) : Md C w0 ρ st w.drew :=
  ⟨h.below.drew, h.hni, h.hnb, h.hpc, h.hpw, fun i o hi => ⟨(h.mem i o hi).1, (h.mem i o hi).2.1, fun hl => ⟨((h.mem i o hi).2.2 hl).1, SO.ok_heap rfl ((h.mem i o hi).2.2 hl).2⟩⟩, h.inj⟩
theorem below_then' {B : Nat} {w w1 w2 : World} (h : Below B w w1) (hB : B ≤ w1.heap.size) (k : Below w1.heap.size w1 w2) : Below B w w2 :=
  h.trans ⟨k.os, k.tape, k.output, k.size, fun i hi => k.block i (Nat.lt_of_lt_of_le hi hB)⟩
/-- Nothing that was there has turned. -/
theorem Md.later (h : Md C w0 ρ st w) (hb : Below w.heap.size w w') : Md C w0 ρ st w' :=
  ⟨below_then' h.below h.below.size hb, h.hni, h.hnb, h.hpc, h.hpw, fun i o hi => ⟨(h.mem i o hi).1, (h.mem i o hi).2.1, fun hl =>
    ⟨((h.mem i o hi).2.2 hl).1, SO.ok_heap (hb.block _ (SO.ok_lt hl ((h.mem i o hi).2.2 hl).2)) ((h.mem i o hi).2.2 hl).2⟩⟩, h.inj⟩
/-- More numbers. -/
theorem Md.nums (h : Md C w0 ρ st w) {x : List Int} {n : Nat} (hn : n = st.ni + x.length) : Md C w0 ⟨ρ.is ++ x, ρ.bs⟩ { st with ni := n } w := by
  have hle : ρ.le ⟨ρ.is ++ x, ρ.bs⟩ := ⟨⟨x, rfl⟩, ⟨[], by simp⟩⟩
  refine ⟨h.below, by simp [h.hni, hn], h.hnb, fun p hp => ?_, fun p hp => B.wf_mono (by simp only [hn]; omega) (h.hpw p hp), fun i o hi => ?_, h.inj⟩
  · rw [← h.hpc p hp]
    exact B.den_app (by rw [h.hni]; exact h.hpw p hp)
  · obtain ⟨h1, h2, h3⟩ := h.mem i o hi
    refine ⟨h1, SO.wf_mono (by simp only [hn]; omega) (Nat.le_refl _) h2, fun hl => ⟨(h3 hl).1, ?_⟩⟩
    exact SO.ok_app hle (by rw [h.hnb]; exact h1) (by rw [h.hni, h.hnb]; exact h2) (h3 hl).2
theorem extE_nums (h : Md C w0 ρ st w) {d : Bd} (hd : d.ni = ρ.is.length + d.es.length) : Md C w0 ⟨extE ρ.is d.es, ρ.bs⟩ { st with ni := d.ni } w := by
  obtain ⟨x, hx, hl⟩ := extE_app d.es ρ.is
  rw [hx]
  exact h.nums (by rw [hd, h.hni, hl])
theorem Md.env_eq {ρ ρ' : Env} (h : Md C w0 ρ st w) (he : ρ = ρ') : Md C w0 ρ' st w := he ▸ h
/-- A condition is known. -/
theorem Md.assume (h : Md C w0 ρ st w) {c : B} (hw : c.wf st.ni = true) {b : Bool} (hb : c.den ρ.is = b) : Md C w0 ρ { st with pc := c.facts b ++ st.pc } w := by
  have hwf : ∀ (c : B) (b : Bool), c.wf st.ni = true → ∀ p ∈ c.facts b, p.1.wf st.ni = true := by
    intro c
    induction c with
    | c x => intro b h p hp; simp [B.facts] at hp; subst hp; exact h
    | cmp o x y => intro b h p hp; simp [B.facts] at hp; subst hp; exact h
    | not x ih => intro b h p hp; simp only [B.facts, List.mem_cons] at hp; rcases hp with rfl | hp; exact h; exact ih _ (by simpa [B.wf] using h) p hp
    | and x y ihx ihy =>
      intro b h p hp
      cases b
      · simp [B.facts] at hp; subst hp; exact h
      · simp only [B.facts, List.mem_cons, List.mem_append] at hp
        rcases hp with rfl | hp | hp
        · exact h
        · simp only [B.wf, Bool.and_eq_true] at h; exact ihx _ h.1 p hp
        · simp only [B.wf, Bool.and_eq_true] at h; exact ihy _ h.2 p hp
    | or x y ihx ihy =>
      intro b h p hp
      cases b
      · simp only [B.facts, List.mem_cons, List.mem_append] at hp
        rcases hp with rfl | hp | hp
        · exact h
        · simp only [B.wf, Bool.and_eq_true] at h; exact ihx _ h.1 p hp
        · simp only [B.wf, Bool.and_eq_true] at h; exact ihy _ h.2 p hp
      · simp [B.facts] at hp; subst hp; exact h
  exact ⟨h.below, h.hni, h.hnb, PcOk.append (B.facts_ok _ _ _ hb) h.hpc, fun p hp => (List.mem_append.1 hp).elim (hwf c b hw p) (h.hpw p), h.mem, h.inj⟩

/-- A new block. -/
theorem Md.new (h : Md C w0 ρ st w) {o : SO} {ob : Obj} (hw : o.wf st.ni st.nb = true) (hl : o.live = true) (cap : Nat)
    (hob : ∀ ρ' : Env, ρ.le ρ' → ρ'.b st.nb = w.heap.size → ρ'.cap st.nb = cap → SO.ok ρ' (w.alloc ob) st.nb o) :
    Md C w0 ⟨ρ.is, ρ.bs ++ [(w.heap.size, cap)]⟩ { st with mem := st.mem.put st.nb o, nb := st.nb + 1 } (w.alloc ob) := by
  have hle : ρ.le ⟨ρ.is, ρ.bs ++ [(w.heap.size, cap)]⟩ := ⟨⟨[], by simp⟩, ⟨_, rfl⟩⟩
  have hb : (⟨ρ.is, ρ.bs ++ [(w.heap.size, cap)]⟩ : Env).b st.nb = w.heap.size := by simp [Env.b, ← h.hnb, List.getD]
  have hc : (⟨ρ.is, ρ.bs ++ [(w.heap.size, cap)]⟩ : Env).cap st.nb = cap := by simp [Env.cap, ← h.hnb, List.getD]
  have old : ∀ i oi, st.mem.get i = some oi → (⟨ρ.is, ρ.bs ++ [(w.heap.size, cap)]⟩ : Env).b i = ρ.b i := fun i oi hi => Env.b_app hle (by rw [h.hnb]; exact (h.mem i oi hi).1)
  refine ⟨h.below.alloc h.below.size ob, h.hni, by simp [h.hnb], h.hpc, h.hpw, fun i oi hi => ?_, fun i j oi oj hi hj hli hlj he => ?_⟩
  · rcases Tb.get_put hi with ⟨rfl, rfl⟩ | ⟨hne, hi'⟩
    · refine ⟨by simp, SO.wf_mono (Nat.le_refl _) (by simp) hw, fun _ => ⟨?_, hob _ hle hb hc⟩⟩
      rw [hb]; exact h.below.size
    · obtain ⟨h1, h2, h3⟩ := h.mem i oi hi'
      refine ⟨by simp; omega, SO.wf_mono (Nat.le_refl _) (by simp) h2, fun hli => ?_⟩
      obtain ⟨g1, g2⟩ := h3 hli
      refine ⟨by rw [old i oi hi']; exact g1, ?_⟩
      refine SO.ok_app hle (by rw [h.hnb]; exact h1) (by rw [h.hni, h.hnb]; exact h2) (SO.ok_heap (w := w) ?_ g2)
      exact Below.heap_alloc _ _ _ (SO.ok_lt hli g2)
  · rcases Tb.get_put hi with ⟨rfl, rfl⟩ | ⟨hne, hi'⟩ <;> rcases Tb.get_put hj with ⟨hj1, hj2⟩ | ⟨hnej, hj'⟩
    · exact hj1.symm
    · exfalso
      rw [hb, old j oj hj'] at he
      have := SO.ok_lt hlj ((h.mem j oj hj').2.2 hlj).2
      omega
    · exfalso
      rw [hj1, hb, old i oi hi'] at he
      have := SO.ok_lt hli ((h.mem i oi hi').2.2 hli).2
      omega
    · rw [old i oi hi', old j oj hj'] at he
      exact h.inj i j oi oj hi' hj' hli hlj he

/-- A block is turned. -/
theorem Md.upd (h : Md C w0 ρ st w) {i : Nat} {o o' : SO} (hi : st.mem.get i = some o) (hl : o.live = true) (hw : o'.wf st.ni st.nb = true)
    (hos : w'.os = w.os) (htape : w'.tape = w.tape) (hout : w'.output = w.output) (hsz : w'.heap.size = w.heap.size) (hoth : ∀ k, k ≠ ρ.b i → w'.heap[k]? = w.heap[k]?) (hok : o'.live = true → SO.ok ρ w' i o') :
    Md C w0 ρ { st with mem := st.mem.put i o' } w' := by
  obtain ⟨h1, h2, h3⟩ := h.mem i o hi
  obtain ⟨g1, g2⟩ := h3 hl
  refine ⟨?_, h.hni, h.hnb, h.hpc, h.hpw, fun j oj hj => ?_, fun j k oj ok hj hk hlj hlk he => ?_⟩
  · exact h.below.trans ⟨hos, htape, hout, by omega, fun k hk => hoth k (by omega)⟩
  · rcases Tb.get_put hj with ⟨rfl, rfl⟩ | ⟨hne, hj'⟩
    · exact ⟨h1, hw, fun hl' => ⟨g1, hok hl'⟩⟩
    · obtain ⟨q1, q2, q3⟩ := h.mem j oj hj'
      refine ⟨q1, q2, fun hlj => ⟨(q3 hlj).1, SO.ok_heap (hoth _ ?_) (q3 hlj).2⟩⟩
      intro e
      exact hne (h.inj j i oj o hj' hi hlj hl e)
  · have look : ∀ j oj, (st.mem.put i o').get j = some oj → oj.live = true → ∃ x, st.mem.get j = some x ∧ x.live = true := by
      intro j oj hj hlj
      rcases Tb.get_put hj with ⟨rfl, rfl⟩ | ⟨_, hj'⟩
      · exact ⟨o, hi, hl⟩
      · exact ⟨oj, hj', hlj⟩
    obtain ⟨x, hx, hlx⟩ := look j oj hj hlj
    obtain ⟨y, hy, hly⟩ := look k ok hk hlk
    exact h.inj j k x y hx hy hlx hly he

end Go.SX
set_option linter.unusedVariables false
set_option linter.unusedSimpArgs false
namespace Go.SX
open Go Go.RowKit

variable {F : Nat → List Int → Option (List Int)} {K : Nat} {r : Nat × List Int}
variable {C : Cfg} {w0 w w' : World} {ρ ρ' : Env} {st : St} {tm : Tm} {a : Act}

theorem den_lts : ∀ (es : List E) (t : T) (is : List Int), (T.lts es t).den F K is = t.den F K (extE is es)
  | [], t, is => rfl
  | e :: es, t, is => by simp only [T.lts, T.den, extE]; exact den_lts es t _
theorem den_fail {n : Nat} {is : List Int} (h : (T.fail n).den F K is = some r) : False := by simp [T.den] at h
theorem bindEs_ok {d : Bd} {k : St → T} (h : (bindEs st d k).den F K ρ.is = some r) : (k { st with ni := d.ni }).den F K (extE ρ.is d.es) = some r ∧ d.ni = st.ni + d.es.length := by
  unfold bindEs at h
  cases hw : (wfEs st.ni d.es && Nat.beq d.ni (st.ni + d.es.length)) <;> rw [hw] at h <;> simp only [cond_true, cond_false] at h
  · exact (den_fail h).elim
  · rw [den_lts] at h
    simp only [Bool.and_eq_true] at hw
    exact ⟨h, beq_nat hw.2⟩
theorem condB_ok {c : B} {k : Bool → St → T} (hm : Md C w0 ρ st w) (h : (condB c st k).den F K ρ.is = some r) : ∃ b p, c.den ρ.is = b ∧ Md C w0 ρ { st with pc := p } w ∧ (k b { st with pc := p }).den F K ρ.is = some r := by
  unfold condB at h
  split at h
  · rename_i b hb
    exact ⟨b, st.pc, B.known_ok hm.hpc hb, hm, h⟩
  · cases hw : c.wf st.ni <;> rw [hw] at h <;> simp only [cond_true, cond_false] at h
    · exact (den_fail h).elim
    · simp only [T.den] at h
      cases hc : c.den ρ.is
      · rw [hc] at h
        simp only [Bool.false_eq_true, if_false] at h
        exact ⟨false, _, rfl, hm.assume hw hc, h⟩
      · rw [hc] at h
        simp only [if_true] at h
        exact ⟨true, _, rfl, hm.assume hw hc, h⟩
theorem putT_ok {d : Option Tmp} {v : SV} {k : Tm → St → T} (ht : TmOk ρ st.ni st.nb tm a) (h : (putT tm d v st k).den F K ρ.is = some r) {x : Value} (hx : x = v.den ρ) :
    ∃ tm', TmOk ρ st.ni st.nb tm' (a.put d x) ∧ (k tm' st).den F K ρ.is = some r := by
  unfold putT at h
  split at h
  · exact ⟨tm, ht, h⟩
  · rename_i t
    split at h
    · rename_i u hu
      cases hw : v.wf st.ni st.nb <;> rw [hw] at h <;> simp only [cond_true, cond_false] at h
      · exact (den_fail h).elim
      · exact ⟨_, ht.put hu (.inr hw) (.inr hx), h⟩
    · exact (den_fail h).elim
theorem Md.cx (hm : Md C w0 ρ st w) (ht : TmOk ρ st.ni st.nb tm a) : Cx ρ st.ni st.nb st.pc tm a := ⟨hm.hni, hm.hnb, hm.hpc, ht⟩
theorem Md.tmok {st' : St} (hm : Md C w0 ρ st w) (hm' : Md C w0 ρ' st' w') (hl : ρ.le ρ') (ht : TmOk ρ st.ni st.nb tm a) : TmOk ρ' st'.ni st'.nb tm a := by
  rw [← hm.hni, ← hm.hnb] at ht
  have := ht.app hl
  rw [hm'.hni, hm'.hnb] at this
  exact this

/-! ### Loads -/
theorem rdMem_ok (hm : Md C w0 ρ st w) {b off n : Nat} {l : List SV} (h : rdMem st.mem b off n = some l) :
    l.length = n ∧ SV.wfs st.ni st.nb l = true ∧ allCell l = true ∧ ∀ (j : Nat) v, l[j]? = some v → w.cell? ⟨ρ.b b, off + j, none⟩ = some (v.den ρ) := by
  have seg : ∀ (c : List SV), takeN n (dropN off c) = some l → SV.wfs st.ni st.nb c = true → allCell c = true → l.length = n ∧ SV.wfs st.ni st.nb l = true ∧ allCell l = true ∧ ∀ (j : Nat) v, l[j]? = some v → c[off + j]? = some v := by
    intro c hc hw ha
    rw [dropN_eq] at hc
    obtain ⟨h1, rfl⟩ := takeN_eq _ _ _ hc
    refine ⟨by simp at h1 ⊢; omega, wfs_of_mem fun v hv => wfs_mem hw v (List.mem_of_mem_drop (List.mem_of_mem_take hv)), allCell_of_mem fun v hv => allCell_mem ha v (List.mem_of_mem_drop (List.mem_of_mem_take hv)), fun j v hj => ?_⟩
    rw [List.getElem?_take] at hj
    split at hj
    · rwa [List.getElem?_drop] at hj
    · cases hj
  unfold rdMem at h
  split at h
  · rename_i c e hb
    obtain ⟨_, h2, h3⟩ := hm.mem b _ hb
    have hok := (h3 rfl).2
    simp only [SO.wf, Bool.and_eq_true] at h2
    obtain ⟨q1, q2, q3, q4⟩ := seg c h h2.1 h2.2
    refine ⟨q1, q2, q3, fun j v hj => ?_⟩
    simp only [SO.ok] at hok
    simp only [World.cell?, hok, Option.isSome_none, Bool.false_eq_true, if_false, List.getElem?_toArray, dens_getElem?, q4 j v hj, Option.map_some]
  · rename_i c e s m hb
    obtain ⟨_, h2, h3⟩ := hm.mem b _ hb
    have hok := (h3 rfl).2
    simp only [SO.wf, Bool.and_eq_true] at h2
    obtain ⟨q1, q2, q3, q4⟩ := seg c h h2.1 h2.2
    refine ⟨q1, q2, q3, fun j v hj => ?_⟩
    have := hok.cells (g := ρ.b b) rfl (off + j) (v.den ρ) (by rw [dens_getElem?, q4 j v hj]; rfl)
    rwa [add_plain, Nat.zero_add] at this
  · cases h

theorem loadV_ok (hty : TyOk C.P C.ty) (hg : GOk C w0) (hm : Md C w0 ρ st w) {t : TypeId} {x v : SV} (h : loadV C st.mem t x = some v) :
    ∃ ad, x.den ρ = .pointer (some ad) ∧ (loadVar t ad).run C.P w = .ok (v.den ρ) w := by
  unfold loadV at h
  split at h
  · rename_i e he
    obtain ⟨dd, i, hu, hi, hmt, hs, _, _⟩ := hty.info he
    -- the cells
    have fin : ∀ (B off : Nat) (l : List SV), l.length = (if e.d.agg = true then e.size else 1) → (∀ (j : Nat) v, l[j]? = some v → w.cell? ⟨B, off + j, none⟩ = some (v.den ρ)) → (bif e.d.agg then some (.agg l) else match l with
      | [v] => some v
      | _ => none) = some v → (loadVar t ⟨B, off, none⟩).run C.P w = .ok (v.den ρ) w := by
      intro B off l hl hc hv
      simp only [loadVar, Sem.run_bind, run_agg hu hmt, Result.andThen_ok]
      cases ha : e.d.agg
      · rw [ha] at hv hl
        simp only [cond_false] at hv
        split at hv
        · cases hv
          have := hc 0 v rfl
          simp only [Bool.false_eq_true, if_false, run_load]
          rw [Nat.add_zero] at this
          rw [this]
        · cases hv
      · rw [ha] at hv hl
        simp only [cond_true] at hv
        cases hv
        simp only [if_true] at hl
        have := run_loadCells_list (P := C.P) w ⟨B, off, none⟩ (SV.dens ρ l) (fun j u hj => by
          rw [dens_getElem?] at hj
          cases hlj : l[j]? with
          | none => rw [hlj] at hj; cases hj
          | some y =>
            rw [hlj] at hj
            cases hj
            rw [add_plain]; exact hc j y hlj)
        rw [dens_length, hl] at this
        simp only [if_true, Sem.run_bind, run_size hi, Result.andThen_ok, hs, this, Sem.run_pure]
        rfl
    split at h
    · cases h
    · rename_i l hl
      split at hl
      · rename_i b off
        obtain ⟨h1, _, _, h2⟩ := rdMem_ok hm hl
        refine ⟨_, rfl, fin _ off l ?_ h2 h⟩
        rw [h1]; cases e.d.agg <;> rfl
      · rename_i g off
        refine ⟨_, rfl, fin g off l ?_ (fun j v hj => ?_) h⟩
        · have : ∀ (gl : List (Nat × List SV)) (n : Nat), rdGl gl g off n = some l → l.length = n := by
            intro gl
            induction gl with
            | nil => intro n h; cases h
            | cons x xs ih =>
              intro n h
              obtain ⟨hh, c⟩ := x
              simp only [rdGl] at h
              cases hb : Nat.beq hh g <;> rw [hb] at h <;> simp only [cond_true, cond_false] at h
              · exact ih n h
              · rw [dropN_eq] at h
                obtain ⟨h1, rfl⟩ := takeN_eq _ _ _ h
                simp at h1 ⊢; omega
          rw [this _ _ hl]; cases e.d.agg <;> rfl
        · obtain ⟨g1, g2, g3⟩ := hg g off _ l hl j v hj
          have hlt := World.block_lt_of_cell? (w := w0) (a := ⟨g, off + j, none⟩) g3
          rw [hm.below.cell hlt, g3]
          have hle : (⟨[], []⟩ : Env).le ρ := ⟨⟨ρ.is, rfl⟩, ⟨ρ.bs, rfl⟩⟩
          rw [SV.den_app hle g1]
      · cases hl
  · cases h

/-! ### Stores -/
theorem list_put {l ys r : List SV} {n : Nat} (h : putN l n ys = some r) (ρ : Env) : SV.dens ρ r = (SV.dens ρ l).take n ++ SV.dens ρ ys ++ (SV.dens ρ l).drop (n + ys.length) := by
  obtain ⟨h1, h2, h3⟩ := putN_spec _ _ _ _ h
  apply List.ext_getElem?
  intro j
  rw [dens_getElem?, h3 j]
  have hlen : (List.take n (SV.dens ρ l)).length = n := by simp [dens_length]; omega
  by_cases hj : j < n
  · rw [if_neg (by omega), List.append_assoc, List.getElem?_append_left (by omega), List.getElem?_take, if_pos hj, dens_getElem?]
  · by_cases hj2 : j < n + ys.length
    · rw [if_pos ⟨by omega, hj2⟩, List.append_assoc, List.getElem?_append_right (by omega), hlen, List.getElem?_append_left (by rw [dens_length]; omega), dens_getElem?]
    · rw [if_neg (by omega), List.getElem?_append_right (by simp [dens_length]; omega), List.getElem?_drop, dens_getElem?]
      congr 2
      simp [dens_length]; omega
theorem putN_mem {α : Type} {l ys r : List α} {n : Nat} (h : putN l n ys = some r) : ∀ v ∈ r, v ∈ ys ∨ v ∈ l := by
  obtain ⟨h1, h2, h3⟩ := putN_spec _ _ _ _ h
  intro v hv
  obtain ⟨j, hj⟩ := List.getElem?_of_mem hv
  rw [h3 j] at hj
  split at hj
  · exact .inl (List.mem_of_getElem? hj)
  · exact .inr (List.mem_of_getElem? hj)

theorem wrMem_ok (hm : Md C w0 ρ st w) {b off : Nat} {vs : List SV} {mem : Tb SO} (h : wrMem st.mem b off vs = some mem) (hw : SV.wfs st.ni st.nb vs = true) (hc : allCell vs = true) :
    ∃ w', (storeCells ⟨ρ.b b, off, none⟩ (SV.dens ρ vs) 0).run C.P w = .ok () w' ∧ Md C w0 ρ { st with mem := mem } w' := by
  have h1 : ∀ v ∈ SV.dens ρ vs, v.oneCell' = true := by
    intro v hv
    obtain ⟨j, hj⟩ := List.getElem?_of_mem hv
    rw [dens_getElem?] at hj
    cases hx : vs[j]? with
    | none => rw [hx] at hj; cases hj
    | some u =>
      rw [hx] at hj; cases hj
      exact SV.oneCell_of_cell (allCell_mem hc u (List.mem_of_getElem? hx)) ρ
  have wf' : ∀ {c c' : List SV}, putN c off vs = some c' → SV.wfs st.ni st.nb c = true → allCell c = true → SV.wfs st.ni st.nb c' = true ∧ allCell c' = true := by
    intro c c' hp hwc hac
    refine ⟨wfs_of_mem fun v hv => ?_, allCell_of_mem fun v hv => ?_⟩
    · exact (putN_mem hp v hv).elim (wfs_mem hw v) (wfs_mem hwc v)
    · exact (putN_mem hp v hv).elim (allCell_mem hc v) (allCell_mem hac v)
  unfold wrMem at h
  split at h
  · rename_i c e hb
    obtain ⟨_, h2, h3⟩ := hm.mem b _ hb
    have hok := (h3 rfl).2
    simp only [SO.wf, Bool.and_eq_true] at h2
    simp only [SO.ok] at hok
    split at h <;> cases h
    rename_i c' hp
    obtain ⟨q1, q2, q3⟩ := putN_spec _ _ _ _ hp
    have hst := run_storeCells_at C.P (ρ.b b) off e (SV.dens ρ vs) 0 (SV.dens ρ c).toArray w hok (by simp [dens_length]; omega) h1
    refine ⟨_, hst, ?_⟩
    refine hm.upd hb rfl (o' := .cells c' e) (by simp only [SO.wf, Bool.and_eq_true]; exact wf' hp h2.1 h2.2) rfl rfl rfl (by simp [World.setRow]) (fun k hk => setRow_other w _ k _ hk) (fun _ => ?_)
    simp only [SO.ok]
    rw [setRow_heap w _ _ _ e _ hok]
    congr 3
    rw [list_put hp ρ]
    simp [dens_length]
  · rename_i c e s n hb
    obtain ⟨_, h2, h3⟩ := hm.mem b _ hb
    have hok := (h3 rfl).2
    simp only [SO.wf, Bool.and_eq_true] at h2
    split at h <;> cases h
    rename_i c' hp
    obtain ⟨q1, q2, q3⟩ := putN_spec _ _ _ _ hp
    obtain ⟨o1, o2⟩ := hok
    rcases o2 with ⟨h0, _⟩ | ⟨g, cap, cur, hg, hgb, hcur, hnc, hcm, hcs, htake⟩
    · cases h0
    · have e1 : ρ.b b = g ∧ ρ.cap b = cap := by injection hg with hg1 hg2 hg3; injection hg1 with hg1; injection hg1 with hg1; exact ⟨hg1, hg3⟩
      obtain ⟨e1, e2⟩ := e1
      rw [dens_length] at o1
      have hfit : c.length ≤ cur.size := by rw [o1, hcs]; exact Nat.mul_le_mul_right _ hnc
      have hst := run_storeCells_at C.P (ρ.b b) off e (SV.dens ρ vs) 0 cur w (by rw [e1]; exact hcur) (by simp [dens_length]; omega) h1
      refine ⟨_, hst, ?_⟩
      refine hm.upd hb rfl (o' := .row c' e s n) (by simp only [SO.wf, Bool.and_eq_true]; exact wf' hp h2.1 h2.2) rfl rfl rfl (by simp [World.setRow]) (fun k hk => setRow_other w _ k _ hk) (fun _ => ?_)
      refine ⟨by rw [dens_length, q1, o1], .inr ⟨g, cap, _, hg, hgb, by rw [e1]; exact setRow_heap w g cur _ e _ hcur, hnc, hcm, ?_, ?_⟩⟩
      · simp only [List.size_toArray, List.length_append, List.length_take, List.length_drop, Array.length_toList, dens_length, Nat.add_zero]
        omega
      · simp only [Nat.add_zero]
        rw [list_put hp ρ, ← htake]
        apply List.ext_getElem?
        intro j
        rw [← o1]
        simp only [List.getElem?_take, List.getElem?_append, List.length_append, List.length_take, dens_length, List.getElem?_drop, Array.length_toList]
        by_cases hj : j < c.length
        · rw [if_pos hj]
          have m1 : min off cur.size = off := by omega
          have m2 : min off (min c.length cur.size) = off := by omega
          simp only [m1, m2]
          split
          · split <;> first | rfl | rw [if_pos hj]
          · rw [if_pos (by omega)]
        · rw [if_neg hj]
          have m2 : min off (min c.length cur.size) = off := by omega
          simp only [m2]
          rw [if_neg (by omega), if_neg (by omega)]
  · cases h

theorem storeV_ok (hty : TyOk C.P C.ty) (hm : Md C w0 ρ st w) {t : TypeId} {x v : SV} {mem : Tb SO} (h : storeV C st.mem t x v = some mem) (hw : v.wf st.ni st.nb = true) :
    ∃ ad w', x.den ρ = .pointer (some ad) ∧ (storeVar t ad (v.den ρ)).run C.P w = .ok () w' ∧ Md C w0 ρ { st with mem := mem } w' := by
  unfold storeV at h
  split at h
  · rename_i b off vs n hvs hn
    cases hl : Nat.beq vs.length n <;> rw [hl] at h <;> simp only [cond_true, cond_false] at h
    · cases h
    · obtain ⟨q1, q2⟩ := cellsOf_wf hvs hw
      obtain ⟨w', hr, hm'⟩ := wrMem_ok hm h q1 q2
      refine ⟨_, w', rfl, ?_, hm'⟩
      unfold sizeT at hn
      split at hn
      · rename_i e he
        cases hn
        obtain ⟨dd, i, hu, hi, hmt, hs, _, _⟩ := hty.info he
        have hcs := cellsOf_spec hvs ρ
        have : ¬ (v.den ρ).cells.size ≠ i.size := by rw [hcs, hs]; simp [dens_length, beq_nat hl]
        simp only [storeVar, Sem.run_bind, run_size hi, Result.andThen_ok, if_neg this, Sem.run_ite]
        rw [hcs]; exact hr
      · cases hn
  · cases h

end Go.SX
set_option linter.unusedVariables false
set_option linter.unusedSimpArgs false
namespace Go.SX
open Go Go.RowKit

variable {F : Nat → List Int → Option (List Int)} {K : Nat} {r : Nat × List Int}
variable {C : Cfg} {w0 w w' : World} {ρ ρ' : Env} {st : St} {tm : Tm} {a : Act} {o : Oper} {k : SV → St → T} {next : Act → World → Prop} {Q : Exit → Act → World → Prop}

/-- What is asked of what comes behind an operation. -/
def HK (F : Nat → List Int → Option (List Int)) (K : Nat) (r : Nat × List Int) (C : Cfg) (w0 : World) (ρ : Env) (a : Act) (d : Option Tmp) (next : Act → World → Prop) (k : SV → St → T) : Prop :=
  ∀ ρ' st' w' v, ρ.le ρ' → Md C w0 ρ' st' w' → (k v st').den F K ρ'.is = some r → next (a.put d (v.den ρ')) w'

theorem wp_value {x : Value} (h : (execOp a.eval o).run C.P w = .ok (.value x) w') (hn : next (a.put o.dst x) w') : o.wp C.P a w next Q := by
  unfold Oper.wp; rw [h]; exact hn
theorem wp_skip (h : (execOp a.eval o).run C.P w = .ok .skip w') (hn : next (a.put o.dst undef) w') : o.wp C.P a w next Q := by
  unfold Oper.wp; rw [h]; exact hn

theorem newB_ok (hm : Md C w0 ρ st w) {so : SO} {ob : Obj} {kk : Nat → St → T} (h : (newB st so kk).den F K ρ.is = some r) (hl : so.live = true) (cap : Nat)
    (hob : so.wf st.ni st.nb = true → ∀ ρ' : Env, ρ.le ρ' → ρ'.b st.nb = w.heap.size → ρ'.cap st.nb = cap → SO.ok ρ' (w.alloc ob) st.nb so) :
    ∃ ρ', ρ.le ρ' ∧ ρ'.b st.nb = w.heap.size ∧ ρ'.cap st.nb = cap ∧ Md C w0 ρ' { st with mem := st.mem.put st.nb so, nb := st.nb + 1 } (w.alloc ob) ∧ (kk st.nb { st with mem := st.mem.put st.nb so, nb := st.nb + 1 }).den F K ρ'.is = some r := by
  unfold newB at h
  cases hw : so.wf st.ni st.nb <;> rw [hw] at h <;> simp only [cond_true, cond_false] at h
  · exact (den_fail h).elim
  · refine ⟨⟨ρ.is, ρ.bs ++ [(w.heap.size, cap)]⟩, ⟨⟨[], by simp⟩, ⟨_, rfl⟩⟩, by simp [Env.b, ← hm.hnb, List.getD], by simp [Env.cap, ← hm.hnb, List.getD], hm.new hw hl cap (hob hw), h⟩
theorem ok_cells {cs : List SV} {e : TypeId} (hm : Md C w0 ρ st w) (hw : (SO.cells cs e).wf st.ni st.nb = true) {ρ' : Env} (hl : ρ.le ρ') (hb : ρ'.b st.nb = w.heap.size) : SO.ok ρ' (w.alloc (.cells (SV.dens ρ cs).toArray e)) st.nb (.cells cs e) := by
  simp only [SO.wf, Bool.and_eq_true] at hw
  simp only [SO.ok, hb]
  rw [SV.dens_app hl (by rw [hm.hni, hm.hnb]; exact hw.1)]
  exact heap_alloc_new w _

theorem zeroL_info (hty : TyOk C.P C.ty) {t : TypeId} {cs : List SV} (h : zeroL C.ty t = some cs) : ∃ i z, C.P.info? t = some i ∧ i.zero = some z ∧ (∀ ρ, z.cells = (SV.dens ρ cs).toArray) ∧ C.ty.get t ≠ none := by
  unfold zeroL at h
  split at h
  · rename_i e he
    obtain ⟨dd, i, hu, hi, hmt, hs, _, hz⟩ := hty.info he
    obtain ⟨z, hz1, hz2, _⟩ := hz cs h
    exact ⟨i, z, hi, hz1, fun ρ => by rw [ofVals_den hz2 ρ], by rw [he]; simp⟩
  · cases h
theorem run_zero {t : TypeId} {i : TypeInfo} {z : Value} (hi : C.P.info? t = some i) (hz : i.zero = some z) (w : World) : (zeroValue t).run C.P w = .ok z w := by simp [zeroValue, run_info hi, hz]

theorem eAlloc_ok (hty : TyOk C.P C.ty) (hm : Md C w0 ρ st w) {t : TypeId} (ho : o.op = .alloc t) (h : (eAlloc C tm st k t).den F K ρ.is = some r) (hk : HK F K r C w0 ρ a o.dst next k) : o.wp C.P a w next Q := by
  unfold eAlloc at h
  split at h
  · rename_i cs hz
    obtain ⟨i, z, hi, hz1, hz2, _⟩ := zeroL_info hty hz
    obtain ⟨ρ', hle, hb, hcp, hm', hd⟩ := newB_ok hm h rfl 0 (ob := .cells (SV.dens ρ cs).toArray t) fun hw ρ' hl hb _ => ok_cells hm hw hl hb
    refine wp_value (x := SV.den ρ' (.ptr st.nb 0)) (w' := w.alloc (.cells (SV.dens ρ cs).toArray t)) ?_ (hk _ _ _ _ hle hm' hd)
    unfold execOp
    simp only [ho, Instr.alloc, Sem.run_bind, run_zero hi hz1, Result.andThen_ok, newVar, newRow, run_newObj, Sem.run_pure, SV.den, hb, hz2 ρ]
    rfl
  · exact (den_fail h).elim

theorem eBox_ok (hm : Md C w0 ρ st w) (ht : TmOk ρ st.ni st.nb tm a) {t : TypeId} {x : Operand} (ho : o.op = .box t x) (h : (eBox C tm st k t x).den F K ρ.is = some r) (hk : HK F K r C w0 ρ a o.dst next k) : o.wp C.P a w next Q := by
  unfold eBox at h
  split at h
  · rename_i v hv
    obtain ⟨ev, wv⟩ := (hm.cx ht).ev hv
    split at h
    · rename_i cs hcs
      obtain ⟨ρ', hle, hb, hcp, hm', hd⟩ := newB_ok hm h rfl 0 (ob := .cells (SV.dens ρ cs).toArray t) fun hw ρ' hl hb _ => ok_cells hm hw hl hb
      refine wp_value (x := SV.den ρ' (.ptr st.nb 0)) (w' := w.alloc (.cells (SV.dens ρ cs).toArray t)) ?_ (hk _ _ _ _ hle hm' hd)
      unfold execOp
      simp only [ho, ev, Instr.box, Sem.run_bind, newVar, newRow, run_newObj, Result.andThen_ok, Sem.run_pure, SV.den, hb, cellsOf_spec hcs ρ]
      rfl
    · exact (den_fail h).elim
  · exact (den_fail h).elim

theorem repeatL_length (z : List SV) (n : Nat) (hz : z.length = n) : ∀ len, (repeatL len z).length = len * n := by
  intro len
  induction len with
  | zero => simp [repeatL]
  | succ m ih => simp [repeatL, ih, hz, Nat.add_mul, Nat.add_comm]
theorem repeat_cells (ρ : Env) (z : List SV) (n : Nat) (hz : z.length = n) : ∀ len, ((Array.range (len * n)).map ((SV.dens ρ z).toArray[· % (SV.dens ρ z).toArray.size]!)) = (SV.dens ρ (repeatL len z)).toArray := by
  intro len
  have hlen := repeatL_length z n hz
  have hget : ∀ len j, j < len * n → (repeatL len z)[j]? = z[j % n]? := by
    intro len
    induction len with
    | zero => intro j hj; omega
    | succ m ih =>
      intro j hj
      simp only [repeatL]
      by_cases h : j < n
      · rw [List.getElem?_append_left (by omega), Nat.mod_eq_of_lt h]
      · rw [List.getElem?_append_right (by omega), hz, ih (j - n) (by rw [Nat.succ_mul] at hj; omega)]
        congr 1
        exact (Nat.mod_eq_sub_mod (by omega)).symm
  apply Array.ext_getElem?
  intro j
  by_cases hj : j < len * n
  · have hn : 0 < n := by
      rcases Nat.eq_zero_or_pos n with h0 | h0
      · subst h0; omega
      · exact h0
    have hm := Nat.mod_lt j hn
    simp only [List.size_toArray, dens_length, hz, List.getElem?_toArray, dens_getElem?, hget len j hj, Array.getElem?_map]
    rw [Array.getElem?_eq_getElem (by simpa using hj)]
    simp only [Array.getElem_range, Option.map_some]
    rw [List.getElem?_eq_getElem (by omega)]
    simp only [Option.map_some]
    congr 1
    rw [getElem!_pos _ _ (by simp [dens_length, hz]; exact hm)]
    have := dens_getElem? ρ z (j % n)
    rw [List.getElem?_eq_getElem (by rw [dens_length]; omega), List.getElem?_eq_getElem (by omega)] at this
    simpa using this
  · rw [Array.getElem?_eq_none (by simp; omega), List.getElem?_toArray, dens_getElem?, List.getElem?_eq_none (by rw [hlen]; omega)]
    rfl

theorem eBuildSlice_ok (hty : TyOk C.P C.ty) (hm : Md C w0 ρ st w) (ht : TmOk ρ st.ni st.nb tm a) {t : TypeId} {len : Nat} {parts : Array (Nat × Operand)} (ho : o.op = .buildSlice t len parts) (h : (eBuildSlice C tm st k t len parts).den F K ρ.is = some r) (hk : HK F K r C w0 ρ a o.dst next k) : o.wp C.P a w next Q := by
  unfold eBuildSlice at h
  split at h
  · rename_i e n htd
    split at h
    · rename_i z ps hz hps
      cases hc : (Nat.ble (len * n) 16777216 && Nat.beq z.length n) <;> rw [hc] at h <;> simp only [cond_true, cond_false] at h
      · exact (den_fail h).elim
      · simp only [Bool.and_eq_true] at hc
        split at h
        · rename_i cs hf
          obtain ⟨_, d1, _, _, _, hu1, _, hm1, _⟩ := tdOf_info hty htd (by simp)
          obtain ⟨rfl, i, hi, rfl⟩ := mkTD_slice hm1
          obtain ⟨i', z', hi', hz1, hz2, _⟩ := zeroL_info hty hz
          cases hi.symm.trans hi'
          obtain ⟨ρ', hle, hb, hcp, hm', hd⟩ := newB_ok hm h rfl 0 (ob := .cells (SV.dens ρ cs).toArray e) fun hw ρ' hl hb _ => ok_cells hm hw hl hb
          refine wp_value (x := SV.den ρ' (.slice st.nb 0 len len)) (w' := w.alloc (.cells (SV.dens ρ cs).toArray e)) ?_ (hk _ _ _ _ hle hm' hd)
          have hsmall : ¬ len * i.size > 2 ^ 24 := by have := ble_nat hc.1; omega
          have hfill := fill_ok (place' := fun j => some (j * i.size, i.size)) (fun _ _ h => h) ρ ps hf
          have hp := evps_array (hm.cx ht) hps
          unfold execOp
          simp only [ho, Instr.buildSlice, Sem.run_bind, run_underlying hu1, Result.andThen_ok, run_size hi, if_neg hsmall, Sem.run_ite]
          by_cases h0 : len * i.size = 0
          · rw [if_pos h0]
            have hr : (Array.range (len * i.size)).map (fun (x : Nat) => (#[] : Array Value)[x % (#[] : Array Value).size]!) = (SV.dens ρ (repeatL len z)).toArray := by
              rw [h0, List.eq_nil_of_length_eq_zero ((repeatL_length z i.size (beq_nat hc.2) len).trans h0)]
              simp [SV.dens]
            simp only [Sem.run_pure, Result.andThen_ok, hr, hp, hfill, newRow, Sem.run_bind, run_newObj, SV.den, hb]
            rfl
          · rw [if_neg h0]
            simp only [Sem.run_bind, run_zero hi hz1, Result.andThen_ok, Sem.run_pure, hz2 ρ, repeat_cells ρ z i.size (beq_nat hc.2) len, hp, hfill, newRow, run_newObj, SV.den, hb]
            rfl
        · exact (den_fail h).elim
    · exact (den_fail h).elim
  · exact (den_fail h).elim

theorem eLoad_ok (hty : TyOk C.P C.ty) (hg : GOk C w0) (hm : Md C w0 ρ st w) (ht : TmOk ρ st.ni st.nb tm a) {t : TypeId} {x : Operand} (ho : o.op = .load t x) (h : (eLoad C tm st k t x).den F K ρ.is = some r) (hk : HK F K r C w0 ρ a o.dst next k) : o.wp C.P a w next Q := by
  unfold eLoad at h
  split at h
  · rename_i v hv
    obtain ⟨ev, wv⟩ := (hm.cx ht).ev hv
    split at h
    · rename_i u hu
      obtain ⟨ad, h1, h2⟩ := loadV_ok hty hg hm hu
      refine wp_value (x := SV.den ρ u) (w' := w) ?_ (hk _ _ _ _ (Env.le_refl ρ) hm h)
      unfold execOp
      simp only [ho, ev, h1, Instr.loadAt, Instr.sureAddr, Sem.run_bind, Sem.run_pure, Result.andThen_ok, h2]
    · exact (den_fail h).elim
  · exact (den_fail h).elim

theorem eStore_ok (hty : TyOk C.P C.ty) (hm : Md C w0 ρ st w) (ht : TmOk ρ st.ni st.nb tm a) {t : TypeId} {x y : Operand} (ho : o.op = .store t x y) (h : (eStore C tm st k t x y).den F K ρ.is = some r) (hk : HK F K r C w0 ρ a o.dst next k) : o.wp C.P a w next Q := by
  unfold eStore at h
  split at h
  · rename_i v u hv hu
    obtain ⟨ev, wv⟩ := (hm.cx ht).ev hv
    obtain ⟨eu, wu⟩ := (hm.cx ht).ev hu
    split at h
    · rename_i mem hmem
      obtain ⟨ad, w', h1, h2, h3⟩ := storeV_ok hty hm hmem wu
      refine wp_skip (w' := w') ?_ (hk _ _ _ _ (Env.le_refl ρ) h3 h)
      unfold execOp
      simp only [ho, ev, eu, h1, Instr.storeAt, Instr.sureAddr, Sem.run_bind, Sem.run_pure, Result.andThen_ok, h2]
    · exact (den_fail h).elim
  · exact (den_fail h).elim

theorem eMakeMap_ok (hm : Md C w0 ρ st w) {t : TypeId} (ho : o.op = .makeMap t none) (h : (eMakeMap C tm st k).den F K ρ.is = some r) (hk : HK F K r C w0 ρ a o.dst next k) : o.wp C.P a w next Q := by
  unfold eMakeMap at h
  obtain ⟨ρ', hle, hb, hcp, hm', hd⟩ := newB_ok hm h rfl 0 (ob := .map #[] 0) fun hw ρ' hl hb _ => by
    simp only [SO.ok, hb]
    exact heap_alloc_new w _
  refine wp_value (x := SV.den ρ' (.map st.nb)) (w' := w.alloc (.map #[] 0)) ?_ (hk _ _ _ _ hle hm' hd)
  unfold execOp
  simp only [ho, Instr.makeMap, Option.map_none, Sem.run_bind, Sem.run_pure, Result.andThen_ok, run_newObj, SV.den, hb]
  rfl

/-! ### Indexes -/
theorem enumI_ok {x : A} {kk : Nat → St → T} : ∀ (n j : Nat) {st : St} , Md C w0 ρ st w → (enumI x st kk n j).den F K ρ.is = some r → ∃ i p, j ≤ i ∧ i < j + n ∧ x.den ρ.is = (i : Int) ∧ Md C w0 ρ { st with pc := p } w ∧ (kk i { st with pc := p }).den F K ρ.is = some r
  | 0, j, st, hm, h => (den_fail h).elim
  | n + 1, j, st, hm, h => by
    simp only [enumI] at h
    obtain ⟨b, p, hb, hm', hd⟩ := condB_ok hm h
    cases b
    · simp only [cond_false] at hd
      obtain ⟨i, p', h1, h2, h3, h4, h5⟩ := enumI_ok n (j + 1) hm' hd
      exact ⟨i, p', by omega, by omega, h3, h4, h5⟩
    · simp only [cond_true] at hd
      refine ⟨j, p, Nat.le_refl _, by omega, ?_, hm', hd⟩
      rw [B.den_mkEq] at hb
      simpa [A.den] using hb

theorem eIndexAddr_ok (hty : TyOk C.P C.ty) (hm : Md C w0 ρ st w) (ht : TmOk ρ st.ni st.nb tm a) {t : TypeId} {x i : Operand} (ho : o.op = .indexAddr t x i) (h : (eIndexAddr C tm st k t x i).den F K ρ.is = some r) (hk : HK F K r C w0 ρ a o.dst next k) : o.wp C.P a w next Q := by
  unfold eIndexAddr at h
  split at h
  · rename_i htd hx hi
    obtain ⟨ex, _⟩ := (hm.cx ht).ev hx
    obtain ⟨ei, _⟩ := (hm.cx ht).ev hi
    obtain ⟨j, p, h1, h2, h3, h4, h5⟩ := enumI_ok _ 0 hm h
    rw [Nat.zero_add] at h2
    refine wp_value (x := SV.den ρ (.ptr _ _)) (w' := w) ?_ (hk _ _ _ _ (Env.le_refl ρ) h4 h5)
    unfold execOp
    simp only [ho, ex, ei, SV.den, h3, Sem.run_bind, indexAt_slice hty htd h2, Result.andThen_ok, Sem.run_pure]
  · rename_i htd hx hi
    obtain ⟨ex, _⟩ := (hm.cx ht).ev hx
    obtain ⟨ei, _⟩ := (hm.cx ht).ev hi
    obtain ⟨j, p, h1, h2, h3, h4, h5⟩ := enumI_ok _ 0 hm h
    rw [Nat.zero_add] at h2
    refine wp_value (x := SV.den ρ (.ptr _ _)) (w' := w) ?_ (hk _ _ _ _ (Env.le_refl ρ) h4 h5)
    unfold execOp
    simp only [ho, ex, ei, SV.den, h3, Sem.run_bind, indexAt_slice hty htd h2, Result.andThen_ok, Sem.run_pure, Nat.zero_add]
  · rename_i htd hx hi
    obtain ⟨ex, _⟩ := (hm.cx ht).ev hx
    obtain ⟨ei, _⟩ := (hm.cx ht).ev hi
    obtain ⟨j, p, h1, h2, h3, h4, h5⟩ := enumI_ok _ 0 hm h
    rw [Nat.zero_add] at h2
    refine wp_value (x := SV.den ρ (.ptr _ _)) (w' := w) ?_ (hk _ _ _ _ (Env.le_refl ρ) h4 h5)
    unfold execOp
    simp only [ho, ex, ei, SV.den, h3, Sem.run_bind, indexAt_array hty htd h2, Result.andThen_ok, Sem.run_pure]
  · rename_i htd hx hi
    obtain ⟨ex, _⟩ := (hm.cx ht).ev hx
    obtain ⟨ei, _⟩ := (hm.cx ht).ev hi
    obtain ⟨j, p, h1, h2, h3, h4, h5⟩ := enumI_ok _ 0 hm h
    rw [Nat.zero_add] at h2
    refine wp_value (x := SV.den ρ (.gptr _ _)) (w' := w) ?_ (hk _ _ _ _ (Env.le_refl ρ) h4 h5)
    unfold execOp
    simp only [ho, ex, ei, SV.den, h3, Sem.run_bind, indexAt_array hty htd h2, Result.andThen_ok, Sem.run_pure]
  · exact (den_fail h).elim

/-! ### Divisions, shifts, choices -/
theorem bind1_ok (hm : Md C w0 ρ st w) {e : E} {kk : A → St → T} (h : (bind1 st e kk).den F K ρ.is = some r) : ∃ ρ' x st', ρ.le ρ' ∧ x.den ρ'.is = e.den ρ.is ∧ Md C w0 ρ' st' w ∧ (kk x st').den F K ρ'.is = some r := by
  unfold bind1 at h
  obtain ⟨h1, h2, h3, _, _⟩ := bind_spec (is := ρ.is) hm.hni (d := ⟨st.ni, []⟩) (by simp) e
  have := (bindEs_ok h).1
  refine ⟨⟨extE ρ.is _, ρ.bs⟩, _, _, extEnv_le ρ _, h3, extE_nums hm (by rw [hm.hni]; exact h1), this⟩

theorem eIndex_ok (hty : TyOk C.P C.ty) (hm : Md C w0 ρ st w) (ht : TmOk ρ st.ni st.nb tm a) {t : TypeId} {x i : Operand} (ho : o.op = .index t x i) (h : (eIndex C tm st k t x i).den F K ρ.is = some r) (hk : HK F K r C w0 ρ a o.dst next k) : o.wp C.P a w next Q := by
  unfold eIndex at h
  split at h
  · rename_i htd hx hi
    obtain ⟨ex, _⟩ := (hm.cx ht).ev hx
    obtain ⟨ei, _⟩ := (hm.cx ht).ev hi
    obtain ⟨j, p, h1, h2, h3, h4, h5⟩ := enumI_ok _ 0 hm h
    rw [Nat.zero_add] at h2
    split at h5
    · rename_i v hv
      refine wp_value (x := SV.den ρ v) (w' := w) ?_ (hk _ _ _ _ (Env.le_refl ρ) h4 h5)
      unfold execOp
      simp only [ho, ex, ei, SV.den, h3, Sem.run_bind, index_array hty htd h2 hv ρ, Result.andThen_ok, Sem.run_pure]
    · exact (den_fail h5).elim
  · rename_i s kx x htd hx hi
    obtain ⟨ex, _⟩ := (hm.cx ht).ev hx
    obtain ⟨ei, _⟩ := (hm.cx ht).ev hi
    obtain ⟨b, p, hb, hm1, h⟩ := condB_ok hm h
    rw [B.den_mkLt] at hb
    cases b <;> simp only [cond_true, cond_false] at h
    · obtain ⟨b, p', hb', hm2, h⟩ := condB_ok hm1 h
      rw [B.den_mkLt] at hb'
      cases b <;> simp only [cond_true, cond_false] at h
      · exact (den_fail h).elim
      · obtain ⟨ρ', xx, st', hle, hden, hm3, h⟩ := bind1_ok hm2 h
        have h0 : ¬ x.den ρ.is < 0 := by simpa [A.den] using hb
        have h1 : x.den ρ.is < s.length := by simpa [A.den] using hb'
        have hn : ((x.den ρ.is).toNat : Int) = x.den ρ.is := by omega
        have hg : s[(x.den ρ.is).toNat]? = some (s.getD (x.den ρ.is).toNat 0) := by
          rw [List.getD_eq_getElem?_getD, List.getElem?_eq_getElem (by omega)]; rfl
        refine wp_value (x := SV.den ρ' (.int .u8 xx)) (w' := w) ?_ (hk _ _ _ _ hle hm3 h)
        unfold execOp
        have := index_str hty htd hg kx w
        rw [hn] at this
        simp only [ho, ex, ei, SV.den, Sem.run_bind, this, Result.andThen_ok, Sem.run_pure, hden, E.den]
    · exact (den_fail h).elim
  · exact (den_fail h).elim

theorem eBinOp_ok (hm : Md C w0 ρ st w) (ht : TmOk ρ st.ni st.nb tm a) {op : BinOp} {t yt : TypeId} {x y : Operand} (ho : o.op = .binOp op t x y yt) (h : (eBinOp C tm st k op x y).den F K ρ.is = some r) (hk : HK F K r C w0 ρ a o.dst next k) : o.wp C.P a w next Q := by
  unfold eBinOp at h
  split at h
  · rename_i kx p ky q hx hy
    obtain ⟨ex, _⟩ := (hm.cx ht).ev hx
    obtain ⟨ey, _⟩ := (hm.cx ht).ev hy
    have div : ∀ {e : E} {op' : BinOp}, op = op' → kindEq kx ky = true → (¬ q.den ρ.is = 0 → (Op.intDiv op' kx (p.den ρ.is) (q.den ρ.is)).run C.P w = .ok (.int kx (e.den ρ.is)) w) → (op' = .quo ∨ op' = .rem) → ∀ {N : Nat},
        (condB (.mkEq q (.n 0)) st fun z st => bif z then .fail N else bind1 st e fun r st => k (.int kx r) st).den F K ρ.is = some r → o.wp C.P a w next Q := by
      intro e op' hop hkk hrun hor N hd
      subst hop
      obtain ⟨b, pc', hb, hm', hd'⟩ := condB_ok hm hd
      cases b
      · simp only [cond_false] at hd'
        obtain ⟨ρ', xx, st', hle, hden, hm'', hd''⟩ := bind1_ok hm' hd'
        rw [B.den_mkEq] at hb
        have hq : ¬ q.den ρ.is = 0 := by simpa [A.den] using hb
        refine wp_value (x := SV.den ρ' (.int kx xx)) (w' := w) ?_ (hk _ _ _ _ hle hm'' hd'')
        cases kindEq_eq hkk
        unfold execOp
        have hg : (eqGuard op t x y (.int kx (p.den ρ.is)) (.int kx (q.den ρ.is))).run C.P w = .ok () w := by rcases hor with rfl | rfl <;> simp [eqGuard]
        simp only [ho, ex, ey, SV.den, Sem.run_bind, hg, Result.andThen_ok, hden]
        rw [run_binOp_int (by rcases hor with rfl | rfl <;> simp) (by rcases hor with rfl | rfl <;> simp)]
        rcases hor with rfl | rfl <;> simp only [hrun hq, Result.andThen_ok, Sem.run_pure]
      · simp only [cond_true] at hd'
        exact (den_fail hd').elim
    have sh : ∀ {e : E}, (op = .shl ∨ op = .shr) → (¬ q.den ρ.is < 0 → (Op.shift op kx (p.den ρ.is) ky (q.den ρ.is)).run C.P w = .ok (.int kx (e.den ρ.is)) w) → ∀ {N : Nat},
        (condB (.mkLt q (.n 0)) st fun z st => bif z then .fail N else bind1 st e fun r st => k (.int kx r) st).den F K ρ.is = some r → o.wp C.P a w next Q := by
      intro e hor hrun N hd
      obtain ⟨b, pc', hb, hm', hd'⟩ := condB_ok hm hd
      cases b
      · simp only [cond_false] at hd'
        obtain ⟨ρ', xx, st', hle, hden, hm'', hd''⟩ := bind1_ok hm' hd'
        rw [B.den_mkLt] at hb
        have hq : ¬ q.den ρ.is < 0 := by simpa [A.den] using hb
        refine wp_value (x := SV.den ρ' (.int kx xx)) (w' := w) ?_ (hk _ _ _ _ hle hm'' hd'')
        unfold execOp
        have hg : (eqGuard op t x y (.int kx (p.den ρ.is)) (.int ky (q.den ρ.is))).run C.P w = .ok () w := by rcases hor with rfl | rfl <;> simp [eqGuard]
        simp only [ho, ex, ey, SV.den, Sem.run_bind, hg, Result.andThen_ok, hden]
        rw [run_shift hor]
        simp only [hrun hq, Result.andThen_ok, Sem.run_pure]
      · simp only [cond_true] at hd'
        exact (den_fail hd').elim
    split at h
    · cases hkk : kindEq kx ky <;> rw [hkk] at h <;> simp only [cond_true, cond_false] at h
      · exact (den_fail h).elim
      · exact div rfl hkk (fun hq => by simp [Op.intDiv, hq, E.den]) (.inl rfl) (e := .quo kx p q) h
    · cases hkk : kindEq kx ky <;> rw [hkk] at h <;> simp only [cond_true, cond_false] at h
      · exact (den_fail h).elim
      · exact div rfl hkk (fun hq => by simp [Op.intDiv, hq, E.den]) (.inr rfl) (e := .rem p q) h
    · exact sh (.inl rfl) (fun hq => by simp [Op.shift, hq, E.den]) (e := .shl kx p q) h
    · exact sh (.inr rfl) (fun hq => by simp [Op.shift, hq, E.den]) (e := .shr kx p q) h
    · exact (den_fail h).elim
  · exact (den_fail h).elim

theorem ePick_ok (hm : Md C w0 ρ st w) (ht : TmOk ρ st.ni st.nb tm a) {c x y : Operand} (ho : o.op = .pick c x y) (h : (ePick C tm st k c x y).den F K ρ.is = some r) (hk : HK F K r C w0 ρ a o.dst next k) : o.wp C.P a w next Q := by
  unfold ePick at h
  split at h
  · rename_i cb hc
    obtain ⟨ec, _⟩ := (hm.cx ht).ev hc
    obtain ⟨b, p, hb, hm', hd⟩ := condB_ok hm h
    cases b
    · simp only [cond_false] at hd
      split at hd
      · rename_i v hv
        obtain ⟨ev, _⟩ := (hm'.cx ht).ev hv
        refine wp_value (x := SV.den ρ (v.under p)) (w' := w) ?_ (hk _ _ _ _ (Env.le_refl ρ) hm' hd)
        unfold execOp
        simp [ho, ec, ev, SV.den, asBool, hb, SV.den_under hm'.hpc]
      · exact (den_fail hd).elim
    · simp only [cond_true] at hd
      split at hd
      · rename_i v hv
        obtain ⟨ev, _⟩ := (hm'.cx ht).ev hv
        refine wp_value (x := SV.den ρ (v.under p)) (w' := w) ?_ (hk _ _ _ _ (Env.le_refl ρ) hm' hd)
        unfold execOp
        simp [ho, ec, ev, SV.den, asBool, hb, SV.den_under hm'.hpc]
      · exact (den_fail hd).elim
  · exact (den_fail h).elim

end Go.SX
set_option linter.unusedVariables false
set_option linter.unusedSimpArgs false
namespace Go.SX
open Go Go.RowKit

variable {F : Nat → List Int → Option (List Int)} {K : Nat} {r : Nat × List Int}
variable {C : Cfg} {w0 w w' : World} {ρ ρ' : Env} {st : St} {tm : Tm} {a : Act} {o : Oper} {k : SV → St → T} {next : Act → World → Prop} {Q : Exit → Act → World → Prop}

theorem strEq_spec : ∀ (a b : List UInt8), strEq a b = (a == b)
  | [], [] => rfl
  | [], _ :: _ => rfl
  | _ :: _, [] => rfl
  | x :: a, y :: b => by
    simp only [strEq, strEq_spec a b]
    have : Nat.beq x.toNat y.toNat = (x == y) := by
      rw [Bool.eq_iff_iff, Nat.beq_eq, beq_iff_eq]
      exact UInt8.toNat_inj
    rw [this]; rfl
theorem bytes_beq (a b : List UInt8) : ((⟨a.toArray⟩ : ByteArray) == ⟨b.toArray⟩) = (a == b) := by
  rw [beq_toListBytes, ByteArray.toList_eq, ByteArray.toList_eq]
theorem bytes_eq {a b : ByteArray} (h : (a == b) = true) : a = b := by
  rw [beq_toListBytes, beq_iff_eq, ByteArray.toList_eq, ByteArray.toList_eq] at h
  obtain ⟨⟨x⟩⟩ := a
  obtain ⟨⟨y⟩⟩ := b
  simp at h
  rw [h]
theorem bytes_refl (a : ByteArray) : (a == a) = true := by
  rw [beq_toListBytes]; simp

theorem keyEq_ok {x y : SV} {c : B} (h : keyEq x y = some c) {td : TD} {kd : TypeDesc} (hk : keyKind td x = true) (hd : (∃ k, td = .int k ∧ kd = .int k) ∨ (td = .str ∧ kd = .string)) (ρ : Env) :
    Instr.sameNow kd (x.den ρ) (y.den ρ) = some (c.den ρ.is) := by
  unfold keyEq at h
  split at h
  · rename_i k a k' b
    cases hkk : kindEq k k' <;> rw [hkk] at h <;> simp only [cond_true, cond_false] at h
    · cases h
    · cases h
      cases kindEq_eq hkk
      rcases hd with ⟨j, rfl, rfl⟩ | ⟨rfl, rfl⟩
      · simp [Instr.sameNow, SV.den, B.den_mkEq]
      · simp [keyKind] at hk
  · rename_i s t
    cases h
    rcases hd with ⟨j, rfl, rfl⟩ | ⟨rfl, rfl⟩
    · simp [keyKind] at hk
    · simp only [Instr.sameNow, SV.den, B.den, strEq_spec]
      congr 1
      exact bytes_beq s t
  · cases h

theorem findE_ok {key : SV} {td : TD} {kd : TypeDesc} (hk : keyKind td key = true) (hd : (∃ k, td = .int k ∧ kd = .int k) ∨ (td = .str ∧ kd = .string)) (ρ : Env) : ∀ (es : List (SV × SV × Nat)) (i : Nat) {res : Option Nat}, findE key es i = some res →
    Instr.findNow kd (key.den ρ) (esDen ρ es) i = some (match res with
      | none => none
      | some j => some (j, ((es[j - i]?).map fun e => e.2.1.den ρ).getD undef)) ∧ (∀ j, res = some j → i ≤ j ∧ ∃ e, es[j - i]? = some e ∧ Instr.sameNow kd (key.den ρ) (e.1.den ρ) = some true)
  | [], i, res, h => by
    simp only [findE] at h
    cases h
    exact ⟨rfl, fun j hj => by cases hj⟩
  | e :: es, i, res, h => by
    simp only [findE] at h
    split at h
    · rename_i he
      cases h
      have hs := keyEq_ok he hk hd ρ
      refine ⟨?_, fun j hj => ?_⟩
      · simp only [esDen, List.map_cons, Instr.findNow, hs, B.den]
        simp
      · cases hj
        exact ⟨Nat.le_refl _, e, by simp, hs⟩
    · rename_i he
      have hs := keyEq_ok he hk hd ρ
      obtain ⟨h1, h2⟩ := findE_ok hk hd ρ es (i + 1) h
      refine ⟨?_, fun j hj => ?_⟩
      · simp only [esDen, List.map_cons, Instr.findNow, hs, B.den]
        rw [show (es.map fun e => (⟨e.1.den ρ, e.2.1.den ρ, e.2.2⟩ : MapEntry)) = esDen ρ es from rfl, h1]
        cases res with
        | none => rfl
        | some j =>
          obtain ⟨h3, _⟩ := h2 j rfl
          show some (some (j, (Option.map (fun e => SV.den ρ e.snd.fst) es[j - (i + 1)]?).getD undef)) = some (some (j, (Option.map (fun e => SV.den ρ e.snd.fst) (e :: es)[j - i]?).getD undef))
          rw [show j - i = (j - (i + 1)) + 1 from by omega, List.getElem?_cons_succ]
      · obtain ⟨h3, e', h4, h5⟩ := h2 j hj
        refine ⟨by omega, e', ?_, h5⟩
        rw [show j - i = (j - (i + 1)) + 1 from by omega]
        simpa using h4
    · cases h

theorem run_checkKey {kt : TypeId} {kd : TypeDesc} {key : SV} {td : TD} (hk : keyKind td key = true) (hd : (∃ k, td = .int k ∧ kd = .int k) ∨ (td = .str ∧ kd = .string)) (hu : C.P.underlying kt = some kd) (b : Bool) (ρ : Env) (w : World) :
    (Instr.checkKey b 10000 kt (key.den ρ)).run C.P w = .ok () w := by
  have gen : ∀ n, (Instr.checkKey b (n + 1) kt (key.den ρ)).run C.P w = .ok () w := by
    intro n
    rcases hd with ⟨j, rfl, rfl⟩ | ⟨rfl, rfl⟩ <;> cases key <;> simp [keyKind] at hk <;> simp [Instr.checkKey, run_underlying hu, SV.den]
  exact gen 9999

theorem same_key {kd : TypeDesc} {x y : Value} (h : Instr.sameNow kd x y = some true) : x = y := by
  unfold Instr.sameNow at h
  split at h
  · split at h
    · rename_i e; cases e; simp at h; rw [h]
    · cases h
  · simp only [Option.some.injEq] at h; rw [bytes_eq h]
  · simp at h; rw [h]
  · cases h
theorem same_bits {kd : TypeDesc} {x : Value} (h : Instr.sameNow kd x x = some true) (n : Nat) : Instr.sameBits n x x = true := by
  cases n <;> cases x <;> first
    | (simp [Instr.sameBits]; done)
    | (simp only [Instr.sameBits]; exact bytes_refl _)
    | (simp [Instr.sameNow] at h)

theorem tdKey (hty : TyOk C.P C.ty) {kt : TypeId} {td : TD} (h : tdOf C.ty kt = td) {key : SV} (hk : keyKind td key = true) : ∃ kd, C.P.underlying kt = some kd ∧ ((∃ k, td = .int k ∧ kd = .int k) ∨ (td = .str ∧ kd = .string)) := by
  cases td <;> simp [keyKind] at hk
  · obtain ⟨_, d1, _, _, _, hu1, _, hm1, _⟩ := tdOf_info hty h (by simp)
    cases mkTD_int hm1
    exact ⟨_, hu1, .inl ⟨_, rfl, rfl⟩⟩
  · obtain ⟨_, d1, _, _, _, hu1, _, hm1, _⟩ := tdOf_info hty h (by simp)
    cases mkTD_str hm1
    exact ⟨_, hu1, .inr ⟨rfl, rfl⟩⟩

theorem run_findKey {kt : TypeId} {kd : TypeDesc} {key : Value} {es : List MapEntry} {res : Option (Nat × Value)} (hu : C.P.underlying kt = some kd) (h : Instr.findNow kd key es 0 = some res) (w : World) : (Instr.findKey kt key es).run C.P w = .ok res w := by
  simp [Instr.findKey, run_underlying hu, h]

/-- A map turned. -/
theorem Md.setMap (hm : Md C w0 ρ st w) {b : Nat} {es es' : List (SV × SV × Nat)} {c c' : Nat} (hb : st.mem.get b = some (.map es c)) (hw : esWf st.ni st.nb es' = true) :
    (setObj (ρ.b b) (.map (esDen ρ es').toArray c')).run C.P w = .ok () { w with heap := w.heap.setIfInBounds (ρ.b b) (.map (esDen ρ es').toArray c') } ∧
    Md C w0 ρ { st with mem := st.mem.put b (.map es' c') } { w with heap := w.heap.setIfInBounds (ρ.b b) (.map (esDen ρ es').toArray c') } := by
  obtain ⟨_, h2, h3⟩ := hm.mem b _ hb
  have hok := (h3 rfl).2
  simp only [SO.ok] at hok
  have hlt : ρ.b b < w.heap.size := (Array.getElem?_eq_some_iff.1 hok).1
  refine ⟨by simp [setObj, Sem.run, hok], hm.upd hb rfl (o' := .map es' c') hw rfl rfl rfl (by simp) (fun k hk => by simp [Array.getElem?_setIfInBounds_ne (Ne.symm hk)]) (fun _ => ?_)⟩
  simp only [SO.ok]
  simp [hlt]
theorem run_getMap (hm : Md C w0 ρ st w) {b : Nat} {es : List (SV × SV × Nat)} {c : Nat} (hb : st.mem.get b = some (.map es c)) : (getObj (ρ.b b)).run C.P w = .ok (.map (esDen ρ es).toArray c) w ∧ esWf st.ni st.nb es = true := by
  obtain ⟨_, h2, h3⟩ := hm.mem b _ hb
  have hok := (h3 rfl).2
  simp only [SO.ok] at hok
  exact ⟨by simp [getObj, Sem.run, hok], h2⟩

theorem esWf_append {ni nb : Nat} : ∀ {l m : List (SV × SV × Nat)}, esWf ni nb l = true → esWf ni nb m = true → esWf ni nb (l ++ m) = true
  | [], m, _, h => h
  | e :: l, m, h, h' => by
    simp only [esWf, Bool.and_eq_true, List.cons_append] at h ⊢
    exact ⟨h.1, esWf_append h.2 h'⟩
theorem esWf_set {ni nb : Nat} {x : SV × SV × Nat} (hx : x.1.wf ni nb = true) (hx' : x.2.1.wf ni nb = true) : ∀ {l : List (SV × SV × Nat)} {i : Nat}, esWf ni nb l = true → esWf ni nb (setN l i x) = true
  | [], _, _ => rfl
  | e :: l, 0, h => by
    simp only [esWf, Bool.and_eq_true, setN] at h ⊢
    exact ⟨⟨hx, hx'⟩, h.2⟩
  | e :: l, i + 1, h => by
    simp only [esWf, Bool.and_eq_true, setN] at h ⊢
    exact ⟨h.1, esWf_set hx hx' h.2⟩
theorem esWf_get {ni nb : Nat} : ∀ {l : List (SV × SV × Nat)} {i : Nat} {e : SV × SV × Nat}, esWf ni nb l = true → l[i]? = some e → e.1.wf ni nb = true ∧ e.2.1.wf ni nb = true
  | [], _, _, _, h => by simp at h
  | x :: l, 0, e, h, he => by
    simp only [esWf, Bool.and_eq_true] at h
    simp at he; subst he; exact h.1
  | x :: l, i + 1, e, h, he => by
    simp only [esWf, Bool.and_eq_true] at h
    exact esWf_get h.2 (by simpa using he)
theorem esDen_modify (ρ : Env) {l : List (SV × SV × Nat)} {i : Nat} {e : SV × SV × Nat} (he : l[i]? = some e) (f : MapEntry → MapEntry) {x : SV × SV × Nat} (hx : f ⟨e.1.den ρ, e.2.1.den ρ, e.2.2⟩ = ⟨x.1.den ρ, x.2.1.den ρ, x.2.2⟩) :
    (esDen ρ l).toArray.modify i f = (esDen ρ (setN l i x)).toArray := by
  apply Array.ext_getElem?
  intro j
  rw [setN_eq]
  simp only [Array.getElem?_modify, List.getElem?_toArray, esDen, List.getElem?_map, List.getElem?_set]
  by_cases h : i = j
  · subst h
    obtain ⟨hlt, hle⟩ := List.getElem?_eq_some_iff.1 he
    simp [hlt, hle, hx]
  · simp [h]

theorem eMapUpdate_ok (hty : TyOk C.P C.ty) (hm : Md C w0 ρ st w) (ht : TmOk ρ st.ni st.nb tm a) {t : TypeId} {x y z : Operand} (ho : o.op = .mapUpdate t x y z ∨ o.op = .insert t x y z) (h : (eMapUpdate C tm st k t x y z).den F K ρ.is = some r) (hk : HK F K r C w0 ρ a o.dst next k) : o.wp C.P a w next Q := by
  unfold eMapUpdate at h
  split at h
  · rename_i kt et htd
    split at h
    · rename_i td b key v hkd hx hy hz
      cases hkd
      obtain ⟨ex, _⟩ := (hm.cx ht).ev hx
      obtain ⟨ey, wy⟩ := (hm.cx ht).ev hy
      obtain ⟨ez, wz⟩ := (hm.cx ht).ev hz
      cases hc : (keyKind (tdOf C.ty kt) key && v.wf st.ni st.nb && key.wf st.ni st.nb && v.cell) <;> rw [hc] at h <;> simp only [cond_true, cond_false] at h
      · exact (den_fail h).elim
      · simp only [Bool.and_eq_true] at hc
        obtain ⟨⟨⟨hkk, _⟩, _⟩, hcell⟩ := hc
        obtain ⟨_, d1, _, _, _, hu1, _, hm1, _⟩ := tdOf_info hty htd (by simp)
        cases mkTD_map hm1
        obtain ⟨kd, hku, hkd⟩ := tdKey hty rfl hkk
        have hck := run_checkKey (C := C) hkk hkd hku false ρ w
        have wk : key.wf st.ni st.nb = true := wy
        split at h
        · rename_i es clock hb
          obtain ⟨hget, hwf⟩ := run_getMap hm hb
          split at h
          · rename_i hf
            obtain ⟨f1, _⟩ := findE_ok hkk hkd ρ es 0 hf
            have hfk := run_findKey (C := C) hku f1 w
            obtain ⟨s1, s2⟩ := hm.setMap hb (es' := es ++ [(key, v, clock)]) (c' := clock + 1) (esWf_append hwf (by simp [esWf, wk, wz]))
            refine wp_skip (w' := _) ?_ (hk _ _ _ (.tup []) (Env.le_refl ρ) s2 h)
            have e1 : (esDen ρ es).toArray.push ⟨key.den ρ, v.den ρ, clock⟩ = (esDen ρ (es ++ [(key, v, clock)])).toArray := by simp [esDen]
            unfold execOp
            rcases ho with ho | ho <;> simp only [ho, ex, ey, ez, SV.den, Instr.mapUpdate, Sem.run_bind, run_underlying hu1, Result.andThen_ok, hget, hck, hfk, e1, s1, Sem.run_pure]
          · rename_i i hf
            obtain ⟨f1, f2⟩ := findE_ok hkk hkd ρ es 0 hf
            obtain ⟨_, e, he, hs⟩ := f2 i rfl
            rw [Nat.sub_zero] at he
            have hfk := run_findKey (C := C) hku f1 w
            split at h
            · rename_i e' he'
              rw [nth_eq, he] at he'
              cases he'
              obtain ⟨we1, we2⟩ := esWf_get hwf he
              obtain ⟨s1, s2⟩ := hm.setMap hb (es' := setN es i (e.1, v, e.2.2)) (c' := clock) (esWf_set (x := (e.1, v, e.2.2)) we1 wz hwf)
              refine wp_skip (w' := _) ?_ (hk _ _ _ (.tup []) (Env.le_refl ρ) s2 h)
              have ek : key.den ρ = e.1.den ρ := same_key hs
              have e1 : (esDen ρ es).toArray.modify i (fun x => { x with key := key.den ρ, val := v.den ρ }) = (esDen ρ (setN es i (e.1, v, e.2.2))).toArray := esDen_modify ρ he _ (by simp [ek])
              have e2 : (((esDen ρ es).toArray[i]?).map (·.key)).getD (key.den ρ) = key.den ρ := by
                simp only [List.getElem?_toArray, esDen, List.getElem?_map, he, Option.map_some, Option.getD_some]
                exact ek.symm
              have hks : (Instr.keyThatStays (key.den ρ) (key.den ρ)).run C.P w = .ok (key.den ρ) w := by
                rw [ek] at hs ⊢
                simp [Instr.keyThatStays, same_bits hs]
              unfold execOp
              rcases ho with ho | ho <;> simp only [ho, ex, ey, ez, SV.den, Instr.mapUpdate, Sem.run_bind, run_underlying hu1, Result.andThen_ok, hget, hck, hfk, e2, hks, e1, s1, Sem.run_pure]
            · exact (den_fail h).elim
          · exact (den_fail h).elim
        · exact (den_fail h).elim
    · exact (den_fail h).elim
  · exact (den_fail h).elim

theorem zeroV_ok (hty : TyOk C.P C.ty) {t : TypeId} {z : SV} (h : zeroV C.ty t = some z) (ρ : Env) (w : World) : (zeroValue t).run C.P w = .ok (z.den ρ) w := by
  unfold zeroV at h
  split at h
  · rename_i e he
    obtain ⟨dd, i, hu, hi, hmt, hs, _, hz⟩ := hty.info he
    split at h
    · rename_i l hl
      obtain ⟨v, hv, _, hzo⟩ := hz l hl
      rw [run_zero hi hv]
      unfold zeroOf at hzo
      cases ha : e.d.agg <;> rw [ha] at h hzo <;> simp only [cond_true, cond_false] at h hzo
      · cases hv1 : ofVal1 v with
        | none => rw [hv1] at hzo; cases hzo
        | some s =>
          rw [hv1] at hzo
          cases hzo
          cases h
          rw [(ofVal1_spec hv1 ρ 0 0).1]
      · cases h
        split at hzo
        · rw [SV.den, ofVals_den hzo ρ]
        · cases hzo
    · cases h
  · cases h

theorem eMapEntry_ok (hty : TyOk C.P C.ty) (hm : Md C w0 ρ st w) (ht : TmOk ρ st.ni st.nb tm a) {t : TypeId} {x y : Operand} (ho : o.op = .mapEntry t x y) (h : (eMapEntry C tm st k t x y).den F K ρ.is = some r) (hk : HK F K r C w0 ρ a o.dst next k) : o.wp C.P a w next Q := by
  unfold eMapEntry at h
  split at h
  · rename_i kt et htd
    split at h
    · rename_i td b key z hkd hx hy hz
      cases hkd
      obtain ⟨ex, _⟩ := (hm.cx ht).ev hx
      obtain ⟨ey, wk⟩ := (hm.cx ht).ev hy
      cases hc : (keyKind (tdOf C.ty kt) key && key.wf st.ni st.nb && z.wf st.ni st.nb) <;> rw [hc] at h <;> simp only [cond_true, cond_false] at h
      · exact (den_fail h).elim
      · simp only [Bool.and_eq_true] at hc
        obtain ⟨⟨hkk, _⟩, wz⟩ := hc
        obtain ⟨_, d1, _, _, _, hu1, _, hm1, _⟩ := tdOf_info hty htd (by simp)
        cases mkTD_map hm1
        obtain ⟨kd, hku, hkd⟩ := tdKey hty rfl hkk
        have hck := run_checkKey (C := C) hkk hkd hku false ρ w
        have hzr := zeroV_ok hty hz ρ w
        split at h
        · rename_i es clock hb
          obtain ⟨hget, hwf⟩ := run_getMap hm hb
          split at h
          · rename_i hf
            obtain ⟨f1, _⟩ := findE_ok hkk hkd ρ es 0 hf
            have hfk := run_findKey (C := C) hku f1 w
            obtain ⟨s1, s2⟩ := hm.setMap hb (es' := es ++ [(key, z, clock)]) (c' := clock + 1) (esWf_append hwf (by simp [esWf, wk, wz]))
            refine wp_value (x := SV.den ρ (.tup [z, .int .i64 (.n clock)])) (w' := _) ?_ (hk _ _ _ _ (Env.le_refl ρ) s2 h)
            have e1 : (esDen ρ es).toArray.push ⟨key.den ρ, z.den ρ, clock⟩ = (esDen ρ (es ++ [(key, z, clock)])).toArray := by simp [esDen]
            unfold execOp
            simp only [ho, ex, ey, SV.den, SV.dens, A.den, Instr.mapEntry, Sem.run_bind, run_underlying hu1, Result.andThen_ok, hget, hck, hfk, hzr, e1, s1, Sem.run_pure, goInt]
          · rename_i i hf
            obtain ⟨f1, f2⟩ := findE_ok hkk hkd ρ es 0 hf
            obtain ⟨_, e, he, hs⟩ := f2 i rfl
            rw [Nat.sub_zero] at he
            have hfk := run_findKey (C := C) hku f1 w
            split at h
            · rename_i e' he'
              rw [nth_eq, he] at he'
              cases he'
              have ek : key.den ρ = e.1.den ρ := same_key hs
              have e0 : setN es i e = es := by
                rw [setN_eq]
                apply List.ext_getElem?
                intro j
                rw [List.getElem?_set]
                split
                · rename_i hij; subst hij
                  split
                  · exact he.symm
                  · rename_i hlt; rw [List.getElem?_eq_none (by omega)]
                · rfl
              obtain ⟨we1, we2⟩ := esWf_get hwf he
              obtain ⟨s1, s2⟩ := hm.setMap hb (es' := setN es i e) (c' := clock) (esWf_set (x := e) we1 we2 hwf)
              have hmem : Md C w0 ρ st { w with heap := w.heap.setIfInBounds (ρ.b b) (.map (esDen ρ (setN es i e)).toArray clock) } := by
                obtain ⟨_, h2, h3⟩ := hm.mem b _ hb
                have hok := (h3 rfl).2
                simp only [SO.ok] at hok
                have : w.heap.setIfInBounds (ρ.b b) (.map (esDen ρ (setN es i e)).toArray clock) = w.heap := by
                  rw [e0]
                  apply Array.ext_getElem?
                  intro j
                  rw [Array.getElem?_setIfInBounds]
                  split
                  · rename_i hij; subst hij
                    have hlt : ρ.b b < w.heap.size := (Array.getElem?_eq_some_iff.1 hok).1
                    rw [if_pos hlt, hok]
                  · rfl
                rw [this]; exact hm
              refine wp_value (x := SV.den ρ (.tup [e.2.1, .int .i64 (.n e.2.2)])) (w' := _) ?_ (hk _ _ _ _ (Env.le_refl ρ) hmem h)
              have e1 : (esDen ρ es).toArray.modify i (fun x => { x with key := key.den ρ }) = (esDen ρ (setN es i e)).toArray := esDen_modify ρ he _ (by simp [ek])
              have e2 : (((esDen ρ es).toArray[i]?).map (·.key)).getD (key.den ρ) = key.den ρ := by
                simp only [List.getElem?_toArray, esDen, List.getElem?_map, he, Option.map_some, Option.getD_some]
                exact ek.symm
              have e3 : (((esDen ρ es).toArray[i]?).map (·.born)).getD 0 = e.2.2 := by
                simp only [List.getElem?_toArray, esDen, List.getElem?_map, he, Option.map_some, Option.getD_some]
              have hks : (Instr.keyThatStays (key.den ρ) (key.den ρ)).run C.P w = .ok (key.den ρ) w := by
                rw [ek] at hs ⊢
                simp [Instr.keyThatStays, same_bits hs]
              unfold execOp
              simp only [ho, ex, ey, SV.den, SV.dens, A.den, Instr.mapEntry, Sem.run_bind, run_underlying hu1, Result.andThen_ok, hget, hck, hfk, e2, hks, e1, s1, Sem.run_pure, goInt, Nat.sub_zero, he, Option.map_some, Option.getD_some]
              simp [esDen, he]
            · exact (den_fail h).elim
          · exact (den_fail h).elim
        · exact (den_fail h).elim
    · exact (den_fail h).elim
  · exact (den_fail h).elim

theorem byBorn_ok (ρ : Env) (n : Nat) : ∀ (es : List (SV × SV × Nat)) (i : Nat) {j : Nat}, byBorn n es i = some j → i ≤ j ∧ (esDen ρ es).findIdx? (fun e => (e.born : Int) == (n : Int)) = some (j - i)
  | [], i, j, h => by cases h
  | e :: es, i, j, h => by
    simp only [byBorn] at h
    cases hb : Nat.beq e.2.2 n <;> rw [hb] at h <;> simp only [cond_true, cond_false] at h
    · obtain ⟨h1, h2⟩ := byBorn_ok ρ n es (i + 1) h
      refine ⟨by omega, ?_⟩
      simp only [esDen, List.map_cons, List.findIdx?_cons]
      have : ((e.2.2 : Int) == (n : Int)) = false := by
        rw [beq_eq_false_iff_ne]; intro hh
        have : e.2.2 = n := by omega
        rw [this] at hb; simp at hb
      rw [this]
      simp only [Bool.false_eq_true, if_false]
      rw [show (es.map fun e => (⟨e.1.den ρ, e.2.1.den ρ, e.2.2⟩ : MapEntry)) = esDen ρ es from rfl, h2]
      simp; omega
    · cases h
      refine ⟨Nat.le_refl _, ?_⟩
      simp only [esDen, List.map_cons, List.findIdx?_cons, beq_nat hb]
      simp

theorem eEntryStore_ok (hm : Md C w0 ρ st w) (ht : TmOk ρ st.ni st.nb tm a) {t : TypeId} {x y z : Operand} (ho : o.op = .entryStore t x y z) (h : (eEntryStore C tm st k x y z).den F K ρ.is = some r) (hk : HK F K r C w0 ρ a o.dst next k) : o.wp C.P a w next Q := by
  unfold eEntryStore at h
  split at h
  · rename_i b kk c v hx hy hz
    obtain ⟨ex, _⟩ := (hm.cx ht).ev hx
    obtain ⟨ey, _⟩ := (hm.cx ht).ev hy
    obtain ⟨ez, wz⟩ := (hm.cx ht).ev hz
    split at h
    · rename_i n es clock hn hb
      cases hc : (v.wf st.ni st.nb && v.cell) <;> rw [hc] at h <;> simp only [cond_true, cond_false] at h
      · exact (den_fail h).elim
      · split at h
        · rename_i i hbb
          obtain ⟨_, hfi⟩ := byBorn_ok ρ n es 0 hbb
          rw [Nat.sub_zero] at hfi
          split at h
          · rename_i e he
            rw [nth_eq] at he
            obtain ⟨hget, hwf⟩ := run_getMap hm hb
            obtain ⟨we1, we2⟩ := esWf_get hwf he
            obtain ⟨s1, s2⟩ := hm.setMap hb (es' := setN es i (e.1, v, e.2.2)) (c' := clock) (esWf_set (x := (e.1, v, e.2.2)) we1 wz hwf)
            refine wp_skip (w' := _) ?_ (hk _ _ _ (.tup []) (Env.le_refl ρ) s2 h)
            have e1 : (esDen ρ es).toArray.modify i (fun x => { x with val := v.den ρ }) = (esDen ρ (setN es i (e.1, v, e.2.2))).toArray := esDen_modify ρ he _ rfl
            have e2 : (esDen ρ es).toArray.findIdx? (fun e => (e.born : Int) == (n : Int)) = some i := by
              rw [List.findIdx?_toArray]; exact hfi
            unfold execOp
            simp only [ho, ex, ey, ez, SV.den, A.den, litNat_eq hn, Instr.entryStore, Sem.run_bind, hget, Result.andThen_ok, asInt, asIntOf, Sem.run_pure, e2, e1, s1]
          · exact (den_fail h).elim
        · exact (den_fail h).elim
    · exact (den_fail h).elim
  · exact (den_fail h).elim

theorem lookE_ok {key : SV} {td : TD} {kd : TypeDesc} (hkk : keyKind td key = true) (hd : (∃ k, td = .int k ∧ kd = .int k) ∨ (td = .str ∧ kd = .string)) {kn : St → T} {ks : SV → St → T} : ∀ (es : List (SV × SV × Nat)) (i : Nat) {st : St}, Md C w0 ρ st w → (lookE key st kn ks es).den F K ρ.is = some r →
    (Instr.findNow kd (key.den ρ) (esDen ρ es) i = some none ∧ ∃ p, Md C w0 ρ { st with pc := p } w ∧ (kn { st with pc := p }).den F K ρ.is = some r) ∨
    (∃ j v, Instr.findNow kd (key.den ρ) (esDen ρ es) i = some (some (j, v.den ρ)) ∧ ∃ p, Md C w0 ρ { st with pc := p } w ∧ (ks v { st with pc := p }).den F K ρ.is = some r)
  | [], i, st, hm, h => .inl ⟨rfl, st.pc, hm, h⟩
  | e :: es, i, st, hm, h => by
    simp only [lookE] at h
    split at h
    · rename_i c hc
      have hs := keyEq_ok hc hkk hd ρ
      obtain ⟨b, p, hb, hm', hd'⟩ := condB_ok hm h
      simp only [esDen, List.map_cons, Instr.findNow, hs, hb]
      cases b
      · simp only [cond_false] at hd'
        rcases lookE_ok hkk hd es (i + 1) hm' hd' with ⟨h1, p', h2⟩ | ⟨j, v, h1, p', h2⟩
        · exact .inl ⟨h1, p', h2⟩
        · exact .inr ⟨j, v, h1, p', h2⟩
      · simp only [cond_true] at hd'
        exact .inr ⟨i, e.2.1, rfl, p, hm', hd'⟩
    · exact (den_fail h).elim

theorem eLookup_ok (hty : TyOk C.P C.ty) (hm : Md C w0 ρ st w) (ht : TmOk ρ st.ni st.nb tm a) {t : TypeId} {x y : Operand} {ok : Bool} (ho : o.op = .lookup t x y ok) (h : (eLookup C tm st k t x y ok).den F K ρ.is = some r) (hk : HK F K r C w0 ρ a o.dst next k) : o.wp C.P a w next Q := by
  unfold eLookup at h
  split at h
  · rename_i kt et htd
    split at h
    · rename_i td key z hkd hy hz
      cases hkd
      obtain ⟨ey, wk⟩ := (hm.cx ht).ev hy
      cases hkk : keyKind (tdOf C.ty kt) key <;> rw [hkk] at h <;> simp only [cond_true, cond_false] at h
      · exact (den_fail h).elim
      · obtain ⟨_, d1, _, _, _, hu1, _, hm1, _⟩ := tdOf_info hty htd (by simp)
        cases mkTD_map hm1
        obtain ⟨kd, hku, hkd⟩ := tdKey hty rfl hkk
        have hzr := zeroV_ok hty hz ρ w
        -- what is looked up in
        have main : ∀ (es : List (SV × SV × Nat)) (X : Value), a.eval x = X → ((X = .map none ∧ es = []) ∨ ∃ b c, X = .map (some b) ∧ (getObj b).run C.P w = .ok (.map (esDen ρ es).toArray c) w) →
            (lookE key st (fun st => k (bif ok then .tup [z, .bool (.c false)] else z) st) (fun v st => k (bif ok then .tup [v, .bool (.c true)] else v) st) es).den F K ρ.is = some r → o.wp C.P a w next Q := by
          intro es X hX hrun hd
          have hck := run_checkKey (C := C) hkk hkd hku (esDen ρ es).toArray.isEmpty ρ w
          rcases lookE_ok hkk hkd es 0 hm hd with ⟨h1, p, hm', hd'⟩ | ⟨j, v, h1, p, hm', hd'⟩
          · have hfk := run_findKey (C := C) hku h1 w
            refine wp_value (x := SV.den ρ (bif ok then .tup [z, .bool (.c false)] else z)) (w' := w) ?_ (hk _ _ _ _ (Env.le_refl ρ) hm' hd')
            unfold execOp
            rcases hrun with ⟨rfl, rfl⟩ | ⟨b, c, rfl, hrun⟩
            · have e0 : (#[] : Array MapEntry) = (esDen ρ []).toArray := rfl
              simp only [ho, hX, ey, Instr.lookup, Sem.run_bind, run_underlying hu1, Result.andThen_ok, Sem.run_pure, e0, hck, hfk, hzr]
              cases ok <;> simp [SV.den, SV.dens, B.den]
            · simp only [ho, hX, ey, Instr.lookup, Sem.run_bind, run_underlying hu1, Result.andThen_ok, hrun, Sem.run_pure, hck, hfk, hzr]
              cases ok <;> simp [SV.den, SV.dens, B.den]
          · have hfk := run_findKey (C := C) hku h1 w
            refine wp_value (x := SV.den ρ (bif ok then .tup [v, .bool (.c true)] else v)) (w' := w) ?_ (hk _ _ _ _ (Env.le_refl ρ) hm' hd')
            unfold execOp
            rcases hrun with ⟨rfl, rfl⟩ | ⟨b, c, rfl, hrun⟩
            · have e0 : (#[] : Array MapEntry) = (esDen ρ []).toArray := rfl
              simp only [ho, hX, ey, Instr.lookup, Sem.run_bind, run_underlying hu1, Result.andThen_ok, Sem.run_pure, e0, hck, hfk, hzr]
              cases ok <;> simp [SV.den, SV.dens, B.den]
            · simp only [ho, hX, ey, Instr.lookup, Sem.run_bind, run_underlying hu1, Result.andThen_ok, hrun, Sem.run_pure, hck, hfk, hzr]
              cases ok <;> simp [SV.den, SV.dens, B.den]
        split at h
        · rename_i es hes
          split at hes
          · rename_i hx
            cases hes
            obtain ⟨ex, _⟩ := (hm.cx ht).ev hx
            exact main [] _ ex (.inl ⟨rfl, rfl⟩) h
          · rename_i b hx
            obtain ⟨ex, _⟩ := (hm.cx ht).ev hx
            split at hes <;> cases hes
            rename_i clock hb
            obtain ⟨hget, hwf⟩ := run_getMap hm hb
            exact main es _ ex (.inr ⟨_, _, rfl, hget⟩) h
          · cases hes
        · exact (den_fail h).elim
    · exact (den_fail h).elim
  · exact (den_fail h).elim

end Go.SX
