/- The symbolic executor SX, its soundness, part 9: operations that look at memory, make some, or branch. -/
import Derived.Test.YtncaejnkpmmoeaaDoorSxS8
set_option linter.unusedVariables false
set_option linter.unusedSimpArgs false
namespace Go.SX
open Go Go.RowKit

variable {F : Nat → List Int → Option (List Int)} {K : Nat} {r : Nat × List Int}
variable {C : Cfg} {w0 w w' : World} {ρ ρ' : Env} {st : St} {tm : Tm} {a : Act} {o : Oper} {k : SV → St → T} {next : Act → World → Prop} {Q : Exit → Act → World → Prop}

/-- What is asked of what comes behind an operation. -/
def HK (F : Nat → List Int → Option (List Int)) (K : Nat) (r : Nat × List Int) (C : Cfg) (w0 : World) (ρ : Env) (a : Act) (d : Option Tmp) (next : Act → World → Prop) (k : SV → St → T) : Prop :=
  ∀ ρ' st' w' v, ρ.le ρ' → Md C w0 ρ' st' w' → (k v st').den F K ρ'.is = some r → next (a.put d (v.den ρ')) w'

theorem wp_value {x : Value} (h : (execOp a.eval o).run C.P w = .ok (.value x) w') (hn : next (a.put o.dst x) w') : o.wp C.P a w next Q := by
  unfold Oper.wp; rw [h]; exact hn
theorem wp_skip (h : (execOp a.eval o).run C.P w = .ok .skip w') (hn : next (a.put o.dst undef) w') : o.wp C.P a w next Q := by
  unfold Oper.wp; rw [h]; exact hn

theorem newB_ok (hm : Md C w0 ρ st w) {so : SO} {ob : Obj} {kk : Nat → St → T} (h : (newB st so kk).den F K ρ.is = some r) (hl : so.live = true) (cap : Nat)
    (hob : so.wf st.ni st.nb = true → ∀ ρ' : Env, ρ.le ρ' → ρ'.b st.nb = w.heap.size → ρ'.cap st.nb = cap → SO.ok ρ' (w.alloc ob) st.nb so) :
    ∃ ρ', ρ.le ρ' ∧ ρ'.b st.nb = w.heap.size ∧ ρ'.cap st.nb = cap ∧ Md C w0 ρ' { st with mem := st.mem.put st.nb so, nb := st.nb + 1 } (w.alloc ob) ∧ (kk st.nb { st with mem := st.mem.put st.nb so, nb := st.nb + 1 }).den F K ρ'.is = some r := by
  unfold newB at h
  cases hw : so.wf st.ni st.nb <;> rw [hw] at h <;> simp only [cond_true, cond_false] at h
  · exact (den_fail h).elim
  · refine ⟨⟨ρ.is, ρ.bs ++ [(w.heap.size, cap)]⟩, ⟨⟨[], by simp⟩, ⟨_, rfl⟩⟩, by simp [Env.b, ← hm.hnb, List.getD], by simp [Env.cap, ← hm.hnb, List.getD], hm.new hw hl cap (hob hw), h⟩
theorem ok_cells {cs : List SV} {e : TypeId} (hm : Md C w0 ρ st w) (hw : (SO.cells cs e).wf st.ni st.nb = true) {ρ' : Env} (hl : ρ.le ρ') (hb : ρ'.b st.nb = w.heap.size) : SO.ok ρ' (w.alloc (.cells (SV.dens ρ cs).toArray e)) st.nb (.cells cs e) := by
  simp only [SO.wf, Bool.and_eq_true] at hw
  simp only [SO.ok, hb]
  rw [SV.dens_app hl (by rw [hm.hni, hm.hnb]; exact hw.1)]
  exact heap_alloc_new w _

theorem zeroL_info (hty : TyOk C.P C.ty) {t : TypeId} {cs : List SV} (h : zeroL C.ty t = some cs) : ∃ i z, C.P.info? t = some i ∧ i.zero = some z ∧ (∀ ρ, z.cells = (SV.dens ρ cs).toArray) ∧ C.ty.get t ≠ none := by
  unfold zeroL at h
  split at h
  · rename_i e he
    obtain ⟨dd, i, hu, hi, hmt, hs, _, hz⟩ := hty.info he
    obtain ⟨z, hz1, hz2, _⟩ := hz cs h
    exact ⟨i, z, hi, hz1, fun ρ => by rw [ofVals_den hz2 ρ], by rw [he]; simp⟩
  · cases h
theorem run_zero {t : TypeId} {i : TypeInfo} {z : Value} (hi : C.P.info? t = some i) (hz : i.zero = some z) (w : World) : (zeroValue t).run C.P w = .ok z w := by simp [zeroValue, run_info hi, hz]

theorem eAlloc_ok (hty : TyOk C.P C.ty) (hm : Md C w0 ρ st w) {t : TypeId} (ho : o.op = .alloc t) (h : (eAlloc C tm st k t).den F K ρ.is = some r) (hk : HK F K r C w0 ρ a o.dst next k) : o.wp C.P a w next Q := by
  unfold eAlloc at h
  split at h
  · rename_i cs hz
    obtain ⟨i, z, hi, hz1, hz2, _⟩ := zeroL_info hty hz
    obtain ⟨ρ', hle, hb, hcp, hm', hd⟩ := newB_ok hm h rfl 0 (ob := .cells (SV.dens ρ cs).toArray t) fun hw ρ' hl hb _ => ok_cells hm hw hl hb
    refine wp_value (x := SV.den ρ' (.ptr st.nb 0)) (w' := w.alloc (.cells (SV.dens ρ cs).toArray t)) ?_ (hk _ _ _ _ hle hm' hd)
    unfold execOp
    simp only [ho, Instr.alloc, Sem.run_bind, run_zero hi hz1, Result.andThen_ok, newVar, newRow, run_newObj, Sem.run_pure, SV.den, hb, hz2 ρ]
    rfl
  · exact (den_fail h).elim

theorem eBox_ok (hm : Md C w0 ρ st w) (ht : TmOk ρ st.ni st.nb tm a) {t : TypeId} {x : Operand} (ho : o.op = .box t x) (h : (eBox C tm st k t x).den F K ρ.is = some r) (hk : HK F K r C w0 ρ a o.dst next k) : o.wp C.P a w next Q := by
  unfold eBox at h
  split at h
  · rename_i v hv
    obtain ⟨ev, wv⟩ := (hm.cx ht).ev hv
    split at h
    · rename_i cs hcs
      obtain ⟨ρ', hle, hb, hcp, hm', hd⟩ := newB_ok hm h rfl 0 (ob := .cells (SV.dens ρ cs).toArray t) fun hw ρ' hl hb _ => ok_cells hm hw hl hb
      refine wp_value (x := SV.den ρ' (.ptr st.nb 0)) (w' := w.alloc (.cells (SV.dens ρ cs).toArray t)) ?_ (hk _ _ _ _ hle hm' hd)
      unfold execOp
      simp only [ho, ev, Instr.box, Sem.run_bind, newVar, newRow, run_newObj, Result.andThen_ok, Sem.run_pure, SV.den, hb, cellsOf_spec hcs ρ]
      rfl
    · exact (den_fail h).elim
  · exact (den_fail h).elim

theorem repeatL_length (z : List SV) (n : Nat) (hz : z.length = n) : ∀ len, (repeatL len z).length = len * n := by
  intro len
  induction len with
  | zero => simp [repeatL]
  | succ m ih => simp [repeatL, ih, hz, Nat.add_mul, Nat.add_comm]
theorem repeat_cells (ρ : Env) (z : List SV) (n : Nat) (hz : z.length = n) : ∀ len, ((Array.range (len * n)).map ((SV.dens ρ z).toArray[· % (SV.dens ρ z).toArray.size]!)) = (SV.dens ρ (repeatL len z)).toArray := by
  intro len
  have hlen := repeatL_length z n hz
  have hget : ∀ len j, j < len * n → (repeatL len z)[j]? = z[j % n]? := by
    intro len
    induction len with
    | zero => intro j hj; omega
    | succ m ih =>
      intro j hj
      simp only [repeatL]
      by_cases h : j < n
      · rw [List.getElem?_append_left (by omega), Nat.mod_eq_of_lt h]
      · rw [List.getElem?_append_right (by omega), hz, ih (j - n) (by rw [Nat.succ_mul] at hj; omega)]
        congr 1
        exact (Nat.mod_eq_sub_mod (by omega)).symm
  apply Array.ext_getElem?
  intro j
  by_cases hj : j < len * n
  · have hn : 0 < n := by
      rcases Nat.eq_zero_or_pos n with h0 | h0
      · subst h0; omega
      · exact h0
    have hm := Nat.mod_lt j hn
    simp only [List.size_toArray, dens_length, hz, List.getElem?_toArray, dens_getElem?, hget len j hj, Array.getElem?_map]
    rw [Array.getElem?_eq_getElem (by simpa using hj)]
    simp only [Array.getElem_range, Option.map_some]
    rw [List.getElem?_eq_getElem (by omega)]
    simp only [Option.map_some]
    congr 1
    rw [getElem!_pos _ _ (by simp [dens_length, hz]; exact hm)]
    have := dens_getElem? ρ z (j % n)
    rw [List.getElem?_eq_getElem (by rw [dens_length]; omega), List.getElem?_eq_getElem (by omega)] at this
    simpa using this
  · rw [Array.getElem?_eq_none (by simp; omega), List.getElem?_toArray, dens_getElem?, List.getElem?_eq_none (by rw [hlen]; omega)]
    rfl

theorem eBuildSlice_ok (hty : TyOk C.P C.ty) (hm : Md C w0 ρ st w) (ht : TmOk ρ st.ni st.nb tm a) {t : TypeId} {len : Nat} {parts : Array (Nat × Operand)} (ho : o.op = .buildSlice t len parts) (h : (eBuildSlice C tm st k t len parts).den F K ρ.is = some r) (hk : HK F K r C w0 ρ a o.dst next k) : o.wp C.P a w next Q := by
  unfold eBuildSlice at h
  split at h
  · rename_i e n htd
    split at h
    · rename_i z ps hz hps
      cases hc : (Nat.ble (len * n) 16777216 && Nat.beq z.length n) <;> rw [hc] at h <;> simp only [cond_true, cond_false] at h
      · exact (den_fail h).elim
      · simp only [Bool.and_eq_true] at hc
        split at h
        · rename_i cs hf
          obtain ⟨_, d1, _, _, _, hu1, _, hm1, _⟩ := tdOf_info hty htd (by simp)
          obtain ⟨rfl, i, hi, rfl⟩ := mkTD_slice hm1
          obtain ⟨i', z', hi', hz1, hz2, _⟩ := zeroL_info hty hz
          cases hi.symm.trans hi'
          obtain ⟨ρ', hle, hb, hcp, hm', hd⟩ := newB_ok hm h rfl 0 (ob := .cells (SV.dens ρ cs).toArray e) fun hw ρ' hl hb _ => ok_cells hm hw hl hb
          refine wp_value (x := SV.den ρ' (.slice st.nb 0 len len)) (w' := w.alloc (.cells (SV.dens ρ cs).toArray e)) ?_ (hk _ _ _ _ hle hm' hd)
          have hsmall : ¬ len * i.size > 2 ^ 24 := by have := ble_nat hc.1; omega
          have hfill := fill_ok (place' := fun j => some (j * i.size, i.size)) (fun _ _ h => h) ρ ps hf
          have hp := evps_array (hm.cx ht) hps
          unfold execOp
          simp only [ho, Instr.buildSlice, Sem.run_bind, run_underlying hu1, Result.andThen_ok, run_size hi, if_neg hsmall, Sem.run_ite]
          by_cases h0 : len * i.size = 0
          · rw [if_pos h0]
            have hr : (Array.range (len * i.size)).map (fun (x : Nat) => (#[] : Array Value)[x % (#[] : Array Value).size]!) = (SV.dens ρ (repeatL len z)).toArray := by
              rw [h0, List.eq_nil_of_length_eq_zero ((repeatL_length z i.size (beq_nat hc.2) len).trans h0)]
              simp [SV.dens]
            simp only [Sem.run_pure, Result.andThen_ok, hr, hp, hfill, newRow, Sem.run_bind, run_newObj, SV.den, hb]
            rfl
          · rw [if_neg h0]
            simp only [Sem.run_bind, run_zero hi hz1, Result.andThen_ok, Sem.run_pure, hz2 ρ, repeat_cells ρ z i.size (beq_nat hc.2) len, hp, hfill, newRow, run_newObj, SV.den, hb]
            rfl
        · exact (den_fail h).elim
    · exact (den_fail h).elim
  · exact (den_fail h).elim

theorem eLoad_ok (hty : TyOk C.P C.ty) (hg : GOk C w0) (hm : Md C w0 ρ st w) (ht : TmOk ρ st.ni st.nb tm a) {t : TypeId} {x : Operand} (ho : o.op = .load t x) (h : (eLoad C tm st k t x).den F K ρ.is = some r) (hk : HK F K r C w0 ρ a o.dst next k) : o.wp C.P a w next Q := by
  unfold eLoad at h
  split at h
  · rename_i v hv
    obtain ⟨ev, wv⟩ := (hm.cx ht).ev hv
    split at h
    · rename_i u hu
      obtain ⟨ad, h1, h2⟩ := loadV_ok hty hg hm hu
      refine wp_value (x := SV.den ρ u) (w' := w) ?_ (hk _ _ _ _ (Env.le_refl ρ) hm h)
      unfold execOp
      simp only [ho, ev, h1, Instr.loadAt, Instr.sureAddr, Sem.run_bind, Sem.run_pure, Result.andThen_ok, h2]
    · exact (den_fail h).elim
  · exact (den_fail h).elim

theorem eStore_ok (hty : TyOk C.P C.ty) (hm : Md C w0 ρ st w) (ht : TmOk ρ st.ni st.nb tm a) {t : TypeId} {x y : Operand} (ho : o.op = .store t x y) (h : (eStore C tm st k t x y).den F K ρ.is = some r) (hk : HK F K r C w0 ρ a o.dst next k) : o.wp C.P a w next Q := by
  unfold eStore at h
  split at h
  · rename_i v u hv hu
    obtain ⟨ev, wv⟩ := (hm.cx ht).ev hv
    obtain ⟨eu, wu⟩ := (hm.cx ht).ev hu
    split at h
    · rename_i mem hmem
      obtain ⟨ad, w', h1, h2, h3⟩ := storeV_ok hty hm hmem wu
      refine wp_skip (w' := w') ?_ (hk _ _ _ _ (Env.le_refl ρ) h3 h)
      unfold execOp
      simp only [ho, ev, eu, h1, Instr.storeAt, Instr.sureAddr, Sem.run_bind, Sem.run_pure, Result.andThen_ok, h2]
    · exact (den_fail h).elim
  · exact (den_fail h).elim

theorem eMakeMap_ok (hm : Md C w0 ρ st w) {t : TypeId} (ho : o.op = .makeMap t none) (h : (eMakeMap C tm st k).den F K ρ.is = some r) (hk : HK F K r C w0 ρ a o.dst next k) : o.wp C.P a w next Q := by
  unfold eMakeMap at h
  obtain ⟨ρ', hle, hb, hcp, hm', hd⟩ := newB_ok hm h rfl 0 (ob := .map #[] 0) fun hw ρ' hl hb _ => by
    simp only [SO.ok, hb]
    exact heap_alloc_new w _
  refine wp_value (x := SV.den ρ' (.map st.nb)) (w' := w.alloc (.map #[] 0)) ?_ (hk _ _ _ _ hle hm' hd)
  unfold execOp
  simp only [ho, Instr.makeMap, Option.map_none, Sem.run_bind, Sem.run_pure, Result.andThen_ok, run_newObj, SV.den, hb]
  rfl

/-! ### Indexes -/
theorem enumI_ok {x : A} {kk : Nat → St → T} : ∀ (n j : Nat) {st : St} , Md C w0 ρ st w → (enumI x st kk n j).den F K ρ.is = some r → ∃ i p, j ≤ i ∧ i < j + n ∧ x.den ρ.is = (i : Int) ∧ Md C w0 ρ { st with pc := p } w ∧ (kk i { st with pc := p }).den F K ρ.is = some r
  | 0, j, st, hm, h => (den_fail h).elim
  | n + 1, j, st, hm, h => by
    simp only [enumI] at h
    obtain ⟨b, p, hb, hm', hd⟩ := condB_ok hm h
    cases b
    · simp only [cond_false] at hd
      obtain ⟨i, p', h1, h2, h3, h4, h5⟩ := enumI_ok n (j + 1) hm' hd
      exact ⟨i, p', by omega, by omega, h3, h4, h5⟩
    · simp only [cond_true] at hd
      refine ⟨j, p, Nat.le_refl _, by omega, ?_, hm', hd⟩
      rw [B.den_mkEq] at hb
      simpa [A.den] using hb

theorem eIndexAddr_ok (hty : TyOk C.P C.ty) (hm : Md C w0 ρ st w) (ht : TmOk ρ st.ni st.nb tm a) {t : TypeId} {x i : Operand} (ho : o.op = .indexAddr t x i) (h : (eIndexAddr C tm st k t x i).den F K ρ.is = some r) (hk : HK F K r C w0 ρ a o.dst next k) : o.wp C.P a w next Q := by
  unfold eIndexAddr at h
  split at h
  · rename_i htd hx hi
    obtain ⟨ex, _⟩ := (hm.cx ht).ev hx
    obtain ⟨ei, _⟩ := (hm.cx ht).ev hi
    obtain ⟨j, p, h1, h2, h3, h4, h5⟩ := enumI_ok _ 0 hm h
    rw [Nat.zero_add] at h2
    refine wp_value (x := SV.den ρ (.ptr _ _)) (w' := w) ?_ (hk _ _ _ _ (Env.le_refl ρ) h4 h5)
    unfold execOp
    simp only [ho, ex, ei, SV.den, h3, Sem.run_bind, indexAt_slice hty htd h2, Result.andThen_ok, Sem.run_pure]
  · rename_i htd hx hi
    obtain ⟨ex, _⟩ := (hm.cx ht).ev hx
    obtain ⟨ei, _⟩ := (hm.cx ht).ev hi
    obtain ⟨j, p, h1, h2, h3, h4, h5⟩ := enumI_ok _ 0 hm h
    rw [Nat.zero_add] at h2
    refine wp_value (x := SV.den ρ (.ptr _ _)) (w' := w) ?_ (hk _ _ _ _ (Env.le_refl ρ) h4 h5)
    unfold execOp
    simp only [ho, ex, ei, SV.den, h3, Sem.run_bind, indexAt_slice hty htd h2, Result.andThen_ok, Sem.run_pure, Nat.zero_add]
  · rename_i htd hx hi
    obtain ⟨ex, _⟩ := (hm.cx ht).ev hx
    obtain ⟨ei, _⟩ := (hm.cx ht).ev hi
    obtain ⟨j, p, h1, h2, h3, h4, h5⟩ := enumI_ok _ 0 hm h
    rw [Nat.zero_add] at h2
    refine wp_value (x := SV.den ρ (.ptr _ _)) (w' := w) ?_ (hk _ _ _ _ (Env.le_refl ρ) h4 h5)
    unfold execOp
    simp only [ho, ex, ei, SV.den, h3, Sem.run_bind, indexAt_array hty htd h2, Result.andThen_ok, Sem.run_pure]
  · rename_i htd hx hi
    obtain ⟨ex, _⟩ := (hm.cx ht).ev hx
    obtain ⟨ei, _⟩ := (hm.cx ht).ev hi
    obtain ⟨j, p, h1, h2, h3, h4, h5⟩ := enumI_ok _ 0 hm h
    rw [Nat.zero_add] at h2
    refine wp_value (x := SV.den ρ (.gptr _ _)) (w' := w) ?_ (hk _ _ _ _ (Env.le_refl ρ) h4 h5)
    unfold execOp
    simp only [ho, ex, ei, SV.den, h3, Sem.run_bind, indexAt_array hty htd h2, Result.andThen_ok, Sem.run_pure]
  · exact (den_fail h).elim

theorem eIndex_ok (hty : TyOk C.P C.ty) (hm : Md C w0 ρ st w) (ht : TmOk ρ st.ni st.nb tm a) {t : TypeId} {x i : Operand} (ho : o.op = .index t x i) (h : (eIndex C tm st k t x i).den F K ρ.is = some r) (hk : HK F K r C w0 ρ a o.dst next k) : o.wp C.P a w next Q := by
  unfold eIndex at h
  split at h
  · rename_i htd hx hi
    obtain ⟨ex, _⟩ := (hm.cx ht).ev hx
    obtain ⟨ei, _⟩ := (hm.cx ht).ev hi
    obtain ⟨j, p, h1, h2, h3, h4, h5⟩ := enumI_ok _ 0 hm h
    rw [Nat.zero_add] at h2
    split at h5
    · rename_i v hv
      refine wp_value (x := SV.den ρ v) (w' := w) ?_ (hk _ _ _ _ (Env.le_refl ρ) h4 h5)
      unfold execOp
      simp only [ho, ex, ei, SV.den, h3, Sem.run_bind, index_array hty htd h2 hv ρ, Result.andThen_ok, Sem.run_pure]
    · exact (den_fail h5).elim
  · exact (den_fail h).elim

/-! ### Divisions, shifts, choices -/
theorem bind1_ok (hm : Md C w0 ρ st w) {e : E} {kk : A → St → T} (h : (bind1 st e kk).den F K ρ.is = some r) : ∃ ρ' x st', ρ.le ρ' ∧ x.den ρ'.is = e.den ρ.is ∧ Md C w0 ρ' st' w ∧ (kk x st').den F K ρ'.is = some r := by
  unfold bind1 at h
  obtain ⟨h1, h2, h3, _, _⟩ := bind_spec (is := ρ.is) hm.hni (d := ⟨st.ni, []⟩) (by simp) e
  have := (bindEs_ok h).1
  refine ⟨⟨extE ρ.is _, ρ.bs⟩, _, _, extEnv_le ρ _, h3, extE_nums hm (by rw [hm.hni]; exact h1), this⟩

theorem eBinOp_ok (hm : Md C w0 ρ st w) (ht : TmOk ρ st.ni st.nb tm a) {op : BinOp} {t yt : TypeId} {x y : Operand} (ho : o.op = .binOp op t x y yt) (h : (eBinOp C tm st k op x y).den F K ρ.is = some r) (hk : HK F K r C w0 ρ a o.dst next k) : o.wp C.P a w next Q := by
  unfold eBinOp at h
  split at h
  · rename_i kx p ky q hx hy
    obtain ⟨ex, _⟩ := (hm.cx ht).ev hx
    obtain ⟨ey, _⟩ := (hm.cx ht).ev hy
    have div : ∀ {e : E} {op' : BinOp}, op = op' → kindEq kx ky = true → (¬ q.den ρ.is = 0 → (Op.intDiv op' kx (p.den ρ.is) (q.den ρ.is)).run C.P w = .ok (.int kx (e.den ρ.is)) w) → (op' = .quo ∨ op' = .rem) → ∀ {N : Nat},
        (condB (.mkEq q (.n 0)) st fun z st => bif z then .fail N else bind1 st e fun r st => k (.int kx r) st).den F K ρ.is = some r → o.wp C.P a w next Q := by
      intro e op' hop hkk hrun hor N hd
      subst hop
      obtain ⟨b, pc', hb, hm', hd'⟩ := condB_ok hm hd
      cases b
      · simp only [cond_false] at hd'
        obtain ⟨ρ', xx, st', hle, hden, hm'', hd''⟩ := bind1_ok hm' hd'
        rw [B.den_mkEq] at hb
        have hq : ¬ q.den ρ.is = 0 := by simpa [A.den] using hb
        refine wp_value (x := SV.den ρ' (.int kx xx)) (w' := w) ?_ (hk _ _ _ _ hle hm'' hd'')
        cases kindEq_eq hkk
        unfold execOp
        have hg : (eqGuard op t x y (.int kx (p.den ρ.is)) (.int kx (q.den ρ.is))).run C.P w = .ok () w := by rcases hor with rfl | rfl <;> simp [eqGuard]
        simp only [ho, ex, ey, SV.den, Sem.run_bind, hg, Result.andThen_ok, hden]
        rw [run_binOp_int (by rcases hor with rfl | rfl <;> simp) (by rcases hor with rfl | rfl <;> simp)]
        rcases hor with rfl | rfl <;> simp only [hrun hq, Result.andThen_ok, Sem.run_pure]
      · simp only [cond_true] at hd'
        exact (den_fail hd').elim
    have sh : ∀ {e : E}, (op = .shl ∨ op = .shr) → (¬ q.den ρ.is < 0 → (Op.shift op kx (p.den ρ.is) ky (q.den ρ.is)).run C.P w = .ok (.int kx (e.den ρ.is)) w) → ∀ {N : Nat},
        (condB (.mkLt q (.n 0)) st fun z st => bif z then .fail N else bind1 st e fun r st => k (.int kx r) st).den F K ρ.is = some r → o.wp C.P a w next Q := by
      intro e hor hrun N hd
      obtain ⟨b, pc', hb, hm', hd'⟩ := condB_ok hm hd
      cases b
      · simp only [cond_false] at hd'
        obtain ⟨ρ', xx, st', hle, hden, hm'', hd''⟩ := bind1_ok hm' hd'
        rw [B.den_mkLt] at hb
        have hq : ¬ q.den ρ.is < 0 := by simpa [A.den] using hb
        refine wp_value (x := SV.den ρ' (.int kx xx)) (w' := w) ?_ (hk _ _ _ _ hle hm'' hd'')
        unfold execOp
        have hg : (eqGuard op t x y (.int kx (p.den ρ.is)) (.int ky (q.den ρ.is))).run C.P w = .ok () w := by rcases hor with rfl | rfl <;> simp [eqGuard]
        simp only [ho, ex, ey, SV.den, Sem.run_bind, hg, Result.andThen_ok, hden]
        rw [run_shift hor]
        simp only [hrun hq, Result.andThen_ok, Sem.run_pure]
      · simp only [cond_true] at hd'
        exact (den_fail hd').elim
    split at h
    · cases hkk : kindEq kx ky <;> rw [hkk] at h <;> simp only [cond_true, cond_false] at h
      · exact (den_fail h).elim
      · exact div rfl hkk (fun hq => by simp [Op.intDiv, hq, E.den]) (.inl rfl) (e := .quo kx p q) h
    · cases hkk : kindEq kx ky <;> rw [hkk] at h <;> simp only [cond_true, cond_false] at h
      · exact (den_fail h).elim
      · exact div rfl hkk (fun hq => by simp [Op.intDiv, hq, E.den]) (.inr rfl) (e := .rem p q) h
    · exact sh (.inl rfl) (fun hq => by simp [Op.shift, hq, E.den]) (e := .shl kx p q) h
    · exact sh (.inr rfl) (fun hq => by simp [Op.shift, hq, E.den]) (e := .shr kx p q) h
    · exact (den_fail h).elim
  · exact (den_fail h).elim

theorem ePick_ok (hm : Md C w0 ρ st w) (ht : TmOk ρ st.ni st.nb tm a) {c x y : Operand} (ho : o.op = .pick c x y) (h : (ePick C tm st k c x y).den F K ρ.is = some r) (hk : HK F K r C w0 ρ a o.dst next k) : o.wp C.P a w next Q := by
  unfold ePick at h
  split at h
  · rename_i cb hc
    obtain ⟨ec, _⟩ := (hm.cx ht).ev hc
    obtain ⟨b, p, hb, hm', hd⟩ := condB_ok hm h
    cases b
    · simp only [cond_false] at hd
      split at hd
      · rename_i v hv
        obtain ⟨ev, _⟩ := (hm'.cx ht).ev hv
        refine wp_value (x := SV.den ρ (v.under p)) (w' := w) ?_ (hk _ _ _ _ (Env.le_refl ρ) hm' hd)
        unfold execOp
        simp [ho, ec, ev, SV.den, asBool, hb, SV.den_under hm'.hpc]
      · exact (den_fail hd).elim
    · simp only [cond_true] at hd
      split at hd
      · rename_i v hv
        obtain ⟨ev, _⟩ := (hm'.cx ht).ev hv
        refine wp_value (x := SV.den ρ (v.under p)) (w' := w) ?_ (hk _ _ _ _ (Env.le_refl ρ) hm' hd)
        unfold execOp
        simp [ho, ec, ev, SV.den, asBool, hb, SV.den_under hm'.hpc]
      · exact (den_fail hd).elim
  · exact (den_fail h).elim

end Go.SX
