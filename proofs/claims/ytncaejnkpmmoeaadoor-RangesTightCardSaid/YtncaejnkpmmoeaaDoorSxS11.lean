/- The symbolic executor SX, its soundness, part 11: calls, append; all operations. -/
import Derived.Test.YtncaejnkpmmoeaaDoorSxU3
set_option linter.unusedVariables false
set_option linter.unusedSimpArgs false
namespace Go.SX
open Go Go.RowKit

variable {F : Nat → List Int → Option (List Int)} {K : Nat} {r : Nat × List Int}
variable {C : Cfg} {w0 w w' : World} {ρ ρ' : Env} {st : St} {tm : Tm} {a : Act} {o : Oper} {k : SV → St → T} {next : Act → World → Prop} {Q : Exit → Act → World → Prop}

/-- A call, by whichever way the machine makes it. -/
def CallSem (P : Program) (f : FuncId) (args : Array Value) (w : World) (next : Value → World → Prop) : Prop :=
  ((callFunc f args).run P w = .ok (.enter f args) w ∧ Calls P f args w fun e w' => match e with
    | .returned v => next v w'
    | _ => False) ∨ (∃ v, (callFunc f args).run P w = .ok (.value v) w ∧ next v w)
def CallOk (F : Nat → List Int → Option (List Int)) (K : Nat) (r : Nat × List Int) (C : Cfg) (w0 : World) (callF : Nat → List SV → St → (SV → St → T) → T) : Prop :=
  ∀ (f : Nat) (args : List SV) (st : St) (k : SV → St → T) (ρ : Env) (w : World) (next : Value → World → Prop), (callF f args st k).den F K ρ.is = some r → Md C w0 ρ st w → SV.wfs st.ni st.nb args = true →
    (∀ ρ' st' w' v, ρ.le ρ' → Md C w0 ρ' st' w' → (k v st').den F K ρ'.is = some r → next (v.den ρ') w') → CallSem C.P f (SV.dens ρ args).toArray w next

theorem wfs_append {ni nb : Nat} {l m : List SV} (h : SV.wfs ni nb l = true) (h' : SV.wfs ni nb m = true) : SV.wfs ni nb (l ++ m) = true :=
  wfs_of_mem fun v hv => (List.mem_append.1 hv).elim (wfs_mem h v) (wfs_mem h' v)

/-- A block that lies there already becomes the call's own. -/
theorem Md.push (h : Md C w0 ρ st w) {so : SO} (hw : so.wf st.ni st.nb = true) {g : Nat} (cap : Nat) (hg : w0.heap.size ≤ g) (hfr : ∀ i oi, st.mem.get i = some oi → oi.live = true → ρ.b i ≠ g)
    (hob : ∀ ρ' : Env, ρ.le ρ' → ρ'.b st.nb = g → ρ'.cap st.nb = cap → SO.ok ρ' w st.nb so) :
    Md C w0 ⟨ρ.is, ρ.bs ++ [(g, cap)]⟩ { st with mem := st.mem.put st.nb so, nb := st.nb + 1 } w := by
  have hle : ρ.le ⟨ρ.is, ρ.bs ++ [(g, cap)]⟩ := ⟨⟨[], by simp⟩, ⟨_, rfl⟩⟩
  have hb : (⟨ρ.is, ρ.bs ++ [(g, cap)]⟩ : Env).b st.nb = g := by simp [Env.b, ← h.hnb, List.getD]
  have hc : (⟨ρ.is, ρ.bs ++ [(g, cap)]⟩ : Env).cap st.nb = cap := by simp [Env.cap, ← h.hnb, List.getD]
  have old : ∀ i oi, st.mem.get i = some oi → (⟨ρ.is, ρ.bs ++ [(g, cap)]⟩ : Env).b i = ρ.b i := fun i oi hi => Env.b_app hle (by rw [h.hnb]; exact (h.mem i oi hi).1)
  refine ⟨h.below, h.hni, by simp [h.hnb], h.hpc, h.hpw, fun i oi hi => ?_, fun i j oi oj hi hj hli hlj he => ?_⟩
  · rcases Tb.get_put hi with ⟨rfl, rfl⟩ | ⟨hne, hi'⟩
    · refine ⟨by simp, SO.wf_mono (Nat.le_refl _) (by simp) hw, fun _ => ⟨?_, hob _ hle hb hc⟩⟩
      rw [hb]; exact hg
    · obtain ⟨h1, h2, h3⟩ := h.mem i oi hi'
      refine ⟨by simp; omega, SO.wf_mono (Nat.le_refl _) (by simp) h2, fun hli => ?_⟩
      obtain ⟨g1, g2⟩ := h3 hli
      refine ⟨by rw [old i oi hi']; exact g1, ?_⟩
      exact SO.ok_app hle (by rw [h.hnb]; exact h1) (by rw [h.hni, h.hnb]; exact h2) g2
  · rcases Tb.get_put hi with ⟨rfl, rfl⟩ | ⟨hne, hi'⟩ <;> rcases Tb.get_put hj with ⟨hj1, hj2⟩ | ⟨hnej, hj'⟩
    · exact hj1.symm
    · exfalso
      rw [hb, old j oj hj'] at he
      exact hfr j oj hj' hlj he.symm
    · exfalso
      rw [hj1, hb, old i oi hi'] at he
      exact hfr i oi hi' hli he
    · rw [old i oi hi', old j oj hj'] at he
      exact h.inj i j oi oj hi' hj' hli hlj he
/-- A block that is not looked at any more. -/
theorem Md.dead (h : Md C w0 ρ st w) {b : Nat} {so : SO} (hb : st.mem.get b = some so) (hl : so.live = true) (hg : w.grownBy w' (some (ρ.b b))) : Md C w0 ρ { st with mem := st.mem.put b .gone } w' := by
  obtain ⟨h1, h2, h3⟩ := h.mem b so hb
  obtain ⟨g1, g2⟩ := h3 hl
  refine ⟨h.below.grown hg h.below.size (fun k hk => by cases hk; exact g1), h.hni, h.hnb, h.hpc, h.hpw, fun j oj hj => ?_, fun j k oj ok hj hk hlj hlk he => ?_⟩
  · rcases Tb.get_put hj with ⟨rfl, rfl⟩ | ⟨hne, hj'⟩
    · exact ⟨h1, rfl, fun hl => by cases hl⟩
    · obtain ⟨q1, q2, q3⟩ := h.mem j oj hj'
      refine ⟨q1, q2, fun hlj => ⟨(q3 hlj).1, SO.ok_heap (hg.block _ (SO.ok_lt hlj (q3 hlj).2) ?_) (q3 hlj).2⟩⟩
      intro e
      injection e with e
      exact hne (h.inj j b oj so hj' hb hlj hl e)
  · rcases Tb.get_put hj with ⟨rfl, rfl⟩ | ⟨_, hj'⟩
    · cases hlj
    · rcases Tb.get_put hk with ⟨rfl, rfl⟩ | ⟨_, hk'⟩
      · cases hlk
      · exact h.inj j k oj ok hj' hk' hlj hlk he

theorem srcL_ok (hm : Md C w0 ρ st w) {sz : Nat} {x : SV} {n : Nat} {l : List SV} (h : srcL st sz x = some (n, l)) : l.length = n * sz ∧ SV.wfs st.ni st.nb l = true ∧ allCell l = true ∧
    ((∃ ad c, x.den ρ = .slice (some ad) n c ∧ ∀ j u, (SV.dens ρ l)[j]? = some u → w.cell? (ad.add j) = some u) ∨ (x.den ρ = .slice none 0 0 ∧ n = 0)) := by
  have cells : ∀ (b off : Nat), (∀ (j : Nat) v, l[j]? = some v → w.cell? ⟨ρ.b b, off + j, none⟩ = some (v.den ρ)) → ∀ j u, (SV.dens ρ l)[j]? = some u → w.cell? ((⟨ρ.b b, off, none⟩ : Addr).add j) = some u := by
    intro b off hc j u hu
    rw [dens_getElem?] at hu
    cases hlj : l[j]? with
    | none => rw [hlj] at hu; cases hu
    | some y =>
      rw [hlj] at hu; cases hu
      rw [add_plain]; exact hc j y hlj
  unfold srcL at h
  split at h
  · split at h <;> cases h
    rename_i hr
    obtain ⟨q1, q2, q3, q4⟩ := rdMem_ok hm hr
    exact ⟨q1, q2, q3, .inl ⟨_, _, rfl, cells _ _ q4⟩⟩
  · split at h <;> cases h
    rename_i hr
    obtain ⟨q1, q2, q3, q4⟩ := rdMem_ok hm hr
    exact ⟨q1, q2, q3, .inl ⟨_, _, rfl, cells _ _ q4⟩⟩
  · cases h
    exact ⟨by simp, rfl, rfl, .inr ⟨rfl, rfl⟩⟩
  · cases h

theorem eAppend_ok (hty : TyOk C.P C.ty) (hm : Md C w0 ρ st w) {t : TypeId} {s x : SV} (hx : x.wf st.ni st.nb = true)
    (hop : ∀ v w', (Builtin.append_ #[t, t] o.type #[s.den ρ, x.den ρ]).run C.P w = .ok v w' → (execOp a.eval o).run C.P w = .ok (.value v) w')
    (h : (eAppend C st k t s x).den F K ρ.is = some r) (hk : HK F K r C w0 ρ a o.dst next k) : o.wp C.P a w next Q := by
  unfold eAppend at h
  split at h
  · rename_i e esz htd
    split at h
    · rename_i te hte
      obtain ⟨dde, i, hue, hi, hmte, hsz, hby, hzz⟩ := hty.info hte
      obtain ⟨_, d1, _, _, _, hu1, _, hm1, _⟩ := tdOf_info hty htd (by simp)
      obtain ⟨rfl, _⟩ := mkTD_slice hm1
      split at h
      · exact (den_fail h).elim
      · rename_i n l hsrc
        obtain ⟨l1, l2, l3, l4⟩ := srcL_ok hm hsrc
        cases hn : Nat.beq n 0 <;> rw [hn] at h <;> simp only [cond_true, cond_false] at h
        · have hn0 : 0 < n := by
            rcases Nat.eq_zero_or_pos n with h0 | h0
            · subst h0; cases hn
            · exact h0
          cases hc : (Nat.blt 0 te.size && zlen te) <;> rw [hc] at h <;> simp only [cond_true, cond_false] at h
          · exact (den_fail h).elim
          · simp only [Bool.and_eq_true] at hc
            obtain ⟨z, hz, hzl⟩ : ∃ z, te.zero = some z ∧ z.length = te.size := by
              have := hc.2
              unfold zlen at this
              split at this
              · exact ⟨_, ‹_›, beq_nat this⟩
              · cases this
            obtain ⟨zv, hzv, hzc, hzo⟩ := hzz z hz
            have hpos := blt_nat hc.1
            have hzs : zv.cells.size = i.size := by
              have := congrArg Array.size (ofVals_den hzc ρ)
              simp [dens_length] at this
              omega
            obtain ⟨ad, c, hxd, hnews⟩ : ∃ ad c, x.den ρ = .slice (some ad) n c ∧ ∀ j u, (SV.dens ρ l)[j]? = some u → w.cell? (ad.add j) = some u := by
              rcases l4 with h | ⟨_, h0⟩
              · exact h
              · omega
            have h1 : ∀ u ∈ SV.dens ρ l, u.oneCell' = true := by
              intro u hu
              obtain ⟨j, hj⟩ := List.getElem?_of_mem hu
              rw [dens_getElem?] at hj
              cases hlj : l[j]? with
              | none => rw [hlj] at hj; cases hj
              | some y => rw [hlj] at hj; cases hj; exact SV.oneCell_of_cell (allCell_mem l3 y (List.mem_of_getElem? hlj)) ρ
            split at h
            · cases hb : (Nat.ble (n * te.bytes) 140737488355328 && Nat.ble n 9223372036854775807) <;> rw [hb] at h <;> simp only [cond_true, cond_false] at h
              · exact (den_fail h).elim
              · simp only [Bool.and_eq_true] at hb
                unfold newB at h
                cases hw : (SO.row l e te.size n).wf st.ni st.nb <;> rw [hw] at h <;> simp only [cond_true, cond_false] at h
                · exact (den_fail h).elim
                · obtain ⟨g, cap, w', hr, q1, q2, q3, q4⟩ := run_append_lies (P := C.P) w t o.type 0 e i zv i.size i.bytes hu1 hi hzv rfl rfl hzs (by omega) (.slice none 0 0) 0 [] (World.ownsRow_nil w 0 e i.size) ad n c (SV.dens ρ l) (by rw [dens_length, l1, hsz]) hnews h1 hn0 (by have := ble_nat hb.2; simp only [maxLen]; omega) (by have := ble_nat hb.1; rw [hby, Nat.zero_add]; exact this) (Nat.zero_le _) _ rfl
                  rw [← hxd] at hr
                  have hgs : g = w.heap.size := by
                    rcases q3 with q3 | q3
                    · simp [Value.ownBlock] at q3
                    · exact q3
                  have hbel : Below w.heap.size w w' := ⟨q2.os, q2.tape, q2.output, q2.size, fun k hk => q2.block k hk (by simp [Value.ownBlock])⟩
                  have hm' := (hm.later hbel).push (so := .row l e te.size n) hw (g := g) cap (by have := hm.below.size; omega) (fun j oj hj hlj e => by
                    have := SO.ok_lt hlj ((hm.mem j oj hj).2.2 hlj).2
                    omega) (fun ρ' hle hb' hc' => by
                    simp only [SO.ok]
                    rw [hb', hc', SV.dens_app hle (by rw [hm.hni, hm.hnb]; exact l2), ← hsz]
                    simpa using q1)
                  refine wp_value (w' := w') (hop _ _ hr) ?_
                  have := hk _ _ _ (.own st.nb n) ⟨⟨[], by simp⟩, ⟨_, rfl⟩⟩ hm' h
                  have e1 : SV.den ⟨ρ.is, ρ.bs ++ [(g, cap)]⟩ (.own st.nb n) = .slice (some ⟨g, 0, none⟩) (0 + n) cap := by
                    simp [SV.den, Env.b, Env.cap, ← hm.hnb, List.getD]
                  rwa [e1] at this
            · rename_i b m
              split at h
              · rename_i cc e' s' m' hmb
                cases hb : (Nat.beq m m' && Nat.beq e e' && Nat.beq te.size s' && Nat.ble ((m + n) * te.bytes) 140737488355328 && Nat.ble (m + n) 9223372036854775807) <;> rw [hb] at h <;> simp only [cond_true, cond_false] at h
                · exact (den_fail h).elim
                · simp only [Bool.and_eq_true] at hb
                  obtain ⟨⟨⟨⟨b1, b2⟩, b3⟩, b4⟩, b5⟩ := hb
                  cases beq_nat b1
                  cases beq_nat b2
                  cases beq_nat b3
                  obtain ⟨hlt, hwb, hokb⟩ := hm.mem b _ hmb
                  obtain ⟨hb0, hown⟩ := hokb rfl
                  simp only [SO.ok] at hown
                  unfold setM newB at h
                  simp only at h
                  cases hw : (SO.row (cc ++ l) e te.size (m + n)).wf st.ni st.nb <;> rw [hw] at h <;> simp only [cond_true, cond_false] at h
                  · exact (den_fail h).elim
                  · obtain ⟨g, cap, w', hr, q1, q2, q3, q4⟩ := run_append_lies (P := C.P) w t o.type 0 e i zv i.size i.bytes hu1 hi hzv rfl rfl hzs (by omega) _ m _ (by rw [hsz]; exact hown) ad n c (SV.dens ρ l) (by rw [dens_length, l1, hsz]) hnews h1 hn0 (by have := ble_nat b5; simp only [maxLen]; omega) (by have := ble_nat b4; rw [hby]; omega) (Nat.zero_le _) _ rfl
                    rw [← hxd] at hr
                    have hm1 := hm.dead hmb rfl (w' := w') q2
                    have hm' := hm1.push (so := .row (cc ++ l) e te.size (m + n)) hw (g := g) cap (by
                      rcases q3 with q3 | q3
                      · simp [Value.ownBlock] at q3; omega
                      · have := hm.below.size; omega) (fun j oj hj hlj ee => by
                      rcases Tb.get_put hj with ⟨rfl, rfl⟩ | ⟨hne, hj'⟩
                      · cases hlj
                      · have hlt' := SO.ok_lt hlj ((hm.mem j oj hj').2.2 hlj).2
                        rcases q3 with q3 | q3
                        · simp [Value.ownBlock] at q3
                          exact hne (hm.inj j b oj _ hj' hmb hlj rfl (by rw [ee, q3]))
                        · omega) (fun ρ' hle hb' hc' => by
                      simp only [SO.ok]
                      have wcc : SV.wfs st.ni st.nb cc = true := by simp only [SO.wf, Bool.and_eq_true] at hwb; exact hwb.1
                      rw [hb', hc', SV.dens_app hle (by rw [hm.hni, hm.hnb]; exact wfs_append wcc l2), ← hsz, dens_append]
                      exact q1)
                    refine wp_value (w' := w') (hop _ _ hr) ?_
                    have := hk _ _ _ (.own st.nb (m + n)) ⟨⟨[], by simp⟩, ⟨_, rfl⟩⟩ hm' h
                    have e1 : SV.den ⟨ρ.is, ρ.bs ++ [(g, cap)]⟩ (.own st.nb (m + n)) = .slice (some ⟨g, 0, none⟩) (m + n) cap := by
                      simp [SV.den, Env.b, Env.cap, ← hm.hnb, List.getD]
                    rwa [e1] at this
              · exact (den_fail h).elim
            · exact (den_fail h).elim
        · cases beq_nat hn
          split at h
          · refine wp_value (w' := w) (hop (.slice none 0 0) w ?_) (hk _ _ _ .nilsl (Env.le_refl ρ) hm h)
            rcases l4 with ⟨ad, c, hxd, _⟩ | ⟨hxd, _⟩
            · rw [hxd]
              simp [Builtin.append_, run_underlying hu1, run_size hi, SV.den, Builtin.lenOf, Builtin.firstCells, loadCells, loadCellsFrom]
            · rw [hxd]
              simp [Builtin.append_, run_underlying hu1, run_size hi, SV.den, Builtin.lenOf, Builtin.firstCells, loadCells, loadCellsFrom]
          · exact (den_fail h).elim
    · exact (den_fail h).elim
  · exact (den_fail h).elim

theorem eCall_ok (hty : TyOk C.P C.ty) (hm : Md C w0 ρ st w) (ht : TmOk ρ st.ni st.nb tm a) {callF : Nat → List SV → St → (SV → St → T) → T} (hcall : CallOk F K r C w0 callF) {c : Call} (ho : o.op = .call c) (h : (eCall C tm st k callF c).den F K ρ.is = some r) (hk : HK F K r C w0 ρ a o.dst next k) : o.wp C.P a w next Q := by
  obtain ⟨ce, args, ats⟩ := c
  unfold eCall at h
  simp only at h
  split at h
  · rename_i f
    split at h
    · rename_i f' fi ca vs hf hvs
      obtain ⟨ef, wf⟩ := (hm.cx ht).ev hf
      have ev := evs_array (hm.cx ht) hvs
      have wv := ((hm.cx ht).evs hvs).2
      simp only [SV.wf, Bool.and_eq_true] at wf
      have := hcall f' (fi ++ vs ++ ca) st k ρ w (fun v w' => next (a.put o.dst v) w') h hm (wfs_append (wfs_append wf.1 wv) wf.2) hk
      have hargs : ((SV.dens ρ fi).toArray ++ (SV.dens ρ vs).toArray) ++ (SV.dens ρ ca).toArray = (SV.dens ρ (fi ++ vs ++ ca)).toArray := by
        rw [dens_append, dens_append]; simp
      have hop : (execOp a.eval o).run C.P w = (callFunc f' (SV.dens ρ (fi ++ vs ++ ca)).toArray).run C.P w := by
        unfold execOp
        simp only [ho, resolve, ef, ev, SV.den, Deferred.ofValue, Sem.run_bind, Sem.run_pure, Result.andThen_ok, invoke, hargs]
      rcases this with ⟨h1, h2⟩ | ⟨v, h1, h2⟩
      · unfold Oper.wp
        rw [hop, h1]
        refine Calls.mono h2 fun e w' he => ?_
        cases e with
        | returned v => exact he
        | panicked _ => exact he.elim
        | outgrown => exact he.elim
      · exact wp_value (hop.trans h1) h2
    · exact (den_fail h).elim
  · split at h
    · rename_i t t' s x hts hvs
      cases hb : Nat.beq t t' <;> rw [hb] at h <;> simp only [cond_true, cond_false] at h
      · exact (den_fail h).elim
      · cases beq_nat hb
        have ev := evs_array (hm.cx ht) hvs
        have wv := ((hm.cx ht).evs hvs).2
        simp only [SV.wfs, Bool.and_eq_true] at wv
        have hts' : ats = #[t, t] := by apply Array.ext'; simpa using hts
        refine eAppend_ok hty hm wv.2.1 (fun v w' hr => ?_) h hk
        unfold execOp
        simp only [ho, resolve, ev, hts', invoke, builtin, Sem.run_bind, Sem.run_pure, Result.andThen_ok, SV.dens, hr]
    · exact (den_fail h).elim
  · exact (den_fail h).elim

theorem sxEff_ok (hty : TyOk C.P C.ty) (hg : GOk C w0) (hm : Md C w0 ρ st w) (ht : TmOk ρ st.ni st.nb tm a) {callF : Nat → List SV → St → (SV → St → T) → T} (hcall : CallOk F K r C w0 callF) (h : (sxEff C callF o tm st k).den F K ρ.is = some r) (hk : HK F K r C w0 ρ a o.dst next k) : o.wp C.P a w next Q := by
  unfold sxEff at h
  split at h
  · exact eAlloc_ok hty hm ‹_› h hk
  · exact eBox_ok hm ht ‹_› h hk
  · exact eBuildSlice_ok hty hm ht ‹_› h hk
  · exact eLoad_ok hty hg hm ht ‹_› h hk
  · exact eStore_ok hty hm ht ‹_› h hk
  · exact eMakeMap_ok hm ‹_› h hk
  · exact eMapUpdate_ok hty hm ht (.inl ‹_›) h hk
  · exact eMapUpdate_ok hty hm ht (.inr ‹_›) h hk
  · exact eMapEntry_ok hty hm ht ‹_› h hk
  · exact eEntryStore_ok hm ht ‹_› h hk
  · exact eLookup_ok hty hm ht ‹_› h hk
  · exact eIndexAddr_ok hty hm ht ‹_› h hk
  · exact eIndex_ok hty hm ht ‹_› h hk
  · exact eBinOp_ok hm ht ‹_› h hk
  · exact ePick_ok hm ht ‹_› h hk
  · exact eCall_ok hty hm ht hcall ‹_› h hk
  · exact (den_fail h).elim

theorem sxOp_ok (hty : TyOk C.P C.ty) (hg : GOk C w0) (hm : Md C w0 ρ st w) (ht : TmOk ρ st.ni st.nb tm a) {callF : Nat → List SV → St → (SV → St → T) → T} (hcall : CallOk F K r C w0 callF) (h : (sxOp C callF o tm st k).den F K ρ.is = some r) (hk : HK F K r C w0 ρ a o.dst next k) : o.wp C.P a w next Q := by
  unfold sxOp at h
  split at h
  · rename_i v d hp
    obtain ⟨h1, h2⟩ := pureOp_ok hty (hm.cx ht) hp
    exact wp_value (h2 w) (hk _ _ _ v (extEnv_le ρ _) (extE_nums hm h1) (bindEs_ok h).1)
  · exact sxEff_ok hty hg hm ht hcall h hk

end Go.SX
