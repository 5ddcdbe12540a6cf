/- The symbolic executor SY, its soundness, part 13: rows put together; loads and stores. -/
import Derived.Test.YtolebnomgllgaaaGreatDoorSyS37
set_option linter.unusedVariables false
set_option linter.unusedSimpArgs false
namespace Go.SY
open Go Go.RowKit
noncomputable section
variable {F : Nat → List Dt → Post → Prop} {Q : Post}
variable {C : Cfg} {G : Nat → Prop} {fz0 : Fz} {w0 w w' : World} {ρ ρ' ρ1 ρ1' : Env} {st : St} {d : Bd} {tm : Tm} {a : Act} {o : Oper} {k : SV → St → T} {next : Act → World → Prop} {QE : Exit → Act → World → Prop}
theorem groups_ok {s : Nat} : ∀ {n : Nat} {l : List SV} {g : List (List SV)}, groups s n l = some g → g.flatten = l ∧ g.length = n ∧ ∀ c ∈ g, c.length = s
  | 0, [], g, h => by simp only [groups] at h; cases h; exact ⟨rfl, rfl, fun c hc => nomatch hc⟩
  | 0, _ :: _, g, h => by simp [groups] at h
  | n + 1, l, g, h => by
    simp only [groups] at h
    split at h
    · rename_i c hc
      split at h <;> cases h
      rename_i r hr
      obtain ⟨h1, rfl⟩ := takeN_eq _ _ _ hc
      obtain ⟨h2, h3, h4⟩ := groups_ok hr
      refine ⟨by rw [List.flatten_cons, h2, dropN_eq, List.take_append_drop], by simp [h3], fun c hc => ?_⟩
      rcases List.mem_cons.1 hc with rfl | hc
      · simp; omega
      · exact h4 c hc
    · cases h
theorem Md.fsR (hm : Md C.ty C.pl G fz0 w0 ρ st w) : FsR C.ty C.pl G fz0 w0 st w ρ ρ st.fs := ⟨hm, hm.ext0⟩
theorem bindF_ok {f : Fs} {kk : St → T} (h : (bindF st f kk).wp C.ty F ρ.is Q) (hf : FsR C.ty C.pl G fz0 w0 st w ρ' ρ1' f) (hl : ρ.fl ρ') : Md C.ty C.pl G fz0 w0 ρ1' (stD { st with mem := f.mem } f.d) w ∧ (kk (stD { st with mem := f.mem } f.d)).wp C.ty F ρ1'.is Q := by
  unfold bindF at h
  rw [← hl.is] at h
  exact bindD_ok hf.hm hf.he h
theorem toDs_ok (hty : TyOk C.P C.ty) {pc : List (B × Bool)} {t s : Nat} : ∀ {g : List (List SV)} {f f' : Fs} {l : List A} {ρ ρ1 : Env}, toDs C.ty pc t g f = some (l, f') → FsR C.ty C.pl G fz0 w0 st w ρ ρ1 f → PcOk ρ.is pc → (∀ p ∈ pc, p.1.wf st.ni = true) → (∀ c ∈ g, c.length = s) → SV.wfs st.ni st.nb g.flatten = true → allCell g.flatten = true → SV.tys ρ g.flatten →
    ToR C.ty C.pl G fz0 w0 st w ρ ρ1 f f' fun ρ' ρ1' => (∀ y ∈ l, y.wf f'.d.ni = true) ∧ l.length = g.length ∧ repC C.ty ρ'.fz (l.map (·.den ρ1'.is)) t s (SV.dens ρ g.flatten)
  | [], f, f', l, ρ, ρ1, h, hf, _, _, _, _, _, _ => by
    simp only [toDs] at h
    cases h
    exact ⟨_, _, hf, .refl _, Env.le_refl _, rfl, Nat.le_refl _, fun y hy => (nomatch hy), rfl, rfl⟩
  | c :: g, f, f', l, ρ, ρ1, h, hf, hpc, hpw, hs, hw, ha, ht => by
    simp only [toDs] at h
    split at h
    · rename_i x f1 hx
      split at h <;> cases h
      rename_i l f2 hl
      rw [List.flatten_cons] at hw ha ht
      have m1 : ∀ v ∈ c, v ∈ c ++ g.flatten := fun v hv => List.mem_append_left _ hv
      have m2 : ∀ v ∈ g.flatten, v ∈ c ++ g.flatten := fun v hv => List.mem_append_right _ hv
      obtain ⟨ρ', ρ1', g1, g2, g3, g4, g5, g6, g7⟩ := (toD_all hty 60).1 hx hf hpc hpw (wfs_of_mem fun v hv => wfs_mem hw v (m1 v hv)) (allCell_of_mem fun v hv => allCell_mem ha v (m1 v hv)) (tys_of_mem fun v hv => tys_mem ht v (m1 v hv))
      have hwg : SV.wfs ρ.is.length ρ.bs.length g.flatten = true := by rw [hf.hm.hni, hf.hm.hnb]; exact wfs_of_mem fun v hv => wfs_mem hw v (m2 v hv)
      obtain ⟨ρ2, ρ2', k1, k2, k3, k4, k5, k6, k7, k8⟩ := toDs_ok hty hl g1 (PcOk.fl g2 hpc) hpw (fun c hc => hs c (.tail _ hc)) (wfs_of_mem fun v hv => wfs_mem hw v (m2 v hv)) (allCell_of_mem fun v hv => allCell_mem ha v (m2 v hv)) (SV.tys_app g2.le hwg (tys_of_mem fun v hv => tys_mem ht v (m2 v hv)))
      refine ⟨ρ2, ρ2', k1, g2.trans k2, Env.le_trans g3 k3, k4.trans g4, Nat.le_trans g5 k5, ?_, by simp [k7], ?_⟩
      · intro y hy
        rcases List.mem_cons.1 hy with rfl | hy
        · exact A.wf_mono k5 g6
        · exact k6 y hy
      · have hcs := hs c (.head _)
        simp only [List.map_cons, repC, List.flatten_cons, dens_append]
        rw [SV.dens_app g2.le hwg] at k8
        refine ⟨by simp [dens_length]; omega, ?_, ?_⟩
        · rw [List.take_append_of_le_length (by rw [dens_length]; omega), List.take_of_length_le (by rw [dens_length]; omega), Env.A_app k3 (by rw [g1.he.len]; exact g6)]
          exact rep_mono k2.fz g7
        · rw [List.drop_append_of_le_length (by rw [dens_length]; omega), List.drop_of_length_le (by rw [dens_length]; omega), List.nil_append]
          exact k8
    · cases h
theorem mkRow_ok (he : Ext C.ty ρ d ρ1) (l : List A) : ∃ ρ2, Ext C.ty ρ (mkRow l d).2 ρ2 ∧ ρ1.le ρ2 ∧ (mkRow l d).1.den ρ2.is = .row (l.map (·.den ρ1.is)) := by
  unfold mkRow
  split
  · rename_i x hx
    exact ⟨ρ1, he, Env.le_refl _, by simp only [A.den, litsOf_ok hx]⟩
  · obtain ⟨ρ2, h1, h2, h3, h4⟩ := he.bind (.lst l)
    exact ⟨ρ2, h1, h2, h3⟩
theorem RowOk.one1 {ty : Ty} {fz : Fz} {e s : Nat} {x : Dt} {V : Value} (h : RowOk ty fz w e s x V) : one1 V = V := by
  rcases h with ⟨_, rfl⟩ | ⟨l, b, cap, xs, _, rfl, _⟩ <;> rfl
theorem newRow_ok (hm : Md C.ty C.pl G fz0 w0 ρ st w) {e n : Nat} {x : A} {kk : Nat → St → T} (h : (newB st (.rowd e n x) kk).wp C.ty F ρ.is Q) {V : Value} (hr : RowOk C.ty ρ.fz w e n (x.den ρ.is) V)
    (hf : ∀ k, V.ownBlock = some k → (w0.heap.size ≤ k ∨ G k) ∧ ρ.fz k = none ∧ ∀ j oj, st.mem.get j = some oj → ¬ foot ρ j oj k) :
    ∃ ρ', ρ.le ρ' ∧ ρ'.val st.nb = V ∧ Md C.ty C.pl G fz0 w0 ρ' { st with mem := st.mem.put st.nb (.rowd e n x), nb := st.nb + 1 } w ∧ (kk st.nb { st with mem := st.mem.put st.nb (.rowd e n x), nb := st.nb + 1 }).wp C.ty F ρ'.is Q := by
  have hv := push_val (C := C) hm (V.ownBlock.getD 0) hr.one1
  have hb := push_b (C := C) hm (V.ownBlock.getD 0) V
  obtain ⟨g1, g2⟩ := newB_ok hm h (V.ownBlock.getD 0) V rfl fun hw => by
    refine ⟨?_, ?_, fun k hk => ?_⟩
    · simp only [GhOk]
      rcases hr with ⟨h1, h2⟩ | ⟨l, b, cap, xs, h1, h2, h3, h4⟩
      · exact .inl ⟨h1, by rw [hv]; exact h2⟩
      · refine .inr ⟨l, cap, h1, by rw [hv, hb, h2]; rfl, ?_⟩
        rcases h3.2 with ⟨q1, _⟩ | ⟨g, c, cur, q5, q6, q7, q8, q9, _⟩
        · rw [h2] at q1; cases q1
        · have : c ≤ 9223372036854775807 := q9
          omega
    · simp only [SO.ok]; rw [hv]; exact hr
    · simp only [foot] at hk
      rw [hv] at hk
      exact hf k hk
  exact ⟨_, push_le, hv, g1, g2⟩
theorem ownsRow_new (w : World) (cs : List Value) (e n len : Nat) (hl : cs.length = len * n) (hm : len ≤ maxLen) : (w.alloc (.cells cs.toArray e)).ownsRow 0 e n (.slice (some ⟨w.heap.size, 0, none⟩) len len) len cs :=
  ⟨hl, .inr ⟨w.heap.size, len, cs.toArray, rfl, Nat.zero_le _, heap_alloc_new w _, Nat.le_refl _, hm, by simp [hl], by rw [← hl]; simp⟩⟩
theorem eBuildSlice_ok (hty : TyOk C.P C.ty) (hm : Md C.ty C.pl G fz0 w0 ρ st w) (ht : TmOk ρ st.ni st.nb tm a) {t : TypeId} {len : Nat} {parts : Array (Nat × Operand)} (ho : o.op = .buildSlice t len parts) (h : (eBuildSlice C tm st k t len parts).wp C.ty F ρ.is Q) (hk : HK C.ty C.pl F Q G fz0 w0 ρ st a o.dst next k) : o.wp C.P a w next QE := by
  unfold eBuildSlice at h
  split at h
  · rename_i e n htd
    split at h
    · rename_i z ps hz hps
      cases hc : (Nat.ble (len * n) 16777216 && Nat.ble len 16777216 && Nat.beq z.length n) <;> rw [hc] at h <;> simp only [cond_true, cond_false] at h
      · exact h.elim
      · simp only [Bool.and_eq_true] at hc
        split at h
        · rename_i cs hf
          obtain ⟨_, d1, _, _, _, hu1, _, hm1, _⟩ := tdOf_info hty htd (by simp)
          obtain ⟨rfl, i, hi, rfl⟩ := mkTD_slice hm1
          obtain ⟨i', z', hi', hz1, hz2, hz3, hz4, hz5⟩ := zeroL_info hty hz
          cases hi.symm.trans hi'
          have hsmall : ¬ len * i.size > 2 ^ 24 := by have := ble_nat hc.1.1; omega
          have hfill := fill_ok (place' := fun j => some (j * i.size, i.size)) (fun _ _ h => h) ρ ps hf
          have hp := evps_array ht hm.hpc hps
          have run : (execOp a.eval o).run C.P w = .ok (.value (.slice (some ⟨w.heap.size, 0, none⟩) len len)) (w.alloc (.cells (SV.dens ρ cs).toArray (un e))) := by
            unfold execOp
            simp only [ho, Instr.buildSlice, Sem.run_bind, run_underlying hu1, Result.andThen_ok, run_size hi, if_neg hsmall, Sem.run_ite]
            by_cases h0 : len * i.size = 0
            · rw [if_pos h0]
              have hr : (Array.range (len * i.size)).map (fun (x : Nat) => (#[] : Array Value)[x % (#[] : Array Value).size]!) = (SV.dens ρ (repeatL len z)).toArray := by
                rw [h0, List.eq_nil_of_length_eq_zero ((repeatL_length z i.size (beq_nat hc.2) len).trans h0)]
                simp [SV.dens]
              simp only [Sem.run_pure, Result.andThen_ok, hr, hp, hfill, newRow, Sem.run_bind, run_newObj]
              rfl
            · rw [if_neg h0]
              simp only [Sem.run_bind, run_zero hi hz1, Result.andThen_ok, Sem.run_pure, hz2 ρ, repeat_cells ρ z i.size (beq_nat hc.2) len, hp, hfill, newRow, run_newObj]
              rfl
          have hmem : ∀ {R : SV → Prop}, (∀ v ∈ z, R v) → (∀ q ∈ ps, ∀ vs, q.2.cellsOf = some vs → ∀ v ∈ vs, R v) → ∀ v ∈ cs, R v := by
            intro R h1 h2
            have : ∀ {ps : List (Nat × SV)} {c0 c : List SV}, fillL (fun i_1 => some (i_1 * i.size, i.size)) c0 ps = some c → (∀ v ∈ c0, R v) → (∀ q ∈ ps, ∀ vs, q.2.cellsOf = some vs → ∀ v ∈ vs, R v) → ∀ v ∈ c, R v := by
              intro ps
              induction ps with
              | nil => intro c0 c h h1 _; simp only [fillL] at h; cases h; exact h1
              | cons q ps ih =>
                intro c0 c h h1 h2
                simp only [fillL] at h
                split at h
                · rename_i off size vs hpl hvs
                  cases hl : Nat.beq vs.length size <;> rw [hl] at h <;> simp only [cond_true, cond_false] at h
                  · cases h
                  · split at h
                    · rename_i c1 hc1
                      refine ih h (fun v hv => ?_) (fun q hq => h2 q (.tail _ hq))
                      obtain ⟨_, _, h3⟩ := putN_spec _ _ _ _ hc1
                      obtain ⟨j, hj⟩ := List.getElem?_of_mem hv
                      rw [h3 j] at hj
                      split at hj
                      · exact h2 _ (.head _) vs hvs v (List.mem_of_getElem? hj)
                      · exact h1 v (List.mem_of_getElem? hj)
                    · cases h
                · cases h
            exact this hf (fun v hv => h1 v (repeatL_mem hv)) h2
          have hwcs : SV.wfs st.ni st.nb cs = true := wfs_of_mem (hmem (wfs_mem (hz4 _ _)) fun q hq vs hvs => wfs_mem (cellsOf_wf hvs (evPs_wf ht hps q hq)).1)
          have hacs : allCell cs = true := allCell_of_mem (hmem (allCell_mem hz5) fun q hq vs hvs => allCell_mem (cellsOf_wf hvs (evPs_wf ht hps q hq)).2)
          have htcs : SV.tys ρ cs := tys_of_mem (hmem (tys_mem (hz3 ρ)) fun q hq vs hvs => tys_mem (cellsOf_ty hvs (evPs_ty ht hm.hpc hps q hq)))
          split at h
          · rename_i l f hds
            split at hds
            · rename_i g hgr
              obtain ⟨e1, e2, e3⟩ := groups_ok hgr
              obtain ⟨ρ', ρ1', g1, g2, g3, g4, g5, g6, g7, g8⟩ := toDs_ok hty hds hm.fsR hm.hpc hm.hpw e3 (by rw [e1]; exact hwcs) (by rw [e1]; exact hacs) (by rw [e1]; exact htcs)
              obtain ⟨ρ2, k1, k2, k3⟩ := mkRow_ok g1.he l
              obtain ⟨hm2, h2⟩ := bindF_ok h (f := { f with d := (mkRow l f.d).2 }) ⟨g1.hm, k1⟩ g2
              have hm3 := hm2.later (World.grownBy_alloc w (.cells (SV.dens ρ cs).toArray (un e)) none)
              have hcl : cs.length = len * i.size := by
                have := repC_len g8
                rw [List.length_map, g7, e2, e1, dens_length] at this
                exact this
              obtain ⟨ρ3, q1, q2, q3, q4⟩ := newRow_ok hm3 h2 (V := .slice (some ⟨w.heap.size, 0, none⟩) len len) (.inr ⟨l.map (·.den ρ1'.is), w.heap.size, len, SV.dens ρ cs, k3, by rw [List.length_map, g7, e2], by
                rw [List.length_map, g7, e2]
                exact ownsRow_new w _ (un e) i.size len (by rw [dens_length]; exact hcl) (by have := ble_nat hc.1.2; simp only [maxLen]; omega), by
                rw [← e1]; exact repC_mono (by rw [k1.fz]; exact fun _ _ h => h) g8⟩) (fun k hk => by
                simp only [Value.ownBlock] at hk
                cases hk
                exact fresh_ok hm2 (Nat.le_refl _))
              refine wp_value run ?_
              have := hk ρ3 _ _ (.sl _) (Env.le_trans (Env.le_trans g2.le k1.le) q1) q3 rfl trivial q4
              have hv : SV.den ρ3 (.sl (stD { st with mem := f.mem } (mkRow l f.d).2).nb) = .slice (some ⟨w.heap.size, 0, none⟩) len len := q2
              rw [hv] at this
              exact this
            · cases hds
          · obtain ⟨ρ', hle, hb, hm', hd⟩ := newCells_ok hm h htcs
            refine wp_value (x := SV.den ρ' (.slice st.nb 0 len len)) ?_ (hk _ _ _ _ hle hm' rfl trivial hd)
            rw [run]
            simp only [SV.den, hb]
        · exact h.elim
    · exact h.elim
  · exact h.elim
theorem eLoad_ok (hty : TyOk C.P C.ty) (hg : GOk C.ty C.gl fz0) (hm : Md C.ty C.pl G fz0 w0 ρ st w) (ht : TmOk ρ st.ni st.nb tm a) {t : TypeId} {x : Operand} (ho : o.op = .load t x) (h : (eLoad C tm st k t x).wp C.ty F ρ.is Q) (hk : HK C.ty C.pl F Q G fz0 w0 ρ st a o.dst next k) : o.wp C.P a w next QE := by
  unfold eLoad at h
  split at h
  · rename_i v hv
    have ev := evO_den ht hm.hpc hv
    split at h
    · rename_i u d hu
      obtain ⟨ρ1, h1, h2⟩ := loadV_ok hty hg hm (cg := .c true) rfl (fun _ => hm.hpc) (evO_wf ht hv) hu
      obtain ⟨h3, ad, h4, h5⟩ := h2 rfl
      obtain ⟨hm', hd⟩ := bindD_ok hm h1 h
      refine wp_value (x := SV.den ρ1 u) (w' := w) ?_ (hk _ _ _ _ h1.le hm' rfl h3 hd)
      unfold execOp
      simp only [ho, ev, h4, Instr.loadAt, Instr.sureAddr, Sem.run_bind, Sem.run_pure, Result.andThen_ok, h5]
    · split at h
      · rename_i u d hu
        obtain ⟨ρ1, h1, h3, ad, h4, h5⟩ := loadH_ok hty hg hm (evO_wf ht hv) hu
        obtain ⟨hm', hd⟩ := bindD_ok hm h1 h
        refine wp_value (x := SV.den ρ1 u) (w' := w) ?_ (hk _ _ _ _ h1.le hm' rfl h3 hd)
        unfold execOp
        simp only [ho, ev, h4, Instr.loadAt, Instr.sureAddr, Sem.run_bind, Sem.run_pure, Result.andThen_ok, h5]
      · exact h.elim
  · exact h.elim
theorem list_put {l ys r : List SV} {n : Nat} (h : putN l n ys = some r) (ρ : Env) : SV.dens ρ r = (SV.dens ρ l).take n ++ SV.dens ρ ys ++ (SV.dens ρ l).drop (n + ys.length) := by
  obtain ⟨h1, h2, h3⟩ := putN_spec _ _ _ _ h
  apply List.ext_getElem?
  intro j
  rw [dens_getElem?, h3 j]
  have hlen : (List.take n (SV.dens ρ l)).length = n := by simp [dens_length]; omega
  by_cases hj : j < n
  · rw [if_neg (by omega), List.append_assoc, List.getElem?_append_left (by omega), List.getElem?_take, if_pos hj, dens_getElem?]
  · by_cases hj2 : j < n + ys.length
    · rw [if_pos ⟨by omega, hj2⟩, List.append_assoc, List.getElem?_append_right (by omega), hlen, List.getElem?_append_left (by rw [dens_length]; omega), dens_getElem?]
    · rw [if_neg (by omega), List.getElem?_append_right (by simp [dens_length]; omega), List.getElem?_drop, dens_getElem?]
      congr 2
      simp [dens_length]; omega
theorem putN_mem {α : Type} {l ys r : List α} {n : Nat} (h : putN l n ys = some r) : ∀ v ∈ r, v ∈ ys ∨ v ∈ l := by
  obtain ⟨h1, h2, h3⟩ := putN_spec _ _ _ _ h
  intro v hv
  obtain ⟨j, hj⟩ := List.getElem?_of_mem hv
  rw [h3 j] at hj
  split at hj
  · exact .inl (List.mem_of_getElem? hj)
  · exact .inr (List.mem_of_getElem? hj)
theorem oneCells {vs : List SV} (hc : allCell vs = true) (ρ : Env) : ∀ v ∈ SV.dens ρ vs, v.oneCell' = true := by
  intro v hv
  obtain ⟨j, hj⟩ := List.getElem?_of_mem hv
  rw [dens_getElem?] at hj
  cases hx : vs[j]? with
  | none => rw [hx] at hj; cases hj
  | some u => rw [hx] at hj; cases hj; exact SV.oneCell_of_cell (allCell_mem hc u (List.mem_of_getElem? hx)) ρ
theorem setRow_grown (w : World) (g : Nat) (cs : Array Value) : w.grownBy (w.setRow g cs) (some g) :=
  ⟨rfl, rfl, rfl, by simp [World.setRow], fun k hk hne => setRow_other w g k cs (fun e => hne (by rw [e]))⟩
theorem wrMem_ok (hm : Md C.ty C.pl G fz0 w0 ρ st w) {b off : Nat} {vs : List SV} {mem : Tb SO} (h : wrMem st.mem b off vs = some mem) (hw : SV.wfs st.ni st.nb vs = true) (hc : allCell vs = true) (ht : SV.tys ρ vs) :
    ∃ w', (storeCells ⟨ρ.b b, off, none⟩ (SV.dens ρ vs) 0).run C.P w = .ok () w' ∧ Md C.ty C.pl G fz0 w0 ρ { st with mem := mem } w' := by
  unfold wrMem at h
  split at h
  · rename_i c e hb
    obtain ⟨_, h2, _, hok⟩ := hm.mem b _ hb
    simp only [SO.wf, Bool.and_eq_true] at h2
    simp only [SO.ok] at hok
    split at h <;> cases h
    rename_i c' hp
    obtain ⟨q1, q2, q3⟩ := putN_spec _ _ _ _ hp
    have hst := run_storeCells_at C.P (ρ.b b) off e (SV.dens ρ vs) 0 (SV.dens ρ c).toArray w hok.1 (by simp [dens_length]; omega) (oneCells hc ρ)
    refine ⟨_, hst, ?_⟩
    refine hm.upd hb (setRow_grown w (ρ.b b) _) (fun k hk => by cases hk; rfl) (o' := .cells c' e) ?_ trivial ⟨?_, ?_⟩ (fun k hk => hk)
    · simp only [SO.wf, Bool.and_eq_true]
      exact ⟨wfs_of_mem fun v hv => (putN_mem hp v hv).elim (wfs_mem hw v) (wfs_mem h2.1 v), allCell_of_mem fun v hv => (putN_mem hp v hv).elim (allCell_mem hc v) (allCell_mem h2.2 v)⟩
    · rw [setRow_heap w _ _ _ e _ hok.1]
      congr 3
      rw [list_put hp ρ]
      simp [dens_length]
    · exact tys_of_mem fun v hv => (putN_mem hp v hv).elim (tys_mem ht v) (tys_mem hok.2 v)
  · cases h
theorem run_storeVar {t : TypeId} {e : TE} (hty : TyOk C.P C.ty) (he : C.ty.get t = some e) (hh : e.d.isH = false) {v : Value} {cs : List Value} (hc : v.cells = cs.toArray) (hl : cs.length = e.size) {ad : Addr} (h : (storeCells ad cs 0).run C.P w = .ok () w') : (storeVar t ad v).run C.P w = .ok () w' := by
  obtain ⟨dd, i, hu, hi, hmt, hs, _, _⟩ := hty.info he hh
  have : ¬ v.cells.size ≠ i.size := by rw [hc, hs]; simp [hl]
  simp only [storeVar, Sem.run_bind, run_size hi, Result.andThen_ok, if_neg this, Sem.run_ite]
  rw [hc]; exact h
theorem sizeT_te {ty : Ty} {t n : Nat} (h : sizeT ty t = some n) : ∃ e, ty.get t = some e ∧ e.size = n := by
  unfold sizeT at h
  split at h <;> cases h
  exact ⟨_, ‹_›, rfl⟩
theorem sizeO_te {ty : Ty} {t n : Nat} (h : sizeO ty t = some n) : ∃ e, ty.get t = some e ∧ e.d.isH = false ∧ e.size = n := by
  unfold sizeO at h
  split at h
  · rename_i e he
    cases hh : e.d.isH <;> rw [hh] at h <;> simp only [cond_true, cond_false] at h <;> cases h
    exact ⟨_, he, hh, rfl⟩
  · cases h
end
end Go.SY
