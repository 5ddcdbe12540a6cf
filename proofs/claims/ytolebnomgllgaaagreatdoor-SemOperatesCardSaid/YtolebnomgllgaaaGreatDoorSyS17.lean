/- The symbolic executor SY, its soundness, part 17: 'copy', 'make', bytes to a string. -/
import Derived.Test.YtolebnomgllgaaaGreatDoorSyS16
import Derived.Laws.MakeOwn
import Derived.Lib.AppendZeros
set_option linter.unusedVariables false
set_option linter.unusedSimpArgs false
namespace Go.SY
open Go Go.RowKit
noncomputable section
variable {F : Nat → List Dt → Post → Prop} {Q : Post}
variable {C : Cfg} {G : Nat → Prop} {fz0 : Fz} {w0 w w' : World} {ρ ρ' ρ1 ρ1' : Env} {st : St} {d : Bd} {tm : Tm} {a : Act} {o : Oper} {k : SV → St → T} {next : Act → World → Prop} {QE : Exit → Act → World → Prop}
theorem bind_gs (d : Bd) (e : E) : (d.bind e).2.gs = d.gs ∧ (d.bind e).2.nb = d.nb := by
  unfold Bd.bind Bd.bindT
  cases e.lit <;> exact ⟨rfl, rfl⟩
theorem RowOk.len_lt {ty : Ty} {fz : Fz} {w : World} {e s : Nat} {x : Dt} {V : Value} (h : RowOk ty fz w e s x V) : x.len < 9223372036854775808 := by
  rcases h with ⟨rfl, _⟩ | ⟨l, b, cap, xs, rfl, rfl, h3, _⟩
  · simp [Dt.len]
  · rcases h3.2 with ⟨q1, _⟩ | ⟨g, c, cur, q5, q6, q7, q8, q9, _⟩
    · cases q1
    · have : c ≤ 9223372036854775807 := q9
      simp only [Dt.len]; omega
theorem eCopy_ok (hty : TyOk C.P C.ty) (hm : Md C.ty C.pl G fz0 w0 ρ st w) {t t' : TypeId} {s x : SV}
    (hop : ∀ v w', t = t' → (Builtin.copy_ #[t, t] o.type #[s.den ρ, x.den ρ]).run C.P w = .ok v w' → (execOp a.eval o).run C.P w = .ok (.value v) w')
    (h : (eCopy C st k t t' s x).wp C.ty F ρ.is Q) (hk : HK C.ty C.pl F Q G fz0 w0 ρ st a o.dst next k) : o.wp C.P a w next QE := by
  unfold eCopy at h
  split at h
  · rename_i e n htd
    cases hf : (Nat.beq n 1 && Nat.beq t t') <;> rw [hf] at h <;> simp only [cond_true, cond_false] at h
    · exact h.elim
    · simp only [Bool.and_eq_true] at hf
      have htt := beq_nat hf.2
      have hn := beq_nat hf.1
      subst hn
      split at h
      · rename_i ax hax
        have hsrc := srcCells hty hm htd hax
        have wax := slA_wf hm.gmem hax
        split at h
        · rename_i b
          split at h
          · rename_i e' n' xa hb0
            cases hen : (Nat.beq e e' && Nat.beq 1 n') <;> rw [hen] at h <;> simp only [cond_true, cond_false] at h
            · exact h.elim
            · simp only [Bool.and_eq_true] at hen
              have e1 := beq_nat hen.1
              have e2 := beq_nat hen.2
              subst e1; subst e2
              obtain ⟨hlt, hw, hgo, hok⟩ := hm.mem b _ hb0
              simp only [SO.wf] at hw
              simp only [SO.ok] at hok
              obtain ⟨ρ1, q1, q2, q3, q4⟩ := hm.ext0.bind (.cpy xa ax)
              obtain ⟨ρ2, k1, k2, k3, k4⟩ := q1.bind (.mn xa.mkLen ax.mkLen)
              obtain ⟨hm1, h⟩ := bindD_ok hm k1 h
              obtain ⟨w', r1, r2, r3⟩ := copy_ok (w := w) hty htd (fz := ρ.fz) hok hsrc o.type
              have hgs : (((st.bd.bind (.cpy xa ax)).2).bind (.mn xa.mkLen ax.mkLen)).2.gs = [] := by rw [(bind_gs _ _).1, (bind_gs _ _).1]; rfl
              have hb2 : (stD st (((st.bd.bind (.cpy xa ax)).2).bind (.mn xa.mkLen ax.mkLen)).2).mem.get b = some (.rowd e 1 xa) := by simp only [stD, hgs, pushG]; exact hb0
              have hbl : b < ρ.bs.length := by rw [hm.hnb]; exact hlt
              have hval : ρ2.val b = ρ.val b := by rw [Env.val_app k1.le hbl]
              have hm1w := hm.wfA q1 hw
              have hx2 : xa.den ρ1.is = xa.den ρ.is := hm1w.2
              have ha2 : ax.den ρ1.is = ax.den ρ.is := (hm.wfA q1 wax).2
              have hd2 : ((st.bd.bind (.cpy xa ax)).1).den ρ2.is = (xa.den ρ.is).cpy (ax.den ρ.is) := by
                rw [Env.A_app k2 (by rw [q1.len]; exact q4), q3]; rfl
              have hwr : ((st.bd.bind (.cpy xa ax)).1).wf (((st.bd.bind (.cpy xa ax)).2).bind (.mn xa.mkLen ax.mkLen)).2.ni = true := by
                refine A.wf_mono ?_ q4
                rw [← q1.len, ← k1.len]
                obtain ⟨l, hl⟩ := k2.is
                rw [hl]; simp
              have hm2 := hm1.upd (w' := w') (o' := .rowd e 1 (st.bd.bind (.cpy xa ax)).1) hb2 r3 (fun k hk => by simp only [foot, hval]; exact hk) (by simp only [SO.wf]; exact hwr) (by
                have hg2 : GhOk C.ty ρ2 b (.rowd e 1 xa) := (hm1.mem b _ hb2).2.2.1
                simp only [GhOk] at hg2 ⊢
                have hxx : xa.den ρ2.is = xa.den ρ.is := Env.A_app k1.le (by rw [hm.hni]; exact hw)
                rw [hd2]
                rw [hxx] at hg2
                rcases hg2 with ⟨g1, g2⟩ | ⟨l, cap, g1, g2, g3⟩
                · exact .inl ⟨by rw [g1]; rfl, g2⟩
                · rw [g1]
                  cases hxd : ax.den ρ.is <;> simp only [Dt.cpy, Dt.list] <;> first
                    | exact .inr ⟨_, cap, rfl, by simpa using g2, by simpa using g3⟩
                    | (refine .inr ⟨_, cap, rfl, ?_, ?_⟩
                       · rw [g2]; congr 1; simp; omega
                       · have := g3; simp; omega)) (by
                simp only [SO.ok]
                rw [hval, hd2, k1.fz]
                exact r2) (fun kk hkk => hkk)
              refine wp_value (hop _ w' htt r1) ?_
              have hmn : (((st.bd.bind (.cpy xa ax)).2).bind (.mn xa.mkLen ax.mkLen)).1.den ρ2.is = .num ((min (ax.den ρ.is).len (xa.den ρ.is).len : Nat) : Int) := by
                rw [k3]
                simp only [E.den, int_mkLen, hx2, ha2]
                split <;> (congr 1; omega)
              have hv : goInt ((min (ax.den ρ.is).len (xa.den ρ.is).len : Nat) : Int) = SV.den ρ2 (.int .i64 (((st.bd.bind (.cpy xa ax)).2).bind (.mn xa.mkLen ax.mkLen)).1) := by
                simp only [SV.den, A.int, hmn, Dt.int, goInt]
              rw [hv]
              refine hk ρ2 _ _ (.int .i64 _) k1.le hm2 rfl ?_ h
              have hl1 := hok.len_lt
              exact ⟨_, hmn, i64_nat (by omega)⟩
          · exact h.elim
        · exact h.elim
      · exact h.elim
  · exact h.elim
theorem repC_replicate {ty : Ty} {fz : Fz} {e s : Nat} {x : Dt} {ρ : Env} {z : List SV} (hz : z.length = s) (hr : rep ty fz x e (SV.dens ρ z)) : ∀ n, repC ty fz (List.replicate n x) e s (SV.dens ρ (repeatL n z))
  | 0 => by simp [repC, repeatL, SV.dens]
  | n + 1 => by
    simp only [List.replicate_succ, repC, repeatL, dens_append]
    refine ⟨by simp [dens_length]; omega, ?_, ?_⟩
    · rw [List.take_append_of_le_length (by rw [dens_length]; omega), List.take_of_length_le (by rw [dens_length]; omega)]; exact hr
    · rw [List.drop_append_of_le_length (by rw [dens_length]; omega), List.drop_of_length_le (by rw [dens_length]; omega), List.nil_append]; exact repC_replicate hz hr n
theorem makeFit_ok (hty : TyOk C.P C.ty) {e n : Nat} (h : makeFit C.ty e n = true) : ∃ i, C.P.info? e = some i ∧ i.size = n ∧ i.bytes ≤ 256 := by
  unfold makeFit at h
  split at h
  · rename_i te hte
    simp only [Bool.and_eq_true] at h
    have hzl := h.2
    unfold zlen at hzl
    split at hzl
    · rename_i z hzz
      obtain ⟨dd, i, hu, hi, hmt, hs, hb, hz⟩ := hty.info hte (hty.infoZ hte hzz)
      have e1 := beq_nat h.1.1
      exact ⟨i, hi, by omega, by have := ble_nat h.1.2; omega⟩
    · cases hzl
  · cases h
theorem eAppendZ_ok (hty : TyOk C.P C.ty) (hm : Md C.ty C.pl G fz0 w0 ρ st w) {t t' : TypeId} {s : SV} {kx : IntKind} {xa : A} (hsw : s.wf st.ni st.nb = true) (hxw : xa.wf st.ni = true)
    (hop : ∀ v w', (Builtin.append_ #[t, t'] o.type #[s.den ρ, (SV.int kx xa).den ρ]).run C.P w = .ok v w' → (execOp a.eval o).run C.P w = .ok (.value v) w')
    (h : (eAppendZ C st k t t' s kx xa).wp C.ty F ρ.is Q) (hk : HK C.ty C.pl F Q G fz0 w0 ρ st a o.dst next k) : o.wp C.P a w next QE := by
  unfold eAppendZ at h
  split at h
  · rename_i e n kn htd htn
    split at h
    · rename_i z hz
      split at h
      · rename_i za f hzd
        cases hc : (makeFit C.ty (un e) n && Nat.blt 0 n) <;> rw [hc] at h <;> simp only [cond_true, cond_false] at h
        · exact h.elim
        · simp only [Bool.and_eq_true] at hc
          obtain ⟨i, hi, hsz, hby⟩ := makeFit_ok hty hc.1
          have hn0 := blt_nat hc.2
          obtain ⟨i', z', hi', hz1, hz2, hz3, hz4, hz5⟩ := zeroL_info hty hz
          cases hi.symm.trans hi'
          obtain ⟨_, d1, _, _, _, hu1, _, hm1, _⟩ := tdOf_info hty htd (by simp)
          obtain ⟨rfl, i2, hi2, hs2⟩ := mkTD_slice hm1
          obtain ⟨_, d2, _, _, _, hu2, _, hm2, _⟩ := tdOf_info hty htn (by simp)
          cases mkTD_int hm2
          have hzl : z.length = n := by
            have := hc.1
            unfold makeFit at this
            split at this
            · rename_i te hte
              simp only [Bool.and_eq_true] at this
              have h1 := beq_nat this.1.1
              have h2 := this.2
              unfold zlen at h2
              split at h2
              · rename_i zz hzz
                unfold zeroL at hz
                rw [hte] at hz
                simp only at hz
                rw [hzz] at hz
                have := beq_nat h2
                injection hz with hz
                subst hz
                omega
              · cases h2
            · cases this
          have hzc : ∀ m, Builtin.zeroCells z'.cells m = (SV.dens ρ (repeatL m z)).toArray := fun m => by
            unfold Builtin.zeroCells
            have hcs : z'.cells = (SV.dens ρ z).toArray := hz2 ρ
            rw [hcs]
            have h2 : (SV.dens ρ z).toArray.size = n := by simp [dens_length, hzl]
            have := repeat_cells ρ z n hzl m
            rw [h2] at this ⊢
            exact this
          obtain ⟨ρ', ρ1', g1, g2, g3, g4, g5, g6, g7⟩ := (toD_all hty 60).1 hzd hm.fsR hm.hpc hm.hpw (hz4 _ _) hz5 (hz3 ρ)
          obtain ⟨hm1, h⟩ := bindF_ok h g1 g2
          obtain ⟨b, p, hb, hm2, h⟩ := condB_ok hm1 h
          cases b <;> simp only [cond_true, cond_false] at h
          · exact h.elim
          · obtain ⟨b, p2, hb2, hm3, h⟩ := condB_ok hm2 h
            cases b <;> simp only [cond_true, cond_false] at h
            · rw [B.den_mkLt] at hb hb2
              have hb := of_decide_eq_true hb
              have hb2 := of_decide_eq_false hb2
              rw [int_n] at hb hb2
              have hxd : xa.den ρ1'.is = xa.den ρ.is := by
                rw [Env.A_app g1.he.le (by rw [g2.is, hm.hni]; exact hxw), g2.is]
              have hxi : xa.int ρ1'.is = xa.int ρ.is := by simp only [A.int, hxd]
              rw [hxi] at hb hb2
              have hm' : (((xa.int ρ.is).toNat : Nat) : Int) = xa.int ρ.is := by omega
              have hbytes : (xa.int ρ.is).toNat * i.bytes ≤ 281474976710656 := by
                have : (xa.int ρ.is).toNat * i.bytes ≤ 1099511627776 * 256 := Nat.mul_le_mul (by omega) hby
                omega
              have hrun := Lib.run_append_nil_zeros (P := C.P) w t t' o.type (un e) i z' kx _ hu1 hu2 hi hz1 (xa.int ρ.is).toNat (by omega) (by omega) (by omega) hbytes
              rw [hm', hzc, hzc] at hrun
              have hrun := hop _ _ (show (Builtin.append_ #[t, t'] o.type #[SV.den ρ .nilsl, (SV.int kx xa).den ρ]).run C.P w = _ from hrun)
              obtain ⟨ρ2, rr, st', l1, l2, l3, l4, l5, l6, hm4, h⟩ := bind1_ok hm3 h
              have hm5 := (hm4.drew).later (World.grownBy_alloc w.drew (.cells ((SV.dens ρ (repeatL (xa.int ρ.is).toNat z)).toArray ++ (SV.dens ρ (repeatL (grownCap w (xa.int ρ.is).toNat 0 (un e) - (xa.int ρ.is).toNat) z)).toArray) (un e)) none)
              have hge := grownCap_ge w (xa.int ρ.is).toNat 0 (un e)
              obtain ⟨ρ3, q1, q2, q3, q4⟩ := newRow_ok hm5 h (V := .slice (some ⟨w.heap.size, 0, none⟩) (xa.int ρ.is).toNat (grownCap w (xa.int ρ.is).toNat 0 (un e))) (by
                rw [l2]
                simp only [E.den, hxi]
                refine .inr ⟨_, w.heap.size, grownCap w (xa.int ρ.is).toNat 0 (un e), SV.dens ρ (repeatL (xa.int ρ.is).toNat z), rfl, by rw [List.length_replicate], ?_, ?_⟩
                · rw [List.length_replicate]
                  refine ⟨by rw [dens_length, repeatL_length z n hzl], .inr ⟨w.heap.size, _, _, rfl, Nat.zero_le _, heap_alloc_new w.drew _, hge, grownCap_le_maxLen w _ _ _ (by simp only [maxLen]; omega), ?_, ?_⟩⟩
                  · simp only [Array.size_append, List.size_toArray, dens_length, repeatL_length z n hzl]
                    rw [← Nat.add_mul]
                    congr 1; omega
                  · rw [Array.toList_append]
                    simp only [List.toList_toArray]
                    rw [List.take_append_of_le_length (by rw [dens_length, repeatL_length z n hzl]; exact Nat.le_refl _), List.take_of_length_le (by rw [dens_length, repeatL_length z n hzl]; exact Nat.le_refl _)]
                · refine repC_replicate hzl (rep_mono ?_ g7) _
                  have := l1.fz
                  rw [g1.he.fz] at this
                  exact this) (fun kk hkk => by
                simp only [Value.ownBlock] at hkk
                cases hkk
                exact fresh_ok hm4.drew (Nat.le_refl _))
              refine wp_value hrun ?_
              rw [← q2]
              exact hk ρ3 _ _ (.sl _) (Env.le_trans (Env.le_trans (Env.le_trans g2.le g1.he.le) l1) q1) q3 l6 trivial q4
            · exact h.elim
      · exact h.elim
    · exact h.elim
  · exact h.elim
theorem eMakeSlice_ok (hty : TyOk C.P C.ty) (hm : Md C.ty C.pl G fz0 w0 ρ st w) (ht : TmOk ρ st.ni st.nb tm a) {t : TypeId} {x y : Operand} (ho : o.op = .makeSlice t x y) (h : (eMakeSlice C tm st k t x y).wp C.ty F ρ.is Q) (hk : HK C.ty C.pl F Q G fz0 w0 ρ st a o.dst next k) : o.wp C.P a w next QE := by
  unfold eMakeSlice at h
  split at h
  · rename_i e n kx xa ky ya htd hx hy
    split at h
    · rename_i z hz
      split at h
      · rename_i za f hzd
        cases hc : (xa.beq ya && makeFit C.ty (un e) n) <;> rw [hc] at h <;> simp only [cond_true, cond_false] at h
        · exact h.elim
        · simp only [Bool.and_eq_true] at hc
          have := A.beq_eq hc.1
          subst this
          obtain ⟨i, hi, hsz, hby⟩ := makeFit_ok hty hc.2
          obtain ⟨i', z', hi', hz1, hz2, hz3, hz4, hz5⟩ := zeroL_info hty hz
          cases hi.symm.trans hi'
          obtain ⟨_, d1, _, _, _, hu1, _, hm1, _⟩ := tdOf_info hty htd (by simp)
          obtain ⟨rfl, i2, hi2, hs2⟩ := mkTD_slice hm1
          have hzl : z.length = n := by
            have := hc.2
            unfold makeFit at this
            split at this
            · rename_i te hte
              simp only [Bool.and_eq_true] at this
              have h1 := beq_nat this.1.1
              have h2 := this.2
              unfold zlen at h2
              split at h2
              · rename_i zz hzz
                unfold zeroL at hz
                rw [hte] at hz
                simp only at hz
                rw [hzz] at hz
                have := beq_nat h2
                injection hz with hz
                subst hz
                omega
              · cases h2
            · cases this
          have hxe := evO_den ht hm.hpc hx
          have hye := evO_den ht hm.hpc hy
          have run : 0 ≤ xa.int ρ.is → xa.int ρ.is ≤ 1099511627776 → (execOp a.eval o).run C.P w = .ok (.value (.slice (some ⟨w.heap.size, 0, none⟩) (xa.int ρ.is).toNat (xa.int ρ.is).toNat)) (w.alloc (.cells (SV.dens ρ (repeatL (xa.int ρ.is).toNat z)).toArray (un e))) := by
            intro h0 h1
            have hb : (i.bytes : Int) * (xa.int ρ.is) ≤ 281474976710656 := by
              have : (i.bytes : Int) * (xa.int ρ.is) ≤ 256 * 1099511627776 := Int.mul_le_mul (by omega) h1 h0 (by omega)
              omega
            have := run_make (P := C.P) w t (un e) i z' hu1 hi hz1 kx ky (xa.int ρ.is) (xa.int ρ.is) h0 (Int.le_refl _) hb (by omega)
            unfold execOp
            simp only [ho, Sem.run_bind, hxe, hye, SV.den, this, Result.andThen_ok, Sem.run_pure]
            rw [hsz, hz2 ρ]
            unfold madeCells
            rw [repeat_cells ρ z n hzl]
          split at h
          · rename_i m e2 s2 hlm _
            cases hc2 : (Nat.ble m 100 && Nat.beq n 1) <;> rw [hc2] at h <;> simp only [cond_true, cond_false] at h
            · exact h.elim
            · simp only [Bool.and_eq_true] at hc2
              have hmi := litNatA_ok hlm ρ.is
              have hml := ble_nat hc2.1
              have hrun := run (by omega) (by omega)
              have htn : (xa.int ρ.is).toNat = m := by omega
              rw [htn] at hrun
              obtain ⟨ρ', hle, hb, hm', hd⟩ := newCells_ok hm h (tys_of_mem fun v hv => tys_mem (hz3 ρ) v (repeatL_mem hv))
              refine wp_value (x := SV.den ρ' (.slice st.nb 0 m m)) ?_ (hk _ _ _ _ hle hm' rfl trivial hd)
              rw [hrun]
              simp only [SV.den, hb]
          · obtain ⟨ρ', ρ1', g1, g2, g3, g4, g5, g6, g7⟩ := (toD_all hty 60).1 hzd hm.fsR hm.hpc hm.hpw (hz4 _ _) hz5 (hz3 ρ)
            obtain ⟨hm1, h⟩ := bindF_ok h g1 g2
            obtain ⟨b, p, hb, hm2, h⟩ := condB_ok hm1 h
            cases b <;> simp only [cond_true, cond_false] at h
            · obtain ⟨b, p2, hb2, hm3, h⟩ := condB_ok hm2 h
              cases b <;> simp only [cond_true, cond_false] at h
              · rw [B.den_mkLt] at hb hb2
                have hb := of_decide_eq_false hb
                have hb2 := of_decide_eq_false hb2
                rw [int_n] at hb hb2
                have hxw : xa.wf st.ni = true := by have := evO_wf ht hx; simpa [SV.wf] using this
                have hxd : xa.den ρ1'.is = xa.den ρ.is := by
                  rw [Env.A_app g1.he.le (by rw [g2.is, hm.hni]; exact hxw), g2.is]
                have hxi : xa.int ρ1'.is = xa.int ρ.is := by simp only [A.int, hxd]
                rw [hxi] at hb hb2
                have hrun := run (by omega) (by omega)
                obtain ⟨ρ2, rr, st', l1, l2, l3, l4, l5, l6, hm4, h⟩ := bind1_ok hm3 h
                have hm5 := hm4.later (World.grownBy_alloc w (.cells (SV.dens ρ (repeatL (xa.int ρ.is).toNat z)).toArray (un e)) none)
                obtain ⟨ρ3, q1, q2, q3, q4⟩ := newRow_ok hm5 h (V := .slice (some ⟨w.heap.size, 0, none⟩) (xa.int ρ.is).toNat (xa.int ρ.is).toNat) (by
                  rw [l2]
                  simp only [E.den, hxi]
                  refine .inr ⟨_, w.heap.size, (xa.int ρ.is).toNat, SV.dens ρ (repeatL (xa.int ρ.is).toNat z), rfl, by rw [List.length_replicate], ?_, ?_⟩
                  · rw [List.length_replicate]
                    exact ownsRow_new w _ (un e) n _ (by rw [dens_length, repeatL_length z n hzl]) (by simp only [maxLen]; omega)
                  · refine repC_replicate hzl (rep_mono ?_ g7) _
                    have := l1.fz
                    rw [g1.he.fz] at this
                    exact this) (fun kk hkk => by
                  simp only [Value.ownBlock] at hkk
                  cases hkk
                  exact fresh_ok hm4 (Nat.le_refl _))
                refine wp_value hrun ?_
                rw [← q2]
                exact hk ρ3 _ _ (.sl _) (Env.le_trans (Env.le_trans (Env.le_trans g2.le g1.he.le) l1) q1) q3 l6 trivial q4
              · exact h.elim
            · exact h.elim
      · exact h.elim
    · exact h.elim
  · exact h.elim
end
end Go.SY
