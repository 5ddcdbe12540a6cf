/- The symbolic executor SY, its soundness, part 14: stores, indexes, choices. -/
import Derived.Test.YtolebnomgllgaaaGreatDoorSyS13
set_option linter.unusedVariables false
set_option linter.unusedSimpArgs false
namespace Go.SY
open Go Go.RowKit
noncomputable section
variable {F : Nat → List Dt → Post → Prop} {Q : Post}
variable {C : Cfg} {G : Nat → Prop} {fz0 : Fz} {w0 w w' : World} {ρ ρ' ρ1 ρ1' : Env} {st : St} {d : Bd} {tm : Tm} {a : Act} {o : Oper} {k : SV → St → T} {next : Act → World → Prop} {QE : Exit → Act → World → Prop}
theorem take_drop_len {l : List Value} {n m : Nat} : (l.take n).length = min n l.length := List.length_take
theorem rowSet_ok {ty : Ty} {fz : Fz} {e s : Nat} {L : List Dt} {B cap j : Nat} {xs ds : List Value} {y : Dt} (ho : w.ownsRow 0 (SY.un e) s (.slice (some ⟨B, 0, none⟩) L.length cap) L.length xs) (hr : repC ty fz L e s xs) (hj : j < L.length) (hd : ds.length = s) (hy : rep ty fz y e ds) :
    ∃ cur, w.heap[B]? = some (.cells cur (SY.un e) (0, 0)) ∧ cap * s = cur.size ∧ L.length ≤ cap ∧
      ∀ w', w'.heap[B]? = some (.cells (cur.toList.take (j * s) ++ ds ++ cur.toList.drop (j * s + s)).toArray (SY.un e) (0, 0)) → RowOk ty fz w' e s (.row (L.set j y)) (.slice (some ⟨B, 0, none⟩) L.length cap) := by
  rcases ho.2 with ⟨h1, _⟩ | ⟨g, c, cur, h1, h2, h3, h4, h5, h6, h7⟩
  · cases h1
  · injection h1 with h1 _ h1'
    injection h1 with h1
    injection h1 with h1
    subst h1; subst h1'
    have hsz : j * s + s ≤ L.length * s := by
      have := Nat.mul_le_mul_right s (show j + 1 ≤ L.length by omega)
      rw [Nat.add_mul] at this; omega
    have hcs : L.length * s ≤ cap * s := Nat.mul_le_mul_right _ h4
    refine ⟨cur, h3, h6.symm, h4, fun w' hw' => .inr ⟨L.set j y, B, cap, _, rfl, by simp, ⟨?_, .inr ⟨B, cap, _, by simp, Nat.zero_le _, hw', by simpa using h4, h5, ?_, rfl⟩⟩, ?_⟩⟩
    · simp only [List.length_set, List.length_take, List.length_append, List.length_drop, Array.length_toList, hd, h6]
      omega
    · simp only [List.size_toArray, List.length_append, List.length_take, List.length_drop, Array.length_toList, hd, h6]
      omega
    · have := repC_set hr hj hy hd
      rw [← h7] at this
      have e1 : List.take (j * s) (List.take (L.length * s) cur.toList) = List.take (j * s) cur.toList := by rw [List.take_take, Nat.min_eq_left (by omega)]
      rw [e1] at this
      simp only [List.length_set]
      have e2 : List.take (L.length * s) (List.take (j * s) cur.toList ++ ds ++ List.drop (j * s + s) cur.toList) = List.take (j * s) cur.toList ++ ds ++ List.drop (j * s + s) (List.take (L.length * s) cur.toList) := by
        have l1 : (List.take (j * s) cur.toList ++ ds).length = j * s + s := by
          simp only [List.length_append, List.length_take, Array.length_toList, hd, h6]; omega
        rw [List.take_append, List.take_of_length_le (by omega), l1, List.drop_take]
      rw [e2]
      exact this
theorem storeH_ok (hty : TyOk C.P C.ty) (hm : Md C.ty C.pl G fz0 w0 ρ st w) {t : TypeId} {x y : Operand} (ho : o.op = .store t x y) {b s off n : Nat} {i : A} {path : List Nat} {v : SV} {vs : List SV} (ev : a.eval x = SV.den ρ (.rp b s i off path)) (eu : a.eval y = v.den ρ)
    (wv : Nat.blt b st.nb = true ∧ i.wf st.ni = true) (wu : v.wf st.ni st.nb = true) (tu : v.ty ρ) (hvs : v.cellsOf = some vs) (hn : sizeO C.ty t = some n) (hl : Nat.beq vs.length n = true) (h : (storeH C st k b s i off vs).wp C.ty F ρ.is Q) (hk : HK C.ty C.pl F Q G fz0 w0 ρ st a o.dst next k) : o.wp C.P a w next QE := by
  unfold storeH at h
  split at h
  · rename_i cc tt aa e s' xa e0 s0 P hb hrw hp
    obtain ⟨c, t2, aa', P', lP, jj, hb', hp', hlP, hjj, haa, waa, wP, hV, hxP, hok⟩ := rowH_ok hm hrw
    rw [hb] at hb'
    rw [hp] at hp'
    cases hb'
    cases hp'
    cases hkk : (Nat.beq s s' && Nat.blt 0 s && knownIs st.pc (.mkLt i (.n 0)) false && knownIs st.pc (.mkLt i xa.mkLen) true) <;> rw [hkk] at h <;> simp only [cond_true, cond_false] at h
    · exact h.elim
    · simp only [Bool.and_eq_true] at hkk
      obtain ⟨⟨⟨k1, k0⟩, k2⟩, k3⟩ := hkk
      have hs := beq_nat k1
      subst hs
      have hw : xa.wf st.ni = true := by rw [hxP]; exact wf_mkIdx wP waa
      split at h
      · rename_i l d hmk
        cases hls : Nat.beq l.length s <;> rw [hls] at h <;> simp only [cond_true, cond_false] at h
        · exact h.elim
        · have hls := beq_nat hls
          split at h
          · rename_i l' hput
            obtain ⟨j, j1, j2, j3⟩ := inRange hm.hpc (int_mkLen xa ρ.is) k2 k3
            rcases hok with ⟨q1, _⟩ | ⟨L, B, cap, xs, q1, q2, q3, q4⟩
            · rw [q1] at j2; simp [Dt.len] at j2
            · rw [q1] at j2
              simp only [Dt.len] at j2
              obtain ⟨p1, p2⟩ := repC_idx q4 (List.getElem?_eq_getElem j2)
              obtain ⟨ρ2, g1, g2, g3, g4, g5⟩ := (mk_all (ty := C.ty) (ρ := ρ) 60).1 hmk hm.ext0 (cs := (xs.drop (j * s)).take s) (show (xa.mkIdx i).wf st.ni = true from wf_mkIdx hw wv.2) rfl (fun _ => by
                rw [den_mkIdx, j3, q1]
                simp only [Dt.idx, Dt.list]
                rw [List.getD_eq_getElem?_getD, List.getElem?_eq_getElem j2]
                exact p2)
              obtain ⟨t1, t2⟩ := g3 rfl
              obtain ⟨hm2, h⟩ := bindD_ok hm g1 h
              obtain ⟨c1, c2⟩ := cellsOf_wf hvs wu
              have hwv : SV.wfs (stD st d).ni (stD st d).nb vs = true := by
                have := hm.tmok hm2 g1.le (tm := .e) (a := a) (fun i v h => by rw [Tb.get_e] at h; cases h)
                have le1 := g1.le.len_is
                have le2 := g1.le.len_bs
                rw [hm.hni, hm2.hni] at le1
                rw [hm.hnb, hm2.hnb] at le2
                exact SV.wfs_mono le1 le2 c1
              have hvl : SV.wfs ρ.is.length ρ.bs.length vs = true := by rw [hm.hni, hm.hnb]; exact c1
              have hmem' : ∀ v ∈ l', v ∈ vs ∨ v ∈ l := putN_mem hput
              split at h
              · rename_i z f hz
                obtain ⟨ρ3, ρ3', r1, r2, r3, r4, r5, r6, r7⟩ := (toD_all hty 60).1 hz hm2.fsR hm2.hpc hm2.hpw
                  (wfs_of_mem fun v hv => (hmem' v hv).elim (wfs_mem hwv v) (wfs_mem g4 v))
                  (allCell_of_mem fun v hv => (hmem' v hv).elim (allCell_mem c2 v) (allCell_mem g5 v))
                  (tys_of_mem fun v hv => (hmem' v hv).elim (tys_mem (SV.tys_app g1.le hvl (cellsOf_ty hvs tu)) v) (tys_mem t2 v))
                split at h
                · rename_i e2 s2 P2 hb2
                  cases heq : (Nat.beq e e2 && Nat.beq s s2 && P.beq P2) <;> rw [heq] at h <;> simp only [cond_true, cond_false] at h
                  · exact h.elim
                  · simp only [Bool.and_eq_true] at heq
                    have h1 := beq_nat heq.1.1
                    have h2 := beq_nat heq.1.2
                    have h3 := A.beq_eq heq.2
                    subst h1; subst h2; subst h3
                    obtain ⟨hm4, h⟩ := bindF_ok h r1 r2
                    have hle3 : ρ.le ρ3 := Env.le_trans g1.le r2.le
                    have hle3' := Env.le_trans hle3 r1.he.le
                    obtain ⟨ρ5, y5, st5, l5, d5, w5, m5, n5, f5, hm5, h⟩ := bind1_ok hm4 h
                    obtain ⟨ρ6, y6, st6, l6, d6, w6, m6, n6, f6, hm6, h⟩ := bind1_ok hm5 h
                    have hle6 : ρ.le ρ6 := Env.le_trans (Env.le_trans hle3' l5) l6
                    have hxa : xa.wf ρ.is.length = true := by rw [hm.hni]; exact hw
                    have hia : i.wf ρ.is.length = true := by rw [hm.hni]; exact wv.2
                    have haw : aa.wf ρ.is.length = true := by rw [hm.hni]; exact waa
                    have hPw : P.wf ρ.is.length = true := by rw [hm.hni]; exact wP
                    have hp6 : st6.mem.get 0 = some (.pool e s P) := by
                      rw [m6, m5]
                      have hgs : f.d.gs = [] := by rw [r4]; rfl
                      simp only [stD, hgs, pushG]
                      exact hb2
                    obtain ⟨lP', hlP', hpo, _⟩ := hm6.pool hp6
                    rw [Env.A_app hle6 hPw, hlP] at hlP'
                    injection hlP' with hlP'
                    subst hlP'
                    have hpl : C.pl = true := by
                      cases hq : C.pl with
                      | true => rfl
                      | false => exact absurd hp6 ((hm6.hkk.np hq).2 e s P)
                    have hV6 := hle6.fz _ _ hV
                    obtain ⟨V6, z1, z2⟩ := hpo.1 jj _ (List.getElem?_eq_getElem hjj)
                    rw [hV6] at z1
                    injection z1 with z1
                    have z1 := hob_inj z1
                    subst z1
                    have hrowL : lP[jj] = .row L := by
                      rw [hxP, den_mkIdx, hlP] at q1
                      simpa only [A.int, haa, Dt.int, Dt.idx, Dt.list, Int.toNat_natCast, List.getD_eq_getElem?_getD, List.getElem?_eq_getElem hjj, Option.getD_some] using q1
                    rw [hrowL, q2] at z2
                    rcases z2 with ⟨q5, _⟩ | ⟨L4, B4, cap4, xs4, q5, q6, q7, q8⟩
                    · cases q5
                    · cases q5
                      injection q6 with q6 _ q6'
                      injection q6 with q6
                      injection q6 with q6
                      subst q6; subst q6'
                      have hy : rep C.ty ρ6.fz (z.den ρ3'.is) e (SV.dens ρ2 l') := rep_mono (Env.le_trans (Env.le_trans r1.he.le l5) l6).fz r7
                      obtain ⟨u1, u2, _⟩ := putN_spec _ _ _ _ hput
                      have hdl : (SV.dens ρ2 l').length = s := by rw [dens_length, u1, hls]
                      obtain ⟨cur, hcur, hcsz, hcl, fin⟩ := rowSet_ok q7 q8 j2 hdl hy
                      have hfit : j * s + s ≤ cur.size := by
                        have := Nat.mul_le_mul_right s (show j + 1 ≤ cap by omega)
                        rw [Nat.add_mul] at this; omega
                      have hst := run_storeCells_at C.P B (j * s + off) (un e) (SV.dens ρ vs) 0 cur w hcur (by rw [dens_length]; omega) (oneCells c2 ρ)
                      have hxs : xs = cur.toList.take (L.length * s) := by
                        rcases q3.2 with ⟨z1, _⟩ | ⟨g', c', cur', z1, _, z3, _, _, _, z7⟩
                        · rw [q2] at z1; cases z1
                        · rw [q2] at z1
                          injection z1 with z1
                          injection z1 with z1
                          injection z1 with z1
                          subst z1
                          rw [hcur] at z3
                          injection z3 with z3
                          injection z3 with z3
                          subst z3; exact z7.symm
                      have hjs : j * s + s ≤ L.length * s := by
                        have := Nat.mul_le_mul_right s (show j + 1 ≤ L.length by omega)
                        rw [Nat.add_mul] at this; omega
                      have hcs : (xs.drop (j * s)).take s = (cur.toList.drop (j * s)).take s := by
                        rw [hxs, List.drop_take, List.take_take, Nat.min_eq_left (by omega)]
                      have hds : SV.dens ρ2 l' = ((cur.toList.drop (j * s)).take s).take off ++ SV.dens ρ vs ++ ((cur.toList.drop (j * s)).take s).drop (off + vs.length) := by
                        rw [list_put hput ρ2, t1, hcs, SV.dens_app g1.le hvl]
                      have hlist : cur.toList.take (j * s + off + 0) ++ SV.dens ρ vs ++ cur.toList.drop (j * s + off + 0 + (SV.dens ρ vs).length) = cur.toList.take (j * s) ++ SV.dens ρ2 l' ++ cur.toList.drop (j * s + s) := by
                        rw [hds, dens_length, Nat.add_zero, List.take_add]
                        have e1 : List.take off (List.take s (List.drop (j * s) cur.toList)) = List.take off (List.drop (j * s) cur.toList) := by rw [List.take_take, Nat.min_eq_left (by omega)]
                        have e2 : cur.toList.drop (j * s + off + vs.length) = ((cur.toList.drop (j * s)).take s).drop (off + vs.length) ++ cur.toList.drop (j * s + s) := by
                          have e3 : cur.toList.drop (j * s) = (cur.toList.drop (j * s)).take s ++ cur.toList.drop (j * s + s) := by
                            rw [← List.drop_drop, List.take_append_drop]
                          have hl3 : ((cur.toList.drop (j * s)).take s).length = s := by
                            simp only [List.length_take, List.length_drop, Array.length_toList]; omega
                          rw [Nat.add_assoc, ← List.drop_drop]
                          conv => lhs; rw [e3]
                          rw [List.drop_append_of_le_length (by omega)]
                        rw [e1, e2]
                        simp only [List.append_assoc]
                      have hrow := fin (w.setRow B (cur.toList.take (j * s + off + 0) ++ SV.dens ρ vs ++ cur.toList.drop (j * s + off + 0 + (SV.dens ρ vs).length)).toArray) (by rw [← hlist]; exact setRow_heap w B cur _ (un e) _ hcur)
                      have d5' : y5.den ρ5.is = .row (L.set j (z.den ρ3'.is)) := by
                        rw [d5]
                        simp only [E.den]
                        rw [Env.A_app hle3' hxa, Env.I_app hle3' hia, q1, j3]
                        rfl
                      have d6' : y6.den ρ6.is = .row (lP.set jj (.row (L.set j (z.den ρ3'.is)))) := by
                        rw [d6]
                        simp only [E.den]
                        rw [Env.A_app (Env.le_trans hle3' l5) hPw, Env.I_app (Env.le_trans hle3' l5) haw, hlP, d5']
                        simp only [A.int, haa, Dt.int, Dt.list, Int.toNat_natCast]
                      have hmF := hm6.turn hpl hp6 (by rw [Env.A_app hle6 hPw]; exact hlP) hjj hV6 (setRow_grown w B _) (fun k hk => by rw [q2]; exact hk) (by rw [q2]; exact hrow) d6' w6
                      obtain ⟨te, hte, hth, hsz⟩ := sizeO_te hn
                      have hsv := run_storeVar hty hte hth (cellsOf_spec hvs ρ) (by rw [dens_length, beq_nat hl, hsz]) hst
                      refine wp_skip (w' := _) ?_ (hk ρ6 _ _ (.tup []) hle6 hmF (f6.trans f5) trivial h)
                      unfold execOp
                      simp only [ho, ev, eu, SV.den, Instr.storeAt, Instr.sureAddr, Sem.run_bind, Sem.run_pure, Result.andThen_ok, show ρ.rb b = B by simp only [Env.rb, q2], j3, hsv]
                · exact h.elim
              · exact h.elim
          · exact h.elim
      · exact h.elim
  · exact h.elim
theorem eStore_ok (hty : TyOk C.P C.ty) (hm : Md C.ty C.pl G fz0 w0 ρ st w) (ht : TmOk ρ st.ni st.nb tm a) {t : TypeId} {x y : Operand} (ho : o.op = .store t x y) (h : (eStore C tm st k t x y).wp C.ty F ρ.is Q) (hk : HK C.ty C.pl F Q G fz0 w0 ρ st a o.dst next k) : o.wp C.P a w next QE := by
  unfold eStore at h
  split at h
  · rename_i b off v hv hu
    have ev := evO_den ht hm.hpc hv
    have eu := evO_den ht hm.hpc hu
    have wu := evO_wf ht hu
    have tu := evO_ty ht hm.hpc hu
    split at h
    · rename_i vs n hvs hn
      cases hl : Nat.beq vs.length n <;> rw [hl] at h <;> simp only [cond_true, cond_false] at h
      · exact h.elim
      · split at h
        · rename_i mem hmem
          obtain ⟨q1, q2⟩ := cellsOf_wf hvs wu
          obtain ⟨te, hte, hth, hsz⟩ := sizeO_te hn
          obtain ⟨w', hr, hm'⟩ := wrMem_ok hm hmem q1 q2 (cellsOf_ty hvs tu)
          refine wp_skip (w' := w') ?_ (hk _ _ _ (.tup []) (Env.le_refl ρ) hm' rfl trivial h)
          have := run_storeVar hty hte hth (cellsOf_spec hvs ρ) (by rw [dens_length, beq_nat hl, hsz]) hr
          unfold execOp
          simp only [ho, ev, eu, SV.den, Instr.storeAt, Instr.sureAddr, Sem.run_bind, Sem.run_pure, Result.andThen_ok, this]
        · exact h.elim
    · exact h.elim
  · rename_i b s i off path v hv hu
    have ev := evO_den ht hm.hpc hv
    have eu := evO_den ht hm.hpc hu
    have wv := evO_wf ht hv
    have wu := evO_wf ht hu
    have tu := evO_ty ht hm.hpc hu
    simp only [SV.wf, Bool.and_eq_true] at wv
    split at h
    · rename_i vs n hvs hn
      cases hl : Nat.beq vs.length n <;> rw [hl] at h <;> simp only [cond_true, cond_false] at h
      · exact h.elim
      · split at h
        · rename_i e s' xa hb
          cases hkk : (Nat.beq s s' && Nat.blt 0 s && knownIs st.pc (.mkLt i (.n 0)) false && knownIs st.pc (.mkLt i xa.mkLen) true) <;> rw [hkk] at h <;> simp only [cond_true, cond_false] at h
          · exact h.elim
          · simp only [Bool.and_eq_true] at hkk
            obtain ⟨⟨⟨k1, k0⟩, k2⟩, k3⟩ := hkk
            have hs := beq_nat k1
            subst hs
            obtain ⟨hlt, hw, hgo, hok⟩ := hm.mem b _ hb
            simp only [SO.wf] at hw
            split at h
            · rename_i l d hmk
              cases hls : Nat.beq l.length s <;> rw [hls] at h <;> simp only [cond_true, cond_false] at h
              · exact h.elim
              · have hls := beq_nat hls
                split at h
                · rename_i l' hput
                  obtain ⟨j, j1, j2, j3⟩ := inRange hm.hpc (int_mkLen xa ρ.is) k2 k3
                  simp only [SO.ok] at hok
                  simp only [GhOk] at hgo
                  rcases hok with ⟨q1, _⟩ | ⟨L, B, cap, xs, q1, q2, q3, q4⟩
                  · rw [q1] at j2; simp [Dt.len] at j2
                  · rw [q1] at j2
                    simp only [Dt.len] at j2
                    have hB : ρ.b b = B := by
                      rcases hgo with ⟨g1, _⟩ | ⟨L', cap', g1, g2, _⟩
                      · rw [q1] at g1; cases g1
                      · rw [q2] at g2
                        injection g2 with g2; injection g2 with g2; injection g2 with g2; exact g2.symm
                    obtain ⟨p1, p2⟩ := repC_idx q4 (List.getElem?_eq_getElem j2)
                    obtain ⟨ρ2, g1, g2, g3, g4, g5⟩ := (mk_all (ty := C.ty) (ρ := ρ) 60).1 hmk hm.ext0 (cs := (xs.drop (j * s)).take s) (show (xa.mkIdx i).wf st.ni = true from wf_mkIdx hw wv.2) rfl (fun _ => by
                      rw [den_mkIdx, j3, q1]
                      simp only [Dt.idx, Dt.list]
                      rw [List.getD_eq_getElem?_getD, List.getElem?_eq_getElem j2]
                      exact p2)
                    obtain ⟨t1, t2⟩ := g3 rfl
                    obtain ⟨hm2, h⟩ := bindD_ok hm g1 h
                    obtain ⟨c1, c2⟩ := cellsOf_wf hvs wu
                    have hwv : SV.wfs (stD st d).ni (stD st d).nb vs = true := by
                      have := hm.tmok hm2 g1.le (tm := .e) (a := a) (fun i v h => by rw [Tb.get_e] at h; cases h)
                      have le1 := g1.le.len_is
                      have le2 := g1.le.len_bs
                      rw [hm.hni, hm2.hni] at le1
                      rw [hm.hnb, hm2.hnb] at le2
                      exact SV.wfs_mono le1 le2 c1
                    have hvl : SV.wfs ρ.is.length ρ.bs.length vs = true := by rw [hm.hni, hm.hnb]; exact c1
                    have hmem' : ∀ v ∈ l', v ∈ vs ∨ v ∈ l := putN_mem hput
                    split at h
                    · rename_i z f hz
                      obtain ⟨ρ3, ρ3', r1, r2, r3, r4, r5, r6, r7⟩ := (toD_all hty 60).1 hz hm2.fsR hm2.hpc hm2.hpw
                        (wfs_of_mem fun v hv => (hmem' v hv).elim (wfs_mem hwv v) (wfs_mem g4 v))
                        (allCell_of_mem fun v hv => (hmem' v hv).elim (allCell_mem c2 v) (allCell_mem g5 v))
                        (tys_of_mem fun v hv => (hmem' v hv).elim (tys_mem (SV.tys_app g1.le hvl (cellsOf_ty hvs tu)) v) (tys_mem t2 v))
                      split at h
                      · rename_i e2 s2 x2 hb2
                        cases heq : (Nat.beq e e2 && Nat.beq s s2 && xa.beq x2) <;> rw [heq] at h <;> simp only [cond_true, cond_false] at h
                        · exact h.elim
                        · simp only [Bool.and_eq_true] at heq
                          have h1 := beq_nat heq.1.1
                          have h2 := beq_nat heq.1.2
                          have h3 := A.beq_eq heq.2
                          subst h1; subst h2; subst h3
                          obtain ⟨ρ4, hq1, hq2, hq3, hq4⟩ := r1.he.bind (.set xa i z)
                          obtain ⟨hm4, h⟩ := bindF_ok (f := ⟨(f.d.bind (.set xa i z)).2, f.mem⟩) h ⟨r1.hm, hq1⟩ r2
                          have hle3 : ρ.le ρ3 := Env.le_trans g1.le r2.le
                          have hle4 : ρ.le ρ4 := Env.le_trans (Env.le_trans hle3 r1.he.le) hq2
                          have hxa : xa.wf ρ.is.length = true := by rw [hm.hni]; exact hw
                          have hia : i.wf ρ.is.length = true := by rw [hm.hni]; exact wv.2
                          have hbl : b < ρ.bs.length := by rw [hm.hnb]; exact hlt
                          have hb4 : (stD { stD st d with mem := f.mem } (f.d.bind (.set xa i z)).2).mem.get b = some (.rowd e s xa) := by
                            have hgs : (f.d.bind (E.set xa i z)).2.gs = [] := by
                              have : (f.d.bind (E.set xa i z)).2.gs = f.d.gs := by
                                unfold Bd.bind Bd.bindT
                                cases (E.set xa i z).lit <;> rfl
                              rw [this, r4]; rfl
                            simp only [stD, hgs, pushG]
                            exact hb2
                          obtain ⟨_, hw4, hgo4, hok4⟩ := hm4.mem b _ hb4
                          simp only [SO.ok, Env.val_app hle4 hbl, Env.A_app hle4 hxa, q1, q2] at hok4
                          rcases hok4 with ⟨q5, _⟩ | ⟨L4, B4, cap4, xs4, q5, q6, q7, q8⟩
                          · cases q5
                          · cases q5
                            injection q6 with q6 _ q6'
                            injection q6 with q6
                            injection q6 with q6
                            subst q6; subst q6'
                            have hy : rep C.ty ρ4.fz (z.den ρ3'.is) e (SV.dens ρ2 l') := by rw [hq1.fz]; exact r7
                            obtain ⟨u1, u2, _⟩ := putN_spec _ _ _ _ hput
                            have hdl : (SV.dens ρ2 l').length = s := by rw [dens_length, u1, hls]
                            obtain ⟨cur, hcur, hcsz, hcl, fin⟩ := rowSet_ok q7 q8 j2 hdl hy
                            have hfit : j * s + s ≤ cur.size := by
                              have := Nat.mul_le_mul_right s (show j + 1 ≤ cap by omega)
                              rw [Nat.add_mul] at this; omega
                            have hst := run_storeCells_at C.P B (j * s + off) (un e) (SV.dens ρ vs) 0 cur w hcur (by rw [dens_length]; omega) (oneCells c2 ρ)
                            have hxs : xs = cur.toList.take (L.length * s) := by
                              rcases q3.2 with ⟨z1, _⟩ | ⟨g', c', cur', z1, _, z3, _, _, _, z7⟩
                              · rw [q2] at z1; cases z1
                              · rw [q2] at z1
                                injection z1 with z1
                                injection z1 with z1
                                injection z1 with z1
                                subst z1
                                rw [hcur] at z3
                                injection z3 with z3
                                injection z3 with z3
                                subst z3; exact z7.symm
                            have hjs : j * s + s ≤ L.length * s := by
                              have := Nat.mul_le_mul_right s (show j + 1 ≤ L.length by omega)
                              rw [Nat.add_mul] at this; omega
                            have hcs : (xs.drop (j * s)).take s = (cur.toList.drop (j * s)).take s := by
                              rw [hxs, List.drop_take, List.take_take, Nat.min_eq_left (by omega)]
                            have hds : SV.dens ρ2 l' = ((cur.toList.drop (j * s)).take s).take off ++ SV.dens ρ vs ++ ((cur.toList.drop (j * s)).take s).drop (off + vs.length) := by
                              rw [list_put hput ρ2, t1, hcs, SV.dens_app g1.le hvl]
                            have hlist : cur.toList.take (j * s + off + 0) ++ SV.dens ρ vs ++ cur.toList.drop (j * s + off + 0 + (SV.dens ρ vs).length) = cur.toList.take (j * s) ++ SV.dens ρ2 l' ++ cur.toList.drop (j * s + s) := by
                              rw [hds, dens_length, Nat.add_zero, List.take_add]
                              have e1 : List.take off (List.take s (List.drop (j * s) cur.toList)) = List.take off (List.drop (j * s) cur.toList) := by rw [List.take_take, Nat.min_eq_left (by omega)]
                              have e2 : cur.toList.drop (j * s + off + vs.length) = ((cur.toList.drop (j * s)).take s).drop (off + vs.length) ++ cur.toList.drop (j * s + s) := by
                                have e3 : cur.toList.drop (j * s) = (cur.toList.drop (j * s)).take s ++ cur.toList.drop (j * s + s) := by
                                  rw [← List.drop_drop, List.take_append_drop]
                                have hl3 : ((cur.toList.drop (j * s)).take s).length = s := by
                                  simp only [List.length_take, List.length_drop, Array.length_toList]; omega
                                rw [Nat.add_assoc, ← List.drop_drop]
                                conv => lhs; rw [e3]
                                rw [List.drop_append_of_le_length (by omega)]
                              rw [e1, e2]
                              simp only [List.append_assoc]
                            have hrow := fin (w.setRow B (cur.toList.take (j * s + off + 0) ++ SV.dens ρ vs ++ cur.toList.drop (j * s + off + 0 + (SV.dens ρ vs).length)).toArray) (by rw [← hlist]; exact setRow_heap w B cur _ (un e) _ hcur)
                            have hset : (f.d.bind (.set xa i z)).1.den ρ4.is = .row (L.set j (z.den ρ3'.is)) := by
                              have hle3' := Env.le_trans hle3 r1.he.le
                              rw [hq3]
                              simp only [E.den]
                              rw [Env.A_app hle3' hxa, Env.I_app hle3' hia, q1, j3]
                              rfl
                            have hmF := hm4.upd hb4 (o' := .rowd e s (f.d.bind (.set xa i z)).1) (w' := w.setRow B (cur.toList.take (j * s + off + 0) ++ SV.dens ρ vs ++ cur.toList.drop (j * s + off + 0 + (SV.dens ρ vs).length)).toArray) (setRow_grown w B _) (fun k hk => by
                                simp only [foot, Env.val_app hle4 hbl, q2, Value.ownBlock]
                                exact hk) hq4 (.inr ⟨_, cap, hset, by rw [Env.val_app hle4 hbl, q2, Env.b_app hle4 hbl, hB, List.length_set], by
                                rw [List.length_set]
                                simp only [GhOk, Env.A_app hle4 hxa, q1, Env.val_app hle4 hbl] at hgo4
                                rcases hgo4 with ⟨z1, _⟩ | ⟨L', _, z1, _, z3⟩
                                · cases z1
                                · cases z1; exact z3⟩) (by
                                simp only [SO.ok, hset, Env.val_app hle4 hbl, q2]
                                exact hrow) (fun k hk => hk)
                            obtain ⟨te, hte, hth, hsz⟩ := sizeO_te hn
                            have hsv := run_storeVar hty hte hth (cellsOf_spec hvs ρ) (by rw [dens_length, beq_nat hl, hsz]) hst
                            refine wp_skip (w' := _) ?_ (hk ρ4 _ _ (.tup []) hle4 hmF rfl trivial h)
                            unfold execOp
                            simp only [ho, ev, eu, SV.den, Instr.storeAt, Instr.sureAddr, Sem.run_bind, Sem.run_pure, Result.andThen_ok, show ρ.rb b = B by simp only [Env.rb, q2], j3, hsv]
                      · exact h.elim
                    · exact h.elim
                · exact h.elim
            · exact h.elim
        · exact storeH_ok hty hm ho ev eu wv wu tu hvs hn hl h hk
    · exact h.elim
  · exact h.elim
end
end Go.SY
