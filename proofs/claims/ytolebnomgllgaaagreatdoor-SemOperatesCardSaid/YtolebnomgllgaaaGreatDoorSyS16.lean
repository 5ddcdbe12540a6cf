/- The symbolic executor SY, its soundness, part 16: appended, copied and new rows; bytes. -/
import Derived.Test.YtolebnomgllgaaaGreatDoorSyS15
import Derived.Laws.MakeOwn
set_option linter.unusedVariables false
set_option linter.unusedSimpArgs false
namespace Go.SY
open Go Go.RowKit
noncomputable section
variable {F : Nat → List Dt → Post → Prop} {Q : Post}
variable {C : Cfg} {G : Nat → Prop} {fz0 : Fz} {w0 w w' : World} {ρ ρ' ρ1 ρ1' : Env} {st : St} {d : Bd} {tm : Tm} {a : Act} {o : Oper} {k : SV → St → T} {next : Act → World → Prop} {QE : Exit → Act → World → Prop}
theorem srcCells (hty : TyOk C.P C.ty) (hm : Md C.ty C.pl G fz0 w0 ρ st w) {t e n : Nat} (ht : tdOf C.ty t = .slice e n) {x : SV} {ax : A} (h : slA C.ty st.mem st.pc t x = some ax) :
    (ax.den ρ.is = .nil ∧ x.den ρ = .slice none 0 0) ∨ ∃ L ad cap news, ax.den ρ.is = .row L ∧ x.den ρ = .slice (some ad) L.length cap ∧ repC C.ty ρ.fz L e n news ∧ ∀ j u, news[j]? = some u → w.cell? (ad.add j) = some u := by
  unfold slA at h
  split at h
  · cases h; exact .inl ⟨rfl, rfl⟩
  · rename_i b
    split at h
    · rename_i c t' xa e' s' hb htd
      rw [ht] at htd
      cases htd
      obtain ⟨_, hw, hg, _⟩ := hm.mem b _ hb
      split at h
      · rename_i e'' s'' ht'
        cases hk : (Nat.beq e e'' && knownIs st.pc c true) <;> rw [hk] at h <;> simp only [cond_true, cond_false] at h <;> cases h
        simp only [Bool.and_eq_true] at hk
        have := beq_nat hk.1
        subst this
        have hr := rep_retype hty ht ht' (hg (knownIs_ok hm.hpc hk.2))
        rcases rep_slice ht hr with ⟨h1, h2⟩ | ⟨L, B, off, sp, cap, h1, h2, _, _, h5, h6⟩
        · injection h2 with h2; exact .inl ⟨h1, h2⟩
        · injection h2 with h2
          obtain ⟨cs, c1, c2⟩ := repL_cells h5
          refine .inr ⟨L, _, cap, cs, h1, h2, c2, fun j u hj => ?_⟩
          rcases h6 with rfl | rfl
          · rw [add_plain]; exact c1.cell hm.fzw j u hj
          · simp only [repC] at c2; subst c2; simp at hj
      · cases h
    · rename_i e' s' xa e'' s'' hb htd
      rw [ht] at htd
      cases htd
      obtain ⟨_, hw, hg, hok⟩ := hm.mem b _ hb
      cases hk : (Nat.beq e e' && Nat.beq n s') <;> rw [hk] at h <;> simp only [cond_true, cond_false] at h <;> cases h
      simp only [Bool.and_eq_true] at hk
      have h1 := beq_nat hk.1
      have h2 := beq_nat hk.2
      subst h1; subst h2
      simp only [SO.ok] at hok
      rcases hok with ⟨q1, q2⟩ | ⟨L, B, cap, xs, q1, q2, q3, q4⟩
      · exact .inl ⟨q1, q2⟩
      · exact .inr ⟨L, _, cap, xs, q1, q2, q4, q3.cells (g := B) (by rw [q2]; rfl)⟩
    · cases h
  · cases h
theorem elemFit_ok (hty : TyOk C.P C.ty) {e n : Nat} (h : elemFit C.ty e n = true) : ∃ i z, C.P.info? e = some i ∧ i.zero = some z ∧ i.size = n ∧ z.cells.size = n ∧ 0 < n ∧ i.bytes ≤ 65536 := by
  unfold elemFit at h
  split at h
  · rename_i te hte
    simp only [Bool.and_eq_true] at h
    obtain ⟨⟨⟨h1, h2⟩, h3⟩, h4⟩ := h
    unfold zlen at h4
    split at h4
    · rename_i z hzz
      obtain ⟨dd, i, hu, hi, hmt, hs, hb, hz⟩ := hty.info hte (hty.infoZ hte hzz)
      obtain ⟨v, hv, hvc, _⟩ := hz z hzz
      have e1 := beq_nat h1
      refine ⟨i, v, hi, hv, by omega, ?_, by have := blt_nat h2; omega, by have := ble_nat h3; omega⟩
      have := congrArg Array.size (ofVals_den hvc E0)
      simp [dens_length] at this
      have := beq_nat h4
      omega
    · cases h4
  · cases h
theorem fresh_put (hm : Md C.ty C.pl G fz0 w0 ρ st w) {i k : Nat} (hk : w.heap.size ≤ k) : (w0.heap.size ≤ k ∨ G k) ∧ ρ.fz k = none ∧ ∀ j oj, (st.mem.put i .gone).get j = some oj → ¬ foot ρ j oj k := by
  obtain ⟨h1, h2, h3⟩ := fresh_ok hm hk
  refine ⟨h1, h2, fun j oj hj e => ?_⟩
  rcases Tb.get_put hj with ⟨rfl, rfl⟩ | ⟨hne, hj'⟩
  · cases e
  · exact h3 j oj hj' e
theorem append_ok (hty : TyOk C.P C.ty) {t e n : Nat} (ht : tdOf C.ty t = .slice e n) (hfit : elemFit C.ty (un e) n = true) {fz : Fz} {A X : Dt} {V XV : Value} (hr : RowOk C.ty fz w e n A V)
    (hx : (X = .nil ∧ XV = .slice none 0 0) ∨ ∃ L ad cap news, X = .row L ∧ XV = .slice (some ad) L.length cap ∧ repC C.ty fz L e n news ∧ ∀ j u, news[j]? = some u → w.cell? (ad.add j) = some u) (hlen : (A.cat X).len < 2147483648) (rt : TypeId) :
    ∃ V' w', (Builtin.append_ #[t, t] rt #[V, XV]).run C.P w = .ok V' w' ∧ RowOk C.ty fz w' e n (A.cat X) V' ∧ w.grownBy w' V.ownBlock ∧ (V'.ownBlock = V.ownBlock ∨ V'.ownBlock = some w.heap.size) := by
  obtain ⟨_, d1, _, _, _, hu1, _, hm1, _⟩ := tdOf_info hty ht (by simp)
  obtain ⟨rfl, _⟩ := mkTD_slice hm1
  obtain ⟨i, z, hi, hz, hsz, hzs, hn0, hby⟩ := elemFit_ok hty hfit
  have hown : ∃ m xs, w.ownsRow 0 (un e) n V m xs ∧ repC C.ty fz A.list e n xs ∧ m = A.list.length ∧ (A = .nil ∧ V = .slice none 0 0 ∨ ∃ l, A = .row l ∧ V ≠ .slice none 0 0) := by
    rcases hr with ⟨rfl, rfl⟩ | ⟨l, b, cap, xs, rfl, rfl, h3, h4⟩
    · exact ⟨0, [], World.ownsRow_nil w 0 (un e) n, rfl, rfl, .inl ⟨rfl, rfl⟩⟩
    · exact ⟨_, xs, h3, h4, rfl, .inr ⟨l, rfl, by simp⟩⟩
  obtain ⟨m, xs, ho, hc, rfl, hsh⟩ := hown
  rcases hx with ⟨rfl, rfl⟩ | ⟨L, ad, cap, news, rfl, rfl, hnr, hnc⟩
  · refine ⟨V, w, run_append_owned_none (P := C.P) (w := w) 0 t rt (un e) i n hu1 hi V _ xs ho, ?_, World.grownBy.refl w _, .inl rfl⟩
    rcases hr with ⟨rfl, rfl⟩ | ⟨l, b, cap, xs', rfl, rfl, h3, h4⟩
    · exact .inl ⟨rfl, rfl⟩
    · refine .inr ⟨l, b, cap, xs', ?_, rfl, h3, h4⟩
      simp [Dt.cat, Dt.list]
  · have hlen' : A.list.length + L.length < 2147483648 := by
      rcases hsh with ⟨rfl, _⟩ | ⟨l, rfl, _⟩
      · cases L with
        | nil => simp [Dt.list]
        | cons y L => simpa [Dt.cat, Dt.list, Dt.len] using hlen
      · simpa [Dt.cat, Dt.list, Dt.len] using hlen
    obtain ⟨V', w', hrun, q1, q2, q3, q4⟩ := run_append_own_at (P := C.P) w 0 t rt (un e) i z n i.bytes hu1 hi hz hsz rfl hzs hn0 V A.list.length xs ho ad L.length cap news (repC_len hnr) hnc (repC_one hnr)
      (by simp only [maxLen]; omega) (by
        have : (A.list.length + L.length) * i.bytes ≤ 2147483648 * 65536 := Nat.mul_le_mul (by omega) hby
        omega) (Nat.zero_le _)
    refine ⟨V', w', hrun, ?_, q2, q4⟩
    have hcc := repC_append hc hnr
    by_cases hnil : V' = .slice none 0 0
    · obtain ⟨e1, e2⟩ := q3.1 hnil
      rcases hsh with ⟨rfl, _⟩ | ⟨l, _, h⟩
      · have : L = [] := List.eq_nil_of_length_eq_zero e2
        subst this
        exact .inl ⟨rfl, hnil⟩
      · exact absurd e1 h
    · rcases q1.2 with ⟨h1, _⟩ | ⟨g, c, cur, h1, _⟩
      · exact absurd h1 hnil
      · have hcat : A.cat (.row L) = .row (A.list ++ L) := by
          rcases hsh with ⟨rfl, hv⟩ | ⟨l, rfl, _⟩
          · cases L with
            | nil => exact absurd (q3.2 ⟨hv, rfl⟩) hnil
            | cons y L => rfl
          · rfl
        refine .inr ⟨A.list ++ L, g, c, xs ++ news, hcat, by rw [h1, List.length_append], by rw [List.length_append]; exact q1, hcc⟩
theorem append_nothing (hty : TyOk C.P C.ty) {t e n : Nat} (ht : tdOf C.ty t = .slice e n) {V XV : Value} (hV : V = .slice none 0 0 ∨ ∃ ad l cap, V = .slice (some ad) l cap ∧ l ≤ cap) (hX : XV = .slice none 0 0 ∨ ∃ ad cap, XV = .slice (some ad) 0 cap) (rt : TypeId) (w : World) :
    (Builtin.append_ #[t, t] rt #[V, XV]).run C.P w = .ok V w := by
  obtain ⟨_, d1, _, _, _, hu1, _, hm1, _⟩ := tdOf_info hty ht (by simp)
  obtain ⟨rfl, i, hi, _⟩ := mkTD_slice hm1
  rcases hV with rfl | ⟨ad, l, cap, rfl, hlc⟩ <;> rcases hX with rfl | ⟨ad', cap', rfl⟩
  · simp [Builtin.append_, run_underlying hu1, sizeOf, typeInfo, hi, Builtin.lenOf, Builtin.firstCells]
  · simp [Builtin.append_, run_underlying hu1, sizeOf, typeInfo, hi, Builtin.lenOf, Builtin.firstCells, loadCells, loadCellsFrom]
  · simp [Builtin.append_, run_underlying hu1, sizeOf, typeInfo, hi, Builtin.lenOf, Builtin.firstCells, hlc, storeCells]
  · simp [Builtin.append_, run_underlying hu1, sizeOf, typeInfo, hi, Builtin.lenOf, Builtin.firstCells, hlc, storeCells, loadCells, loadCellsFrom]
theorem eAppend_ok (hty : TyOk C.P C.ty) (hm : Md C.ty C.pl G fz0 w0 ρ st w) {t t' : TypeId} {s x : SV} (hsw : s.wf st.ni st.nb = true)
    (hop : ∀ v w', t = t' → (Builtin.append_ #[t, t] o.type #[s.den ρ, x.den ρ]).run C.P w = .ok v w' → (execOp a.eval o).run C.P w = .ok (.value v) w')
    (h : (eAppend C st k t t' s x).wp C.ty F ρ.is Q) (hk : HK C.ty C.pl F Q G fz0 w0 ρ st a o.dst next k) : o.wp C.P a w next QE := by
  unfold eAppend at h
  split at h
  · rename_i e n htd
    cases hf : (elemFit C.ty (un e) n && Nat.beq t t') <;> rw [hf] at h <;> simp only [cond_true, cond_false] at h
    · exact h.elim
    · simp only [Bool.and_eq_true] at hf
      have htt := beq_nat hf.2
      split at h
      · rename_i ax hax
        have hsrc := srcCells hty hm htd hax
        have wax := slA_wf hm.gmem hax
        split at h
        · obtain ⟨ρ1, q1, q2, q3, q4⟩ := hm.ext0.bind (.cat (.d .nil) ax)
          obtain ⟨hm1, h⟩ := bindD_ok hm q1 h
          obtain ⟨b, p, hb, hm2, h⟩ := condB_ok hm1 h
          rw [B.den_mkLt] at hb
          cases b <;> simp only [cond_true, cond_false] at h
          · exact h.elim
          · have hb := of_decide_eq_true hb
            rw [int_mkLen, q3, int_n] at hb
            obtain ⟨V', w', r1, r2, r3, r4⟩ := append_ok (w := w) hty htd hf.1 (fz := ρ.fz) (A := .nil) (V := .slice none 0 0) (.inl ⟨rfl, rfl⟩) hsrc (by
              have : ((E.cat (.d .nil) ax).den ρ.is).len < 2147483648 := by omega
              exact this) o.type
            obtain ⟨ρ2, k1, k2, k3, k4⟩ := newRow_ok (hm2.later r3) h (V := V') (by rw [q3, q1.fz]; exact r2) (fun kk hkk => by
              rcases r4 with r4 | r4
              · rw [r4] at hkk; cases hkk
              · rw [r4] at hkk; cases hkk; exact fresh_ok hm2 (Nat.le_refl _))
            refine wp_value (hop V' w' htt r1) ?_
            rw [← k2]
            exact hk ρ2 _ _ (.sl _) (Env.le_trans q2 k1) k3 rfl trivial k4
        · rename_i b
          split at h
          · rename_i e' n' xa hb0
            cases hen : (Nat.beq e e' && Nat.beq n n') <;> rw [hen] at h <;> simp only [cond_true, cond_false] at h
            · exact h.elim
            · simp only [Bool.and_eq_true] at hen
              have e1 := beq_nat hen.1
              have e2 := beq_nat hen.2
              subst e1; subst e2
              obtain ⟨hlt, hw, hgo, hok⟩ := hm.mem b _ hb0
              simp only [SO.ok] at hok
              obtain ⟨ρ1, q1, q2, q3, q4⟩ := hm.ext0.bind (.cat xa ax)
              obtain ⟨hm1, h⟩ := bindD_ok hm q1 h
              obtain ⟨bb, p, hb, hm2, h⟩ := condB_ok hm1 h
              rw [B.den_mkLt] at hb
              cases bb <;> simp only [cond_true, cond_false] at h
              · exact h.elim
              · have hb := of_decide_eq_true hb
                rw [int_mkLen, q3, int_n] at hb
                obtain ⟨V', w', r1, r2, r3, r4⟩ := append_ok (w := w) hty htd hf.1 (fz := ρ.fz) hok hsrc (by
                  have : ((E.cat xa ax).den ρ.is).len < 2147483648 := by omega
                  exact this) o.type
                have hgs : (st.bd.bind (.cat xa ax)).2.gs = [] := by
                  unfold Bd.bind Bd.bindT
                  cases (E.cat xa ax).lit <;> rfl
                have hb2 : (stD st (st.bd.bind (.cat xa ax)).2).mem.get b = some (.rowd e n xa) := by simp only [stD, hgs, pushG]; exact hb0
                have hfoot : ∀ k, (ρ.val b).ownBlock = some k → foot ρ1 b (.rowd e n xa) k := fun k hk => by simp only [foot, Env.val_app q2 (show b < ρ.bs.length by rw [hm.hnb]; exact hlt)]; exact hk
                have hmg := hm2.goneLater (w' := w') hb2 r3 hfoot
                obtain ⟨ρ2, k1, k2, k3, k4⟩ := newRow_ok hmg h (V := V') (by rw [q3, q1.fz]; exact r2) (fun kk hkk => by
                  rcases r4 with r4 | r4
                  · exact freed_ok hm2 hb2 (hfoot _ (by rw [← r4]; exact hkk))
                  · rw [r4] at hkk; cases hkk; exact fresh_put hm2 (Nat.le_refl _))
                refine wp_value (hop V' w' htt r1) ?_
                rw [← k2]
                exact hk ρ2 _ _ (.sl _) (Env.le_trans q2 k1) k3 rfl trivial k4
          · rename_i c t2 xa hb0
            split at h
            · rename_i e2 s2 ht2
              cases hc : knownIs st.pc c true <;> rw [hc] at h <;> simp only [cond_true, cond_false] at h
              · exact h.elim
              · obtain ⟨q, p, hq, hm2, h⟩ := condB_ok hm h
                cases q <;> simp only [cond_true, cond_false] at h
                · exact h.elim
                · rw [B.den_mkEq] at hq
                  have hq : ax.mkLen.int ρ.is = (A.n 0).int ρ.is := by simpa using hq
                  rw [int_mkLen, int_n] at hq
                  obtain ⟨_, _, hgo, _⟩ := hm.mem b _ hb0
                  have hrep := rep_slice ht2 (hgo (knownIs_ok hm.hpc hc))
                  have hrun := append_nothing (C := C) hty htd (V := ρ.val b) (XV := x.den ρ) (by
                    rcases hrep with ⟨_, h2⟩ | ⟨l, B, off, sp, cap, _, h2, _, h4, _⟩
                    · injection h2 with h2; exact .inl h2
                    · injection h2 with h2; exact .inr ⟨_, _, _, h2, h4⟩) (by
                    rcases hsrc with ⟨_, h2⟩ | ⟨L, ad, cap, news, h1, h2, _⟩
                    · exact .inl h2
                    · rw [h1] at hq
                      simp only [Dt.len] at hq
                      have : L.length = 0 := by omega
                      rw [this] at h2
                      exact .inr ⟨_, _, h2⟩) o.type w
                  exact wp_value (hop _ _ htt hrun) (hk ρ _ _ (.sl b) (Env.le_refl ρ) hm2 rfl trivial h)
            · exact h.elim
          · exact h.elim
        · exact h.elim
      · exact h.elim
  · exact h.elim
theorem repC_drop {ty : Ty} {fz : Fz} {e s : Nat} : ∀ {l : List Dt} {cs : List Value} (h : Nat), repC ty fz l e s cs → repC ty fz (l.drop h) e s (cs.drop (h * s))
  | l, cs, 0, hr => by simpa using hr
  | [], cs, h + 1, hr => by
    simp only [repC] at hr
    subst hr
    simp [repC]
  | x :: l, cs, h + 1, hr => by
    simp only [repC] at hr
    have := repC_drop h hr.2.2
    rw [List.drop_drop, show s + h * s = (h + 1) * s by rw [Nat.add_mul]; omega] at this
    simpa using this
theorem copy_ok (hty : TyOk C.P C.ty) {t e : Nat} (ht : tdOf C.ty t = .slice e 1) {fz : Fz} {A X : Dt} {V XV : Value} (hr : RowOk C.ty fz w e 1 A V)
    (hx : (X = .nil ∧ XV = .slice none 0 0) ∨ ∃ L ad cap news, X = .row L ∧ XV = .slice (some ad) L.length cap ∧ repC C.ty fz L e 1 news ∧ ∀ j u, news[j]? = some u → w.cell? (ad.add j) = some u) (rt : TypeId) :
    ∃ w', (Builtin.copy_ #[t, t] rt #[V, XV]).run C.P w = .ok (goInt ((min X.len A.len : Nat) : Int)) w' ∧ RowOk C.ty fz w' e 1 (A.cpy X) V ∧ w.grownBy w' V.ownBlock := by
  obtain ⟨_, d1, _, _, _, hu1, _, hm1, _⟩ := tdOf_info hty ht (by simp)
  obtain ⟨rfl, i, hi, hsz⟩ := mkTD_slice hm1
  rcases hr with ⟨rfl, rfl⟩ | ⟨l, b, cap, xs, rfl, rfl, h3, h4⟩
  · refine ⟨w, ?_, .inl ⟨rfl, rfl⟩, World.grownBy.refl w _⟩
    rcases hx with ⟨rfl, rfl⟩ | ⟨L, ad, cap, news, rfl, rfl, hnr, hnc⟩
    · simp [Builtin.copy_, run_underlying hu1, Builtin.lenOf, Builtin.firstCells, sizeOf, typeInfo, hi, Dt.len, goInt]
    · simp [Builtin.copy_, run_underlying hu1, Builtin.lenOf, Builtin.firstCells, sizeOf, typeInfo, hi, Dt.len, goInt, loadCells, loadCellsFrom]
  · have h3' := h3
    rcases h3'.2 with ⟨z1, _⟩ | ⟨g, c, cur, z1, z2, z3, z4, z5, z6, z7⟩
    · cases z1
    · injection z1 with z1 _ z1'
      injection z1 with z1
      injection z1 with z1
      subst z1; subst z1'
      rcases hx with ⟨rfl, rfl⟩ | ⟨L, ad, cap', news, rfl, rfl, hnr, hnc⟩
      · refine ⟨w, ?_, .inr ⟨l, b, cap, xs, by simp [Dt.cpy, Dt.list], rfl, h3, h4⟩, World.grownBy.refl w _⟩
        rw [run_copy_nil (P := C.P) w t t rt (un e) _ _ _ hu1 (by rw [hi]; rfl)]
        simp [Dt.len]
      · have hln := repC_len hnr
        rw [Nat.mul_one] at hln
        have hmin : Nat.min L.length l.length = min L.length l.length := rfl
        have hcl : (news.take (min L.length l.length)).length = min L.length l.length := by rw [List.length_take, hln]; omega
        have hfit : l.length ≤ cur.size := by rw [z6]; omega
        have hrun := run_copy_row (P := C.P) w t t rt (un e) b 0 l.length cap ad L.length cap' cur (un e) (news.take (min L.length l.length)) hu1 (by simp [hi, hsz]) z3 (by rw [hcl]) (fun j u hj => by
          rw [List.getElem?_take] at hj
          split at hj
          · exact hnc j u hj
          · cases hj) (by rw [hcl]; omega) (fun u hu => repC_one hnr u (List.mem_of_mem_take hu))
        rw [hcl] at hrun
        refine ⟨_, hrun, ?_, setRow_grown w b _⟩
        have hA : (Dt.row l).cpy (.row L) = .row (L.take l.length ++ l.drop L.length) := rfl
        have hll : (L.take l.length ++ l.drop L.length).length = l.length := by simp; omega
        have hrep := repC_append (repC_take l.length hnr) (repC_drop L.length h4)
        rw [Nat.mul_one, Nat.mul_one] at hrep
        have e1 : news.take (min L.length l.length) = news.take l.length := by
          rw [show min L.length l.length = min l.length L.length from Nat.min_comm _ _, ← List.take_take, List.take_of_length_le (l := news) (by omega)]
        have hxl : xs.length = l.length := by have := h3.1; omega
        have e2 : xs.drop (min L.length l.length) = xs.drop L.length := by
          by_cases hh : L.length ≤ l.length
          · rw [Nat.min_eq_left hh]
          · rw [Nat.min_eq_right (by omega), List.drop_of_length_le (by omega), List.drop_of_length_le (by omega)]
        have hcur : (cur.toList.take 0 ++ news.take (min L.length l.length) ++ cur.toList.drop (0 + min L.length l.length)).take (l.length * 1) = news.take l.length ++ xs.drop L.length := by
          rw [List.take_zero, List.nil_append, Nat.zero_add, Nat.mul_one, List.take_append, hcl, List.take_of_length_le (by rw [hcl]; omega), e1, ← e2, ← z7, Nat.mul_one, List.drop_take]
        refine .inr ⟨_, b, cap, _, hA, by rw [hll], ⟨?_, .inr ⟨b, cap, _, by rw [hll], Nat.zero_le _, setRow_heap w b cur _ (un e) _ z3, by rw [hll]; exact z4, z5, ?_, rfl⟩⟩, ?_⟩
        · rw [hll]
          simp only [List.length_take, List.length_append, List.length_drop, Array.length_toList, hcl, z6, Nat.mul_one, hln]
          omega
        · simp only [List.size_toArray, List.length_append, List.length_take, List.length_drop, Array.length_toList, hcl, z6, hln]
          omega
        · rw [hll]
          rw [show (cur.toList.take 0 ++ news.take (min L.length l.length) ++ cur.toList.drop (0 + min L.length l.length)).toArray.toList = cur.toList.take 0 ++ news.take (min L.length l.length) ++ cur.toList.drop (0 + min L.length l.length) from rfl, hcur]
          exact hrep
end
end Go.SY
