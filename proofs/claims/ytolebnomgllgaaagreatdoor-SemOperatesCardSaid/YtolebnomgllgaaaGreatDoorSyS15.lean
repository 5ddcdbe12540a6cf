/- The symbolic executor SY, its soundness, part 15: indexes, divisions, choices; parts of slices; new rows. -/
import Derived.Test.YtolebnomgllgaaaGreatDoorSyS14
set_option linter.unusedVariables false
set_option linter.unusedSimpArgs false
namespace Go.SY
open Go Go.RowKit
noncomputable section
variable {F : Nat → List Dt → Post → Prop} {Q : Post}
variable {C : Cfg} {G : Nat → Prop} {fz0 : Fz} {w0 w w' : World} {ρ ρ' ρ1 ρ1' : Env} {st : St} {d : Bd} {tm : Tm} {a : Act} {o : Oper} {k : SV → St → T} {next : Act → World → Prop} {QE : Exit → Act → World → Prop}
theorem enumI_ok {x : A} {kk : Nat → St → T} : ∀ (n j : Nat) {st : St}, Md C.ty C.pl G fz0 w0 ρ st w → (enumI x st kk n j).wp C.ty F ρ.is Q → ∃ i p, j ≤ i ∧ i < j + n ∧ x.int ρ.is = (i : Int) ∧ Md C.ty C.pl G fz0 w0 ρ { st with pc := p } w ∧ (kk i { st with pc := p }).wp C.ty F ρ.is Q
  | 0, j, st, hm, h => h.elim
  | n + 1, j, st, hm, h => by
    simp only [enumI] at h
    obtain ⟨b, p, hb, hm', hd⟩ := condB_ok hm h
    cases b
    · simp only [cond_false] at hd
      obtain ⟨i, p', h1, h2, h3, h4, h5⟩ := enumI_ok n (j + 1) hm' hd
      exact ⟨i, p', by omega, by omega, h3, h4, h5⟩
    · simp only [cond_true] at hd
      refine ⟨j, p, Nat.le_refl _, by omega, ?_, hm', hd⟩
      rw [B.den_mkEq] at hb
      simpa [int_n] using hb
theorem eIndexAddr_ok (hty : TyOk C.P C.ty) (hm : Md C.ty C.pl G fz0 w0 ρ st w) (ht : TmOk ρ st.ni st.nb tm a) {t : TypeId} {x i : Operand} (ho : o.op = .indexAddr t x i) (h : (eIndexAddr C tm st k t x i).wp C.ty F ρ.is Q) (hk : HK C.ty C.pl F Q G fz0 w0 ρ st a o.dst next k) : o.wp C.P a w next QE := by
  unfold eIndexAddr at h
  split at h
  · rename_i htd hx hi
    have ex := evO_den ht hm.hpc hx
    have ei := evO_den ht hm.hpc hi
    obtain ⟨j, p, h1, h2, h3, h4, h5⟩ := enumI_ok _ 0 hm h
    rw [Nat.zero_add] at h2
    refine wp_value (x := SV.den ρ (.ptr _ _)) (w' := w) ?_ (hk _ _ _ _ (Env.le_refl ρ) h4 rfl trivial h5)
    unfold execOp
    simp only [ho, ex, ei, SV.den, h3, Sem.run_bind, indexAt_slice' hty htd h2, Result.andThen_ok, Sem.run_pure]
  · rename_i ki xi htd hx hi
    have ex := evO_den ht hm.hpc hx
    have ei := evO_den ht hm.hpc hi
    have wi := evO_wf ht hi
    simp only [SV.wf] at wi
    split at h
    · obtain ⟨b1, p1, _, hm1, h⟩ := condB_ok hm h
      cases b1 <;> simp only [cond_true, cond_false] at h
      · obtain ⟨b2, p2, _, hm2, h⟩ := condB_ok hm1 h
        cases b2 <;> simp only [cond_true, cond_false] at h
        · exact h.elim
        · split at h
          · rename_i v d hv
            obtain ⟨ρ1, g1, g2, g3⟩ := idxAddr_ok hty (Md.px (C := C) (tm := tm) hm2 ht) wi hv ki
            obtain ⟨hm3, h⟩ := bindD_ok hm2 g1 h
            refine wp_value (x := SV.den ρ1 v) (w' := w) ?_ (hk _ _ _ _ g1.le hm3 rfl (g2 _) h)
            have := g3 rfl w
            unfold execOp
            simp only [ho, ex, ei]
            simp only [SV.den] at this ⊢
            simp only [Sem.run_bind, this, Result.andThen_ok, Sem.run_pure]
          · exact h.elim
      · exact h.elim
    · exact h.elim
  · rename_i htd hx hi
    have ex := evO_den ht hm.hpc hx
    have ei := evO_den ht hm.hpc hi
    obtain ⟨j, p, h1, h2, h3, h4, h5⟩ := enumI_ok _ 0 hm h
    rw [Nat.zero_add] at h2
    refine wp_value (x := SV.den ρ (.ptr _ _)) (w' := w) ?_ (hk _ _ _ _ (Env.le_refl ρ) h4 rfl trivial h5)
    unfold execOp
    simp only [ho, ex, ei, SV.den, h3, Sem.run_bind, indexAt_array' hty htd h2, Result.andThen_ok, Sem.run_pure]
  · rename_i htd hx hi
    have ex := evO_den ht hm.hpc hx
    have ei := evO_den ht hm.hpc hi
    obtain ⟨j, p, h1, h2, h3, h4, h5⟩ := enumI_ok _ 0 hm h
    rw [Nat.zero_add] at h2
    refine wp_value (x := SV.den ρ (.gptr _ _)) (w' := w) ?_ (hk _ _ _ _ (Env.le_refl ρ) h4 rfl trivial h5)
    unfold execOp
    simp only [ho, ex, ei, SV.den, h3, Sem.run_bind, indexAt_array' hty htd h2, Result.andThen_ok, Sem.run_pure]
  · exact h.elim
theorem eIndex_ok (hty : TyOk C.P C.ty) (hm : Md C.ty C.pl G fz0 w0 ρ st w) (ht : TmOk ρ st.ni st.nb tm a) {t : TypeId} {x i : Operand} (ho : o.op = .index t x i) (h : (eIndex C tm st k t x i).wp C.ty F ρ.is Q) (hk : HK C.ty C.pl F Q G fz0 w0 ρ st a o.dst next k) : o.wp C.P a w next QE := by
  unfold eIndex at h
  split at h
  · rename_i htd hx hi
    have ex := evO_den ht hm.hpc hx
    have ei := evO_den ht hm.hpc hi
    have tx := evO_ty ht hm.hpc hx
    obtain ⟨j, p, h1, h2, h3, h4, h5⟩ := enumI_ok _ 0 hm h
    rw [Nat.zero_add] at h2
    split at h5
    · rename_i v hv
      refine wp_value (x := SV.den ρ v) (w' := w) ?_ (hk _ _ _ _ (Env.le_refl ρ) h4 rfl (partL_ty hv tx) h5)
      unfold execOp
      simp only [ho, ex, ei, SV.den, h3, Sem.run_bind, index_array' hty htd h2 hv ρ, Result.andThen_ok, Sem.run_pure]
    · exact h5.elim
  · rename_i s kx x htd hx hi
    have ex := evO_den ht hm.hpc hx
    have ei := evO_den ht hm.hpc hi
    obtain ⟨b, p, hb, hm1, h⟩ := condB_ok hm h
    rw [B.den_mkLt] at hb
    cases b <;> simp only [cond_true, cond_false] at h
    · obtain ⟨b, p', hb', hm2, h⟩ := condB_ok hm1 h
      rw [B.den_mkLt] at hb'
      cases b <;> simp only [cond_true, cond_false] at h
      · exact h.elim
      · have h0 := of_decide_eq_false hb
        have h1 := of_decide_eq_true hb'
        rw [int_n] at h0
        rw [int_mkSlen] at h1
        obtain ⟨j, hj⟩ : ∃ j : Nat, x.int ρ.is = (j : Int) := ⟨(x.int ρ.is).toNat, by omega⟩
        have hg : (s.den ρ.is).str[j]? = some ((s.den ρ.is).str.getD j 0) := by
          rw [List.getD_eq_getElem?_getD, List.getElem?_eq_getElem (by omega)]; rfl
        refine wp_value (x := SV.den ρ (.int .u8 (s.mkSidx x))) (w' := w) ?_ (hk _ _ _ _ (Env.le_refl ρ) hm2 rfl ⟨_, den_mkSidx s x ρ.is, u8_range _⟩ h)
        unfold execOp
        simp only [ho, ex, ei, SV.den, hj, Sem.run_bind, index_str' hty htd hg, Result.andThen_ok, Sem.run_pure, int_mkSidx, Int.toNat_natCast]
    · exact h.elim
  · exact h.elim
theorem bytes_append (x y : List UInt8) : ((⟨x.toArray⟩ : ByteArray) ++ ⟨y.toArray⟩) = ⟨(x ++ y).toArray⟩ := by
  apply ByteArray.ext
  simp
theorem eBinOp_ok (hm : Md C.ty C.pl G fz0 w0 ρ st w) (ht : TmOk ρ st.ni st.nb tm a) {op : BinOp} {t yt : TypeId} {x y : Operand} (ho : o.op = .binOp op t x y yt) (h : (eBinOp C tm st k op x y).wp C.ty F ρ.is Q) (hk : HK C.ty C.pl F Q G fz0 w0 ρ st a o.dst next k) : o.wp C.P a w next QE := by
  unfold eBinOp at h
  split at h
  · rename_i kx p ky q hx hy
    have ex := evO_den ht hm.hpc hx
    have ey := evO_den ht hm.hpc hy
    have tx := evO_ty ht hm.hpc hx
    have div : ∀ {e : E} {op' : BinOp}, op = op' → kindEq kx ky = true → (¬ q.int ρ.is = 0 → (Op.intDiv op' kx (p.int ρ.is) (q.int ρ.is)).run C.P w = .ok (.int kx (e.den ρ.is).int) w) → (op' = .quo ∨ op' = .rem) → (∃ m, e.den ρ.is = .num m ∧ kx.min ≤ m ∧ m ≤ kx.max) → ∀ {N : Nat},
        (condB (.mkEq q (.n 0)) st fun z st => bif z then .fail N else bind1 st e fun r st => k (.int kx r) st).wp C.ty F ρ.is Q → o.wp C.P a w next QE := by
      intro e op' hop hkk hrun hor hte N hd
      subst hop
      obtain ⟨b, pc', hb, hm', hd'⟩ := condB_ok hm hd
      cases b
      · simp only [cond_false] at hd'
        obtain ⟨ρ', xx, st', hle, hden, _, _, _, hdf, hm'', hd''⟩ := bind1_ok hm' hd'
        rw [B.den_mkEq] at hb
        have hq : ¬ q.int ρ.is = 0 := by simpa [int_n] using hb
        refine wp_value (x := SV.den ρ' (.int kx xx)) (w' := w) ?_ (hk _ _ _ _ hle hm'' hdf (by simp only [SV.ty, hden]; exact hte) hd'')
        cases kindEq_eq hkk
        unfold execOp
        have hg : (eqGuard op t x y (.int kx (p.int ρ.is)) (.int kx (q.int ρ.is))).run C.P w = .ok () w := by rcases hor with rfl | rfl <;> simp [eqGuard]
        simp only [ho, ex, ey, SV.den, Sem.run_bind, hg, Result.andThen_ok, int_of_den hden]
        rw [run_binOp_int (by rcases hor with rfl | rfl <;> simp) (by rcases hor with rfl | rfl <;> simp)]
        rcases hor with rfl | rfl <;> simp only [hrun hq, Result.andThen_ok, Sem.run_pure]
      · simp only [cond_true] at hd'
        exact hd'.elim
    have sh : ∀ {e : E}, (op = .shl ∨ op = .shr) → (¬ q.int ρ.is < 0 → (Op.shift op kx (p.int ρ.is) ky (q.int ρ.is)).run C.P w = .ok (.int kx (e.den ρ.is).int) w) → (∃ m, e.den ρ.is = .num m ∧ kx.min ≤ m ∧ m ≤ kx.max) → ∀ {N : Nat},
        (condB (.mkLt q (.n 0)) st fun z st => bif z then .fail N else bind1 st e fun r st => k (.int kx r) st).wp C.ty F ρ.is Q → o.wp C.P a w next QE := by
      intro e hor hrun hte N hd
      obtain ⟨b, pc', hb, hm', hd'⟩ := condB_ok hm hd
      cases b
      · simp only [cond_false] at hd'
        obtain ⟨ρ', xx, st', hle, hden, _, _, _, hdf, hm'', hd''⟩ := bind1_ok hm' hd'
        rw [B.den_mkLt] at hb
        have hq : ¬ q.int ρ.is < 0 := of_decide_eq_false hb
        refine wp_value (x := SV.den ρ' (.int kx xx)) (w' := w) ?_ (hk _ _ _ _ hle hm'' hdf (by simp only [SV.ty, hden]; exact hte) hd'')
        unfold execOp
        have hg : (eqGuard op t x y (.int kx (p.int ρ.is)) (.int ky (q.int ρ.is))).run C.P w = .ok () w := by rcases hor with rfl | rfl <;> simp [eqGuard]
        simp only [ho, ex, ey, SV.den, Sem.run_bind, hg, Result.andThen_ok, int_of_den hden]
        rw [run_shift hor]
        simp only [hrun hq, Result.andThen_ok, Sem.run_pure]
      · simp only [cond_true] at hd'
        exact hd'.elim
    obtain ⟨n0, hn0, hr0⟩ := tx
    have hi0 : p.int ρ.is = n0 := by simp only [A.int, hn0, Dt.int]
    split at h
    · cases hkk : kindEq kx ky <;> rw [hkk] at h <;> simp only [cond_true, cond_false] at h
      · exact h.elim
      · exact div rfl hkk (fun hq => by simp [Op.intDiv, hq, E.den, Dt.int]) (.inl rfl) (e := .quo kx p q) (wrap_ty kx _) h
    · cases hkk : kindEq kx ky <;> rw [hkk] at h <;> simp only [cond_true, cond_false] at h
      · exact h.elim
      · exact div rfl hkk (fun hq => by simp [Op.intDiv, hq, E.den, Dt.int]) (.inr rfl) (e := .rem p q) ⟨_, rfl, by rw [hi0]; exact tmod_range hr0 _⟩ h
    · exact sh (.inl rfl) (fun hq => by simp [Op.shift, hq, E.den, Dt.int]) (e := .shl kx p q) (wrap_ty kx _) h
    · exact sh (.inr rfl) (fun hq => by simp [Op.shift, hq, E.den, Dt.int]) (e := .shr kx p q) ⟨_, rfl, by rw [hi0]; exact fdiv_range hr0 _⟩ h
    · exact h.elim
  · rename_i p q hx hy
    have ex := evO_den ht hm.hpc hx
    have ey := evO_den ht hm.hpc hy
    split at h
    · obtain ⟨ρ', xx, st', hle, hden, _, _, _, hdf, hm1, h⟩ := bind1_ok hm h
      obtain ⟨b, pc', hb, hm2, h⟩ := condB_ok hm1 h
      rw [B.den_mkLt] at hb
      cases b <;> simp only [cond_true, cond_false] at h
      · exact h.elim
      · have hb := of_decide_eq_true hb
        rw [int_mkSlen, hden, int_n] at hb
        simp only [E.den, str_byt, List.length_append] at hb
        refine wp_value (x := SV.den ρ' (.str xx)) (w' := w) ?_ (hk _ _ _ _ hle hm2 hdf ⟨_, hden, by rw [List.length_append]; omega⟩ h)
        unfold execOp
        have hs1 : (⟨(p.den ρ.is).str.toArray⟩ : ByteArray).size = (p.den ρ.is).str.length := rfl
        have hs2 : (⟨(q.den ρ.is).str.toArray⟩ : ByteArray).size = (q.den ρ.is).str.length := rfl
        have hmx : IntKind.i64.max = 9223372036854775807 := by decide
        have hno : ¬ ((((p.den ρ.is).str.length + (q.den ρ.is).str.length : Nat) : Int) > IntKind.i64.max) := by rw [hmx]; omega
        simp only [ho, ex, ey, SV.den, bytesOf, eqGuard, binOp, Op.stringOp, Sem.run_bind, hs1, hs2, if_neg hno, hden, E.den, str_byt, bytes_append]
        rfl
    · exact h.elim
  · exact h.elim
theorem ePick_ok (hm : Md C.ty C.pl G fz0 w0 ρ st w) (ht : TmOk ρ st.ni st.nb tm a) {c x y : Operand} (ho : o.op = .pick c x y) (h : (ePick C tm st k c x y).wp C.ty F ρ.is Q) (hk : HK C.ty C.pl F Q G fz0 w0 ρ st a o.dst next k) : o.wp C.P a w next QE := by
  unfold ePick at h
  split at h
  · rename_i cb hc
    have ec := evO_den ht hm.hpc hc
    obtain ⟨b, p, hb, hm', hd⟩ := condB_ok hm h
    cases b
    · simp only [cond_false] at hd
      split at hd
      · rename_i v hv
        have ev := evO_den ht hm'.hpc hv
        refine wp_value (x := SV.den ρ (v.under p)) (w' := w) ?_ (hk _ _ _ _ (Env.le_refl ρ) hm' rfl (SV.ty_under hm'.hpc (evO_ty ht hm'.hpc hv)) hd)
        unfold execOp
        simp [ho, ec, ev, SV.den, asBool, hb, SV.den_under hm'.hpc]
      · exact hd.elim
    · simp only [cond_true] at hd
      split at hd
      · rename_i v hv
        have ev := evO_den ht hm'.hpc hv
        refine wp_value (x := SV.den ρ (v.under p)) (w' := w) ?_ (hk _ _ _ _ (Env.le_refl ρ) hm' rfl (SV.ty_under hm'.hpc (evO_ty ht hm'.hpc hv)) hd)
        unfold execOp
        simp [ho, ec, ev, SV.den, asBool, hb, SV.den_under hm'.hpc]
      · exact hd.elim
  · exact h.elim
theorem ownsRow_cut {w : World} {e s n h B cap : Nat} {xs : List Value} (ho : w.ownsRow 0 e s (.slice (some ⟨B, 0, none⟩) n cap) n xs) (hh : h ≤ n) : w.ownsRow 0 e s (.slice (some ⟨B, 0, none⟩) h cap) h (xs.take (h * s)) := by
  have hle : h * s ≤ n * s := Nat.mul_le_mul_right _ hh
  refine ⟨by rw [List.length_take, ho.1]; omega, ?_⟩
  rcases ho.2 with ⟨h1, _⟩ | ⟨g, c, cur, h1, h2, h3, h4, h5, h6, h7⟩
  · cases h1
  · injection h1 with h1 _ h1'
    injection h1 with h1
    injection h1 with h1
    subst h1; subst h1'
    exact .inr ⟨B, cap, cur, rfl, h2, h3, by omega, h5, h6, by rw [← h7, List.take_take, Nat.min_eq_left hle]⟩
theorem repC_take {ty : Ty} {fz : Fz} {e s : Nat} : ∀ {l : List Dt} {cs : List Value} (h : Nat), repC ty fz l e s cs → repC ty fz (l.take h) e s (cs.take (h * s))
  | l, cs, 0, _ => by simp [repC]
  | [], cs, h + 1, hr => by
    simp only [repC] at hr
    subst hr
    simp [repC]
  | x :: l, cs, h + 1, hr => by
    simp only [repC] at hr
    simp only [List.take_succ_cons, repC]
    have e1 : (h + 1) * s = s + h * s := by rw [Nat.add_mul]; omega
    refine ⟨by rw [List.length_take, e1]; omega, ?_, ?_⟩
    · rw [List.take_take, Nat.min_eq_left (by rw [e1]; omega)]; exact hr.2.1
    · have := repC_take h hr.2.2
      rw [List.drop_take, show (h + 1) * s - s = h * s by rw [e1]; omega]
      exact this
theorem Md.goneLater {i : Nat} {so : SO} (hm : Md C.ty C.pl G fz0 w0 ρ st w) (hi : st.mem.get i = some so) {row : Option Nat} (hg : w.grownBy w' row) (hrow : ∀ k, row = some k → foot ρ i so k) : Md C.ty C.pl G fz0 w0 ρ { st with mem := st.mem.put i .gone } w' :=
  hm.upd hi hg hrow rfl trivial trivial (fun k hk => by cases hk)
theorem freed_ok {i : Nat} {so : SO} {k : Nat} (hm : Md C.ty C.pl G fz0 w0 ρ st w) (hi : st.mem.get i = some so) (hk : foot ρ i so k) : (w0.heap.size ≤ k ∨ G k) ∧ ρ.fz k = none ∧ ∀ j oj, (st.mem.put i .gone).get j = some oj → ¬ foot ρ j oj k := by
  obtain ⟨h1, h2⟩ := hm.own i so k hi hk
  refine ⟨h1, h2, fun j oj hj e => ?_⟩
  rcases Tb.get_put hj with ⟨rfl, rfl⟩ | ⟨hne, hj'⟩
  · cases e
  · exact hne (hm.inj j i oj so k hj' hi e hk)
theorem pxEv {x : Operand} {v : SV} {tm : Tm} {st : St} : (puOf C tm st).ev x = some v ↔ evO st.pc tm x = some v := Iff.rfl
theorem slice_run {t : TypeId} {x : Operand} {lo hi mx : Option Operand} {V : Value} (ho : o.op = .slice t x lo hi mx) (h : (Instr.sliceAt t (a.eval x) (lo.map a.eval) (hi.map a.eval) (mx.map a.eval)).run C.P w = .ok V w') : (execOp a.eval o).run C.P w = .ok (.value V) w' := by
  unfold execOp
  simp only [ho, Sem.run_bind, h, Result.andThen_ok, Sem.run_pure]
theorem eSlice_ok (hty : TyOk C.P C.ty) (hm : Md C.ty C.pl G fz0 w0 ρ st w) (ht : TmOk ρ st.ni st.nb tm a) {t : TypeId} {x : Operand} {lo hi mx : Option Operand} (ho : o.op = .slice t x lo hi mx) (h : (eSlice C tm st k t x lo hi mx).wp C.ty F ρ.is Q) (hk : HK C.ty C.pl F Q G fz0 w0 ρ st a o.dst next k) : o.wp C.P a w next QE := by
  have pure_ : ∀ {st1 : St} {ρ1 : Env} {v u : SV} {d : Bd}, ρ.le ρ1 → Md C.ty C.pl G fz0 w0 ρ1 st1 w → TmOk ρ1 st1.ni st1.nb tm a → st1.df = st.df → a.eval x = v.den ρ1 → v.wf st1.ni st1.nb = true → v.ty ρ1 → sliceV (puOf C tm st1) t v lo hi mx = some (u, d) → (bindD st1 d fun st => k u st).wp C.ty F ρ1.is Q → o.wp C.P a w next QE := by
    intro st1 ρ1 v u d hle hm1 ht1 hdf ev wv tv hs h
    obtain ⟨ρ2, g1, g2⟩ := sliceV_ok hty (Md.px (C := C) (tm := tm) hm1 ht1) wv hs
    obtain ⟨g3, g4⟩ := g2 rfl
    obtain ⟨hm2, h⟩ := bindD_ok hm1 g1 h
    exact wp_value (slice_run ho (by rw [ev]; exact g4 w)) (hk _ _ _ _ (Env.le_trans hle g1.le) hm2 hdf (g3 tv) h)
  unfold eSlice at h
  simp only at h
  split at h
  · rename_i v e s hv htd
    have ev := evO_den ht hm.hpc hv
    have wv := evO_wf ht hv
    have tv := evO_ty ht hm.hpc hv
    split at h
    · rename_i xa hxa
      split at h
      · rename_i l hh hl hhi
        obtain ⟨b1, p1, c1, hm1, h⟩ := condB_ok hm h
        cases b1 <;> simp only [cond_true, cond_false] at h
        · obtain ⟨b2, p2, c2, hm2, h⟩ := condB_ok hm1 h
          cases b2 <;> simp only [cond_true, cond_false] at h
          · obtain ⟨b3, p3, c3, hm3, h⟩ := condB_ok hm2 h
            cases b3 <;> simp only [cond_true, cond_false] at h
            · split at h
              · rename_i j _ _ _
                split at h
                · rename_i e' s' y hj
                  cases hmv : (C.mv && noMx mx && Nat.beq e e' && Nat.beq s s' && knownIs p3 (.mkEq l (.n 0)) true) <;> rw [hmv] at h <;> simp only [cond_true, cond_false] at h
                  ·
                    split at h
                    · rename_i z f hsl
                      obtain ⟨ρ', ρ1', g1, g2, g3, g4, g5, g6, g7⟩ := slD_ok hty hm3.fsR hm3.hpc htd hsl
                      split at h
                      · rename_i u d hs
                        rw [← g2.is] at h
                        have hwl : SV.wf ρ.is.length ρ.bs.length (.sl j) = true := by rw [hm.hni, hm.hnb]; exact wv
                        have ht1 : TmOk ρ' st.ni st.nb tm a := by
                          have ht' := ht
                          rw [← hm.hni, ← hm.hnb] at ht'
                          have := ht'.app g2.le
                          rw [g2.is, g2.bs, hm.hni, hm.hnb] at this
                          exact this
                        exact pure_ g2.le g1.hm ht1 rfl (by rw [ev, SV.den_app g2.le hwl]) wv trivial hs h
                      · exact h.elim
                    · exact h.elim
                  ·
                    simp only [Bool.and_eq_true] at hmv
                    obtain ⟨⟨⟨⟨_, m2⟩, m3⟩, m4⟩, m5⟩ := hmv
                    have hmx : mx = none := by
                      cases mx with
                      | none => rfl
                      | some _ => cases m2
                    subst hmx
                    have h1 := beq_nat m3
                    have h2 := beq_nat m4
                    subst h1; subst h2
                    have hl0 := knownIs_ok hm3.hpc m5
                    rw [B.den_mkEq] at hl0
                    have hl0 : l.int ρ.is = 0 := by simpa [int_n] using hl0
                    obtain ⟨hlt, hw, hgo, hok⟩ := hm3.mem j _ hj
                    have hxy : xa = y := by
                      unfold slA at hxa
                      simp only [hj, htd, Nat.beq_refl, Bool.and_self, cond_true] at hxa
                      cases hxa; rfl
                    subst hxy
                    have hmg := hm3.goneLater hj (World.grownBy.refl w none) (fun k hk => by cases hk)
                    obtain ⟨ρ1, q1, q2, q3, q4⟩ := hmg.ext0.bind (.cut xa l hh)
                    obtain ⟨hm4, h⟩ := bindD_ok hmg q1 h
                    rw [B.den_mkLt] at c1 c2 c3
                    have c1 := of_decide_eq_false c1
                    have c2 := of_decide_eq_false c2
                    have c3 := of_decide_eq_false c3
                    rw [int_n] at c1
                    rw [int_mkLen] at c3
                    obtain ⟨H, hH⟩ : ∃ H : Nat, hh.int ρ.is = (H : Int) := ⟨(hh.int ρ.is).toNat, by omega⟩
                    have hcut : (cutA xa l hh st.bd).1.den ρ1.is = (xa.den ρ.is).cut 0 H := by
                      have : (cutA xa l hh st.bd).1.den ρ1.is = _ := q3
                      rw [this]; simp only [E.den, hl0, hH]; rfl
                    simp only [SO.ok] at hok
                    have val : ∃ V, RowOk C.ty ρ.fz w e s ((xa.den ρ.is).cut 0 H) V ∧ (∀ kk, V.ownBlock = some kk → foot ρ j (.rowd e s xa) kk) ∧ (Instr.sliceAt t (ρ.val j) (lo.map a.eval) (hi.map a.eval) none).run C.P w = .ok V w := by
                      obtain ⟨_, d1, _, _, _, hu1, _, hm1', _⟩ := tdOf_info hty htd (by simp)
                      obtain ⟨rfl, i, hi', rfl⟩ := mkTD_slice hm1'
                      rcases hok with ⟨r1, r2⟩ | ⟨L, B, cap, xs, r1, r2, r3, r4⟩
                      · rw [r1] at c3
                        simp only [Dt.len] at c3
                        have : H = 0 := by omega
                        subst this
                        refine ⟨.slice none 0 0, .inl ⟨by rw [r1]; rfl, rfl⟩, fun kk hk => (by cases hk), ?_⟩
                        rw [r2]
                        have hb := sliceBounds_ok (P := C.P) (Md.px (C := C) (tm := tm) hm ht) rfl (isS := true) (len := 0) (cap := 0) hl hhi (by rw [int_mkLen, r1]; rfl) hl0 hH (Nat.le_refl _) (Nat.le_refl _) w
                        simp [Instr.sliceAt, run_underlying hu1, Instr.slice, hb, run_size hi']
                      · rw [r1] at c3
                        simp only [Dt.len] at c3
                        have hHL : H ≤ L.length := by omega
                        have hcap : L.length ≤ cap := by
                          rcases r3.2 with ⟨z1, _⟩ | ⟨g', c', cur', z1, _, _, z4, _⟩
                          · rw [r2] at z1; cases z1
                          · rw [r2] at z1; injection z1 with z1 _ z1'; omega
                        rw [r2] at r3
                        refine ⟨.slice (some ⟨B, 0, none⟩) H cap, .inr ⟨L.take H, B, cap, xs.take (H * i.size), by rw [r1]; simp [Dt.cut, Dt.list], by rw [List.length_take, Nat.min_eq_left hHL], ?_, repC_take H r4⟩, fun kk hk => by simp only [foot, r2]; exact hk, ?_⟩
                        · rw [List.length_take, Nat.min_eq_left hHL]; exact ownsRow_cut r3 hHL
                        · rw [r2]
                          have hb := sliceBounds_ok (P := C.P) (Md.px (C := C) (tm := tm) hm ht) rfl (isS := true) (len := L.length) (cap := cap) hl hhi (by rw [int_mkLen, r1]; rfl) hl0 hH (by omega) (Nat.zero_le _) w
                          simp only [Instr.sliceAt, Sem.run_bind, run_underlying hu1, Result.andThen_ok, Instr.slice, Option.map_none, hb, run_size hi', Sem.run_pure, Nat.sub_zero, Nat.zero_mul]
                          congr 2
                          split <;> simp [add_plain]
                    obtain ⟨V, v1, v2, v3⟩ := val
                    have hgs : (cutA xa l hh st.bd).2.gs = [] := by
                      unfold cutA Bd.bind Bd.bindT
                      cases (E.cut xa l hh).lit <;> rfl
                    obtain ⟨ρ2, k1, k2, k3, k4⟩ := newRow_ok hm4 h (V := V) (by
                      show RowOk C.ty ρ1.fz w e s ((cutA xa l hh st.bd).1.den ρ1.is) V
                      rw [hcut, q1.fz]; exact v1) (fun kk hkk => by
                      obtain ⟨f1, f2, f3⟩ := freed_ok hm3 hj (v2 kk hkk)
                      refine ⟨f1, by rw [q1.fz]; exact f2, fun j' oj' hj' e' => ?_⟩
                      have hm' : (st.mem.put j .gone).get j' = some oj' := by
                        have : (pushG (st.mem.put j .gone) st.nb (cutA xa l hh st.bd).2.gs).get j' = some oj' := hj'
                        rwa [hgs] at this
                      rw [foot_app q1.le (by
                        have := (hmg.mem j' oj' hm').1
                        rw [hm.hnb]; exact this) _ (by rw [hm.hni, hm.hnb]; exact (hmg.mem j' oj' hm').2.1) (hmg.mem j' oj' hm').2.2.1] at e'
                      exact f3 j' oj' hm' e')
                    refine wp_value (slice_run ho (V := V) (w' := w) ?_) ?_
                    · rw [ev]; exact v3
                    · rw [← k2]
                      exact hk ρ2 _ _ (.sl _) (Env.le_trans q1.le k1) k3 rfl trivial k4
                · split at h
                  · rename_i u d hs
                    exact pure_ (Env.le_refl ρ) hm3 ht rfl ev wv trivial hs h
                  · exact h.elim
              · split at h
                · rename_i u d hs
                  exact pure_ (Env.le_refl ρ) hm3 ht rfl ev wv tv hs h
                · exact h.elim
            · exact h.elim
          · exact h.elim
        · exact h.elim
      · exact h.elim
    · exact h.elim
  · rename_i s hv htd
    have ev := evO_den ht hm.hpc hv
    have wv := evO_wf ht hv
    have tv := evO_ty ht hm.hpc hv
    split at h
    · obtain ⟨b1, p1, c1, hm1, h⟩ := condB_ok hm h
      cases b1 <;> simp only [cond_true, cond_false] at h
      · obtain ⟨b2, p2, c2, hm2, h⟩ := condB_ok hm1 h
        cases b2 <;> simp only [cond_true, cond_false] at h
        · obtain ⟨b3, p3, c3, hm3, h⟩ := condB_ok hm2 h
          cases b3 <;> simp only [cond_true, cond_false] at h
          · split at h
            · rename_i u d hs
              exact pure_ (Env.le_refl ρ) hm3 ht rfl ev wv tv hs h
            · exact h.elim
          · exact h.elim
        · exact h.elim
      · exact h.elim
    · exact h.elim
  · exact h.elim
end
end Go.SY
