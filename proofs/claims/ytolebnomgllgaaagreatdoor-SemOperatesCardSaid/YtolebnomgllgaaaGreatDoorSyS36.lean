/- The symbolic executor SY, its soundness, part 36: regions that draw their order; what is made may be told later. -/
import Derived.Test.YtolebnomgllgaaaGreatDoorSyS26
import Derived.OrdersHeld
set_option linter.unusedVariables false
set_option linter.unusedSimpArgs false
namespace Go.SY
open Go Go.RowKit
noncomputable section
variable {F : Nat → List Dt → Post → Prop} {Q : Post}
variable {C : Cfg} {ty : Ty} {pl : Bool} {G : Nat → Prop} {fz0 : Fz} {w0 w w' : World} {ρ ρ' ρ1 ρ1' : Env} {st : St} {d : Bd} {tm : Tm} {a : Act} {o : Oper} {next : Act → World → Prop} {QE : Exit → Act → World → Prop}
def Agr (o : Oper) (a a' : Act) : Prop := ∀ t, o.dst ≠ some t → a'.tmps.getD t undef = a.tmps.getD t undef
theorem agr_put {a a0 : Act} {v : Value} (h : a0.tmps = a.tmps) : Agr o a (a0.put o.dst v) := by
  intro t ht
  cases hd : o.dst with
  | none => simp [Act.put, h]
  | some d =>
    have hne : d ≠ t := fun e => ht (by rw [hd, e])
    simp only [Act.put, h]
    simp [Array.getElem?_setIfInBounds_ne hne]
theorem Oper.wp_agr {P : Program} {K : Act → World → Prop} (h : o.wp P a w (fun a' w' => Agr o a a' → K a' w') QE) : o.wp P a w K QE := by
  unfold Oper.wp at *
  generalize (execOp a.eval o).run P w = r at *
  cases r with
  | ok n w' =>
    cases n <;> simp only [Oper.upon] at h ⊢ <;>
      first
        | exact h (agr_put rfl)
        | exact Calls.mono h (fun e w'' he => by cases e <;> first | exact he (agr_put rfl) | exact he)
        | exact Rows.mono h (fun _ _ he => he (agr_put rfl))
  | halt x w' => cases x <;> simp only [Oper.upon] at h ⊢ <;> exact h
theorem Md.hid (h : Md ty pl G fz0 w0 ρ st w) {B : Nat} (nf : ¬ feet ρ st.mem B) (nz : ρ.fz B = none) (og : w0.heap.size ≤ B ∨ G B) (x : Obj) : Md ty pl G fz0 w0 ρ st { w with heap := w.heap.setIfInBounds B x } := by
  have hg : w.grownBy { w with heap := w.heap.setIfInBounds B x } (some B) := ⟨rfl, rfl, rfl, by simp, fun k hk hne => by
    have : B ≠ k := fun e => hne (by rw [e])
    simp [Array.getElem?_setIfInBounds_ne this]⟩
  exact ⟨h.below.step hg (fun k hk => by cases hk; exact og), h.hni, h.hnb, h.hpc, h.hpw, h.fzw.grown hg (fun k hk => by cases hk; exact nz), h.fzl, h.fzn, fun j oj hj => by
    obtain ⟨q1, q2, q3, q4⟩ := h.mem j oj hj
    exact ⟨q1, q2, q3, SO.ok_heap (w := w) (fun k hk => hg.block k (foot_lt q4 hk) (fun e => nf (by cases e; exact ⟨j, oj, hj, hk⟩))) q4⟩, h.own, h.inj, h.hkk⟩
theorem Md.unbase2 {G' : Nat → Prop} {st' : St} (h : Md ty pl G fz0 w0 ρ st w) (h' : Md ty pl G' ρ.fz w ρ' st' w') (hgl : ∀ k, G' k → w0.heap.size ≤ k ∨ G k) : Md ty pl G fz0 w0 ρ' st' w' := by
  have hg : ∀ k, w.heap.size ≤ k ∨ G' k → w0.heap.size ≤ k ∨ G k := by
    rintro k (hk | hk)
    · exact .inl (Nat.le_trans h.below.size hk)
    · exact hgl k hk
  refine ⟨⟨h'.below.os.trans h.below.os, h'.below.tape.trans h.below.tape, h'.below.output.trans h.below.output, Nat.le_trans h.below.size h'.below.size, fun k hk hn => ?_⟩, h'.hni, h'.hnb, h'.hpc, h'.hpw, h'.fzw, fun b o ho => h'.fzl b o (h.fzl b o ho), fun k h1 h2 => ?_, h'.mem, fun i o k hi hk => ⟨hg k (h'.own i o k hi hk).1, (h'.own i o k hi hk).2⟩, h'.inj, h'.hkk.ok, fun hp => ⟨fun n => ((h'.hkk.np hp).1 n).trans ((h.hkk.np hp).1 n), (h'.hkk.np hp).2⟩⟩
  · rw [h'.below.block k (Nat.lt_of_lt_of_le hk h.below.size) fun hf => ?_]
    · exact h.below.block k hk hn
    · rcases hg k (.inr hf) with hh | hh
      · omega
      · exact hn hh
  cases hz : ρ.fz k with
  | none => exact hg k (h'.fzn k h1 hz)
  | some o => exact h.fzn k (by rw [hz]; simp) h2
theorem eval_agr {a a' : Act} {x : Operand} (h : ∀ t, x = .tmp t → a'.tmps.getD t undef = a.tmps.getD t undef) : a'.eval x = a.eval x := by
  cases x with
  | tmp t => exact h t rfl
  | _ => rfl
def Makes (P : Program) (o : Oper) (a : Act) (V : Nat → Value) (x : Obj) : Prop := ∀ w : World, (execOp a.eval o).run P w = .ok (.value (V w.heap.size)) (w.alloc x)
theorem Makes.uniq {P : Program} {V V' : Nat → Value} {x x' : Obj} (h : Makes P o a V x) (h' : Makes P o a V' x') : (∀ n, V n = V' n) ∧ x = x' := by
  have key : ∀ w : World, V w.heap.size = V' w.heap.size ∧ x = x' := fun w => by
    have := (h w).symm.trans (h' w)
    injection this with e1 e2
    injection e1 with e1
    refine ⟨e1, ?_⟩
    have e3 := congrArg World.heap e2
    simp only [World.alloc] at e3
    have e4 := congrArg (fun z : Array Obj => z[w.heap.size]?) e3
    simpa using e4
  refine ⟨fun n => ?_, (key default).2⟩
  have := (key { (default : World) with heap := Array.replicate n default }).1
  simpa using this
theorem Makes.agr {P : Program} {V : Nat → Value} {x : Obj} (hl : isLz o.op = true) {a' : Act} (he : ∀ v ∈ lzOps o.op, a'.eval v = a.eval v) (h : Makes P o a V x) : Makes P o a' V x := by
  have : execOp a'.eval o = execOp a.eval o := by
    cases hop : o.op <;> rw [hop] at hl he <;> simp only [isLz] at hl <;> (try (cases hl; done)) <;> unfold execOp <;> simp only [hop]
    · rw [he _ (.head _)]
    · rw [he _ (.head _), he _ (.tail _ (.head _))]
  intro w
  rw [this]; exact h w
theorem lzFit_ok (hty : TyOk C.P C.ty) (hm : Md C.ty C.pl G fz0 w0 ρ st w) (ht : TmOk ρ st.ni st.nb tm a) (h : lzFit C tm st o.op = true) : ∃ V x, Makes C.P o a V x := by
  unfold lzFit at h
  split at h
  · rename_i t ho
    split at h
    · rename_i cs hz
      obtain ⟨i, z, hi, hz1, hz2, hz3, _⟩ := zeroL_info hty hz
      refine ⟨fun n => .pointer (some ⟨n, 0, none⟩), .cells (SV.dens ρ cs).toArray t, fun w => ?_⟩
      unfold execOp
      simp only [ho, Instr.alloc, Sem.run_bind, run_zero hi hz1, Result.andThen_ok, newVar, newRow, run_newObj, Sem.run_pure, hz2 ρ]
      rfl
    · cases h
  · rename_i t x ho
    split at h
    · rename_i v hv
      split at h
      · rename_i cs hcs
        have ev := evO_den ht hm.hpc hv
        refine ⟨fun n => .pointer (some ⟨n, 0, none⟩), .cells (SV.dens ρ cs).toArray t, fun w => ?_⟩
        unfold execOp
        simp only [ho, ev, Instr.box, Sem.run_bind, newVar, newRow, run_newObj, Result.andThen_ok, Sem.run_pure, cellsOf_spec hcs ρ]
        rfl
      · cases h
    · cases h
  · rename_i t x y ho
    split at h
    · rename_i e n kx xa ky ya htd hx hy
      split at h
      · rename_i z hz
        simp only [Bool.and_eq_true] at h
        obtain ⟨⟨⟨h1, h2⟩, h3⟩, h4⟩ := h
        have := A.beq_eq h1
        subst this
        obtain ⟨i, hi, hsz, hby⟩ := makeFit_ok hty h2
        obtain ⟨i', z', hi', hz1, hz2, hz3, hz4, hz5⟩ := zeroL_info hty hz
        cases hi.symm.trans hi'
        obtain ⟨_, d1, _, _, _, hu1, _, hm1, _⟩ := tdOf_info hty htd (by simp)
        obtain ⟨rfl, i2, hi2, hs2⟩ := mkTD_slice hm1
        have k3 := knownIs_ok hm.hpc h3
        have k4 := knownIs_ok hm.hpc h4
        rw [B.den_mkLt] at k3 k4
        have k3 := of_decide_eq_false k3
        have k4 := of_decide_eq_false k4
        rw [int_n] at k3 k4
        have hb : (i.bytes : Int) * (xa.int ρ.is) ≤ 281474976710656 := by
          have : (i.bytes : Int) * (xa.int ρ.is) ≤ 256 * 1099511627776 := Int.mul_le_mul (by omega) (by omega) (by omega) (by omega)
          omega
        have hxe := evO_den ht hm.hpc hx
        have hye := evO_den ht hm.hpc hy
        refine ⟨fun m => .slice (some ⟨m, 0, none⟩) (xa.int ρ.is).toNat (xa.int ρ.is).toNat, .cells (madeCells z'.cells ((xa.int ρ.is).toNat * i.size)) (un e), fun w => ?_⟩
        have := run_make (P := C.P) w t (un e) i z' hu1 hi hz1 kx ky (xa.int ρ.is) (xa.int ρ.is) (by omega) (Int.le_refl _) hb (by omega)
        unfold execOp
        simp only [ho, Sem.run_bind, hxe, hye, SV.den, this, Result.andThen_ok, Sem.run_pure]
      · cases h
    · cases h
  · cases h
structure Hidn (G : Nat → Prop) (w0 : World) (ρ : Env) (st : St) (w : World) (B : Nat) : Prop where
  lt : B < w.heap.size
  nf : ¬ feet ρ st.mem B
  nz : ρ.fz (B : Nat) = none
  og : w0.heap.size ≤ B ∨ G B
theorem Md.weakG {G' : Nat → Prop} (h : Md ty pl G fz0 w0 ρ st w) (hG : ∀ k, G k → G' k) : Md ty pl G' fz0 w0 ρ st w :=
  ⟨⟨h.below.os, h.below.tape, h.below.output, h.below.size, fun k hk hn => h.below.block k hk fun hg => hn (hG k hg)⟩, h.hni, h.hnb, h.hpc, h.hpw, h.fzw, h.fzl, fun k h1 h2 => (h.fzn k h1 h2).imp id (hG k), h.mem, fun i o k hi hk => ⟨(h.own i o k hi hk).1.imp id (hG k), (h.own i o k hi hk).2⟩, h.inj, h.hkk⟩
theorem Hidn.step {G' : Nat → Prop} {st' : St} {B : Nat} (h : Hidn G w0 ρ st w B) (hm' : Md ty pl G' ρ.fz w ρ' st' w') (hG : ¬ G' B) : Hidn G w0 ρ' st' w' B := by
  have hl := h.lt
  refine ⟨Nat.lt_of_lt_of_le hl hm'.below.size, ?_, ?_, h.og⟩
  · rintro ⟨j, oj, hj, hf⟩
    rcases (hm'.own j oj _ hj hf).1 with q | q
    · omega
    · exact hG q
  · cases hz : ρ'.fz (B : Nat) with
    | none => rfl
    | some x =>
      rcases hm'.fzn B (by rw [hz]; simp) h.nz with q | q
      · omega
      · exact absurd q hG
theorem lateCells (hm : Md C.ty C.pl G fz0 w0 ρ st w) {B : Nat} {cs : List SV} {e : TypeId} {kk : Nat → St → T} (hH : Hidn G w0 ρ st w B) (hB : w.heap[B]? = some (.cells (SV.dens ρ cs).toArray e)) (h : (newB st (.cells cs e) kk).wp C.ty F ρ.is Q) (ht : SV.tys ρ cs) :
    ∃ ρ', ρ.le ρ' ∧ ρ'.b st.nb = B ∧ Md C.ty C.pl G fz0 w0 ρ' { st with mem := st.mem.put st.nb (.cells cs e), nb := st.nb + 1 } w ∧ (kk st.nb { st with mem := st.mem.put st.nb (.cells cs e), nb := st.nb + 1 }).wp C.ty F ρ'.is Q := by
  have hb := push_b (C := C) hm B (.pointer none)
  obtain ⟨g1, g2⟩ := newB_ok hm h B (.pointer none) rfl fun hw => by
    simp only [SO.wf, Bool.and_eq_true] at hw
    have hwl : SV.wfs ρ.is.length ρ.bs.length cs = true := by rw [hm.hni, hm.hnb]; exact hw.1
    refine ⟨trivial, ⟨?_, SV.tys_app push_le hwl ht⟩, fun k hk => ?_⟩
    · rw [hb, SV.dens_app push_le hwl]
      exact hB
    · simp only [foot, hb] at hk
      cases hk
      exact ⟨hH.og, hH.nz, fun j oj hj hf => hH.nf ⟨j, oj, hj, hf⟩⟩
  exact ⟨_, push_le, hb, g1, g2⟩
theorem lzOp_late (hty : TyOk C.P C.ty) (hm : Md C.ty C.pl G fz0 w0 ρ st w) (ht : TmOk ρ st.ni st.nb tm a) {V : Nat → Value} {x : Obj} (hmk : Makes C.P o a V x) {B : Nat} (hB : w.heap[B]? = some x) (hH : Hidn G w0 ρ st w B) {k : SV → St → T} (h : (lzOp C tm st k o.op).wp C.ty F ρ.is Q) :
    ∃ ρ' st' v, ρ.le ρ' ∧ Md C.ty C.pl (fun k => feet ρ st.mem k ∨ k = B) ρ.fz w ρ' st' w ∧ st'.df = st.df ∧ v.ty ρ' ∧ V B = v.den ρ' ∧ (k v st').wp C.ty F ρ'.is Q := by
  have hmR := hm.rebase
  have hHR : Hidn (fun k => feet ρ st.mem k ∨ k = B) w ρ st w B := ⟨hH.lt, hH.nf, hH.nz, .inr (.inr rfl)⟩
  unfold lzOp at h
  split at h
  · rename_i t ho
    unfold eAlloc at h
    split at h
    · rename_i cs hz
      obtain ⟨i, z, hi, hz1, hz2, hz3, _⟩ := zeroL_info hty hz
      have hmk2 : Makes C.P o a (fun n => .pointer (some ⟨n, 0, none⟩)) (.cells (SV.dens ρ cs).toArray t) := fun w => by
        unfold execOp
        simp only [ho, Instr.alloc, Sem.run_bind, run_zero hi hz1, Result.andThen_ok, newVar, newRow, run_newObj, Sem.run_pure, hz2 ρ]
        rfl
      obtain ⟨u1, rfl⟩ := hmk.uniq hmk2
      obtain ⟨ρ', hle, hb, hm', hd⟩ := lateCells (hmR.weakG fun k hk => Or.inl hk) hHR hB h (hz3 ρ)
      exact ⟨ρ', _, .ptr st.nb 0, hle, hm', rfl, trivial, by rw [u1]; simp only [SV.den, hb], hd⟩
    · exact h.elim
  · rename_i t x' ho
    unfold eBox at h
    split at h
    · rename_i v hv
      split at h
      · rename_i cs hcs
        have ev := evO_den ht hm.hpc hv
        have hmk2 : Makes C.P o a (fun n => .pointer (some ⟨n, 0, none⟩)) (.cells (SV.dens ρ cs).toArray t) := fun w => by
          unfold execOp
          simp only [ho, ev, Instr.box, Sem.run_bind, newVar, newRow, run_newObj, Result.andThen_ok, Sem.run_pure, cellsOf_spec hcs ρ]
          rfl
        obtain ⟨u1, rfl⟩ := hmk.uniq hmk2
        obtain ⟨ρ', hle, hb, hm', hd⟩ := lateCells (hmR.weakG fun k hk => Or.inl hk) hHR hB h (cellsOf_ty hcs (evO_ty ht hm.hpc hv))
        exact ⟨ρ', _, .ptr st.nb 0, hle, hm', rfl, trivial, by rw [u1]; simp only [SV.den, hb], hd⟩
      · exact h.elim
    · exact h.elim
  · rename_i t x' y ho
    unfold eMakeSlice at h
    split at h
    · rename_i e n kx xa ky ya htd hx hy
      split at h
      · rename_i z hz
        split at h
        · rename_i za f hzd
          cases hc : (xa.beq ya && makeFit C.ty (un e) n) <;> rw [hc] at h <;> simp only [cond_true, cond_false] at h
          · exact h.elim
          · simp only [Bool.and_eq_true] at hc
            have := A.beq_eq hc.1
            subst this
            obtain ⟨i, hi, hsz, hby⟩ := makeFit_ok hty hc.2
            obtain ⟨i', z', hi', hz1, hz2, hz3, hz4, hz5⟩ := zeroL_info hty hz
            cases hi.symm.trans hi'
            obtain ⟨_, d1, _, _, _, hu1, _, hm1, _⟩ := tdOf_info hty htd (by simp)
            obtain ⟨rfl, i2, hi2, hs2⟩ := mkTD_slice hm1
            have hzl : z.length = n := by
              have := hc.2
              unfold makeFit at this
              split at this
              · rename_i te hte
                simp only [Bool.and_eq_true] at this
                have h1 := beq_nat this.1.1
                have h2 := this.2
                unfold zlen at h2
                split at h2
                · rename_i zz hzz
                  unfold zeroL at hz
                  rw [hte] at hz
                  simp only at hz
                  rw [hzz] at hz
                  have := beq_nat h2
                  injection hz with hz
                  subst hz
                  omega
                · cases h2
              · cases this
            have hxe := evO_den ht hm.hpc hx
            have hye := evO_den ht hm.hpc hy
            have run : 0 ≤ xa.int ρ.is → xa.int ρ.is ≤ 1099511627776 → Makes C.P o a (fun m => .slice (some ⟨m, 0, none⟩) (xa.int ρ.is).toNat (xa.int ρ.is).toNat) (.cells (SV.dens ρ (repeatL (xa.int ρ.is).toNat z)).toArray (un e)) := by
              intro h0 h1 w
              have hb : (i.bytes : Int) * (xa.int ρ.is) ≤ 281474976710656 := by
                have : (i.bytes : Int) * (xa.int ρ.is) ≤ 256 * 1099511627776 := Int.mul_le_mul (by omega) h1 h0 (by omega)
                omega
              have := run_make (P := C.P) w t (un e) i z' hu1 hi hz1 kx ky (xa.int ρ.is) (xa.int ρ.is) h0 (Int.le_refl _) hb (by omega)
              unfold execOp
              simp only [ho, Sem.run_bind, hxe, hye, SV.den, this, Result.andThen_ok, Sem.run_pure]
              rw [hsz, hz2 ρ]
              unfold madeCells
              rw [repeat_cells ρ z n hzl]
            split at h
            · rename_i m e2 s2 hlm _
              cases hc2 : (Nat.ble m 100 && Nat.beq n 1) <;> rw [hc2] at h <;> simp only [cond_true, cond_false] at h
              · exact h.elim
              · simp only [Bool.and_eq_true] at hc2
                have hmi := litNatA_ok hlm ρ.is
                have hml := ble_nat hc2.1
                obtain ⟨u1, rfl⟩ := hmk.uniq (run (by omega) (by omega))
                have htn : (xa.int ρ.is).toNat = m := by omega
                rw [htn] at hB
                obtain ⟨ρ', hle, hb, hm', hd⟩ := lateCells (hmR.weakG fun k hk => Or.inl hk) hHR hB h (tys_of_mem fun v hv => tys_mem (hz3 ρ) v (repeatL_mem hv))
                exact ⟨ρ', _, .slice st.nb 0 m m, hle, hm', rfl, trivial, by rw [u1, htn]; simp only [SV.den, hb], hd⟩
            · obtain ⟨ρ', ρ1', g1, g2, g3, g4, g5, g6, g7⟩ := (toD_all hty 60).1 hzd hmR.fsR hm.hpc hm.hpw (hz4 _ _) hz5 (hz3 ρ)
              obtain ⟨hm1, h⟩ := bindF_ok h g1 g2
              obtain ⟨b, p, hb, hm2, h⟩ := condB_ok hm1 h
              cases b <;> simp only [cond_true, cond_false] at h
              · obtain ⟨b, p2, hb2, hm3, h⟩ := condB_ok hm2 h
                cases b <;> simp only [cond_true, cond_false] at h
                · rw [Go.SY.B.den_mkLt] at hb hb2
                  have hb := of_decide_eq_false hb
                  have hb2 := of_decide_eq_false hb2
                  rw [int_n] at hb hb2
                  have hxw : xa.wf st.ni = true := by have := evO_wf ht hx; simpa [SV.wf] using this
                  have hxd : xa.den ρ1'.is = xa.den ρ.is := by
                    rw [Env.A_app g1.he.le (by rw [g2.is, hm.hni]; exact hxw), g2.is]
                  have hxi : xa.int ρ1'.is = xa.int ρ.is := by simp only [A.int, hxd]
                  rw [hxi] at hb hb2
                  obtain ⟨u1, rfl⟩ := hmk.uniq (run (by omega) (by omega))
                  obtain ⟨ρ2, rr, st', l1, l2, l3, l4, l5, l6, hm4, h⟩ := bind1_ok hm3 h
                  have hH4 := Hidn.step (G := fun k => feet ρ st.mem k ∨ k = B) (w0 := w) hHR hm4 hH.nf
                  obtain ⟨ρ3, q1, q2, q3, q4⟩ := newRow_ok (hm4.weakG fun k hk => (Or.inl hk : feet ρ st.mem k ∨ k = B)) h (V := .slice (some ⟨B, 0, none⟩) (xa.int ρ.is).toNat (xa.int ρ.is).toNat) (by
                    rw [l2]
                    simp only [E.den, hxi]
                    refine .inr ⟨_, B, (xa.int ρ.is).toNat, SV.dens ρ (repeatL (xa.int ρ.is).toNat z), rfl, by rw [List.length_replicate], ?_, ?_⟩
                    · rw [List.length_replicate]
                      refine ⟨by rw [dens_length, repeatL_length z n hzl], .inr ⟨B, _, _, rfl, Nat.zero_le _, hB, Nat.le_refl _, by simp only [maxLen]; omega, ?_, ?_⟩⟩
                      · simp only [List.size_toArray, dens_length, repeatL_length z n hzl]
                      · simp only [List.toList_toArray]
                        rw [List.take_of_length_le (by rw [dens_length, repeatL_length z n hzl]; exact Nat.le_refl _)]
                    · refine repC_replicate hzl (rep_mono ?_ g7) _
                      have := l1.fz
                      rw [g1.he.fz] at this
                      exact this) (fun kk hkk => by
                    simp only [Value.ownBlock] at hkk
                    cases hkk
                    exact ⟨.inr (.inr rfl), hH4.nz, fun j oj hj hf => hH4.nf ⟨j, oj, hj, hf⟩⟩)
                  exact ⟨ρ3, _, .sl _, Env.le_trans (Env.le_trans (Env.le_trans g2.le g1.he.le) l1) q1, q3, l6, trivial, by rw [u1]; exact q2.symm, q4⟩
                · exact h.elim
              · exact h.elim
        · exact h.elim
      · exact h.elim
    · exact h.elim
  · exact h.elim
theorem stableO_spec {pre : Nat} {v : Operand} : ∀ {l : List Ro}, stableO pre v l = true → ∀ r ∈ l, ∀ t, v = .tmp t → r.o.dst = some t → Nat.testBit pre r.i = true
  | [], _, _, h, _, _, _ => nomatch h
  | x :: l, h, r, hr, t, hv, hd => by
    simp only [stableO, Bool.and_eq_true, Bool.or_eq_true] at h
    rcases List.mem_cons.1 hr with rfl | hr
    · rcases h.1 with h1 | h1
      · have h2 := beq_nat h1
        rw [hd, hv] at h2
        have := land_zero (t := t) h2 (by simp [dstM])
        simp [opM] at this
      · exact h1
    · exact stableO_spec h.2 r hr t hv hd
theorem lzM_bit {cand : Nat} {all : List Ro} {j : Nat} : ∀ {l : List Ro}, Nat.testBit (lzM cand all l) j = true → ∃ r ∈ l, r.i = j ∧ lzOk cand all r = true
  | [], h => by simp [lzM] at h
  | x :: l, h => by
    simp only [lzM] at h
    cases hx : lzOk cand all x <;> rw [hx] at h <;> simp only [cond_true, cond_false] at h
    · obtain ⟨r, h1, h2⟩ := lzM_bit h
      exact ⟨r, .tail _ h1, h2⟩
    · rw [lor_bit, pow_bit, Bool.or_eq_true, decide_eq_true_eq] at h
      rcases h with h | h
      · exact ⟨x, .head _, h, hx⟩
      · obtain ⟨r, h1, h2⟩ := lzM_bit h
        exact ⟨r, .tail _ h1, h2⟩
theorem candM_bit {r : Ro} : ∀ {l : List Ro}, r ∈ l → lzCand r = true → Nat.testBit (candM l) r.i = true
  | [], h, _ => nomatch h
  | x :: l, h, hc => by
    simp only [candM]
    rcases List.mem_cons.1 h with rfl | h
    · rw [hc]; simp only [cond_true, lor_bit, pow_bit]; simp
    · have := candM_bit h hc
      cases lzCand x <;> simp only [cond_true, cond_false, lor_bit, this, Bool.or_true]
theorem stableOs_spec {pre : Nat} {all : List Ro} : ∀ {l : List Operand}, stableOs pre all l = true → ∀ v ∈ l, stableO pre v all = true
  | [], _, _, h => nomatch h
  | x :: l, h, v, hv => by
    simp only [stableOs, Bool.and_eq_true] at h
    rcases List.mem_cons.1 hv with rfl | hv
    · exact h.1
    · exact stableOs_spec h.2 v hv
theorem onlyW_spec {i d : Nat} : ∀ {l : List Ro}, onlyW i d l = true → ∀ r ∈ l, r.i ≠ i → Nat.land (dstM r.o.dst) d = 0
  | [], _, _, h, _ => nomatch h
  | x :: l, h, r, hr, hne => by
    simp only [onlyW, Bool.and_eq_true, Bool.or_eq_true] at h
    rcases List.mem_cons.1 hr with rfl | hr
    · rcases h.1 with h1 | h1
      · exact absurd (beq_nat h1) hne
      · exact beq_nat h1
    · exact onlyW_spec h.2 r hr hne
structure LzI (ops : Array Oper) (lz i : Nat) (o : Oper) (d : Nat) : Prop where
  get : ops[i]? = some o
  isl : isLz o.op = true
  gd : o.guard = none
  dst : o.dst = some d
  pre : ∀ y, Nat.testBit (preM o.after.toList) y = true → Nat.testBit lz y = false
  stab : ∀ v ∈ lzOps o.op, ∀ (j : Nat) (oj : Oper) t, ops[j]? = some oj → v = .tmp t → oj.dst = some t → Nat.testBit (preM o.after.toList) j = true
  only : ∀ (j : Nat) (oj : Oper), ops[j]? = some oj → j ≠ i → oj.dst ≠ some d
def LzOk (ops : Array Oper) (lz : Nat) : Prop := ∀ i, Nat.testBit lz i = true → ∃ o d, LzI ops lz i o d
theorem LzOk.zero (ops : Array Oper) : LzOk ops 0 := fun i h => by rw [Nat.zero_testBit] at h; cases h
theorem lzOf_ok (ops : Array Oper) : LzOk ops (lzOf (rosOf ops)) := by
  intro i hi
  obtain ⟨r, h1, rfl, h3⟩ := lzM_bit hi
  obtain ⟨i, o, ho, rfl⟩ := rosOf_mem h1
  have h3' := h3
  unfold lzOk at h3
  simp only [Bool.and_eq_true] at h3
  obtain ⟨⟨⟨c1, c2⟩, c3⟩, c4⟩ := h3
  have c1' := c1
  unfold lzCand at c1
  simp only [Bool.and_eq_true] at c1
  obtain ⟨d1, d2⟩ := c1
  split at d2
  · rename_i d hg hd
    have hg : o.guard = none := hg
    have hd : o.dst = some d := hd
    refine ⟨o, d, ho, d1, hg, hd, fun y hy => ?_, fun v hv j oj t hj hvt hdt => ?_, fun j oj hj hne hdj => ?_⟩
    · cases hb : Nat.testBit (lzOf (rosOf ops)) y
      · rfl
      · obtain ⟨r', q1, rfl, q3⟩ := lzM_bit hb
        unfold lzOk at q3
        simp only [Bool.and_eq_true] at q3
        have q4 := candM_bit q1 q3.1.1.1
        have := land_zero (beq_nat c2) hy
        rw [q4] at this; cases this
    · exact stableO_spec (stableOs_spec c3 v hv) (roOf ops oj j) (List.mem_of_getElem? (rosOf_get hj)) t hvt hdt
    · have := onlyW_spec c4 (roOf ops oj j) (List.mem_of_getElem? (rosOf_get hj)) hne
      rw [show (roOf ops oj j).o = oj from rfl, show (roOf ops o i).o = o from rfl, hdj, hd] at this
      have := land_zero (t := d) this (by simp [dstM])
      simp [dstM] at this
  · cases d2
structure MkL (ops : Array Oper) (lz m dz : Nat) (listed : Array Bool) : Prop where
  size : listed.size = ops.size
  bit : ∀ i, (Nat.testBit m i || Nat.testBit dz i) = listed.getD i false
  dj : ∀ i, Nat.testBit dz i = true → Nat.testBit m i = false
  sub : ∀ i, Nat.testBit dz i = true → Nat.testBit lz i = true
theorem MkL.of {ops : Array Oper} {lz m : Nat} {listed : Array Bool} (h : MkOk ops m listed) : MkL ops lz m 0 listed := ⟨h.1, fun i => by rw [Nat.zero_testBit, Bool.or_false]; exact h.2 i, (fun i h => by rw [Nat.zero_testBit] at h; cases h), (fun i h => by rw [Nat.zero_testBit] at h; cases h)⟩
theorem xor_bit (x y i : Nat) : Nat.testBit (Nat.xor x y) i = (Nat.testBit x i != Nat.testBit y i) := Nat.testBit_xor x y i
theorem MkL.lt {ops : Array Oper} {lz m dz : Nat} {listed : Array Bool} (hk : MkL ops lz m dz listed) {i : Nat} {o : Oper} (ho : ops[i]? = some o) : i < listed.size := by rw [hk.size]; exact (Array.getElem?_eq_some_iff.1 ho).1
theorem MkL.set {ops : Array Oper} {lz m dz : Nat} {listed : Array Bool} (hk : MkL ops lz m dz listed) {i : Nat} {o : Oper} (ho : ops[i]? = some o) (hi : listed.getD i false = false) : MkL ops lz (Nat.lor m (2 ^ i)) dz (listed.setIfInBounds i true) := by
  refine ⟨by simp [hk.size], fun j => ?_, fun j hj => ?_, hk.sub⟩
  · rw [lor_bit, pow_bit]
    by_cases hij : i = j
    · subst hij; simp [hk.lt ho]
    · rw [getD_set_ne false hij, ← hk.bit]; simp [hij]
  · rw [lor_bit, pow_bit, hk.dj j hj]
    by_cases hij : i = j
    · subst hij
      have := hk.bit i
      rw [hj, hi, Bool.or_true] at this; cases this
    · simp [hij]
theorem MkL.made {ops : Array Oper} {lz m dz : Nat} {listed : Array Bool} (hk : MkL ops lz m dz listed) {i : Nat} {o : Oper} (ho : ops[i]? = some o) (hi : listed.getD i false = false) (hl : Nat.testBit lz i = true) : MkL ops lz m (Nat.lor dz (2 ^ i)) (listed.setIfInBounds i true) := by
  have h0 := hk.bit i
  rw [hi, Bool.or_eq_false_iff] at h0
  refine ⟨by simp [hk.size], fun j => ?_, fun j hj => ?_, fun j hj => ?_⟩
  · rw [lor_bit, pow_bit]
    by_cases hij : i = j
    · subst hij; simp [hk.lt ho]
    · rw [getD_set_ne false hij, ← hk.bit]; simp [hij]
  · rw [lor_bit, pow_bit, Bool.or_eq_true, decide_eq_true_eq] at hj
    rcases hj with hj | rfl
    · exact hk.dj j hj
    · exact h0.1
  · rw [lor_bit, pow_bit, Bool.or_eq_true, decide_eq_true_eq] at hj
    rcases hj with hj | rfl
    · exact hk.sub j hj
    · exact hl
theorem MkL.told {ops : Array Oper} {lz m dz : Nat} {listed : Array Bool} (hk : MkL ops lz m dz listed) {i : Nat} (hi : Nat.testBit dz i = true) : MkL ops lz (Nat.lor m (2 ^ i)) (Nat.xor dz (2 ^ i)) listed := by
  have key : ∀ j, i ≠ j → Nat.testBit (Nat.xor dz (2 ^ i)) j = Nat.testBit dz j := fun j hj => by rw [xor_bit, pow_bit]; simp [hj]
  have keyi : Nat.testBit (Nat.xor dz (2 ^ i)) i = false := by rw [xor_bit, pow_bit, hi]; simp
  refine ⟨hk.size, fun j => ?_, fun j hj => ?_, fun j hj => ?_⟩
  · rw [lor_bit, pow_bit]
    by_cases hij : i = j
    · subst hij
      have := hk.bit i
      rw [hi, Bool.or_true] at this
      rw [← this]; simp
    · rw [key j hij, ← hk.bit]; simp [hij]
  · by_cases hij : i = j
    · subst hij; rw [keyi] at hj; cases hj
    · rw [key j hij] at hj
      rw [lor_bit, pow_bit, hk.dj j hj]; simp [hij]
  · by_cases hij : i = j
    · subst hij; rw [keyi] at hj; cases hj
    · rw [key j hij] at hj; exact hk.sub j hj
def HZ (C : Cfg) (G : Nat → Prop) (w0 : World) (ρ : Env) (st : St) (w : World) (a : Act) (ops : Array Oper) (dz : Nat) : Prop :=
  ∃ Bf : Nat → Nat, (∀ i, Nat.testBit dz i = true → ∃ o d V x, ops[i]? = some o ∧ o.dst = some d ∧ Makes C.P o a V x ∧ w.heap[Bf i]? = some x ∧ Hidn G w0 ρ st w (Bf i) ∧ a.tmps.getD d undef = V (Bf i)) ∧ ∀ i j, Nat.testBit dz i = true → Nat.testBit dz j = true → Bf i = Bf j → i = j
theorem HZ.zero {ops : Array Oper} : HZ C G w0 ρ st w a ops 0 := ⟨fun _ => 0, (fun i h => by rw [Nat.zero_testBit] at h; cases h), (fun i j h => by rw [Nat.zero_testBit] at h; cases h)⟩
theorem lz_agr {ops : Array Oper} {lz m dz : Nat} {listed : Array Bool} (hlz : LzOk ops lz) (hk : MkL ops lz m dz listed) (hdn : Dn ops listed) {j : Nat} {oj : Oper} (hoj : ops[j]? = some oj) (hj : listed.getD j false = false) {a a' : Act} (hag : Agr oj a a') {i : Nat} (hi : Nat.testBit dz i = true) {o : Oper} {d : Nat} (ho : ops[i]? = some o) (hd : o.dst = some d) :
    (∀ {V : Nat → Value} {x : Obj}, Makes C.P o a V x → Makes C.P o a' V x) ∧ a'.tmps.getD d undef = a.tmps.getD d undef := by
  obtain ⟨o', d', hI⟩ := hlz i (hk.sub i hi)
  have := hI.get; rw [ho] at this; cases this
  have := hI.dst; rw [hd] at this; cases this
  have hil : listed.getD i false = true := by rw [← hk.bit, hi, Bool.or_true]
  have hne : j ≠ i := fun e => by rw [e, hil] at hj; cases hj
  refine ⟨fun h => h.agr hI.isl fun v hv => eval_agr fun t ht => hag t fun hdj => ?_, hag d (hI.only j oj hoj hne)⟩
  have hp := hI.stab v hv j oj t hoj ht hdj
  obtain ⟨e, he, hb, rfl⟩ := preM_bit.1 hp
  have := hdn i o e hil ho (by simpa using he) hb
  rw [this] at hj; cases hj
theorem HZ.step {ops : Array Oper} {lz m dz : Nat} {listed : Array Bool} (hz : HZ C G w0 ρ st w a ops dz) (hlz : LzOk ops lz) (hk : MkL ops lz m dz listed) (hdn : Dn ops listed) {j : Nat} {oj : Oper} (hoj : ops[j]? = some oj) (hj : listed.getD j false = false) {a' : Act} (hag : Agr oj a a') {st' : St} (hm' : Md C.ty C.pl (feet ρ st.mem) ρ.fz w ρ' st' w') : HZ C G w0 ρ' st' w' a' ops dz := by
  obtain ⟨Bf, h1, h2⟩ := hz
  refine ⟨Bf, fun i hi => ?_, h2⟩
  obtain ⟨o, d, V, x, q1, q2, q3, q4, q5, q6⟩ := h1 i hi
  obtain ⟨g1, g2⟩ := lz_agr (C := C) hlz hk hdn hoj hj hag hi q1 q2
  exact ⟨o, d, V, x, q1, q2, g1 q3, by rw [hm'.below.block _ q5.lt q5.nf]; exact q4, q5.step hm' q5.nf, by rw [g2]; exact q6⟩
theorem HZ.made {ops : Array Oper} {lz m dz : Nat} {listed : Array Bool} (hz : HZ C G w0 ρ st w a ops dz) (hlz : LzOk ops lz) (hk : MkL ops lz m dz listed) (hdn : Dn ops listed) (hm : Md C.ty C.pl G fz0 w0 ρ st w) {j : Nat} {oj : Oper} (hoj : ops[j]? = some oj) (hj : listed.getD j false = false) {d : Nat} (hd : oj.dst = some d) (hlt : d < a.tmps.size) (hl : Nat.testBit lz j = true) {V : Nat → Value} {x : Obj} (hmk : Makes C.P oj a V x) :
    HZ C G w0 ρ st (w.alloc x) (a.put oj.dst (V w.heap.size)) ops (Nat.lor dz (2 ^ j)) := by
  obtain ⟨Bf, h1, h2⟩ := hz
  have hag : Agr oj a (a.put oj.dst (V w.heap.size)) := agr_put rfl
  have hgb := World.grownBy_alloc w x none
  obtain ⟨f1, f2, f3⟩ := fresh_ok hm (Nat.le_refl w.heap.size)
  have hnew := heap_alloc_new w x
  have hold : ∀ i, Nat.testBit (Nat.lor dz (2 ^ j)) i = true → i ≠ j → Nat.testBit dz i = true := fun i hi hne => by
    rw [lor_bit, pow_bit, Bool.or_eq_true, decide_eq_true_eq] at hi
    exact hi.resolve_right fun e => hne e.symm
  have hBlt : ∀ i, Nat.testBit dz i = true → Bf i < w.heap.size := fun i hi => by
    obtain ⟨_, _, _, _, _, _, _, _, q5, _⟩ := h1 i hi
    exact q5.lt
  refine ⟨fun i => if i = j then w.heap.size else Bf i, fun i hi => ?_, fun i i' hi hi' he => ?_⟩
  · by_cases hij : i = j
    · subst hij
      obtain ⟨o', d', hI⟩ := hlz i hl
      have := hI.get; rw [hoj] at this; cases this
      have := hI.dst; rw [hd] at this; cases this
      have hmk' : Makes C.P oj (a.put oj.dst (V w.heap.size)) V x := hmk.agr hI.isl fun v hv => eval_agr fun t ht => hag t fun hdj => by
        have hp := hI.stab v hv i oj t hoj ht hdj
        have h3 := hI.pre i hp
        rw [hl] at h3; cases h3
      refine ⟨oj, d, V, x, hoj, hd, hmk', by simpa using hnew, ?_, ?_⟩
      · simp only [if_pos]
        exact ⟨(Array.getElem?_eq_some_iff.1 hnew).1, fun ⟨j', oj', hj', hf⟩ => f3 j' oj' hj' hf, f2, f1⟩
      · rw [hd]
        simp [Act.put, hlt]
    · have hi0 := hold i hi hij
      obtain ⟨o, d0, V0, x0, q1, q2, q3, q4, q5, q6⟩ := h1 i hi0
      obtain ⟨g1, g2⟩ := lz_agr (C := C) hlz hk hdn hoj hj hag hi0 q1 q2
      refine ⟨o, d0, V0, x0, q1, q2, g1 q3, ?_, ?_, by rw [g2]; simpa [hij] using q6⟩
      · simp only [if_neg hij]
        rw [hgb.block _ q5.lt (by simp)]; exact q4
      · simp only [if_neg hij]
        exact ⟨Nat.lt_of_lt_of_le q5.lt hgb.size, q5.nf, q5.nz, q5.og⟩
  · by_cases hij : i = j
    · by_cases hij' : i' = j
      · rw [hij, hij']
      · simp only [if_pos hij, if_neg hij'] at he
        have := hBlt i' (hold i' hi' hij'); omega
    · by_cases hij' : i' = j
      · simp only [if_neg hij, if_pos hij'] at he
        have := hBlt i (hold i hi hij); omega
      · simp only [if_neg hij, if_neg hij'] at he
        exact h2 i i' (hold i hi hij) (hold i' hi' hij') he
theorem putT_lt' {t : Tmp} {v : SV} {k : Tm → St → T} (ht : TmOk ρ st.ni st.nb tm a) (h : (putT tm (some t) v st k).wp C.ty F ρ.is Q) : t < a.tmps.size := by
  unfold putT at h
  simp only at h
  split at h
  · rename_i u hu; exact (ht t u hu).1
  · exact h.elim
theorem put_same {d : Nat} (h : d < a.tmps.size) : a.put (some d) (a.tmps.getD d undef) = a := by
  obtain ⟨tmps, defers⟩ := a
  simp only [Act.put]
  congr 1
  apply Array.ext_getElem?
  intro i
  rw [Array.getElem?_setIfInBounds]
  split
  · rename_i hij
    subst hij
    have h' : d < tmps.size := h
    simp [h']
  · rfl
theorem tell1 (hty : TyOk C.P C.ty) {ops : Array Oper} {lz m dz : Nat} {listed : Array Bool} (hk : MkL ops lz m dz listed) (hm : Md C.ty C.pl G fz0 w0 ρ st w) (ht : TmOk ρ st.ni st.nb tm a) (hz : HZ C G w0 ρ st w a ops dz) {i : Nat} {o : Oper} (ho : ops[i]? = some o) (hi : Nat.testBit dz i = true) {k : Tm → St → T} (h : (lzOp C tm st (fun v st => putT tm o.dst v st k) o.op).wp C.ty F ρ.is Q) :
    ∃ ρ' st' tm', ρ.le ρ' ∧ Md C.ty C.pl G fz0 w0 ρ' st' w ∧ TmOk ρ' st'.ni st'.nb tm' a ∧ st'.df = st.df ∧ HZ C G w0 ρ' st' w a ops (Nat.xor dz (2 ^ i)) ∧ (k tm' st').wp C.ty F ρ'.is Q := by
  obtain ⟨Bf, h1, h2⟩ := hz
  obtain ⟨o', d, V, x, q1, q2, q3, q4, q5, q6⟩ := h1 i hi
  rw [ho] at q1; cases q1
  obtain ⟨ρ', st', v, l1, l2, l3, l4, l5, l6⟩ := lzOp_late hty hm ht q3 q4 q5 h
  have hmU := hm.unbase2 l2 (fun k hk => by
    rcases hk with ⟨j, oj, hj, hf⟩ | rfl
    · exact (hm.own j oj k hj hf).1
    · exact q5.og)
  have ht' := hm.tmok hmU l1 ht
  rw [q2] at l6
  have hlt := putT_lt' ht' l6
  obtain ⟨tm', r1, r2⟩ := putT_ok ht' l6 l4 rfl
  have hsame : a.put (some d) (v.den ρ') = a := by rw [← l5, ← q6]; exact put_same hlt
  rw [hsame] at r1
  refine ⟨ρ', st', tm', l1, hmU, r1, l3, ⟨Bf, fun j hj => ?_, fun j j' hj hj' => ?_⟩, r2⟩
  · have hne : i ≠ j := fun e => by subst e; rw [xor_bit, pow_bit, hi] at hj; simp at hj
    have hj0 : Nat.testBit dz j = true := by rw [xor_bit, pow_bit] at hj; simpa [hne] using hj
    obtain ⟨o1, d1, V1, x1, p1, p2, p3, p4, p5, p6⟩ := h1 j hj0
    exact ⟨o1, d1, V1, x1, p1, p2, p3, p4, p5.step l2 (by
      rintro (hf | he)
      · exact p5.nf hf
      · exact hne (h2 j i hj0 hi he).symm), p6⟩
  · have key : ∀ j, Nat.testBit (Nat.xor dz (2 ^ i)) j = true → Nat.testBit dz j = true := fun j hj => by
      by_cases hij : i = j
      · subst hij; exact hi
      · rw [xor_bit, pow_bit] at hj; simpa [hij] using hj
    exact h2 j j' (key j hj) (key j' hj')
theorem MkL.free {ops : Array Oper} {lz m dz : Nat} {listed : Array Bool} (hk : MkL ops lz m dz listed) {i : Nat} {o : Oper} (hf : (roOf ops o i).free m = true) :
    ∀ j oj, ops[j]? = some oj → j ≠ i → listed.getD j true = false → (∀ e ∈ oj.after, Region.binds .any e = true → e.on ≠ i) → o.apart ops oj = true := by
  intro j oj hj hne hun hno
  rw [getD_tf (hk.lt hj), ← hk.bit, Bool.or_eq_false_iff] at hun
  have hy : rmOf ops oj j ∈ mkRm ops ops.toList 0 := by
    refine List.mem_of_getElem? (i := j) ?_
    rw [mkRm_get]
    have : ops.toList[j]? = some oj := by simpa using hj
    rw [this]; simp
  have hb : Nat.testBit (cfM (rmOf ops o i) (mkRm ops ops.toList 0)) (rmOf ops oj j).i = false := by
    cases hb : Nat.testBit (cfM (rmOf ops o i) (mkRm ops ops.toList 0)) (rmOf ops oj j).i
    · rfl
    · have := land_eq (beq_nat hf) hb
      rw [show (rmOf ops oj j).i = j from rfl] at this
      rw [this] at hun; cases hun.1
  rcases cfM_spec hy hb with h | h | h
  · exact absurd h.symm hne
  · obtain ⟨e, he, hbd, hon⟩ := preM_bit.1 h
    exact absurd hon (hno e (by simpa using he) hbd)
  · exact apart_of h.1 h.2
theorem isLz_take {dstOf : Nat → Option Tmp} {L : Pl} {mem0 : Tb SO} (h : isLz o.op = true) (hg : o.guard = none) : takeV C dstOf mem0 L o tm st = none := by
  unfold takeV
  rw [hg]
  cases hop : o.op <;> rw [hop] at h <;> simp only [isLz] at h <;> first
    | (cases h; done)
    | simp only [takeP, hop, pureOp, heldLoad]
theorem tellL (hty : TyOk C.P C.ty) {ops : Array Oper} {lz : Nat} {listed : Array Bool} {k : Tm → St → T} : ∀ (nl : List Ro) {ps : List Ro} {m dz : Nat} {ρ : Env} {st : St} {tm : Tm}, (nl.map (·.i)).Nodup → (∀ r ∈ nl, ∃ i o, ops[i]? = some o ∧ r = roOf ops o i ∧ Nat.testBit dz i = true) → PsOk ops m ps → MkL ops lz m dz listed → Md C.ty C.pl G fz0 w0 ρ st w → TmOk ρ st.ni st.nb tm a → HZ C G w0 ρ st w a ops dz → (resL C nl tm st k).wp C.ty F ρ.is Q →
    ∃ ρ' st' tm' dz', ρ.le ρ' ∧ Md C.ty C.pl G fz0 w0 ρ' st' w ∧ TmOk ρ' st'.ni st'.nb tm' a ∧ st'.df = st.df ∧ HZ C G w0 ρ' st' w a ops dz' ∧ MkL ops lz (addM nl m) dz' listed ∧ PsOk ops (addM nl m) (dropL nl ps) ∧ (k tm' st').wp C.ty F ρ'.is Q
  | [], ps, m, dz, ρ, st, tm, _, _, hps, hk, hm, ht, hz, h => ⟨ρ, st, tm, dz, Env.le_refl ρ, hm, ht, rfl, hz, hk, hps, h⟩
  | r :: rs, ps, m, dz, ρ, st, tm, hnd, hin, hps, hk, hm, ht, hz, h => by
    simp only [List.map_cons, List.nodup_cons] at hnd
    obtain ⟨i, o, ho, rfl, hi⟩ := hin r (.head _)
    simp only [resL] at h
    obtain ⟨ρ1, st1, tm1, l1, l2, l3, l4, l5, l6⟩ := tell1 hty hk hm ht hz ho hi h
    obtain ⟨ρ2, st2, tm2, dz2, q1, q2, q3, q4, q5, q6, q7, q8⟩ := tellL hty rs (ps := dropRo i ps) (m := Nat.lor m (2 ^ i)) hnd.2 (fun r hr => by
      obtain ⟨j, oj, hoj, rfl, hj⟩ := hin r (.tail _ hr)
      refine ⟨j, oj, hoj, rfl, ?_⟩
      have hne : i ≠ j := fun e => hnd.1 (by subst e; exact List.mem_map.2 ⟨_, hr, rfl⟩)
      rw [xor_bit, pow_bit, hj]; simp [hne]) (hps.drop i) (hk.told hi) l2 l3 l5 l6
    exact ⟨ρ2, st2, tm2, dz2, Env.le_trans l1 q1, q2, q3, q4.trans l4, q5, q6, q7, q8⟩
theorem needL_mem {bf : Tb Nat} {lz m : Nat} {c r : Ro} : ∀ {l : List Ro}, r ∈ needL bf lz m c l ↔ r ∈ l ∧ Nat.testBit lz r.i = true ∧ Nat.testBit m r.i = false ∧ Nat.testBit (ndM bf c) r.i = true
  | [] => by simp [needL]
  | x :: l => by
    have ih := needL_mem (bf := bf) (lz := lz) (m := m) (c := c) (r := r) (l := l)
    simp only [needL]
    cases hx : (Nat.testBit lz x.i && !Nat.testBit m x.i && Nat.testBit (ndM bf c) x.i) <;> simp only [cond_true, cond_false, List.mem_cons, ih]
    · constructor
      · rintro ⟨h1, h2⟩; exact ⟨.inr h1, h2⟩
      · rintro ⟨rfl | h1, h2⟩
        · rw [h2.1, h2.2.1, h2.2.2] at hx; cases hx
        · exact ⟨h1, h2⟩
    · simp only [Bool.and_eq_true, Bool.not_eq_true'] at hx
      constructor
      · rintro (rfl | h)
        · exact ⟨.inl rfl, hx.1.1, hx.1.2, hx.2⟩
        · exact ⟨.inr h.1, h.2⟩
      · rintro ⟨rfl | h1, h2⟩
        · exact .inl rfl
        · exact .inr ⟨h1, h2⟩
theorem needL_sub {bf : Tb Nat} {lz m : Nat} {c : Ro} : ∀ {l : List Ro}, (needL bf lz m c l).Sublist l
  | [] => .slnil
  | x :: l => by
    simp only [needL]
    cases (Nat.testBit lz x.i && !Nat.testBit m x.i && Nat.testBit (ndM bf c) x.i) <;> simp only [cond_true, cond_false]
    · exact .cons _ needL_sub
    · exact .cons_cons _ needL_sub
theorem candL_mem {bf : Tb Nat} {lz m : Nat} {r : Ro} : ∀ {l : List Ro}, r ∈ candL bf lz m l ↔ r ∈ l ∧ Nat.testBit lz r.i = false ∧ Nat.land (ndM bf r) (Nat.lor m lz) = ndM bf r
  | [] => by simp [candL]
  | x :: l => by
    have ih := candL_mem (bf := bf) (lz := lz) (m := m) (r := r) (l := l)
    simp only [candL]
    cases hx : (!Nat.testBit lz x.i && Nat.beq (Nat.land (ndM bf x) (Nat.lor m lz)) (ndM bf x)) <;> simp only [cond_true, cond_false, List.mem_cons, ih]
    · constructor
      · rintro ⟨h1, h2⟩; exact ⟨.inr h1, h2⟩
      · rintro ⟨rfl | h1, h2⟩
        · rw [h2.1, h2.2] at hx; simp at hx
        · exact ⟨h1, h2⟩
    · simp only [Bool.and_eq_true, Bool.not_eq_true'] at hx
      constructor
      · rintro (rfl | h)
        · exact ⟨.inl rfl, hx.1, beq_nat hx.2⟩
        · exact ⟨.inr h.1, h.2⟩
      · rintro ⟨rfl | h1, h2⟩
        · exact .inl rfl
        · exact .inr ⟨h1, h2⟩
theorem allNeed_spec {bf : Tb Nat} {i : Nat} : ∀ {l : List Ro}, allNeed bf i l = true → ∀ r ∈ l, Nat.testBit (ndM bf r) i = true
  | [], _, _, h => nomatch h
  | x :: l, h, r, hr => by
    simp only [allNeed, Bool.and_eq_true] at h
    rcases List.mem_cons.1 hr with rfl | hr
    · exact h.1
    · exact allNeed_spec h.2 r hr
theorem firstLz_ok {bf : Tb Nat} {lz m : Nat} {cs : List Ro} {r : Ro} : ∀ {l : List Ro}, firstLz bf lz m cs l = some r → r ∈ l ∧ Nat.testBit lz r.i = true ∧ r.ready m = true ∧ allNeed bf r.i cs = true
  | [], h => by cases h
  | x :: l, h => by
    simp only [firstLz] at h
    cases hx : (Nat.testBit lz x.i && x.ready m && allNeed bf x.i cs) <;> rw [hx] at h <;> simp only [cond_true, cond_false] at h
    · obtain ⟨h1, h2⟩ := firstLz_ok h; exact ⟨.tail _ h1, h2⟩
    · cases h
      simp only [Bool.and_eq_true] at hx
      exact ⟨.head _, hx.1.1, hx.1.2, hx.2⟩
theorem lzFits_spec {lz m : Nat} : ∀ {l : List Ro}, lzFits C tm st lz m l = true → ∀ r ∈ l, Nat.testBit lz r.i = true → r.ready m = true → lzFit C tm st r.o.op = true
  | [], _, _, h, _, _ => nomatch h
  | x :: l, h, r, hr, h1, h2 => by
    simp only [lzFits, Bool.and_eq_true, Bool.or_eq_true, Bool.not_eq_true'] at h
    rcases List.mem_cons.1 hr with rfl | hr
    · rcases h.1 with h3 | h3
      · rw [h1, h2] at h3; cases h3
      · exact h3
    · exact lzFits_spec h.2 r hr h1 h2
theorem lzBots_spec {lz m : Nat} : ∀ {l : List Ro}, lzBots tm lz m l = true → ∀ r ∈ l, Nat.testBit lz r.i = true → Nat.testBit m r.i = false → ∃ d, r.o.dst = some d ∧ tm.get d = some .bot
  | [], _, _, h, _, _ => nomatch h
  | x :: l, h, r, hr, h1, h2 => by
    simp only [lzBots, Bool.and_eq_true, Bool.or_eq_true, Bool.not_eq_true'] at h
    rcases List.mem_cons.1 hr with rfl | hr
    · rcases h.1 with h3 | h3
      · rw [h1, h2] at h3; cases h3
      · split at h3
        · rename_i d hd
          split at h3
          · rename_i hb; exact ⟨d, hd, hb⟩
          · cases h3
        · cases h3
    · exact lzBots_spec h.2 r hr h1 h2
theorem allReady_spec {m : Nat} : ∀ {l : List Ro}, allReady m l = true → ∀ r ∈ l, r.ready m = true
  | [], _, _, h => nomatch h
  | x :: l, h, r, hr => by
    simp only [allReady, Bool.and_eq_true] at h
    rcases List.mem_cons.1 hr with rfl | hr
    · exact h.1
    · exact allReady_spec h.2 r hr
theorem TmOk.putBot {ni nb d : Nat} {v : Value} (ht : TmOk ρ ni nb tm a) (hb : tm.get d = some .bot) : TmOk ρ ni nb tm (a.put (some d) v) := by
  intro i u hu
  obtain ⟨h1, h2⟩ := ht i u hu
  refine ⟨by rw [put_size]; exact h1, ?_⟩
  by_cases hid : d = i
  · subst hid; rw [hb] at hu; cases hu; exact .inl rfl
  · refine h2.imp id fun ⟨q1, q2, q3⟩ => ⟨q1, q2, ?_⟩
    rw [← q3]
    simp [Act.put, Array.getElem?_setIfInBounds_ne hid]
theorem HT.like {k : Tm → St → T} {a' : Act} (h : HT C.ty C.pl F Q G fz0 w0 ρ a next k) (e : a'.tmps.size = a.tmps.size) : HT C.ty C.pl F Q G fz0 w0 ρ a' next k := fun ρ' st' w' tm' a2 h1 h2 h3 h4 h5 => h ρ' st' w' tm' a2 h1 h2 h3 h4 (h5.trans e)
theorem HTP.like {kp : SV → Tm → St → T} {a' : Act} (h : HTP C.ty C.pl F Q G fz0 w0 ρ a QE kp) (e : a'.tmps.size = a.tmps.size) : HTP C.ty C.pl F Q G fz0 w0 ρ a' QE kp := fun ρ' st' w' v tm' a2 h1 h2 h3 h4 h5 => h ρ' st' w' v tm' a2 h1 h2 h3 h4 (h5.trans e)
theorem HT.from {k : Tm → St → T} (h : HT C.ty C.pl F Q G fz0 w0 ρ a next k) (e : ρ.le ρ') : HT C.ty C.pl F Q G fz0 w0 ρ' a next k := fun ρ2 st' w' tm' a2 h1 => h ρ2 st' w' tm' a2 (Env.le_trans e h1)
theorem HTP.from {kp : SV → Tm → St → T} (h : HTP C.ty C.pl F Q G fz0 w0 ρ a QE kp) (e : ρ.le ρ') : HTP C.ty C.pl F Q G fz0 w0 ρ' a QE kp := fun ρ2 st' w' v tm' a2 h1 => h ρ2 st' w' v tm' a2 (Env.le_trans e h1)
theorem sxAny_ok (hty : TyOk C.P C.ty) (hg : GOk C.ty C.gl fz0) {ops : Array Oper} {dstOf : Nat → Option Tmp} (hd : ∀ j, dstOf j = (ops[j]?).bind (·.dst)) (hsel : ∀ (j : Nat) (o : Oper) cs b, ops[j]? = some o → o.op ≠ .select cs b)
    (hQ0 : ∀ (i : Nat) (o : Oper) c a v w, ops[i]? = some o → QE (.panic c) (a.put o.dst v) w → QE (.panic c) a w) {callF : CallF} (hcall : ∀ (G : Nat → Prop) (fz0 : Fz) (w0 : World), GOk C.ty C.gl fz0 → CallOk F Q C G fz0 w0 callF) {k : Tm → St → T} {kp : SV → Tm → St → T} {st0 : St} {ρ0 : Env} {wS : World} (hm0 : Md C.ty C.pl G fz0 w0 ρ0 st0 wS) {hs : Hd} {bf : Tb Nat} (hbf : ∀ j y, Nat.testBit (bfOf bf j) y = true → Clos ops j y) {lz : Nat} (hlz : LzOk ops lz) :
    ∀ (n : Nat) {ps : List Ro} {m D : Nat} {ρ : Env} {st : St} {w : World} {tm : Tm} {a : Act} {fuel : Nat} {listed : Array Bool} {dz : Nat}, PsOk ops m ps → MkL ops lz m dz listed → Dn ops listed → DOk D listed → unc listed.toList ≤ fuel → ρ0.le ρ → Md C.ty C.pl G fz0 w0 ρ st w → TmOk ρ st.ni st.nb tm a → DfOk ρ st.ni st.nb st.df a.defers → (∀ y, Nat.testBit D y = false → Rl C.ty ρ0 st0.mem hs ρ.fz y w) → HZ C G w0 ρ st w a ops dz →
      (sxAny C callF dstOf hs bf lz st0.mem n ps m D tm st k kp).wp C.ty F ρ.is Q → HT C.ty C.pl F Q G fz0 w0 ρ a (QE .normal) k → HTP C.ty C.pl F Q G fz0 w0 ρ a QE kp → wpR C.P ops QE (bfOf bf) (Rl C.ty ρ0 st0.mem hs ρ.fz) fuel listed D a w
  | 0, ps, m, D, ρ, st, w, tm, a, fuel, listed, dz, _, _, _, _, _, _, _, _, _, _, _, h, _, _ => h.elim
  | n + 1, ps, m, D, ρ, st, w, tm, a, fuel, listed, dz, hps, hk, hdn, hDO, hf, hle, hm, ht, hdf, hS, hz, h, hK, hKP => by
    unfold sxAny at h
    have more : ∀ {listed : Array Bool} {fuel : Nat} {i : Nat}, unc listed.toList ≤ fuel → listed.getD i true = false → ∃ f, fuel = f + 1 ∧ unc (listed.setIfInBounds i true).toList ≤ f := by
      intro listed fuel i hf h0
      have hlt : i < listed.size := by
        cases Nat.lt_or_ge i listed.size with
        | inl h => exact h
        | inr h => simp [h] at h0
      have : listed.toList[i]? = some false := by
        simp [hlt] at h0 ⊢; exact h0
      have := unc_set this
      refine ⟨fuel - 1, by omega, ?_⟩
      rw [Array.toList_setIfInBounds]; omega
    split at h
    ·
      have hno : Region.ready .any ops listed = [] := by
        cases hrr : Region.ready .any ops listed with
        | nil => rfl
        | cons i l =>
          obtain ⟨h0, o, ho, _⟩ := mem_ready.1 (show i ∈ Region.ready .any ops listed by rw [hrr]; exact .head _)
          rw [getD_tf (hk.lt ho), ← hk.bit, Bool.or_eq_false_iff] at h0
          have := (hps.mem (roOf ops o i)).2 ⟨i, o, ho, rfl, h0.1⟩
          cases this
      exact wpR_done hno (hK _ _ _ _ _ (Env.le_refl ρ) hm ht hdf rfl h) fuel
    · rename_i p ps
      split at h
      · rename_i y v d hft
        obtain ⟨h1, h1', h2, h3⟩ := findTake_ok hft
        obtain ⟨i, o, ho, rfl, hmi⟩ := (hps.mem _).1 h1
        have hdzi : Nat.testBit dz i = false := by
          cases hb : Nat.testBit dz i
          · rfl
          · obtain ⟨o', d', hI⟩ := hlz i (hk.sub i hb)
            have := hI.get; rw [ho] at this; cases this
            have h4 : takeV C dstOf st0.mem (plOf hs (roOf ops o i).i) (roOf ops o i).o tm st = none := isLz_take hI.isl hI.gd
            rw [h4] at h3; cases h3
        have hli : listed.getD i false = false := by rw [← hk.bit, hmi, hdzi]; rfl
        have hrd : i ∈ Region.ready .any ops listed := by
          simp only [Ro.ready, roOf, Bool.and_eq_true, Bool.not_eq_true'] at h1'
          rw [mem_ready, getD_tf (hk.lt ho)]
          refine ⟨hli, o, ho, fun e he hb => ?_⟩
          rw [← hk.bit, land_eq (beq_nat h1'.2) (preM_bit.2 ⟨e, by simpa using he, hb, rfl⟩)]
          rfl
        obtain ⟨f, rfl, hf'⟩ := more hf (mem_ready.1 hrd).1
        have hDi : Nat.testBit D i = false := by
          cases hb : Nat.testBit D i
          · rfl
          · rw [hDO i hb] at hli; cases hli
        obtain ⟨ρ1, e1, e2, hy⟩ := takeV_ok hty hg hd hm0 hle hm ht (hS i hDi) h3
        obtain ⟨hmR, _⟩ := bindD_ok hm.rebase e1 h
        obtain ⟨hm', h⟩ := bindD_ok hm e1 h
        have ht' := hm.tmok hm' e1.le ht
        have hdf' : DfOk ρ1 (stD st d).ni (stD st d).nb (stD st d).df a.defers := hm.dfok hm' e1.le hdf
        obtain ⟨tm', q1, q2⟩ := putT_ok ht' h e2 rfl
        refine wpR_first hbf ho hsel (fun c a w hq => hQ0 i o c a _ w ho hq) f listed D a w (hk.free h2) hrd hdn hDi hy hS ?_
        have hS1 : ∀ y, Nat.testBit D y = false → Rl C.ty ρ0 st0.mem hs ρ1.fz y w := by rw [e1.fz]; exact hS
        have := sxAny_ok hty hg hd hsel hQ0 hcall hm0 hbf hlz n (hps.drop i) (hk.set ho hli) (hdn.set hrd) hDO.mark hf' (Env.le_trans hle e1.le) hm' q1 (by rw [put_defers]; exact hdf') hS1 (hz.step hlz hk hdn ho hli (agr_put rfl) hmR) q2 ((hK.from e1.le).like (put_size _ _ _)) ((hKP.from e1.le).like (put_size _ _ _))
        rw [e1.fz] at this
        exact this
      · cases hc : (lzFits C tm st lz m (p :: ps) && lzBots tm lz m (p :: ps) && heldU st0.mem st.mem D hs) <;> rw [hc] at h <;> simp only [Bool.not_true, Bool.not_false, cond_true, cond_false] at h
        · exact h.elim
        simp only [Bool.and_eq_true] at hc
        obtain ⟨⟨c1, c2⟩, c3⟩ := hc
        have lazy : ∀ {f : Nat} {w : World} {a : Act} {listed : Array Bool} {dz j : Nat}, MkL ops lz m dz listed → Dn ops listed → DOk D listed → Md C.ty C.pl G fz0 w0 ρ st w → TmOk ρ st.ni st.nb tm a → DfOk ρ st.ni st.nb st.df a.defers → HZ C G w0 ρ st w a ops dz → j ∈ Region.ready .any ops listed → Nat.testBit lz j = true →
            (∀ {w : World} {a' : Act} {dz : Nat}, MkL ops lz m dz (listed.setIfInBounds j true) → Dn ops (listed.setIfInBounds j true) → DOk D (listed.setIfInBounds j true) → Md C.ty C.pl G fz0 w0 ρ st w → TmOk ρ st.ni st.nb tm a' → DfOk ρ st.ni st.nb st.df a'.defers → (∀ y, Nat.testBit D y = false → Rl C.ty ρ0 st0.mem hs ρ.fz y w) → HZ C G w0 ρ st w a' ops dz → a'.tmps.size = a.tmps.size → wpR C.P ops QE (bfOf bf) (Rl C.ty ρ0 st0.mem hs ρ.fz) f (listed.setIfInBounds j true) D a' w) →
            wpOp C.P ops QE j (fun a' w' => (∀ y, Nat.testBit (Nat.lor (Nat.lor D (bfOf bf j)) (2 ^ j)) y = false → Rl C.ty ρ0 st0.mem hs ρ.fz y w') ∧ wpR C.P ops QE (bfOf bf) (Rl C.ty ρ0 st0.mem hs ρ.fz) f (listed.setIfInBounds j true) (Nat.lor (Nat.lor D (bfOf bf j)) (2 ^ j)) a' w') a w := by
          intro f w a listed dz j hk hdn hDO hm ht hdf hz hj hl ih
          obtain ⟨o, d, hI⟩ := hlz j hl
          obtain ⟨h0, o', ho', hpre⟩ := mem_ready.1 hj
          have := hI.get; rw [ho'] at this; cases this
          rw [getD_tf (hk.lt hI.get)] at h0
          have h00 := h0
          rw [← hk.bit, Bool.or_eq_false_iff] at h00
          have hmem : roOf ops o j ∈ (p :: ps) := (hps.mem _).2 ⟨j, o, hI.get, rfl, h00.1⟩
          have hrm : (roOf ops o j).ready m = true := by
            simp only [Ro.ready, roOf, Bool.and_eq_true, Bool.not_eq_true']
            refine ⟨h00.1, ?_⟩
            rw [eq_land fun y hy => ?_]
            · exact Nat.beq_refl _
            · obtain ⟨e, he, hb, rfl⟩ := preM_bit.1 hy
              have h1 := hpre e (by simpa using he) hb
              rw [← hk.bit] at h1
              cases h2 : Nat.testBit dz e.on
              · rw [h2, Bool.or_false] at h1; exact h1
              · have := hI.pre _ hy
                rw [hk.sub _ h2] at this; cases this
          obtain ⟨V, x, hmk⟩ := lzFit_ok (o := o) hty hm ht (lzFits_spec c1 _ hmem hl hrm)
          obtain ⟨d', hd', hbt⟩ := lzBots_spec c2 _ hmem hl h00.1
          have hd' : o.dst = some d' := hd'
          have := hI.dst; rw [hd'] at this; cases this
          have hlt := (ht d _ hbt).1
          have hm1 := hm.later (World.grownBy_alloc w x none)
          have hS1 := Rl.step hm0 hle hm1 c3
          unfold wpOp
          simp only [hI.get]
          rw [if_pos (by simp [Region.wanted, hI.gd])]
          refine .inl (wp_value (hmk w) ⟨fun y hy => hS1 y (lor_no (lor_no hy).1).1, wpR_mono (fun _ _ h => h) f (fun y h => by rw [lor_bit, lor_bit, h]; rfl) ?_⟩)
          refine ih (hk.made hI.get h0 hl) (hdn.set hj) hDO.mark hm1 (by rw [hd']; exact ht.putBot hbt) (by rw [put_defers]; exact hdf) hS1 (hz.made hlz hk hdn hm hI.get h0 hd' hlt hl hmk) (put_size _ _ _)
        split at h
        ·
          rename_i r hfl
          obtain ⟨f1, f2, f3, f4⟩ := firstLz_ok hfl
          obtain ⟨i, o, ho, rfl, hmi⟩ := (hps.mem _).1 f1
          have f2 : Nat.testBit lz i = true := f2
          have inner : ∀ (fuel : Nat) {w : World} {a : Act} {listed : Array Bool} {dz : Nat}, MkL ops lz m dz listed → Dn ops listed → DOk D listed → unc listed.toList ≤ fuel → Md C.ty C.pl G fz0 w0 ρ st w → TmOk ρ st.ni st.nb tm a → DfOk ρ st.ni st.nb st.df a.defers → (∀ y, Nat.testBit D y = false → Rl C.ty ρ0 st0.mem hs ρ.fz y w) → HZ C G w0 ρ st w a ops dz → HT C.ty C.pl F Q G fz0 w0 ρ a (QE .normal) k → HTP C.ty C.pl F Q G fz0 w0 ρ a QE kp → wpR C.P ops QE (bfOf bf) (Rl C.ty ρ0 st0.mem hs ρ.fz) fuel listed D a w := by
            intro fuel
            induction fuel with
            | zero =>
              intro w a listed dz hk hdn hDO hf hm ht hdf hS hz hK hKP
              cases hdz : Nat.testBit dz i
              · exfalso
                obtain ⟨f, hf', _⟩ := more hf (i := i) (by rw [getD_tf (hk.lt ho), ← hk.bit, hmi, hdz]; rfl)
                omega
              · obtain ⟨ρ1, st1, tm1, l1, l2, l3, l4, l5, l6⟩ := tell1 hty hk hm ht hz ho hdz h
                cases hh : heldU st0.mem st1.mem D hs <;> rw [hh] at l6 <;> simp only [cond_true, cond_false] at l6
                · exact l6.elim
                have hS1 := Rl.step hm0 (Env.le_trans hle l1) l2 hh
                have h2 := sxAny_ok hty hg hd hsel hQ0 hcall hm0 hbf hlz n (fuel := 0) (hps.drop i) (hk.told hdz) hdn hDO hf (Env.le_trans hle l1) l2 l3 (by rw [l4]; exact hm.dfok l2 l1 hdf) hS1 l5 l6 (hK.from l1) (hKP.from l1)
                exact wpR_mono (fun y w h => Sv.less l1.fz h) _ (fun _ h => h) h2
            | succ f ih =>
              intro w a listed dz hk hdn hDO hf hm ht hdf hS hz hK hKP
              cases hdz : Nat.testBit dz i
              · have hir : i ∈ Region.ready .any ops listed := by
                  simp only [Ro.ready, roOf, Bool.and_eq_true, Bool.not_eq_true'] at f3
                  rw [mem_ready, getD_tf (hk.lt ho)]
                  refine ⟨by rw [← hk.bit, hmi, hdz]; rfl, o, ho, fun e he hb => ?_⟩
                  rw [← hk.bit, land_eq (beq_nat f3.2) (preM_bit.2 ⟨e, by simpa using he, hb, rfl⟩)]
                  rfl
                refine ⟨fun h0 => (by rw [h0] at hir; cases hir), fun j hj => ?_⟩
                obtain ⟨h0, oj, hoj, hpre⟩ := mem_ready.1 hj
                cases hlj : Nat.testBit lz j
                · exfalso
                  have h00 := h0
                  rw [getD_tf (hk.lt hoj), ← hk.bit, Bool.or_eq_false_iff] at h00
                  have hsub : ∀ y, Nat.testBit (ndM bf (roOf ops oj j)) y = true → listed.getD y false = true := fun y hy => by
                    unfold ndM at hy
                    rw [lor_bit, Bool.or_eq_true] at hy
                    rcases hy with hy | hy
                    · exact hdn.ready hj (hbf j y hy)
                    · obtain ⟨e, he, hb, rfl⟩ := preM_bit.1 hy
                      exact hpre e (by simpa using he) hb
                  have hcm : roOf ops oj j ∈ candL bf lz m (p :: ps) := candL_mem.2 ⟨(hps.mem _).2 ⟨j, oj, hoj, rfl, h00.1⟩, hlj, eq_land fun y hy => by
                    have h1 := hsub y hy
                    rw [← hk.bit, Bool.or_eq_true] at h1
                    rw [lor_bit, Bool.or_eq_true]
                    exact h1.imp id (hk.sub y)⟩
                  have h1 := hsub i (allNeed_spec f4 _ hcm)
                  rw [← hk.bit, hmi, hdz] at h1; cases h1
                · obtain ⟨f', hf', hun⟩ := more hf h0
                  have : f' = f := by omega
                  subst this
                  exact lazy hk hdn hDO hm ht hdf hz hj hlj fun hk' hdn' hDO' hm' ht' hdf' hS' hz' hsz => ih hk' hdn' hDO' hun hm' ht' hdf' hS' hz' (hK.like hsz) (hKP.like hsz)
              · obtain ⟨ρ1, st1, tm1, l1, l2, l3, l4, l5, l6⟩ := tell1 hty hk hm ht hz ho hdz h
                cases hh : heldU st0.mem st1.mem D hs <;> rw [hh] at l6 <;> simp only [cond_true, cond_false] at l6
                · exact l6.elim
                have hS1 := Rl.step hm0 (Env.le_trans hle l1) l2 hh
                have h2 := sxAny_ok hty hg hd hsel hQ0 hcall hm0 hbf hlz n (fuel := f + 1) (hps.drop i) (hk.told hdz) hdn hDO hf (Env.le_trans hle l1) l2 l3 (by rw [l4]; exact hm.dfok l2 l1 hdf) hS1 l5 l6 (hK.from l1) (hKP.from l1)
                exact wpR_mono (fun y w h => Sv.less l1.fz h) _ (fun _ h => h) h2
          exact inner fuel hk hdn hDO hf hm ht hdf hS hz hK hKP
        · split at h
          · exact h.elim
          · rename_i c0 cs hcl
            cases har : allReady m (needL bf lz m c0 (p :: ps)) <;> rw [har] at h <;> simp only [Bool.not_true, Bool.not_false, cond_true, cond_false] at h
            · exact h.elim
            have hall := allT_ok h
            have inner : ∀ (fuel : Nat) {w : World} {a : Act} {listed : Array Bool} {dz : Nat}, MkL ops lz m dz listed → Dn ops listed → DOk D listed → unc listed.toList ≤ fuel → Md C.ty C.pl G fz0 w0 ρ st w → TmOk ρ st.ni st.nb tm a → DfOk ρ st.ni st.nb st.df a.defers → (∀ y, Nat.testBit D y = false → Rl C.ty ρ0 st0.mem hs ρ.fz y w) → HZ C G w0 ρ st w a ops dz → HT C.ty C.pl F Q G fz0 w0 ρ a (QE .normal) k → HTP C.ty C.pl F Q G fz0 w0 ρ a QE kp → wpR C.P ops QE (bfOf bf) (Rl C.ty ρ0 st0.mem hs ρ.fz) fuel listed D a w := by
              intro fuel
              have some_ : ∀ {listed : Array Bool} {dz : Nat}, MkL ops lz m dz listed → ∃ i, i ∈ Region.ready .any ops listed := by
                intro listed dz hk
                obtain ⟨hc1, hc2, hc3⟩ := candL_mem.1 (show c0 ∈ candL bf lz m (p :: ps) by rw [hcl]; exact .head _)
                obtain ⟨i, o, ho, rfl, hmi⟩ := (hps.mem _).1 hc1
                by_cases hall : ∀ y, Nat.testBit (preM o.after.toList) y = true → listed.getD y false = true
                · refine ⟨i, mem_ready.2 ⟨?_, o, ho, fun e he hb => hall _ (preM_bit.2 ⟨e, by simpa using he, hb, rfl⟩)⟩⟩
                  rw [getD_tf (hk.lt ho), ← hk.bit, hmi]
                  cases hb : Nat.testBit dz i
                  · rfl
                  · have h1 := hk.sub i hb
                    have h2 : Nat.testBit lz i = false := hc2
                    rw [h2] at h1; cases h1
                · obtain ⟨y, hy⟩ := Classical.not_forall.1 hall
                  obtain ⟨hy1, hy2⟩ := Classical.not_imp.1 hy
                  have hy2 : listed.getD y false = false := by simpa using hy2
                  have hnd : Nat.testBit (ndM bf (roOf ops o i)) y = true := by
                    unfold ndM
                    rw [lor_bit, Bool.or_eq_true]
                    exact .inr hy1
                  have h3 := land_eq hc3 hnd
                  have hy3 := hy2
                  rw [← hk.bit, Bool.or_eq_false_iff] at hy3
                  rw [lor_bit, hy3.1, Bool.false_or] at h3
                  obtain ⟨o', d', hI⟩ := hlz y h3
                  have hr := allReady_spec har (roOf ops o' y) (needL_mem.2 ⟨(hps.mem _).2 ⟨y, o', hI.get, rfl, hy3.1⟩, h3, hy3.1, hnd⟩)
                  simp only [Ro.ready, roOf, Bool.and_eq_true, Bool.not_eq_true'] at hr
                  refine ⟨y, mem_ready.2 ⟨by rw [getD_tf (hk.lt hI.get)]; exact hy2, o', hI.get, fun e he hb => ?_⟩⟩
                  rw [← hk.bit, land_eq (beq_nat hr.2) (preM_bit.2 ⟨e, by simpa using he, hb, rfl⟩)]
                  rfl
              induction fuel with
              | zero =>
                intro w a listed dz hk hdn hDO hf hm ht hdf hS hz hK hKP
                exfalso
                obtain ⟨i, hi⟩ := some_ hk
                obtain ⟨f, hf', _⟩ := more hf (mem_ready.1 hi).1
                omega
              | succ f ih =>
                intro w a listed dz hk hdn hDO hf hm ht hdf hS hz hK hKP
                refine ⟨fun h0 => ?_, fun j hj => ?_⟩
                · obtain ⟨i, hi⟩ := some_ hk
                  rw [h0] at hi; cases hi
                · obtain ⟨h0, oj, hoj, hpre⟩ := mem_ready.1 hj
                  obtain ⟨f', hf', hun⟩ := more hf h0
                  have : f' = f := by omega
                  subst this
                  cases hlj : Nat.testBit lz j
                  · have h00 := h0
                    rw [getD_tf (hk.lt hoj)] at h00
                    have h000 := h00
                    rw [← hk.bit, Bool.or_eq_false_iff] at h00
                    have hsub : ∀ y, Nat.testBit (ndM bf (roOf ops oj j)) y = true → listed.getD y false = true := fun y hy => by
                      unfold ndM at hy
                      rw [lor_bit, Bool.or_eq_true] at hy
                      rcases hy with hy | hy
                      · exact hdn.ready hj (hbf j y hy)
                      · obtain ⟨e, he, hb, rfl⟩ := preM_bit.1 hy
                        exact hpre e (by simpa using he) hb
                    have hcm : roOf ops oj j ∈ candL bf lz m (p :: ps) := candL_mem.2 ⟨(hps.mem _).2 ⟨j, oj, hoj, rfl, h00.1⟩, hlj, eq_land fun y hy => by
                      have h1 := hsub y hy
                      rw [← hk.bit, Bool.or_eq_true] at h1
                      rw [lor_bit, Bool.or_eq_true]
                      exact h1.imp id (hk.sub y)⟩
                    rw [hcl] at hcm
                    have hx := hall _ (List.mem_map.2 ⟨_, hcm, rfl⟩)
                    obtain ⟨ρ1, st1, tm1, dz1, q1, q2, q3, q4, q5, q6, q7, q8⟩ := tellL hty (ps := p :: ps) (needL bf lz m (roOf ops oj j) (p :: ps)) (hps.nd.sublist (needL_sub.map _)) (fun r hr => by
                      obtain ⟨r1, r2, r3, r4⟩ := needL_mem.1 hr
                      obtain ⟨i, o, ho, rfl, hmi⟩ := (hps.mem _).1 r1
                      refine ⟨i, o, ho, rfl, ?_⟩
                      have h1 := hsub i r4
                      rw [← hk.bit, hmi, Bool.false_or] at h1
                      exact h1) hps hk hm ht hz hx
                    have h2 := sxG_ok (QE := QE) (o := oj) (G := feet ρ1 st1.mem) (fz0 := ρ1.fz) (w0 := w) hty (hg.mono q2.fzl) hd q2.rebase q3 (by rw [q4]; exact hm.dfok q2 q1 hdf) (hcall _ _ _ (hg.mono q2.fzl)) q8 (next := fun a' w' => Agr oj a a' → (∀ y, Nat.testBit (deadM bf D j) y = false → Rl C.ty ρ0 st0.mem hs ρ.fz y w') ∧ wpR C.P ops QE (bfOf bf) (Rl C.ty ρ0 st0.mem hs ρ.fz) f' (listed.setIfInBounds j true) (deadM bf D j) a' w') (fun ρ' st' w' tm' a' hl hmR ht' hdf' hsz hd' hag => by
                        have hmU := q2.unbase2 hmR (fun k hk => by obtain ⟨j, oj, hj, hf⟩ := hk; exact (q2.own j oj k hj hf).1)
                        cases hh : heldU st0.mem st'.mem (deadM bf D (roOf ops oj j).i) hs <;> rw [hh] at hd' <;> simp only [cond_true, cond_false] at hd'
                        · exact hd'.elim
                        · have hle2 := Env.le_trans q1 hl
                          have hS' := Rl.step hm0 (Env.le_trans hle hle2) hmU hh
                          refine ⟨fun y hy => (hS' y hy).less hle2.fz, wpR_mono (fun y w h => Sv.less hle2.fz h) f' (fun _ h => h) ?_⟩
                          exact sxAny_ok hty hg hd hsel hQ0 hcall hm0 hbf hlz n (q7.drop j) (q6.set hoj h000) (hdn.set hj) (hDO.dead hbf hdn hj (hk.lt hoj)) hun (Env.le_trans hle hle2) hmU ht' hdf' hS' (q5.step hlz q6 hdn hoj h000 hag hmR) hd' ((hK.from hle2).like hsz) ((hKP.from hle2).like hsz))
                      (fun ρ' st' w' v tm' a' hl hmR ht' hdf' hsz hv hw hd' => hKP _ _ _ _ _ _ (Env.le_trans q1 hl) (q2.unbase2 hmR (fun k hk => by obtain ⟨j, oj, hj, hf⟩ := hk; exact (q2.own j oj k hj hf).1)) ht' hdf' hsz hv hw hd')
                    unfold wpOp
                    simp only [hoj]
                    split
                    · rename_i hw; rw [if_pos hw] at h2; exact .inl (Oper.wp_agr h2)
                    · rename_i hw; rw [if_neg hw] at h2; exact h2 (agr_put rfl)
                  · exact lazy hk hdn hDO hm ht hdf hz hj hlj fun hk' hdn' hDO' hm' ht' hdf' hS' hz' hsz => ih hk' hdn' hDO' hun hm' ht' hdf' hS' hz' (hK.like hsz) (hKP.like hsz)
            exact inner fuel hk hdn hDO hf hm ht hdf hS hz hK hKP
end
end Go.SY
