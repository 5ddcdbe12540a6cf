/- The symbolic executor SY, its soundness, part 12: operations that look at memory, or make some. -/
import Derived.Test.YtolebnomgllgaaaGreatDoorSyS11
set_option linter.unusedVariables false
set_option linter.unusedSimpArgs false
namespace Go.SY
open Go Go.RowKit
noncomputable section
variable {F : Nat → List Dt → Post → Prop} {Q : Post}
variable {C : Cfg} {G : Nat → Prop} {fz0 : Fz} {w0 w w' : World} {ρ ρ' ρ1 : Env} {st : St} {d : Bd} {tm : Tm} {a : Act} {o : Oper} {k : SV → St → T} {next : Act → World → Prop} {QE : Exit → Act → World → Prop}
def E0 : Env := ⟨[], [], fun _ => none⟩
theorem E0_le (ρ : Env) : E0.le ρ := ⟨⟨ρ.is, rfl⟩, ⟨ρ.bs, rfl⟩, fun _ _ h => by cases h⟩
structure GOk (ty : Ty) (gl : Gls) (fz : Fz) : Prop where
  fl : ∀ g off n l, rdGl gl.fl g off n = some l → ∀ (j : Nat) (v : SV), l[j]? = some v → v.wf 0 0 = true ∧ v.cell = true ∧ v.ty E0 ∧ fzCell fz g (off + j) = some (v.den E0)
  dt : GdOk ty gl.dt fz
theorem rdGl_len {g off : Nat} {l : List SV} : ∀ {gl : List (Nat × List SV)} {n : Nat}, rdGl gl g off n = some l → l.length = n := by
  intro gl
  induction gl with
  | nil => intro n h; cases h
  | cons x xs ih =>
    intro n h
    obtain ⟨hh, c⟩ := x
    simp only [rdGl] at h
    cases hb : Nat.beq hh g <;> rw [hb] at h <;> simp only [cond_true, cond_false] at h
    · exact ih h
    · rw [dropN_eq] at h
      obtain ⟨h1, rfl⟩ := takeN_eq _ _ _ h
      simp at h1 ⊢; omega
def HK (ty : Ty) (pl : Bool) (F : Nat → List Dt → Post → Prop) (Q : Post) (G : Nat → Prop) (fz0 : Fz) (w0 : World) (ρ : Env) (st : St) (a : Act) (dst : Option Tmp) (next : Act → World → Prop) (k : SV → St → T) : Prop :=
  ∀ ρ' st' w' v, ρ.le ρ' → Md ty pl G fz0 w0 ρ' st' w' → st'.df = st.df → v.ty ρ' → (k v st').wp ty F ρ'.is Q → next (a.put dst (v.den ρ')) w'
theorem wp_value {x : Value} (h : (execOp a.eval o).run C.P w = .ok (.value x) w') (hn : next (a.put o.dst x) w') : o.wp C.P a w next QE := by
  unfold Oper.wp; rw [h]; exact hn
theorem wp_skip {w' : World} (h : (execOp a.eval o).run C.P w = .ok .skip w') (hn : next (a.put o.dst undef) w') : o.wp C.P a w next QE := by
  unfold Oper.wp; rw [h]; exact hn
def valOf (agg : Bool) (l : List SV) : Option SV := bif agg then some (.agg l) else match l with
  | [v] => some v
  | _ => none
theorem rdMem_ok (hm : Md C.ty C.pl G fz0 w0 ρ st w) {b off n : Nat} {l : List SV} (h : rdMem st.mem b off n = some l) :
    l.length = n ∧ SV.wfs st.ni st.nb l = true ∧ allCell l = true ∧ SV.tys ρ l ∧ ∀ (j : Nat) v, l[j]? = some v → w.cell? ⟨ρ.b b, off + j, none⟩ = some (v.den ρ) := by
  unfold rdMem at h
  split at h
  · rename_i c e hb
    obtain ⟨_, hw, _, hok⟩ := hm.mem b _ hb
    simp only [SO.wf, Bool.and_eq_true] at hw
    simp only [SO.ok] at hok
    rw [dropN_eq] at h
    obtain ⟨h1, rfl⟩ := takeN_eq _ _ _ h
    refine ⟨by simp at h1 ⊢; omega, wfs_of_mem fun v hv => wfs_mem hw.1 v (List.mem_of_mem_drop (List.mem_of_mem_take hv)), allCell_of_mem fun v hv => allCell_mem hw.2 v (List.mem_of_mem_drop (List.mem_of_mem_take hv)), tys_of_mem fun v hv => tys_mem hok.2 v (List.mem_of_mem_drop (List.mem_of_mem_take hv)), fun j v hj => ?_⟩
    rw [List.getElem?_take] at hj
    split at hj
    · rw [List.getElem?_drop] at hj
      simp only [World.cell?, hok.1, Option.isSome_none, Bool.false_eq_true, if_false, List.getElem?_toArray, dens_getElem?, hj, Option.map_some]
    · cases hj
  · cases h
theorem loadV_gen (hty : TyOk C.P C.ty) (hg : GOk C.ty C.gl fz0) {mem : Tb SO} (hex : Ext C.ty ρ st.bd ρ) (hfw : FzIn ρ.fz w) (hfl : FzLe fz0 ρ.fz) {pc : List (B × Bool)} {cg : B} (hcw : cg.wf st.ni = true) (hpc : cg.den ρ.is = true → PcOk ρ.is pc) {t : TypeId} {x v : SV} (hxw : x.wf st.ni st.nb = true)
    (hp : ∀ b off n agg l, x = .ptr b off → aggT C.ty t = some (n, agg) → rdMem mem b off n = some l → l.length = n ∧ SV.tys ρ l ∧ ∀ (j : Nat) v, l[j]? = some v → w.cell? ⟨ρ.b b, off + j, none⟩ = some (v.den ρ))
    (hr : ∀ b s i off p e s' xa, x = .rp b s i off p → mem.get b = some (.rowd e s' xa) → xa.wf st.ni = true ∧ RowOk C.ty ρ.fz w e s' (xa.den ρ.is) (ρ.val b))
    (h : loadV C mem pc cg t x st.bd = some (v, d)) :
    ∃ ρ1, Ext C.ty ρ d ρ1 ∧ (cg.den ρ.is = true → v.ty ρ1 ∧ ∃ ad, x.den ρ = .pointer (some ad) ∧ (loadVar t ad).run C.P w = .ok (v.den ρ1) w) := by
  unfold loadV at h
  split at h
  · rename_i n agg hag
    have hte : ∃ e, C.ty.get t = some e ∧ e.d.isH = false ∧ agg = e.d.agg ∧ n = (if e.d.agg = true then e.size else 1) := by
      unfold aggT at hag
      split at hag
      · rename_i e he
        cases hh : e.d.isH <;> rw [hh] at hag <;> simp only [cond_true, cond_false] at hag
        · cases hag
          refine ⟨e, he, hh, rfl, ?_⟩
          cases e.d.agg <;> rfl
        · cases hag
      · cases hag
    obtain ⟨e, he, hh, rfl, hn⟩ := hte
    have fin : ∀ (B off : Nat) (l : List SV) (ρx : Env), l.length = n → (∀ (j : Nat) v, l[j]? = some v → w.cell? ⟨B, off + j, none⟩ = some (v.den ρx)) → valOf e.d.agg l = some v → (loadVar t ⟨B, off, none⟩).run C.P w = .ok (v.den ρx) w := by
      intro B off l ρx hl hc hv
      have := load_of (P := C.P) hty he hh (B := B) (off := off) (cs := SV.dens ρx l) (w := w) (by rw [dens_length, hl, hn]) (fun j u hj => by
        rw [dens_getElem?] at hj
        cases hlj : l[j]? with
        | none => rw [hlj] at hj; cases hj
        | some y => rw [hlj] at hj; cases hj; exact hc j y hlj)
      rw [this]
      unfold valOf at hv
      cases ha : e.d.agg <;> rw [ha] at hv <;> simp only [cond_true, cond_false] at hv
      · split at hv <;> cases hv
        rfl
      · cases hv; rfl
    split at h
    · rename_i b s i off path
      split at h
      · rename_i e' s' xa hb
        cases hk : (Nat.beq s s' && knownIs pc (.mkLt i (.n 0)) false && knownIs pc (.mkLt i xa.mkLen) true) <;> rw [hk] at h <;> simp only [cond_true, cond_false] at h
        · cases h
        · simp only [Bool.and_eq_true] at hk
          obtain ⟨⟨k1, k2⟩, k3⟩ := hk
          have hs := beq_nat k1
          subst hs
          obtain ⟨hw, hok⟩ := hr b s i off path _ _ _ rfl hb
          simp only [SV.wf, Bool.and_eq_true] at hxw
          split at h
          · rename_i l d1 hmk
            split at h
            · rename_i v' hp
              cases hl : Nat.beq l.length s <;> rw [hl] at h <;> simp only [cond_true, cond_false] at h <;> cases h
              have hls := beq_nat hl
              have el : ∃ cs : List Value, cg.den ρ.is = true → ∃ (j B : Nat), i.int ρ.is = (j : Int) ∧ ρ.rb b = B ∧ rep C.ty ρ.fz ((xa.mkIdx i).den ρ.is) e' cs ∧ cs.length = s ∧ ∀ (q : Nat) u, cs[q]? = some u → w.cell? ⟨B, j * s + q, none⟩ = some u := by
                by_cases hcg : cg.den ρ.is = true
                · obtain ⟨j, j1, j2, j3⟩ := inRange (hpc hcg) (int_mkLen xa ρ.is) k2 k3
                  rcases hok with ⟨q1, _⟩ | ⟨L, B, cap, xs, q1, q2, q3, q4⟩
                  · rw [q1] at j2; simp [Dt.len] at j2
                  · rw [q1] at j2
                    simp only [Dt.len] at j2
                    have hB : ρ.rb b = B := by simp only [Env.rb, q2]
                    obtain ⟨p1, p2⟩ := repC_idx q4 (List.getElem?_eq_getElem j2)
                    refine ⟨(xs.drop (j * s)).take s, fun _ => ⟨j, B, j1, hB, ?_, by rw [List.length_take, List.length_drop]; omega, fun q u hq => ?_⟩⟩
                    · rw [den_mkIdx, j3, q1]
                      simp only [Dt.idx, Dt.list]
                      rw [List.getD_eq_getElem?_getD, List.getElem?_eq_getElem j2]
                      exact p2
                    · rw [List.getElem?_take] at hq
                      split at hq
                      · rw [List.getElem?_drop] at hq
                        have := q3.cells (g := B) (by rw [q2]; rfl) _ u hq
                        rwa [add_plain, Nat.zero_add] at this
                      · cases hq
                · exact ⟨[], fun h => absurd h hcg⟩
              obtain ⟨cs, hcs⟩ := el
              obtain ⟨ρ2, g1, g2, g3, g4, g5⟩ := (mk_all (ty := C.ty) (ρ := ρ) 60).1 hmk hex (cs := cs) (show (xa.mkIdx i).wf st.ni = true from wf_mkIdx hw hxw.2) hcw (fun hcg => by
                obtain ⟨j, B, _, _, h3, _⟩ := hcs hcg
                exact h3)
              refine ⟨ρ2, g1, fun hcg => ?_⟩
              obtain ⟨j, B, c1, c2, c3, c4, c5⟩ := hcs hcg
              obtain ⟨t1, t2⟩ := g3 hcg
              refine ⟨partL_ty hp t2, _, rfl, ?_⟩
              rw [c1, c2, Int.toNat_natCast]
              have hcell : ∀ (q : Nat) u, l[q]? = some u → w.cell? ⟨B, j * s + q, none⟩ = some (u.den ρ2) := by
                intro q u hq
                refine c5 q _ ?_
                rw [← t1, dens_getElem?, hq]; rfl
              unfold partL at hp
              rw [he] at hp
              simp only at hp
              cases ha : e.d.agg <;> rw [ha] at hp <;> simp only [cond_true, cond_false] at hp
              · rw [nth_eq] at hp
                refine fin B _ [v] ρ2 (by rw [hn, ha]; rfl) (fun q u hq => ?_) (by rw [ha]; rfl)
                cases q with
                | zero => simp at hq; subst hq; rw [Nat.add_zero]; exact hcell off _ hp
                | succ q => simp at hq
              · split at hp <;> cases hp
                rename_i r hr
                obtain ⟨m1, m2, _, _⟩ := take_mem hr
                rw [dropN_eq] at hr
                obtain ⟨_, rfl⟩ := takeN_eq _ _ _ hr
                refine fin B _ _ ρ2 (by rw [m2, hn, ha]; rfl) (fun q u hq => ?_) (by rw [ha]; rfl)
                rw [List.getElem?_take] at hq
                split at hq
                · rw [List.getElem?_drop] at hq
                  rw [Nat.add_assoc]; exact hcell _ u hq
                · cases hq
            · cases h
          · cases h
      · cases h
    · rename_i x hx
      split at h
      · cases h
      · rename_i l hl
        have hd : d = st.bd ∧ valOf e.d.agg l = some v := by
          unfold valOf
          cases ha : e.d.agg <;> rw [ha] at h <;> simp only [cond_true, cond_false] at h ⊢
          · split at h <;> cases h
            exact ⟨rfl, rfl⟩
          · cases h; exact ⟨rfl, rfl⟩
        obtain ⟨rfl, hv⟩ := hd
        have hvt : SV.tys ρ l → v.ty ρ := by
          intro ht
          unfold valOf at hv
          cases ha : e.d.agg <;> rw [ha] at hv <;> simp only [cond_true, cond_false] at hv
          · split at hv <;> cases hv
            exact ht.1
          · cases hv; exact ht
        refine ⟨ρ, hex, fun _ => ?_⟩
        split at hl
        · rename_i b off
          obtain ⟨h1, h3, h2⟩ := hp b off _ _ l rfl hag hl
          exact ⟨hvt h3, _, rfl, fin _ off l ρ h1 h2 hv⟩
        · rename_i g off
          have hgl := hg.fl g off _ l hl
          have hle := E0_le ρ
          refine ⟨hvt (tys_of_mem fun u hu => ?_), _, rfl, fin g off l ρ (rdGl_len hl) (fun j u hj => ?_) hv⟩
          · obtain ⟨j, hj⟩ := List.getElem?_of_mem hu
            obtain ⟨g1, g2, g3, _⟩ := hgl j u hj
            exact SV.ty_app hle g1 g3
          · obtain ⟨g1, g2, _, g3⟩ := hgl j u hj
            rw [SV.den_app hle g1]
            exact fzCell_w hfw (fzCell_mono hfl g3)
        · cases hl
  · cases h
theorem loadV_ok (hty : TyOk C.P C.ty) (hg : GOk C.ty C.gl fz0) (hm : Md C.ty C.pl G fz0 w0 ρ st w) {pc : List (B × Bool)} {cg : B} (hcw : cg.wf st.ni = true) (hpc : cg.den ρ.is = true → PcOk ρ.is pc) {t : TypeId} {x v : SV} (hxw : x.wf st.ni st.nb = true) (h : loadV C st.mem pc cg t x st.bd = some (v, d)) :
    ∃ ρ1, Ext C.ty ρ d ρ1 ∧ (cg.den ρ.is = true → v.ty ρ1 ∧ ∃ ad, x.den ρ = .pointer (some ad) ∧ (loadVar t ad).run C.P w = .ok (v.den ρ1) w) :=
  loadV_gen hty hg hm.ext0 hm.fzw hm.fzl hcw hpc hxw (fun b off n _ l _ _ hl => ⟨(rdMem_ok hm hl).1, (rdMem_ok hm hl).2.2.2.1, (rdMem_ok hm hl).2.2.2.2⟩) (fun b s i off p e s' xa _ hb => by
    obtain ⟨_, h2, h3, h4⟩ := hm.mem b _ hb
    exact ⟨h2, h4⟩) h
theorem newB_ok (hm : Md C.ty C.pl G fz0 w0 ρ st w) {so : SO} {kk : Nat → St → T} (h : (newB st so kk).wp C.ty F ρ.is Q) (b : Nat) (V : Value) {ρ' : Env} (hρ : ρ' = { ρ with bs := ρ.bs ++ [(b, V)] })
    (H : so.wf st.ni st.nb = true → GhOk C.ty ρ' st.nb so ∧ SO.ok C.ty ρ' w st.nb so ∧ ∀ k, foot ρ' st.nb so k → (w0.heap.size ≤ k ∨ G k) ∧ ρ.fz k = none ∧ ∀ j oj, st.mem.get j = some oj → ¬ foot ρ j oj k) (hnp : NoPool C.pl ρ so := by intro _ _ _ h; cases h) :
    Md C.ty C.pl G fz0 w0 ρ' { st with mem := st.mem.put st.nb so, nb := st.nb + 1 } w ∧ (kk st.nb { st with mem := st.mem.put st.nb so, nb := st.nb + 1 }).wp C.ty F ρ'.is Q := by
  unfold newB at h
  cases hw : so.wf st.ni st.nb <;> rw [hw] at h <;> simp only [cond_true, cond_false] at h
  · exact h.elim
  · obtain ⟨h1, h2, h3⟩ := H hw
    exact ⟨hm.push hw b V hρ h1 h2 h3 hnp, by subst hρ; exact h⟩
theorem push_le {ρ : Env} {b : Nat} {V : Value} : ρ.le { ρ with bs := ρ.bs ++ [(b, V)] } := ⟨⟨[], by simp⟩, ⟨_, rfl⟩, fun _ _ h => h⟩
theorem push_b (hm : Md C.ty C.pl G fz0 w0 ρ st w) (b : Nat) (V : Value) : ({ ρ with bs := ρ.bs ++ [(b, V)] } : Env).b st.nb = b := by simp [Env.b, ← hm.hnb]
theorem push_val (hm : Md C.ty C.pl G fz0 w0 ρ st w) (b : Nat) {V : Value} (hV : one1 V = V) : ({ ρ with bs := ρ.bs ++ [(b, V)] } : Env).val st.nb = V := by simp [Env.val, ← hm.hnb, hV]
theorem newCells_ok (hm : Md C.ty C.pl G fz0 w0 ρ st w) {cs : List SV} {e : TypeId} {kk : Nat → St → T} (h : (newB st (.cells cs e) kk).wp C.ty F ρ.is Q) (ht : SV.tys ρ cs) :
    ∃ ρ', ρ.le ρ' ∧ ρ'.b st.nb = w.heap.size ∧ Md C.ty C.pl G fz0 w0 ρ' { st with mem := st.mem.put st.nb (.cells cs e), nb := st.nb + 1 } (w.alloc (.cells (SV.dens ρ cs).toArray e)) ∧ (kk st.nb { st with mem := st.mem.put st.nb (.cells cs e), nb := st.nb + 1 }).wp C.ty F ρ'.is Q := by
  have hm1 := hm.later (World.grownBy_alloc w (.cells (SV.dens ρ cs).toArray e) none)
  have hb := push_b (C := C) hm w.heap.size (.pointer none)
  obtain ⟨g1, g2⟩ := newB_ok hm1 h w.heap.size (.pointer none) rfl fun hw => by
    simp only [SO.wf, Bool.and_eq_true] at hw
    have hwl : SV.wfs ρ.is.length ρ.bs.length cs = true := by rw [hm.hni, hm.hnb]; exact hw.1
    refine ⟨trivial, ⟨?_, SV.tys_app push_le hwl ht⟩, fun k hk => ?_⟩
    · rw [hb, SV.dens_app push_le hwl]
      exact heap_alloc_new w _
    · simp only [foot, hb] at hk
      cases hk
      obtain ⟨f1, f2, f3⟩ := fresh_ok hm (Nat.le_refl _)
      exact ⟨f1, f2, f3⟩
  exact ⟨_, push_le, hb, g1, g2⟩
theorem zeroL_info (hty : TyOk C.P C.ty) {t : TypeId} {cs : List SV} (h : zeroL C.ty t = some cs) : ∃ i z, C.P.info? t = some i ∧ i.zero = some z ∧ (∀ ρ, z.cells = (SV.dens ρ cs).toArray) ∧ (∀ ρ, SV.tys ρ cs) ∧ (∀ ni nb, SV.wfs ni nb cs = true) ∧ allCell cs = true := by
  unfold zeroL at h
  split at h
  · rename_i e he
    obtain ⟨dd, i, hu, hi, hmt, hs, _, hz⟩ := hty.info he (hty.infoZ he h)
    obtain ⟨z, hz1, hz2, _⟩ := hz cs h
    exact ⟨i, z, hi, hz1, fun ρ => by rw [ofVals_den hz2 ρ], fun ρ => (ofVals_spec hz2 ρ 0 0).2.2.2, fun ni nb => (ofVals_spec hz2 E0 ni nb).2.1, (ofVals_spec hz2 E0 0 0).2.2.1⟩
  · cases h
theorem eAlloc_ok (hty : TyOk C.P C.ty) (hm : Md C.ty C.pl G fz0 w0 ρ st w) {t : TypeId} (ho : o.op = .alloc t) (h : (eAlloc C tm st k t).wp C.ty F ρ.is Q) (hk : HK C.ty C.pl F Q G fz0 w0 ρ st a o.dst next k) : o.wp C.P a w next QE := by
  unfold eAlloc at h
  split at h
  · rename_i cs hz
    obtain ⟨i, z, hi, hz1, hz2, hz3, _⟩ := zeroL_info hty hz
    obtain ⟨ρ', hle, hb, hm', hd⟩ := newCells_ok hm h (hz3 ρ)
    refine wp_value (x := SV.den ρ' (.ptr st.nb 0)) ?_ (hk _ _ _ _ hle hm' rfl trivial hd)
    unfold execOp
    simp only [ho, Instr.alloc, Sem.run_bind, run_zero hi hz1, Result.andThen_ok, newVar, newRow, run_newObj, Sem.run_pure, SV.den, hb, hz2 ρ]
    rfl
  · exact h.elim
theorem eBox_ok (hm : Md C.ty C.pl G fz0 w0 ρ st w) (ht : TmOk ρ st.ni st.nb tm a) {t : TypeId} {x : Operand} (ho : o.op = .box t x) (h : (eBox C tm st k t x).wp C.ty F ρ.is Q) (hk : HK C.ty C.pl F Q G fz0 w0 ρ st a o.dst next k) : o.wp C.P a w next QE := by
  unfold eBox at h
  split at h
  · rename_i v hv
    have ev := evO_den ht hm.hpc hv
    split at h
    · rename_i cs hcs
      obtain ⟨ρ', hle, hb, hm', hd⟩ := newCells_ok hm h (cellsOf_ty hcs (evO_ty ht hm.hpc hv))
      refine wp_value (x := SV.den ρ' (.ptr st.nb 0)) ?_ (hk _ _ _ _ hle hm' rfl trivial hd)
      unfold execOp
      simp only [ho, ev, Instr.box, Sem.run_bind, newVar, newRow, run_newObj, Result.andThen_ok, Sem.run_pure, SV.den, hb, cellsOf_spec hcs ρ]
      rfl
    · exact h.elim
  · exact h.elim
theorem repeatL_length (z : List SV) (n : Nat) (hz : z.length = n) : ∀ len, (repeatL len z).length = len * n := by
  intro len
  induction len with
  | zero => simp [repeatL]
  | succ m ih => simp [repeatL, ih, hz, Nat.add_mul, Nat.add_comm]
theorem repeatL_mem {z : List SV} : ∀ {len : Nat} {v : SV}, v ∈ repeatL len z → v ∈ z
  | 0, v, h => by cases h
  | n + 1, v, h => by
    simp only [repeatL] at h
    exact (List.mem_append.1 h).elim id repeatL_mem
theorem repeat_cells (ρ : Env) (z : List SV) (n : Nat) (hz : z.length = n) : ∀ len, ((Array.range (len * n)).map ((SV.dens ρ z).toArray[· % (SV.dens ρ z).toArray.size]!)) = (SV.dens ρ (repeatL len z)).toArray := by
  intro len
  have hlen := repeatL_length z n hz
  have hget : ∀ len j, j < len * n → (repeatL len z)[j]? = z[j % n]? := by
    intro len
    induction len with
    | zero => intro j hj; omega
    | succ m ih =>
      intro j hj
      simp only [repeatL]
      by_cases h : j < n
      · rw [List.getElem?_append_left (by omega), Nat.mod_eq_of_lt h]
      · rw [List.getElem?_append_right (by omega), hz, ih (j - n) (by rw [Nat.succ_mul] at hj; omega)]
        congr 1
        exact (Nat.mod_eq_sub_mod (by omega)).symm
  apply Array.ext_getElem?
  intro j
  by_cases hj : j < len * n
  · have hn : 0 < n := by
      rcases Nat.eq_zero_or_pos n with h0 | h0
      · subst h0; omega
      · exact h0
    have hm := Nat.mod_lt j hn
    simp only [List.size_toArray, dens_length, hz, List.getElem?_toArray, dens_getElem?, hget len j hj, Array.getElem?_map]
    rw [Array.getElem?_eq_getElem (by simpa using hj)]
    simp only [Array.getElem_range, Option.map_some]
    rw [List.getElem?_eq_getElem (by omega)]
    simp only [Option.map_some]
    congr 1
    rw [getElem!_pos _ _ (by simp [dens_length, hz]; exact hm)]
    have := dens_getElem? ρ z (j % n)
    rw [List.getElem?_eq_getElem (by rw [dens_length]; omega), List.getElem?_eq_getElem (by omega)] at this
    simpa using this
  · rw [Array.getElem?_eq_none (by simp; omega), List.getElem?_toArray, dens_getElem?, List.getElem?_eq_none (by rw [hlen]; omega)]
    rfl
end
end Go.SY
