/- The symbolic executor SX, its soundness, part 13: regions that draw their order. -/
import Derived.Test.YtncaejnkpmmoeaaDoorSxS12
import Derived.OrdersHeld
set_option linter.unusedVariables false
set_option linter.unusedSimpArgs false
namespace Go.SX
open Go Go.RowKit

variable {F : Nat → List Int → Option (List Int)} {K : Nat} {r : Nat × List Int}
variable {C : Cfg} {w0 w w' : World} {ρ ρ' : Env} {st : St} {tm : Tm} {a : Act} {o : Oper} {next : Act → World → Prop} {Q : Exit → Act → World → Prop}

/-! ### Masks -/
theorem lor_bit (x y i : Nat) : Nat.testBit (Nat.lor x y) i = (Nat.testBit x i || Nat.testBit y i) := Nat.testBit_or x y i
theorem land_bit (x y i : Nat) : Nat.testBit (Nat.land x y) i = (Nat.testBit x i && Nat.testBit y i) := Nat.testBit_and x y i
theorem pow_bit (n i : Nat) : Nat.testBit (2 ^ n) i = decide (n = i) := Nat.testBit_two_pow
theorem preM_bit {j : Nat} : ∀ {l : List Edge}, Nat.testBit (preM l) j = true ↔ ∃ e ∈ l, Region.binds .any e = true ∧ e.on = j
  | [] => by simp [preM]
  | e :: l => by
    have ih := preM_bit (j := j) (l := l)
    unfold preM
    cases hb : Region.binds .any e
    · simp only [cond_false, ih, List.mem_cons]
      constructor
      · rintro ⟨x, hx, h⟩; exact ⟨x, .inr hx, h⟩
      · rintro ⟨x, hx | hx, h⟩
        · subst hx; rw [hb] at h; cases h.1
        · exact ⟨x, hx, h⟩
    · simp only [cond_true, lor_bit, pow_bit, Bool.or_eq_true, ih, decide_eq_true_eq, List.mem_cons]
      constructor
      · rintro (h | ⟨x, hx, h⟩)
        · exact ⟨e, .inl rfl, hb, h⟩
        · exact ⟨x, .inr hx, h⟩
      · rintro ⟨x, hx | hx, h⟩
        · subst hx; exact .inl h.2
        · exact .inr ⟨x, hx, h⟩
theorem tmpsM_bit {t : Nat} : ∀ {l : List Tmp}, Nat.testBit (tmpsM l) t = true ↔ t ∈ l
  | [] => by simp [tmpsM]
  | e :: l => by
    have ih := tmpsM_bit (t := t) (l := l)
    unfold tmpsM
    simp only [lor_bit, pow_bit, Bool.or_eq_true, ih, decide_eq_true_eq, List.mem_cons]
    exact ⟨fun h => h.imp Eq.symm id, fun h => h.imp Eq.symm id⟩
def rmOf (ops : Array Oper) (o : Oper) (i : Nat) : Rm := ⟨i, preM o.after.toList, tmpsM (o.looksAt ops), dstM o.dst⟩
theorem mkRm_get {ops : Array Oper} : ∀ (l : List Oper) (i j : Nat), (mkRm ops l i)[j]? = (l[j]?).map fun o => rmOf ops o (i + j)
  | [], i, j => by simp [mkRm]
  | o :: l, i, 0 => by simp [mkRm, rmOf]
  | o :: l, i, j + 1 => by
    simp only [mkRm, List.getElem?_cons_succ]
    rw [mkRm_get l (i + 1) j]
    congr 1; funext o; congr 1; omega
theorem mkRo_get {all : List Rm} : ∀ (l : List Oper) (ms : List Rm) (j : Nat) (o : Oper) (m : Rm), l[j]? = some o → ms[j]? = some m → (mkRo all l ms)[j]? = some ⟨m.i, o, m.pre, cfM m all⟩
  | [], _, j, o, m, h, _ => by simp at h
  | _ :: _, [], j, o, m, _, h => by simp at h
  | o' :: l, m' :: ms, 0, o, m, h, h' => by
    simp at h h'; subst h; subst h'; rfl
  | o' :: l, m' :: ms, j + 1, o, m, h, h' => by
    simp only [List.getElem?_cons_succ] at h h'
    simp only [mkRo, List.getElem?_cons_succ]
    exact mkRo_get l ms j o m h h'
theorem mkRo_len {all : List Rm} : ∀ (l : List Oper) (ms : List Rm), (mkRo all l ms).length ≤ l.length
  | [], _ => by simp [mkRo]
  | _ :: _, [] => by simp [mkRo]
  | _ :: l, _ :: ms => by simp only [mkRo, List.length_cons]; have := mkRo_len (all := all) l ms; omega
def roOf (ops : Array Oper) (o : Oper) (i : Nat) : Ro := ⟨i, o, preM o.after.toList, cfM (rmOf ops o i) (mkRm ops ops.toList 0)⟩
theorem rosOf_get {ops : Array Oper} {i : Nat} {o : Oper} (h : ops[i]? = some o) : (rosOf ops)[i]? = some (roOf ops o i) := by
  have hl : ops.toList[i]? = some o := by simpa using h
  refine mkRo_get _ _ i o (rmOf ops o i) hl ?_
  rw [mkRm_get, hl]; simp
theorem rosOf_mem {ops : Array Oper} {r : Ro} (h : r ∈ rosOf ops) : ∃ i o, ops[i]? = some o ∧ r = roOf ops o i := by
  obtain ⟨j, hj⟩ := List.getElem?_of_mem h
  have hlt : j < ops.size := by
    have h1 := (List.getElem?_eq_some_iff.1 hj).1
    have h2 := mkRo_len (all := mkRm ops ops.toList 0) ops.toList (mkRm ops ops.toList 0)
    have : (rosOf ops).length ≤ ops.size := by simpa [rosOf] using h2
    omega
  have ho : ops[j]? = some ops[j] := by simp [hlt]
  have := rosOf_get ho
  rw [hj] at this
  exact ⟨j, _, ho, by injection this⟩
theorem cfM_spec {x : Rm} : ∀ {all : List Rm} {y : Rm}, y ∈ all → Nat.testBit (cfM x all) y.i = false → x.i = y.i ∨ Nat.testBit y.pre x.i = true ∨ (Nat.land x.dst (Nat.lor y.look y.dst) = 0 ∧ Nat.land y.dst x.look = 0)
  | [], y, h, _ => by cases h
  | z :: all, y, h, hb => by
    unfold cfM at hb
    cases hc : (Nat.beq x.i z.i || Nat.testBit z.pre x.i || (Nat.beq (Nat.land x.dst (Nat.lor z.look z.dst)) 0 && Nat.beq (Nat.land z.dst x.look) 0)) <;> rw [hc] at hb
    · simp only [cond_false, lor_bit, pow_bit, Bool.or_eq_false_iff, decide_eq_false_iff_not] at hb
      rcases List.mem_cons.1 h with rfl | h
      · exact absurd rfl hb.1
      · exact cfM_spec h hb.2
    · simp only [cond_true] at hb
      rcases List.mem_cons.1 h with rfl | h
      · simp only [Bool.or_eq_true, Bool.and_eq_true] at hc
        rcases hc with (hc | hc) | hc
        · exact .inl (beq_nat hc)
        · exact .inr (.inl hc)
        · exact .inr (.inr ⟨beq_nat hc.1, beq_nat hc.2⟩)
      · exact cfM_spec h hb
theorem land_zero {x y t : Nat} (h : Nat.land x y = 0) (hx : Nat.testBit x t = true) : Nat.testBit y t = false := by
  have := land_bit x y t
  rw [h, hx] at this
  simpa using this.symm
theorem apart_of {ops : Array Oper} {x y : Oper} {i j : Nat} (h1 : Nat.land (rmOf ops x i).dst (Nat.lor (rmOf ops y j).look (rmOf ops y j).dst) = 0) (h2 : Nat.land (rmOf ops y j).dst (rmOf ops x i).look = 0) : x.apart ops y = true := by
  unfold Oper.apart
  simp only [rmOf] at h1 h2
  rw [Bool.and_eq_true]
  constructor
  · split
    · rename_i d hd
      rw [hd] at h1
      have hb := land_zero (t := d) h1 (by simp [dstM])
      rw [lor_bit, Bool.or_eq_false_iff] at hb
      simp only [Bool.and_eq_true, Bool.not_eq_true', bne_iff_ne, ne_eq]
      refine ⟨?_, fun he => ?_⟩
      · cases hc : (y.looksAt ops).contains d
        · rfl
        · have : d ∈ y.looksAt ops := by simpa using hc
          rw [tmpsM_bit.2 this] at hb; cases hb.1
      · rw [he] at hb; simp [dstM] at hb
    · rfl
  · split
    · rename_i d hd
      rw [hd] at h2
      have hb := land_zero (t := d) h2 (by simp [dstM])
      cases hc : (x.looksAt ops).contains d
      · rfl
      · have : d ∈ x.looksAt ops := by simpa using hc
        rw [tmpsM_bit.2 this] at hb; cases hb
    · rfl

/-- The mask tells which have come up. -/
def MkOk (ops : Array Oper) (m : Nat) (listed : Array Bool) : Prop := listed.size = ops.size ∧ ∀ i, Nat.testBit m i = listed.getD i false
theorem land_eq {x m j : Nat} (h : Nat.land x m = x) (hx : Nat.testBit x j = true) : Nat.testBit m j = true := by
  have := land_bit x m j
  rw [h, hx] at this
  simpa using this.symm
theorem eq_land {x m : Nat} (h : ∀ j, Nat.testBit x j = true → Nat.testBit m j = true) : Nat.land x m = x := by
  apply Nat.eq_of_testBit_eq
  intro j
  rw [land_bit]
  cases hx : Nat.testBit x j
  · rfl
  · rw [h j hx]; rfl
theorem getD_tf {listed : Array Bool} {i : Nat} (h : i < listed.size) : listed.getD i true = listed.getD i false := by simp [h]
theorem MkOk.ready {ops : Array Oper} {m : Nat} {listed : Array Bool} (hk : MkOk ops m listed) {i : Nat} {o : Oper} (ho : ops[i]? = some o) : (roOf ops o i).ready m = true ↔ i ∈ Region.ready .any ops listed := by
  have hlt : i < listed.size := by rw [hk.1]; exact (Array.getElem?_eq_some_iff.1 ho).1
  rw [mem_ready, getD_tf hlt]
  simp only [Ro.ready, roOf, Bool.and_eq_true, Bool.not_eq_true', hk.2 i]
  constructor
  · rintro ⟨h1, h2⟩
    refine ⟨h1, o, ho, fun e he hb => ?_⟩
    rw [← hk.2]
    exact land_eq (beq_nat h2) (preM_bit.2 ⟨e, by simpa using he, hb, rfl⟩)
  · rintro ⟨h1, o', ho', h2⟩
    rw [ho] at ho'; cases ho'
    refine ⟨h1, ?_⟩
    rw [eq_land fun j hj => ?_]
    · exact Nat.beq_refl _
    · obtain ⟨e, he, hb, rfl⟩ := preM_bit.1 hj
      rw [hk.2]
      exact h2 e (by simpa using he) hb
theorem MkOk.set {ops : Array Oper} {m : Nat} {listed : Array Bool} (hk : MkOk ops m listed) {i : Nat} {o : Oper} (ho : ops[i]? = some o) : MkOk ops (Nat.lor m (2 ^ i)) (listed.setIfInBounds i true) := by
  have hlt : i < listed.size := by rw [hk.1]; exact (Array.getElem?_eq_some_iff.1 ho).1
  refine ⟨by simp [hk.1], fun j => ?_⟩
  rw [lor_bit, pow_bit, hk.2]
  by_cases hij : i = j
  · subst hij; simp [hlt]
  · rw [getD_set_ne false hij]; simp [hij]
theorem MkOk.free {ops : Array Oper} {m : Nat} {listed : Array Bool} (hk : MkOk ops m listed) {i : Nat} {o : Oper} (hf : (roOf ops o i).free m = true) :
    ∀ j oj, ops[j]? = some oj → j ≠ i → listed.getD j true = false → (∀ e ∈ oj.after, Region.binds .any e = true → e.on ≠ i) → o.apart ops oj = true := by
  intro j oj hj hne hun hno
  have hlt : j < listed.size := by rw [hk.1]; exact (Array.getElem?_eq_some_iff.1 hj).1
  rw [getD_tf hlt, ← hk.2] at hun
  have hy : rmOf ops oj j ∈ mkRm ops ops.toList 0 := by
    refine List.mem_of_getElem? (i := j) ?_
    rw [mkRm_get]
    have : ops.toList[j]? = some oj := by simpa using hj
    rw [this]; simp
  have hb : Nat.testBit (cfM (rmOf ops o i) (mkRm ops ops.toList 0)) (rmOf ops oj j).i = false := by
    cases hb : Nat.testBit (cfM (rmOf ops o i) (mkRm ops ops.toList 0)) (rmOf ops oj j).i
    · rfl
    · have := land_eq (beq_nat hf) hb
      rw [show (rmOf ops oj j).i = j from rfl] at this
      rw [this] at hun; cases hun
  rcases cfM_spec hy hb with h | h | h
  · exact absurd h.symm hne
  · obtain ⟨e, he, hbd, hon⟩ := preM_bit.1 h
    exact absurd hon (hno e (by simpa using he) hbd)
  · exact apart_of h.1 h.2

theorem readyL_mem {m : Nat} {r : Ro} : ∀ {l : List Ro}, r ∈ readyL m l ↔ r ∈ l ∧ r.ready m = true
  | [] => by simp [readyL]
  | x :: l => by
    have ih := readyL_mem (m := m) (r := r) (l := l)
    unfold readyL
    cases hx : x.ready m
    · simp only [cond_false, ih, List.mem_cons]
      constructor
      · rintro ⟨h1, h2⟩; exact ⟨.inr h1, h2⟩
      · rintro ⟨rfl | h1, h2⟩
        · rw [hx] at h2; cases h2
        · exact ⟨h1, h2⟩
    · simp only [cond_true, List.mem_cons, ih]
      constructor
      · rintro (rfl | h)
        · exact ⟨.inl rfl, hx⟩
        · exact ⟨.inr h.1, h.2⟩
      · rintro ⟨rfl | h1, h2⟩
        · exact .inl rfl
        · exact .inr ⟨h1, h2⟩

/-- How many have not come up. -/
def unc : List Bool → Nat
  | [] => 0
  | b :: l => (bif b then 0 else 1) + unc l
theorem unc_set : ∀ {l : List Bool} {i : Nat}, l[i]? = some false → unc (l.set i true) + 1 = unc l
  | [], i, h => by simp at h
  | b :: l, 0, h => by simp at h; subst h; simp [unc]; omega
  | b :: l, i + 1, h => by
    simp only [List.getElem?_cons_succ] at h
    have := unc_set h
    simp only [List.set_cons_succ, unc]; omega
theorem unc_replicate : ∀ n, unc (List.replicate n false) = n
  | 0 => rfl
  | n + 1 => by simp only [List.replicate_succ, unc, unc_replicate n, cond_false]; omega

/-! ### Trees that agree -/
theorem allT_ok : ∀ {l : List T} {is : List Int}, (allT l).den F K is = some r → ∀ t ∈ l, t.den F K is = some r
  | [], is, h => (den_fail h).elim
  | [t], is, h => by intro u hu; simp at hu; subst hu; exact h
  | t :: u :: l, is, h => by
    unfold allT at h
    cases hb : t.beq (allT (u :: l)) <;> rw [hb] at h <;> simp only [cond_true, cond_false] at h
    · exact (den_fail h).elim
    · have he := T.beq_eq hb
      intro x hx
      rcases List.mem_cons.1 hx with rfl | hx
      · exact h
      · exact allT_ok (he ▸ h) x hx

/-! ### What is held -/
theorem inPl_iff {b off : Nat} : ∀ {L : List (Nat × Nat)}, inPl b off L = true ↔ (b, off) ∈ L
  | [] => by simp [inPl]
  | p :: L => by
    simp only [inPl, Bool.or_eq_true, Bool.and_eq_true, inPl_iff (L := L), List.mem_cons]
    refine or_congr_left ?_
    constructor
    · rintro ⟨h1, h2⟩; rw [← beq_nat h1, ← beq_nat h2]
    · rintro h; rw [← h]; simp
theorem allIn_spec {b : Nat} {L : List (Nat × Nat)} : ∀ {n off : Nat}, allIn b off L n = true → ∀ j, j < n → inPl b (off + j) L = true
  | 0, off, _, j, h => by omega
  | n + 1, off, h, 0, _ => by simp only [allIn, Bool.and_eq_true] at h; exact h.1
  | n + 1, off, h, j + 1, hj => by
    simp only [allIn, Bool.and_eq_true] at h
    have := allIn_spec h.2 j (by omega)
    rwa [show off + 1 + j = off + (j + 1) by omega] at this
/-- Places hold what they held. -/
def Sv (w0 : World) (ρ0 : Env) (mem0 : Tb SO) (L : List (Nat × Nat)) (w : World) : Prop :=
  Below w0.heap.size w0 w ∧ ∀ b off v, inPl b off L = true → cellAt mem0 b off = some v → w.cell? ⟨ρ0.b b, off, none⟩ = some (v.den ρ0)
theorem cellAt_ok (hm : Md C w0 ρ st w) {b off : Nat} {v : SV} (h : cellAt st.mem b off = some v) : b < st.nb ∧ v.wf st.ni st.nb = true ∧ w.cell? ⟨ρ.b b, off, none⟩ = some (v.den ρ) := by
  have hr : rdMem st.mem b off 1 = some [v] ∧ b < st.nb := by
    unfold cellAt at h
    unfold rdMem
    split at h
    · rename_i c e hb
      rw [nth_eq] at h
      refine ⟨?_, (hm.mem b _ hb).1⟩
      simp only [dropN_eq]
      have hd : c.drop off = v :: c.drop (off + 1) := by
        have := List.getElem?_eq_some_iff.1 h
        rw [← this.2]; exact List.drop_eq_getElem_cons this.1
      simp only [hb, hd]; rfl
    · rename_i c e s n hb
      rw [nth_eq] at h
      refine ⟨?_, (hm.mem b _ hb).1⟩
      simp only [dropN_eq]
      have hd : c.drop off = v :: c.drop (off + 1) := by
        have := List.getElem?_eq_some_iff.1 h
        rw [← this.2]; exact List.drop_eq_getElem_cons this.1
      simp only [hb, hd]; rfl
    · cases h
  obtain ⟨_, h2, _, h4⟩ := rdMem_ok hm hr.1
  exact ⟨hr.2, wfs_mem h2 v (by simp), h4 0 v rfl⟩
theorem Sv.of (hm : Md C w0 ρ st w) (L : List (Nat × Nat)) : Sv w0 ρ st.mem L w := ⟨hm.below, fun b off v _ hc => (cellAt_ok hm hc).2.2⟩
theorem heldOk_spec {mem0 mem : Tb SO} : ∀ {L : List (Nat × Nat)}, heldOk mem0 mem L = true → ∀ b off, inPl b off L = true → ∃ v, cellAt mem0 b off = some v ∧ cellAt mem b off = some v
  | [], _, b, off, h => by cases h
  | p :: L, h, b, off, hp => by
    simp only [heldOk, Bool.and_eq_true] at h
    simp only [inPl, Bool.or_eq_true, Bool.and_eq_true] at hp
    rcases hp with hp | hp
    · rw [← beq_nat hp.1, ← beq_nat hp.2]
      have := h.1
      split at this
      · rename_i v u h1 h2
        exact ⟨u, by rw [← SV.beq_eq this]; exact h1, h2⟩
      · cases this
    · exact heldOk_spec h.2 b off hp
theorem Sv.step {st0 : St} {ρ0 : Env} {wS : World} (hm0 : Md C w0 ρ0 st0 wS) (hle : ρ0.le ρ) (hm : Md C w0 ρ st w) {L : List (Nat × Nat)} (h : heldOk st0.mem st.mem L = true) : Sv w0 ρ0 st0.mem L w := by
  refine ⟨hm.below, fun b off v hp hc => ?_⟩
  obtain ⟨u, h1, h2⟩ := heldOk_spec h b off hp
  rw [hc] at h1; cases h1
  obtain ⟨g1, g2, _⟩ := cellAt_ok hm0 hc
  obtain ⟨_, _, q⟩ := cellAt_ok hm h2
  rw [Env.b_app hle (by rw [hm0.hnb]; exact g1), SV.den_app hle (by rw [hm0.hni, hm0.hnb]; exact g2)] at q
  exact q

/-- A load, from what the cells hold. -/
theorem load_of (hty : TyOk C.P C.ty) {t : TypeId} {e : TE} (he : C.ty.get t = some e) {B off : Nat} {l : List SV} {v : SV} (hl : l.length = (if e.d.agg = true then e.size else 1)) (hc : ∀ (j : Nat) v, l[j]? = some v → w.cell? ⟨B, off + j, none⟩ = some (v.den ρ))
    (hv : (bif e.d.agg then some (.agg l) else match l with
      | [v] => some v
      | _ => none) = some v) : (loadVar t ⟨B, off, none⟩).run C.P w = .ok (v.den ρ) w := by
  obtain ⟨dd, i, hu, hi, hmt, hs, _, _⟩ := hty.info he
  simp only [loadVar, Sem.run_bind, run_agg hu hmt, Result.andThen_ok]
  cases ha : e.d.agg
  · rw [ha] at hv hl
    simp only [cond_false] at hv
    split at hv
    · cases hv
      have := hc 0 v rfl
      simp only [Bool.false_eq_true, if_false, run_load]
      rw [Nat.add_zero] at this
      rw [this]
    · cases hv
  · rw [ha] at hv hl
    simp only [cond_true] at hv
    cases hv
    simp only [if_true] at hl
    have := run_loadCells_list (P := C.P) w ⟨B, off, none⟩ (SV.dens ρ l) (fun j u hj => by
      rw [dens_getElem?] at hj
      cases hlj : l[j]? with
      | none => rw [hlj] at hj; cases hj
      | some y =>
        rw [hlj] at hj
        cases hj
        rw [add_plain]; exact hc j y hlj)
    rw [dens_length, hl] at this
    simp only [if_true, Sem.run_bind, run_size hi, Result.andThen_ok, hs, this, Sem.run_pure]
    rfl
theorem rdGl_len {g off : Nat} {l : List SV} : ∀ {gl : List (Nat × List SV)} {n : Nat}, rdGl gl g off n = some l → l.length = n := by
  intro gl
  induction gl with
  | nil => intro n h; cases h
  | cons x xs ih =>
    intro n h
    obtain ⟨hh, c⟩ := x
    simp only [rdGl] at h
    cases hb : Nat.beq hh g <;> rw [hb] at h <;> simp only [cond_true, cond_false] at h
    · exact ih h
    · rw [dropN_eq] at h
      obtain ⟨h1, rfl⟩ := takeN_eq _ _ _ h
      simp at h1 ⊢; omega
theorem heldLoad_ok (hty : TyOk C.P C.ty) (hg : GOk C w0) {st0 : St} {ρ0 : Env} {wS : World} (hm0 : Md C w0 ρ0 st0 wS) (hle : ρ0.le ρ) {pc : List (B × Bool)} (hcx : Cx ρ st.ni st.nb pc tm a) {L : List (Nat × Nat)} {v : SV} (h : heldLoad C st0.mem L o.op pc tm = some v) :
    ∀ w, Sv w0 ρ0 st0.mem L w → (execOp a.eval o).run C.P w = .ok (.value (v.den ρ)) w := by
  intro w hS
  unfold heldLoad at h
  split at h
  · rename_i t x ho
    have fin : ∀ B off, a.eval x = .pointer (some ⟨B, off, none⟩) → (loadVar t ⟨B, off, none⟩).run C.P w = .ok (v.den ρ) w → (execOp a.eval o).run C.P w = .ok (.value (v.den ρ)) w := by
      intro B off ev hr
      unfold execOp
      simp only [ho, ev, Instr.loadAt, Instr.sureAddr, Sem.run_bind, Sem.run_pure, Result.andThen_ok, hr]
    split at h
    · rename_i b off e hx he
      obtain ⟨ev, _⟩ := hcx.ev hx
      cases ha : allIn b off L (bif e.d.agg then e.size else 1) <;> rw [ha] at h <;> simp only [cond_true, cond_false] at h
      · cases h
      · refine fin _ _ ev ?_
        unfold loadV at h
        simp only [he] at h
        split at h
        · cases h
        · rename_i l hl
          obtain ⟨h1, _, _, _⟩ := rdMem_ok hm0 hl
          refine load_of hty he (l := l) (by rw [h1]; cases e.d.agg <;> rfl) (fun j u hj => ?_) h
          have hjl : j < l.length := (List.getElem?_eq_some_iff.1 hj).1
          have hin := allIn_spec ha j (by omega)
          have hca : cellAt st0.mem b (off + j) = some u := by
            unfold rdMem at hl
            unfold cellAt
            split at hl
            · rename_i c e' hb
              rw [hb]
              simp only [nth_eq]
              rw [dropN_eq] at hl
              obtain ⟨_, rfl⟩ := takeN_eq _ _ _ hl
              rw [List.getElem?_take] at hj
              split at hj
              · rwa [List.getElem?_drop] at hj
              · cases hj
            · rename_i c e' s n hb
              rw [hb]
              simp only [nth_eq]
              rw [dropN_eq] at hl
              obtain ⟨_, rfl⟩ := takeN_eq _ _ _ hl
              rw [List.getElem?_take] at hj
              split at hj
              · rwa [List.getElem?_drop] at hj
              · cases hj
            · cases hl
          obtain ⟨g1, g2, _⟩ := cellAt_ok hm0 hca
          have := hS.2 b (off + j) u hin hca
          rw [Env.b_app hle (by rw [hm0.hnb]; exact g1), SV.den_app hle (by rw [hm0.hni, hm0.hnb]; exact g2)]
          exact this
    · rename_i g off e hx he
      obtain ⟨ev, _⟩ := hcx.ev hx
      refine fin _ _ ev ?_
      unfold loadV at h
      simp only [he] at h
      split at h
      · cases h
      · rename_i l hl
        refine load_of hty he (l := l) (by rw [rdGl_len hl]; cases e.d.agg <;> rfl) (fun j u hj => ?_) h
        obtain ⟨g1, g2, g3⟩ := hg g off _ l hl j u hj
        have hlt := World.block_lt_of_cell? (w := w0) (a := ⟨g, off + j, none⟩) g3
        rw [hS.1.cell hlt, g3]
        have hle : (⟨[], []⟩ : Env).le ρ := ⟨⟨ρ.is, rfl⟩, ⟨ρ.bs, rfl⟩⟩
        rw [SV.den_app hle g1]
    · cases h
  · cases h

/-- An operation that yields at once. -/
theorem takeV_ok (hty : TyOk C.P C.ty) (hg : GOk C w0) {ops : Array Oper} {dstOf : Nat → Option Tmp} (hd : ∀ j, dstOf j = (ops[j]?).bind (·.dst)) {st0 : St} {ρ0 : Env} {wS : World} (hm0 : Md C w0 ρ0 st0 wS) (hle : ρ0.le ρ) (hm : Md C w0 ρ st w) (ht : TmOk ρ st.ni st.nb tm a) {L : List (Nat × Nat)} {v : SV} {d : Bd}
    (h : takeV C dstOf st0.mem L o tm st = some (v, d)) (hdn : d.ni = st.ni + d.es.length) : YieldsIf C.P ops (Sv w0 ρ0 st0.mem L) o (v.den ⟨extE ρ.is d.es, ρ.bs⟩) a := by
  have plain : ∀ (pc : List (B × Bool)) (v : SV) (d : Bd), PcOk ρ.is pc → (match pureOp C.ty o.op tm st.ni pc with
    | some r => some r
    | none => match heldLoad C st0.mem L o.op pc tm with
      | some v => some (v, (⟨st.ni, []⟩ : Bd))
      | none => none) = some (v, d) → ∀ w, Sv w0 ρ0 st0.mem L w → (execOp a.eval o).run C.P w = .ok (.value (v.den ⟨extE ρ.is d.es, ρ.bs⟩)) w := by
    intro pc v d hpc h
    have hcx : Cx ρ st.ni st.nb pc tm a := ⟨hm.hni, hm.hnb, hpc, ht⟩
    split at h
    · rename_i x hp
      cases h
      obtain ⟨_, p2⟩ := pureOp_ok hty hcx hp
      exact fun w _ => p2 w
    · split at h
      · rename_i u hu
        cases h
        exact heldLoad_ok hty hg hm0 hle hcx hu
      · cases h
  unfold takeV at h
  split at h
  · rename_i hgd
    exact .inl ⟨by simp [Region.wanted, hgd], plain st.pc v d hm.hpc h⟩
  · rename_i j want hgd
    have hwant : Region.wanted o (yielded ops a.tmps) = (yielded ops a.tmps j == some want) := by simp [Region.wanted, hgd]
    split at h
    · cases h
    · rename_i c hc
      obtain ⟨hy, hcw⟩ := guardB_ok hd ht hc
      unfold YieldsIf
      rw [hwant, hy]
      split at h
      · rename_i hkn
        exact .inl ⟨B.known_ok hm.hpc hkn, plain st.pc v d hm.hpc h⟩
      · rename_i hkn
        cases h
        exact .inr ⟨B.known_ok hm.hpc hkn, rfl⟩
      · simp only [] at h
        split at h
        · rename_i u d' hp
          cases h
          have hcd : c.den (extE ρ.is d.es) = c.den ρ.is := Env.B_app (extEnv_le ρ d.es) (by rw [hm.hni]; exact hcw)
          cases hcv : c.den ρ.is
          · refine .inr ⟨rfl, ?_⟩
            simp only [SV.den, hcd, hcv]; rfl
          · refine .inl ⟨rfl, ?_⟩
            have := plain (c.facts true ++ st.pc) u d (PcOk.append (B.facts_ok _ _ _ hcv) hm.hpc) hp
            intro w hw
            rw [this w hw]
            simp only [SV.den, hcd, hcv]; rfl
        · cases h
theorem findTake_ok {dstOf : Nat → Option Tmp} {mem0 : Tb SO} {L : List (Nat × Nat)} {m : Nat} {x : Ro} {v : SV} {d : Bd} : ∀ {l : List Ro}, findTake C dstOf mem0 L m tm st l = some (x, v, d) → x ∈ l ∧ x.free m = true ∧ takeV C dstOf mem0 L x.o tm st = some (v, d)
  | [], h => by cases h
  | y :: l, h => by
    unfold findTake at h
    cases hf : y.free m <;> rw [hf] at h <;> simp only [cond_true, cond_false] at h
    · obtain ⟨h1, h2⟩ := findTake_ok h; exact ⟨.tail _ h1, h2⟩
    · split at h
      · rename_i v' d' ht
        cases h
        exact ⟨.head _, hf, ht⟩
      · obtain ⟨h1, h2⟩ := findTake_ok h; exact ⟨.tail _ h1, h2⟩

/-- **Regions that draw their order.** -/
theorem sxAny_ok (hty : TyOk C.P C.ty) (hg : GOk C w0) {ops : Array Oper} {dstOf : Nat → Option Tmp} (hd : ∀ j, dstOf j = (ops[j]?).bind (·.dst)) (hsel : ∀ (j : Nat) (o : Oper) cs b, ops[j]? = some o → o.op ≠ .select cs b)
    (hQ0 : ∀ c a w, ¬ Q (.panic c) a w) {callF : Nat → List SV → St → (SV → St → T) → T} (hcall : CallOk F K r C w0 callF) {k : Tm → St → T} {st0 : St} {ρ0 : Env} {wS : World} (hm0 : Md C w0 ρ0 st0 wS) {L : List (Nat × Nat)} :
    ∀ (n : Nat) {m : Nat} {ρ : Env} {st : St} {w : World} {tm : Tm} {a : Act} {fuel : Nat} {listed : Array Bool}, MkOk ops m listed → unc listed.toList ≤ fuel → ρ0.le ρ → Md C w0 ρ st w → TmOk ρ st.ni st.nb tm a → Sv w0 ρ0 st0.mem L w →
      (sxAny C callF dstOf (rosOf ops) L st0.mem n m tm st k).den F K ρ.is = some r → HT F K r C w0 ρ a (Q .normal) k → wpAnyH C.P .any ops Q (Sv w0 ρ0 st0.mem L) fuel listed a w
  | 0, m, ρ, st, w, tm, a, fuel, listed, _, _, _, _, _, _, h, _ => (den_fail h).elim
  | n + 1, m, ρ, st, w, tm, a, fuel, listed, hk, hf, hle, hm, ht, hS, h, hK => by
    unfold sxAny at h
    have inL : ∀ i, i ∈ Region.ready .any ops listed → ∃ o, ops[i]? = some o ∧ roOf ops o i ∈ readyL m (rosOf ops) := by
      intro i hi
      obtain ⟨_, o, ho, _⟩ := mem_ready.1 hi
      exact ⟨o, ho, readyL_mem.2 ⟨List.mem_of_getElem? (rosOf_get ho), (hk.ready ho).2 hi⟩⟩
    have more : ∀ i, i ∈ Region.ready .any ops listed → ∃ f, fuel = f + 1 ∧ unc (listed.setIfInBounds i true).toList ≤ f := by
      intro i hi
      obtain ⟨h0, o, ho, _⟩ := mem_ready.1 hi
      have hlt : i < listed.size := by rw [hk.1]; exact (Array.getElem?_eq_some_iff.1 ho).1
      have : listed.toList[i]? = some false := by
        simp [hlt] at h0 ⊢; exact h0
      have := unc_set this
      refine ⟨fuel - 1, by omega, ?_⟩
      rw [Array.toList_setIfInBounds]; omega
    split at h
    · rename_i hr
      have : Region.ready .any ops listed = [] := by
        cases hrr : Region.ready .any ops listed with
        | nil => rfl
        | cons i l =>
          obtain ⟨o, _, hmem⟩ := inL i (by rw [hrr]; exact .head _)
          rw [hr] at hmem; cases hmem
      exact wpAnyH_done this (hK _ _ _ _ _ (Env.le_refl ρ) hm ht (.refl a) h) fuel
    · rename_i x xs hr
      split at h
      · rename_i y v d hft
        obtain ⟨h1, h2, h3⟩ := findTake_ok hft
        rw [← hr, readyL_mem] at h1
        obtain ⟨i, o, ho, rfl⟩ := rosOf_mem h1.1
        have hrd := (hk.ready ho).1 h1.2
        obtain ⟨f, rfl, hf'⟩ := more i hrd
        obtain ⟨hd1, hd2⟩ := bindEs_ok h
        have hm' : Md C w0 ⟨extE ρ.is d.es, ρ.bs⟩ { st with ni := d.ni } w := extE_nums hm (by rw [hm.hni]; exact hd2)
        have ht' := hm.tmok hm' (extEnv_le ρ d.es) ht
        have hy := takeV_ok hty hg hd hm0 hle hm ht h3 hd2
        obtain ⟨tm', q1, q2⟩ := putT_ok (ρ := ⟨extE ρ.is d.es, ρ.bs⟩) ht' hd1 (x := v.den ⟨extE ρ.is d.es, ρ.bs⟩) rfl
        refine wpAnyH_first ho hsel (fun c a w hq => absurd hq (hQ0 _ _ _)) f listed a w (hk.free h2) hrd hy hS ?_
        exact sxAny_ok hty hg hd hsel hQ0 hcall hm0 n (hk.set ho) hf' (Env.le_trans hle (extEnv_le ρ d.es)) hm' q1 hS q2 fun ρ' st' w' tm' a' hl hm'' ht'' hlk => hK ρ' st' w' tm' a' (Env.le_trans (extEnv_le ρ d.es) hl) hm'' ht'' ((ActLike.put _ _ _).trans hlk)
      · have hall := allT_ok h
        cases hff : fuel with
        | zero =>
          refine ⟨?_, ?_⟩
          · cases hrr : Region.ready .any ops listed with
            | nil => rfl
            | cons i l =>
              obtain ⟨f, hf', _⟩ := more i (by rw [hrr]; exact .head _)
              omega
          · exfalso
            have hx : x ∈ readyL m (rosOf ops) := by rw [hr]; exact .head _
            obtain ⟨hx1, hx2⟩ := readyL_mem.1 hx
            obtain ⟨i, o, ho, rfl⟩ := rosOf_mem hx1
            obtain ⟨f, hf', _⟩ := more i ((hk.ready ho).1 hx2)
            omega
        | succ f =>
          refine ⟨fun h0 => ?_, fun i hi => ?_⟩
          · exfalso
            have hx : x ∈ readyL m (rosOf ops) := by rw [hr]; exact .head _
            obtain ⟨hx1, hx2⟩ := readyL_mem.1 hx
            obtain ⟨i, o, ho, rfl⟩ := rosOf_mem hx1
            have := (hk.ready ho).1 hx2
            rw [h0] at this; cases this
          · obtain ⟨o, ho, hmem⟩ := inL i hi
            obtain ⟨f', hf', hun⟩ := more i hi
            have : f' = f := by omega
            subst this
            have h1 := hall _ (List.mem_map.2 ⟨_, hr ▸ hmem, rfl⟩)
            have h2 := sxG_ok (Q := Q) (o := o) hty hg hd hm ht hcall h1 (next := fun a' w' => Sv w0 ρ0 st0.mem L w' ∧ wpAnyH C.P .any ops Q (Sv w0 ρ0 st0.mem L) f' (listed.setIfInBounds i true) a' w') fun ρ' st' w' tm' a' hl hm' ht' hlk hd' => by
              cases hh : heldOk st0.mem st'.mem L <;> rw [hh] at hd' <;> simp only [cond_true, cond_false] at hd'
              · exact (den_fail hd').elim
              · have hS' := Sv.step hm0 (Env.le_trans hle hl) hm' hh
                exact ⟨hS', sxAny_ok hty hg hd hsel hQ0 hcall hm0 n (hk.set ho) hun (Env.le_trans hle hl) hm' ht' hS' hd' fun ρ'' st'' w'' tm'' a'' hl' hm'' ht'' hlk' => hK _ _ _ _ _ (Env.le_trans hl hl') hm'' ht'' (hlk.trans hlk')⟩
            unfold wpOp
            simp only [ho]
            split
            · rename_i hw; rw [if_pos hw] at h2; exact .inl h2
            · rename_i hw; rw [if_neg hw] at h2; exact h2

end Go.SX
