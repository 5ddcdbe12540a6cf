/- The symbolic executor SY, its soundness, part 21: regions that draw their order. -/
import Derived.Test.YtolebnomgllgaaaGreatDoorSyS19
import Derived.OrdersHeld
set_option linter.unusedVariables false
set_option linter.unusedSimpArgs false
namespace Go.SY
open Go Go.RowKit
noncomputable section
variable {F : Nat → List Dt → Post → Prop} {Q : Post}
variable {C : Cfg} {G : Nat → Prop} {fz0 : Fz} {w0 w w' : World} {ρ ρ' ρ1 ρ1' : Env} {st : St} {d : Bd} {tm : Tm} {a : Act} {o : Oper} {k : SV → St → T} {next : Act → World → Prop} {QE : Exit → Act → World → Prop}
theorem lor_bit (x y i : Nat) : Nat.testBit (Nat.lor x y) i = (Nat.testBit x i || Nat.testBit y i) := Nat.testBit_or x y i
theorem land_bit (x y i : Nat) : Nat.testBit (Nat.land x y) i = (Nat.testBit x i && Nat.testBit y i) := Nat.testBit_and x y i
theorem pow_bit (n i : Nat) : Nat.testBit (2 ^ n) i = decide (n = i) := Nat.testBit_two_pow
theorem preM_bit {j : Nat} : ∀ {l : List Edge}, Nat.testBit (preM l) j = true ↔ ∃ e ∈ l, Region.binds .any e = true ∧ e.on = j
  | [] => by simp [preM]
  | e :: l => by
    have ih := preM_bit (j := j) (l := l)
    unfold preM
    cases hb : Region.binds .any e
    · simp only [cond_false, ih, List.mem_cons]
      constructor
      · rintro ⟨x, hx, h⟩; exact ⟨x, .inr hx, h⟩
      · rintro ⟨x, hx | hx, h⟩
        · subst hx; rw [hb] at h; cases h.1
        · exact ⟨x, hx, h⟩
    · simp only [cond_true, lor_bit, pow_bit, Bool.or_eq_true, ih, decide_eq_true_eq, List.mem_cons]
      constructor
      · rintro (h | ⟨x, hx, h⟩)
        · exact ⟨e, .inl rfl, hb, h⟩
        · exact ⟨x, .inr hx, h⟩
      · rintro ⟨x, hx | hx, h⟩
        · subst hx; exact .inl h.2
        · exact .inr ⟨x, hx, h⟩
theorem tmpsM_bit {t : Nat} : ∀ {l : List Tmp}, Nat.testBit (tmpsM l) t = true ↔ t ∈ l
  | [] => by simp [tmpsM]
  | e :: l => by
    have ih := tmpsM_bit (t := t) (l := l)
    unfold tmpsM
    simp only [lor_bit, pow_bit, Bool.or_eq_true, ih, decide_eq_true_eq, List.mem_cons]
    exact ⟨fun h => h.imp Eq.symm id, fun h => h.imp Eq.symm id⟩
def rmOf (ops : Array Oper) (o : Oper) (i : Nat) : Rm := ⟨i, preM o.after.toList, tmpsM (o.looksAt ops), dstM o.dst⟩
theorem mkRm_get {ops : Array Oper} : ∀ (l : List Oper) (i j : Nat), (mkRm ops l i)[j]? = (l[j]?).map fun o => rmOf ops o (i + j)
  | [], i, j => by simp [mkRm]
  | o :: l, i, 0 => by simp [mkRm, rmOf]
  | o :: l, i, j + 1 => by
    simp only [mkRm, List.getElem?_cons_succ]
    rw [mkRm_get l (i + 1) j]
    congr 1; funext o; congr 1; omega
theorem mkRo_get {all : List Rm} : ∀ (l : List Oper) (ms : List Rm) (j : Nat) (o : Oper) (m : Rm), l[j]? = some o → ms[j]? = some m → (mkRo all l ms)[j]? = some ⟨m.i, o, m.pre, cfM m all⟩
  | [], _, j, o, m, h, _ => by simp at h
  | _ :: _, [], j, o, m, _, h => by simp at h
  | o' :: l, m' :: ms, 0, o, m, h, h' => by
    simp at h h'; subst h; subst h'; rfl
  | o' :: l, m' :: ms, j + 1, o, m, h, h' => by
    simp only [List.getElem?_cons_succ] at h h'
    simp only [mkRo, List.getElem?_cons_succ]
    exact mkRo_get l ms j o m h h'
theorem mkRo_len {all : List Rm} : ∀ (l : List Oper) (ms : List Rm), (mkRo all l ms).length ≤ l.length
  | [], _ => by simp [mkRo]
  | _ :: _, [] => by simp [mkRo]
  | _ :: l, _ :: ms => by simp only [mkRo, List.length_cons]; have := mkRo_len (all := all) l ms; omega
def roOf (ops : Array Oper) (o : Oper) (i : Nat) : Ro := ⟨i, o, preM o.after.toList, cfM (rmOf ops o i) (mkRm ops ops.toList 0)⟩
theorem rosOf_get {ops : Array Oper} {i : Nat} {o : Oper} (h : ops[i]? = some o) : (rosOf ops)[i]? = some (roOf ops o i) := by
  have hl : ops.toList[i]? = some o := by simpa using h
  refine mkRo_get _ _ i o (rmOf ops o i) hl ?_
  rw [mkRm_get, hl]; simp
theorem rosOf_mem {ops : Array Oper} {r : Ro} (h : r ∈ rosOf ops) : ∃ i o, ops[i]? = some o ∧ r = roOf ops o i := by
  obtain ⟨j, hj⟩ := List.getElem?_of_mem h
  have hlt : j < ops.size := by
    have h1 := (List.getElem?_eq_some_iff.1 hj).1
    have h2 := mkRo_len (all := mkRm ops ops.toList 0) ops.toList (mkRm ops ops.toList 0)
    have : (rosOf ops).length ≤ ops.size := by simpa [rosOf] using h2
    omega
  have ho : ops[j]? = some ops[j] := by simp [hlt]
  have := rosOf_get ho
  rw [hj] at this
  exact ⟨j, _, ho, by injection this⟩
theorem cfM_spec {x : Rm} : ∀ {all : List Rm} {y : Rm}, y ∈ all → Nat.testBit (cfM x all) y.i = false → x.i = y.i ∨ Nat.testBit y.pre x.i = true ∨ (Nat.land x.dst (Nat.lor y.look y.dst) = 0 ∧ Nat.land y.dst x.look = 0)
  | [], y, h, _ => by cases h
  | z :: all, y, h, hb => by
    unfold cfM at hb
    cases hc : (Nat.beq x.i z.i || Nat.testBit z.pre x.i || (Nat.beq (Nat.land x.dst (Nat.lor z.look z.dst)) 0 && Nat.beq (Nat.land z.dst x.look) 0)) <;> rw [hc] at hb
    · simp only [cond_false, lor_bit, pow_bit, Bool.or_eq_false_iff, decide_eq_false_iff_not] at hb
      rcases List.mem_cons.1 h with rfl | h
      · exact absurd rfl hb.1
      · exact cfM_spec h hb.2
    · simp only [cond_true] at hb
      rcases List.mem_cons.1 h with rfl | h
      · simp only [Bool.or_eq_true, Bool.and_eq_true] at hc
        rcases hc with (hc | hc) | hc
        · exact .inl (beq_nat hc)
        · exact .inr (.inl hc)
        · exact .inr (.inr ⟨beq_nat hc.1, beq_nat hc.2⟩)
      · exact cfM_spec h hb
theorem land_zero {x y t : Nat} (h : Nat.land x y = 0) (hx : Nat.testBit x t = true) : Nat.testBit y t = false := by
  have := land_bit x y t
  rw [h, hx] at this
  simpa using this.symm
theorem apart_of {ops : Array Oper} {x y : Oper} {i j : Nat} (h1 : Nat.land (rmOf ops x i).dst (Nat.lor (rmOf ops y j).look (rmOf ops y j).dst) = 0) (h2 : Nat.land (rmOf ops y j).dst (rmOf ops x i).look = 0) : x.apart ops y = true := by
  unfold Oper.apart
  simp only [rmOf] at h1 h2
  rw [Bool.and_eq_true]
  constructor
  · split
    · rename_i d hd
      rw [hd] at h1
      have hb := land_zero (t := d) h1 (by simp [dstM])
      rw [lor_bit, Bool.or_eq_false_iff] at hb
      simp only [Bool.and_eq_true, Bool.not_eq_true', bne_iff_ne, ne_eq]
      refine ⟨?_, fun he => ?_⟩
      · cases hc : (y.looksAt ops).contains d
        · rfl
        · have : d ∈ y.looksAt ops := by simpa using hc
          rw [tmpsM_bit.2 this] at hb; cases hb.1
      · rw [he] at hb; simp [dstM] at hb
    · rfl
  · split
    · rename_i d hd
      rw [hd] at h2
      have hb := land_zero (t := d) h2 (by simp [dstM])
      cases hc : (x.looksAt ops).contains d
      · rfl
      · have : d ∈ x.looksAt ops := by simpa using hc
        rw [tmpsM_bit.2 this] at hb; cases hb
    · rfl
def MkOk (ops : Array Oper) (m : Nat) (listed : Array Bool) : Prop := listed.size = ops.size ∧ ∀ i, Nat.testBit m i = listed.getD i false
theorem land_eq {x m j : Nat} (h : Nat.land x m = x) (hx : Nat.testBit x j = true) : Nat.testBit m j = true := by
  have := land_bit x m j
  rw [h, hx] at this
  simpa using this.symm
theorem eq_land {x m : Nat} (h : ∀ j, Nat.testBit x j = true → Nat.testBit m j = true) : Nat.land x m = x := by
  apply Nat.eq_of_testBit_eq
  intro j
  rw [land_bit]
  cases hx : Nat.testBit x j
  · rfl
  · rw [h j hx]; rfl
theorem getD_tf {listed : Array Bool} {i : Nat} (h : i < listed.size) : listed.getD i true = listed.getD i false := by simp [h]
theorem MkOk.ready {ops : Array Oper} {m : Nat} {listed : Array Bool} (hk : MkOk ops m listed) {i : Nat} {o : Oper} (ho : ops[i]? = some o) : (roOf ops o i).ready m = true ↔ i ∈ Region.ready .any ops listed := by
  have hlt : i < listed.size := by rw [hk.1]; exact (Array.getElem?_eq_some_iff.1 ho).1
  rw [mem_ready, getD_tf hlt]
  simp only [Ro.ready, roOf, Bool.and_eq_true, Bool.not_eq_true', hk.2 i]
  constructor
  · rintro ⟨h1, h2⟩
    refine ⟨h1, o, ho, fun e he hb => ?_⟩
    rw [← hk.2]
    exact land_eq (beq_nat h2) (preM_bit.2 ⟨e, by simpa using he, hb, rfl⟩)
  · rintro ⟨h1, o', ho', h2⟩
    rw [ho] at ho'; cases ho'
    refine ⟨h1, ?_⟩
    rw [eq_land fun j hj => ?_]
    · exact Nat.beq_refl _
    · obtain ⟨e, he, hb, rfl⟩ := preM_bit.1 hj
      rw [hk.2]
      exact h2 e (by simpa using he) hb
theorem MkOk.set {ops : Array Oper} {m : Nat} {listed : Array Bool} (hk : MkOk ops m listed) {i : Nat} {o : Oper} (ho : ops[i]? = some o) : MkOk ops (Nat.lor m (2 ^ i)) (listed.setIfInBounds i true) := by
  have hlt : i < listed.size := by rw [hk.1]; exact (Array.getElem?_eq_some_iff.1 ho).1
  refine ⟨by simp [hk.1], fun j => ?_⟩
  rw [lor_bit, pow_bit, hk.2]
  by_cases hij : i = j
  · subst hij; simp [hlt]
  · rw [getD_set_ne false hij]; simp [hij]
theorem MkOk.free {ops : Array Oper} {m : Nat} {listed : Array Bool} (hk : MkOk ops m listed) {i : Nat} {o : Oper} (hf : (roOf ops o i).free m = true) :
    ∀ j oj, ops[j]? = some oj → j ≠ i → listed.getD j true = false → (∀ e ∈ oj.after, Region.binds .any e = true → e.on ≠ i) → o.apart ops oj = true := by
  intro j oj hj hne hun hno
  have hlt : j < listed.size := by rw [hk.1]; exact (Array.getElem?_eq_some_iff.1 hj).1
  rw [getD_tf hlt, ← hk.2] at hun
  have hy : rmOf ops oj j ∈ mkRm ops ops.toList 0 := by
    refine List.mem_of_getElem? (i := j) ?_
    rw [mkRm_get]
    have : ops.toList[j]? = some oj := by simpa using hj
    rw [this]; simp
  have hb : Nat.testBit (cfM (rmOf ops o i) (mkRm ops ops.toList 0)) (rmOf ops oj j).i = false := by
    cases hb : Nat.testBit (cfM (rmOf ops o i) (mkRm ops ops.toList 0)) (rmOf ops oj j).i
    · rfl
    · have := land_eq (beq_nat hf) hb
      rw [show (rmOf ops oj j).i = j from rfl] at this
      rw [this] at hun; cases hun
  rcases cfM_spec hy hb with h | h | h
  · exact absurd h.symm hne
  · obtain ⟨e, he, hbd, hon⟩ := preM_bit.1 h
    exact absurd hon (hno e (by simpa using he) hbd)
  · exact apart_of h.1 h.2
theorem readyL_mem {m : Nat} {r : Ro} : ∀ {l : List Ro}, r ∈ readyL m l ↔ r ∈ l ∧ r.ready m = true
  | [] => by simp [readyL]
  | x :: l => by
    have ih := readyL_mem (m := m) (r := r) (l := l)
    unfold readyL
    cases hx : x.ready m
    · simp only [cond_false, ih, List.mem_cons]
      constructor
      · rintro ⟨h1, h2⟩; exact ⟨.inr h1, h2⟩
      · rintro ⟨rfl | h1, h2⟩
        · rw [hx] at h2; cases h2
        · exact ⟨h1, h2⟩
    · simp only [cond_true, List.mem_cons, ih]
      constructor
      · rintro (rfl | h)
        · exact ⟨.inl rfl, hx⟩
        · exact ⟨.inr h.1, h.2⟩
      · rintro ⟨rfl | h1, h2⟩
        · exact .inl rfl
        · exact .inr ⟨h1, h2⟩
def unc : List Bool → Nat
  | [] => 0
  | b :: l => (bif b then 0 else 1) + unc l
theorem unc_set : ∀ {l : List Bool} {i : Nat}, l[i]? = some false → unc (l.set i true) + 1 = unc l
  | [], i, h => by simp at h
  | b :: l, 0, h => by simp at h; subst h; simp [unc]; omega
  | b :: l, i + 1, h => by
    simp only [List.getElem?_cons_succ] at h
    have := unc_set h
    simp only [List.set_cons_succ, unc]; omega
theorem unc_replicate : ∀ n, unc (List.replicate n false) = n
  | 0 => rfl
  | n + 1 => by simp only [List.replicate_succ, unc, unc_replicate n, cond_false]; omega
theorem allT_ok {ty : Ty} : ∀ {l : List T} {is : List Dt}, (allT l).wp ty F is Q → ∀ t ∈ l, t.wp ty F is Q
  | [], is, h => h.elim
  | [t], is, h => by intro u hu; simp at hu; subst hu; exact h
  | t :: u :: l, is, h => by
    unfold allT at h
    cases hb : t.beq (allT (u :: l)) <;> rw [hb] at h <;> simp only [cond_true, cond_false] at h
    · exact h.elim
    · have he := T.beq_eq hb
      intro x hx
      rcases List.mem_cons.1 hx with rfl | hx
      · exact h
      · exact allT_ok (he ▸ h) x hx
theorem allIn_spec {b : Nat} {L : List (Nat × Nat)} : ∀ {n off : Nat}, allIn b off L n = true → ∀ j, j < n → inPl b (off + j) L = true
  | 0, off, _, j, h => by omega
  | n + 1, off, h, 0, _ => by simp only [allIn, Bool.and_eq_true] at h; exact h.1
  | n + 1, off, h, j + 1, hj => by
    simp only [allIn, Bool.and_eq_true] at h
    have := allIn_spec h.2 j (by omega)
    rwa [show off + 1 + j = off + (j + 1) by omega] at this
theorem allInA_spec {b : Nat} {L : Pl} {n off : Nat} (h : allInA b off L n = true) : ∀ j, j < n → inPl b (off + j) L = true := by
  intro j hj
  unfold allInA at h
  cases hA : isAll L <;> rw [hA] at h
  · exact allIn_spec (by simpa using h) j hj
  · unfold inPl; rw [hA]; rfl
def Sv (ty : Ty) (ρ0 : Env) (mem0 : Tb SO) (L : Pl) (z : Fz) (w : World) : Prop :=
  ∃ fz, FzLe z fz ∧ FzIn fz w ∧ (∀ b off v, inPl b off L = true → cellAt mem0 b off = some v → w.cell? ⟨ρ0.b b, off, none⟩ = some (v.den ρ0)) ∧
    (∀ b e s x, inPl b rowPl L = true → mem0.get b = some (.rowd e s x) → RowOk ty fz w e s (x.den ρ0.is) (ρ0.val b))
theorem Sv.less {ty : Ty} {ρ0 : Env} {mem0 : Tb SO} {L : Pl} {z z' : Fz} (hz : FzLe z z') (h : Sv ty ρ0 mem0 L z' w) : Sv ty ρ0 mem0 L z w := by
  obtain ⟨fz, h1, h2⟩ := h
  exact ⟨fz, fun b o ho => h1 b o (hz b o ho), h2⟩
theorem cellAt_rd {mem : Tb SO} {b off : Nat} {v : SV} (h : cellAt mem b off = some v) : rdMem mem b off 1 = some [v] := by
  unfold cellAt at h
  unfold rdMem
  split at h
  · rename_i c e hb
    rw [nth_eq] at h
    simp only [dropN_eq]
    have hd : c.drop off = v :: c.drop (off + 1) := by
      have := List.getElem?_eq_some_iff.1 h
      rw [← this.2]; exact List.drop_eq_getElem_cons this.1
    simp only [hb, hd]; rfl
  · cases h
theorem cellAt_ok (hm : Md C.ty C.pl G fz0 w0 ρ st w) {b off : Nat} {v : SV} (h : cellAt st.mem b off = some v) : b < st.nb ∧ v.wf st.ni st.nb = true ∧ w.cell? ⟨ρ.b b, off, none⟩ = some (v.den ρ) := by
  have hr := cellAt_rd h
  obtain ⟨_, h2, _, _, h4⟩ := rdMem_ok hm hr
  refine ⟨?_, wfs_mem h2 v (by simp), by simpa using h4 0 v rfl⟩
  unfold cellAt at h
  split at h
  · rename_i c e hb; exact (hm.mem b _ hb).1
  · cases h
theorem Sv.of (hm : Md C.ty C.pl G fz0 w0 ρ st w) (L : Pl) : Sv C.ty ρ st.mem L ρ.fz w :=
  ⟨ρ.fz, fun _ _ h => h, hm.fzw, fun b off v _ hc => (cellAt_ok hm hc).2.2, fun b e s x _ hb => (hm.mem b _ hb).2.2.2⟩
theorem soHeld_spec {o o' : Option SO} (h : soHeld o o' = true) : (∀ c e, o = some (.cells c e) → o' = some (.cells c e)) ∧ ∀ e s a, o = some (.rowd e s a) → o' = some (.rowd e s a) := by
  constructor
  · rintro c e rfl
    cases o' with
    | none => exact absurd h (by simp [soHeld])
    | some y =>
      cases y <;> simp only [soHeld, Bool.and_eq_true] at h <;> first
        | (rw [beq_nat h.1, SV.beqs_eq h.2]; done)
        | exact absurd h (by simp)
  · rintro e s a rfl
    cases o' with
    | none => exact absurd h (by simp [soHeld])
    | some y =>
      cases y <;> simp only [soHeld, Bool.and_eq_true] at h <;> first
        | (rw [beq_nat h.1.1, beq_nat h.1.2, A.beq_eq h.2]; done)
        | exact absurd h (by simp)
theorem noHeld_spec : ∀ {m : Tb SO}, noHeld m = true → ∀ i, soHeld (m.get i) none = true
  | .e, _, i => by rw [Tb.get_e]; rfl
  | .n l v r, h, i => by
    simp only [noHeld, Bool.and_eq_true] at h
    unfold Tb.get
    cases i with
    | zero => exact h.1.1
    | succ i =>
      simp only
      cases Nat.beq (Nat.mod i 2) 0
      · exact noHeld_spec h.2 _
      · exact noHeld_spec h.1.2 _
theorem memHeld_spec : ∀ {m m' : Tb SO}, memHeld m m' = true → ∀ i, soHeld (m.get i) (m'.get i) = true
  | .e, _, _, i => by rw [Tb.get_e]; rfl
  | .n l v r, .e, h, i => by rw [Tb.get_e]; exact noHeld_spec h i
  | .n l v r, .n l' v' r', h, i => by
    simp only [memHeld, Bool.and_eq_true] at h
    unfold Tb.get
    cases i with
    | zero => exact h.1.1
    | succ i =>
      simp only
      cases Nat.beq (Nat.mod i 2) 0
      · exact memHeld_spec h.2 _
      · exact memHeld_spec h.1.2 _
theorem heldOk0_spec {mem0 mem : Tb SO} : ∀ {L : Pl}, heldOk0 mem0 mem L = true → ∀ b off, inPl0 b off L = true → if off = rowPl then ∃ e s a, mem0.get b = some (.rowd e s a) ∧ mem.get b = some (.rowd e s a) else ∃ v, cellAt mem0 b off = some v ∧ cellAt mem b off = some v
  | [], _, b, off, h => by cases h
  | p :: L, h, b, off, hp => by
    simp only [heldOk0, Bool.and_eq_true] at h
    simp only [inPl0, Bool.or_eq_true, Bool.and_eq_true] at hp
    rcases hp with hp | hp
    · rw [← beq_nat hp.1, ← beq_nat hp.2]
      have := h.1
      cases hr : Nat.beq p.2 rowPl <;> rw [hr] at this <;> simp only [cond_true, cond_false] at this
      · rw [if_neg (fun e => by rw [e] at hr; simp at hr)]
        split at this
        · rename_i v u h1 h2
          exact ⟨u, by rw [← SV.beq_eq this]; exact h1, h2⟩
        · cases this
      · rw [if_pos (beq_nat hr)]
        unfold rowAt at this
        split at this
        · rename_i x y h1 h2
          simp only [Bool.and_eq_true] at this
          split at h1 <;> cases h1
          rename_i e s a hb
          split at h2 <;> cases h2
          rename_i e' s' a' hb'
          have q1 := beq_nat this.1.1
          have q2 := beq_nat this.1.2
          have q3 := A.beq_eq this.2
          simp only at q1 q2 q3
          subst q1; subst q2; subst q3
          exact ⟨_, _, _, hb, hb'⟩
        · cases this
    · exact heldOk0_spec h.2 b off hp
theorem heldOk_spec {mem0 mem : Tb SO} {L : Pl} (h : heldOk mem0 mem L = true) : (∀ b off v, inPl b off L = true → cellAt mem0 b off = some v → cellAt mem b off = some v) ∧ ∀ b e s x, inPl b rowPl L = true → mem0.get b = some (.rowd e s x) → mem.get b = some (.rowd e s x) := by
  unfold heldOk at h
  cases hA : isAll L <;> rw [hA] at h <;> simp only [cond_true, cond_false] at h
  · have hin : ∀ b off, inPl b off L = true → inPl0 b off L = true := fun b off hb => by unfold inPl at hb; rw [hA] at hb; simpa using hb
    constructor
    · intro b off v hp hc
      have := heldOk0_spec h b off (hin b off hp)
      split at this
      · obtain ⟨e, s, a, h1, h2⟩ := this
        unfold cellAt at hc
        rw [h1] at hc
        cases hc
      · obtain ⟨u, h1, h2⟩ := this
        rw [hc] at h1; cases h1
        exact h2
    · intro b e s x hp hb
      have := heldOk0_spec h b rowPl (hin b rowPl hp)
      rw [if_pos rfl] at this
      obtain ⟨e', s', a, h1, h2⟩ := this
      rw [hb] at h1; cases h1
      exact h2
  · constructor
    · intro b off v _ hc
      unfold cellAt at hc ⊢
      split at hc
      · rename_i c e hb
        rw [(soHeld_spec (memHeld_spec h b)).1 c e hb]
        exact hc
      · cases hc
    · intro b e s x _ hb
      exact (soHeld_spec (memHeld_spec h b)).2 e s x hb
theorem Sv.step {st0 : St} {ρ0 : Env} {wS : World} (hm0 : Md C.ty C.pl G fz0 w0 ρ0 st0 wS) (hle : ρ0.le ρ) (hm : Md C.ty C.pl G fz0 w0 ρ st w) {L : Pl} (h : heldOk st0.mem st.mem L = true) : Sv C.ty ρ0 st0.mem L ρ.fz w := by
  refine ⟨ρ.fz, fun _ _ h => h, hm.fzw, fun b off v hp hc => ?_, fun b e s x hp hb => ?_⟩
  · have h2 := (heldOk_spec h).1 b off v hp hc
    obtain ⟨g1, g2, _⟩ := cellAt_ok hm0 hc
    obtain ⟨_, _, q⟩ := cellAt_ok hm h2
    rw [Env.b_app hle (by rw [hm0.hnb]; exact g1), SV.den_app hle (by rw [hm0.hni, hm0.hnb]; exact g2)] at q
    exact q
  · have h2 := (heldOk_spec h).2 b e s x hp hb
    obtain ⟨g1, g2, _, _⟩ := hm0.mem b _ hb
    have q := (hm.mem b _ h2).2.2.2
    simp only [SO.ok] at q
    simp only [SO.wf] at g2
    rw [Env.val_app hle (by rw [hm0.hnb]; exact g1), Env.A_app hle (by rw [hm0.hni]; exact g2)] at q
    exact q
mutual
theorem den_fz (fz : Fz) (ρ : Env) : ∀ (v : SV), v.den { ρ with fz := fz } = v.den ρ
  | .fn f a b => by simp only [SV.den, dens_fz fz ρ a, dens_fz fz ρ b]
  | .agg l => by simp only [SV.den, dens_fz fz ρ l]
  | .tup l => by simp only [SV.den, dens_fz fz ρ l]
  | .iface t v => by simp only [SV.den, den_fz fz ρ v]
  | .gd c w v => by simp only [SV.den, den_fz fz ρ v]
  | .int _ _ | .bool _ | .str _ | .sl _ | .pt _ | .map _ | .ptr _ _ | .gptr _ _ | .rp _ _ _ _ _ | .nilp | .nilsl | .nilmap | .nilfn | .niliface | .slice _ _ _ _ | .bot => by simp only [SV.den] <;> rfl
theorem dens_fz (fz : Fz) (ρ : Env) : ∀ (l : List SV), SV.dens { ρ with fz := fz } l = SV.dens ρ l
  | [] => rfl
  | v :: l => by simp only [SV.dens, den_fz fz ρ v, dens_fz fz ρ l]
end
mutual
theorem ty_fz {fz : Fz} {ρ : Env} : ∀ {v : SV}, v.ty { ρ with fz := fz } → v.ty ρ
  | .fn f a b, h => by simp only [SV.ty] at h ⊢; exact ⟨tys_fz h.1, tys_fz h.2⟩
  | .agg l, h => by simp only [SV.ty] at h ⊢; exact tys_fz h
  | .tup l, h => by simp only [SV.ty] at h ⊢; exact tys_fz h
  | .iface t v, h => by simp only [SV.ty] at h ⊢; exact ty_fz h
  | .gd c w v, h => by simp only [SV.ty] at h ⊢; exact fun e => ty_fz (h e)
  | .int _ _, h | .bool _, h | .str _, h => by simp only [SV.ty] at h ⊢; exact h
  | .sl _, h | .pt _, h | .map _, h | .ptr _ _, h | .gptr _ _, h | .rp _ _ _ _ _, h | .nilp, h | .nilsl, h | .nilmap, h | .nilfn, h | .niliface, h | .slice _ _ _ _, h | .bot, h => by simp only [SV.ty]
theorem tys_fz {fz : Fz} {ρ : Env} : ∀ {l : List SV}, SV.tys { ρ with fz := fz } l → SV.tys ρ l
  | [], _ => trivial
  | v :: l, h => ⟨ty_fz h.1, tys_fz h.2⟩
end
def HeldR (C : Cfg) (ρ0 : Env) (mem0 : Tb SO) (L : Pl) (ρ : Env) (cg : B) (o : Oper) (a : Act) (v : SV) (d : Bd) : Prop :=
  (∃ w, Sv C.ty ρ0 mem0 L ρ.fz w) → ∃ ρ1, Ext C.ty ρ d ρ1 ∧ (cg.den ρ.is = true → v.ty ρ1 ∧ ∀ w, Sv C.ty ρ0 mem0 L ρ.fz w → (execOp a.eval o).run C.P w = .ok (.value (v.den ρ1)) w)
theorem heldLoad_ok (hty : TyOk C.P C.ty) (hg : GOk C.ty C.gl fz0) {st0 : St} {ρ0 : Env} {wS : World} (hm0 : Md C.ty C.pl G fz0 w0 ρ0 st0 wS) (hle : ρ0.le ρ) (hni : ρ.is.length = st.ni) (hnb : ρ.bs.length = st.nb) (ht : TmOk ρ st.ni st.nb tm a) {pc : List (B × Bool)} {cg : B} (hcw : cg.wf st.ni = true) (hpc : cg.den ρ.is = true → PcOk ρ.is pc) {L : Pl} {v : SV} (h : heldLoad C st0.mem L o.op ⟨C.ty, st.mem, tm, st.ni, st.nb, pc, cg, C.gl.dt⟩ = some (v, d)) :
    HeldR C ρ0 st0.mem L ρ cg o a v d := by
  unfold heldLoad at h
  split at h
  · rename_i t x ho
    have one : ∀ {X : SV}, evO pc tm x = some X → loadV C st0.mem pc cg t X st.bd = some (v, d) →
        (∀ b off n agg l, X = .ptr b off → aggT C.ty t = some (n, agg) → rdMem st0.mem b off n = some l → allInA b off L n = true) → (∀ b s i off p, X = .rp b s i off p → inPl b rowPl L = true) →
        ∀ w, Sv C.ty ρ0 st0.mem L ρ.fz w → ∃ fz, FzLe ρ.fz fz ∧ ∃ ρ1, Ext C.ty { ρ with fz := fz } d ρ1 ∧ (cg.den ρ.is = true → v.ty ρ1 ∧ (execOp a.eval o).run C.P w = .ok (.value (v.den ρ1)) w) := by
      intro X hx hl hp hr w hS
      obtain ⟨fz, z1, z2, z3, z4⟩ := hS
      have hlz : ρ.le { ρ with fz := fz } := ⟨⟨[], by simp⟩, ⟨[], by simp⟩, z1⟩
      have hl0 : ρ0.le { ρ with fz := fz } := Env.le_trans hle hlz
      have hex : Ext C.ty { ρ with fz := fz } st.bd { ρ with fz := fz } := by
        have := Ext.refl (ty := C.ty) { ρ with fz := fz }
        simp only [hni, hnb] at this
        exact this
      have hm0l : st0.ni ≤ st.ni ∧ st0.nb ≤ st.nb := by
        rw [← hm0.hni, ← hm0.hnb, ← hni, ← hnb]; exact ⟨hle.len_is, hle.len_bs⟩
      obtain ⟨ρ1, q1, q2⟩ := loadV_gen (ρ := { ρ with fz := fz }) (w := w) hty hg hex z2 (fun b o ho => z1 b o (hle.fz b o (hm0.fzl b o ho))) hcw hpc (evO_wf ht hx) (fun b off n agg l hX hag hrd => by
          obtain ⟨r1, r2, _, r4, r5⟩ := rdMem_ok hm0 hrd
          have hw : SV.wfs ρ0.is.length ρ0.bs.length l = true := by rw [hm0.hni, hm0.hnb]; exact r2
          refine ⟨r1, SV.tys_app hl0 hw r4, fun j u hj => ?_⟩
          have hjl : j < l.length := (List.getElem?_eq_some_iff.1 hj).1
          have hin := allInA_spec (hp b off n agg l hX hag hrd) j (by omega)
          have hca : cellAt st0.mem b (off + j) = some u := by
            unfold rdMem at hrd
            unfold cellAt
            split at hrd
            · rename_i c e' hb
              rw [hb]
              simp only [nth_eq]
              rw [dropN_eq] at hrd
              obtain ⟨_, rfl⟩ := takeN_eq _ _ _ hrd
              rw [List.getElem?_take] at hj
              split at hj
              · rwa [List.getElem?_drop] at hj
              · cases hj
            · cases hrd
          obtain ⟨g1, g2, _⟩ := cellAt_ok hm0 hca
          have := z3 b (off + j) u hin hca
          rw [Env.b_app hl0 (by rw [hm0.hnb]; exact g1), SV.den_app hl0 (by rw [hm0.hni, hm0.hnb]; exact g2)]
          exact this) (fun b s i off p e s' xa hX hb => by
          obtain ⟨g1, g2, g3, _⟩ := hm0.mem b _ hb
          have hi : b < ρ0.bs.length := by rw [hm0.hnb]; exact g1
          have g2' : (SO.rowd e s' xa).wf ρ0.is.length ρ0.bs.length = true := by rw [hm0.hni, hm0.hnb]; exact g2
          refine ⟨A.wf_mono hm0l.1 (by simpa [SO.wf] using g2), ?_⟩
          have := z4 b e s' xa (hr b s i off p hX) hb
          rw [Env.val_app hl0 hi, Env.A_app hl0 (by simpa [SO.wf] using g2')]
          exact this) hl
      refine ⟨fz, z1, ρ1, q1, fun hcg => ?_⟩
      obtain ⟨q3, ad, q4, q5⟩ := q2 hcg
      have ev := evO_den ht (hpc hcg) hx
      have hxd : X.den { ρ with fz := fz } = X.den ρ := SV.den_app hlz (by rw [hni, hnb]; exact evO_wf ht hx)
      rw [hxd] at q4
      refine ⟨q3, ?_⟩
      unfold execOp
      simp only [ho, ev, q4, Instr.loadAt, Instr.sureAddr, Sem.run_bind, Sem.run_pure, Result.andThen_ok, q5]
    have flat : ∀ {X : SV}, evO pc tm x = some X → loadV C st0.mem pc cg t X st.bd = some (v, d) → d.ni = st.ni → d.nb = st.nb →
        (∀ b off n agg l, X = .ptr b off → aggT C.ty t = some (n, agg) → rdMem st0.mem b off n = some l → allInA b off L n = true) → (∀ b s i off p, X = .rp b s i off p → inPl b rowPl L = true) →
        HeldR C ρ0 st0.mem L ρ cg o a v d := by
      intro X hx hl h1 h2 hp hr hS
      obtain ⟨wx, hSx⟩ := hS
      have same : ∀ {fz : Fz} {ρ1 : Env}, FzLe ρ.fz fz → Ext C.ty { ρ with fz := fz } d ρ1 → ρ1 = { ρ with fz := fz } ∧ Ext C.ty ρ d ρ := by
        intro fz ρ1 hz he
        have e1 : d.es = [] := List.eq_nil_of_length_eq_zero (by have := he.ni; simp only at this; rw [h1, hni] at this; omega)
        have e2 : d.gs = [] := List.eq_nil_of_length_eq_zero (by have := he.nb; simp only at this; rw [h2, hnb] at this; omega)
        have q1 : ρ1.is = ρ.is := by rw [he.is, e1]; rfl
        have q2 : ρ1.bs = ρ.bs := by
          obtain ⟨y, hy, hyl⟩ := he.bs
          rw [e2] at hyl
          rw [hy, List.eq_nil_of_length_eq_zero hyl, List.append_nil]
        have q3 := he.fz
        refine ⟨by cases ρ1; simp_all, ⟨he.ni, he.nb, by rw [e1]; rfl, ⟨[], by simp, by rw [e2]; rfl⟩, rfl, he.et, he.gw, ?_, he.fw, by have := he.fs; rwa [q1] at this⟩⟩
        intro j g hj
        rw [e2] at hj; simp at hj
      obtain ⟨fz, z1, ρ1, q1, q2⟩ := one hx hl hp hr wx hSx
      obtain ⟨s1, s2⟩ := same z1 q1
      have hden : ∀ fz, FzLe ρ.fz fz → v.den { ρ with fz := fz } = v.den ρ := by
        intro fz hz
        exact den_fz fz ρ v
      refine ⟨ρ, s2, fun hcg => ⟨?_, fun w hS => ?_⟩⟩
      · have := (q2 hcg).1
        rw [s1] at this
        exact ty_fz this
      · obtain ⟨fz', z1', ρ1', q1', q2'⟩ := one hx hl hp hr w hS
        obtain ⟨s1', _⟩ := same z1' q1'
        rw [(q2' hcg).2, s1', hden fz' z1']
    split at h
    · rename_i b off n agg hx hag
      have hx : evO pc tm x = some (.ptr b off) := hx
      cases ha : allInA b off L n <;> rw [ha] at h <;> simp only [cond_true, cond_false] at h
      · cases h
      · have hd : d = st.bd := by
          unfold loadV at h
          rw [hag] at h
          simp only at h
          split at h
          · cases h
          · cases agg <;> simp only [cond_true, cond_false] at h
            · split at h <;> cases h
              rfl
            · cases h; rfl
        refine flat hx h (by rw [hd]; rfl) (by rw [hd]; rfl) (fun b' off' n' agg' l hX hag' _ => ?_) (fun b' s' i' off' p' hX => by cases hX)
        cases hX
        rw [hag] at hag'
        cases hag'
        exact ha
    · rename_i g off n hx hag
      have hx : evO pc tm x = some (.gptr g off) := hx
      have hd : d = st.bd := by
        unfold loadV at h
        rw [hag] at h
        obtain ⟨n, agg⟩ := n
        simp only at h
        split at h
        · cases h
        · cases agg <;> simp only [cond_true, cond_false] at h
          · split at h <;> cases h
            rfl
          · cases h; rfl
      exact flat hx h (by rw [hd]; rfl) (by rw [hd]; rfl) (fun b' off' n' agg' l hX hag' _ => by cases hX) (fun b' s' i' off' p' hX => by cases hX)
    · rename_i b s i off path n hx hag
      have hx : evO pc tm x = some (.rp b s i off path) := hx
      cases ha : inPl b rowPl L <;> rw [ha] at h <;> simp only [cond_true, cond_false] at h
      · cases h
      · split at h
        · rename_i v' d' hl
          cases hn : (Nat.beq d'.ni st.ni && Nat.beq d'.nb st.nb) <;> rw [hn] at h <;> simp only [cond_true, cond_false] at h <;> cases h
          simp only [Bool.and_eq_true] at hn
          exact flat hx hl (beq_nat hn.1) (beq_nat hn.2) (fun b' off' n' agg' l hX hag' _ => by cases hX) (fun b' s' i' off' p' hX => by cases hX; exact ha)
        · cases h
    · cases h
  · cases h
theorem takeV_ok (hty : TyOk C.P C.ty) (hg : GOk C.ty C.gl fz0) {ops : Array Oper} {dstOf : Nat → Option Tmp} (hd : ∀ j, dstOf j = (ops[j]?).bind (·.dst)) {st0 : St} {ρ0 : Env} {wS : World} (hm0 : Md C.ty C.pl G fz0 w0 ρ0 st0 wS) (hle : ρ0.le ρ) (hm : Md C.ty C.pl G fz0 w0 ρ st w) (ht : TmOk ρ st.ni st.nb tm a) {L : Pl} (hS : Sv C.ty ρ0 st0.mem L ρ.fz w) {v : SV} {d : Bd}
    (h : takeV C dstOf st0.mem L o tm st = some (v, d)) : ∃ ρ1, Ext C.ty ρ d ρ1 ∧ v.ty ρ1 ∧ YieldsIf C.P ops (Sv C.ty ρ0 st0.mem L ρ.fz) o (v.den ρ1) a := by
  have plain : ∀ {pc : List (B × Bool)} {cg : B} {v : SV} {d : Bd}, cg.wf st.ni = true → (cg.den ρ.is = true → PcOk ρ.is pc) → takeP C st0.mem L o ⟨C.ty, st.mem, tm, st.ni, st.nb, pc, cg, C.gl.dt⟩ = some (v, d) →
      ∃ ρ1, Ext C.ty ρ d ρ1 ∧ (cg.den ρ.is = true → v.ty ρ1 ∧ ∀ w, Sv C.ty ρ0 st0.mem L ρ.fz w → (execOp a.eval o).run C.P w = .ok (.value (v.den ρ1)) w) := by
    intro pc cg v d hcw hpc h
    unfold takeP at h
    split at h
    · rename_i r hp
      cases h
      have hpx : Px ρ ⟨C.ty, st.mem, tm, st.ni, st.nb, pc, cg, C.gl.dt⟩ a := ⟨hm.hni, hm.hnb, ht, hcw, hpc, hm.gmem, hm.hkk.ok⟩
      obtain ⟨ρ1, h1, h2⟩ := pureOp_ok hty (hg.dt.mono hm.fzl) hpx hp
      refine ⟨ρ1, h1, fun hcg => ⟨(h2 hcg).1, fun w hS => ?_⟩⟩
      obtain ⟨fz, z1, z2, _⟩ := hS
      exact (h2 hcg).2 w fun b o ho => z2 b o (z1 b o ho)
    · exact heldLoad_ok hty hg hm0 hle hm.hni hm.hnb ht hcw hpc h ⟨w, hS⟩
  unfold takeV at h
  split at h
  · rename_i hgd
    obtain ⟨ρ1, h1, h2⟩ := plain (cg := .c true) rfl (fun _ => hm.hpc) h
    obtain ⟨h3, h4⟩ := h2 rfl
    exact ⟨ρ1, h1, h3, .inl ⟨by simp [Region.wanted, hgd], h4⟩⟩
  · rename_i j want hgd
    have hwant : Region.wanted o (yielded ops a.tmps) = (yielded ops a.tmps j == some want) := by simp [Region.wanted, hgd]
    split at h
    · cases h
    · rename_i c hc
      obtain ⟨hy, hcw⟩ := guardB_ok hd ht hc
      unfold YieldsIf
      rw [hwant, hy]
      split at h
      · rename_i hkn
        obtain ⟨ρ1, h1, h2⟩ := plain (cg := .c true) rfl (fun _ => hm.hpc) h
        obtain ⟨h3, h4⟩ := h2 rfl
        exact ⟨ρ1, h1, h3, .inl ⟨B.known_ok hm.hpc hkn, h4⟩⟩
      · rename_i hkn
        cases h
        exact ⟨ρ, hm.ext0, trivial, .inr ⟨B.known_ok hm.hpc hkn, rfl⟩⟩
      · split at h
        · rename_i u d' hp
          cases h
          obtain ⟨ρ1, h1, h2⟩ := plain hcw (fun hcv => PcOk.append (B.facts_ok _ _ _ hcv) hm.hpc) hp
          have hcd : c.den ρ1.is = c.den ρ.is := Env.B_app h1.le (by rw [hm.hni]; exact hcw)
          refine ⟨ρ1, h1, fun e => (h2 (by rw [← hcd]; exact e)).1, ?_⟩
          cases hcv : c.den ρ.is
          · refine .inr ⟨rfl, ?_⟩
            simp only [SV.den, hcd, hcv]; rfl
          · refine .inl ⟨rfl, fun w hw => ?_⟩
            rw [(h2 hcv).2 w hw]
            simp only [SV.den, hcd, hcv]; rfl
        · cases h
theorem findTake_ok {dstOf : Nat → Option Tmp} {mem0 : Tb SO} {hd : Hd} {m : Nat} {x : Ro} {v : SV} {d : Bd} : ∀ {l : List Ro}, findTake C dstOf mem0 hd m tm st l = some (x, v, d) → x ∈ l ∧ x.ready m = true ∧ x.free m = true ∧ takeV C dstOf mem0 (plOf hd x.i) x.o tm st = some (v, d)
  | [], h => by cases h
  | y :: l, h => by
    unfold findTake at h
    cases hf : (y.ready m && y.free m) <;> rw [hf] at h <;> simp only [cond_true, cond_false] at h
    · obtain ⟨h1, h2⟩ := findTake_ok h; exact ⟨.tail _ h1, h2⟩
    · simp only [Bool.and_eq_true] at hf
      split at h
      · rename_i v' d' ht
        cases h
        exact ⟨.head _, hf.1, hf.2, ht⟩
      · obtain ⟨h1, h2⟩ := findTake_ok h; exact ⟨.tail _ h1, h2⟩
theorem dropRo_mem {i : Nat} {r : Ro} : ∀ {l : List Ro}, (l.map (·.i)).Nodup → (r ∈ dropRo i l ↔ r ∈ l ∧ r.i ≠ i)
  | [], _ => by simp [dropRo]
  | x :: l, hn => by
    simp only [List.map_cons, List.nodup_cons] at hn
    have ih := dropRo_mem (i := i) (r := r) hn.2
    unfold dropRo
    cases hb : Nat.beq x.i i <;> simp only [cond_true, cond_false]
    · have hne : x.i ≠ i := fun e => by rw [e, Nat.beq_refl] at hb; cases hb
      simp only [List.mem_cons, ih]
      constructor
      · rintro (rfl | ⟨h1, h2⟩)
        · exact ⟨.inl rfl, hne⟩
        · exact ⟨.inr h1, h2⟩
      · rintro ⟨rfl | h1, h2⟩
        · exact .inl rfl
        · exact .inr ⟨h1, h2⟩
    · have he := beq_nat hb
      constructor
      · intro h
        refine ⟨.tail _ h, fun e => hn.1 ?_⟩
        rw [he, ← e]
        exact List.mem_map.2 ⟨r, h, rfl⟩
      · rintro ⟨h1, h2⟩
        rcases List.mem_cons.1 h1 with rfl | h1
        · exact absurd he h2
        · exact h1
theorem dropRo_nodup {i : Nat} : ∀ {l : List Ro}, (l.map (·.i)).Nodup → ((dropRo i l).map (·.i)).Nodup
  | [], _ => by simp [dropRo]
  | x :: l, hn => by
    have hn' := hn
    simp only [List.map_cons, List.nodup_cons] at hn
    unfold dropRo
    cases hb : Nat.beq x.i i <;> simp only [cond_true, cond_false]
    · simp only [List.map_cons, List.nodup_cons]
      refine ⟨fun h => hn.1 ?_, dropRo_nodup hn.2⟩
      obtain ⟨y, hy, he⟩ := List.mem_map.1 h
      exact List.mem_map.2 ⟨y, ((dropRo_mem hn.2).1 hy).1, he⟩
    · exact hn.2
structure PsOk (ops : Array Oper) (m : Nat) (ps : List Ro) : Prop where
  nd : (ps.map (·.i)).Nodup
  mem : ∀ r, r ∈ ps ↔ ∃ i o, ops[i]? = some o ∧ r = roOf ops o i ∧ Nat.testBit m i = false
theorem PsOk.drop {ops : Array Oper} {m : Nat} {ps : List Ro} (h : PsOk ops m ps) (i : Nat) : PsOk ops (Nat.lor m (2 ^ i)) (dropRo i ps) := by
  refine ⟨dropRo_nodup h.nd, fun r => ?_⟩
  rw [dropRo_mem h.nd, h.mem]
  constructor
  · rintro ⟨⟨j, o, h1, rfl, h3⟩, h4⟩
    refine ⟨j, o, h1, rfl, ?_⟩
    have : i ≠ j := fun e => h4 e.symm
    rw [lor_bit, pow_bit, h3]
    simp [this]
  · rintro ⟨j, o, h1, rfl, h3⟩
    rw [lor_bit, pow_bit, Bool.or_eq_false_iff] at h3
    exact ⟨⟨j, o, h1, rfl, h3.1⟩, fun e => by have := h3.2; simp [roOf] at e this; exact this e.symm⟩
theorem mkRo_i {all : List Rm} : ∀ (l : List Oper) (ms : List Rm), (mkRo all l ms).map (·.i) = (ms.take l.length).map (·.i)
  | [], _ => by simp [mkRo]
  | _ :: _, [] => by simp [mkRo]
  | _ :: l, _ :: ms => by simp only [mkRo, List.map_cons, List.length_cons, List.take_succ_cons, mkRo_i l ms]
theorem mkRm_i {ops : Array Oper} : ∀ (l : List Oper) (i : Nat), (mkRm ops l i).map (·.i) = List.range' i l.length
  | [], i => rfl
  | o :: l, i => by simp only [mkRm, List.map_cons, mkRm_i l (i + 1), List.length_cons, List.range'_succ]
theorem psOk_start (ops : Array Oper) : PsOk ops 0 (rosOf ops) := by
  refine ⟨?_, fun r => ⟨fun h => ?_, ?_⟩⟩
  · unfold rosOf
    simp only [mkRo_i, ← List.map_take, List.map_take, mkRm_i]
    exact (List.nodup_range' ..).sublist (List.take_sublist _ _)
  · obtain ⟨i, o, h1, h2⟩ := rosOf_mem h
    exact ⟨i, o, h1, h2, Nat.zero_testBit i⟩
  · rintro ⟨i, o, h1, rfl, _⟩
    exact List.mem_of_getElem? (rosOf_get h1)
def wpR (P : Program) (ops : Array Oper) (QE : Exit → Act → World → Prop) (bf : Nat → Nat) (R : Nat → World → Prop) : Nat → Array Bool → Nat → Act → World → Prop
  | 0, listed, _, a, w => Region.ready .any ops listed = [] ∧ QE .normal a w
  | f + 1, listed, D, a, w => (Region.ready .any ops listed = [] → QE .normal a w) ∧
    ∀ j ∈ Region.ready .any ops listed, wpOp P ops QE j (fun a' w' => (∀ y, Nat.testBit (Nat.lor (Nat.lor D (bf j)) (2 ^ j)) y = false → R y w') ∧ wpR P ops QE bf R f (listed.setIfInBounds j true) (Nat.lor (Nat.lor D (bf j)) (2 ^ j)) a' w') a w
section
variable {P : Program} {ops : Array Oper} {bf : Nat → Nat} {R R' : Nat → World → Prop}
theorem wpAny_of_wpR : ∀ (f : Nat) {listed : Array Bool} {D : Nat} {a : Act} {w : World}, wpR P ops QE bf R f listed D a w → wpAny P .any ops QE f listed a w
  | 0, _, _, _, _, h => h
  | f + 1, _, _, _, _, h => ⟨h.1, fun j hj => wpOp_mono (fun _ _ h' => wpAny_of_wpR f h'.2) (h.2 j hj)⟩
theorem lor_no {x y i : Nat} (h : Nat.testBit (Nat.lor x y) i = false) : Nat.testBit x i = false ∧ Nat.testBit y i = false := by
  rw [lor_bit, Bool.or_eq_false_iff] at h; exact h
theorem wpR_mono {R R' : Nat → World → Prop} (hR : ∀ y w, R y w → R' y w) : ∀ (f : Nat) {listed : Array Bool} {D D' : Nat} {a : Act} {w : World}, (∀ y, Nat.testBit D y = true → Nat.testBit D' y = true) → wpR P ops QE bf R f listed D a w → wpR P ops QE bf R' f listed D' a w
  | 0, _, _, _, _, _, _, h => h
  | f + 1, _, D, D', _, _, hD, h => ⟨h.1, fun j hj => wpOp_mono (fun a' w' h' => by
      have hD2 : ∀ y, Nat.testBit (Nat.lor (Nat.lor D (bf j)) (2 ^ j)) y = true → Nat.testBit (Nat.lor (Nat.lor D' (bf j)) (2 ^ j)) y = true := fun y hy => by
        rw [lor_bit, lor_bit, Bool.or_eq_true, Bool.or_eq_true] at hy ⊢
        exact hy.imp (fun h => h.imp (hD y) id) id
      refine ⟨fun y hy => hR y w' (h'.1 y ?_), wpR_mono hR f hD2 h'.2⟩
      cases hb : Nat.testBit (Nat.lor (Nat.lor D (bf j)) (2 ^ j)) y
      · rfl
      · rw [hD2 y hb] at hy; cases hy) (h.2 j hj)⟩
inductive Clos (ops : Array Oper) : Nat → Nat → Prop where
  | one {k : Nat} {o : Oper} {e : Edge} : ops[k]? = some o → e ∈ o.after → Region.binds .any e = true → Clos ops k e.on
  | more {k y : Nat} {o : Oper} {e : Edge} : ops[k]? = some o → e ∈ o.after → Region.binds .any e = true → Clos ops e.on y → Clos ops k y
def Dn (ops : Array Oper) (listed : Array Bool) : Prop := ∀ (k : Nat) (o : Oper) (e : Edge), listed.getD k false = true → ops[k]? = some o → e ∈ o.after → Region.binds .any e = true → listed.getD e.on false = true
theorem Dn.clos {listed : Array Bool} (h : Dn ops listed) {k y : Nat} (hc : Clos ops k y) : listed.getD k false = true → listed.getD y false = true := by
  induction hc with
  | one h1 h2 h3 => exact fun hk => h _ _ _ hk h1 h2 h3
  | more h1 h2 h3 _ ih => exact fun hk => ih (h _ _ _ hk h1 h2 h3)
theorem Dn.ready {listed : Array Bool} (h : Dn ops listed) {j y : Nat} (hj : j ∈ Region.ready .any ops listed) (hc : Clos ops j y) : listed.getD y false = true := by
  obtain ⟨_, o, ho, hall⟩ := mem_ready.1 hj
  cases hc with
  | one h1 h2 h3 => rw [ho] at h1; cases h1; exact hall _ h2 h3
  | more h1 h2 h3 h4 => rw [ho] at h1; cases h1; exact h.clos h4 (hall _ h2 h3)
theorem Dn.set {listed : Array Bool} (h : Dn ops listed) {j : Nat} (hj : j ∈ Region.ready .any ops listed) : Dn ops (listed.setIfInBounds j true) := fun k o e hk ho he hb => by
  obtain ⟨_, o', ho', hall⟩ := mem_ready.1 hj
  by_cases hjk : j = k
  · subst hjk
    rw [ho] at ho'; cases ho'
    exact getD_set_true (hall e he hb)
  · rw [getD_set_ne false hjk] at hk
    exact getD_set_true (h k o e hk ho he hb)
theorem wpR_first (hbf : ∀ j y, Nat.testBit (bf j) y = true → Clos ops j y) {i : Nat} {oi : Oper} {v : Value} (hi : ops[i]? = some oi) (hsel : ∀ (j : Nat) (o : Oper) cs b, ops[j]? = some o → o.op ≠ .select cs b)
    (hQ : ∀ c a w, QE (.panic c) (a.put oi.dst v) w → QE (.panic c) a w) : ∀ (f : Nat) (listed : Array Bool) (D : Nat) (a : Act) (w : World),
      (∀ j oj, ops[j]? = some oj → j ≠ i → listed.getD j true = false → (∀ e ∈ oj.after, Region.binds .any e = true → e.on ≠ i) → oi.apart ops oj = true) →
      i ∈ Region.ready .any ops listed → Dn ops listed → Nat.testBit D i = false → YieldsIf P ops (R i) oi v a → (∀ y, Nat.testBit D y = false → R y w) →
      wpR P ops QE bf R f (listed.setIfInBounds i true) D (a.put oi.dst v) w → wpR P ops QE bf R (f + 1) listed D a w := by
  intro f
  have hsub : ∀ (D j y : Nat), Nat.testBit (Nat.lor (Nat.lor D (bf j)) (2 ^ j)) y = false → Nat.testBit D y = false := fun D j y h => (lor_no (lor_no h).1).1
  have hup : ∀ (D j y : Nat), Nat.testBit D y = true → Nat.testBit (Nat.lor (Nat.lor D (bf j)) (2 ^ j)) y = true := fun D j y h => by rw [lor_bit, lor_bit, h]; rfl
  induction f with
  | zero =>
    intro listed D a w _ hr hdn hDi hy hS H
    refine ⟨fun h => (by rw [h] at hr; cases hr), fun j hj => ?_⟩
    by_cases hji : j = i
    · subst hji; exact hy.wpOp hi (hS _ hDi) ⟨fun y hy => hS y (hsub _ _ _ hy), H⟩
    · have := ready_mono hj hji
      rw [H.1] at this
      cases this
  | succ f ih =>
    intro listed D a w hfree hr hdn hDi hy hS H
    refine ⟨fun h => (by rw [h] at hr; cases hr), fun j hj => ?_⟩
    by_cases hji : j = i
    · subst hji
      exact hy.wpOp hi (hS _ hDi) ⟨fun y hy => hS y (hsub _ _ _ hy), wpR_mono (fun _ _ h => h) _ (hup D j) H⟩
    · have h1 := H.2 j (ready_mono hj hji)
      obtain ⟨hjun, oj, hoj, hall⟩ := mem_ready.1 hj
      have hil : listed.getD i false = true → False := fun hl => by
        have h0 := (mem_ready.1 hr).1
        rcases Nat.lt_or_ge i listed.size with h' | h'
        · simp [h'] at h0 hl; rw [h0] at hl; cases hl
        · simp [Array.getElem?_eq_none h'] at hl
      have hnot : ∀ e ∈ oj.after, Region.binds .any e = true → e.on ≠ i := fun e he hb heq => hil (by rw [← heq]; exact hall e he hb)
      have h2 := wpOp_putIf hoj (hfree j oj hoj hji hjun hnot) (fun cs b => hsel i oi cs b hi) (fun cs b => hsel j oj cs b hoj) hQ hy h1
      have hfree' : ∀ k ok, ops[k]? = some ok → k ≠ i → (listed.setIfInBounds j true).getD k true = false →
          (∀ e ∈ ok.after, Region.binds .any e = true → e.on ≠ i) → oi.apart ops ok = true := fun k ok hk hki hun hno => by
        refine hfree k ok hk hki ?_ hno
        by_cases hjk : j = k
        · subst hjk; exact hjun
        · rw [getD_set_ne true hjk] at hun; exact hun
      have hDi' : Nat.testBit (Nat.lor (Nat.lor D (bf j)) (2 ^ j)) i = false := by
        rw [lor_bit, lor_bit, hDi, pow_bit, decide_eq_false hji, Bool.or_false, Bool.false_or]
        cases hb : Nat.testBit (bf j) i
        · rfl
        · exact (hil (hdn.ready hj (hbf j i hb))).elim
      refine wpOp_mono (fun a' w' h3 => ⟨h3.2.1, ih (listed.setIfInBounds j true) _ a' w' hfree' (ready_mono hr (Ne.symm hji)) (hdn.set hj) hDi' h3.1 h3.2.1 ?_⟩) h2
      rw [Array.setIfInBounds_comm _ _ hji]
      exact h3.2.2
theorem wpR_done {listed : Array Bool} {D : Nat} {a : Act} {w : World} (hr : Region.ready .any ops listed = []) (h : QE .normal a w) : ∀ f, wpR P ops QE bf R f listed D a w
  | 0 => ⟨hr, h⟩
  | _ + 1 => ⟨fun _ => h, by rw [hr]; intro j hj; cases hj⟩
theorem wp_region_R {id : Nat} {a : Act} {w : World} (hm : P.follows .mixedOrders = true) (h : wpR P ops QE bf R ops.size (Array.replicate ops.size false) 0 a { w with drawn := w.drawn + 1 }) : (Code.region id ops true).wp P QE a w := wp_region_any hm (wpAny_of_wpR _ h)
end
theorem bfE_ok {ops : Array Oper} {t : Tb Nat} (ht : ∀ k m, t.get k = some m → ∀ y, Nat.testBit m y = true → Clos ops k y) {k : Nat} {o : Oper} (ho : ops[k]? = some o) : ∀ {l : List Edge}, (∀ e ∈ l, e ∈ o.after) → ∀ y, Nat.testBit (bfE t l) y = true → Clos ops k y
  | [], _, y, h => by simp [bfE] at h
  | e :: l, hl, y, h => by
    simp only [bfE] at h
    cases hb : Region.binds .any e <;> rw [hb] at h <;> simp only [cond_true, cond_false] at h
    · exact bfE_ok ht ho (fun x hx => hl x (.tail _ hx)) y h
    · rw [lor_bit, lor_bit, pow_bit, Bool.or_eq_true, Bool.or_eq_true, decide_eq_true_eq] at h
      rcases h with (h | h) | h
      · rw [← h]; exact .one ho (hl e (.head _)) hb
      · cases hg : t.get e.on with
        | none => rw [hg] at h; simp at h
        | some m => rw [hg] at h; exact .more ho (hl e (.head _)) hb (ht _ _ hg y h)
      · exact bfE_ok ht ho (fun x hx => hl x (.tail _ hx)) y h
theorem bfL_ok {ops : Array Oper} : ∀ {l : List Oper} {i : Nat} {t : Tb Nat}, (∀ j o, l[j]? = some o → ops[i + j]? = some o) → (∀ k m, t.get k = some m → ∀ y, Nat.testBit m y = true → Clos ops k y) → ∀ k m, (bfL l i t).get k = some m → ∀ y, Nat.testBit m y = true → Clos ops k y
  | [], _, _, _, ht => ht
  | o :: l, i, t, hl, ht => by
    simp only [bfL]
    refine bfL_ok (fun j o' hj => ?_) fun k m hk => ?_
    · have := hl (j + 1) o' (by simpa using hj)
      rwa [show i + (j + 1) = i + 1 + j by omega] at this
    · rcases Tb.get_put hk with ⟨rfl, rfl⟩ | ⟨_, hk⟩
      · exact bfE_ok ht (by simpa using hl 0 o rfl) fun e he => by simpa using he
      · exact ht k m hk
theorem bfOf_ok (ops : Array Oper) : ∀ j y, Nat.testBit (bfOf (bfL ops.toList 0 .e) j) y = true → Clos ops j y := fun j y h => by
  unfold bfOf at h
  cases hg : (bfL ops.toList 0 .e).get j with
  | none => rw [hg] at h; simp at h
  | some m =>
    rw [hg] at h
    exact bfL_ok (ops := ops) (fun j o hj => by simpa using hj) (fun k m hk => by rw [Tb.get_e] at hk; cases hk) j m hg y h
theorem heldsOk_spec {mem0 mem : Tb SO} {D : Nat} : ∀ {l : List (Nat × Pl)}, heldsOk mem0 mem D l = true → ∀ y, Nat.testBit D y = false → heldOk mem0 mem (plFind l y) = true
  | [], _, y, _ => rfl
  | e :: l, h, y, hy => by
    simp only [heldsOk, Bool.and_eq_true, Bool.or_eq_true] at h
    simp only [plFind]
    cases hb : Nat.beq e.1 y <;> simp only [cond_true, cond_false]
    · exact heldsOk_spec h.2 y hy
    · rcases h.1 with h1 | h1
      · rw [beq_nat hb, hy] at h1; cases h1
      · exact h1
theorem heldU_spec {mem0 mem : Tb SO} {D : Nat} {hd : Hd} (h : heldU mem0 mem D hd = true) (y : Nat) (hy : Nat.testBit D y = false) : heldOk mem0 mem (plOf hd y) = true := by
  unfold heldU at h
  unfold plOf
  cases ha : hd.all <;> rw [ha] at h <;> simp only [cond_true, cond_false] at h ⊢
  · exact heldsOk_spec h y hy
  · unfold heldOk
    simp only [allPl, isAll, Nat.beq_refl, cond_true]
    exact h
def Rl (ty : Ty) (ρ0 : Env) (mem0 : Tb SO) (hd : Hd) (z : Fz) (y : Nat) (w : World) : Prop := Sv ty ρ0 mem0 (plOf hd y) z w
theorem Rl.step {st0 : St} {ρ0 : Env} {wS : World} (hm0 : Md C.ty C.pl G fz0 w0 ρ0 st0 wS) (hle : ρ0.le ρ) (hm : Md C.ty C.pl G fz0 w0 ρ st w) {hd : Hd} {D : Nat} (h : heldU st0.mem st.mem D hd = true) : ∀ y, Nat.testBit D y = false → Rl C.ty ρ0 st0.mem hd ρ.fz y w := fun y hy => Sv.step hm0 hle hm (heldU_spec h y hy)
def DOk (D : Nat) (listed : Array Bool) : Prop := ∀ y, Nat.testBit D y = true → listed.getD y false = true
theorem DOk.mark {D : Nat} {listed : Array Bool} (h : DOk D listed) {i : Nat} : DOk D (listed.setIfInBounds i true) := fun y hy => getD_set_true (h y hy)
theorem DOk.dead {ops : Array Oper} {D : Nat} {listed : Array Bool} (h : DOk D listed) {bf : Tb Nat} (hbf : ∀ j y, Nat.testBit (bfOf bf j) y = true → Clos ops j y) (hdn : Dn ops listed) {i : Nat} (hi : i ∈ Region.ready .any ops listed) (hlt : i < listed.size) : DOk (deadM bf D i) (listed.setIfInBounds i true) := fun y hy => by
  unfold deadM at hy
  rw [lor_bit, lor_bit, pow_bit, Bool.or_eq_true, Bool.or_eq_true, decide_eq_true_eq] at hy
  rcases hy with (hy | hy) | hy
  · exact getD_set_true (h y hy)
  · exact getD_set_true (hdn.ready hi (hbf i y hy))
  · subst hy; simp [hlt]
end
end Go.SY
