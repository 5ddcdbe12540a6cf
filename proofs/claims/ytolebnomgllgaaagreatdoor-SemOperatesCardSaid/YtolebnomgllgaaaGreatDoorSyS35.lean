/- The symbolic executor SY, its soundness, part 35: regions that fill a map's literal. -/
import Derived.Test.YtolebnomgllgaaaGreatDoorSyS36
set_option linter.unusedVariables false
set_option linter.unusedSimpArgs false
namespace Go.SY
open Go Go.RowKit
noncomputable section
variable {F : Nat → List Dt → Post → Prop} {Q : Post}
variable {C : Cfg} {ty : Ty} {pl : Bool} {G : Nat → Prop} {fz0 : Fz} {w0 w w' : World} {ρ ρ' ρ1 ρ1' : Env} {st : St} {d : Bd} {tm : Tm} {a : Act} {o : Oper} {next : Act → World → Prop} {QE : Exit → Act → World → Prop}
theorem filtIns_mem {b : Bool} {r : Ro} : ∀ {l : List Ro}, r ∈ filtIns b l ↔ r ∈ l ∧ isIns r.o.op = b
  | [] => by simp [filtIns]
  | x :: l => by
    have ih := filtIns_mem (b := b) (r := r) (l := l)
    unfold filtIns
    cases hx : (isIns x.o.op == b) <;> simp only [cond_true, cond_false, List.mem_cons, ih]
    · have hne : isIns x.o.op ≠ b := by simpa using hx
      constructor
      · rintro ⟨h1, h2⟩; exact ⟨.inr h1, h2⟩
      · rintro ⟨rfl | h1, h2⟩
        · exact absurd h2 hne
        · exact ⟨h1, h2⟩
    · have he : isIns x.o.op = b := by simpa using hx
      constructor
      · rintro (rfl | h)
        · exact ⟨.inl rfl, he⟩
        · exact ⟨.inr h.1, h.2⟩
      · rintro ⟨rfl | h1, h2⟩
        · exact .inl rfl
        · exact .inr ⟨h1, h2⟩
theorem filtIns_sub {b : Bool} : ∀ {l : List Ro}, (filtIns b l).Sublist l
  | [] => .slnil
  | x :: l => by
    unfold filtIns
    cases isIns x.o.op == b <;> simp only [cond_true, cond_false]
    · exact .cons _ filtIns_sub
    · exact .cons_cons _ filtIns_sub
theorem bitsRo_bit {j : Nat} : ∀ {l : List Ro}, Nat.testBit (bitsRo l) j = true ↔ ∃ r ∈ l, r.i = j
  | [] => by simp [bitsRo]
  | x :: l => by
    have ih := bitsRo_bit (j := j) (l := l)
    simp only [bitsRo, lor_bit, pow_bit, Bool.or_eq_true, ih, decide_eq_true_eq, List.mem_cons]
    constructor
    · rintro (h | ⟨r, h1, h2⟩)
      · exact ⟨x, .inl rfl, h⟩
      · exact ⟨r, .inr h1, h2⟩
    · rintro ⟨r, rfl | h1, h2⟩
      · exact .inl h2
      · exact .inr ⟨r, h1, h2⟩
theorem preRo_bit {j : Nat} : ∀ {l : List Ro}, Nat.testBit (preRo l) j = true ↔ ∃ r ∈ l, Nat.testBit r.pre j = true
  | [] => by simp [preRo]
  | x :: l => by
    have ih := preRo_bit (j := j) (l := l)
    simp only [preRo, lor_bit, Bool.or_eq_true, ih, List.mem_cons]
    constructor
    · rintro (h | ⟨r, h1, h2⟩)
      · exact ⟨x, .inl rfl, h⟩
      · exact ⟨r, .inr h1, h2⟩
    · rintro ⟨r, rfl | h1, h2⟩
      · exact .inl h2
      · exact .inr ⟨r, h1, h2⟩
theorem filt_ins {dm : Nat} {r : Ro} : ∀ {l : List Ro}, (l.map (·.i)).Nodup → r ∈ l → Nat.testBit dm r.i = false → (l.filter fun x => Nat.testBit (Nat.lor dm (2 ^ r.i)) x.i).Perm (r :: l.filter fun x => Nat.testBit dm x.i)
  | [], _, h, _ => nomatch h
  | x :: l, hn, h, hb => by
    simp only [List.map_cons, List.nodup_cons] at hn
    have key : ∀ y : Ro, y.i ≠ r.i → Nat.testBit (Nat.lor dm (2 ^ r.i)) y.i = Nat.testBit dm y.i := fun y hy => by
      rw [lor_bit, pow_bit, decide_eq_false (fun e => hy e.symm), Bool.or_false]
    rcases List.mem_cons.1 h with rfl | h
    · have h1 : Nat.testBit (Nat.lor dm (2 ^ r.i)) r.i = true := by rw [lor_bit, pow_bit]; simp
      have h2 : (l.filter fun x => Nat.testBit (Nat.lor dm (2 ^ r.i)) x.i) = l.filter fun x => Nat.testBit dm x.i := by
        refine List.filter_congr fun y hy => key y fun e => hn.1 ?_
        rw [← e]; exact List.mem_map.2 ⟨y, hy, rfl⟩
      simp only [List.filter_cons, h1, h2, hb, if_true, Bool.false_eq_true, if_false]
      exact .refl _
    · have hne : x.i ≠ r.i := fun e => hn.1 (by rw [e]; exact List.mem_map.2 ⟨r, h, rfl⟩)
      have ih := filt_ins hn.2 h hb
      cases hx : Nat.testBit dm x.i
      · simp only [List.filter_cons, key x hne, hx, Bool.false_eq_true, if_false]
        exact ih
      · simp only [List.filter_cons, key x hne, hx, if_true]
        exact (ih.cons x).trans (.swap _ _ _)
def insF (ty : Ty) (t kt : TypeId) (m : Tmp) (r : Ro) : SV × Operand := (insE ty t kt m r.o).getD (.bot, .tmp 0)
theorem insEs_map {t kt : TypeId} {m : Tmp} : ∀ {l : List Ro} {es : List (SV × Operand)}, insEs ty t kt m l = some es → es = l.map (insF ty t kt m) ∧ ∀ r ∈ l, insE ty t kt m r.o = some (insF ty t kt m r)
  | [], es, h => by simp only [insEs] at h; cases h; exact ⟨rfl, fun _ h => nomatch h⟩
  | x :: l, es, h => by
    simp only [insEs] at h
    split at h
    · rename_i e l' he hl
      cases h
      obtain ⟨h1, h2⟩ := insEs_map hl
      have hx : insF ty t kt m x = e := by simp [insF, he]
      refine ⟨by simp [h1, hx], fun r hr => ?_⟩
      rcases List.mem_cons.1 hr with rfl | hr
      · rw [hx]; exact he
      · exact h2 r hr
    · cases h
theorem insE_spec {t kt : TypeId} {m : Tmp} {e : SV × Operand} (h : insE ty t kt m o = some e) : ∃ kx, o.op = .insert t (.tmp m) (.const kx) e.2 ∧ o.guard = none ∧ o.dst = none ∧ ofVal1 kx = some e.1 ∧ keyLit e.1 = true ∧ keyKind (tdOf ty kt) e.1 = true := by
  unfold insE at h
  split at h
  · rename_i t' m' kx v ho hg hd
    split at h
    · rename_i kv hk
      cases hc : (Nat.beq t t' && Nat.beq m m' && keyLit kv && keyKind (tdOf ty kt) kv) <;> rw [hc] at h <;> simp only [cond_true, cond_false] at h <;> cases h
      simp only [Bool.and_eq_true] at hc
      obtain ⟨⟨⟨h1, h2⟩, h3⟩, h4⟩ := hc
      rw [← beq_nat h1, ← beq_nat h2] at ho
      exact ⟨kx, ho, hg, hd, hk, h3, h4⟩
    · cases h
  · cases h
structure FlOk (ty : Ty) (ops : Array Oper) (fl : Fl) : Prop where
  kt : ∃ kt et, tdOf ty fl.t = .map kt et ∧ insEs ty fl.t kt fl.m (filtIns true (rosOf ops)) = some fl.es
  bits : fl.bits = bitsRo (filtIns true (rosOf ops))
  pre : fl.pre = preRo (filtIns true (rosOf ops))
  ne : filtIns true (rosOf ops) ≠ []
  keys : keysNeB fl.es = true
  dis : Nat.land fl.pre fl.bits = 0
  mkr : onlyMk fl.m fl.mkr (rosOf ops) = true
  mkm : ∃ r ∈ rosOf ops, r.i = fl.mkr ∧ isMk fl.m r.o = true
  st : stableL fl.mkr (rosOf ops) (filtIns true (rosOf ops)) = true
  al : alOr fl.bits (rosOf ops) = true
  am : alMk fl.bits fl.mkr (rosOf ops) = true
theorem findMk_ok {m : Tmp} {mk : Nat} : ∀ {l : List Ro}, findMk m l = some mk → ∃ r ∈ l, r.i = mk ∧ isMk m r.o = true
  | [], h => by cases h
  | x :: l, h => by
    simp only [findMk] at h
    cases hx : isMk m x.o <;> rw [hx] at h <;> simp only [cond_true, cond_false] at h
    · obtain ⟨r, h1, h2⟩ := findMk_ok h
      exact ⟨r, .tail _ h1, h2⟩
    · cases h; exact ⟨x, .head _, rfl, hx⟩
theorem fillOf_ok {ops : Array Oper} {fl : Fl} (h : fillOf ty (rosOf ops) = some fl) : FlOk ty ops fl := by
  unfold fillOf at h
  split at h
  · cases h
  · rename_i r rs hr
    split at h
    · rename_i t m kx v ho
      split at h
      · rename_i kt et htd
        split at h
        · rename_i es mk hes hmk
          cases hc : (keysNeB es && Nat.beq (Nat.land (preRo (r :: rs)) (bitsRo (r :: rs))) 0 && onlyMk m mk (rosOf ops) && stableL mk (rosOf ops) (r :: rs) && alOr (bitsRo (r :: rs)) (rosOf ops) && alMk (bitsRo (r :: rs)) mk (rosOf ops)) <;> rw [hc] at h <;> simp only [cond_true, cond_false] at h <;> cases h
          simp only [Bool.and_eq_true] at hc
          obtain ⟨⟨⟨⟨⟨h1, h2⟩, h3⟩, h4⟩, h5⟩, h6⟩ := hc
          exact ⟨⟨kt, et, htd, by rw [hr]; exact hes⟩, by rw [hr], by rw [hr], by rw [hr]; simp, h1, beq_nat h2, h3, findMk_ok hmk, by rw [hr]; exact h4, h5, by rw [hr] at *; exact h6⟩
        · cases h
      · cases h
    · cases h
theorem onlyMk_spec {m : Tmp} {mk : Nat} : ∀ {l : List Ro}, onlyMk m mk l = true → ∀ r ∈ l, (r.i = mk → isMk m r.o = true) ∧ (r.i ≠ mk → r.o.dst ≠ some m)
  | [], _, _, h => nomatch h
  | x :: l, h, r, hr => by
    simp only [onlyMk, Bool.and_eq_true] at h
    rcases List.mem_cons.1 hr with rfl | hr
    · have h1 := h.1
      cases hb : Nat.beq r.i mk <;> rw [hb] at h1 <;> simp only [cond_true, cond_false] at h1
      · refine ⟨fun e => by rw [e] at hb; simp at hb, fun _ hd => ?_⟩
        have h2 := beq_nat h1
        rw [hd] at h2
        have := land_zero (t := m) h2 (by simp [dstM])
        simp at this
      · exact ⟨fun _ => h1, fun hne => absurd (beq_nat hb) hne⟩
    · exact onlyMk_spec h.2 r hr
theorem stableL_spec {mk : Nat} {all : List Ro} : ∀ {l : List Ro}, stableL mk all l = true → ∀ r ∈ l, Nat.testBit r.pre mk = true ∧ ∀ t m kx v, r.o.op = .insert t m kx v → stableO r.pre v all = true
  | [], _, _, h => nomatch h
  | x :: l, h, r, hr => by
    simp only [stableL, Bool.and_eq_true] at h
    rcases List.mem_cons.1 hr with rfl | hr
    · refine ⟨h.1.2, fun t m kx v ho => ?_⟩
      have := h.1.1
      rw [ho] at this
      exact this
    · exact stableL_spec h.2 r hr
theorem alOr_spec {bits : Nat} : ∀ {l : List Ro}, alOr bits l = true → ∀ r ∈ l, isIns r.o.op = false → Nat.land r.pre bits = 0 ∨ Nat.land r.pre bits = bits
  | [], _, _, h, _ => nomatch h
  | x :: l, h, r, hr, hi => by
    simp only [alOr, Bool.and_eq_true, Bool.or_eq_true] at h
    rcases List.mem_cons.1 hr with rfl | hr
    · rcases h.1 with (h1 | h1) | h1
      · rw [hi] at h1; cases h1
      · exact .inl (beq_nat h1)
      · exact .inr (beq_nat h1)
    · exact alOr_spec h.2 r hr hi
def KNe (e e' : SV × Operand) : Prop := keyEq e.1 e'.1 = some (.c false)
theorem keyNe_spec {kx : SV} : ∀ {l : List (SV × Operand)}, keyNe kx l = true → ∀ e ∈ l, keyEq kx e.1 = some (.c false) ∧ keyEq e.1 kx = some (.c false)
  | [], _, _, h => nomatch h
  | x :: l, h, e, he => by
    simp only [keyNe, Bool.and_eq_true] at h
    rcases List.mem_cons.1 he with rfl | he
    · have h1 := h.1
      split at h1
      · rename_i q1 q2; exact ⟨q1, q2⟩
      · cases h1
    · exact keyNe_spec h.2 e he
theorem keysNeB_spec : ∀ {l : List (SV × Operand)}, keysNeB l = true → l.Pairwise fun e e' => KNe e e' ∧ KNe e' e
  | [], _ => .nil
  | x :: l, h => by
    simp only [keysNeB, Bool.and_eq_true] at h
    exact .cons (fun e he => keyNe_spec h.1 e he) (keysNeB_spec h.2)
theorem pair_mem {α : Type} {R : α → α → Prop} (hs : ∀ x y, R x y → R y x) : ∀ {l : List α}, l.Pairwise R → ∀ {x y : α}, x ∈ l → y ∈ l → x ≠ y → R x y
  | [], _, _, _, h, _, _ => nomatch h
  | z :: l, hp, x, y, hx, hy, hne => by
    obtain ⟨h1, h2⟩ := List.pairwise_cons.1 hp
    rcases List.mem_cons.1 hx with rfl | hx1
    · rcases List.mem_cons.1 hy with rfl | hy1
      · exact absurd rfl hne
      · exact h1 y hy1
    · rcases List.mem_cons.1 hy with rfl | hy1
      · exact hs _ _ (h1 x hx1)
      · exact pair_mem hs h2 hx1 hy1 hne
theorem keyLit_refl {x : SV} (h : keyLit x = true) : keyEq x x = some (.c true) := by
  unfold keyLit at h
  split at h
  · rename_i k c
    have : kindEq k k = true := by simp [kindEq]
    simp only [keyEq, this, cond_true, B.mkEq, A.lit, Bool.and_self]
    simp
  · rename_i l
    have : A.beq (.d (.byt l)) (.d (.byt l)) = true := by
      simp only [A.beq, Dt.beq]
      exact bsEq_refl l
    simp only [keyEq, mkSeq, this, cond_true]
  · cases h
def kvO (a : Act) (o : Oper) : Value × Value := match o.op with
  | .insert _ _ kx v => (a.eval kx, a.eval v)
  | _ => (undef, undef)
def inD (ops : Array Oper) (dm : Nat) : List Ro := (filtIns true (rosOf ops)).filter fun r => Nat.testBit dm r.i
structure Hid (G : Nat → Prop) (w0 : World) (ρ : Env) (st : St) (w : World) (a : Act) (ops : Array Oper) (fl : Fl) (B dm : Nat) : Prop where
  lt : B < w.heap.size
  nf : ¬ feet ρ st.mem B
  nz : ρ.fz (B : Nat) = none
  og : w0.heap.size ≤ B ∨ G B
  tmp : a.tmps.getD fl.m undef = .map (some B)
  tsz : fl.m < a.tmps.size
  obj : ∃ arr clk, w.heap[B]? = some (.map arr clk) ∧ (arr.toList.map kvE).Perm ((inD ops dm).map fun r => kvO a r.o)
structure PsM (ops : Array Oper) (m : Nat) (ps : List Ro) : Prop where
  nd : (ps.map (·.i)).Nodup
  mem : ∀ r, r ∈ ps ↔ ∃ i o, ops[i]? = some o ∧ r = roOf ops o i ∧ Nat.testBit m i = false ∧ isIns o.op = false
structure MkM (ops : Array Oper) (fl : Fl) (m dm : Nat) (listed : Array Bool) : Prop where
  size : listed.size = ops.size
  bit : ∀ i, (Nat.testBit m i || Nat.testBit dm i) = listed.getD i false
  mb : Nat.land m fl.bits = 0
  sub : ∀ i, Nat.testBit dm i = true → Nat.testBit fl.bits i = true
  ne : dm ≠ fl.bits
theorem PsM.drop {ops : Array Oper} {m : Nat} {ps : List Ro} (h : PsM ops m ps) (i : Nat) : PsM ops (Nat.lor m (2 ^ i)) (dropRo i ps) := by
  refine ⟨dropRo_nodup h.nd, fun r => ?_⟩
  rw [dropRo_mem h.nd, h.mem]
  constructor
  · rintro ⟨⟨j, o, h1, rfl, h3, h5⟩, h4⟩
    refine ⟨j, o, h1, rfl, ?_, h5⟩
    have : i ≠ j := fun e => h4 e.symm
    rw [lor_bit, pow_bit, h3]
    simp [this]
  · rintro ⟨j, o, h1, rfl, h3, h5⟩
    rw [lor_bit, pow_bit, Bool.or_eq_false_iff] at h3
    exact ⟨⟨j, o, h1, rfl, h3.1, h5⟩, fun e => by have := h3.2; simp [roOf] at e this; exact this e.symm⟩
theorem rosOf_nd (ops : Array Oper) : ((rosOf ops).map (·.i)).Nodup := (psOk_start ops).nd
theorem psM_start (ops : Array Oper) : PsM ops 0 (filtIns false (rosOf ops)) := by
  refine ⟨(rosOf_nd ops).sublist (filtIns_sub.map _), fun r => ?_⟩
  rw [filtIns_mem, (psOk_start ops).mem]
  constructor
  · rintro ⟨⟨i, o, h1, rfl, h3⟩, h4⟩; exact ⟨i, o, h1, rfl, h3, h4⟩
  · rintro ⟨i, o, h1, rfl, h3, h4⟩; exact ⟨⟨i, o, h1, rfl, h3⟩, h4⟩
theorem ins_bit {ops : Array Oper} {fl : Fl} (hfl : FlOk ty ops fl) {i : Nat} {o : Oper} (ho : ops[i]? = some o) : Nat.testBit fl.bits i = isIns o.op := by
  have hm : roOf ops o i ∈ rosOf ops := List.mem_of_getElem? (rosOf_get ho)
  cases hi : isIns o.op
  · cases hb : Nat.testBit fl.bits i
    · rfl
    · rw [hfl.bits] at hb
      obtain ⟨r, hr, he⟩ := bitsRo_bit.1 hb
      obtain ⟨h1, h2⟩ := filtIns_mem.1 hr
      obtain ⟨j, o', ho', rfl⟩ := rosOf_mem h1
      have : j = i := he
      subst this
      rw [ho] at ho'; cases ho'
      rw [show (roOf ops o j).o = o from rfl, hi] at h2
      cases h2
  · rw [hfl.bits]
    exact bitsRo_bit.2 ⟨_, filtIns_mem.2 ⟨hm, hi⟩, rfl⟩
theorem pre_bits {ops : Array Oper} {fl : Fl} (hfl : FlOk ty ops fl) {r : Ro} (hr : r ∈ filtIns true (rosOf ops)) {j : Nat} (hj : Nat.testBit r.pre j = true) : Nat.testBit fl.bits j = false := by
  have : Nat.testBit fl.pre j = true := by rw [hfl.pre]; exact preRo_bit.2 ⟨r, hr, hj⟩
  exact land_zero hfl.dis this
theorem MkM.dm_no {ops : Array Oper} {fl : Fl} {m dm : Nat} {listed : Array Bool} (hk : MkM ops fl m dm listed) (hfl : FlOk ty ops fl) {i : Nat} {o : Oper} (ho : ops[i]? = some o) (hi : isIns o.op = false) : Nat.testBit dm i = false := by
  cases h : Nat.testBit dm i
  · rfl
  · have := hk.sub i h
    rw [ins_bit hfl ho, hi] at this
    cases this
theorem MkM.lt {ops : Array Oper} {fl : Fl} {m dm : Nat} {listed : Array Bool} (hk : MkM ops fl m dm listed) {i : Nat} {o : Oper} (ho : ops[i]? = some o) : i < listed.size := by rw [hk.size]; exact (Array.getElem?_eq_some_iff.1 ho).1
theorem MkM.up {ops : Array Oper} {fl : Fl} {m dm : Nat} {listed : Array Bool} (hk : MkM ops fl m dm listed) (hfl : FlOk ty ops fl) {i : Nat} {o : Oper} (ho : ops[i]? = some o) (hi : isIns o.op = false) (h : (roOf ops o i).ready m = true) : i ∈ Region.ready .any ops listed := by
  simp only [Ro.ready, roOf, Bool.and_eq_true, Bool.not_eq_true'] at h
  rw [mem_ready, getD_tf (hk.lt ho)]
  refine ⟨by rw [← hk.bit, h.1, hk.dm_no hfl ho hi]; rfl, o, ho, fun e he hb => ?_⟩
  rw [← hk.bit, land_eq (beq_nat h.2) (preM_bit.2 ⟨e, by simpa using he, hb, rfl⟩)]
  rfl
theorem MkM.down {ops : Array Oper} {fl : Fl} {m dm : Nat} {listed : Array Bool} (hk : MkM ops fl m dm listed) (hfl : FlOk ty ops fl) {i : Nat} {o : Oper} (ho : ops[i]? = some o) (hi : isIns o.op = false) (h : i ∈ Region.ready .any ops listed) : (roOf ops o i).ready m = true ∧ Nat.testBit m i = false := by
  obtain ⟨h0, o', ho', h2⟩ := mem_ready.1 h
  rw [ho] at ho'; cases ho'
  rw [getD_tf (hk.lt ho), ← hk.bit, Bool.or_eq_false_iff] at h0
  refine ⟨?_, h0.1⟩
  have hpre : ∀ j, Nat.testBit (preM o.after.toList) j = true → (Nat.testBit m j || Nat.testBit dm j) = true := fun j hj => by
    obtain ⟨e, he, hb, rfl⟩ := preM_bit.1 hj
    rw [hk.bit]
    exact h2 e (by simpa using he) hb
  simp only [Ro.ready, roOf, Bool.and_eq_true, Bool.not_eq_true']
  refine ⟨h0.1, ?_⟩
  rw [eq_land fun j hj => ?_]
  · exact Nat.beq_refl _
  · have h3 := hpre j hj
    cases hm : Nat.testBit m j
    · rw [hm, Bool.false_or] at h3
      exfalso
      rcases alOr_spec hfl.al (roOf ops o i) (List.mem_of_getElem? (rosOf_get ho)) hi with q | q
      · have := land_zero (x := preM o.after.toList) q hj
        rw [hk.sub j h3] at this; cases this
      · refine hk.ne (Nat.eq_of_testBit_eq fun l => ?_)
        cases hl : Nat.testBit fl.bits l
        · cases hd : Nat.testBit dm l
          · rfl
          · rw [hk.sub l hd] at hl; cases hl
        · have hl' : Nat.testBit (preM o.after.toList) l = true := by
            have := land_bit (preM o.after.toList) fl.bits l
            rw [show Nat.land (preM o.after.toList) fl.bits = fl.bits from q, hl] at this
            simpa using this.symm
          have h4 := hpre l hl'
          have hml : Nat.testBit m l = false := by
            cases hml : Nat.testBit m l
            · rfl
            · have := land_zero hk.mb hml
              rw [hl] at this; cases this
          rw [hml, Bool.false_or] at h4
          exact h4
    · rfl
theorem MkM.free {ops : Array Oper} {fl : Fl} {m dm : Nat} {listed : Array Bool} (hk : MkM ops fl m dm listed) {i : Nat} {o : Oper} (hf : (roOf ops o i).free m = true) :
    ∀ j oj, ops[j]? = some oj → j ≠ i → listed.getD j true = false → (∀ e ∈ oj.after, Region.binds .any e = true → e.on ≠ i) → o.apart ops oj = true := by
  intro j oj hj hne hun hno
  rw [getD_tf (hk.lt hj), ← hk.bit, Bool.or_eq_false_iff] at hun
  have hy : rmOf ops oj j ∈ mkRm ops ops.toList 0 := by
    refine List.mem_of_getElem? (i := j) ?_
    rw [mkRm_get]
    have : ops.toList[j]? = some oj := by simpa using hj
    rw [this]; simp
  have hb : Nat.testBit (cfM (rmOf ops o i) (mkRm ops ops.toList 0)) (rmOf ops oj j).i = false := by
    cases hb : Nat.testBit (cfM (rmOf ops o i) (mkRm ops ops.toList 0)) (rmOf ops oj j).i
    · rfl
    · have := land_eq (beq_nat hf) hb
      rw [show (rmOf ops oj j).i = j from rfl] at this
      rw [this] at hun; cases hun.1
  rcases cfM_spec hy hb with h | h | h
  · exact absurd h.symm hne
  · obtain ⟨e, he, hbd, hon⟩ := preM_bit.1 h
    exact absurd hon (hno e (by simpa using he) hbd)
  · exact apart_of h.1 h.2
theorem MkM.set {ops : Array Oper} {fl : Fl} {m dm : Nat} {listed : Array Bool} (hk : MkM ops fl m dm listed) (hfl : FlOk ty ops fl) {i : Nat} {o : Oper} (ho : ops[i]? = some o) (hi : isIns o.op = false) : MkM ops fl (Nat.lor m (2 ^ i)) dm (listed.setIfInBounds i true) := by
  refine ⟨by simp [hk.size], fun j => ?_, ?_, hk.sub, hk.ne⟩
  · rw [lor_bit, pow_bit]
    by_cases hij : i = j
    · subst hij; simp [hk.lt ho]
    · rw [getD_set_ne false hij, ← hk.bit]; simp [hij]
  · apply Nat.eq_of_testBit_eq
    intro j
    rw [land_bit, lor_bit, pow_bit, Nat.zero_testBit]
    by_cases hij : i = j
    · subst hij; rw [ins_bit hfl ho, hi]; simp
    · have := land_bit m fl.bits j
      rw [hk.mb, Nat.zero_testBit] at this
      simp only [hij, decide_false, Bool.or_false]
      exact this.symm
theorem MkM.ins {ops : Array Oper} {fl : Fl} {m dm : Nat} {listed : Array Bool} (hk : MkM ops fl m dm listed) (hfl : FlOk ty ops fl) {i : Nat} {o : Oper} (ho : ops[i]? = some o) (hi : isIns o.op = true) (hne : Nat.lor dm (2 ^ i) ≠ fl.bits) : MkM ops fl m (Nat.lor dm (2 ^ i)) (listed.setIfInBounds i true) := by
  refine ⟨by simp [hk.size], fun j => ?_, hk.mb, fun j hj => ?_, hne⟩
  · rw [lor_bit, pow_bit]
    by_cases hij : i = j
    · subst hij; simp [hk.lt ho]
    · rw [getD_set_ne false hij, ← hk.bit]; simp [hij]
  · rw [lor_bit, pow_bit, Bool.or_eq_true, decide_eq_true_eq] at hj
    rcases hj with hj | rfl
    · exact hk.sub j hj
    · rw [ins_bit hfl ho, hi]
theorem MkM.full {ops : Array Oper} {fl : Fl} {m dm : Nat} {listed : Array Bool} (hk : MkM ops fl m dm listed) {i : Nat} {o : Oper} (ho : ops[i]? = some o) (hne : Nat.lor dm (2 ^ i) = fl.bits) : MkOk ops (Nat.lor m fl.bits) (listed.setIfInBounds i true) := by
  refine ⟨by simp [hk.size], fun j => ?_⟩
  rw [lor_bit, ← hne, lor_bit, pow_bit]
  by_cases hij : i = j
  · subst hij; simp [hk.lt ho]
  · rw [getD_set_ne false hij, ← hk.bit]; simp [hij]
theorem PsM.full {ops : Array Oper} {fl : Fl} {m : Nat} {ps : List Ro} (h : PsM ops m ps) (hfl : FlOk ty ops fl) : PsOk ops (Nat.lor m fl.bits) ps := by
  refine ⟨h.nd, fun r => ?_⟩
  rw [h.mem]
  constructor
  · rintro ⟨i, o, h1, rfl, h3, h4⟩
    exact ⟨i, o, h1, rfl, by rw [lor_bit, h3, ins_bit hfl h1, h4]; rfl⟩
  · rintro ⟨i, o, h1, rfl, h3⟩
    rw [lor_bit, Bool.or_eq_false_iff, ins_bit hfl h1] at h3
    exact ⟨i, o, h1, rfl, h3.1, h3.2⟩
theorem Hid.step {ops : Array Oper} {fl : Fl} {B dm m : Nat} (hfl : FlOk ty ops fl) (hin : ∀ r ∈ inD ops dm, ∀ j, Nat.testBit r.pre j = true → Nat.testBit m j = true) (h : Hid G w0 ρ st w a ops fl B dm) {st' : St} {a' : Act} (hm' : Md ty pl (feet ρ st.mem) ρ.fz w ρ' st' w') {i : Nat} (ho : ops[i]? = some o) (hi : Nat.testBit m i = false) (hmk : i ≠ fl.mkr) (ha : Agr o a a') (hsz : a'.tmps.size = a.tmps.size) :
    Hid G w0 ρ' st' w' a' ops fl B dm := by
  have hro : roOf ops o i ∈ rosOf ops := List.mem_of_getElem? (rosOf_get ho)
  refine ⟨?_, ?_, ?_, ?_, ?_, ?_, ?_⟩
  · exact Nat.lt_of_lt_of_le h.lt hm'.below.size
  · rintro ⟨j, oj, hj, hf⟩
    rcases (hm'.own j oj _ hj hf).1 with q | q
    · have := h.lt; omega
    · exact h.nf q
  · cases hz : ρ'.fz (B : Nat) with
    | none => rfl
    | some x =>
      rcases hm'.fzn B (by rw [hz]; simp) h.nz with q | q
      · have := h.lt; omega
      · exact absurd q h.nf
  · exact h.og
  · rw [← h.tmp]
    exact ha fl.m ((onlyMk_spec hfl.mkr _ hro).2 hmk)
  · rw [hsz]; exact h.tsz
  · obtain ⟨arr, clk, h1, h2⟩ := h.obj
    refine ⟨arr, clk, by rw [hm'.below.block _ h.lt h.nf]; exact h1, ?_⟩
    have : ((inD ops dm).map fun r => kvO a' r.o) = (inD ops dm).map fun r => kvO a r.o := by
      refine List.map_congr_left fun r hr => ?_
      have hr1 := (List.mem_filter.1 hr).1
      obtain ⟨kt, et, _, hes⟩ := hfl.kt
      obtain ⟨kx, q1, _⟩ := insE_spec ((insEs_map hes).2 r hr1)
      simp only [kvO, q1]
      refine Prod.ext rfl (eval_agr fun t ht => ha t fun hd => ?_)
      have h3 := (stableL_spec hfl.st r hr1).2 _ _ _ _ q1
      have h4 := stableO_spec h3 _ hro t ht hd
      have := hin r hr i h4
      rw [hi] at this; cases this
    rw [this]; exact h2
def PIn (ops : Array Oper) (m dm : Nat) : Prop := ∀ r ∈ inD ops dm, ∀ j, Nat.testBit r.pre j = true → Nat.testBit m j = true
theorem PIn.more {ops : Array Oper} {m dm : Nat} (h : PIn ops m dm) (x : Nat) : PIn ops (Nat.lor m x) dm := fun r hr j hj => by
  rw [lor_bit, h r hr j hj]; rfl
structure MaOk (m mA mk : Nat) : Prop where
  eq : m = Nat.lor mA (2 ^ mk)
theorem MaOk.bit {m mA mk : Nat} (h : MaOk m mA mk) (i : Nat) : Nat.testBit m i = (Nat.testBit mA i || decide (mk = i)) := by
  rw [h.eq, lor_bit, pow_bit]
theorem MaOk.done {m mA mk : Nat} (h : MaOk m mA mk) (hb : Nat.testBit mA mk = true) : mA = m := by
  apply Nat.eq_of_testBit_eq
  intro i
  rw [h.bit]
  by_cases hi : mk = i
  · subst hi; rw [hb]; rfl
  · simp [hi]
theorem MaOk.set {m mA mk : Nat} (h : MaOk m mA mk) (i : Nat) : MaOk (Nat.lor m (2 ^ i)) (Nat.lor mA (2 ^ i)) mk := ⟨by
  apply Nat.eq_of_testBit_eq
  intro j
  rw [lor_bit, h.bit, lor_bit, lor_bit, pow_bit, pow_bit]
  cases Nat.testBit mA j <;> cases decide (mk = j) <;> cases decide (i = j) <;> rfl⟩
def HbOk (G : Nat → Prop) (w0 : World) (ρ : Env) (st : St) (w : World) (a : Act) (ops : Array Oper) (fl : Fl) (mA dm : Nat) : Prop :=
  (Nat.testBit mA fl.mkr = false ∧ dm = 0) ∨ (Nat.testBit mA fl.mkr = true ∧ ∃ B, Hid G w0 ρ st w a ops fl B dm)
theorem sxAnyM_held {callF : CallF} {dstOf : Nat → Option Tmp} {hs : Hd} {bf : Tb Nat} {mem0 : Tb SO} {fl : Fl} {n : Nat} {ps : List Ro} {m D : Nat} {k : KT} {kp : SV → KT} {is : List Dt} (h : (sxAnyM C callF dstOf hs bf mem0 fl n ps m D tm st k kp).wp C.ty F is Q) : heldU mem0 st.mem D hs = true ∧ botM tm fl.m = true := by
  cases n with
  | zero => exact h.elim
  | succ n =>
    unfold sxAnyM at h
    cases hh : (heldU mem0 st.mem D hs && botM tm fl.m) with
    | false => rw [hh] at h; exact h.elim
    | true => rw [Bool.and_eq_true] at hh; exact hh
theorem botM_spec {m : Tmp} (h : botM tm m = true) : tm.get m = some .bot := by
  unfold botM at h
  split at h
  · assumption
  · cases h
theorem TmOk.hide {ni nb : Nat} {m : Tmp} (ht : TmOk ρ ni nb tm a) : TmOk ρ ni nb (hideM tm m) a := by
  unfold hideM
  split
  · rename_i u hu
    intro i v hv
    rcases Tb.get_put hv with ⟨rfl, rfl⟩ | ⟨_, hv⟩
    · exact ⟨(ht _ u hu).1, .inl rfl⟩
    · exact ht i v hv
  · exact ht
theorem TmOk.bot {ni nb : Nat} {m : Tmp} {x : Value} (ht : TmOk ρ ni nb tm a) (hb : tm.get m = some .bot) : TmOk ρ ni nb tm (a.put (some m) x) := by
  intro i v hv
  obtain ⟨h1, h2⟩ := ht i v hv
  refine ⟨by rw [put_size]; exact h1, ?_⟩
  by_cases hi : m = i
  · subst hi; rw [hb] at hv; cases hv; exact .inl rfl
  · refine h2.imp id fun ⟨q1, q2, q3⟩ => ⟨q1, q2, ?_⟩
    rw [← q3]
    simp [Act.put, Array.getElem?_setIfInBounds_ne hi]
theorem put_sameM {m : Tmp} {x : Value} (h : a.tmps.getD m undef = x) (hl : m < a.tmps.size) : a.put (some m) x = a := by
  have : a.tmps.setIfInBounds m x = a.tmps := by
    apply Array.ext
    · simp
    · intro i h1 h2
      rw [Array.getElem_setIfInBounds (by simpa using h1)]
      split
      · rename_i hi
        subst hi
        rw [← h]; simp [hl]
      · rfl
  simp only [Act.put, this]
theorem alMk_spec {bits mk : Nat} : ∀ {l : List Ro}, alMk bits mk l = true → ∀ r ∈ l, isIns r.o.op = false → (r.i = mk → r.pre = 0) ∧ (r.i ≠ mk → Nat.land r.pre bits = bits ∨ (Nat.testBit r.pre mk = false ∧ Nat.testBit r.cf mk = false))
  | [], _, r, hr, _ => nomatch hr
  | x :: l, h, r, hr, hi => by
    simp only [alMk, Bool.and_eq_true] at h
    rcases List.mem_cons.1 hr with rfl | hr
    · have h1 := h.1
      rw [hi, Bool.false_or] at h1
      refine ⟨fun e => ?_, fun e => ?_⟩
      · rw [e, Nat.beq_refl, cond_true] at h1
        exact beq_nat h1
      · have : Nat.beq r.i mk = false := by
          cases hb : Nat.beq r.i mk
          · rfl
          · exact absurd (beq_nat hb) e
        rw [this, cond_false, Bool.or_eq_true, Bool.and_eq_true] at h1
        rcases h1 with h1 | ⟨h1, h2⟩
        · exact .inl (beq_nat h1)
        · exact .inr ⟨by simpa using h1, by simpa using h2⟩
    · exact alMk_spec h.2 r hr hi
theorem mk_apart {ops : Array Oper} {fl : Fl} {m mA dm : Nat} {listed : Array Bool} (hfl : FlOk ty ops fl) (hk : MkM ops fl mA dm listed) (hMA : MaOk m mA fl.mkr) (hmi : isIns (ops.getD fl.mkr default).op = false) {i : Nat} {o : Oper} (ho : ops[i]? = some o) (hi : isIns o.op = false) (hne : i ≠ fl.mkr) (h : (roOf ops o i).ready m = true) :
    Nat.testBit (roOf ops o i).pre fl.mkr = false ∧ Nat.testBit (roOf ops o i).cf fl.mkr = false ∧ (roOf ops o i).ready mA = true := by
  have hro : roOf ops o i ∈ rosOf ops := List.mem_of_getElem? (rosOf_get ho)
  simp only [Ro.ready, Bool.and_eq_true, Bool.not_eq_true'] at h
  have hpm : ∀ j, Nat.testBit (roOf ops o i).pre j = true → Nat.testBit m j = true := fun j hj => land_eq (beq_nat h.2) hj
  have hq : Nat.testBit (roOf ops o i).pre fl.mkr = false ∧ Nat.testBit (roOf ops o i).cf fl.mkr = false := by
    rcases (alMk_spec hfl.am _ hro hi).2 hne with q | q
    · exfalso
      cases hr : filtIns true (rosOf ops) with
      | nil => exact hfl.ne hr
      | cons r rs =>
        have hb : Nat.testBit fl.bits r.i = true := by rw [hfl.bits]; exact bitsRo_bit.2 ⟨r, by rw [hr]; exact .head _, rfl⟩
        have h1 : Nat.testBit (roOf ops o i).pre r.i = true := by
          have := land_bit (roOf ops o i).pre fl.bits r.i
          rw [q, hb] at this
          simpa using this.symm
        have h2 := hpm _ h1
        rw [hMA.bit] at h2
        have h3 : Nat.testBit mA r.i = false := by
          cases hx : Nat.testBit mA r.i
          · rfl
          · have := land_zero hk.mb hx
            rw [hb] at this; cases this
        rw [h3, Bool.false_or, decide_eq_true_eq] at h2
        obtain ⟨h4, h5⟩ := filtIns_mem.1 (show r ∈ filtIns true (rosOf ops) by rw [hr]; exact .head _)
        obtain ⟨i', o', ho', rfl⟩ := rosOf_mem h4
        have h2 : fl.mkr = i' := h2
        rw [h2] at hmi
        have : ops.getD i' default = o' := by simp [Array.getD_eq_getD_getElem?, ho']
        rw [this] at hmi
        have h5 : isIns o'.op = true := h5
        rw [h5] at hmi; cases hmi
    · exact q
  refine ⟨hq.1, hq.2, ?_⟩
  simp only [Ro.ready, Bool.and_eq_true, Bool.not_eq_true']
  refine ⟨?_, ?_⟩
  · have := h.1
    rw [hMA.bit, Bool.or_eq_false_iff] at this
    exact this.1
  · rw [eq_land fun j hj => ?_]
    · exact Nat.beq_refl _
    · have h1 := hpm j hj
      rw [hMA.bit] at h1
      rcases Bool.or_eq_true _ _ ▸ h1 with h1 | h1
      · exact h1
      · have : fl.mkr = j := by simpa using h1
        subst this
        rw [hq.1] at hj; cases hj
theorem ready_up {ops : Array Oper} {m mA mk i : Nat} {o : Oper} (hMA : MaOk m mA mk) (hne : i ≠ mk) (h : (roOf ops o i).ready mA = true) : (roOf ops o i).ready m = true := by
  simp only [Ro.ready, roOf, Bool.and_eq_true, Bool.not_eq_true'] at h ⊢
  refine ⟨?_, ?_⟩
  · rw [hMA.bit, h.1]; simp; exact fun e => hne e.symm
  · rw [eq_land fun j hj => ?_]
    · exact Nat.beq_refl _
    · rw [hMA.bit, land_eq (beq_nat h.2) hj]; rfl
theorem isMk_take {dstOf : Nat → Option Tmp} {L : Pl} {mem0 : Tb SO} {m : Tmp} (h : isMk m o = true) : takeV C dstOf mem0 L o tm st = none := by
  unfold isMk at h
  split at h
  · rename_i t d ho hd hg
    unfold takeV
    rw [hg]
    simp only [takeP, ho, pureOp, heldLoad]
  · cases h
theorem putT_lt {t : Tmp} {v : SV} {k : Tm → St → T} (ht : TmOk ρ st.ni st.nb tm a) (h : (putT tm (some t) v st k).wp C.ty F ρ.is Q) : t < a.tmps.size := by
  unfold putT at h
  simp only at h
  split at h
  · rename_i u hu; exact (ht t u hu).1
  · exact h.elim
theorem fillEs_ok (ht : TmOk ρ st.ni st.nb tm a) (hp : PcOk ρ.is st.pc) : ∀ {l : List (SV × Operand)} {es : List (SV × SV × Nat)}, (∀ e ∈ l, ∃ kx, ofVal1 kx = some e.1) → fillEs st.pc tm st.ni st.nb l = some es →
    esWf st.ni st.nb es = true ∧ esTyd ρ es ∧ (esDen ρ es).map kvE = l.map fun e => (e.1.den ρ, a.eval e.2)
  | [], es, _, h => by simp only [fillEs] at h; cases h; exact ⟨rfl, (fun _ h => nomatch h), rfl⟩
  | e :: l, es, hl, h => by
    simp only [fillEs] at h
    split at h
    · rename_i v l' hv hl'
      cases hc : (e.1.wf st.ni st.nb && v.wf st.ni st.nb && v.plain) <;> rw [hc] at h <;> simp only [cond_true, cond_false] at h <;> cases h
      simp only [Bool.and_eq_true] at hc
      obtain ⟨h1, h2, h3⟩ := fillEs_ok ht hp (fun x hx => hl x (.tail _ hx)) hl'
      obtain ⟨kx, hk⟩ := hl e (.head _)
      refine ⟨by simp [esWf, hc.1.1, hc.1.2, h1], fun x hx => ?_, ?_⟩
      · rcases List.mem_cons.1 hx with rfl | hx
        · exact ⟨(ofVal1_spec hk ρ 0 0).2.2.2, evO_ty ht hp hv⟩
        · exact h2 x hx
      · simp only [esDen, List.map_cons]
        refine congr (congrArg _ ?_) h3
        simp only [kvE, evO_den ht hp hv]
    · cases h
theorem miss_of {ops : Array Oper} {fl : Fl} {m dm : Nat} {listed : Array Bool} (hfl : FlOk ty ops fl) (hk : MkM ops fl m dm listed) : ∃ i o, ops[i]? = some o ∧ isIns o.op = true ∧ Nat.testBit dm i = false := by
  apply Classical.byContradiction
  intro hno
  refine hk.ne (Nat.eq_of_testBit_eq fun j => ?_)
  cases hb : Nat.testBit fl.bits j
  · cases hd : Nat.testBit dm j
    · rfl
    · rw [hk.sub j hd] at hb; cases hb
  · rw [hfl.bits] at hb
    obtain ⟨r, hr, he⟩ := bitsRo_bit.1 hb
    obtain ⟨h1, h2⟩ := filtIns_mem.1 hr
    obtain ⟨i, o, ho, rfl⟩ := rosOf_mem h1
    have : i = j := he
    subst this
    cases hd : Nat.testBit dm i
    · exact absurd ⟨i, o, ho, h2, hd⟩ hno
    · rfl
theorem Md.fill (hm : Md ty pl G fz0 w0 ρ st w) {b B : Nat} {x : Obj} {es : List (SV × SV × Nat)} (hB : ρ.b b = B) (hbl : b < st.nb) (nf : ¬ feet ρ st.mem B) (nz : ρ.fz B = none) (og : w0.heap.size ≤ B ∨ G B) (hx : w.heap[B]? = some x) (hw : esWf st.ni st.nb es = true)
    (hgo : ∀ ρ' : Env, ρ'.is = ρ.is → ρ'.bs = ρ.bs → ρ.le ρ' → ρ'.fz (B : Nat) = some x → GhOk ty ρ' b (.mset es)) :
    ∃ ρ' : Env, ρ.le ρ' ∧ ρ'.is = ρ.is ∧ Md ty pl G fz0 w0 ρ' { st with mem := st.mem.put b (.mset es) } w := by
  have hle0 : FzLe ρ.fz (fun k : Key => if k = .b B then some x else ρ.fz k) := by
    intro k o hk
    by_cases hkb : k = .b B
    · rw [hkb, nz] at hk; cases hk
    · simp only [if_neg hkb]; exact hk
  have hle : ρ.le { ρ with fz := fun k : Key => if k = .b B then some x else ρ.fz k } := ⟨⟨[], by simp⟩, ⟨[], by simp⟩, hle0⟩
  have ft : ∀ j oj, st.mem.get j = some oj → foot { ρ with fz := fun k : Key => if k = .b B then some x else ρ.fz k } j oj = foot ρ j oj := fun j oj hj => foot_app hle (by rw [hm.hnb]; exact (hm.mem j oj hj).1) oj (by rw [hm.hni, hm.hnb]; exact (hm.mem j oj hj).2.1) (hm.mem j oj hj).2.2.1
  have key : ∀ k : Nat, k ≠ B → (if (Key.b k) = Key.b B then some x else ρ.fz k) = ρ.fz k := fun k hk => if_neg fun e => hk (by injection e)
  refine ⟨_, hle, rfl, hm.below, hm.hni, hm.hnb, hm.hpc, hm.hpw, fun k o hk => ?_, fun k o hk => hle0 k o (hm.fzl k o hk), fun k h1 h2 => ?_, fun j oj hj => ?_, fun j oj k hj hk => ?_, fun j l oj ol k hj hl hkj hkl => ?_, ⟨fun e s a hg n hn => ?_, fun hp => ⟨fun n => ?_, ((hm.hkk.put (i := b) (o := .mset es) (by intro _ _ _ h; cases h)).np hp).2⟩⟩⟩
  · by_cases hkb : k = B
    · subst hkb
      simp at hk
      rw [← hk]; exact hx
    · exact hm.fzw k o (by rw [← key k hkb]; exact hk)
  · by_cases hkb : k = B
    · rw [hkb]; exact og
    · exact hm.fzn k (by rw [← key k hkb]; exact h1) h2
  · rcases Tb.get_put hj with ⟨rfl, rfl⟩ | ⟨hne, hj'⟩
    · exact ⟨hbl, hw, hgo _ rfl rfl hle (by simp), trivial⟩
    · obtain ⟨q1, q2, q3, q4⟩ := hm.mem j oj hj'
      exact ⟨q1, q2, GhOk.app hle (by rw [hm.hnb]; exact q1) (by rw [hm.hni, hm.hnb]; exact q2) q3, SO.ok_app hle (by rw [hm.hnb]; exact q1) (by rw [hm.hni, hm.hnb]; exact q2) q4⟩
  · rcases Tb.get_put hj with ⟨rfl, rfl⟩ | ⟨hne, hj'⟩
    · cases hk
    · rw [ft j oj hj'] at hk
      obtain ⟨q1, q2⟩ := hm.own j oj k hj' hk
      refine ⟨q1, ?_⟩
      rw [← q2]
      exact key k fun e => nf ⟨j, oj, hj', e ▸ hk⟩
  · rcases Tb.get_put hj with ⟨rfl, rfl⟩ | ⟨hne, hj'⟩
    · cases hkj
    · rcases Tb.get_put hl with ⟨rfl, rfl⟩ | ⟨hne', hl'⟩
      · cases hkl
      · rw [ft j oj hj'] at hkj; rw [ft l ol hl'] at hkl
        exact hm.inj j l oj ol k hj' hl' hkj hkl
  · have hn' : ρ.fz (.h n) ≠ none := by simpa using hn
    exact (hm.hkk.put (i := b) (o := .mset es) (by intro _ _ _ h; cases h)).ok e s a hg n hn'
  · have := (hm.hkk.np hp).1 n
    simpa using this
theorem mk_op {ops : Array Oper} {fl : Fl} (hfl : FlOk ty ops fl) : ∃ o t, ops[fl.mkr]? = some o ∧ o.op = .makeMap t none ∧ o.dst = some fl.m ∧ o.guard = none ∧ isIns o.op = false ∧ (roOf ops o fl.mkr).pre = 0 := by
  obtain ⟨r, hr, hri, him⟩ := hfl.mkm
  obtain ⟨i, o, ho, rfl⟩ := rosOf_mem hr
  have hri : i = fl.mkr := hri
  subst hri
  unfold isMk at him
  split at him
  · rename_i t dd hop hdst hgd
    have hop : o.op = .makeMap t none := hop
    have hins : isIns o.op = false := by rw [hop]; rfl
    refine ⟨o, t, ho, hop, ?_, hgd, hins, (alMk_spec hfl.am _ hr hins).1 rfl⟩
    rw [show o.dst = some dd from hdst, beq_nat him]
  · cases him
theorem free_ma {ops : Array Oper} {m mA mk i : Nat} {o : Oper} (hMA : MaOk m mA mk) (hc : Nat.testBit (roOf ops o i).cf mk = false) (h : (roOf ops o i).free m = true) : (roOf ops o i).free mA = true := by
  simp only [Ro.free] at h ⊢
  rw [eq_land fun j hj => ?_]
  · exact Nat.beq_refl _
  · have h1 := land_eq (beq_nat h) hj
    rw [hMA.bit] at h1
    rcases Bool.or_eq_true _ _ ▸ h1 with h1 | h1
    · exact h1
    · have : mk = j := by simpa using h1
      subst this
      rw [hc] at hj; cases hj
theorem sxAnyM_ok (hty : TyOk C.P C.ty) (hg : GOk C.ty C.gl fz0) {ops : Array Oper} {dstOf : Nat → Option Tmp} (hd : ∀ j, dstOf j = (ops[j]?).bind (·.dst)) (hsel : ∀ (j : Nat) (o : Oper) cs b, ops[j]? = some o → o.op ≠ .select cs b)
    (hQ0 : ∀ (i : Nat) (o : Oper) c a v w, ops[i]? = some o → QE (.panic c) (a.put o.dst v) w → QE (.panic c) a w) {callF : CallF} (hcall : ∀ (G : Nat → Prop) (fz0 : Fz) (w0 : World), GOk C.ty C.gl fz0 → CallOk F Q C G fz0 w0 callF) {k : Tm → St → T} {kp : SV → Tm → St → T} {st0 : St} {ρ0 : Env} {wS : World} (hm0 : Md C.ty C.pl G fz0 w0 ρ0 st0 wS) {hs : Hd} {bf : Tb Nat} (hbf : ∀ j y, Nat.testBit (bfOf bf j) y = true → Clos ops j y) {fl : Fl} (hfl : FlOk C.ty ops fl) :
    ∀ (n : Nat) {ps : List Ro} {m D : Nat} {ρ : Env} {st : St} {w : World} {tm : Tm} {a : Act} {fuel : Nat} {listed : Array Bool} {dm mA : Nat}, PsM ops m ps → MkM ops fl mA dm listed → MaOk m mA fl.mkr → PIn ops m dm → Dn ops listed → DOk D listed → unc listed.toList ≤ fuel → ρ0.le ρ → Md C.ty C.pl G fz0 w0 ρ st w → TmOk ρ st.ni st.nb tm a → DfOk ρ st.ni st.nb st.df a.defers → (∀ y, Nat.testBit D y = false → Rl C.ty ρ0 st0.mem hs ρ.fz y w) →
      HbOk G w0 ρ st w a ops fl mA dm → (sxAnyM C callF dstOf hs bf st0.mem fl n ps m D tm st k kp).wp C.ty F ρ.is Q → HT C.ty C.pl F Q G fz0 w0 ρ a (QE .normal) k → HTP C.ty C.pl F Q G fz0 w0 ρ a QE kp → wpR C.P ops QE (bfOf bf) (Rl C.ty ρ0 st0.mem hs ρ.fz) fuel listed D a w
  | 0, ps, m, D, ρ, st, w, tm, a, fuel, listed, dm, mA, _, _, _, _, _, _, _, _, _, _, _, _, _, h, _, _ => h.elim
  | n + 1, ps, m, D, ρ, st, w, tm, a, fuel, listed, dm, mA, hps, hk, hMA, hpin, hdn, hDO, hf, hle, hm, ht, hdf, hS, hH, h, hK, hKP => by
    obtain ⟨hh, hbot⟩ := sxAnyM_held h
    unfold sxAnyM at h
    rw [hh, hbot] at h
    simp only [Bool.and_self, Bool.not_true, cond_false] at h
    replace hbot := botM_spec hbot
    obtain ⟨omk, tmk, mo1, mo2, mo3, mo4, mo5, mo6⟩ := mk_op hfl
    have hmi0 : isIns (ops.getD fl.mkr default).op = false := by
      have : ops.getD fl.mkr default = omk := by simp [Array.getD_eq_getD_getElem?, mo1]
      rw [this]; exact mo5
    have hmb : Nat.testBit m fl.mkr = true := by rw [hMA.bit]; simp
    have more : ∀ {listed : Array Bool} {fuel : Nat} {i : Nat}, unc listed.toList ≤ fuel → listed.getD i true = false → ∃ f, fuel = f + 1 ∧ unc (listed.setIfInBounds i true).toList ≤ f := by
      intro listed fuel i hf h0
      have hlt : i < listed.size := by
        cases Nat.lt_or_ge i listed.size with
        | inl h => exact h
        | inr h => simp [h] at h0
      have : listed.toList[i]? = some false := by
        simp [hlt] at h0 ⊢; exact h0
      have := unc_set this
      refine ⟨fuel - 1, by omega, ?_⟩
      rw [Array.toList_setIfInBounds]; omega
    split at h
    · rename_i y v d hft
      obtain ⟨h1, h1', h2, h3⟩ := findTake_ok hft
      obtain ⟨i, o, ho, rfl, hmi, hii⟩ := (hps.mem _).1 h1
      have hmk : i ≠ fl.mkr := fun e => by rw [e, hmb] at hmi; cases hmi
      obtain ⟨_, hcf, h1A⟩ := mk_apart hfl hk hMA hmi0 ho hii hmk h1'
      have hrd := hk.up hfl ho hii h1A
      obtain ⟨f, rfl, hf'⟩ := more hf (mem_ready.1 hrd).1
      have hro : roOf ops o i ∈ rosOf ops := List.mem_of_getElem? (rosOf_get ho)
      have hDi : Nat.testBit D i = false := by
        cases hb : Nat.testBit D i
        · rfl
        · have h0 := (mem_ready.1 hrd).1
          rw [getD_tf (hk.lt ho), hDO i hb] at h0; cases h0
      obtain ⟨ρ1, e1, e2, hy⟩ := takeV_ok hty hg hd hm0 hle hm ht (hS i hDi) h3
      obtain ⟨hmR, _⟩ := bindD_ok hm.rebase e1 h
      obtain ⟨hm', h⟩ := bindD_ok hm e1 h
      have ht' := hm.tmok hm' e1.le ht
      have hdf' : DfOk ρ1 (stD st d).ni (stD st d).nb (stD st d).df a.defers := hm.dfok hm' e1.le hdf
      obtain ⟨tm', q1, q2⟩ := putT_ok ht' h e2 rfl
      refine wpR_first hbf ho hsel (fun c a w hq => hQ0 i o c a _ w ho hq) f listed D a w (hk.free (free_ma hMA hcf h2)) hrd hdn hDi hy hS ?_
      have hS1 : ∀ y, Nat.testBit D y = false → Rl C.ty ρ0 st0.mem hs ρ1.fz y w := by rw [e1.fz]; exact hS
      have hH1 : HbOk G w0 ρ1 (stD st d) w (a.put o.dst (v.den ρ1)) ops fl (Nat.lor mA (2 ^ i)) dm := by
        rcases hH with ⟨e3, e4⟩ | ⟨e3, B, H⟩
        · exact .inl ⟨by rw [lor_bit, pow_bit, e3, decide_eq_false hmk]; rfl, e4⟩
        · exact .inr ⟨by rw [lor_bit, e3]; rfl, B, Hid.step hfl hpin H hmR ho hmi hmk (agr_put rfl) (put_size _ _ _)⟩
      have := sxAnyM_ok hty hg hd hsel hQ0 hcall hm0 hbf hfl n (hps.drop i) (hk.set hfl ho hii) (hMA.set i) (hpin.more _) (hdn.set hrd) hDO.mark hf' (Env.le_trans hle e1.le) hm' q1 (by rw [put_defers]; exact hdf') hS1 hH1 q2 (fun ρ' st' w' tm' a' hl hm'' ht'' hdf'' hsz => hK ρ' st' w' tm' a' (Env.le_trans e1.le hl) hm'' ht'' hdf'' (hsz.trans (put_size _ _ _))) (fun ρ' st' w' v tm' a' hl hm'' ht'' hdf'' hsz => hKP ρ' st' w' v tm' a' (Env.le_trans e1.le hl) hm'' ht'' hdf'' (hsz.trans (put_size _ _ _)))
      rw [e1.fz] at this
      exact this
    · have hall := allT_ok h
      have inner : ∀ (fuel : Nat) {w : World} {listed : Array Bool} {dm mA : Nat} {a' : Act}, MkM ops fl mA dm listed → MaOk m mA fl.mkr → PIn ops m dm → Dn ops listed → DOk D listed → unc listed.toList ≤ fuel → Md C.ty C.pl G fz0 w0 ρ st w → TmOk ρ st.ni st.nb tm a' → DfOk ρ st.ni st.nb st.df a'.defers → a'.tmps.size = a.tmps.size → (∀ y, Nat.testBit D y = false → Rl C.ty ρ0 st0.mem hs ρ.fz y w) → HbOk G w0 ρ st w a' ops fl mA dm → wpR C.P ops QE (bfOf bf) (Rl C.ty ρ0 st0.mem hs ρ.fz) fuel listed D a' w := by
        intro fuel
        induction fuel with
        | zero =>
          intro w listed dm mA a' hk hMA hpin hdn hDO hf hm ht hdf has hS hH
          exfalso
          obtain ⟨i, o, ho, hi, hdm⟩ := miss_of hfl hk
          have hmi : Nat.testBit mA i = false := by
            cases hx : Nat.testBit mA i
            · rfl
            · have := land_zero hk.mb hx
              rw [ins_bit hfl ho, hi] at this; cases this
          obtain ⟨f, hf', _⟩ := more hf (i := i) (by rw [getD_tf (hk.lt ho), ← hk.bit, hmi, hdm]; rfl)
          omega
        | succ f ih =>
          intro w listed dm mA a' hk hMA hpin hdn hDO hf hm ht hdf has hS hH
          refine ⟨fun h0 => ?_, fun i hi => ?_⟩
          · exfalso
            cases hmd : Nat.testBit mA fl.mkr
            · have : fl.mkr ∈ Region.ready .any ops listed := by
                rw [mem_ready, getD_tf (hk.lt mo1)]
                refine ⟨by rw [← hk.bit, hmd, hk.dm_no hfl mo1 mo5]; rfl, omk, mo1, fun e he hbd => ?_⟩
                have h1 : Nat.testBit (roOf ops omk fl.mkr).pre e.on = true := preM_bit.2 ⟨e, by simpa using he, hbd, rfl⟩
                rw [mo6, Nat.zero_testBit] at h1; cases h1
              rw [h0] at this; cases this
            have hAm := (hMA.done hmd).symm
            subst hAm
            cases hp : Nat.beq (Nat.land fl.pre m) fl.pre
            · rw [hp] at h
              simp only [cond_false, List.nil_append] at h
              cases hr : readyL m ps with
              | nil => rw [hr] at h; exact h.elim
              | cons x xs =>
                have hx : x ∈ readyL m ps := by rw [hr]; exact .head _
                obtain ⟨hx1, hx2⟩ := readyL_mem.1 hx
                obtain ⟨i, o, ho, rfl, _, hii⟩ := (hps.mem _).1 hx1
                have := hk.up hfl ho hii hx2
                rw [h0] at this; cases this
            · obtain ⟨i, o, ho, hii, hdm⟩ := miss_of hfl hk
              have hmi : Nat.testBit m i = false := by
                cases hx : Nat.testBit m i
                · rfl
                · have := land_zero hk.mb hx
                  rw [ins_bit hfl ho, hii] at this; cases this
              have hir : roOf ops o i ∈ filtIns true (rosOf ops) := filtIns_mem.2 ⟨List.mem_of_getElem? (rosOf_get ho), hii⟩
              have : i ∈ Region.ready .any ops listed := by
                rw [mem_ready, getD_tf (hk.lt ho)]
                refine ⟨by rw [← hk.bit, hmi, hdm]; rfl, o, ho, fun e he hbd => ?_⟩
                have h1 : Nat.testBit (roOf ops o i).pre e.on = true := preM_bit.2 ⟨e, by simpa using he, hbd, rfl⟩
                have h2 : Nat.testBit fl.pre e.on = true := by rw [hfl.pre]; exact preRo_bit.2 ⟨_, hir, h1⟩
                rw [← hk.bit, land_eq (beq_nat hp) h2]; rfl
              rw [h0] at this; cases this
          · obtain ⟨h0, o, ho, hpre⟩ := mem_ready.1 hi
            obtain ⟨f', hf', hun⟩ := more hf h0
            have : f' = f := by omega
            subst this
            have hro : roOf ops o i ∈ rosOf ops := List.mem_of_getElem? (rosOf_get ho)
            cases hii : isIns o.op
            · by_cases hmk : i = fl.mkr
              ·
                subst hmk
                rw [mo1] at ho; cases ho
                have hl0 : Nat.testBit mA fl.mkr = false := by
                  rw [getD_tf (hk.lt mo1), ← hk.bit, Bool.or_eq_false_iff] at h0
                  exact h0.1
                have hdm0 : dm = 0 := by
                  rcases hH with ⟨_, e4⟩ | ⟨e3, _⟩
                  · exact e4
                  · rw [hl0] at e3; cases e3
                subst hdm0
                have hlt : fl.m < a'.tmps.size := (ht _ _ hbot).1
                have hm1 := hm.later (World.grownBy_alloc w (.map #[] 0) none)
                have hS1 := Rl.step hm0 hle hm1 hh
                obtain ⟨f1, f2, f3⟩ := fresh_ok hm (Nat.le_refl w.heap.size)
                have hH1 : HbOk G w0 ρ st (w.alloc (.map #[] 0)) (a'.put (some fl.m) (.map (some w.heap.size))) ops fl (Nat.lor mA (2 ^ fl.mkr)) 0 := by
                  refine .inr ⟨by rw [lor_bit, pow_bit]; simp, w.heap.size, (Array.getElem?_eq_some_iff.1 (heap_alloc_new w (.map #[] 0))).1, ?_, f2, f1, by simp [Act.put, hlt], by rw [put_size]; exact hlt, #[], 0, heap_alloc_new w _, ?_⟩
                  · rintro ⟨j, oj, hj, hf⟩
                    exact f3 j oj hj hf
                  · have : inD ops 0 = [] := by
                      unfold inD
                      rw [List.filter_eq_nil_iff]
                      intro r _
                      simp
                    rw [this]
                    exact .nil
                have hrun : (execOp a'.eval omk).run C.P w = .ok (.value (.map (some w.heap.size))) (w.alloc (.map #[] 0)) := by
                  unfold execOp
                  simp only [mo2, Option.map_none, Instr.makeMap, Sem.run_bind, Sem.run_pure, Result.andThen_ok, run_newObj]
                  rfl
                unfold wpOp
                simp only [mo1]
                rw [if_pos (by simp [Region.wanted, mo4])]
                refine .inl (wp_value hrun ?_)
                rw [mo3]
                have hup : ∀ y, Nat.testBit D y = true → Nat.testBit (Nat.lor (Nat.lor D (bfOf bf fl.mkr)) (2 ^ fl.mkr)) y = true := fun y h => by rw [lor_bit, lor_bit, h]; rfl
                refine ⟨fun y hy => hS1 y (lor_no (lor_no hy).1).1, wpR_mono (fun _ _ h => h) f' hup ?_⟩
                refine ih (hk.set hfl mo1 mo5) ⟨?_⟩ hpin (hdn.set hi) hDO.mark hun hm1 (ht.bot hbot) (by rw [put_defers]; exact hdf) ((put_size _ _ _).trans has) hS1 hH1
                apply Nat.eq_of_testBit_eq
                intro j
                rw [lor_bit, lor_bit, hMA.bit, pow_bit]
                cases Nat.testBit mA j <;> cases decide (fl.mkr = j) <;> rfl
              ·
                obtain ⟨hr1A, hmi⟩ := hk.down hfl ho hii hi
                have hr1 := ready_up hMA hmk hr1A
                have hmiM : Nat.testBit m i = false := by rw [hMA.bit, hmi]; simp; exact fun e => hmk e.symm
                have hx := hall _ (List.mem_append_right _ (List.mem_map.2 ⟨_, readyL_mem.2 ⟨(hps.mem _).2 ⟨i, o, ho, rfl, hmiM, hii⟩, hr1⟩, rfl⟩))
                have h2 := sxG_ok (QE := QE) (o := o) (G := feet ρ st.mem) (fz0 := ρ.fz) (w0 := w) hty (hg.mono hm.fzl) hd hm.rebase ht hdf (hcall _ _ _ (hg.mono hm.fzl)) hx (next := fun a'' w' => Agr o a' a'' → (∀ y, Nat.testBit (deadM bf D i) y = false → Rl C.ty ρ0 st0.mem hs ρ.fz y w') ∧ wpR C.P ops QE (bfOf bf) (Rl C.ty ρ0 st0.mem hs ρ.fz) f' (listed.setIfInBounds i true) (deadM bf D i) a'' w') (fun ρ' st' w' tm' a'' hl hmR ht' hdf' hsz hd' hag => by
                    have hmU := hm.unbase2 hmR (fun k hk => by obtain ⟨j, oj, hj, hf⟩ := hk; exact (hm.own j oj k hj hf).1)
                    have hS' := Rl.step hm0 (Env.le_trans hle hl) hmU (sxAnyM_held hd').1
                    refine ⟨fun y hy => (hS' y hy).less hl.fz, wpR_mono (fun y w h => Sv.less hl.fz h) f' (fun _ h => h) ?_⟩
                    have hH1 : HbOk G w0 ρ' st' w' a'' ops fl (Nat.lor mA (2 ^ i)) dm := by
                      rcases hH with ⟨e3, e4⟩ | ⟨e3, B, H⟩
                      · exact .inl ⟨by rw [lor_bit, pow_bit, e3, decide_eq_false hmk]; rfl, e4⟩
                      · exact .inr ⟨by rw [lor_bit, e3]; rfl, B, Hid.step hfl hpin H hmR ho hmiM hmk hag hsz⟩
                    exact sxAnyM_ok hty hg hd hsel hQ0 hcall hm0 hbf hfl n (hps.drop i) (hk.set hfl ho hii) (hMA.set i) (hpin.more _) (hdn.set hi) (hDO.dead hbf hdn hi (hk.lt ho)) hun (Env.le_trans hle hl) hmU ht' hdf' hS' hH1 hd' (fun ρ'' st'' w'' tm'' a'' hl' hm'' ht'' hdf'' hsz' => hK _ _ _ _ _ (Env.le_trans hl hl') hm'' ht'' hdf'' ((hsz'.trans hsz).trans has)) (fun ρ'' st'' w'' v tm'' a'' hl' hm'' ht'' hdf'' hsz' => hKP _ _ _ _ _ _ (Env.le_trans hl hl') hm'' ht'' hdf'' ((hsz'.trans hsz).trans has)))
                  (fun ρ' st' w' v tm' a' hl hmR ht' hdf' hsz hv hw hd' => hKP _ _ _ _ _ _ hl (hm.unbase2 hmR (fun k hk => by obtain ⟨j, oj, hj, hf⟩ := hk; exact (hm.own j oj k hj hf).1)) ht' hdf' (hsz.trans has) hv hw hd')
                unfold wpOp
                simp only [ho]
                split
                · rename_i hw; rw [if_pos hw] at h2; exact .inl (Oper.wp_agr h2)
                · rename_i hw; rw [if_neg hw] at h2; exact h2 (agr_put rfl)
            ·
              have hir : roOf ops o i ∈ filtIns true (rosOf ops) := filtIns_mem.2 ⟨hro, hii⟩
              rw [getD_tf (hk.lt ho), ← hk.bit, Bool.or_eq_false_iff] at h0
              have hpmA : ∀ j, Nat.testBit (roOf ops o i).pre j = true → Nat.testBit mA j = true := fun j hj => by
                obtain ⟨e, he, hbd, rfl⟩ := preM_bit.1 hj
                have h1 := hpre e (by simpa using he) hbd
                rw [← hk.bit] at h1
                have h2 := pre_bits hfl hir hj
                cases h3 : Nat.testBit dm e.on
                · rw [h3, Bool.or_false] at h1; exact h1
                · rw [hk.sub _ h3] at h2; cases h2
              have hpm : ∀ j, Nat.testBit (roOf ops o i).pre j = true → Nat.testBit m j = true := fun j hj => by rw [hMA.bit, hpmA j hj]; rfl
              obtain ⟨kt, et, htd, hes⟩ := hfl.kt
              obtain ⟨hes1, hes2⟩ := insEs_map hes
              obtain ⟨kx, q1, q2, q3, q4, q5, q6⟩ := insE_spec (hes2 _ hir)
              have q1 : o.op = .insert fl.t (.tmp fl.m) (.const kx) (insF C.ty fl.t kt fl.m (roOf ops o i)).2 := q1
              have q2 : o.guard = none := q2
              have q3 : o.dst = none := q3
              rcases hH with ⟨e3, _⟩ | ⟨hmd, B, H⟩
              · have := hpmA _ (stableL_spec hfl.st _ hir).1
                rw [e3] at this; cases this
              · have hAm := (hMA.done hmd).symm
                subst hAm
                obtain ⟨arr, clk, o1, o2⟩ := H.obj
                obtain ⟨_, d1, _, _, _, hu1, _, hm1, _⟩ := tdOf_info hty htd (by simp)
                cases mkTD_map hm1
                obtain ⟨kd, hku, hkd⟩ := tdKey hty rfl q6
                have hkx : ∀ {r : Ro}, r ∈ filtIns true (rosOf ops) → ∃ kx' v, r.o.op = .insert fl.t (.tmp fl.m) (.const kx') v ∧ (∀ ρ : Env, kx' = (insF C.ty fl.t kt fl.m r).1.den ρ) ∧ keyLit (insF C.ty fl.t kt fl.m r).1 = true ∧ keyKind (tdOf C.ty kt) (insF C.ty fl.t kt fl.m r).1 = true ∧ v = (insF C.ty fl.t kt fl.m r).2 := fun hr => by
                  obtain ⟨kx', p1, _, _, p4, p5, p6⟩ := insE_spec (hes2 _ hr)
                  exact ⟨kx', _, p1, fun ρ => (ofVal1_spec p4 ρ 0 0).1.symm, p5, p6, rfl⟩
                have hpw : (filtIns true (rosOf ops)).Pairwise fun r r' => KNe (insF C.ty fl.t kt fl.m r) (insF C.ty fl.t kt fl.m r') ∧ KNe (insF C.ty fl.t kt fl.m r') (insF C.ty fl.t kt fl.m r) := by
                  have := keysNeB_spec hfl.keys
                  rw [hes1] at this
                  exact List.pairwise_map.1 this
                have hkd0 := (ofVal1_spec q4 ρ 0 0).1
                have hck := run_checkKey (C := C) q6 hkd hku false ρ w
                rw [hkd0] at hck
                have hfn : Instr.findNow kd kx arr.toList 0 = some none := findNow_none fun x hx => by
                  have := o2.mem_iff.1 (List.mem_map.2 ⟨x, hx, rfl⟩)
                  obtain ⟨r', hr', he⟩ := List.mem_map.1 this
                  obtain ⟨hr1, hr2⟩ := List.mem_filter.1 hr'
                  obtain ⟨kx', v', p1, p2, p3, p4, _⟩ := hkx hr1
                  have hne : roOf ops o i ≠ r' := fun e => by
                    rw [← e] at hr2
                    rw [show (roOf ops o i).i = i from rfl] at hr2
                    rw [h0.2] at hr2; cases hr2
                  have hkn := (pair_mem (fun _ _ h => ⟨h.2, h.1⟩) hpw hir hr1 hne).1
                  have hs := keyEq_ok hkn q6 hkd ρ
                  rw [hkd0, ← p2 ρ] at hs
                  have : x.key = kx' := by
                    have := congrArg Prod.fst he
                    simp only [kvE, kvO, p1, Act.eval] at this
                    exact this.symm
                  rw [this]; exact hs
                have hfk := run_findKey (C := C) hku hfn w
                have hget : (getObj (B)).run C.P w = .ok (.map arr clk) w := by simp [getObj, Sem.run, o1]
                have hrun : (execOp a'.eval o).run C.P w = .ok .skip { w with heap := w.heap.setIfInBounds (B) (.map (arr.push ⟨kx, a'.eval (insF C.ty fl.t kt fl.m (roOf ops o i)).2, clk⟩) (clk + 1)) } := by
                  have hset : (setObj (B) (.map (arr.push ⟨kx, a'.eval (insF C.ty fl.t kt fl.m (roOf ops o i)).2, clk⟩) (clk + 1))).run C.P w = .ok () { w with heap := w.heap.setIfInBounds (B) (.map (arr.push ⟨kx, a'.eval (insF C.ty fl.t kt fl.m (roOf ops o i)).2, clk⟩) (clk + 1)) } := by simp [setObj, Sem.run, o1]
                  have e1 : a'.eval (.tmp fl.m) = .map (some (B)) := H.tmp
                  have e2 : a'.eval (.const kx) = kx := rfl
                  unfold execOp
                  simp only [q1, e1, e2, Instr.mapUpdate, Sem.run_bind, run_underlying hu1, Result.andThen_ok, hget, hck, hfk, hset, Sem.run_pure]
                have hm1 := hm.hid H.nf H.nz H.og (.map (arr.push ⟨kx, a'.eval (insF C.ty fl.t kt fl.m (roOf ops o i)).2, clk⟩) (clk + 1))
                have hS1 := Rl.step hm0 hle hm1 hh
                have hperm : ((arr.push ⟨kx, a'.eval (insF C.ty fl.t kt fl.m (roOf ops o i)).2, clk⟩).toList.map kvE).Perm ((inD ops (Nat.lor dm (2 ^ i))).map fun r => kvO a' r.o) := by
                  have h1 : (arr.push ⟨kx, a'.eval (insF C.ty fl.t kt fl.m (roOf ops o i)).2, clk⟩).toList.map kvE = arr.toList.map kvE ++ [kvO a' o] := by
                    simp only [Array.toList_push, List.map_append, List.map_cons, List.map_nil, kvE, kvO, q1]
                    rfl
                  rw [h1]
                  have h2 := (filt_ins (dm := dm) ((rosOf_nd ops).sublist (filtIns_sub.map _)) hir h0.2).map fun r => kvO a' r.o
                  refine List.Perm.trans ?_ h2.symm
                  simp only [List.map_cons]
                  exact List.perm_append_comm.trans (List.Perm.cons _ o2)
                have hin1 : PIn ops m (Nat.lor dm (2 ^ i)) := fun r hr j hj => by
                  obtain ⟨hr1, hr2⟩ := List.mem_filter.1 hr
                  rw [lor_bit, pow_bit, Bool.or_eq_true, decide_eq_true_eq] at hr2
                  rcases hr2 with hr2 | hr2
                  · exact hpin r (List.mem_filter.2 ⟨hr1, hr2⟩) j hj
                  · obtain ⟨i', o', ho', rfl⟩ := rosOf_mem (filtIns_mem.1 hr1).1
                    have : i = i' := hr2
                    subst this
                    rw [ho] at ho'; cases ho'
                    exact hpm j hj
                unfold wpOp
                simp only [ho]
                rw [if_pos (by simp [Region.wanted, q2])]
                refine .inl (wp_skip hrun ?_)
                rw [q3]
                have hup : ∀ y, Nat.testBit D y = true → Nat.testBit (Nat.lor (Nat.lor D (bfOf bf i)) (2 ^ i)) y = true := fun y h => by rw [lor_bit, lor_bit, h]; rfl
                refine ⟨fun y hy => hS1 y (lor_no (lor_no hy).1).1, wpR_mono (fun _ _ h => h) f' hup ?_⟩
                show wpR C.P ops QE (bfOf bf) (Rl C.ty ρ0 st0.mem hs ρ.fz) f' (listed.setIfInBounds i true) D a' _
                by_cases hfull : Nat.lor dm (2 ^ i) = fl.bits
                ·
                  have hpf : Nat.beq (Nat.land fl.pre m) fl.pre = true := by
                    rw [eq_land fun j hj => ?_]
                    · exact Nat.beq_refl _
                    · rw [hfl.pre] at hj
                      obtain ⟨r, hr, hj⟩ := preRo_bit.1 hj
                      refine hin1 r (List.mem_filter.2 ⟨hr, ?_⟩) j hj
                      rw [hfull, hfl.bits]
                      exact bitsRo_bit.2 ⟨r, hr, rfl⟩
                  have hx := hall _ (List.mem_append_left _ (by rw [hpf]; exact List.mem_singleton.2 rfl))
                  obtain ⟨g1, g2⟩ := newB_ok hm1 hx B (.pointer none) rfl fun hw => ⟨trivial, trivial, fun k hk => hk.elim⟩
                  have hbv := push_b (C := C) hm1 B (.pointer none)
                  have htN := hm1.tmok g1 push_le ht
                  obtain ⟨tm', q7, q8⟩ := putT_ok htN g2 (v := .map st.nb) trivial (x := .map (some B)) (by simp only [SV.den, hbv])
                  rw [put_sameM H.tmp H.tsz] at q7
                  generalize hρN : ({ ρ with bs := ρ.bs ++ [(B, .pointer none)] } : Env) = ρN at g1 q7 q8 hbv
                  have hlN : ρ.le ρN := by rw [← hρN]; exact push_le
                  have hfzN : ρN.fz = ρ.fz := by rw [← hρN]
                  have nfN : ¬ feet ρN (st.mem.put st.nb .gone) B := by
                    rintro ⟨j, oj, hj, hf⟩
                    rcases Tb.get_put hj with ⟨rfl, rfl⟩ | ⟨hne, hj'⟩
                    · exact hf.elim
                    · rw [foot_app hlN (by rw [hm.hnb]; exact (hm.mem j oj hj').1) oj (by rw [hm.hni, hm.hnb]; exact (hm.mem j oj hj').2.1) (hm.mem j oj hj').2.2.1] at hf
                      exact H.nf ⟨j, oj, hj', hf⟩
                  simp only at q8
                  split at q8
                  · exact q8.elim
                  · rename_i es hfe
                    cases hh2 : heldU st0.mem ((st.mem.put st.nb .gone).put st.nb (.mset es)) D hs <;> rw [hh2] at q8 <;> simp only [cond_true, cond_false] at q8
                    · exact q8.elim
                    obtain ⟨w1, w2, w3⟩ := fillEs_ok q7 g1.hpc (fun e he => by
                      rw [hes1] at he
                      obtain ⟨r, hr, rfl⟩ := List.mem_map.1 he
                      obtain ⟨kx', _, _, _, p4, _⟩ := insE_spec (hes2 _ hr)
                      exact ⟨kx', p4⟩) hfe
                    have hall2 : inD ops (Nat.lor dm (2 ^ i)) = filtIns true (rosOf ops) := by
                      unfold inD
                      rw [List.filter_eq_self]
                      intro r hr
                      rw [hfull, hfl.bits]
                      exact bitsRo_bit.2 ⟨r, hr, rfl⟩
                    have hkv : (esDen ρN es).map kvE = (filtIns true (rosOf ops)).map fun r => kvO a' r.o := by
                      rw [w3, hes1, List.map_map]
                      refine List.map_congr_left fun r hr => ?_
                      obtain ⟨kx', v', p1, p2, _, _, p5⟩ := hkx hr
                      simp only [Function.comp, kvO, p1, p5]
                      rw [← p2 ρN]; rfl
                    have hkne : keysNe (esDen ρN es) := by
                      have h1 : ((esDen ρN es).map kvE).Pairwise fun x y => x.1 ≠ y.1 := by
                        rw [hkv]
                        refine List.pairwise_map.2 (hpw.imp_of_mem fun {r r'} hr hr' hkk => ?_)
                        obtain ⟨kx1, v1, p1, p2, p3, p4, _⟩ := hkx hr
                        obtain ⟨kx2, v2, s1, s2, s3, s4, _⟩ := hkx hr'
                        simp only [kvO, p1, s1, Act.eval]
                        intro he
                        have g1 := keyEq_ok hkk.1 p4 hkd ρN
                        have g2 := keyEq_ok (keyLit_refl p3) p4 hkd ρN
                        rw [← s2 ρN, ← he, p2 ρN] at g1
                        rw [g2] at g1
                        cases g1
                      exact (List.pairwise_map (f := kvE) (R := fun x y => x.1 ≠ y.1)).1 h1
                    obtain ⟨ρ2, l1, l2, hm2⟩ := g1.fill (b := st.nb) (B := B) (x := .map (arr.push ⟨kx, a'.eval (insF C.ty fl.t kt fl.m (roOf ops o i)).2, clk⟩) (clk + 1)) (es := es) hbv (Nat.lt_succ_self _) nfN (by rw [hfzN]; exact H.nz) H.og (by simp [H.lt]) w1 (fun ρ' i1 i2 i3 i4 => by
                      have hb2 : ρ'.b st.nb = B := by simp only [Env.b, i2]; exact hbv
                      have hd2 : esDen ρ' es = esDen ρN es := esDen_app i3 (by rw [g1.hni, g1.hnb]; exact w1)
                      simp only [GhOk]
                      rw [hb2, hd2]
                      refine ⟨⟨_, _, i4, ?_⟩, hkne, esTyd_app i3 (by rw [g1.hni, g1.hnb]; exact w1) w2⟩
                      rw [hkv, ← hall2]
                      exact hperm)
                    have hS2 := Rl.step hm0 (Env.le_trans hle (Env.le_trans hlN l1)) hm2 hh2
                    refine wpR_mono (fun y w h => Sv.less (Env.le_trans hlN l1).fz h) f' (fun _ h => h) ?_
                    rw [← l2] at q8
                    exact sxAny_ok hty hg hd hsel hQ0 hcall hm0 hbf (LzOk.zero ops) n (hps.full hfl) (MkL.of (hk.full ho hfull)) (hdn.set hi) hDO.mark hun (Env.le_trans hle (Env.le_trans hlN l1)) hm2 (g1.tmok hm2 l1 q7) (g1.dfok hm2 l1 (hm1.dfok g1 hlN hdf)) hS2 HZ.zero q8 (fun ρ' st' w' tm' a' hl hm'' ht'' hdf'' hsz => hK ρ' st' w' tm' a' (Env.le_trans (Env.le_trans hlN l1) hl) hm'' ht'' hdf'' (hsz.trans has)) (fun ρ' st' w' v tm' a' hl hm'' ht'' hdf'' hsz => hKP ρ' st' w' v tm' a' (Env.le_trans (Env.le_trans hlN l1) hl) hm'' ht'' hdf'' (hsz.trans has))
                · refine ih (hk.ins hfl ho hii hfull) hMA hin1 (hdn.set hi) hDO.mark hun hm1 ht hdf has hS1 ?_
                  exact .inr ⟨hmd, B, by simpa using H.lt, H.nf, H.nz, H.og, H.tmp, H.tsz, _, clk + 1, by simp [H.lt], hperm⟩
      exact inner fuel hk hMA hpin hdn hDO hf hm ht hdf rfl hS hH
end
end Go.SY
