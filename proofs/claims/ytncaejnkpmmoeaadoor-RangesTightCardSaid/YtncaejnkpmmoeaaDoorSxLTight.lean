/- Proved: the law cupellaw04.RangesTight returns true for every operator, kind, two ranges and greater ones, and leaves its arguments as they were (the tied card of its row).
   Conditions: the package variables ranges.full and ranges.none hold what the program's text lays (the card ties them); the law and what it calls are executed by the symbolic executor SX of these texts, whose soundness is proved in them. -/
import Derived.Test.YtncaejnkpmmoeaaDoorSxD1
import Derived.Test.YtncaejnkpmmoeaaDoorSxD4
import Derived.Test.YtncaejnkpmmoeaaDoorSxB4
import Derived.Test.YtncaejnkpmmoeaaDoorSxRS
import Derived.Test.YtncaejnkpmmoeaaDoorSxU6
set_option linter.unusedVariables false
set_option linter.unusedSimpArgs false
namespace Go.SXR
open Go Go.SX Go.Proofs Go.RowKit Go.ChangeShapes Go.WideShapes Go.Joins Go.Deep Go.Proofs.YtncaejnkpmmoeaaDoor Go.ChangeAt

/-! ### The loops over all pairs -/
def CB (m : Nat) : B := (.or (.or (.or (.not (.and (.and (.and (.and (.and (.cmp .lt (.v (m + 0)) (.n 12)) (.cmp .lt (.v (m + 1)) (.n 12))) (.cmp .lt (.n (-1000)) (.v 2))) (.cmp .lt (.v 3) (.n 1000))) (.cmp .lt (.n (-1000)) (.v 4))) (.cmp .lt (.v 5) (.n 1000)))) (.not (.or (.or (.or (.or (.or (.or (.cmp .eq (.v 0) (.n 4)) (.cmp .eq (.v 0) (.n 5))) (.cmp .eq (.v 0) (.n 1))) (.cmp .eq (.v 0) (.n 2))) (.cmp .eq (.v 0) (.n 6))) (.cmp .eq (.v 0) (.n 7))) (.not (.cmp .lt (.v 0) (.n 11)))))) (.cmp .eq (.v 1) (.n 2))) (.and (.cmp .eq (.v 0) (.n 6)) (.cmp .lt (.n 40) (.v 5))))
def IB (m : Nat) : T := (.br (.not (.cmp .lt (.v 5) (.v (m + 8)))) (.call 16 [(.v 0), (.v 1), (.v (m + 3)), (.v (m + 8))] 3 (.br (.or (.not (.cmp .eq (.v (m + 12)) (.n 0))) (.not (.cmp .eq (.v (m + 13)) (.n 0)))) (.lt (.add .i64 (.v (m + 8)) (.n 1)) (.lt (.sel (.not (.cmp .eq (.v (m + 7)) (.n 0))) (.n 1) (.n 0)) (.again 2 [(.v (m + 15)), (.v (m + 14)), (.v (m + 9)), (.v (m + 10))]))) (.br (.cmp .eq (.v (m + 7)) (.n 0)) (.lt (.mn (.v (m + 11)) (.v (m + 11))) (.lt (.mx (.v (m + 11)) (.v (m + 11))) (.lt (.add .i64 (.v (m + 8)) (.n 1)) (.again 2 [(.n 1), (.v (m + 16)), (.v (m + 14)), (.v (m + 15))])))) (.lt (.mn (.v (m + 9)) (.v (m + 11))) (.lt (.mx (.v (m + 10)) (.v (m + 11))) (.lt (.add .i64 (.v (m + 8)) (.n 1)) (.again 2 [(.n 1), (.v (m + 16)), (.v (m + 14)), (.v (m + 15))]))))))) (.out 2 (.lt (.add .i64 (.v (m + 3)) (.n 1)) (.lt (.sel (.not (.cmp .eq (.v (m + 7)) (.n 0))) (.n 1) (.n 0)) (.again 1 [(.v (m + 12)), (.v (m + 11)), (.v (m + 9)), (.v (m + 10))])))))
def OB (m : Nat) : T := (.br (.not (.cmp .lt (.v 3) (.v (m + 3)))) (.lt (.sel (.not (.cmp .eq (.v (m + 2)) (.n 0))) (.n 1) (.n 0)) (.loop 2 [(.v (m + 6)), (.v 4), (.v (m + 4)), (.v (m + 5))] (IB m))) (.out 1 (.lt (.sel (.and (.or (.and (.not (.cmp .eq (.v (m + 2)) (.n 0))) (.not (.cmp .eq (.v 13) (.n 0)))) (.and (.cmp .eq (.v (m + 2)) (.n 0)) (.cmp .eq (.v 13) (.n 0)))) (.and (.cmp .eq (.v (m + 4)) (.v 11)) (.cmp .eq (.v (m + 5)) (.v 12)))) (.n 1) (.n 0)) (.ret [(.v (m + 6))]))))
def TB (m : Nat) : T := (.lt (.sub .i64 (.v 3) (.v 2)) (.lt (.sub .i64 (.v 5) (.v 4)) (.br (CB m) (.ret [(.n 1)]) (.loop 1 [(.n 0), (.v 2), (.n 0), (.n 0)] (OB m)))))
theorem gr {e : List Int} {m n j : Nat} (h : e.length = m + n) (z : List Int) : (e ++ z).getD (m + (n + j)) 0 = z.getD j 0 := by
  rw [List.getD_eq_getElem?_getD, List.getD_eq_getElem?_getD, List.getElem?_append_right (by omega), show m + (n + j) - e.length = j by omega]
theorem gl {e : List Int} {i : Nat} (h : i < e.length) (z : List Int) : (e ++ z).getD i 0 = e.getD i 0 := by
  rw [List.getD_eq_getElem?_getD, List.getD_eq_getElem?_getD, List.getElem?_append_left h]
/-- Pairs before one. -/
def PB (v w v' w' : Int) : Prop := v' < v ∨ (v' = v ∧ w' < w)
def Inv (op k a b c d v w s L H : Int) : Prop := (s = 0 ∧ L = 0 ∧ H = 0 ∧ ∀ v' w', PB v w v' w' → ¬ ResS op k a b c d v' w') ∨ (s = 1 ∧ Ext (doneV op k) (fun v' w' => PB v w v' w' ∧ ResS op k a b c d v' w') L H)
theorem Inv.bit {op k a b c d v w s L H : Int} (h : Inv op k a b c d v w s L H) : s = 0 ∨ s = 1 := h.elim (fun q => .inl q.1) (fun q => .inr q.1)
theorem PB_next {v w v' w' : Int} : PB v (w + 1) v' w' ↔ PB v w v' w' ∨ (v' = v ∧ w' = w) := by unfold PB; omega
theorem Inv.skip {op k a b c d v w s L H : Int} (h : Inv op k a b c d v w s L H) (hn : ¬ ResS op k a b c d v w) : Inv op k a b c d v (w + 1) s L H := by
  rcases h with ⟨rfl, rfl, rfl, h⟩ | ⟨rfl, h⟩
  · refine .inl ⟨rfl, rfl, rfl, fun v' w' hp hr => ?_⟩
    rcases PB_next.1 hp with hp | ⟨rfl, rfl⟩
    · exact h v' w' hp hr
    · exact hn hr
  · refine .inr ⟨rfl, h.congr fun v' w' => ?_⟩
    rw [PB_next]
    constructor
    · rintro ⟨hp | ⟨rfl, rfl⟩, hr⟩
      · exact ⟨hp, hr⟩
      · exact absurd hr hn
    · rintro ⟨hp, hr⟩; exact ⟨.inl hp, hr⟩
theorem ext_one {f : Int → Int → Int} {v w : Int} : Ext f (fun v' w' => v' = v ∧ w' = w) (f v w) (f v w) :=
  ⟨fun v' w' h => by rw [h.1, h.2]; exact ⟨Int.le_refl _, Int.le_refl _⟩, ⟨v, w, ⟨rfl, rfl⟩, rfl⟩, ⟨v, w, ⟨rfl, rfl⟩, rfl⟩⟩
theorem Inv.first {op k a b c d v w L H : Int} (h : Inv op k a b c d v w 0 L H) (hr : ResS op k a b c d v w) : Inv op k a b c d v (w + 1) 1 (doneV op k v w) (doneV op k v w) := by
  rcases h with ⟨_, rfl, rfl, h⟩ | ⟨h, _⟩
  · refine .inr ⟨rfl, (ext_one (f := doneV op k) (v := v) (w := w)).congr fun v' w' => ?_⟩
    rw [PB_next]
    constructor
    · rintro ⟨hp | hp, hr'⟩
      · exact absurd hr' (h v' w' hp)
      · exact hp
    · rintro ⟨rfl, rfl⟩; exact ⟨.inr ⟨rfl, rfl⟩, hr⟩
  · cases h
theorem Inv.next {op k a b c d v w L H : Int} (h : Inv op k a b c d v w 1 L H) (hr : ResS op k a b c d v w) : Inv op k a b c d v (w + 1) 1 (min L (doneV op k v w)) (max H (doneV op k v w)) := by
  rcases h with ⟨h, _⟩ | ⟨_, h⟩
  · cases h
  · refine .inr ⟨rfl, h.union (ext_one (f := doneV op k) (v := v) (w := w)) fun v' w' => ?_⟩
    rw [PB_next]
    constructor
    · rintro ⟨hp | hp, hr'⟩
      · exact .inl ⟨hp, hr'⟩
      · exact .inr hp
    · rintro (⟨hp, hr'⟩ | ⟨rfl, rfl⟩)
      · exact ⟨.inl hp, hr'⟩
      · exact ⟨.inr ⟨rfl, rfl⟩, hr⟩
theorem Inv.row {op k a b c d v s L H : Int} (h : Inv op k a b c d v (d + 1) s L H) : Inv op k a b c d (v + 1) c s L H := by
  have e : ∀ v' w', (PB (v + 1) c v' w' ∧ ResS op k a b c d v' w') ↔ (PB v (d + 1) v' w' ∧ ResS op k a b c d v' w') := by
    intro v' w'
    constructor <;> rintro ⟨hp, hr⟩ <;> refine ⟨?_, hr⟩ <;> have := hr.1 <;> unfold Box at this <;> unfold PB at * <;> omega
  rcases h with ⟨rfl, rfl, rfl, h⟩ | ⟨rfl, h⟩
  · exact .inl ⟨rfl, rfl, rfl, fun v' w' hp hr => h v' w' ((e v' w').1 ⟨hp, hr⟩).1 hr⟩
  · exact .inr ⟨rfl, h.congr e⟩
theorem Inv.start {op k a b c d : Int} : Inv op k a b c d a c 0 0 0 :=
  .inl ⟨rfl, rfl, rfl, fun v' w' hp hr => by have := hr.1; unfold Box at this; unfold PB at hp; omega⟩
theorem Inv.done {op k a b c d s L H L' H' s' : Int} (h : Inv op k a b c d (b + 1) c s L H) (hs' : s' = 0 ∨ s' = 1) (hl : Least op k a b c d L' H' s') : s = s' ∧ L = L' ∧ H = H' := by
  have e : ∀ v' w', (PB (b + 1) c v' w' ∧ ResS op k a b c d v' w') ↔ ResS op k a b c d v' w' := by
    intro v' w'
    constructor
    · exact fun q => q.2
    · intro hr
      refine ⟨?_, hr⟩
      have := hr.1; unfold Box at this; unfold PB; omega
  rcases h with ⟨rfl, rfl, rfl, h⟩ | ⟨rfl, h⟩
  · rcases hs' with rfl | rfl
    · have := (hl.2 rfl).1; exact ⟨rfl, this.1.symm, this.2.symm⟩
    · obtain ⟨v, w, hr, _⟩ := (hl.1 rfl).low
      exact absurd hr (h v w ((e v w).2 hr).1)
  · have h' : Ext (doneV op k) (ResS op k a b c d) L H := h.congr fun v' w' => (e v' w').symm
    rcases hs' with rfl | rfl
    · obtain ⟨v, w, hr, _⟩ := h'.low
      exact absurd hr ((hl.2 rfl).2 v w)
    · have := h'.uniq (hl.1 rfl)
      exact ⟨rfl, this⟩
section
variable {F : Nat → List Int → Option (List Int)} {K m : Nat} {op k a b c d : Int}
theorem inner_ok (g16 : F 16 = doneS) (h4 : in4 a b c d) (hok : okB op k a b c d) {e : List Int} {v : Int} (hl : e.length = m + 7) (e0 : ∀ z, (e ++ z).getD 0 0 = op) (e1 : ∀ z, (e ++ z).getD 1 0 = k) (e5 : ∀ z, (e ++ z).getD 5 0 = d) (ev : ∀ z, (e ++ z).getD (m + 3) 0 = v)
    (hv : a ≤ v ∧ v ≤ b) (hs1 : -1000 < v ∧ v < 1000) (hs2 : -1000 < c ∧ d < 1000) :
    ∀ (j N : Nat) (w s L H : Int), w + j = d + 1 → c ≤ w → j + 1 ≤ N → Inv op k a b c d v w s L H → ∃ s' L' H', iter N (fun z => (IB m).den F K (e ++ z)) 2 [s, w, L, H] = some (1, [s', v + 1, L', H']) ∧ Inv op k a b c d v (d + 1) s' L' H' := by
  have r7 : ∀ z, (e ++ z).getD (m + 7) 0 = z.getD 0 0 := fun z => gr (n := 7) (j := 0) hl z
  have r8 : ∀ z, (e ++ z).getD (m + 8) 0 = z.getD 1 0 := fun z => gr (n := 7) (j := 1) hl z
  have r9 : ∀ z, (e ++ z).getD (m + 9) 0 = z.getD 2 0 := fun z => gr (n := 7) (j := 2) hl z
  have r10 : ∀ z, (e ++ z).getD (m + 10) 0 = z.getD 3 0 := fun z => gr (n := 7) (j := 3) hl z
  have r11 : ∀ z, (e ++ z).getD (m + 11) 0 = z.getD 4 0 := fun z => gr (n := 7) (j := 4) hl z
  have r12 : ∀ z, (e ++ z).getD (m + 12) 0 = z.getD 5 0 := fun z => gr (n := 7) (j := 5) hl z
  have r13 : ∀ z, (e ++ z).getD (m + 13) 0 = z.getD 6 0 := fun z => gr (n := 7) (j := 6) hl z
  have r14 : ∀ z, (e ++ z).getD (m + 14) 0 = z.getD 7 0 := fun z => gr (n := 7) (j := 7) hl z
  have r15 : ∀ z, (e ++ z).getD (m + 15) 0 = z.getD 8 0 := fun z => gr (n := 7) (j := 8) hl z
  have r16 : ∀ z, (e ++ z).getD (m + 16) 0 = z.getD 9 0 := fun z => gr (n := 7) (j := 9) hl z
  have bs : ∀ s : Int, (s = 0 ∨ s = 1) → (if ¬ s = 0 then (1 : Int) else 0) = s := by rintro s (rfl | rfl) <;> rfl
  intro j
  induction j with
  | zero =>
    intro N w s L H hj hc hN hI
    obtain ⟨N', rfl⟩ : ∃ N', N = N' + 1 := ⟨N - 1, by omega⟩
    have hw : w = d + 1 := by omega
    subst hw
    have w1 : w64 (v + 1) = v + 1 := w64_id (by unfold inI; omega)
    have b1 := bs s hI.bit
    refine ⟨s, L, H, iter_stop (e := 1) ?_ (by decide), hI⟩
    have hlt : d < d + 1 := by omega
    simp only [IB, T.den, B.den, A.den, E.den, Cm.den, List.map, List.getD_cons_zero, List.getD_cons_succ, List.cons_append, List.nil_append, Bool.or_eq_true, Bool.and_eq_true, Bool.not_eq_true', decide_eq_true_eq, decide_eq_false_iff_not, beq_iff_eq, beq_eq_false_iff_ne, ne_eq, List.append_assoc, e5, ev, r7, r8, r9, r10, r11, r12, hlt, not_true_eq_false, if_false, wrap64, w1, b1]
    rfl
  | succ j ih =>
    intro N w s L H hj hc hN hI
    obtain ⟨N', rfl⟩ : ∃ N', N = N' + 1 := ⟨N - 1, by omega⟩
    have hwd : w ≤ d := by omega
    have hb : Box a b c d v w := ⟨hv, hc, hwd⟩
    have hin : inI v ∧ inI w := by
      obtain ⟨ha, hb', hc', hd⟩ := h4
      unfold inI at *
      omega
    have f16 : F 16 [op, k, v, w] = some (doneR op k v w) := by rw [g16]; exact if_pos ⟨hin.1, hin.2, hok.1⟩
    have w1 : w64 (w + 1) = w + 1 := w64_id (by unfold inI; omega)
    have hlt : ¬ d < w := by omega
    have b1 := bs s hI.bit
    by_cases hr : ¬ trapD op w ∧ ¬ undD op k v w
    · have hR : ResS op k a b c d v w := ⟨hb, hr.1, hr.2⟩
      have f : F 16 [op, k, v, w] = some [doneV op k v w, 0, 0] := by
        rw [f16]; unfold doneR; rw [if_neg hr.1, if_neg hr.2]
      generalize hn : doneV op k v w = n at f
      rcases hI.bit with rfl | rfl
      · have hI' := hI.first hR
        rw [hn] at hI'
        obtain ⟨s', L', H', q1, q2⟩ := ih N' (w + 1) 1 n n (by omega) (by omega) (by omega) hI'
        refine ⟨s', L', H', (iter_again (s' := [1, w + 1, n, n]) ?_).trans q1, q2⟩
        simp only [IB, T.den, B.den, A.den, E.den, Cm.den, List.map, List.getD_cons_zero, List.getD_cons_succ, List.cons_append, List.nil_append, Bool.or_eq_true, Bool.and_eq_true, Bool.not_eq_true', decide_eq_true_eq, decide_eq_false_iff_not, beq_iff_eq, beq_eq_false_iff_ne, ne_eq, List.append_assoc, e0, e1, e5, ev, r7, r8, r9, r10, r11, r12, r13, r14, r15, r16, hlt, f, wrap64, w1, mn_eq, mx_eq, min_self', max_self', List.length_cons, List.length_nil, Nat.zero_add, Nat.reduceAdd, if_true, if_false, not_true_eq_false, not_false_eq_true, or_self]
        try rfl
      · have hI' := hI.next hR
        rw [hn] at hI'
        obtain ⟨s', L', H', q1, q2⟩ := ih N' (w + 1) 1 (min L n) (max H n) (by omega) (by omega) (by omega) hI'
        refine ⟨s', L', H', (iter_again (s' := [1, w + 1, min L n, max H n]) ?_).trans q1, q2⟩
        simp only [IB, T.den, B.den, A.den, E.den, Cm.den, List.map, List.getD_cons_zero, List.getD_cons_succ, List.cons_append, List.nil_append, Bool.or_eq_true, Bool.and_eq_true, Bool.not_eq_true', decide_eq_true_eq, decide_eq_false_iff_not, beq_iff_eq, beq_eq_false_iff_ne, ne_eq, List.append_assoc, e0, e1, e5, ev, r7, r8, r9, r10, r11, r12, r13, r14, r15, r16, hlt, f, wrap64, w1, mn_eq, mx_eq, min_self', max_self', List.length_cons, List.length_nil, Nat.zero_add, Nat.reduceAdd, if_true, if_false, not_true_eq_false, not_false_eq_true, or_self, show ¬ (1 : Int) = 0 from by decide]
        try rfl
    · have hR : ¬ ResS op k a b c d v w := fun q => hr q.2
      obtain ⟨n, T', U', f, hTU⟩ : ∃ n T' U', F 16 [op, k, v, w] = some [n, T', U'] ∧ (¬ T' = 0 ∨ ¬ U' = 0) := by
        refine ⟨_, _, _, f16, ?_⟩
        by_cases q : trapD op w
        · left; rw [if_pos q]; decide
        · by_cases q2 : undD op k v w
          · right; rw [if_pos q2]; decide
          · exact absurd ⟨q, q2⟩ hr
      have hTU' : (¬ T' = 0 ∨ ¬ U' = 0) = True := eq_true hTU
      obtain ⟨s', L', H', q1, q2⟩ := ih N' (w + 1) s L H (by omega) (by omega) (by omega) (hI.skip hR)
      refine ⟨s', L', H', (iter_again (s' := [s, w + 1, L, H]) ?_).trans q1, q2⟩
      simp only [IB, T.den, B.den, A.den, E.den, Cm.den, List.map, List.getD_cons_zero, List.getD_cons_succ, List.cons_append, List.nil_append, Bool.or_eq_true, Bool.and_eq_true, Bool.not_eq_true', decide_eq_true_eq, decide_eq_false_iff_not, beq_iff_eq, beq_eq_false_iff_ne, ne_eq, List.append_assoc, e0, e1, e5, ev, r7, r8, r9, r10, r11, r12, r13, r14, r15, r16, hlt, f, wrap64, w1, hTU', b1, List.length_cons, List.length_nil, Nat.zero_add, Nat.reduceAdd, if_true, if_false, not_true_eq_false, not_false_eq_true]
theorem outer_ok (g16 : F 16 = doneS) (h4 : in4 a b c d) (hok : okB op k a b c d) {e : List Int} {L0 H0 s0 : Int} (hl : e.length = m + 2) (hm : 14 ≤ m) (e0 : ∀ z, (e ++ z).getD 0 0 = op) (e1 : ∀ z, (e ++ z).getD 1 0 = k) (e3 : ∀ z, (e ++ z).getD 3 0 = b) (e4 : ∀ z, (e ++ z).getD 4 0 = c) (e5 : ∀ z, (e ++ z).getD 5 0 = d)
    (e11 : ∀ z, (e ++ z).getD 11 0 = L0) (e12 : ∀ z, (e ++ z).getD 12 0 = H0) (e13 : ∀ z, (e ++ z).getD 13 0 = s0) (hs0 : s0 = 0 ∨ s0 = 1) (hle : Least op k a b c d L0 H0 s0) (hs1 : -1000 < a ∧ b < 1000) (hs2 : -1000 < c ∧ d < 1000) (hcd : d - c < 12) (hcd' : c ≤ d) (hK : 14 ≤ K) :
    ∀ (j N : Nat) (v s L H : Int), v + j = b + 1 → a ≤ v → j + 1 ≤ N → Inv op k a b c d v c s L H → iter N (fun z => (OB m).den F K (e ++ z)) 1 [s, v, L, H] = some (0, [1]) := by
  have r2 : ∀ z, (e ++ z).getD (m + 2) 0 = z.getD 0 0 := fun z => gr (n := 2) (j := 0) hl z
  have r3 : ∀ z, (e ++ z).getD (m + 3) 0 = z.getD 1 0 := fun z => gr (n := 2) (j := 1) hl z
  have r4 : ∀ z, (e ++ z).getD (m + 4) 0 = z.getD 2 0 := fun z => gr (n := 2) (j := 2) hl z
  have r5 : ∀ z, (e ++ z).getD (m + 5) 0 = z.getD 3 0 := fun z => gr (n := 2) (j := 3) hl z
  have r6 : ∀ z, (e ++ z).getD (m + 6) 0 = z.getD 4 0 := fun z => gr (n := 2) (j := 4) hl z
  have bs : ∀ s : Int, (s = 0 ∨ s = 1) → (if ¬ s = 0 then (1 : Int) else 0) = s := by rintro s (rfl | rfl) <;> rfl
  intro j
  induction j with
  | zero =>
    intro N v s L H hj ha hN hI
    obtain ⟨N', rfl⟩ : ∃ N', N = N' + 1 := ⟨N - 1, by omega⟩
    have hv : v = b + 1 := by omega
    subst hv
    obtain ⟨rfl, rfl, rfl⟩ := hI.done hs0 hle
    refine iter_stop (e := 0) ?_ (by decide)
    have hlt : b < b + 1 := by omega
    rcases hs0 with rfl | rfl
    · simp only [OB, T.den, B.den, A.den, E.den, Cm.den, List.map, List.getD_cons_zero, List.getD_cons_succ, List.cons_append, List.nil_append, Bool.or_eq_true, Bool.and_eq_true, Bool.not_eq_true', decide_eq_true_eq, decide_eq_false_iff_not, beq_iff_eq, beq_eq_false_iff_ne, ne_eq, List.append_assoc, e3, e11, e12, e13, r2, r3, r4, r5, r6, hlt, not_true_eq_false, if_false, if_true, and_self, or_true, true_and, false_and, or_false, false_or]
      rfl
    · simp only [OB, T.den, B.den, A.den, E.den, Cm.den, List.map, List.getD_cons_zero, List.getD_cons_succ, List.cons_append, List.nil_append, Bool.or_eq_true, Bool.and_eq_true, Bool.not_eq_true', decide_eq_true_eq, decide_eq_false_iff_not, beq_iff_eq, beq_eq_false_iff_ne, ne_eq, List.append_assoc, e3, e11, e12, e13, r2, r3, r4, r5, r6, hlt, not_true_eq_false, if_false, if_true, and_self, or_true, true_and, false_and, or_false, false_or, show ¬ (1 : Int) = 0 from by decide, not_false_eq_true]
      rfl
  | succ j ih =>
    intro N v s L H hj ha hN hI
    obtain ⟨N', rfl⟩ : ∃ N', N = N' + 1 := ⟨N - 1, by omega⟩
    have hlt : ¬ b < v := by omega
    have b1 := bs s hI.bit
    obtain ⟨s', L', H', q1, q2⟩ := inner_ok (F := F) (K := K) (m := m) g16 h4 hok (e := e ++ [s, v, L, H, s]) (v := v) (by simp [hl]) (fun z => by rw [List.append_assoc]; exact e0 _) (fun z => by rw [List.append_assoc]; exact e1 _) (fun z => by rw [List.append_assoc]; exact e5 _) (fun z => by rw [List.append_assoc, r3]; rfl) ⟨ha, by omega⟩ ⟨by omega, by omega⟩ hs2
      (d + 1 - c).toNat K c s L H (by omega) (Int.le_refl _) (by omega) hI
    refine (iter_again (s' := [s', v + 1, L', H']) ?_).trans (ih N' (v + 1) s' L' H' (by omega) (by omega) (by omega) q2.row)
    simp only [OB, T.den, B.den, A.den, E.den, Cm.den, List.map, List.getD_cons_zero, List.getD_cons_succ, List.cons_append, List.nil_append, Bool.or_eq_true, Bool.and_eq_true, Bool.not_eq_true', decide_eq_true_eq, decide_eq_false_iff_not, beq_iff_eq, beq_eq_false_iff_ne, ne_eq, List.append_assoc, e3, e4, r2, r3, r4, r5, r6, hlt, not_false_eq_true, if_true, b1]
    simp only [List.append_assoc, List.cons_append, List.nil_append] at q1
    exact q1
theorem tail_ok (g16 : F 16 = doneS) (h4 : in4 a b c d) (hok : okB op k a b c d) {e : List Int} {L0 H0 s0 t0 u0 : Int} (hl : e.length = m) (hm : 14 ≤ m) (e0 : ∀ z, (e ++ z).getD 0 0 = op) (e1 : ∀ z, (e ++ z).getD 1 0 = k) (e2 : ∀ z, (e ++ z).getD 2 0 = a) (e3 : ∀ z, (e ++ z).getD 3 0 = b) (e4 : ∀ z, (e ++ z).getD 4 0 = c) (e5 : ∀ z, (e ++ z).getD 5 0 = d)
    (e11 : ∀ z, (e ++ z).getD 11 0 = L0) (e12 : ∀ z, (e ++ z).getD 12 0 = H0) (e13 : ∀ z, (e ++ z).getD 13 0 = s0) (heff : effS op k a b c d = [L0, H0, s0, t0, u0]) (hK : 14 ≤ K) : (TB m).den F K e = some (0, [1]) := by
  have n0 : ∀ i x, (∀ z, (e ++ z).getD i 0 = x) → e.getD i 0 = x := fun i x h => by have := h []; rwa [List.append_nil] at this
  have r0 : ∀ z, (e ++ z).getD (m + 0) 0 = z.getD 0 0 := fun z => gr (n := 0) (j := 0) hl z
  have r1 : ∀ z, (e ++ z).getD (m + 1) 0 = z.getD 1 0 := fun z => gr (n := 0) (j := 1) hl z
  have hab := hok.2.1.2
  have hcd := hok.2.2.2
  by_cases hc : (CB m).den (e ++ [w64 (b - a)] ++ [w64 (d - c)]) = true
  · have x2 := n0 2 a e2
    have x3 := n0 3 b e3
    simp only [TB, T.den, E.den, A.den, x2, x3, e4, e5, wrap64]
    rw [if_pos hc]
    rfl
  · have hf : ¬ ((((¬ (((((w64 (b - a) < 12 ∧ w64 (d - c) < 12) ∧ -1000 < a) ∧ b < 1000) ∧ -1000 < c) ∧ d < 1000)) ∨ ¬ ((((((op = 4 ∨ op = 5) ∨ op = 1) ∨ op = 2) ∨ op = 6) ∨ op = 7) ∨ ¬ op < 11)) ∨ k = 2) ∨ (op = 6 ∧ 40 < d)) := by
      intro q
      apply hc
      simp only [CB, B.den, A.den, Cm.den, List.append_assoc, List.cons_append, List.nil_append, e0, e1, e2, e3, e4, e5, r0, r1, List.getD_cons_zero, List.getD_cons_succ, Bool.or_eq_true, Bool.and_eq_true, Bool.not_eq_true', decide_eq_true_eq, beq_iff_eq]
      simpa using q
    have hf1 : -1000 < a ∧ b < 1000 ∧ -1000 < c ∧ d < 1000 := by omega
    have w1 : w64 (b - a) = b - a := w64_id (by unfold inI; omega)
    have w2 : w64 (d - c) = d - c := w64_id (by unfold inI; omega)
    rw [w1, w2] at hf
    obtain ⟨hs0, hle⟩ := least_all h4 hok (by omega) (by omega) (by omega) hf1.1 hf1.2.1 hf1.2.2.1 hf1.2.2.2 heff
    have ap : ∀ i x, (∀ z, (e ++ z).getD i 0 = x) → ∀ z, (e ++ [w64 (b - a)] ++ [w64 (d - c)] ++ z).getD i 0 = x := fun i x h z => by rw [List.append_assoc, List.append_assoc]; exact h _
    have key := outer_ok (F := F) (K := K) (m := m) g16 h4 hok (e := e ++ [w64 (b - a)] ++ [w64 (d - c)]) (by simp [hl]) hm (ap 0 op e0) (ap 1 k e1) (ap 3 b e3) (ap 4 c e4) (ap 5 d e5) (ap 11 L0 e11) (ap 12 H0 e12) (ap 13 s0 e13) hs0 hle ⟨hf1.1, hf1.2.1⟩ ⟨hf1.2.2.1, hf1.2.2.2⟩ (by omega) hcd hK
      (b + 1 - a).toNat K a 0 0 0 (by omega) (Int.le_refl _) (by omega) .start
    have x2 := n0 2 a e2
    have x3 := n0 3 b e3
    simp only [TB, T.den, E.den, A.den, x2, x3, e4, e5, wrap64]
    rw [if_neg hc]
    simp only [List.map, A.den, List.append_assoc, e2]
    simp only [List.append_assoc] at key
    exact key
end
def tightLawS : List Int → Option (List Int)
  | [op, k, a, b, c, d, a', b', c', d'] => if in4 a b c d ∧ in4 a' b' c' d' then some [1] else none
  | _ => none
def sg6 : Sig := ⟨[(.agg [.int .i64, .int .i64]), (.agg [.int .i64, .int .i64, .int .i64, .int .i64]), (.agg [.int .i64, .int .i64, .int .i64, .int .i64])], [L]⟩
def t6 : T := (.call 10 [] 1 (.br (.cmp .eq (.v 10) (.n 0)) (.ret [(.n 0)]) (.call 15 [(.v 0), (.v 1), (.v 2), (.v 3), (.v 4), (.v 5)] 6 (.br (.not (.cmp .eq (.v 16) (.n 0))) (.ret [(.n 1)]) (.call 19 [(.v 2), (.v 3), (.v 6), (.v 7)] 3 (.call 19 [(.v 4), (.v 5), (.v 8), (.v 9)] 3 (.br (.and (.cmp .eq (.v 19) (.n 0)) (.cmp .eq (.v 22) (.n 0))) (.call 17 [(.v 1), (.v 17), (.v 18)] 1 (.br (.and (.and (.cmp .eq (.v 19) (.n 0)) (.cmp .eq (.v 22) (.n 0))) (.cmp .eq (.v 23) (.n 0))) (.call 17 [(.v 1), (.v 20), (.v 21)] 1 (.br (.and (.and (.and (.cmp .eq (.v 19) (.n 0)) (.cmp .eq (.v 22) (.n 0))) (.cmp .eq (.v 23) (.n 0))) (.cmp .eq (.v 24) (.n 0))) (.call 15 [(.v 0), (.v 1), (.v 17), (.v 18), (.v 20), (.v 21)] 6 (.br (.or (.or (.or (.not (.cmp .eq (.v 30) (.n 0))) (.and (.not (.cmp .eq (.v 13) (.n 0))) (.or (.or (.cmp .eq (.v 27) (.n 0)) (.cmp .lt (.v 11) (.v 25))) (.cmp .lt (.v 26) (.v 12))))) (.and (.not (.cmp .eq (.v 14) (.n 0))) (.cmp .eq (.v 28) (.n 0)))) (.and (.not (.cmp .eq (.v 15) (.n 0))) (.cmp .eq (.v 29) (.n 0)))) (.ret [(.n 0)]) (.lt (.sub .i64 (.v 3) (.v 2)) (.lt (.sub .i64 (.v 5) (.v 4)) (.br (.or (.or (.or (.not (.and (.and (.and (.and (.and (.cmp .lt (.v 31) (.n 12)) (.cmp .lt (.v 32) (.n 12))) (.cmp .lt (.n (-1000)) (.v 2))) (.cmp .lt (.v 3) (.n 1000))) (.cmp .lt (.n (-1000)) (.v 4))) (.cmp .lt (.v 5) (.n 1000)))) (.not (.or (.or (.or (.or (.or (.or (.cmp .eq (.v 0) (.n 4)) (.cmp .eq (.v 0) (.n 5))) (.cmp .eq (.v 0) (.n 1))) (.cmp .eq (.v 0) (.n 2))) (.cmp .eq (.v 0) (.n 6))) (.cmp .eq (.v 0) (.n 7))) (.not (.cmp .lt (.v 0) (.n 11)))))) (.cmp .eq (.v 1) (.n 2))) (.and (.cmp .eq (.v 0) (.n 6)) (.cmp .lt (.n 40) (.v 5)))) (.ret [(.n 1)]) (.loop 1 [(.n 0), (.v 2), (.n 0), (.n 0)] (.br (.not (.cmp .lt (.v 3) (.v 34))) (.lt (.sel (.not (.cmp .eq (.v 33) (.n 0))) (.n 1) (.n 0)) (.loop 2 [(.v 37), (.v 4), (.v 35), (.v 36)] (.br (.not (.cmp .lt (.v 5) (.v 39))) (.call 16 [(.v 0), (.v 1), (.v 34), (.v 39)] 3 (.br (.or (.not (.cmp .eq (.v 43) (.n 0))) (.not (.cmp .eq (.v 44) (.n 0)))) (.lt (.add .i64 (.v 39) (.n 1)) (.lt (.sel (.not (.cmp .eq (.v 38) (.n 0))) (.n 1) (.n 0)) (.again 2 [(.v 46), (.v 45), (.v 40), (.v 41)]))) (.br (.cmp .eq (.v 38) (.n 0)) (.lt (.mn (.v 42) (.v 42)) (.lt (.mx (.v 42) (.v 42)) (.lt (.add .i64 (.v 39) (.n 1)) (.again 2 [(.n 1), (.v 47), (.v 45), (.v 46)])))) (.lt (.mn (.v 40) (.v 42)) (.lt (.mx (.v 41) (.v 42)) (.lt (.add .i64 (.v 39) (.n 1)) (.again 2 [(.n 1), (.v 47), (.v 45), (.v 46)]))))))) (.out 2 (.lt (.add .i64 (.v 34) (.n 1)) (.lt (.sel (.not (.cmp .eq (.v 38) (.n 0))) (.n 1) (.n 0)) (.again 1 [(.v 43), (.v 42), (.v 40), (.v 41)]))))))) (.out 1 (.lt (.sel (.and (.or (.and (.not (.cmp .eq (.v 33) (.n 0))) (.not (.cmp .eq (.v 13) (.n 0)))) (.and (.cmp .eq (.v 33) (.n 0)) (.cmp .eq (.v 13) (.n 0)))) (.and (.cmp .eq (.v 35) (.v 11)) (.cmp .eq (.v 36) (.v 12)))) (.n 1) (.n 0)) (.ret [(.v 37)])))))))))) (.lt (.sub .i64 (.v 3) (.v 2)) (.lt (.sub .i64 (.v 5) (.v 4)) (.br (.or (.or (.or (.not (.and (.and (.and (.and (.and (.cmp .lt (.v 25) (.n 12)) (.cmp .lt (.v 26) (.n 12))) (.cmp .lt (.n (-1000)) (.v 2))) (.cmp .lt (.v 3) (.n 1000))) (.cmp .lt (.n (-1000)) (.v 4))) (.cmp .lt (.v 5) (.n 1000)))) (.not (.or (.or (.or (.or (.or (.or (.cmp .eq (.v 0) (.n 4)) (.cmp .eq (.v 0) (.n 5))) (.cmp .eq (.v 0) (.n 1))) (.cmp .eq (.v 0) (.n 2))) (.cmp .eq (.v 0) (.n 6))) (.cmp .eq (.v 0) (.n 7))) (.not (.cmp .lt (.v 0) (.n 11)))))) (.cmp .eq (.v 1) (.n 2))) (.and (.cmp .eq (.v 0) (.n 6)) (.cmp .lt (.n 40) (.v 5)))) (.ret [(.n 1)]) (.loop 1 [(.n 0), (.v 2), (.n 0), (.n 0)] (.br (.not (.cmp .lt (.v 3) (.v 28))) (.lt (.sel (.not (.cmp .eq (.v 27) (.n 0))) (.n 1) (.n 0)) (.loop 2 [(.v 31), (.v 4), (.v 29), (.v 30)] (.br (.not (.cmp .lt (.v 5) (.v 33))) (.call 16 [(.v 0), (.v 1), (.v 28), (.v 33)] 3 (.br (.or (.not (.cmp .eq (.v 37) (.n 0))) (.not (.cmp .eq (.v 38) (.n 0)))) (.lt (.add .i64 (.v 33) (.n 1)) (.lt (.sel (.not (.cmp .eq (.v 32) (.n 0))) (.n 1) (.n 0)) (.again 2 [(.v 40), (.v 39), (.v 34), (.v 35)]))) (.br (.cmp .eq (.v 32) (.n 0)) (.lt (.mn (.v 36) (.v 36)) (.lt (.mx (.v 36) (.v 36)) (.lt (.add .i64 (.v 33) (.n 1)) (.again 2 [(.n 1), (.v 41), (.v 39), (.v 40)])))) (.lt (.mn (.v 34) (.v 36)) (.lt (.mx (.v 35) (.v 36)) (.lt (.add .i64 (.v 33) (.n 1)) (.again 2 [(.n 1), (.v 41), (.v 39), (.v 40)]))))))) (.out 2 (.lt (.add .i64 (.v 28) (.n 1)) (.lt (.sel (.not (.cmp .eq (.v 32) (.n 0))) (.n 1) (.n 0)) (.again 1 [(.v 37), (.v 36), (.v 34), (.v 35)]))))))) (.out 1 (.lt (.sel (.and (.or (.and (.not (.cmp .eq (.v 27) (.n 0))) (.not (.cmp .eq (.v 13) (.n 0)))) (.and (.cmp .eq (.v 27) (.n 0)) (.cmp .eq (.v 13) (.n 0)))) (.and (.cmp .eq (.v 29) (.v 11)) (.cmp .eq (.v 30) (.v 12)))) (.n 1) (.n 0)) (.ret [(.v 31)])))))))))) (.lt (.sub .i64 (.v 3) (.v 2)) (.lt (.sub .i64 (.v 5) (.v 4)) (.br (.or (.or (.or (.not (.and (.and (.and (.and (.and (.cmp .lt (.v 24) (.n 12)) (.cmp .lt (.v 25) (.n 12))) (.cmp .lt (.n (-1000)) (.v 2))) (.cmp .lt (.v 3) (.n 1000))) (.cmp .lt (.n (-1000)) (.v 4))) (.cmp .lt (.v 5) (.n 1000)))) (.not (.or (.or (.or (.or (.or (.or (.cmp .eq (.v 0) (.n 4)) (.cmp .eq (.v 0) (.n 5))) (.cmp .eq (.v 0) (.n 1))) (.cmp .eq (.v 0) (.n 2))) (.cmp .eq (.v 0) (.n 6))) (.cmp .eq (.v 0) (.n 7))) (.not (.cmp .lt (.v 0) (.n 11)))))) (.cmp .eq (.v 1) (.n 2))) (.and (.cmp .eq (.v 0) (.n 6)) (.cmp .lt (.n 40) (.v 5)))) (.ret [(.n 1)]) (.loop 1 [(.n 0), (.v 2), (.n 0), (.n 0)] (.br (.not (.cmp .lt (.v 3) (.v 27))) (.lt (.sel (.not (.cmp .eq (.v 26) (.n 0))) (.n 1) (.n 0)) (.loop 2 [(.v 30), (.v 4), (.v 28), (.v 29)] (.br (.not (.cmp .lt (.v 5) (.v 32))) (.call 16 [(.v 0), (.v 1), (.v 27), (.v 32)] 3 (.br (.or (.not (.cmp .eq (.v 36) (.n 0))) (.not (.cmp .eq (.v 37) (.n 0)))) (.lt (.add .i64 (.v 32) (.n 1)) (.lt (.sel (.not (.cmp .eq (.v 31) (.n 0))) (.n 1) (.n 0)) (.again 2 [(.v 39), (.v 38), (.v 33), (.v 34)]))) (.br (.cmp .eq (.v 31) (.n 0)) (.lt (.mn (.v 35) (.v 35)) (.lt (.mx (.v 35) (.v 35)) (.lt (.add .i64 (.v 32) (.n 1)) (.again 2 [(.n 1), (.v 40), (.v 38), (.v 39)])))) (.lt (.mn (.v 33) (.v 35)) (.lt (.mx (.v 34) (.v 35)) (.lt (.add .i64 (.v 32) (.n 1)) (.again 2 [(.n 1), (.v 40), (.v 38), (.v 39)]))))))) (.out 2 (.lt (.add .i64 (.v 27) (.n 1)) (.lt (.sel (.not (.cmp .eq (.v 31) (.n 0))) (.n 1) (.n 0)) (.again 1 [(.v 36), (.v 35), (.v 33), (.v 34)]))))))) (.out 1 (.lt (.sel (.and (.or (.and (.not (.cmp .eq (.v 26) (.n 0))) (.not (.cmp .eq (.v 13) (.n 0)))) (.and (.cmp .eq (.v 26) (.n 0)) (.cmp .eq (.v 13) (.n 0)))) (.and (.cmp .eq (.v 28) (.v 11)) (.cmp .eq (.v 29) (.v 12)))) (.n 1) (.n 0)) (.ret [(.v 30)])))))))))) (.lt (.sub .i64 (.v 3) (.v 2)) (.lt (.sub .i64 (.v 5) (.v 4)) (.br (.or (.or (.or (.not (.and (.and (.and (.and (.and (.cmp .lt (.v 23) (.n 12)) (.cmp .lt (.v 24) (.n 12))) (.cmp .lt (.n (-1000)) (.v 2))) (.cmp .lt (.v 3) (.n 1000))) (.cmp .lt (.n (-1000)) (.v 4))) (.cmp .lt (.v 5) (.n 1000)))) (.not (.or (.or (.or (.or (.or (.or (.cmp .eq (.v 0) (.n 4)) (.cmp .eq (.v 0) (.n 5))) (.cmp .eq (.v 0) (.n 1))) (.cmp .eq (.v 0) (.n 2))) (.cmp .eq (.v 0) (.n 6))) (.cmp .eq (.v 0) (.n 7))) (.not (.cmp .lt (.v 0) (.n 11)))))) (.cmp .eq (.v 1) (.n 2))) (.and (.cmp .eq (.v 0) (.n 6)) (.cmp .lt (.n 40) (.v 5)))) (.ret [(.n 1)]) (.loop 1 [(.n 0), (.v 2), (.n 0), (.n 0)] (.br (.not (.cmp .lt (.v 3) (.v 26))) (.lt (.sel (.not (.cmp .eq (.v 25) (.n 0))) (.n 1) (.n 0)) (.loop 2 [(.v 29), (.v 4), (.v 27), (.v 28)] (.br (.not (.cmp .lt (.v 5) (.v 31))) (.call 16 [(.v 0), (.v 1), (.v 26), (.v 31)] 3 (.br (.or (.not (.cmp .eq (.v 35) (.n 0))) (.not (.cmp .eq (.v 36) (.n 0)))) (.lt (.add .i64 (.v 31) (.n 1)) (.lt (.sel (.not (.cmp .eq (.v 30) (.n 0))) (.n 1) (.n 0)) (.again 2 [(.v 38), (.v 37), (.v 32), (.v 33)]))) (.br (.cmp .eq (.v 30) (.n 0)) (.lt (.mn (.v 34) (.v 34)) (.lt (.mx (.v 34) (.v 34)) (.lt (.add .i64 (.v 31) (.n 1)) (.again 2 [(.n 1), (.v 39), (.v 37), (.v 38)])))) (.lt (.mn (.v 32) (.v 34)) (.lt (.mx (.v 33) (.v 34)) (.lt (.add .i64 (.v 31) (.n 1)) (.again 2 [(.n 1), (.v 39), (.v 37), (.v 38)]))))))) (.out 2 (.lt (.add .i64 (.v 26) (.n 1)) (.lt (.sel (.not (.cmp .eq (.v 30) (.n 0))) (.n 1) (.n 0)) (.again 1 [(.v 35), (.v 34), (.v 32), (.v 33)]))))))) (.out 1 (.lt (.sel (.and (.or (.and (.not (.cmp .eq (.v 25) (.n 0))) (.not (.cmp .eq (.v 13) (.n 0)))) (.and (.cmp .eq (.v 25) (.n 0)) (.cmp .eq (.v 13) (.n 0)))) (.and (.cmp .eq (.v 27) (.v 11)) (.cmp .eq (.v 28) (.v 12)))) (.n 1) (.n 0)) (.ret [(.v 29)])))))))))))))))
theorem q6 : sxFunc (Cf [p10, p15g, p17, p19, p16] (fun g => !(List.contains [6] g))) 200 6 sg6 = t6 := by kernel_rfl
theorem t6_eq : t6 = (.call 10 [] 1 (.br (.cmp .eq (.v 10) (.n 0)) (.ret [(.n 0)]) (.call 15 [(.v 0), (.v 1), (.v 2), (.v 3), (.v 4), (.v 5)] 6 (.br (.not (.cmp .eq (.v 16) (.n 0))) (.ret [(.n 1)]) (.call 19 [(.v 2), (.v 3), (.v 6), (.v 7)] 3 (.call 19 [(.v 4), (.v 5), (.v 8), (.v 9)] 3 (.br (.and (.cmp .eq (.v 19) (.n 0)) (.cmp .eq (.v 22) (.n 0))) (.call 17 [(.v 1), (.v 17), (.v 18)] 1 (.br (.and (.and (.cmp .eq (.v 19) (.n 0)) (.cmp .eq (.v 22) (.n 0))) (.cmp .eq (.v 23) (.n 0))) (.call 17 [(.v 1), (.v 20), (.v 21)] 1 (.br (.and (.and (.and (.cmp .eq (.v 19) (.n 0)) (.cmp .eq (.v 22) (.n 0))) (.cmp .eq (.v 23) (.n 0))) (.cmp .eq (.v 24) (.n 0))) (.call 15 [(.v 0), (.v 1), (.v 17), (.v 18), (.v 20), (.v 21)] 6 (.br (.or (.or (.or (.not (.cmp .eq (.v 30) (.n 0))) (.and (.not (.cmp .eq (.v 13) (.n 0))) (.or (.or (.cmp .eq (.v 27) (.n 0)) (.cmp .lt (.v 11) (.v 25))) (.cmp .lt (.v 26) (.v 12))))) (.and (.not (.cmp .eq (.v 14) (.n 0))) (.cmp .eq (.v 28) (.n 0)))) (.and (.not (.cmp .eq (.v 15) (.n 0))) (.cmp .eq (.v 29) (.n 0)))) (.ret [(.n 0)]) (TB 31))) (TB 25))) (TB 24))) (TB 23)))))))) := by kernel_rfl
theorem c6 {F : Nat → List Int → Option (List Int)} {op k a b c d a' b' c' d' : Int} (g10 : F 10 = shownS) (g15 : F 15 = binS) (g17 : F 17 = checkS) (g19 : F 19 = joinS) (g16 : F 16 = doneS) (h4 : in4 a b c d) (h4' : in4 a' b' c' d') : t6.den F 20 [op, k, a, b, c, d, a', b', c', d'] = some (0, [1]) := by
  rw [t6_eq]
  have f10 : F 10 [] = some [1] := by rw [g10]; rfl
  have f15 : F 15 [op, k, a, b, c, d] = some (binR op k a b c d) := by rw [g15]; exact if_pos h4
  by_cases hok : okB op k a b c d
  · obtain ⟨L, H, s, t, u, W⟩ := within_all h4 hok
    rw [binR_ok hok, W.eq] at f15
    have hab := hok.2.1.2
    have hcd := hok.2.2.2
    have j1 : F 19 [a, b, a', b'] = some [joinL a b a' b', joinH a b a' b', pairE a b a' b'] := by rw [g19]; exact if_pos ⟨h4.1, h4.2.1, h4'.1, h4'.2.1⟩
    have j2 : F 19 [c, d, c', d'] = some [joinL c d c' d', joinH c d c' d', pairE c d c' d'] := by rw [g19]; exact if_pos ⟨h4.2.2.1, h4.2.2.2, h4'.2.2.1, h4'.2.2.2⟩
    have i4 : in4 (joinL a b a' b') (joinH a b a' b') (joinL c d c' d') (joinH c d c' d') := by
      unfold in4 inI joinL joinH at *
      refine ⟨?_, ?_, ?_, ?_⟩ <;> split <;> omega
    have e1 : pairE a b a' b' = 0 → joinL a b a' b' ≤ a ∧ b ≤ joinH a b a' b' := by
      unfold pairE joinL joinH
      intro q
      split at q
      · cases q
      · rename_i z; rw [if_neg z, if_neg z]; omega
    have e2 : pairE c d c' d' = 0 → joinL c d c' d' ≤ c ∧ d ≤ joinH c d c' d' := by
      unfold pairE joinL joinH
      intro q
      split at q
      · cases q
      · rename_i z; rw [if_neg z, if_neg z]; omega
    generalize joinL a b a' b' = p at *
    generalize joinH a b a' b' = q at *
    generalize joinL c d c' d' = r at *
    generalize joinH c d c' d' = x at *
    generalize pairE a b a' b' = f at *
    generalize pairE c d c' d' = g at *
    have f17a : F 17 [k, p, q] = some [checkE k p q] := by rw [g17]; exact if_pos ⟨i4.1, i4.2.1⟩
    have f17b : F 17 [k, r, x] = some [checkE k r x] := by rw [g17]; exact if_pos ⟨i4.2.2.1, i4.2.2.2⟩
    by_cases cf : f = 0 ∧ g = 0
    · obtain ⟨rfl, rfl⟩ := cf
      by_cases k1 : okR k p q
      · have c1 : checkE k p q = 0 := if_pos k1
        rw [c1] at f17a
        by_cases k2 : okR k r x
        · have c2 : checkE k r x = 0 := if_pos k2
          rw [c2] at f17b
          have hok' : okB op k p q r x := ⟨hok.1, k1, k2⟩
          obtain ⟨L', H', s', t', u', W'⟩ := within_all i4 hok'
          have f15' : F 15 [op, k, p, q, r, x] = some ([L', H', s', t', u'] ++ [0]) := by rw [g15, ← W'.eq, ← binR_ok hok']; exact if_pos i4
          have G := mono_all h4 i4 hok hok' (e1 rfl).1 (e1 rfl).2 (e2 rfl).1 (e2 rfl).2 W.eq W'.eq
          have bits := W.bits
          have hcond : (((¬ s = 0 ∧ ((s' = 0 ∨ L < L') ∨ H' < H)) ∨ (¬ t = 0 ∧ t' = 0)) ∨ (¬ u = 0 ∧ u' = 0)) = False := eq_false (by unfold Grows at G; omega)
          have T1 := tail_ok (F := F) (K := 20) (m := 31) g16 h4 hok (e := [op, k, a, b, c, d, a', b', c', d', 1, L, H, s, t, u, 0, p, q, 0, r, x, 0, 0, 0, L', H', s', t', u', 0]) rfl (by decide) (fun _ => rfl) (fun _ => rfl) (fun _ => rfl) (fun _ => rfl) (fun _ => rfl) (fun _ => rfl) (fun _ => rfl) (fun _ => rfl) (fun _ => rfl) W.eq (by decide)
          simp only [T.den, B.den, A.den, E.den, Cm.den, List.map, List.getD_cons_zero, List.getD_cons_succ, List.cons_append, List.nil_append, Bool.or_eq_true, Bool.and_eq_true, Bool.not_eq_true', decide_eq_true_eq, decide_eq_false_iff_not, beq_iff_eq, beq_eq_false_iff_ne, ne_eq, f10, f15, j1, j2, f17a, f17b, f15', hcond, List.length_cons, List.length_nil, Nat.zero_add, Nat.reduceAdd, if_true, if_false, show ¬ (1 : Int) = 0 from by decide, not_true_eq_false, and_self, false_or, false_and, or_false]
          exact T1
        · have c2 : checkE k r x = 2 := if_neg k2
          rw [c2] at f17b
          have T1 := tail_ok (F := F) (K := 20) (m := 25) g16 h4 hok (e := [op, k, a, b, c, d, a', b', c', d', 1, L, H, s, t, u, 0, p, q, 0, r, x, 0, 0, 2]) rfl (by decide) (fun _ => rfl) (fun _ => rfl) (fun _ => rfl) (fun _ => rfl) (fun _ => rfl) (fun _ => rfl) (fun _ => rfl) (fun _ => rfl) (fun _ => rfl) W.eq (by decide)
          simp only [T.den, B.den, A.den, E.den, Cm.den, List.map, List.getD_cons_zero, List.getD_cons_succ, List.cons_append, List.nil_append, Bool.or_eq_true, Bool.and_eq_true, Bool.not_eq_true', decide_eq_true_eq, decide_eq_false_iff_not, beq_iff_eq, beq_eq_false_iff_ne, ne_eq, f10, f15, j1, j2, f17a, f17b, List.length_cons, List.length_nil, Nat.zero_add, Nat.reduceAdd, if_true, if_false, show ¬ (1 : Int) = 0 from by decide, show ¬ (2 : Int) = 0 from by decide, not_true_eq_false, and_self, and_false]
          exact T1
      · have c1 : checkE k p q = 2 := if_neg k1
        rw [c1] at f17a
        have T1 := tail_ok (F := F) (K := 20) (m := 24) g16 h4 hok (e := [op, k, a, b, c, d, a', b', c', d', 1, L, H, s, t, u, 0, p, q, 0, r, x, 0, 2]) rfl (by decide) (fun _ => rfl) (fun _ => rfl) (fun _ => rfl) (fun _ => rfl) (fun _ => rfl) (fun _ => rfl) (fun _ => rfl) (fun _ => rfl) (fun _ => rfl) W.eq (by decide)
        simp only [T.den, B.den, A.den, E.den, Cm.den, List.map, List.getD_cons_zero, List.getD_cons_succ, List.cons_append, List.nil_append, Bool.or_eq_true, Bool.and_eq_true, Bool.not_eq_true', decide_eq_true_eq, decide_eq_false_iff_not, beq_iff_eq, beq_eq_false_iff_ne, ne_eq, f10, f15, j1, j2, f17a, List.length_cons, List.length_nil, Nat.zero_add, Nat.reduceAdd, if_true, if_false, show ¬ (1 : Int) = 0 from by decide, show ¬ (2 : Int) = 0 from by decide, not_true_eq_false, and_self, and_false]
        exact T1
    · have cf' : (f = 0 ∧ g = 0) = False := eq_false cf
      have T1 := tail_ok (F := F) (K := 20) (m := 23) g16 h4 hok (e := [op, k, a, b, c, d, a', b', c', d', 1, L, H, s, t, u, 0, p, q, f, r, x, g]) rfl (by decide) (fun _ => rfl) (fun _ => rfl) (fun _ => rfl) (fun _ => rfl) (fun _ => rfl) (fun _ => rfl) (fun _ => rfl) (fun _ => rfl) (fun _ => rfl) W.eq (by decide)
      simp only [T.den, B.den, A.den, E.den, Cm.den, List.map, List.getD_cons_zero, List.getD_cons_succ, List.cons_append, List.nil_append, Bool.or_eq_true, Bool.and_eq_true, Bool.not_eq_true', decide_eq_true_eq, decide_eq_false_iff_not, beq_iff_eq, beq_eq_false_iff_ne, ne_eq, f10, f15, j1, j2, cf', List.length_cons, List.length_nil, Nat.zero_add, Nat.reduceAdd, if_true, if_false, show ¬ (1 : Int) = 0 from by decide, not_true_eq_false]
      exact T1
  · rw [binR_no hok] at f15
    simp [T.den, B.den, A.den, E.den, Cm.den, f10, f15]
noncomputable def p6 : Sp := (6, sg6, tightLawS)
theorem e6 : Ent p6 := ent_of (fun g => !(List.contains [6] g)) (l := [p10, p15g, p17, p19, p16]) (ents_cons e10 (ents_cons e15g (ents_cons e17 (ents_cons e19 (ents_cons e16 ents_nil))))) q6 fun args rs h hl => by
  match args, hl with
  | [op, k, a, b, c, d, a', b', c', d'], _ =>
    simp only [tightLawS] at h
    split at h
    · rename_i hr
      cases h
      exact ⟨20, c6 rfl rfl rfl rfl rfl hr.1 hr.2⟩
    · cases h

set_option maxRecDepth 100000 in
theorem tight_lifted (os : Os) (started : os.Started) (H : Type) (enc : TypeId × Value → H) :
    ReturnsInHanded {} Tryd.checked os 6 .any (fun w args => (Rows.rangesTightSpec.pre enc Tryd.prog Tryd.f6 [] false w args ∧ laidMetH Tryd.prog laidL w) ∧ sizedMet enc Tryd.prog Tryd.f6 (OpenSpec.ofChange Rows.rangesTightSpec) false w args)
      (Rows.rangesTightSpec.post enc Tryd.prog Tryd.f6 false true false false) := by
  refine returnsInHanded_of_change_and (C := Tryd.checked) (X := fun w _ => laidMetH Tryd.prog laidL w) (fun _ _ _ hh h => h.of_heap hh) own started (by kernel_rfl) Tryd.func6
    (ChangeSpec.witness_at (enc := enc) (C := Tryd.checked) (os := os) (X := fun w _ => laidMetH Tryd.prog laidL w) false (laidWorld os) #[.agg #[.int .i64 0, .int .i64 0], .agg #[.int .i64 0, .int .i64 0, .int .i64 0, .int .i64 0], .agg #[.int .i64 0, .int .i64 0, .int .i64 0, .int .i64 0]] 8 rfl (by kernel_rfl) (by kernel_rfl) (by kernel_rfl) (by kernel_rfl) (by kernel_rfl) (laidWorld_met os _)) ?_
  intro W base args ds gs before hval0 hW _ _ hL _
  have hval : ∀ (j : Nat) t v, Tryd.f6.params[j]? = some t → args[j]? = some v → Value.okWide Tryd.prog W .any base t v := hval0
  have hW' := hW
  obtain ⟨p, q, hA0, hV0, rfl, hfz, hnd⟩ := hW
  have hA : DataW.TrodAll enc Tryd.prog W 0 (fun _ => true) true Tryd.f6.params.toList args.toList ds p := hA0
  have hV : DataW.TrodVars enc Tryd.prog W (fun _ => true) [] gs q := hV0
  rw [Tryd.params6] at hA hval
  obtain ⟨v0, v1, v2, d0, d1, d2, p0, p1, p2, rfl, rfl, rfl, h0, h1, h2⟩ := trodAll_three hA
  obtain ⟨rfl, rfl⟩ := trodVars_none hV
  obtain ⟨op, k, rfl, rfl, rfl, wo, wk⟩ := pair_open Tryd.underlying23 one23 cells23 Tryd.underlying3 Tryd.underlying3 (hval 0 23 v0 rfl rfl) h0
  obtain ⟨a, b, c, d, rfl, rfl, rfl, wa, wb, wc, wd⟩ := open31 h1
  obtain ⟨a', b', c', d', rfl, rfl, rfl, wa', wb', wc', wd'⟩ := open31 h2
  have hcall := calls_of_sem Tryd.func6 rfl (by kernel_rfl) (e6 [op, k, a, b, c, d, a', b', c', d'] [1] W (if_pos ⟨⟨wf64 wa, wf64 wb, wf64 wc, wf64 wd⟩, wf64 wa', wf64 wb', wf64 wc', wf64 wd'⟩) rfl (glob_of_laid hL))
  refine Calls.mono hcall fun e W' he => ?_
  cases e with
  | returned v =>
    obtain ⟨rfl, hb⟩ := he
    refine ⟨_, rfl, _, _, _, [], [], [], hW', ?_, ?_, ?_, World.keptBut_mono (fun _ h => h.elim) (keptBut_of_below hb), fun h => by cases h⟩
    · exact trodAll_mk1 (shut_bool Tryd.underlying4 true)
    · exact trodAll_mk3 (pair_shut Tryd.underlying23 one23 cells23 Tryd.underlying3 Tryd.underlying3 wo wk) (shut31 wa wb wc wd) (shut31 wa' wb' wc' wd')
    · rfl
  | panicked _ => exact he.elim
  | outgrown => exact he.elim

theorem tight_holds : Rows.RangesTightSaid :=
  OpenClaim.holds_of_wide 6 Tryd.f6 rfl rfl rfl rfl rfl rfl rfl ⟨rfl, rfl, rfl, rfl, rfl⟩ rfl rfl rfl rfl rfl (by kernel_rfl) Tryd.func6 (by kernel_rfl)
    (of_decide_eq_true (by kernel_rfl)) (by unfold Func.isWrapper; rw [if_neg (of_decide_eq_false (by kernel_rfl))]; exact ⟨rfl, rfl⟩)
    (fun os started H enc _ => tight_lifted os started H enc)

theorem tight_card : Rows.RangesTightCardSaid :=
  Claim7.holds_tied_plain_at .later [] [.data, .data] true (true, "de87536829a3227c3e4862b1786049b911f607e593883a4a1c4be2254a7eb771") false
    tight_holds (fun _ h => by cases h) (by kernel_rfl) (fun _ h => by cases h) rangesTight_row_tie rfl ⟨rfl, rfl⟩ (by kernel_rfl) rfl
    (fun f fn hf hfn => by
      obtain rfl : f = 6 := Option.some.inj ((show Tryd.prog.funcNamed "cupel/cupellaw04.RangesTight" = some 6 by kernel_rfl).symm.trans hf) |>.symm
      obtain rfl : fn = Tryd.f6 := (Option.some.inj (Tryd.func6.symm.trans hfn)).symm
      exact ⟨by kernel_rfl, fun j t ht => by
        rw [Tryd.params6] at ht
        rcases j with _ | _ | _ | j
        · simp at ht; subst ht; exact (show Tryd.prog.wantsStandIn 23 = false by kernel_rfl)
        · simp at ht; subst ht; exact (show Tryd.prog.wantsStandIn 31 = false by kernel_rfl)
        · simp at ht; subst ht; exact (show Tryd.prog.wantsStandIn 31 = false by kernel_rfl)
        · simp at ht⟩)
    (by kernel_rfl)
end Go.SXR
namespace Go.Proofs.YtncaejnkpmmoeaaDoor
theorem ranges_tight_card : Rows.RangesTightCardSaid := Go.SXR.tight_card
end Go.Proofs.YtncaejnkpmmoeaaDoor
#print axioms Go.Proofs.YtncaejnkpmmoeaaDoor.ranges_tight_card
