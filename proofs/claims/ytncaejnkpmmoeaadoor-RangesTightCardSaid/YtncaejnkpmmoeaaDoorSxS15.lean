/- The symbolic executor SX, its soundness, part 15: memory at a loop's head; results. -/
import Derived.Test.YtncaejnkpmmoeaaDoorSxS14
set_option linter.unusedVariables false
set_option linter.unusedSimpArgs false
namespace Go.SX
open Go Go.RowKit

variable {F : Nat → List Int → Option (List Int)} {K : Nat} {r : Nat × List Int}
variable {C : Cfg} {w0 w w' : World} {ρ ρ' ρ0 ρN : Env} {st : St} {tm : Tm} {a : Act}

theorem esBeq_eq : ∀ {a b : List (SV × SV × Nat)}, esBeq a b = true → a = b
  | [], [], _ => rfl
  | [], _ :: _, h => by cases h
  | _ :: _, [], h => by cases h
  | (k, v, n) :: a, (k', v', n') :: b, h => by
    simp only [esBeq, Bool.and_eq_true] at h
    rw [SV.beq_eq h.1.1.1, SV.beq_eq h.1.1.2, beq_nat h.1.2, esBeq_eq h.2]
theorem tmL_get {tm : Tm} : ∀ {n i j : Nat} {v : SV}, (tmL tm n i)[j]? = some v ↔ j < n ∧ v = (tm.get (i + j)).getD .bot
  | 0, i, j, v => by simp [tmL]
  | n + 1, i, 0, v => by simp [tmL, eq_comm]
  | n + 1, i, j + 1, v => by
    simp only [tmL, List.getElem?_cons_succ]
    rw [tmL_get, show i + 1 + j = i + (j + 1) by omega]
    simp
theorem memL_get {mem : Tb SO} : ∀ {n i j : Nat} {o : SO}, (memL mem n i)[j]? = some o ↔ j < n ∧ o = (mem.get (i + j)).getD .gone
  | 0, i, j, v => by simp [memL]
  | n + 1, i, 0, v => by simp [memL, eq_comm]
  | n + 1, i, j + 1, v => by
    simp only [memL, List.getElem?_cons_succ]
    rw [memL_get, show i + 1 + j = i + (j + 1) by omega]
    simp
theorem tmL_len (tm : Tm) : ∀ (n i : Nat), (tmL tm n i).length = n
  | 0, _ => rfl
  | n + 1, i => by simp only [tmL, List.length_cons, tmL_len tm n (i + 1)]
theorem memL_len (mem : Tb SO) : ∀ (n i : Nat), (memL mem n i).length = n
  | 0, _ => rfl
  | n + 1, i => by simp only [memL, List.length_cons, memL_len mem n (i + 1)]
theorem headO_live {Hc : List (Nat × Nat)} {b : Nat} {h : SO} {n : Nat} : (headO Hc b h n).1.live = h.live := by
  cases h <;> rfl
theorem ok_same {b : Nat} (hN : ρ0.le ρN) (hρ : ρ0.le ρ) (hb : b < ρ0.bs.length) {o : SO} (hw : o.wf ρ0.is.length ρ0.bs.length = true) (h : SO.ok ρ w b o) : SO.ok ρN w b o := by
  cases o with
  | cells c e =>
    simp only [SO.wf, Bool.and_eq_true] at hw
    simp only [SO.ok] at h ⊢
    rw [Env.b_app hN hb, SV.dens_app hN hw.1, ← Env.b_app hρ hb, ← SV.dens_app hρ hw.1]; exact h
  | row c e s n =>
    simp only [SO.wf, Bool.and_eq_true] at hw
    simp only [SO.ok] at h ⊢
    rw [Env.b_app hN hb, Env.cap_app hN hb, SV.dens_app hN hw.1, ← Env.b_app hρ hb, ← Env.cap_app hρ hb, ← SV.dens_app hρ hw.1]; exact h
  | map es k =>
    simp only [SO.wf] at hw
    simp only [SO.ok] at h ⊢
    rw [Env.b_app hN hb, esDen_app hN hw, ← Env.b_app hρ hb, ← esDen_app hρ hw]; exact h
  | gone => trivial
theorem againO_ok (hN : ρ0.le ρN) (hρ : ρ0.le ρ) {Hc : List (Nat × Nat)} {b n : Nat} {h o : SO} {d d' : Bd} {as : List A} (hd : d.ni = ρ.is.length + d.es.length)
    (hh : h.wf ρ0.is.length ρ0.bs.length = true) (hb : h.live = true → b < ρ0.bs.length) (ho : o.wf ρ.is.length ρ.bs.length = true) (H : againO Hc b h o d = some (as, d')) :
    DOk ρ d d' ∧ wfA d'.ni as ∧ (headO Hc b h n).2 = n + as.length ∧ (h.live = true → o.live = true) ∧
      ∀ d2 z, DOk ρ d' d2 → ρN.is.drop n = as.map (·.den (extE ρ.is d2.es)) ++ z → ∀ (n1 n2 : Nat) (w : World), (headO Hc b h n).1.wf n1 n2 = true → h.live = true → SO.ok ρ w b o → SO.ok ρN w b (headO Hc b h n).1 := by
  have same : ∀ {h o : SO}, h = o → (∀ n, headO Hc b h n = (h, n)) → h.wf ρ0.is.length ρ0.bs.length = true → (h.live = true → b < ρ0.bs.length) → as = [] → d' = d →
      DOk ρ d d' ∧ wfA d'.ni as ∧ (headO Hc b h n).2 = n + as.length ∧ (h.live = true → o.live = true) ∧
      ∀ d2 z, DOk ρ d' d2 → ρN.is.drop n = as.map (·.den (extE ρ.is d2.es)) ++ z → ∀ (n1 n2 : Nat) (w : World), (headO Hc b h n).1.wf n1 n2 = true → h.live = true → SO.ok ρ w b o → SO.ok ρN w b (headO Hc b h n).1 := by
    intro h o e hk hw hb e1 e2
    subst e; subst e1; subst e2
    rw [hk]
    exact ⟨.refl hd, wfA_nil, rfl, id, fun d2 z _ _ n1 n2 w _ hl hok => ok_same hN hρ (hb hl) hw hok⟩
  unfold againO at H
  split at H
  · rename_i c e c' e'
    cases he : Nat.beq e e' <;> rw [he] at H <;> simp only [cond_true, cond_false] at H
    · cases H
    · cases beq_nat he
      simp only [SO.wf, Bool.and_eq_true] at hh ho
      obtain ⟨p1, p2, p3, p4, p5⟩ := againL_ok (n := n) hN hρ hd (fun v hv => .inr (wfs_mem ho.1 v hv)) (fun v hv => .inr (wfs_mem hh.1 v hv)) H
      refine ⟨p1, p2, p3, fun _ => rfl, fun d2 z hd2 hz n1 n2 w hwf _ hok => ?_⟩
      simp only [headO] at hwf ⊢
      simp only [SO.wf, Bool.and_eq_true] at hwf
      simp only [SO.ok] at hok ⊢
      have hb' := hb rfl
      rw [Env.b_app hN hb', ← Env.b_app hρ hb', hok]
      congr 3
      apply List.ext_getElem?
      intro j
      rw [dens_getElem?, dens_getElem?]
      by_cases hj : j < c'.length
      · have h1 : c'[j]? = some c'[j] := by simp [hj]
        have hj2 : j < (headL (turnC Hc b) 0 c n).1.length := by omega
        have h2 : (headL (turnC Hc b) 0 c n).1[j]? = some (headL (turnC Hc b) 0 c n).1[j] := by simp [hj2]
        rw [h1, h2]
        rcases p5 d2 z hd2 hz j _ _ h2 h1 with hs | ⟨_, hs⟩
        · have := allCell_mem hwf.2 _ (List.mem_of_getElem? h2)
          rw [hs] at this; cases this
        · simp only [Option.map_some, hs]
      · rw [List.getElem?_eq_none (by omega), List.getElem?_eq_none (by omega)]; rfl
  · rename_i c e s m c' e' s' m'
    cases he : (Nat.beq e e' && Nat.beq s s' && Nat.beq m m' && SV.beqs c c') <;> rw [he] at H <;> simp only [cond_true, cond_false] at H
    · cases H
    · simp only [Bool.and_eq_true] at he
      cases H
      exact same (by rw [beq_nat he.1.1.1, beq_nat he.1.1.2, beq_nat he.1.2, SV.beqs_eq he.2]) (fun _ => rfl) hh hb rfl rfl
  · rename_i es k es' k'
    cases he : (Nat.beq k k' && esBeq es es') <;> rw [he] at H <;> simp only [cond_true, cond_false] at H
    · cases H
    · simp only [Bool.and_eq_true] at he
      cases H
      exact same (by rw [beq_nat he.1, esBeq_eq he.2]) (fun _ => rfl) hh hb rfl rfl
  · cases H
    refine ⟨.refl hd, wfA_nil, rfl, fun hl => (by cases hl), ?_⟩
    intro d2 z _ _ n1 n2 w _ hl _
    cases hl
  · cases H
theorem againM_ok (hN : ρ0.le ρN) (hρ : ρ0.le ρ) {Hc : List (Nat × Nat)} : ∀ {hs os : List SO} {b n : Nat} {d d' : Bd} {as : List A}, d.ni = ρ.is.length + d.es.length →
    (∀ (j : Nat) h, hs[j]? = some h → h.wf ρ0.is.length ρ0.bs.length = true ∧ (h.live = true → b + j < ρ0.bs.length)) → (∀ o ∈ os, o.wf ρ.is.length ρ.bs.length = true) → againM Hc b hs os d = some (as, d') →
    DOk ρ d d' ∧ wfA d'.ni as ∧ (headM Hc b hs n).2 = n + as.length ∧ (headM Hc b hs n).1.length = hs.length ∧
      ∀ d2 z, DOk ρ d' d2 → ρN.is.drop n = as.map (·.den (extE ρ.is d2.es)) ++ z → ∀ (j : Nat) t, (headM Hc b hs n).1[j]? = some t → ∃ h o, hs[j]? = some h ∧ os[j]? = some o ∧ t.live = h.live ∧ (h.live = true → o.live = true) ∧
        ∀ (n1 n2 : Nat) (w : World), t.wf n1 n2 = true → h.live = true → SO.ok ρ w (b + j) o → SO.ok ρN w (b + j) t
  | [], [], b, n, d, d', as, hd, _, _, h => by
    simp only [againM] at h; cases h
    exact ⟨.refl hd, wfA_nil, rfl, rfl, fun d2 z _ _ j t ht => by simp [headM] at ht⟩
  | [], _ :: _, b, n, d, d', as, hd, _, _, h => by cases h
  | _ :: _, [], b, n, d, d', as, hd, _, _, h => by cases h
  | x :: hs, y :: os, b, n, d, d', as, hd, hh, ho, h => by
    simp only [againM] at h
    split at h
    · cases h
    · rename_i a1 d1 h1
      split at h <;> cases h
      rename_i a2 h2
      have hh0 := hh 0 x rfl
      rw [Nat.add_zero] at hh0
      obtain ⟨g1, g2⟩ := hh0
      obtain ⟨q1, q2, q3, q4, q5⟩ := againO_ok (n := n) hN hρ hd g1 g2 (ho y (.head _)) h1
      obtain ⟨p1, p2, p3, p4, p5⟩ := againM_ok (n := n + a1.length) hN hρ q1.ni (fun j h' hj => by
        have := hh (j + 1) h' (by simpa using hj)
        rwa [show b + (j + 1) = b + 1 + j by omega] at this) (fun o ho' => ho o (.tail _ ho')) h2
      have hhd : headM Hc b (x :: hs) n = ((headO Hc b x n).1 :: (headM Hc (b + 1) hs (n + a1.length)).1, (headM Hc (b + 1) hs (n + a1.length)).2) := by
        simp only [headM, q3]
      rw [hhd]
      refine ⟨q1.trans p1, wfA_app (wfA_mono p1.le q2) p2, by simp only [p3, List.length_append]; omega, by simp [p4], fun d2 z hd2 hz j t ht => ?_⟩
      rw [List.map_append, List.append_assoc] at hz
      cases j with
      | zero =>
        simp at ht; subst ht
        refine ⟨x, y, rfl, rfl, headO_live, q4, fun n1 n2 w hw hl hok => ?_⟩
        exact q5 d2 _ (p1.trans hd2) hz n1 n2 w hw hl hok
      | succ j =>
        simp only [List.getElem?_cons_succ] at ht
        obtain ⟨h', o', e1, e2, e3, e4, e5⟩ := p5 d2 z hd2 (by
          rw [← List.drop_drop, hz, List.drop_append_of_le_length (by simp), List.drop_of_length_le (by simp), List.nil_append]) j t ht
        refine ⟨h', o', by simpa using e1, by simpa using e2, e3, e4, fun n1 n2 w hw hl hok => ?_⟩
        rw [show b + (j + 1) = b + 1 + j by omega] at hok ⊢
        exact e5 n1 n2 w hw hl hok

theorem wfsB_mem {ni nb : Nat} : ∀ {l : List SV}, SV.wfsB ni nb l = true → ∀ v ∈ l, v = .bot ∨ v.wf ni nb = true
  | [], _, v, hv => nomatch hv
  | x :: l, h, v, hv => by
    have : (x = .bot ∨ x.wf ni nb = true) ∧ SV.wfsB ni nb l = true := by
      cases x <;> simp only [SV.wfsB, Bool.and_eq_true] at h <;> first
        | exact ⟨.inl rfl, h⟩
        | exact ⟨.inr h.1, h.2⟩
    rcases List.mem_cons.1 hv with rfl | hv
    · exact this.1
    · exact wfsB_mem this.2 v hv
theorem SOwfs_mem {ni nb : Nat} : ∀ {l : List SO}, SO.wfs ni nb l = true → ∀ v ∈ l, v.wf ni nb = true
  | [], _, v, hv => nomatch hv
  | x :: l, h, v, hv => by
    simp only [SO.wfs, Bool.and_eq_true] at h
    rcases List.mem_cons.1 hv with rfl | hv
    · exact h.1
    · exact SOwfs_mem h.2 v hv

/-! ### A loop's head -/
/-- The state at a round's end, or at the loop's entry, is one of the loop's head. -/
theorem head_ok {a0 : Act} {tm'' : Tm} {st'' : St} {Hc : List (Nat × Nat)} {p : Nat → SV → Bool} {N : Nat} {n2 : Nat} {d d' : Bd} {as bs : List A} {s : List Int}
    (hm : Md C w0 ρ st w') (ht : TmOk ρ st.ni st.nb tm a0) (hle : ρ.le ρ') (hm'' : Md C w0 ρ' st'' w) (ht'' : TmOk ρ' st''.ni st''.nb tm'' a) (hN : N ≤ a.tmps.size)
    {is1 : List Int} (his1 : ρ.le ⟨is1, ρ.bs⟩)
    (ha : againL p 0 (tmL tm N 0) (tmL tm'' N 0) ⟨st''.ni, []⟩ = some (as, d)) (hb : againM Hc 0 (memL st.mem st.nb 0) (memL st''.mem st.nb 0) d = some (bs, d'))
    (hs : s = (as ++ bs).map (·.den (extE ρ'.is d'.es)))
    (hn2 : (headM Hc 0 (memL st.mem st.nb 0) (headL p 0 (tmL tm N 0) is1.length).2).2 = n2)
    (hwt : SV.wfsB n2 st.nb (headL p 0 (tmL tm N 0) is1.length).1 = true)
    (hwm : SO.wfs n2 st.nb (headM Hc 0 (memL st.mem st.nb 0) (headL p 0 (tmL tm N 0) is1.length).2).1 = true) :
    Md C w0 ⟨is1 ++ s, ρ.bs⟩ { st with mem := Tb.ofL (headM Hc 0 (memL st.mem st.nb 0) (headL p 0 (tmL tm N 0) is1.length).2).1 0 .e, ni := n2 } w ∧
    TmOk ⟨is1 ++ s, ρ.bs⟩ n2 st.nb (Tb.ofL (headL p 0 (tmL tm N 0) is1.length).1 0 .e) a := by
  have hNl : ρ.le ⟨is1 ++ s, ρ.bs⟩ := Env.le_trans his1 ⟨⟨s, rfl⟩, ⟨[], by simp⟩⟩
  have hd0 : (⟨st''.ni, []⟩ : Bd).ni = ρ'.is.length + (⟨st''.ni, []⟩ : Bd).es.length := by simp [hm''.hni]
  have slotw : ∀ {ρ : Env} {st : St} {w : World} {tm : Tm} {a : Act}, Md C w0 ρ st w → TmOk ρ st.ni st.nb tm a → ∀ v ∈ tmL tm N 0, v = .bot ∨ v.wf ρ.is.length ρ.bs.length = true := by
    intro ρ st w tm a hm ht v hv
    obtain ⟨j, hj⟩ := List.getElem?_of_mem hv
    obtain ⟨_, rfl⟩ := tmL_get.1 hj
    cases hg : tm.get (0 + j) with
    | none => exact .inl rfl
    | some u =>
      rcases (ht _ u hg).2 with rfl | ⟨h, _⟩
      · exact .inl rfl
      · exact .inr (by rw [hm.hni, hm.hnb]; exact h)
  have memw : ∀ {ρ : Env} {st : St} {w : World} {n : Nat}, Md C w0 ρ st w → ∀ (j : Nat) o, (memL st.mem n 0)[j]? = some o → o.wf ρ.is.length ρ.bs.length = true ∧ (o.live = true → j < ρ.bs.length ∧ st.mem.get j = some o) := by
    intro ρ st w n hm j o hj
    obtain ⟨_, rfl⟩ := memL_get.1 hj
    rw [Nat.zero_add]
    cases hg : st.mem.get j with
    | none => exact ⟨rfl, fun h => by cases h⟩
    | some u =>
      obtain ⟨h1, h2, _⟩ := hm.mem j u hg
      exact ⟨by rw [hm.hni, hm.hnb]; exact h2, fun _ => ⟨by rw [hm.hnb]; exact h1, rfl⟩⟩
  obtain ⟨p1, p2, p3, p4, p5⟩ := againL_ok (n := is1.length) hNl hle hd0 (slotw hm'' ht'') (slotw hm ht) ha
  obtain ⟨q1, q2, q3, q4, q5⟩ := againM_ok (n := (headL p 0 (tmL tm N 0) is1.length).2) hNl hle p1.ni (fun j h hj => ⟨(memw hm j h hj).1, fun hl => by rw [Nat.zero_add]; exact ((memw hm j h hj).2 hl).1⟩) (fun o ho => by
    obtain ⟨j, hj⟩ := List.getElem?_of_mem ho
    exact (memw hm'' j o hj).1) hb
  have hdrop : (is1 ++ s).drop is1.length = as.map (·.den (extE ρ'.is d'.es)) ++ bs.map (·.den (extE ρ'.is d'.es)) := by
    rw [List.drop_append_of_le_length (Nat.le_refl _), List.drop_of_length_le (Nat.le_refl _), List.nil_append, hs, List.map_append]
  have P5 := p5 d' _ q1 hdrop
  have Q5 := q5 d' [] (.refl q1.ni) (by
    rw [p3, ← List.drop_drop, hdrop, List.drop_append_of_le_length (by simp), List.drop_of_length_le (by simp), List.nil_append, List.append_nil])
  have hsl : s.length = (as ++ bs).length := by rw [hs, List.length_map]
  have hn3 : n2 = is1.length + (as ++ bs).length := by rw [← hn2, q3, p3, List.length_append]; omega
  have hmem : ∀ i o, (Tb.ofL (headM Hc 0 (memL st.mem st.nb 0) (headL p 0 (tmL tm N 0) is1.length).2).1 0 Tb.e).get i = some o → (headM Hc 0 (memL st.mem st.nb 0) (headL p 0 (tmL tm N 0) is1.length).2).1[i]? = some o := by
    intro i o hi
    rcases get_ofL _ _ _ _ _ hi with ⟨_, h⟩ | h
    · simpa using h
    · cases h
  have old : ∀ i o, (Tb.ofL (headM Hc 0 (memL st.mem st.nb 0) (headL p 0 (tmL tm N 0) is1.length).2).1 0 Tb.e).get i = some o → o.live = true → ∃ h, st.mem.get i = some h ∧ h.live = true := by
    intro i o hi hl
    obtain ⟨h, o', e1, e2, e3, e4, e5⟩ := Q5 i o (hmem i o hi)
    have hhl : h.live = true := by rw [← e3]; exact hl
    exact ⟨h, ((memw hm i h e1).2 hhl).2, hhl⟩
  have beq : ∀ i, i < st.nb → (⟨is1 ++ s, ρ.bs⟩ : Env).b i = ρ.b i := fun i hi => Env.b_app hNl (by rw [hm.hnb]; exact hi)
  refine ⟨⟨hm''.below, by simp [hsl, hn3], hm.hnb, fun x hx => ?_, fun x hx => ?_, fun i o hi => ?_, fun i j oi oj hi hj hli hlj he => ?_⟩, fun i v hi => ?_⟩
  · obtain ⟨⟨y, hy⟩, _⟩ := hNl
    simp only at hy
    show x.1.den (is1 ++ s) = x.2
    rw [hy, B.den_app (by rw [hm.hni]; exact hm.hpw x hx)]
    exact hm.hpc x hx
  · obtain ⟨⟨y, hy⟩, _⟩ := his1
    simp only at hy
    refine B.wf_mono ?_ (hm.hpw x hx)
    show st.ni ≤ n2
    rw [hn3, hy, List.length_append, hm.hni]; omega
  · have hi' := hmem i o hi
    have hwo := SOwfs_mem hwm o (List.mem_of_getElem? hi')
    have hlt : i < st.nb := by
      have := (List.getElem?_eq_some_iff.1 hi').1
      rw [q4, memL_len] at this; exact this
    refine ⟨hlt, hwo, fun hl => ?_⟩
    obtain ⟨h, o', e1, e2, e3, e4, e5⟩ := Q5 i o hi'
    have hhl : h.live = true := by rw [← e3]; exact hl
    have hg := ((memw hm i h e1).2 hhl).2
    refine ⟨by rw [beq i hlt]; exact ((hm.mem i h hg).2.2 hhl).1, ?_⟩
    have hg'' := ((memw hm'' i o' e2).2 (e4 hhl)).2
    have hok := ((hm''.mem i o' hg'').2.2 (e4 hhl)).2
    have := e5 _ _ w hwo hhl (by rw [Nat.zero_add]; exact hok)
    rwa [Nat.zero_add] at this
  · obtain ⟨hi1, g1, l1⟩ := old i oi hi hli
    obtain ⟨hj1, g2, l2⟩ := old j oj hj hlj
    rw [beq i (hm.mem i hi1 g1).1, beq j (hm.mem j hj1 g2).1] at he
    exact hm.inj i j hi1 hj1 g1 g2 l1 l2 he
  · have hi' : (headL p 0 (tmL tm N 0) is1.length).1[i]? = some v := by
      rcases get_ofL _ _ _ _ _ hi with ⟨_, h⟩ | h
      · simpa using h
      · cases h
    have hlt : i < N := by
      have := (List.getElem?_eq_some_iff.1 hi').1
      rw [p4, tmL_len] at this; exact this
    refine ⟨by omega, ?_⟩
    rcases wfsB_mem hwt v (List.mem_of_getElem? hi') with rfl | hwv
    · exact .inl rfl
    · refine .inr ⟨hwv, ?_⟩
      rcases P5 i v _ hi' (tmL_get.2 ⟨hlt, rfl⟩) with rfl | ⟨hne, hden⟩
      · simp [SV.wf] at hwv
      · rw [hden, Nat.zero_add]
        rw [Nat.zero_add] at hne
        cases hg : tm''.get i with
        | none => rw [hg] at hne; exact absurd rfl hne
        | some u =>
          rcases (ht'' i u hg).2 with rfl | ⟨_, h⟩
          · rw [hg] at hne; exact absurd rfl hne
          · exact h

/-! ### Results -/
theorem evRes_ok (hty : TyOk C.P C.ty) (hg : GOk C w0) (hm : Md C w0 ρ st w) (ht : TmOk ρ st.ni st.nb tm a) : ∀ {rs : List ResultVar} {l : List SV}, evRes C tm st.mem rs = some l →
    (rs.mapM (m := Sem) fun
      | .tmp t => pure (a.tmps.getD t undef)
      | .cell x t => do loadVar t (← asAddr (a.tmps.getD x undef))).run C.P w = .ok (SV.dens ρ l) w
  | [], l, h => by simp only [evRes] at h; cases h; rfl
  | x :: rs, l, h => by
    simp only [evRes] at h
    split at h
    · cases h
    · rename_i v hv
      split at h <;> cases h
      rename_i l' hl
      have ih := evRes_ok hty hg hm ht hl
      rw [List.mapM_cons, Sem.run_bind]
      split at hv
      · rename_i t
        have : a.tmps.getD t undef = v.den ρ := by
          split at hv
          · cases hv
          · rename_i u hu hne
            cases hv
            rcases (ht t v hne).2 with h | ⟨_, h⟩
            · exact absurd h hu
            · exact h
          · cases hv
        simp only [Sem.run_bind, Sem.run_pure, Result.andThen_ok, ih, this]
        rfl
      · rename_i x t
        split at hv
        · rename_i u hu
          obtain ⟨ad, q1, q2⟩ := loadV_ok hty hg hm hv
          have : a.tmps.getD x undef = u.den ρ := by
            rcases (ht x u hu).2 with rfl | ⟨_, h⟩
            · cases q1
            · exact h
          have e1 : (do loadVar t (← asAddr (a.tmps.getD x undef)) : Sem Value).run C.P w = .ok (v.den ρ) w := by
            simp only [this, q1, asAddr, Sem.run_bind, Sem.run_pure, Result.andThen_ok, q2]
          show Result.andThen (Sem.run C.P (do loadVar t (← asAddr (a.tmps.getD x undef)) : Sem Value) w) _ = _
          rw [e1]
          simp only [Result.andThen_ok, Sem.run_bind, ih, Sem.run_pure]
          rfl
        · cases hv
theorem results_ok (hty : TyOk C.P C.ty) (hg : GOk C w0) (hm : Md C w0 ρ st w) (ht : TmOk ρ st.ni st.nb tm a) {fn : Func} {l : List SV} (h : evRes C tm st.mem fn.results.toList = some l) :
    (results fn a.tmps).run C.P w = .ok ((tupV l).den ρ) w := by
  unfold results
  have e := evRes_ok hty hg hm ht h
  simp only [Sem.run_bind, Array.mapM_eq_mapM_toList, Sem.run_map, Sem.run_pure, tupV_den]
  refine Eq.trans (congrArg (fun x => (Result.andThen x fun (a : List Value) w' => Result.ok a.toArray w').andThen fun a w' => Result.ok (if h : a.size = 1 then a[0] else Value.tuple a) w') e) ?_
  simp only [Result.andThen_ok]
  match SV.dens ρ l with
  | [] => rfl
  | [v] => rfl
  | _ :: _ :: _ => rfl

end Go.SX
