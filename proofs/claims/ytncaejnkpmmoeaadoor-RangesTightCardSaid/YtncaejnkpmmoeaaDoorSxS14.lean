/- The symbolic executor SX, its soundness, part 14: shapes; a loop's head. -/
import Derived.Test.YtncaejnkpmmoeaaDoorSxS13
set_option linter.unusedVariables false
set_option linter.unusedSimpArgs false
namespace Go.SX
open Go Go.RowKit

variable {F : Nat → List Int → Option (List Int)} {K : Nat} {r : Nat × List Int}
variable {C : Cfg} {w0 w w' : World} {ρ ρ' : Env} {st : St} {tm : Tm} {a : Act}

/-! ### Values that are told by numbers -/
def v1 : S1 → Int → Value
  | .int k, x => .int k x
  | .bool, x => .bool (!decide (x = 0))
def vL : List S1 → List Int → List Value
  | [], _ => []
  | s :: ss, xs => v1 s (xs.getD 0 0) :: vL ss (xs.drop 1)
def vSh : Sh → List Int → Value
  | .one s, xs => v1 s (xs.getD 0 0)
  | .agg l, xs => .agg (vL l xs).toArray
def vS : List Sh → List Int → List Value
  | [], _ => []
  | s :: ss, xs => vSh s xs :: vS ss (xs.drop s.size)
def tupW : List Value → Value
  | [v] => v
  | l => .tuple l.toArray

theorem getD_drop {l : List Int} {n : Nat} : (l.drop n).getD 0 0 = l.getD n 0 := by simp [List.getD]
theorem v1_app {xs ys : List Int} (h : 1 ≤ xs.length) : (xs ++ ys).getD 0 0 = xs.getD 0 0 := by
  cases xs with
  | nil => simp at h
  | cons x l => rfl
theorem vL_app : ∀ {l : List S1} {xs ys : List Int}, l.length ≤ xs.length → vL l (xs ++ ys) = vL l xs
  | [], _, _, _ => rfl
  | s :: ss, xs, ys, h => by
    simp only [List.length_cons] at h
    cases xs with
    | nil => simp at h
    | cons x l =>
      simp only [List.length_cons] at h
      simp only [vL, List.cons_append, List.drop_succ_cons, List.drop_zero]
      rw [vL_app (xs := l) (by omega)]; rfl
theorem vSh_app {s : Sh} {xs ys : List Int} (h : s.size ≤ xs.length) : vSh s (xs ++ ys) = vSh s xs := by
  cases s with
  | one s => simp only [vSh]; rw [v1_app h]
  | agg l => simp only [vSh]; rw [vL_app h]
theorem mk1_den (n : Nat) (s : S1) : (mk1 n s).den ρ = v1 s (ρ.is.getD n 0) := by
  cases s
  · simp [mk1, SV.den, v1, A.den]
  · simp only [mk1, SV.den, v1, B.den, A.den, Cm.den]
    congr 2
theorem mkL_den : ∀ (n : Nat) (l : List S1), SV.dens ρ (mkL n l) = vL l (ρ.is.drop n)
  | n, [] => rfl
  | n, s :: ss => by
    simp only [mkL, SV.dens, vL, mk1_den, getD_drop, List.drop_drop]
    rw [mkL_den (n + 1) ss]
theorem mkSh_den (n : Nat) (s : Sh) : (mkSh n s).den ρ = vSh s (ρ.is.drop n) := by
  cases s with
  | one s => simp only [mkSh, vSh, mk1_den, getD_drop]
  | agg l => simp only [mkSh, vSh, SV.den, mkL_den]
theorem mkS_den : ∀ (n : Nat) (l : List Sh), SV.dens ρ (mkS n l) = vS l (ρ.is.drop n)
  | n, [] => rfl
  | n, s :: ss => by
    simp only [mkS, SV.dens, vS, mkSh_den, List.drop_drop]
    rw [mkS_den (n + s.size) ss]
theorem tupV_den (l : List SV) : (tupV l).den ρ = tupW (SV.dens ρ l) := by
  match l with
  | [] => rfl
  | [v] => rfl
  | _ :: _ :: _ => rfl

/-! ### The numbers of values -/
/-- Numbers are bound so far. -/
structure DOk (ρ : Env) (d d' : Bd) : Prop where
  ni : d'.ni = ρ.is.length + d'.es.length
  ext : ∃ y, extE ρ.is d'.es = extE ρ.is d.es ++ y
  le : d.ni ≤ d'.ni
theorem DOk.refl {d : Bd} (h : d.ni = ρ.is.length + d.es.length) : DOk ρ d d := ⟨h, ⟨[], by simp⟩, Nat.le_refl _⟩
theorem DOk.trans {d d' d'' : Bd} (h : DOk ρ d d') (k : DOk ρ d' d'') : DOk ρ d d'' := by
  obtain ⟨y, hy⟩ := h.ext
  obtain ⟨z, hz⟩ := k.ext
  exact ⟨k.ni, ⟨y ++ z, by rw [hz, hy, List.append_assoc]⟩, Nat.le_trans h.le k.le⟩
theorem extE_len (d : Bd) (hd : d.ni = ρ.is.length + d.es.length) : (extE ρ.is d.es).length = d.ni := by
  obtain ⟨x, hx, hl⟩ := extE_app d.es ρ.is
  rw [hx, List.length_append, hl, hd]
def wfA (n : Nat) (l : List A) : Prop := ∀ x ∈ l, x.wf n = true
theorem wfA_nil {n : Nat} : wfA n [] := fun x hx => nomatch hx
theorem wfA_mono {n m : Nat} (h : n ≤ m) {l : List A} (hl : wfA n l) : wfA m l := fun x hx => A.wf_mono h (hl x hx)
theorem wfA_app {n : Nat} {l m : List A} (hl : wfA n l) (hm : wfA n m) : wfA n (l ++ m) := fun x hx => (List.mem_append.1 hx).elim (hl x) (hm x)
theorem dens_later {d d' : Bd} (hd : d.ni = ρ.is.length + d.es.length) (h : DOk ρ d d') {l : List A} (hl : wfA d.ni l) : l.map (·.den (extE ρ.is d'.es)) = l.map (·.den (extE ρ.is d.es)) := by
  obtain ⟨y, hy⟩ := h.ext
  apply List.map_congr_left
  intro x hx
  rw [hy]
  exact A.den_app (by rw [extE_len d hd]; exact hl x hx)
theorem flat1_ok {s : S1} {v : SV} {d d' : Bd} {x : A} (hd : d.ni = ρ.is.length + d.es.length) (hv : v.wf ρ.is.length ρ.bs.length = true) (h : flat1 s v d = some (x, d')) :
    DOk ρ d d' ∧ wfA d'.ni [x] ∧ v.den ρ = v1 s (x.den (extE ρ.is d'.es)) := by
  obtain ⟨z, hz, _⟩ := extE_app d.es ρ.is
  unfold flat1 at h
  split at h
  · rename_i k k' y
    cases hk : kindEq k k' <;> rw [hk] at h <;> simp only [cond_true, cond_false] at h
    · cases h
    · cases h
      have hw : x.wf ρ.is.length = true := by simpa [SV.wf] using hv
      refine ⟨.refl hd, ?_, ?_⟩
      · intro u hu; simp at hu; subst hu; exact A.wf_mono (by omega) hw
      · simp only [SV.den, v1, kindEq_eq hk]
        rw [hz, A.den_app hw]
  · rename_i b
    have hw : b.wf ρ.is.length = true := by simpa [SV.wf] using hv
    have hs := bind_spec rfl hd (E.sel b (.n 1) (.n 0))
    obtain ⟨h1, h2, h3, h4, h5⟩ := hs
    injection h with h
    rw [h] at h1 h2 h3 h4 h5
    refine ⟨⟨h1, h2, h5⟩, ?_, ?_⟩
    · intro u hu; simp at hu; subst hu; exact h4
    · simp only [SV.den, v1]
      simp only at h3
      have hb : b.den (extE ρ.is d.es) = b.den ρ.is := by rw [hz, B.den_app hw]
      have h6 : x.den (extE ρ.is d'.es) = if b.den ρ.is = true then 1 else 0 := by
        rw [h3]; simp only [E.den, hb]; rfl
      rw [h6]
      cases b.den ρ.is <;> rfl
  · cases h
theorem flatL_ok : ∀ {ss : List S1} {vs : List SV} {d d' : Bd} {l : List A}, d.ni = ρ.is.length + d.es.length → SV.wfs ρ.is.length ρ.bs.length vs = true → flatL ss vs d = some (l, d') →
    DOk ρ d d' ∧ wfA d'.ni l ∧ l.length = ss.length ∧ SV.dens ρ vs = vL ss (l.map (·.den (extE ρ.is d'.es)))
  | [], [], d, d', l, hd, _, h => by
    simp only [flatL] at h; cases h
    exact ⟨.refl hd, wfA_nil, rfl, rfl⟩
  | [], _ :: _, d, d', l, hd, _, h => by cases h
  | _ :: _, [], d, d', l, hd, _, h => by cases h
  | s :: ss, v :: vs, d, d', l, hd, hv, h => by
    simp only [SV.wfs, Bool.and_eq_true] at hv
    simp only [flatL] at h
    split at h
    · cases h
    · rename_i x d1 h1
      split at h <;> cases h
      rename_i l' h2
      obtain ⟨q1, q2, q3⟩ := flat1_ok hd hv.1 h1
      obtain ⟨p1, p2, p3, p4⟩ := flatL_ok q1.ni hv.2 h2
      refine ⟨q1.trans p1, ?_, by simp [p3], ?_⟩
      · exact wfA_app (l := [x]) (wfA_mono p1.le q2) p2
      · have := dens_later q1.ni p1 q2
        simp only [List.map_cons, List.map_nil, List.cons.injEq, and_true] at this
        simp only [SV.dens, vL, List.map_cons, List.drop_succ_cons, List.drop_zero, p4, q3, this]
        rfl
theorem flatSh_ok {s : Sh} {v : SV} {d d' : Bd} {l : List A} (hd : d.ni = ρ.is.length + d.es.length) (hv : v.wf ρ.is.length ρ.bs.length = true) (h : flatSh s v d = some (l, d')) :
    DOk ρ d d' ∧ wfA d'.ni l ∧ l.length = s.size ∧ v.den ρ = vSh s (l.map (·.den (extE ρ.is d'.es))) := by
  unfold flatSh at h
  split at h
  · split at h <;> cases h
    rename_i h1
    obtain ⟨q1, q2, q3⟩ := flat1_ok hd hv h1
    exact ⟨q1, q2, rfl, q3⟩
  · simp only [SV.wf, Bool.and_eq_true] at hv
    obtain ⟨p1, p2, p3, p4⟩ := flatL_ok hd hv.1 h
    exact ⟨p1, p2, p3, by simp only [SV.den, vSh, p4]⟩
  · cases h
theorem flatS_ok : ∀ {ss : List Sh} {vs : List SV} {d d' : Bd} {l : List A}, d.ni = ρ.is.length + d.es.length → SV.wfs ρ.is.length ρ.bs.length vs = true → flatS ss vs d = some (l, d') →
    DOk ρ d d' ∧ wfA d'.ni l ∧ l.length = Sh.len ss ∧ SV.dens ρ vs = vS ss (l.map (·.den (extE ρ.is d'.es)))
  | [], [], d, d', l, hd, _, h => by
    simp only [flatS] at h; cases h
    exact ⟨.refl hd, wfA_nil, rfl, rfl⟩
  | [], _ :: _, d, d', l, hd, _, h => by cases h
  | _ :: _, [], d, d', l, hd, _, h => by cases h
  | s :: ss, v :: vs, d, d', l, hd, hv, h => by
    simp only [SV.wfs, Bool.and_eq_true] at hv
    simp only [flatS] at h
    split at h
    · cases h
    · rename_i x d1 h1
      split at h <;> cases h
      rename_i l' h2
      obtain ⟨q1, q2, q3, q4⟩ := flatSh_ok hd hv.1 h1
      obtain ⟨p1, p2, p3, p4⟩ := flatS_ok q1.ni hv.2 h2
      refine ⟨q1.trans p1, wfA_app (wfA_mono p1.le q2) p2, by simp [Sh.len, q3, p3], ?_⟩
      have := dens_later q1.ni p1 q2
      simp only [SV.dens, vS, List.map_append]
      have hlen : (x.map (·.den (extE ρ.is d'.es))).length = s.size := by simp [q3]
      rw [p4, q4, ← this, vSh_app (by omega), List.drop_append_of_le_length (by omega), List.drop_of_length_le (by omega), List.nil_append]

/-! ### A loop's head -/
theorem again1_ok {tu : Bool} {h v : SV} {d d' : Bd} {l : List A} (hd : d.ni = ρ.is.length + d.es.length) (hv : v = .bot ∨ v.wf ρ.is.length ρ.bs.length = true) (hh : again1 tu h v d = some (l, d')) :
    DOk ρ d d' ∧ wfA d'.ni l ∧ (if tu = true then (match shOf h with
      | some sh => l.length = sh.size ∧ v ≠ .bot ∧ v.den ρ = vSh sh (l.map (·.den (extE ρ.is d'.es)))
      | none => l = []) else l = [] ∧ (h = .bot ∨ h = v)) := by
  unfold again1 at hh
  cases tu
  · simp only [cond_false] at hh
    rw [if_neg (by simp)]
    cases hb : (isBot h || h.beq v) <;> rw [hb] at hh <;> simp only [cond_true, cond_false] at hh
    · cases hh
    · cases hh
      refine ⟨.refl hd, wfA_nil, rfl, ?_⟩
      simp only [Bool.or_eq_true] at hb
      rcases hb with hb | hb
      · left; cases h <;> simp [isBot] at hb; rfl
      · exact .inr (SV.beq_eq hb)
  · simp only [cond_true] at hh
    rw [if_pos rfl]
    split at hh
    · rename_i sh hs
      rcases hv with rfl | hv
      · exfalso
        unfold flatSh flat1 at hh
        split at hh
        · split at hh
          · cases hh
          · rename_i h1
            split at h1 <;> first | cases h1 | skip
            all_goals (rename_i hx; cases hx)
        · rename_i hx; cases hx
        · cases hh
      · obtain ⟨p1, p2, p3, p4⟩ := flatSh_ok hd hv hh
        simp only [hs]
        exact ⟨p1, p2, p3, fun e => (by rw [e] at hv; simp [SV.wf] at hv), p4⟩
    · cases hh
      rename_i hs
      simp only [hs]
      exact ⟨.refl hd, wfA_nil, trivial⟩

/-- Slots, at the head and now. -/
def Slot (ρN ρ : Env) (t v : SV) : Prop := t = .bot ∨ (v ≠ .bot ∧ t.den ρN = v.den ρ)
theorem againL_ok {p : Nat → SV → Bool} {ρ0 ρN : Env} (hN : ρ0.le ρN) (hρ : ρ0.le ρ) : ∀ {l vs : List SV} {i n : Nat} {d d' : Bd} {as : List A}, d.ni = ρ.is.length + d.es.length →
    (∀ v ∈ vs, v = .bot ∨ v.wf ρ.is.length ρ.bs.length = true) → (∀ v ∈ l, v = .bot ∨ v.wf ρ0.is.length ρ0.bs.length = true) → againL p i l vs d = some (as, d') →
    DOk ρ d d' ∧ wfA d'.ni as ∧ (headL p i l n).2 = n + as.length ∧ (headL p i l n).1.length = vs.length ∧
      ∀ d2 z, DOk ρ d' d2 → ρN.is.drop n = as.map (·.den (extE ρ.is d2.es)) ++ z → ∀ (j : Nat) t v, (headL p i l n).1[j]? = some t → vs[j]? = some v → Slot ρN ρ t v
  | [], [], i, n, d, d', as, hd, _, _, h => by
    simp only [againL] at h; cases h
    exact ⟨.refl hd, wfA_nil, rfl, rfl, fun d2 z _ _ j t v ht hv => by simp at hv⟩
  | [], _ :: _, i, n, d, d', as, hd, _, _, h => by cases h
  | _ :: _, [], i, n, d, d', as, hd, _, _, h => by cases h
  | x :: l, y :: vs, i, n, d, d', as, hd, hv, hl, h => by
    simp only [againL] at h
    split at h
    · cases h
    · rename_i a1 d1 h1
      split at h <;> cases h
      rename_i a2 h2
      obtain ⟨q1, q2, q3⟩ := again1_ok hd (hv y (.head _)) h1
      have ih := fun n => againL_ok hN hρ (n := n) q1.ni (fun v hv' => hv v (.tail _ hv')) (fun v hv' => hl v (.tail _ hv')) h2
      cases hp : p i x
      · rw [hp, if_neg (by simp)] at q3
        obtain ⟨rfl, q3⟩ := q3
        obtain ⟨p1, p2, p3, p4, p5⟩ := ih n
        simp only [headL, hp, cond_false]
        refine ⟨q1.trans p1, by simpa using p2, by simpa using p3, by simp [p4], fun d2 z hd2 hz j t v ht hv' => ?_⟩
        cases j with
        | zero =>
          simp at ht hv'; subst ht; subst hv'
          rcases q3 with rfl | rfl
          · exact .inl rfl
          · rcases hl x (.head _) with rfl | hw
            · exact .inl rfl
            · exact .inr ⟨fun e => (by rw [e] at hw; simp [SV.wf] at hw), by rw [SV.den_app hN hw, SV.den_app hρ hw]⟩
        | succ j =>
          simp only [List.getElem?_cons_succ] at ht hv'
          exact p5 d2 z hd2 (by simpa using hz) j t v ht hv'
      · rw [hp, if_pos rfl] at q3
        cases hs : shOf x with
        | none =>
          rw [hs] at q3
          simp only at q3
          subst q3
          obtain ⟨p1, p2, p3, p4, p5⟩ := ih n
          simp only [headL, hp, hs, cond_true]
          refine ⟨q1.trans p1, by simpa using p2, by simpa using p3, by simp [p4], fun d2 z hd2 hz j t v ht hv' => ?_⟩
          cases j with
          | zero => simp at ht; subst ht; exact .inl rfl
          | succ j =>
            simp only [List.getElem?_cons_succ] at ht hv'
            exact p5 d2 z hd2 (by simpa using hz) j t v ht hv'
        | some sh =>
          rw [hs] at q3
          simp only at q3
          obtain ⟨q3, q5, q4⟩ := q3
          obtain ⟨p1, p2, p3, p4, p5⟩ := ih (n + sh.size)
          simp only [headL, hp, hs, cond_true]
          refine ⟨q1.trans p1, wfA_app (wfA_mono p1.le q2) p2, by simp only [p3, List.length_append, q3]; omega, by simp [p4], fun d2 z hd2 hz j t v ht hv' => ?_⟩
          have hlen : (a1.map (·.den (extE ρ.is d2.es))).length = sh.size := by simp [q3]
          rw [List.map_append, List.append_assoc] at hz
          cases j with
          | zero =>
            simp at ht hv'; subst ht; subst hv'
            refine .inr ⟨q5, ?_⟩
            rw [mkSh_den, hz, vSh_app (by omega), q4, dens_later q1.ni (p1.trans hd2) q2]
          | succ j =>
            simp only [List.getElem?_cons_succ] at ht hv'
            refine p5 d2 z hd2 ?_ j t v ht hv'
            rw [← List.drop_drop, hz, List.drop_append_of_le_length (by omega), List.drop_of_length_le (by omega), List.nil_append]

end Go.SX
