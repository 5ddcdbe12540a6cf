/- The symbolic executor SX, its soundness, part 2: values under more letters, frames, operands, types. -/
import Derived.Test.YtncaejnkpmmoeaaDoorSxS1
import Derived.WalkKit
import Derived.Laws.StructEq
set_option linter.unusedVariables false
set_option linter.unusedSimpArgs false
namespace Go.SX
open Go Go.RowKit

/-! ### More letters -/
def Env.le (ρ ρ' : Env) : Prop := (∃ x, ρ'.is = ρ.is ++ x) ∧ (∃ y, ρ'.bs = ρ.bs ++ y)
theorem Env.le_refl (ρ : Env) : ρ.le ρ := ⟨⟨[], by simp⟩, ⟨[], by simp⟩⟩
theorem Env.le_trans {a b c : Env} (h : a.le b) (k : b.le c) : a.le c := by
  obtain ⟨⟨x, hx⟩, ⟨y, hy⟩⟩ := h
  obtain ⟨⟨x', hx'⟩, ⟨y', hy'⟩⟩ := k
  exact ⟨⟨x ++ x', by rw [hx', hx, List.append_assoc]⟩, ⟨y ++ y', by rw [hy', hy, List.append_assoc]⟩⟩

theorem getD_app {α : Type} {l x : List α} {i : Nat} {d : α} (h : i < l.length) : (l ++ x).getD i d = l.getD i d := by
  simp [List.getD, List.getElem?_append_left h]
theorem A.den_app {a : A} {is x : List Int} (h : a.wf is.length = true) : a.den (is ++ x) = a.den is := by
  cases a with
  | v i => simp only [A.den]; have := blt_nat h; rw [getD_app this]
  | n c => rfl
theorem B.den_app {is x : List Int} : ∀ {b : B}, b.wf is.length = true → b.den (is ++ x) = b.den is
  | .c _, _ => rfl
  | .cmp o a b, h => by
    simp only [B.wf, Bool.and_eq_true] at h
    simp only [B.den, A.den_app h.1, A.den_app h.2]
  | .not b, h => by simp only [B.den, B.den_app (b := b) h]
  | .and a b, h => by
    simp only [B.wf, Bool.and_eq_true] at h
    simp only [B.den, B.den_app h.1, B.den_app h.2]
  | .or a b, h => by
    simp only [B.wf, Bool.and_eq_true] at h
    simp only [B.den, B.den_app h.1, B.den_app h.2]
theorem Env.b_app {ρ ρ' : Env} (h : ρ.le ρ') {i : Nat} (hi : i < ρ.bs.length) : ρ'.b i = ρ.b i := by
  obtain ⟨_, y, hy⟩ := h
  simp only [Env.b, hy, getD_app hi]
theorem Env.cap_app {ρ ρ' : Env} (h : ρ.le ρ') {i : Nat} (hi : i < ρ.bs.length) : ρ'.cap i = ρ.cap i := by
  obtain ⟨_, y, hy⟩ := h
  simp only [Env.cap, hy, getD_app hi]
theorem Env.A_app {ρ ρ' : Env} (h : ρ.le ρ') {a : A} (ha : a.wf ρ.is.length = true) : a.den ρ'.is = a.den ρ.is := by
  obtain ⟨⟨x, hx⟩, _⟩ := h
  rw [hx, A.den_app ha]
theorem Env.B_app {ρ ρ' : Env} (h : ρ.le ρ') {b : B} (hb : b.wf ρ.is.length = true) : b.den ρ'.is = b.den ρ.is := by
  obtain ⟨⟨x, hx⟩, _⟩ := h
  rw [hx, B.den_app hb]

mutual
theorem SV.den_app {ρ ρ' : Env} (h : ρ.le ρ') : ∀ {v : SV}, v.wf ρ.is.length ρ.bs.length = true → v.den ρ' = v.den ρ
  | .int k a, hv => by simp only [SV.den]; rw [Env.A_app h (by simpa [SV.wf] using hv)]
  | .bool b, hv => by simp only [SV.den]; rw [Env.B_app h (by simpa [SV.wf] using hv)]
  | .str _, _ => rfl
  | .ptr b off, hv => by simp only [SV.den]; rw [Env.b_app h (blt_nat (by simpa [SV.wf] using hv))]
  | .gptr _ _, _ => rfl
  | .nilp, _ => rfl
  | .slice b _ _ _, hv => by simp only [SV.den]; rw [Env.b_app h (blt_nat (by simpa [SV.wf] using hv))]
  | .own b _, hv => by
    have hb := blt_nat (by simpa [SV.wf] using hv)
    simp only [SV.den]; rw [Env.b_app h hb, Env.cap_app h hb]
  | .nilsl, _ => rfl
  | .map b, hv => by simp only [SV.den]; rw [Env.b_app h (blt_nat (by simpa [SV.wf] using hv))]
  | .nilmap, _ => rfl
  | .fn f first cap, hv => by
    simp only [SV.wf, Bool.and_eq_true] at hv
    simp only [SV.den]; rw [SV.dens_app h hv.1, SV.dens_app h hv.2]
  | .nilfn, _ => rfl
  | .agg l, hv => by
    simp only [SV.wf, Bool.and_eq_true] at hv
    simp only [SV.den]; rw [SV.dens_app h hv.1]
  | .tup l, hv => by
    simp only [SV.wf] at hv
    simp only [SV.den]; rw [SV.dens_app h hv]
  | .iface t v, hv => by
    simp only [SV.wf] at hv
    simp only [SV.den]; rw [SV.den_app h hv]
  | .niliface, _ => rfl
  | .gd c w v, hv => by
    simp only [SV.wf, Bool.and_eq_true] at hv
    simp only [SV.den]; rw [Env.B_app h hv.1, SV.den_app h hv.2]
  | .bot, _ => rfl
theorem SV.dens_app {ρ ρ' : Env} (h : ρ.le ρ') : ∀ {l : List SV}, SV.wfs ρ.is.length ρ.bs.length l = true → SV.dens ρ' l = SV.dens ρ l
  | [], _ => rfl
  | v :: l, hv => by
    simp only [SV.wfs, Bool.and_eq_true] at hv
    simp only [SV.dens]; rw [SV.den_app h hv.1, SV.dens_app h hv.2]
end

theorem A.wf_mono {a : A} {n m : Nat} (h : n ≤ m) (ha : a.wf n = true) : a.wf m = true := by
  cases a with
  | v i => have := blt_nat ha; exact (Nat.ble_eq.mpr (by omega : i + 1 ≤ m))
  | n c => rfl
theorem B.wf_mono {n m : Nat} (h : n ≤ m) : ∀ {b : B}, b.wf n = true → b.wf m = true
  | .c _, _ => rfl
  | .cmp _ x y, hb => by
    simp only [B.wf, Bool.and_eq_true] at hb ⊢
    exact ⟨A.wf_mono h hb.1, A.wf_mono h hb.2⟩
  | .not b, hb => by simp only [B.wf] at hb ⊢; exact B.wf_mono h hb
  | .and x y, hb | .or x y, hb => by
    simp only [B.wf, Bool.and_eq_true] at hb ⊢
    exact ⟨B.wf_mono h hb.1, B.wf_mono h hb.2⟩
theorem blt_mono {a n m : Nat} (h : n ≤ m) (ha : Nat.blt a n = true) : Nat.blt a m = true := by
  have := blt_nat ha; exact (Nat.ble_eq.mpr (by omega : a + 1 ≤ m))
mutual
theorem SV.wf_mono {n m n' m' : Nat} (h : n ≤ m) (h' : n' ≤ m') : ∀ {v : SV}, v.wf n n' = true → v.wf m m' = true
  | .int k a, hv => by simp only [SV.wf] at hv ⊢; exact A.wf_mono h hv
  | .bool b, hv => by simp only [SV.wf] at hv ⊢; exact B.wf_mono h hv
  | .str _, _ | .gptr _ _, _ | .nilp, _ | .nilsl, _ | .nilmap, _ | .nilfn, _ | .niliface, _ => rfl
  | .ptr b off, hv => by simp only [SV.wf] at hv ⊢; exact blt_mono h' hv
  | .slice b _ _ _, hv => by simp only [SV.wf] at hv ⊢; exact blt_mono h' hv
  | .own b _, hv => by simp only [SV.wf] at hv ⊢; exact blt_mono h' hv
  | .map b, hv => by simp only [SV.wf] at hv ⊢; exact blt_mono h' hv
  | .fn f first cap, hv => by
    simp only [SV.wf, Bool.and_eq_true] at hv ⊢
    exact ⟨SV.wfs_mono h h' hv.1, SV.wfs_mono h h' hv.2⟩
  | .agg l, hv => by
    simp only [SV.wf, Bool.and_eq_true] at hv ⊢
    exact ⟨SV.wfs_mono h h' hv.1, hv.2⟩
  | .tup l, hv => by simp only [SV.wf] at hv ⊢; exact SV.wfs_mono h h' hv
  | .iface t v, hv => by simp only [SV.wf] at hv ⊢; exact SV.wf_mono h h' hv
  | .gd c w v, hv => by
    simp only [SV.wf, Bool.and_eq_true] at hv ⊢
    exact ⟨B.wf_mono h hv.1, SV.wf_mono h h' hv.2⟩
  | .bot, hv => by cases hv
theorem SV.wfs_mono {n m n' m' : Nat} (h : n ≤ m) (h' : n' ≤ m') : ∀ {l : List SV}, SV.wfs n n' l = true → SV.wfs m m' l = true
  | [], _ => rfl
  | v :: l, hv => by
    simp only [SV.wfs, Bool.and_eq_true] at hv ⊢
    exact ⟨SV.wf_mono h h' hv.1, SV.wfs_mono h h' hv.2⟩
end

/-! ### Lists of values -/
theorem dens_length (ρ : Env) : ∀ l : List SV, (SV.dens ρ l).length = l.length
  | [] => rfl
  | v :: l => by simp [SV.dens, dens_length ρ l]
theorem dens_getElem? (ρ : Env) : ∀ (l : List SV) (i : Nat), (SV.dens ρ l)[i]? = (l[i]?).map (SV.den ρ)
  | [], i => by simp [SV.dens]
  | v :: l, 0 => by simp [SV.dens]
  | v :: l, i + 1 => by simp [SV.dens, dens_getElem? ρ l i]
theorem dens_append (ρ : Env) : ∀ (l m : List SV), SV.dens ρ (l ++ m) = SV.dens ρ l ++ SV.dens ρ m
  | [], m => rfl
  | v :: l, m => by simp [SV.dens, dens_append ρ l m]
theorem dens_drop (ρ : Env) : ∀ (n : Nat) (l : List SV), SV.dens ρ (l.drop n) = (SV.dens ρ l).drop n
  | 0, l => rfl
  | n + 1, [] => rfl
  | n + 1, v :: l => by simp [SV.dens, dens_drop ρ n l]
theorem dens_take (ρ : Env) : ∀ (n : Nat) (l : List SV), SV.dens ρ (l.take n) = (SV.dens ρ l).take n
  | 0, l => rfl
  | n + 1, [] => rfl
  | n + 1, v :: l => by simp [SV.dens, dens_take ρ n l]
theorem wfs_mem {ni nb : Nat} : ∀ {l : List SV}, SV.wfs ni nb l = true → ∀ v ∈ l, v.wf ni nb = true
  | [], _, _, h => by cases h
  | u :: l, hl, v, h => by
    simp only [SV.wfs, Bool.and_eq_true] at hl
    rcases List.mem_cons.1 h with rfl | h
    · exact hl.1
    · exact wfs_mem hl.2 v h
theorem wfs_of_mem {ni nb : Nat} : ∀ {l : List SV}, (∀ v ∈ l, v.wf ni nb = true) → SV.wfs ni nb l = true
  | [], _ => rfl
  | u :: l, h => by
    simp only [SV.wfs, Bool.and_eq_true]
    exact ⟨h u List.mem_cons_self, wfs_of_mem fun v hv => h v (List.mem_cons_of_mem _ hv)⟩
theorem allCell_mem : ∀ {l : List SV}, allCell l = true → ∀ v ∈ l, v.cell = true
  | [], _, _, h => by cases h
  | u :: l, hl, v, h => by
    simp only [allCell, Bool.and_eq_true] at hl
    rcases List.mem_cons.1 h with rfl | h
    · exact hl.1
    · exact allCell_mem hl.2 v h
theorem allCell_of_mem : ∀ {l : List SV}, (∀ v ∈ l, v.cell = true) → allCell l = true
  | [], _ => rfl
  | u :: l, h => by
    simp only [allCell, Bool.and_eq_true]
    exact ⟨h u List.mem_cons_self, allCell_of_mem fun v hv => h v (List.mem_cons_of_mem _ hv)⟩
theorem SV.oneCell_of_cell {v : SV} (h : v.cell = true) (ρ : Env) : (v.den ρ).oneCell' = true := by
  cases v <;> first | rfl | cases h
theorem SV.cells_of_cell {v : SV} (h : v.cell = true) (ρ : Env) : (v.den ρ).cells = #[v.den ρ] := by
  cases v <;> first | rfl | cases h
/-- The cells of a value. -/
theorem cellsOf_spec {v : SV} {cs : List SV} (h : v.cellsOf = some cs) (ρ : Env) : (v.den ρ).cells = (SV.dens ρ cs).toArray := by
  cases v <;> simp only [SV.cellsOf] at h <;> cases h <;> rfl
theorem cellsOf_wf {v : SV} {cs : List SV} (h : v.cellsOf = some cs) {ni nb : Nat} (hv : v.wf ni nb = true) : SV.wfs ni nb cs = true ∧ allCell cs = true := by
  cases v <;> simp only [SV.cellsOf] at h <;> cases h <;> first
    | (simp only [SV.wf, Bool.and_eq_true] at hv; exact hv)
    | exact ⟨by simp only [SV.wfs, hv, Bool.and_self], rfl⟩
    | exact ⟨by simp only [SV.wfs, Bool.and_true]; exact hv, rfl⟩

/-! ### Frames -/
def TmOk (ρ : Env) (ni nb : Nat) (tm : Tm) (a : Act) : Prop :=
  ∀ i v, tm.get i = some v → i < a.tmps.size ∧ (v = .bot ∨ (v.wf ni nb = true ∧ a.tmps.getD i undef = v.den ρ))
theorem TmOk.app {ρ ρ' : Env} {tm : Tm} {a : Act} (h : TmOk ρ ρ.is.length ρ.bs.length tm a) (hl : ρ.le ρ') : TmOk ρ' ρ'.is.length ρ'.bs.length tm a := by
  intro i v hv
  obtain ⟨h1, h2⟩ := h i v hv
  refine ⟨h1, h2.imp id fun ⟨h3, h4⟩ => ?_⟩
  obtain ⟨⟨x, hx⟩, ⟨y, hy⟩⟩ := id hl
  exact ⟨SV.wf_mono (by rw [hx]; simp) (by rw [hy]; simp) h3, by rw [h4, SV.den_app hl h3]⟩
theorem TmOk.put {ρ : Env} {ni nb : Nat} {tm : Tm} {a : Act} (h : TmOk ρ ni nb tm a) {d : Nat} {u v : SV} (hd : tm.get d = some u) (hv : v = .bot ∨ v.wf ni nb = true) {x : Value} (hx : v = .bot ∨ x = v.den ρ) :
    TmOk ρ ni nb (tm.put d v) (a.put (some d) x) := by
  intro i y hy
  have hsz : d < a.tmps.size := (h d u hd).1
  rcases Tb.get_put hy with ⟨rfl, rfl⟩ | ⟨hne, hg⟩
  · refine ⟨by simpa [Act.put] using hsz, ?_⟩
    rcases hv with rfl | hv
    · exact .inl rfl
    · rcases hx with rfl | hx
      · exact .inl rfl
      · exact .inr ⟨hv, by simp [Act.put, hsz, hx]⟩
  · obtain ⟨h1, h2⟩ := h i y hg
    refine ⟨by simpa [Act.put] using h1, h2.imp id fun ⟨h3, h4⟩ => ⟨h3, ?_⟩⟩
    rw [← h4]
    simp [Act.put, Array.getElem?_setIfInBounds_ne (show d ≠ i from fun e => hne e.symm)]

theorem SV.den_under {ρ : Env} {pc : List (B × Bool)} (hp : PcOk ρ.is pc) (v : SV) : (v.under pc).den ρ = v.den ρ := by
  unfold SV.under
  split
  · rename_i c w u
    split
    · rename_i hk
      have := B.known_ok hp hk
      rw [B.den_mkIs] at this
      simp only [SV.den]
      rw [if_pos (by simpa using this)]
    · rfl
  · rfl
theorem SV.wf_under {ni nb : Nat} {pc : List (B × Bool)} {v : SV} (h : v.wf ni nb = true) : (v.under pc).wf ni nb = true := by
  unfold SV.under
  split
  · rename_i c w u
    split
    · simp only [SV.wf, Bool.and_eq_true] at h; exact h.2
    · exact h
  · exact h

theorem ofVal1_spec {v : Value} {s : SV} (h : ofVal1 v = some s) (ρ : Env) (ni nb : Nat) : s.den ρ = v ∧ s.wf ni nb = true ∧ s.cell = true := by
  unfold ofVal1 at h
  split at h <;> cases h <;> exact ⟨rfl, rfl, rfl⟩
theorem ofVals_spec : ∀ {l : List Value} {r : List SV}, ofVals l = some r → ∀ (ρ : Env) (ni nb : Nat), SV.dens ρ r = l ∧ SV.wfs ni nb r = true ∧ allCell r = true
  | [], r, h, _, _, _ => by simp only [ofVals] at h; cases h; exact ⟨rfl, rfl, rfl⟩
  | v :: l, r, h, ρ, ni, nb => by
    simp only [ofVals] at h
    split at h
    · cases h
    · rename_i s hs
      split at h
      · cases h
      · rename_i t ht
        cases h
        obtain ⟨h1, h2, h3⟩ := ofVal1_spec hs ρ ni nb
        obtain ⟨g1, g2, g3⟩ := ofVals_spec ht ρ ni nb
        exact ⟨by simp [SV.dens, h1, g1], by simp [SV.wfs, h2, g2], by simp [allCell, h3, g3]⟩
theorem ofVal_spec {v : Value} {s : SV} (h : ofVal v = some s) (ρ : Env) (ni nb : Nat) : s.den ρ = v ∧ s.wf ni nb = true := by
  unfold ofVal at h
  split at h
  · split at h
    · rename_i l hl
      cases h
      obtain ⟨h1, h2, h3⟩ := ofVals_spec hl ρ ni nb
      exact ⟨by simp [SV.den, h1], by simp [SV.wf, h2, h3]⟩
    · cases h
  · split at h
    · rename_i l hl
      cases h
      obtain ⟨h1, h2, h3⟩ := ofVals_spec hl ρ ni nb
      exact ⟨by simp [SV.den, h1], by simp [SV.wf, h2]⟩
    · cases h
  · obtain ⟨h1, h2, _⟩ := ofVal1_spec h ρ ni nb
    exact ⟨h1, h2⟩

/-- What is known where operations are reckoned. -/
structure Cx (ρ : Env) (ni nb : Nat) (pc : List (B × Bool)) (tm : Tm) (a : Act) : Prop where
  hni : ρ.is.length = ni
  hnb : ρ.bs.length = nb
  hpc : PcOk ρ.is pc
  htm : TmOk ρ ni nb tm a

theorem Cx.ev {ρ : Env} {ni nb : Nat} {pc : List (B × Bool)} {tm : Tm} {a : Act} (h : Cx ρ ni nb pc tm a) {x : Operand} {v : SV} (hv : evO pc tm x = some v) : a.eval x = v.den ρ ∧ v.wf ni nb = true := by
  cases x with
  | tmp t =>
    simp only [evO] at hv
    split at hv
    · cases hv
    · rename_i u hne hu
      cases hv
      obtain ⟨_, h2⟩ := h.htm t u hu
      rcases h2 with rfl | ⟨h3, h4⟩
      · exact absurd rfl hne
      · exact ⟨by rw [SV.den_under h.hpc]; exact h4, SV.wf_under h3⟩
    · cases hv
  | const c =>
    obtain ⟨h1, h2⟩ := ofVal_spec (by simpa [evO] using hv) ρ ni nb
    exact ⟨h1.symm, h2⟩
  | global g => simp only [evO] at hv; cases hv; exact ⟨rfl, rfl⟩
  | func f => simp only [evO] at hv; cases hv; exact ⟨rfl, rfl⟩
theorem Cx.evs {ρ : Env} {ni nb : Nat} {pc : List (B × Bool)} {tm : Tm} {a : Act} (h : Cx ρ ni nb pc tm a) : ∀ {xs : List Operand} {vs : List SV}, evOs pc tm xs = some vs → xs.map a.eval = SV.dens ρ vs ∧ SV.wfs ni nb vs = true
  | [], vs, hv => by simp only [evOs] at hv; cases hv; exact ⟨rfl, rfl⟩
  | x :: xs, vs, hv => by
    simp only [evOs] at hv
    split at hv
    · cases hv
    · rename_i v hx
      split at hv
      · cases hv
      · rename_i r hr
        cases hv
        obtain ⟨h1, h2⟩ := h.ev hx
        obtain ⟨g1, g2⟩ := Cx.evs h hr
        exact ⟨by simp [SV.dens, h1, g1], by simp [SV.wfs, h2, g2]⟩
theorem Cx.evps {ρ : Env} {ni nb : Nat} {pc : List (B × Bool)} {tm : Tm} {a : Act} (h : Cx ρ ni nb pc tm a) : ∀ {xs : List (Nat × Operand)} {vs : List (Nat × SV)}, evPs pc tm xs = some vs →
    xs.map (fun p => (p.1, a.eval p.2)) = vs.map (fun p => (p.1, p.2.den ρ)) ∧ ∀ p ∈ vs, p.2.wf ni nb = true
  | [], vs, hv => by simp only [evPs] at hv; cases hv; exact ⟨rfl, by simp⟩
  | (i, x) :: xs, vs, hv => by
    simp only [evPs] at hv
    split at hv
    · cases hv
    · rename_i v hx
      split at hv
      · cases hv
      · rename_i r hr
        cases hv
        obtain ⟨h1, h2⟩ := h.ev hx
        obtain ⟨g1, g2⟩ := Cx.evps h hr
        exact ⟨by simp [h1]; exact g1, fun p hp => (List.mem_cons.1 hp).elim (fun e => e ▸ h2) (g2 p)⟩

/-! ### Types -/
def TyOk (P : Program) (ty : Ty) : Prop := ∀ t e, ty.get t = some e → mkTE P t = some e
theorem TyOk.info {P : Program} {ty : Ty} (h : TyOk P ty) {t : Nat} {e : TE} (he : ty.get t = some e) :
    ∃ d i, P.underlying t = some d ∧ P.info? t = some i ∧ mkTD P t d = some e.d ∧ i.size = e.size ∧ i.bytes = e.bytes ∧ (∀ z, e.zero = some z → ∃ v, i.zero = some v ∧ ofVals v.cells.toList = some z ∧ zeroOf e.d v = some z) := by
  have := h t e he
  unfold mkTE at this
  split at this
  · rename_i d i hd hi
    split at this
    · rename_i td htd
      cases this
      refine ⟨d, i, hd, hi, htd, rfl, rfl, fun z hz => ?_⟩
      simp only at hz
      split at hz
      · rename_i v hv
        refine ⟨v, hv, ?_, hz⟩
        unfold zeroOf at hz
        cases ha : td.agg <;> rw [ha] at hz <;> simp only [cond_true, cond_false] at hz
        · split at hz <;> cases hz
          rename_i s hs
          have : v.cells = #[v] := by cases v <;> first | rfl | (simp [ofVal1] at hs)
          rw [this]
          simp [ofVals, hs]
        · split at hz
          · exact hz
          · cases hz
      · cases hz
    · cases this
  · cases this
theorem mkTD_agg {P : Program} {t : TypeId} {d : TypeDesc} {td : TD} (h : mkTD P t d = some td) : (match d with | .struct _ | .array _ _ => true | _ => false) = td.agg := by
  cases d <;> simp only [mkTD] at h <;> first
    | (cases h; rfl)
    | (cases h; done)
    | (split at h <;> cases h <;> rfl)
theorem mkTD_bool {P : Program} {t : TypeId} {d : TypeDesc} (h : mkTD P t d = some .bool) : d = .bool := by
  cases d <;> simp only [mkTD] at h <;> first
    | (cases h; rfl)
    | (cases h; done)
    | (split at h <;> cases h <;> rfl)
theorem mkTD_int {P : Program} {t : TypeId} {d : TypeDesc} {k : IntKind} (h : mkTD P t d = some (.int k)) : d = .int k := by
  cases d <;> simp only [mkTD] at h <;> first
    | (cases h; rfl)
    | (cases h; done)
    | (split at h <;> cases h <;> rfl)
theorem mkTD_str {P : Program} {t : TypeId} {d : TypeDesc} (h : mkTD P t d = some .str) : d = .string := by
  cases d <;> simp only [mkTD] at h <;> first
    | (cases h; rfl)
    | (cases h; done)
    | (split at h <;> cases h <;> rfl)
theorem mkTD_func {P : Program} {t : TypeId} {d : TypeDesc} (h : mkTD P t d = some .func) : ∃ a b c, d = .func a b c := by
  cases d <;> simp only [mkTD] at h <;> first
    | (cases h; exact ⟨_, _, _, rfl⟩)
    | (cases h; done)
    | (split at h <;> cases h <;> exact ⟨_, _, _, rfl⟩)
    | (split at h <;> cases h)
theorem mkTD_slice {P : Program} {t : TypeId} {d : TypeDesc} {e n : Nat} (h : mkTD P t d = some (.slice e n)) : d = .slice e ∧ ∃ i, P.info? e = some i ∧ i.size = n := by
  cases d <;> simp only [mkTD] at h <;> first
    | (cases h; exact ⟨rfl, _, ‹_›, rfl⟩)
    | (cases h; done)
    | (split at h <;> cases h <;> exact ⟨rfl, _, ‹_›, rfl⟩)
    | (split at h <;> cases h)
theorem mkTD_arr {P : Program} {t : TypeId} {d : TypeDesc} {m e n : Nat} (h : mkTD P t d = some (.arr m e n)) : d = .array m e ∧ ∃ i, P.info? e = some i ∧ i.size = n := by
  cases d <;> simp only [mkTD] at h <;> first
    | (cases h; exact ⟨rfl, _, ‹_›, rfl⟩)
    | (cases h; done)
    | (split at h <;> cases h <;> exact ⟨rfl, _, ‹_›, rfl⟩)
    | (split at h <;> cases h)
theorem mkTD_map {P : Program} {t : TypeId} {d : TypeDesc} {k e : Nat} (h : mkTD P t d = some (.map k e)) : d = .map k e := by
  cases d <;> simp only [mkTD] at h <;> first
    | (cases h; rfl)
    | (cases h; done)
    | (split at h <;> cases h <;> rfl)
theorem mkTD_struct {P : Program} {t : TypeId} {d : TypeDesc} {fs : List (Nat × Nat × Nat)} {b : Bool} (h : mkTD P t d = some (.struct fs b)) :
    ∃ gs, d = .struct gs ∧ fieldsTD P gs.toList = some fs ∧ b = (!P.eqGuardType P.depth t && !P.stoodInHeld t && namesOk gs.toList) := by
  cases d <;> simp only [mkTD] at h <;> first
    | (cases h; exact ⟨_, rfl, ‹_›, rfl⟩)
    | (cases h; done)
    | (split at h <;> cases h <;> exact ⟨_, rfl, ‹_›, rfl⟩)
    | (split at h <;> cases h)
theorem mkTD_concrete {P : Program} {t : TypeId} {d : TypeDesc} {td : TD} (h : mkTD P t d = some td) (h1 : td ≠ .iface) : ∀ ms, d ≠ .interface ms := by
  intro ms e
  subst e
  simp only [mkTD] at h
  cases h
  exact h1 rfl
theorem fieldsTD_nth {P : Program} : ∀ {gs : List Field} {fs : List (Nat × Nat × Nat)}, fieldsTD P gs = some fs → ∀ i f, nth fs i = some f → ∃ g j, gs[i]? = some g ∧ f.1 = g.type ∧ f.2.1 = g.offset ∧ P.info? g.type = some j ∧ j.size = f.2.2
  | [], fs, h, i, f, hf => by simp only [fieldsTD] at h; cases h; cases i <;> cases hf
  | g :: gs, fs, h, i, f, hf => by
    simp only [fieldsTD] at h
    split at h
    · cases h
    · rename_i j hj
      split at h
      · cases h
      · rename_i r hr
        cases h
        cases i with
        | zero => cases hf; exact ⟨g, j, rfl, rfl, rfl, hj, rfl⟩
        | succ i => exact fieldsTD_nth hr i f hf

end Go.SX
