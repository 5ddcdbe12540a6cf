/- The symbolic executor SY, its soundness, part 2: values under more letters, frames, operands, types. -/
import Derived.Test.YtolebnomgllgaaaGreatDoorSyF
import Derived.WalkKit
import Derived.Laws.StructEq
set_option linter.unusedVariables false
set_option linter.unusedSimpArgs false
namespace Go.SY
open Go Go.RowKit
noncomputable section
structure Env.le (ρ ρ' : Env) : Prop where
  is : ∃ x, ρ'.is = ρ.is ++ x
  bs : ∃ y, ρ'.bs = ρ.bs ++ y
  fz : ∀ b o, ρ.fz b = some o → ρ'.fz b = some o
theorem Env.le_refl (ρ : Env) : ρ.le ρ := ⟨⟨[], by simp⟩, ⟨[], by simp⟩, fun _ _ h => h⟩
theorem Env.le_trans {a b c : Env} (h : a.le b) (k : b.le c) : a.le c := by
  obtain ⟨⟨x, hx⟩, ⟨y, hy⟩, hz⟩ := h
  obtain ⟨⟨x', hx'⟩, ⟨y', hy'⟩, hz'⟩ := k
  exact ⟨⟨x ++ x', by rw [hx', hx, List.append_assoc]⟩, ⟨y ++ y', by rw [hy', hy, List.append_assoc]⟩, fun b o h => hz' b o (hz b o h)⟩
theorem Env.le.len_is {ρ ρ' : Env} (h : ρ.le ρ') : ρ.is.length ≤ ρ'.is.length := by
  obtain ⟨x, hx⟩ := h.is; rw [hx]; simp
theorem Env.le.len_bs {ρ ρ' : Env} (h : ρ.le ρ') : ρ.bs.length ≤ ρ'.bs.length := by
  obtain ⟨x, hx⟩ := h.bs; rw [hx]; simp
theorem getD_app {α : Type} {l x : List α} {i : Nat} {d : α} (h : i < l.length) : (l ++ x).getD i d = l.getD i d := by
  simp [List.getD, List.getElem?_append_left h]
theorem A.den_app {is x : List Dt} : ∀ {a : A}, a.wf is.length = true → a.den (is ++ x) = a.den is := by
  intro a
  induction a with
  | v i => intro h; simp only [A.den]; have := blt_nat h; rw [getD_app this]
  | n c => intro _; rfl
  | d y => intro _; rfl
  | fld a i ih => intro h; simp only [A.den, ih h]
  | len a ih | slen a ih => intro h; simp only [A.den, ih h]
  | idx a i ih ih' | sidx a i ih ih' => intro h; simp only [A.wf, Bool.and_eq_true] at h; simp only [A.den, ih h.1, ih' h.2]
theorem A.int_app {is x : List Dt} {a : A} (h : a.wf is.length = true) : a.int (is ++ x) = a.int is := by simp only [A.int, A.den_app h]
theorem B.den_app {is x : List Dt} : ∀ {b : B}, b.wf is.length = true → b.den (is ++ x) = b.den is := by
  intro b
  induction b with
  | c _ => intro _; rfl
  | cmp o a b => intro h; simp only [B.wf, Bool.and_eq_true] at h; simp only [B.den, A.int_app h.1, A.int_app h.2]
  | seq a b | slt a b | deq a b => intro h; simp only [B.wf, Bool.and_eq_true] at h; simp only [B.den, A.den_app h.1, A.den_app h.2]
  | is a | nil a => intro h; simp only [B.den, A.den_app h]
  | shp a n => intro h; simp only [B.den, A.den_app h]
  | not b ih => intro h; simp only [B.den, ih h]
  | and a b ih ih' | or a b ih ih' => intro h; simp only [B.wf, Bool.and_eq_true] at h; simp only [B.den, ih h.1, ih' h.2]
theorem Env.b_app {ρ ρ' : Env} (h : ρ.le ρ') {i : Nat} (hi : i < ρ.bs.length) : ρ'.b i = ρ.b i := by
  obtain ⟨y, hy⟩ := h.bs
  simp only [Env.b, hy, getD_app hi]
theorem Env.val_app {ρ ρ' : Env} (h : ρ.le ρ') {i : Nat} (hi : i < ρ.bs.length) : ρ'.val i = ρ.val i := by
  obtain ⟨y, hy⟩ := h.bs
  simp only [Env.val, hy, getD_app hi]
theorem Env.A_app {ρ ρ' : Env} (h : ρ.le ρ') {a : A} (ha : a.wf ρ.is.length = true) : a.den ρ'.is = a.den ρ.is := by
  obtain ⟨x, hx⟩ := h.is
  rw [hx, A.den_app ha]
theorem Env.I_app {ρ ρ' : Env} (h : ρ.le ρ') {a : A} (ha : a.wf ρ.is.length = true) : a.int ρ'.is = a.int ρ.is := by simp only [A.int, Env.A_app h ha]
theorem Env.B_app {ρ ρ' : Env} (h : ρ.le ρ') {b : B} (hb : b.wf ρ.is.length = true) : b.den ρ'.is = b.den ρ.is := by
  obtain ⟨x, hx⟩ := h.is
  rw [hx, B.den_app hb]
theorem Env.rb_app {ρ ρ' : Env} (h : ρ.le ρ') {i : Nat} (hi : i < ρ.bs.length) : ρ'.rb i = ρ.rb i := by
  simp only [Env.rb, Env.val_app h hi, Env.b_app h hi]
mutual
theorem SV.den_app {ρ ρ' : Env} (h : ρ.le ρ') : ∀ {v : SV}, v.wf ρ.is.length ρ.bs.length = true → v.den ρ' = v.den ρ
  | .int k a, hv => by simp only [SV.den]; rw [Env.I_app h (by simpa [SV.wf] using hv)]
  | .bool b, hv => by simp only [SV.den]; rw [Env.B_app h (by simpa [SV.wf] using hv)]
  | .str a, hv => by simp only [SV.den]; rw [Env.A_app h (by simpa [SV.wf] using hv)]
  | .sl b, hv => by simp only [SV.den]; rw [Env.val_app h (blt_nat (by simpa [SV.wf] using hv))]
  | .pt b, hv => by simp only [SV.den]; rw [Env.val_app h (blt_nat (by simpa [SV.wf] using hv))]
  | .ptr b off, hv => by simp only [SV.den]; rw [Env.b_app h (blt_nat (by simpa [SV.wf] using hv))]
  | .rp b s i off p, hv => by
    simp only [SV.wf, Bool.and_eq_true] at hv
    simp only [SV.den]; rw [Env.rb_app h (blt_nat hv.1), Env.I_app h hv.2]
  | .gptr _ _, _ => rfl
  | .nilp, _ => rfl
  | .slice b _ _ _, hv => by simp only [SV.den]; rw [Env.b_app h (blt_nat (by simpa [SV.wf] using hv))]
  | .nilsl, _ => rfl
  | .map b, hv => by simp only [SV.den]; rw [Env.b_app h (blt_nat (by simpa [SV.wf] using hv))]
  | .nilmap, _ => rfl
  | .fn f first cap, hv => by
    simp only [SV.wf, Bool.and_eq_true] at hv
    simp only [SV.den]; rw [SV.dens_app h hv.1, SV.dens_app h hv.2]
  | .nilfn, _ => rfl
  | .agg l, hv => by
    simp only [SV.wf, Bool.and_eq_true] at hv
    simp only [SV.den]; rw [SV.dens_app h hv.1]
  | .tup l, hv => by
    simp only [SV.wf] at hv
    simp only [SV.den]; rw [SV.dens_app h hv]
  | .iface t v, hv => by
    simp only [SV.wf] at hv
    simp only [SV.den]; rw [SV.den_app h hv]
  | .niliface, _ => rfl
  | .gd c w v, hv => by
    simp only [SV.wf, Bool.and_eq_true] at hv
    simp only [SV.den]; rw [Env.B_app h hv.1, SV.den_app h hv.2]
  | .bot, _ => rfl
theorem SV.dens_app {ρ ρ' : Env} (h : ρ.le ρ') : ∀ {l : List SV}, SV.wfs ρ.is.length ρ.bs.length l = true → SV.dens ρ' l = SV.dens ρ l
  | [], _ => rfl
  | v :: l, hv => by
    simp only [SV.wfs, Bool.and_eq_true] at hv
    simp only [SV.dens]; rw [SV.den_app h hv.1, SV.dens_app h hv.2]
end
def B.tyd (is : List Dt) : B → Prop
  | .is x => ∃ t, x.den is = .tru t
  | .not b => b.tyd is
  | _ => True
mutual
def SV.ty (ρ : Env) : SV → Prop
  | .int k a => ∃ n, a.den ρ.is = .num n ∧ k.min ≤ n ∧ n ≤ k.max
  | .str a => ∃ l, a.den ρ.is = .byt l ∧ l.length < 9223372036854775808
  | .bool b => b.tyd ρ.is
  | .fn _ a b => SV.tys ρ a ∧ SV.tys ρ b
  | .agg l | .tup l => SV.tys ρ l
  | .iface _ v => SV.ty ρ v
  | .gd c w v => c.den ρ.is = w → SV.ty ρ v
  | _ => True
def SV.tys (ρ : Env) : List SV → Prop
  | [] => True
  | v :: l => SV.ty ρ v ∧ SV.tys ρ l
end
theorem B.tyd_app {is x : List Dt} : ∀ {b : B}, b.wf is.length = true → b.tyd is → b.tyd (is ++ x) := by
  intro b
  induction b with
  | is a => intro h ht; simp only [B.tyd] at ht ⊢; rw [A.den_app h]; exact ht
  | not b ih => intro h ht; exact ih h ht
  | _ => intro _ _; trivial
mutual
theorem SV.ty_app {ρ ρ' : Env} (h : ρ.le ρ') : ∀ {v : SV}, v.wf ρ.is.length ρ.bs.length = true → v.ty ρ → v.ty ρ'
  | .int k a, hv, ht => by simp only [SV.ty] at ht ⊢; rw [Env.A_app h (by simpa [SV.wf] using hv)]; exact ht
  | .bool b, hv, ht => by
    obtain ⟨x, hx⟩ := h.is
    simp only [SV.ty] at ht ⊢
    rw [hx]; exact B.tyd_app (by simpa [SV.wf] using hv) ht
  | .str a, hv, ht => by simp only [SV.ty] at ht ⊢; rw [Env.A_app h (by simpa [SV.wf] using hv)]; exact ht
  | .fn f a b, hv, ht => by
    simp only [SV.wf, Bool.and_eq_true] at hv
    simp only [SV.ty] at ht ⊢
    exact ⟨SV.tys_app h hv.1 ht.1, SV.tys_app h hv.2 ht.2⟩
  | .agg l, hv, ht => by
    simp only [SV.wf, Bool.and_eq_true] at hv
    simp only [SV.ty] at ht ⊢
    exact SV.tys_app h hv.1 ht
  | .tup l, hv, ht => by
    simp only [SV.wf] at hv
    simp only [SV.ty] at ht ⊢
    exact SV.tys_app h hv ht
  | .iface t v, hv, ht => by
    simp only [SV.wf] at hv
    simp only [SV.ty] at ht ⊢
    exact SV.ty_app h hv ht
  | .gd c w v, hv, ht => by
    simp only [SV.wf, Bool.and_eq_true] at hv
    simp only [SV.ty] at ht ⊢
    intro hc
    rw [Env.B_app h hv.1] at hc
    exact SV.ty_app h hv.2 (ht hc)
  | .sl _, _, _ | .pt _, _, _ | .ptr _ _, _, _ | .rp _ _ _ _ _, _, _ | .gptr _ _, _, _ | .nilp, _, _ | .slice _ _ _ _, _, _ | .nilsl, _, _ | .map _, _, _ | .nilmap, _, _ | .nilfn, _, _ | .niliface, _, _ | .bot, _, _ => trivial
theorem SV.tys_app {ρ ρ' : Env} (h : ρ.le ρ') : ∀ {l : List SV}, SV.wfs ρ.is.length ρ.bs.length l = true → SV.tys ρ l → SV.tys ρ' l
  | [], _, _ => trivial
  | v :: l, hv, ht => by
    simp only [SV.wfs, Bool.and_eq_true] at hv
    exact ⟨SV.ty_app h hv.1 ht.1, SV.tys_app h hv.2 ht.2⟩
end
theorem tys_mem {ρ : Env} : ∀ {l : List SV}, SV.tys ρ l → ∀ v ∈ l, v.ty ρ
  | [], _, _, h => nomatch h
  | u :: l, hl, v, h => by
    rcases List.mem_cons.1 h with rfl | h
    · exact hl.1
    · exact tys_mem hl.2 v h
theorem tys_of_mem {ρ : Env} : ∀ {l : List SV}, (∀ v ∈ l, v.ty ρ) → SV.tys ρ l
  | [], _ => trivial
  | u :: l, h => ⟨h u List.mem_cons_self, tys_of_mem fun v hv => h v (List.mem_cons_of_mem _ hv)⟩
theorem tys_append {ρ : Env} {l m : List SV} (h : SV.tys ρ l) (h' : SV.tys ρ m) : SV.tys ρ (l ++ m) := tys_of_mem fun v hv => (List.mem_append.1 hv).elim (tys_mem h v) (tys_mem h' v)
theorem cellsOf_ty {ρ : Env} {v : SV} {cs : List SV} (h : v.cellsOf = some cs) (hv : v.ty ρ) : SV.tys ρ cs := by
  cases v <;> simp only [SV.cellsOf] at h <;> cases h <;> first | exact hv | exact ⟨hv, trivial⟩
theorem B.tyd_mkNot {is : List Dt} {b : B} (h : b.tyd is) : b.mkNot.tyd is := by cases b <;> exact h
theorem B.tyd_mkAnd {is : List Dt} {x y : B} (h : x.tyd is) (h' : x.den is = true → y.tyd is) : (x.mkAnd y).tyd is := by
  unfold B.mkAnd
  split <;> first | exact h | exact h' rfl | trivial
theorem B.tyd_mkOr {is : List Dt} {x y : B} (h : x.tyd is) (h' : x.den is = false → y.tyd is) : (x.mkOr y).tyd is := by
  unfold B.mkOr
  split <;> first | exact h | exact h' rfl | trivial
theorem B.tyd_mkIs {is : List Dt} {b : B} (h : b.tyd is) (w : Bool) : (b.mkIs w).tyd is := by
  unfold B.mkIs; cases w
  · exact B.tyd_mkNot h
  · exact h
theorem B.tyd_mkEq {is : List Dt} (x y : A) : (B.mkEq x y).tyd is := by
  unfold B.mkEq
  cases (x.lit && y.lit)
  · cases x.beq y <;> trivial
  · trivial
theorem B.tyd_mkLt {is : List Dt} (x y : A) : (B.mkLt x y).tyd is := by
  unfold B.mkLt
  cases (x.lit && y.lit)
  · cases (x.beq y || negLen x y) <;> trivial
  · trivial
theorem tyd_eqB {is : List Dt} {x y : B} (h : x.tyd is) (h' : y.tyd is) : (eqB x y).tyd is := by
  unfold eqB
  split <;> first
    | exact h
    | exact h'
    | exact B.tyd_mkNot h
    | exact B.tyd_mkNot h'
    | trivial
theorem tyd_mkSeq {is : List Dt} (x y : A) : (mkSeq x y).tyd is := by
  unfold mkSeq B.fold
  cases x.beq y
  · simp only [cond_false]
    cases (B.seq x y).lit <;> trivial
  · trivial
theorem tyd_mkSlt {is : List Dt} (x y : A) : (mkSlt x y).tyd is := by
  unfold mkSlt B.fold
  cases (B.slt x y).lit <;> trivial
theorem tyd_nilA {is : List Dt} (x : A) : (nilA x).tyd is := by
  unfold nilA B.fold
  cases (B.nil x).lit <;> trivial
theorem tyd_pick {is : List Dt} {c x y : B} (h : c.tyd is) (h1 : c.den is = true → x.tyd is) (h2 : c.den is = false → y.tyd is) : (B.mkOr (.mkAnd c x) (.mkAnd c.mkNot y)).tyd is :=
  B.tyd_mkOr (B.tyd_mkAnd h h1) fun _ => B.tyd_mkAnd (B.tyd_mkNot h) fun hc => h2 (by rw [B.den_mkNot] at hc; simpa using hc)
theorem tyd_pickB {is : List Dt} {c x y : B} (h : c.tyd is) (h1 : c.den is = true → x.tyd is) (h2 : c.den is = false → y.tyd is) : (pickB c x y).tyd is := by
  unfold pickB
  split
  · exact B.tyd_mkOr h h2
  · exact B.tyd_mkAnd h h1
  · exact tyd_pick h h1 h2
theorem A.wf_mono {n m : Nat} (h : n ≤ m) : ∀ {a : A}, a.wf n = true → a.wf m = true := by
  intro a
  induction a with
  | v i => intro ha; have := blt_nat ha; exact (Nat.ble_eq.mpr (by omega : i + 1 ≤ m))
  | n c => intro _; rfl
  | d x => intro _; rfl
  | fld a i ih => intro ha; exact ih ha
  | len a ih | slen a ih => intro ha; exact ih ha
  | idx a i ih ih' | sidx a i ih ih' => intro ha; simp only [A.wf, Bool.and_eq_true] at ha ⊢; exact ⟨ih ha.1, ih' ha.2⟩
theorem B.wf_mono {n m : Nat} (h : n ≤ m) : ∀ {b : B}, b.wf n = true → b.wf m = true := by
  intro b
  induction b with
  | c _ => intro _; rfl
  | cmp _ x y | seq x y | slt x y | deq x y => intro hb; simp only [B.wf, Bool.and_eq_true] at hb ⊢; exact ⟨A.wf_mono h hb.1, A.wf_mono h hb.2⟩
  | is a | nil a => intro hb; simp only [B.wf] at hb ⊢; exact A.wf_mono h hb
  | shp a n => intro hb; simp only [B.wf] at hb ⊢; exact A.wf_mono h hb
  | not b ih => intro hb; simp only [B.wf] at hb ⊢; exact ih hb
  | and x y ih ih' | or x y ih ih' => intro hb; simp only [B.wf, Bool.and_eq_true] at hb ⊢; exact ⟨ih hb.1, ih' hb.2⟩
theorem blt_mono {a n m : Nat} (h : n ≤ m) (ha : Nat.blt a n = true) : Nat.blt a m = true := by
  have := blt_nat ha; exact (Nat.ble_eq.mpr (by omega : a + 1 ≤ m))
mutual
theorem SV.wf_mono {n m n' m' : Nat} (h : n ≤ m) (h' : n' ≤ m') : ∀ {v : SV}, v.wf n n' = true → v.wf m m' = true
  | .int k a, hv | .str a, hv => by simp only [SV.wf] at hv ⊢; exact A.wf_mono h hv
  | .bool b, hv => by simp only [SV.wf] at hv ⊢; exact B.wf_mono h hv
  | .gptr _ _, _ | .nilp, _ | .nilsl, _ | .nilmap, _ | .nilfn, _ | .niliface, _ => rfl
  | .sl b, hv | .pt b, hv | .ptr b _, hv | .slice b _ _ _, hv | .map b, hv => by simp only [SV.wf] at hv ⊢; exact blt_mono h' hv
  | .rp b _ i _ _, hv => by
    simp only [SV.wf, Bool.and_eq_true] at hv ⊢
    exact ⟨blt_mono h' hv.1, A.wf_mono h hv.2⟩
  | .fn f first cap, hv => by
    simp only [SV.wf, Bool.and_eq_true] at hv ⊢
    exact ⟨SV.wfs_mono h h' hv.1, SV.wfs_mono h h' hv.2⟩
  | .agg l, hv => by
    simp only [SV.wf, Bool.and_eq_true] at hv ⊢
    exact ⟨SV.wfs_mono h h' hv.1, hv.2⟩
  | .tup l, hv => by simp only [SV.wf] at hv ⊢; exact SV.wfs_mono h h' hv
  | .iface t v, hv => by simp only [SV.wf] at hv ⊢; exact SV.wf_mono h h' hv
  | .gd c w v, hv => by
    simp only [SV.wf, Bool.and_eq_true] at hv ⊢
    exact ⟨B.wf_mono h hv.1, SV.wf_mono h h' hv.2⟩
  | .bot, hv => by cases hv
theorem SV.wfs_mono {n m n' m' : Nat} (h : n ≤ m) (h' : n' ≤ m') : ∀ {l : List SV}, SV.wfs n n' l = true → SV.wfs m m' l = true
  | [], _ => rfl
  | v :: l, hv => by
    simp only [SV.wfs, Bool.and_eq_true] at hv ⊢
    exact ⟨SV.wf_mono h h' hv.1, SV.wfs_mono h h' hv.2⟩
end
theorem dens_length (ρ : Env) : ∀ l : List SV, (SV.dens ρ l).length = l.length
  | [] => rfl
  | v :: l => by simp [SV.dens, dens_length ρ l]
theorem dens_getElem? (ρ : Env) : ∀ (l : List SV) (i : Nat), (SV.dens ρ l)[i]? = (l[i]?).map (SV.den ρ)
  | [], i => by simp [SV.dens]
  | v :: l, 0 => by simp [SV.dens]
  | v :: l, i + 1 => by simp [SV.dens, dens_getElem? ρ l i]
theorem dens_append (ρ : Env) : ∀ (l m : List SV), SV.dens ρ (l ++ m) = SV.dens ρ l ++ SV.dens ρ m
  | [], m => rfl
  | v :: l, m => by simp [SV.dens, dens_append ρ l m]
theorem dens_drop (ρ : Env) : ∀ (n : Nat) (l : List SV), SV.dens ρ (l.drop n) = (SV.dens ρ l).drop n
  | 0, l => rfl
  | n + 1, [] => rfl
  | n + 1, v :: l => by simp [SV.dens, dens_drop ρ n l]
theorem dens_take (ρ : Env) : ∀ (n : Nat) (l : List SV), SV.dens ρ (l.take n) = (SV.dens ρ l).take n
  | 0, l => rfl
  | n + 1, [] => rfl
  | n + 1, v :: l => by simp [SV.dens, dens_take ρ n l]
theorem wfs_mem {ni nb : Nat} : ∀ {l : List SV}, SV.wfs ni nb l = true → ∀ v ∈ l, v.wf ni nb = true
  | [], _, _, h => by cases h
  | u :: l, hl, v, h => by
    simp only [SV.wfs, Bool.and_eq_true] at hl
    rcases List.mem_cons.1 h with rfl | h
    · exact hl.1
    · exact wfs_mem hl.2 v h
theorem wfs_of_mem {ni nb : Nat} : ∀ {l : List SV}, (∀ v ∈ l, v.wf ni nb = true) → SV.wfs ni nb l = true
  | [], _ => rfl
  | u :: l, h => by
    simp only [SV.wfs, Bool.and_eq_true]
    exact ⟨h u List.mem_cons_self, wfs_of_mem fun v hv => h v (List.mem_cons_of_mem _ hv)⟩
theorem allCell_mem : ∀ {l : List SV}, allCell l = true → ∀ v ∈ l, v.cell = true
  | [], _, _, h => by cases h
  | u :: l, hl, v, h => by
    simp only [allCell, Bool.and_eq_true] at hl
    rcases List.mem_cons.1 h with rfl | h
    · exact hl.1
    · exact allCell_mem hl.2 v h
theorem allCell_of_mem : ∀ {l : List SV}, (∀ v ∈ l, v.cell = true) → allCell l = true
  | [], _ => rfl
  | u :: l, h => by
    simp only [allCell, Bool.and_eq_true]
    exact ⟨h u List.mem_cons_self, allCell_of_mem fun v hv => h v (List.mem_cons_of_mem _ hv)⟩
theorem one1_one (v : Value) : (one1 v).oneCell' = true := by unfold one1; split <;> rfl
theorem one1_cells (v : Value) : (one1 v).cells = #[one1 v] := by unfold one1; split <;> rfl
theorem SV.oneCell_of_cell {v : SV} (h : v.cell = true) (ρ : Env) : (v.den ρ).oneCell' = true := by
  cases v <;> first | rfl | exact one1_one (ρ.bs.getD _ (0, undef)).2 | cases h
theorem SV.cells_of_cell {v : SV} (h : v.cell = true) (ρ : Env) : (v.den ρ).cells = #[v.den ρ] := by
  cases v <;> first | rfl | exact one1_cells (ρ.bs.getD _ (0, undef)).2 | cases h
theorem cellsOf_spec {v : SV} {cs : List SV} (h : v.cellsOf = some cs) (ρ : Env) : (v.den ρ).cells = (SV.dens ρ cs).toArray := by
  cases v <;> simp only [SV.cellsOf] at h <;> cases h <;> first | rfl | exact one1_cells (ρ.bs.getD _ (0, undef)).2
theorem cellsOf_wf {v : SV} {cs : List SV} (h : v.cellsOf = some cs) {ni nb : Nat} (hv : v.wf ni nb = true) : SV.wfs ni nb cs = true ∧ allCell cs = true := by
  cases v <;> simp only [SV.cellsOf] at h <;> cases h <;> first
    | (simp only [SV.wf, Bool.and_eq_true] at hv; exact hv)
    | exact ⟨by simp only [SV.wfs, hv, Bool.and_self], rfl⟩
    | exact ⟨by simp only [SV.wfs, Bool.and_true]; exact hv, rfl⟩
def TmOk (ρ : Env) (ni nb : Nat) (tm : Tm) (a : Act) : Prop :=
  ∀ i v, tm.get i = some v → i < a.tmps.size ∧ (v = .bot ∨ (v.wf ni nb = true ∧ v.ty ρ ∧ a.tmps.getD i undef = v.den ρ))
theorem TmOk.app {ρ ρ' : Env} {tm : Tm} {a : Act} (h : TmOk ρ ρ.is.length ρ.bs.length tm a) (hl : ρ.le ρ') : TmOk ρ' ρ'.is.length ρ'.bs.length tm a := by
  intro i v hv
  obtain ⟨h1, h2⟩ := h i v hv
  refine ⟨h1, h2.imp id fun ⟨h3, h5, h4⟩ => ?_⟩
  exact ⟨SV.wf_mono hl.len_is hl.len_bs h3, SV.ty_app hl h3 h5, by rw [h4, SV.den_app hl h3]⟩
theorem TmOk.put {ρ : Env} {ni nb : Nat} {tm : Tm} {a : Act} (h : TmOk ρ ni nb tm a) {d : Nat} {u v : SV} (hd : tm.get d = some u) (hv : v = .bot ∨ v.wf ni nb = true) {x : Value} (hx : v = .bot ∨ (v.ty ρ ∧ x = v.den ρ)) :
    TmOk ρ ni nb (tm.put d v) (a.put (some d) x) := by
  intro i y hy
  have hsz : d < a.tmps.size := (h d u hd).1
  rcases Tb.get_put hy with ⟨rfl, rfl⟩ | ⟨hne, hg⟩
  · refine ⟨by simpa [Act.put] using hsz, ?_⟩
    rcases hv with rfl | hv
    · exact .inl rfl
    · rcases hx with rfl | hx
      · exact .inl rfl
      · exact .inr ⟨hv, hx.1, by simp [Act.put, hsz, hx.2]⟩
  · obtain ⟨h1, h2⟩ := h i y hg
    refine ⟨by simpa [Act.put] using h1, h2.imp id fun ⟨h3, h5, h4⟩ => ⟨h3, h5, ?_⟩⟩
    rw [← h4]
    simp [Act.put, Array.getElem?_setIfInBounds_ne (show d ≠ i from fun e => hne e.symm)]
theorem SV.den_under {ρ : Env} {pc : List (B × Bool)} (hp : PcOk ρ.is pc) (v : SV) : (v.under pc).den ρ = v.den ρ := by
  unfold SV.under
  split
  · rename_i c w u
    split
    · rename_i hk
      have := B.known_ok hp hk
      rw [B.den_mkIs] at this
      simp only [SV.den]
      rw [if_pos (by simpa using this)]
    · rfl
  · rfl
theorem SV.wf_under {ni nb : Nat} {pc : List (B × Bool)} {v : SV} (h : v.wf ni nb = true) : (v.under pc).wf ni nb = true := by
  unfold SV.under
  split
  · rename_i c w u
    split
    · simp only [SV.wf, Bool.and_eq_true] at h; exact h.2
    · exact h
  · exact h
theorem SV.ty_under {ρ : Env} {pc : List (B × Bool)} (hp : PcOk ρ.is pc) {v : SV} (h : v.ty ρ) : (v.under pc).ty ρ := by
  unfold SV.under
  split
  · rename_i c w u
    split
    · rename_i hk
      have := B.known_ok hp hk
      rw [B.den_mkIs] at this
      exact h (by simpa using this)
    · exact h
  · exact h
theorem ofVal1_spec {v : Value} {s : SV} (h : ofVal1 v = some s) (ρ : Env) (ni nb : Nat) : s.den ρ = v ∧ s.wf ni nb = true ∧ s.cell = true ∧ s.ty ρ := by
  unfold ofVal1 at h
  split at h
  · rename_i k n
    cases hc : (decide (k.min ≤ n) && decide (n ≤ k.max)) <;> rw [hc] at h <;> simp only [cond_true, cond_false] at h <;> cases h
    simp only [Bool.and_eq_true, decide_eq_true_eq] at hc
    exact ⟨rfl, rfl, rfl, n, rfl, hc⟩
  · cases h; exact ⟨rfl, rfl, rfl, trivial⟩
  · rename_i s
    cases hc : decide (s.data.toList.length < 9223372036854775808) <;> rw [hc] at h <;> simp only [cond_true, cond_false] at h <;> cases h
    exact ⟨rfl, rfl, rfl, _, rfl, of_decide_eq_true hc⟩
  all_goals (cases h; try exact ⟨rfl, rfl, rfl, trivial⟩)
theorem ofVals_spec : ∀ {l : List Value} {r : List SV}, ofVals l = some r → ∀ (ρ : Env) (ni nb : Nat), SV.dens ρ r = l ∧ SV.wfs ni nb r = true ∧ allCell r = true ∧ SV.tys ρ r
  | [], r, h, _, _, _ => by simp only [ofVals] at h; cases h; exact ⟨rfl, rfl, rfl, trivial⟩
  | v :: l, r, h, ρ, ni, nb => by
    simp only [ofVals] at h
    split at h
    · cases h
    · rename_i s hs
      split at h
      · cases h
      · rename_i t ht
        cases h
        obtain ⟨h1, h2, h3, h4⟩ := ofVal1_spec hs ρ ni nb
        obtain ⟨g1, g2, g3, g4⟩ := ofVals_spec ht ρ ni nb
        exact ⟨by simp [SV.dens, h1, g1], by simp [SV.wfs, h2, g2], by simp [allCell, h3, g3], h4, g4⟩
theorem ofVal_spec {v : Value} {s : SV} (h : ofVal v = some s) (ρ : Env) (ni nb : Nat) : s.den ρ = v ∧ s.wf ni nb = true ∧ s.ty ρ := by
  unfold ofVal at h
  split at h
  · split at h
    · rename_i l hl
      cases h
      obtain ⟨h1, h2, h3, h4⟩ := ofVals_spec hl ρ ni nb
      exact ⟨by simp [SV.den, h1], by simp [SV.wf, h2, h3], h4⟩
    · cases h
  · split at h
    · rename_i l hl
      cases h
      obtain ⟨h1, h2, h3, h4⟩ := ofVals_spec hl ρ ni nb
      exact ⟨by simp [SV.den, h1], by simp [SV.wf, h2], h4⟩
    · cases h
  · obtain ⟨h1, h2, _, h4⟩ := ofVal1_spec h ρ ni nb
    exact ⟨h1, h2, h4⟩
def TyOk (P : Program) (ty : Ty) : Prop := ∀ t e, ty.get t = some e → (e.d.isH = true ∧ e.zero = none ∧ e.size = 1 ∧ ∃ x, P.underlying (SY.un t) = some (.slice x)) ∨ (SY.un t = t ∧ mkTE P t = some { e with d := e.d.un })
theorem un_agg (d : TD) : d.un.agg = d.agg := by cases d <;> rfl
theorem TyOk.info {P : Program} {ty : Ty} (h : TyOk P ty) {t : Nat} {e : TE} (he : ty.get t = some e) (hh : e.d.isH = false) :
    ∃ d i, P.underlying t = some d ∧ P.info? t = some i ∧ mkTD P t d = some e.d.un ∧ i.size = e.size ∧ i.bytes = e.bytes ∧ (∀ z, e.zero = some z → ∃ v, i.zero = some v ∧ ofVals v.cells.toList = some z ∧ zeroOf e.d v = some z) := by
  rcases h t e he with ⟨h1, _⟩ | ⟨_, this⟩
  · rw [h1] at hh; cases hh
  unfold mkTE at this
  split at this
  · rename_i d i hd hi
    split at this
    · rename_i td htd
      simp only [Option.some.injEq, TE.mk.injEq] at this
      obtain ⟨e1, e2, e3, e4⟩ := this
      refine ⟨d, i, hd, hi, by rw [← e1]; exact htd, e2, e3, fun z hz => ?_⟩
      rw [← e4] at hz
      split at hz
      · rename_i v hv
        have ha' : e.d.agg = td.agg := by rw [e1, un_agg]
        have hzo : zeroOf e.d v = zeroOf td v := by unfold zeroOf; rw [ha']
        refine ⟨v, hv, ?_, by rw [hzo]; exact hz⟩
        unfold zeroOf at hz
        cases ha : td.agg <;> rw [ha] at hz <;> simp only [cond_true, cond_false] at hz
        · split at hz <;> cases hz
          rename_i s hs
          have : v.cells = #[v] := by cases v <;> first | rfl | (simp [ofVal1] at hs)
          rw [this]
          simp [ofVals, hs]
        · split at hz
          · exact hz
          · cases hz
      · cases hz
    · cases this
  · cases this
theorem mkTD_noH {P : Program} {t : TypeId} {d : TypeDesc} {td : TD} (h : mkTD P t d = some td) : td.isH = false := by
  cases d <;> simp only [mkTD] at h <;> first
    | (cases h; rfl)
    | (cases h; done)
    | (split at h <;> cases h <;> rfl)
theorem un_isH (d : TD) : d.un.isH = d.isH := by cases d <;> rfl
theorem TyOk.infoZ {P : Program} {ty : Ty} (h : TyOk P ty) {t : Nat} {e : TE} (he : ty.get t = some e) {z : List SV} (hz : e.zero = some z) : e.d.isH = false := by
  rcases h t e he with ⟨_, h1, _⟩ | ⟨_, this⟩
  · rw [hz] at h1; cases h1
  · unfold mkTE at this
    split at this
    · split at this
      · rename_i td htd
        simp only [Option.some.injEq, TE.mk.injEq] at this
        have h2 := mkTD_noH htd
        rw [this.1, un_isH] at h2
        exact h2
      · cases this
    · cases this
theorem TyOk.infoH {P : Program} {ty : Ty} (h : TyOk P ty) {t : Nat} {e : TE} (he : ty.get t = some e) (hh : e.d.isH = true) : e.zero = none ∧ e.size = 1 ∧ ∃ x, P.underlying (SY.un t) = some (.slice x) := by
  rcases h t e he with ⟨_, h1⟩ | ⟨_, this⟩
  · exact h1
  · unfold mkTE at this
    split at this
    · split at this
      · rename_i td htd
        simp only [Option.some.injEq, TE.mk.injEq] at this
        have h2 := mkTD_noH htd
        rw [this.1, un_isH, hh] at h2
        cases h2
      · cases this
    · cases this
theorem TD.noAgg_of_isH {d : TD} (h : d.isH = true) : d.agg = false := by cases d <;> first | rfl | cases h
theorem TyOk.un {P : Program} {ty : Ty} (h : TyOk P ty) {t : Nat} {e : TE} (he : ty.get t = some e) (hh : e.d.isH = false) : SY.un t = t := by
  rcases h t e he with ⟨h1, _⟩ | ⟨h1, _⟩
  · rw [h1] at hh; cases hh
  · exact h1
theorem mkTD_agg {P : Program} {t : TypeId} {d : TypeDesc} {td : TD} (h : mkTD P t d = some td) : (match d with | .struct _ | .array _ _ => true | _ => false) = td.agg := by
  cases d <;> simp only [mkTD] at h <;> first
    | (cases h; rfl)
    | (cases h; done)
    | (split at h <;> cases h <;> rfl)
theorem mkTD_bool {P : Program} {t : TypeId} {d : TypeDesc} (h : mkTD P t d = some .bool) : d = .bool := by
  cases d <;> simp only [mkTD] at h <;> first
    | (cases h; rfl)
    | (cases h; done)
    | (split at h <;> cases h <;> rfl)
theorem mkTD_int {P : Program} {t : TypeId} {d : TypeDesc} {k : IntKind} (h : mkTD P t d = some (.int k)) : d = .int k := by
  cases d <;> simp only [mkTD] at h <;> first
    | (cases h; rfl)
    | (cases h; done)
    | (split at h <;> cases h <;> rfl)
theorem mkTD_str {P : Program} {t : TypeId} {d : TypeDesc} (h : mkTD P t d = some .str) : d = .string := by
  cases d <;> simp only [mkTD] at h <;> first
    | (cases h; rfl)
    | (cases h; done)
    | (split at h <;> cases h <;> rfl)
theorem mkTD_func {P : Program} {t : TypeId} {d : TypeDesc} (h : mkTD P t d = some .func) : ∃ a b c, d = .func a b c := by
  cases d <;> simp only [mkTD] at h <;> first
    | (cases h; exact ⟨_, _, _, rfl⟩)
    | (cases h; done)
    | (split at h <;> cases h <;> exact ⟨_, _, _, rfl⟩)
    | (split at h <;> cases h)
theorem mkTD_slice {P : Program} {t : TypeId} {d : TypeDesc} {e n : Nat} (h : mkTD P t d = some (.slice e n)) : d = .slice e ∧ ∃ i, P.info? e = some i ∧ i.size = n := by
  cases d <;> simp only [mkTD] at h <;> first
    | (cases h; exact ⟨rfl, _, ‹_›, rfl⟩)
    | (cases h; done)
    | (split at h <;> cases h <;> exact ⟨rfl, _, ‹_›, rfl⟩)
    | (split at h <;> cases h)
theorem mkTD_arr {P : Program} {t : TypeId} {d : TypeDesc} {m e n : Nat} (h : mkTD P t d = some (.arr m e n)) : d = .array m e ∧ ∃ i, P.info? e = some i ∧ i.size = n := by
  cases d <;> simp only [mkTD] at h <;> first
    | (cases h; exact ⟨rfl, _, ‹_›, rfl⟩)
    | (cases h; done)
    | (split at h <;> cases h <;> exact ⟨rfl, _, ‹_›, rfl⟩)
    | (split at h <;> cases h)
theorem mkTD_map {P : Program} {t : TypeId} {d : TypeDesc} {k e : Nat} (h : mkTD P t d = some (.map k e)) : d = .map k e := by
  cases d <;> simp only [mkTD] at h <;> first
    | (cases h; rfl)
    | (cases h; done)
    | (split at h <;> cases h <;> rfl)
theorem mkTD_struct {P : Program} {t : TypeId} {d : TypeDesc} {fs : List (Nat × Nat × Nat)} {b : Bool} (h : mkTD P t d = some (.struct fs b)) :
    ∃ gs, d = .struct gs ∧ fieldsTD P gs.toList = some fs ∧ b = (!P.eqGuardType P.depth t && !P.stoodInHeld t && namesOk gs.toList) := by
  cases d <;> simp only [mkTD] at h <;> first
    | (cases h; exact ⟨_, rfl, ‹_›, rfl⟩)
    | (cases h; done)
    | (split at h <;> cases h <;> exact ⟨_, rfl, ‹_›, rfl⟩)
    | (split at h <;> cases h)
theorem mkTD_concrete {P : Program} {t : TypeId} {d : TypeDesc} {td : TD} (h : mkTD P t d = some td) (h1 : td ≠ .iface) : ∀ ms, d ≠ .interface ms := by
  intro ms e
  subst e
  simp only [mkTD] at h
  cases h
  exact h1 rfl
theorem nth_unF : ∀ {fs : List (Nat × Nat × Nat)} {i : Nat} {f : Nat × Nat × Nat}, nth fs i = some f → nth (unF fs) i = some (SY.un f.1, f.2.1, f.2.2)
  | [], i, f, h => by cases i <;> cases h
  | x :: fs, 0, f, h => by cases h; rfl
  | x :: fs, i + 1, f, h => nth_unF (fs := fs) (i := i) h
theorem fieldsTD_nth {P : Program} : ∀ {gs : List Field} {fs : List (Nat × Nat × Nat)}, fieldsTD P gs = some fs → ∀ i f, nth fs i = some f → ∃ g j, gs[i]? = some g ∧ f.1 = g.type ∧ f.2.1 = g.offset ∧ P.info? g.type = some j ∧ j.size = f.2.2
  | [], fs, h, i, f, hf => by simp only [fieldsTD] at h; cases h; cases i <;> cases hf
  | g :: gs, fs, h, i, f, hf => by
    simp only [fieldsTD] at h
    split at h
    · cases h
    · rename_i j hj
      split at h
      · cases h
      · rename_i r hr
        cases h
        cases i with
        | zero => cases hf; exact ⟨g, j, rfl, rfl, rfl, hj, rfl⟩
        | succ i => exact fieldsTD_nth hr i f hf
end
end Go.SY
