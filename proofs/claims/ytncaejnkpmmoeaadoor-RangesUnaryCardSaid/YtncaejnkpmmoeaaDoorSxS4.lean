/- The symbolic executor SX, its soundness, part 4: pure operations, on. -/
import Derived.Test.YtncaejnkpmmoeaaDoorSxS3
set_option linter.unusedVariables false
set_option linter.unusedSimpArgs false
namespace Go.SX
open Go Go.RowKit

variable {P : Program} {ty : Ty} {ρ : Env} {ni nb : Nat} {pc : List (B × Bool)} {tm : Tm} {a : Act} {o : Oper} {v : SV} {d : Bd}

theorem run_info {t : TypeId} {i : TypeInfo} (h : P.info? t = some i) (w : World) : (typeInfo t).run P w = .ok i w := by simp [typeInfo, h]
theorem run_size {t : TypeId} {i : TypeInfo} (h : P.info? t = some i) (w : World) : (sizeOf t).run P w = .ok i.size w := by simp [sizeOf, run_info h]
theorem run_agg {t : TypeId} {e : TE} {dd : TypeDesc} (hu : P.underlying t = some dd) (hm : mkTD P t dd = some e.d) (w : World) : (isAgg t).run P w = .ok e.d.agg w := by
  rw [← mkTD_agg hm]
  simp only [isAgg, Sem.run_bind, run_underlying hu, Result.andThen_ok]
  cases dd <;> rfl

theorem partL_ok (hty : TyOk P ty) {t : TypeId} {cs : List SV} {off : Nat} {v : SV} (h : partL ty t cs off = some v) (ρ : Env) (w : World) : (part t (SV.dens ρ cs).toArray off).run P w = .ok (v.den ρ) w := by
  unfold partL at h
  split at h
  · cases h
  · rename_i e he
    obtain ⟨dd, i, hu, hi, hm, hs, _, _⟩ := hty.info he
    simp only [part, Sem.run_bind, run_agg hu hm, Result.andThen_ok]
    cases ha : e.d.agg
    · rw [ha] at h
      simp only [cond_false] at h
      rw [nth_eq] at h
      have := dens_getElem? ρ cs off
      rw [h] at this
      simp [this]
    · rw [ha] at h
      simp only [cond_true] at h
      split at h <;> cases h
      rename_i l hl
      rw [dropN_eq] at hl
      obtain ⟨h1, rfl⟩ := takeN_eq _ _ _ hl
      simp only [if_true, Sem.run_bind, run_size hi, Result.andThen_ok, Sem.run_pure, hs, SV.den]
      congr 2
      rw [dens_take, dens_drop, List.extract_toArray]
      simp [List.extract_eq_take_drop]
theorem partL_wf (hty : TyOk P ty) {t : TypeId} {cs : List SV} {off : Nat} {v : SV} (h : partL ty t cs off = some v) {ni nb : Nat} (hw : SV.wfs ni nb cs = true) : v.wf ni nb = true ∨ ∃ l, v = .agg l := by
  unfold partL at h
  split at h
  · cases h
  · rename_i e he
    cases ha : e.d.agg
    · rw [ha] at h
      simp only [cond_false] at h
      rw [nth_eq] at h
      exact .inl (wfs_mem hw v (List.mem_of_getElem? h))
    · rw [ha] at h
      simp only [cond_true] at h
      split at h <;> cases h
      exact .inr ⟨_, rfl⟩

mutual
theorem eqV_ok (hty : TyOk P ty) (ρ : Env) : ∀ (d : Nat) {t : TypeId} {x y : SV} {b : B}, eqV ty d t x y = some b → ∀ (D : Nat), d ≤ D → ∀ w, (Op.equalIn D t (x.den ρ) (y.den ρ)).run P w = .ok (b.den ρ.is) w
  | 0, t, x, y, b, h, _, _, _ => by simp [eqV] at h
  | d + 1, t, x, y, b, h, 0, hD, w => by omega
  | d + 1, t, x, y, b, h, D + 1, hD, w => by
    simp only [eqV] at h
    split at h
    · cases h
    · rename_i e he
      obtain ⟨dd, i, hu, hi, hm, hs, _, _⟩ := hty.info he
      split at h
      · rename_i hd
        rw [hd] at hm
        cases mkTD_bool hm
        split at h <;> cases h
        rw [den_eqB]
        exact run_equalIn_bool' w D t _ _ hu
      · rename_i hd
        rw [hd] at hm
        cases mkTD_int hm
        split at h
        · rename_i k a k' b'
          cases hk : kindEq k k'
          · rw [hk] at h; cases h
          · rw [hk] at h
            cases kindEq_eq hk
            cases h
            rw [B.den_mkEq]
            exact run_equalIn_int w D t k _ _ _ hu
        · cases h
      · rename_i fs hd
        rw [hd] at hm
        obtain ⟨gs, rfl, hf, hb⟩ := mkTD_struct hm
        split at h
        · rename_i xs ys
          simp only [eq_comm (a := true), Bool.and_eq_true, Bool.not_eq_true'] at hb
          have hgs : P.fieldsOf t = gs := by simp [Program.fieldsOf, hu]
          have := run_equalIn_struct (P := P) w D t (SV.dens ρ xs).toArray (SV.dens ρ ys).toArray (by rw [hgs]; exact hu) hb.1.2
          simp only [SV.den]
          rw [this, hgs]
          exact eqFs_ok hty ρ d h hf hb.2 D (by omega) w
        · cases h
      · cases h
theorem eqFs_ok (hty : TyOk P ty) (ρ : Env) : ∀ (d : Nat) {fs : List (Nat × Nat × Nat)} {xs ys : List SV} {b : B}, eqFs ty d fs xs ys = some b → ∀ {gs : List Field}, fieldsTD P gs = some fs → namesOk gs = true → ∀ (D : Nat), d ≤ D → ∀ w,
    (Op.eqFields D (SV.dens ρ xs).toArray (SV.dens ρ ys).toArray gs).run P w = .ok (b.den ρ.is) w
  | 0, fs, xs, ys, b, h, _, _, _, _, _, _ => by simp [eqFs] at h
  | d + 1, [], xs, ys, b, h, gs, hg, _, D, hD, w => by
    simp only [eqFs] at h
    cases h
    cases gs with
    | nil => simp [Op.eqFields, B.den]
    | cons g gs =>
      simp only [fieldsTD] at hg
      split at hg
      · cases hg
      · split at hg <;> cases hg
  | d + 1, f :: fs, xs, ys, b, h, gs, hg, hn, D, hD, w => by
    cases gs with
    | nil => simp [fieldsTD] at hg
    | cons g gs =>
      simp only [fieldsTD] at hg
      split at hg
      · cases hg
      · rename_i j hj
        split at hg
        · cases hg
        · rename_i r hr
          cases hg
          simp only [namesOk, Bool.and_eq_true, Bool.not_eq_true', beq_eq_false_iff_ne] at hn
          simp only [eqFs] at h
          split at h
          · rename_i x y hx hy
            split at h
            · rename_i b1 hb1
              split at h
              · rename_i b2 hb2
                cases h
                have h1 := eqV_ok hty ρ d hb1 D (by omega) w
                have h2 := eqFs_ok hty ρ d hb2 hr hn.2 D (by omega) w
                simp only [Op.eqFields, Sem.run_ite, Sem.run_bind, partL_ok hty hx ρ, partL_ok hty hy ρ, Result.andThen_ok, h1, h2, B.den_mkAnd]
                rw [if_pos hn.1]
                cases b1.den ρ.is <;> simp
              · cases h
            · cases h
          · cases h
end

theorem eql_fn (t : TypeId) (w : World) {p q : Array TypeId} {r : Bool} (hu : P.underlying t = some (.func p q r)) (x : Value) (hx : (∃ f c e, x = .func f c e) ∨ x = .nilFunc) :
    (Op.equal t x .nilFunc).run P w = .ok (match x with | .nilFunc => true | _ => false) w := by
  have key : ∀ D, (Op.equalIn (D + 1) t x .nilFunc).run P w = .ok (match x with | .nilFunc => true | _ => false) w := by
    intro D
    rcases hx with ⟨f, c, e, rfl⟩ | rfl <;> simp [Op.equalIn, run_underlying hu]
  exact key 9999
theorem eql_bool (t : TypeId) (w : World) (hu : P.underlying t = some .bool) (x y : Bool) : (Op.equal t (.bool x) (.bool y)).run P w = .ok (x == y) w :=
  run_equalIn_bool' w 9999 t x y hu
/-- '==' and '!='. -/
theorem eqAny_ok (hty : TyOk P ty) {t : TypeId} {x y : SV} {b : B} (h : eqAny ty t x y = some b) (ρ : Env) (X Y : Operand) (w : World) :
    (do eqGuard .eql t X Y (x.den ρ) (y.den ρ); binOp .eql t (x.den ρ) (y.den ρ)).run P w = .ok (.bool (b.den ρ.is)) w ∧
    (do eqGuard .neq t X Y (x.den ρ) (y.den ρ); binOp .neq t (x.den ρ) (y.den ρ)).run P w = .ok (.bool (!b.den ρ.is)) w := by
  unfold eqAny at h
  split at h
  · rename_i k a k' c
    cases hk : kindEq k k'
    · rw [hk] at h; cases h
    · rw [hk] at h
      cases kindEq_eq hk
      cases h
      rw [B.den_mkEq]
      constructor
      · simp [eqGuard, SV.den, binOp, Op.intCmp]
      · simp [eqGuard, SV.den, binOp, Op.intCmp, bne]
  · split at h
    · rename_i he
      cases h
      obtain ⟨dd, i, hu, hi, hm, hs, _, _⟩ := hty.info he
      obtain ⟨p, q, r, rfl⟩ := mkTD_func hm
      constructor
      · simp only [eqGuard, SV.den, binOp, Sem.run_bind, B.den]
        simp [eql_fn t w hu _ (.inl ⟨_, _, _, rfl⟩)]
      · simp only [eqGuard, SV.den, binOp, Sem.run_bind, B.den]
        simp [eql_fn t w hu _ (.inl ⟨_, _, _, rfl⟩)]
    · cases h
  · split at h
    · rename_i he
      cases h
      obtain ⟨dd, i, hu, hi, hm, hs, _, _⟩ := hty.info he
      obtain ⟨p, q, r, rfl⟩ := mkTD_func hm
      constructor
      · simp only [eqGuard, SV.den, binOp, Sem.run_bind, B.den]
        simp [eql_fn t w hu _ (.inr rfl)]
      · simp only [eqGuard, SV.den, binOp, Sem.run_bind, B.den]
        simp [eql_fn t w hu _ (.inr rfl)]
    · cases h
  · rename_i xs ys
    have h1 := eqV_ok hty ρ 40 h 10000 (by omega) w
    have hg : P.eqGuardType P.depth t = false := by
      simp only [eqV] at h
      split at h
      · cases h
      · rename_i e he
        obtain ⟨dd, i, hu, hi, hm, hs, _, _⟩ := hty.info he
        split at h
        · cases h
        · cases h
        · rename_i fs hd
          rw [hd] at hm
          obtain ⟨gs, rfl, hf, hb⟩ := mkTD_struct hm
          simp only [eq_comm (a := true), Bool.and_eq_true, Bool.not_eq_true'] at hb
          exact hb.1.1
        · cases h
    simp only [SV.den] at h1
    constructor
    · simp only [SV.den, Sem.run_bind, run_eqGuard_agg w .eql t X Y _ _ hg, Result.andThen_ok, run_eql_struct, h1]
    · simp only [SV.den, Sem.run_bind, run_eqGuard_agg w .neq t X Y _ _ hg, Result.andThen_ok, run_neq_struct, h1]
  · split at h
    · rename_i he
      cases h
      obtain ⟨dd, i, hu, hi, hm, hs, _, _⟩ := hty.info he
      cases mkTD_bool hm
      rw [den_eqB]
      constructor
      · simp only [eqGuard, SV.den, binOp, Sem.run_bind]
        simp [eql_bool t w hu]
      · simp only [eqGuard, SV.den, binOp, Sem.run_bind]
        simp [eql_bool t w hu]
    · cases h
  · cases h

theorem cmpB_ok {op : BinOp} {x y : A} {b : B} (h : cmpB op x y = some b) (is : List Int) (w : World) : (Op.intCmp op (x.den is) (y.den is)).run P w = .ok (.bool (b.den is)) w := by
  cases op <;> simp only [cmpB] at h <;> cases h <;> simp [Op.intCmp, B.den_mkLt, B.den_mkNot]
  · by_cases hh : y.den is < x.den is <;> simp [hh] <;> omega
  · by_cases hh : x.den is < y.den is <;> simp [hh] <;> omega

theorem bitsOf_and (k : IntKind) (x y : Int) (w : World) : (Op.intBits .and k x y).run P w = .ok (.int k (bitsOf k (· &&& ·) x y)) w := rfl
theorem bitsOf_or (k : IntKind) (x y : Int) (w : World) : (Op.intBits .or k x y).run P w = .ok (.int k (bitsOf k (· ||| ·) x y)) w := rfl
theorem bitsOf_xor (k : IntKind) (x y : Int) (w : World) : (Op.intBits .xor k x y).run P w = .ok (.int k (bitsOf k (· ^^^ ·) x y)) w := rfl
theorem bitsOf_clr (k : IntKind) (x y : Int) (w : World) : (Op.intBits .andNot k x y).run P w = .ok (.int k (bitsOf k (fun a b => a &&& ~~~b) x y)) w := rfl

theorem run_binOp_int {op : BinOp} (h : op ≠ .shl) (h' : op ≠ .shr) (t : TypeId) (k : IntKind) (x y : Int) : binOp op t (.int k x) (.int k y) = (match op with
    | .add | .sub | .mul => Op.intArith op k x y
    | .quo | .rem => Op.intDiv op k x y
    | .and | .or | .xor | .andNot => Op.intBits op k x y
    | _ => Op.intCmp op x y) := by
  cases op <;> first | (exact absurd rfl h) | (exact absurd rfl h') | simp [binOp]
theorem run_shift {op : BinOp} (h : op = .shl ∨ op = .shr) (t : TypeId) (k k' : IntKind) (x y : Int) : binOp op t (.int k x) (.int k' y) = Op.shift op k x k' y := by
  rcases h with rfl | rfl <;> rfl
theorem binE_ok {op : BinOp} {k k' : IntKind} {x y : A} {e : E} (h : binE op k x y = some e) (hk : (kindEq k k' || shOp op) = true) (is : List Int) (t : TypeId) (w : World) :
    (binOp op t (.int k (x.den is)) (.int k' (y.den is))).run P w = .ok (.int k (e.den is)) w := by
  cases hs : shOp op
  · rw [hs, Bool.or_false] at hk
    cases kindEq_eq hk
    rw [run_binOp_int (by rintro rfl; cases hs) (by rintro rfl; cases hs)]
    cases op <;> simp only [binE] at h <;> (try (cases h; done)) <;> (try (cases hs; done))
    case add => cases h; rfl
    case sub => cases h; rfl
    case mul => cases h; rfl
    case and => cases h; exact bitsOf_and k _ _ w
    case or => cases h; exact bitsOf_or k _ _ w
    case xor => cases h; exact bitsOf_xor k _ _ w
    case andNot => cases h; exact bitsOf_clr k _ _ w
    case quo =>
      cases y with
      | v i => simp at h
      | n c =>
        simp only at h
        cases hz : (c == 0)
        · rw [hz] at h
          cases h
          have : ¬ c = 0 := by simpa using hz
          simp [Op.intDiv, A.den, this, E.den]
        · rw [hz] at h; cases h
    case rem =>
      cases y with
      | v i => simp at h
      | n c =>
        simp only at h
        cases hz : (c == 0)
        · rw [hz] at h
          cases h
          have : ¬ c = 0 := by simpa using hz
          simp [Op.intDiv, A.den, this, E.den]
        · rw [hz] at h; cases h
  · have hsh : op = .shl ∨ op = .shr := by cases op <;> simp_all [shOp]
    rw [run_shift hsh]
    rcases hsh with rfl | rfl
    · simp only [binE] at h
      cases y with
      | v i => simp at h
      | n c =>
        simp only at h
        cases hz : decide (c < 0)
        · rw [hz] at h
          cases h
          have : ¬ c < 0 := by simpa using hz
          simp [Op.shift, A.den, this, E.den]
        · rw [hz] at h; cases h
    · simp only [binE] at h
      cases y with
      | v i => simp at h
      | n c =>
        simp only at h
        cases hz : decide (c < 0)
        · rw [hz] at h
          cases h
          have : ¬ c < 0 := by simpa using hz
          simp [Op.shift, A.den, this, E.den]
        · rw [hz] at h; cases h

theorem pBinOp_ok (hty : TyOk P ty) (hc : Cx ρ ni nb pc tm a) {op : BinOp} {t yt : TypeId} {x y : Operand} (ho : o.op = .binOp op t x y yt) (h : pBinOp ty tm ni pc op t x y = some (v, d)) : Pure P o a ρ v d := by
  unfold pBinOp at h
  simp only at h
  split at h
  · rename_i vx vy hx hy
    obtain ⟨ex, wx⟩ := hc.ev hx
    obtain ⟨ey, wy⟩ := hc.ev hy
    split at h
    · split at h <;> cases h
      rename_i b hb
      refine Pure.plain hc.hni fun w => ?_
      have := (eqAny_ok hty hb ρ x y w).1
      unfold execOp
      simp only [ho, ex, ey]
      rw [Sem.run_bind, this]; rfl
    · split at h <;> cases h
      rename_i b hb
      refine Pure.plain hc.hni fun w => ?_
      have := (eqAny_ok hty hb ρ x y w).2
      unfold execOp
      simp only [ho, ex, ey]
      rw [Sem.run_bind, this]
      simp [SV.den, B.den_mkNot]
    · rename_i hne1 hne2
      split at h
      · rename_i k p k' q
        cases hkk : (kindEq k k' || shOp op)
        · rw [hkk] at h; cases h
        · rw [hkk] at h
          simp only [cond_true] at h
          have hg : ∀ w, (eqGuard op t x y (.int k (p.den ρ.is)) (.int k' (q.den ρ.is))).run P w = .ok () w := by
            intro w
            cases op <;> simp [eqGuard]
          split at h
          · rename_i b hb
            cases h
            have hsh : op ≠ .shl ∧ op ≠ .shr := by constructor <;> (rintro rfl; simp [cmpB] at hb)
            have hk : k = k' := by
              have : shOp op = false := by cases op <;> first | rfl | (exfalso; exact hsh.1 rfl) | (exfalso; exact hsh.2 rfl)
              rw [this, Bool.or_false] at hkk
              exact kindEq_eq hkk
            subst hk
            refine Pure.plain hc.hni fun w => ?_
            unfold execOp
            simp only [ho, ex, ey, SV.den, Sem.run_bind, hg, Result.andThen_ok]
            rw [run_binOp_int hsh.1 hsh.2]
            have hcm := cmpB_ok (P := P) hb ρ.is w
            cases op <;> simp only [cmpB] at hb <;> (try (cases hb; done)) <;> simp only [hcm, Result.andThen_ok, Sem.run_pure]
          · split at h
            · rename_i e he
              cases h
              obtain ⟨h1, h2, h3, _, _⟩ := bind_spec (is := ρ.is) hc.hni (d := ⟨ni, []⟩) (by simp) e
              refine ⟨by rw [hc.hni]; exact h1, fun w => ?_⟩
              unfold execOp
              simp only [ho, ex, ey, SV.den, Sem.run_bind, hg, Result.andThen_ok, binE_ok (P := P) he hkk ρ.is t w, Sem.run_pure, h3]
              rfl
            · cases h
      · cases h
  · cases h

end Go.SX
