/- The symbolic executor SY, its soundness, part 6: types at work; equality; operators. -/
import Derived.Test.YtolebnomgllgaaaGreatDoorSyS5
import Derived.Laws.Closers25b
import Derived.Laws.Tables
set_option linter.unusedVariables false
set_option linter.unusedSimpArgs false
namespace Go.SY
open Go Go.RowKit
noncomputable section
variable {P : Program} {ty : Ty} {pl : Bool} {ρ ρ1 ρ2 : Env} {p : Pu} {a : Act} {o : Oper} {v : SV} {d d' : Bd}
theorem run_info {t : TypeId} {i : TypeInfo} (h : P.info? t = some i) (w : World) : (typeInfo t).run P w = .ok i w := by simp [typeInfo, h]
theorem run_size {t : TypeId} {i : TypeInfo} (h : P.info? t = some i) (w : World) : (sizeOf t).run P w = .ok i.size w := by simp [sizeOf, run_info h]
theorem run_agg {t : TypeId} {e : TE} {dd : TypeDesc} (hu : P.underlying t = some dd) (hm : mkTD P t dd = some e.d.un) (w : World) : (isAgg t).run P w = .ok e.d.agg w := by
  rw [← un_agg, ← mkTD_agg hm]
  simp only [isAgg, Sem.run_bind, run_underlying hu, Result.andThen_ok]
  cases dd <;> rfl
theorem partL_ok' (hty : TyOk P ty) {t : TypeId} {cs : List SV} {off : Nat} {v : SV} (h : partL ty t cs off = some v) (ρ : Env) (w : World) : (part (un t) (SV.dens ρ cs).toArray off).run P w = .ok (v.den ρ) w := by
  unfold partL at h
  split at h
  · cases h
  · rename_i e he
    cases hh : e.d.isH
    case true =>
      obtain ⟨_, _, x, hx⟩ := hty.infoH he hh
      rw [TD.noAgg_of_isH hh] at h
      simp only [cond_false] at h
      rw [nth_eq] at h
      have := dens_getElem? ρ cs off
      rw [h] at this
      simp [part, isAgg, run_underlying hx, this]
    have hut := hty.un he hh
    rw [hut]
    obtain ⟨dd, i, hu, hi, hm, hs, _, _⟩ := hty.info he hh
    simp only [part, Sem.run_bind, run_agg hu hm, Result.andThen_ok]
    cases ha : e.d.agg
    · rw [ha] at h
      simp only [cond_false] at h
      rw [nth_eq] at h
      have := dens_getElem? ρ cs off
      rw [h] at this
      simp [this]
    · rw [ha] at h
      simp only [cond_true] at h
      split at h <;> cases h
      rename_i l hl
      rw [dropN_eq] at hl
      obtain ⟨h1, rfl⟩ := takeN_eq _ _ _ hl
      simp only [if_true, Sem.run_bind, run_size hi, Result.andThen_ok, Sem.run_pure, hs, SV.den]
      congr 2
      rw [dens_take, dens_drop, List.extract_toArray]
      simp [List.extract_eq_take_drop]
theorem toList_beq (x y : List UInt8) : ((⟨x.toArray⟩ : ByteArray) == ⟨y.toArray⟩) = (x == y) := by
  rw [beq_toListBytes, ByteArray.toList_eq, ByteArray.toList_eq]
theorem run_equalIn_str (w : World) (D : Nat) (t : TypeId) (x y : List UInt8) (hu : P.underlying t = some .string) : (Op.equalIn (D + 1) t (bytesOf x) (bytesOf y)).run P w = .ok (x == y) w := by
  simp only [Op.equalIn, bytesOf, Sem.run_bind, run_underlying hu, Result.andThen_ok, Sem.run_pure, toList_beq]
mutual
theorem eqV_ok' (hty : TyOk P ty) (ρ : Env) : ∀ (d : Nat) {t : TypeId} {x y : SV} {b : B}, eqV ty d t x y = some b → ∀ (D : Nat), d ≤ D → ∀ w, (Op.equalIn D (un t) (x.den ρ) (y.den ρ)).run P w = .ok (b.den ρ.is) w
  | 0, t, x, y, b, h, _, _, _ => by simp [eqV] at h
  | d + 1, t, x, y, b, h, 0, hD, w => by omega
  | d + 1, t, x, y, b, h, D + 1, hD, w => by
    simp only [eqV] at h
    split at h
    · cases h
    · rename_i e he
      have hh : e.d.isH = false := by
        cases hb : e.d.isH
        · rfl
        · exfalso
          cases hd : e.d <;> rw [hd] at hb h <;> first | (cases hb; done) | cases h
      obtain ⟨dd, i, hu, hi, hm, hs, _, _⟩ := hty.info he hh
      rw [hty.un he hh]
      split at h
      · rename_i hd
        rw [hd] at hm
        cases mkTD_bool hm
        split at h <;> cases h
        rw [den_eqB]
        exact run_equalIn_bool' w D t _ _ hu
      · rename_i hd
        rw [hd] at hm
        cases mkTD_int hm
        split at h
        · rename_i k a k' b'
          cases hk : kindEq k k'
          · rw [hk] at h; cases h
          · rw [hk] at h
            cases kindEq_eq hk
            cases h
            rw [B.den_mkEq]
            exact run_equalIn_int w D t k _ _ _ hu
        · cases h
      · rename_i hd
        rw [hd] at hm
        cases mkTD_str hm
        split at h <;> cases h
        rw [den_mkSeq]
        exact run_equalIn_str w D t _ _ hu
      · rename_i fs hd
        rw [hd] at hm
        obtain ⟨gs, rfl, hf, hb⟩ := mkTD_struct hm
        split at h
        · rename_i xs ys
          simp only [eq_comm (a := true), Bool.and_eq_true, Bool.not_eq_true'] at hb
          have hgs : P.fieldsOf t = gs := by simp [Program.fieldsOf, hu]
          have := run_equalIn_struct (P := P) w D t (SV.dens ρ xs).toArray (SV.dens ρ ys).toArray (by rw [hgs]; exact hu) hb.1.2
          simp only [SV.den]
          rw [this, hgs]
          exact eqFs_ok hty ρ d h hf hb.2 D (by omega) w
        · cases h
      · cases h
theorem eqFs_ok (hty : TyOk P ty) (ρ : Env) : ∀ (d : Nat) {fs : List (Nat × Nat × Nat)} {xs ys : List SV} {b : B}, eqFs ty d fs xs ys = some b → ∀ {gs : List Field}, fieldsTD P gs = some (unF fs) → namesOk gs = true → ∀ (D : Nat), d ≤ D → ∀ w,
    (Op.eqFields D (SV.dens ρ xs).toArray (SV.dens ρ ys).toArray gs).run P w = .ok (b.den ρ.is) w
  | 0, fs, xs, ys, b, h, _, _, _, _, _, _ => by simp [eqFs] at h
  | d + 1, [], xs, ys, b, h, gs, hg, _, D, hD, w => by
    simp only [eqFs] at h
    cases h
    cases gs with
    | nil => simp [Op.eqFields, B.den]
    | cons g gs =>
      simp only [fieldsTD] at hg
      split at hg
      · cases hg
      · split at hg
        · cases hg
        · simp [unF] at hg
  | d + 1, f :: fs, xs, ys, b, h, gs, hg, hn, D, hD, w => by
    cases gs with
    | nil => simp [fieldsTD, unF] at hg
    | cons g gs =>
      simp only [fieldsTD] at hg
      split at hg
      · cases hg
      · rename_i j hj
        split at hg
        · cases hg
        · rename_i r hr
          simp only [unF, Option.some.injEq, List.cons.injEq, Prod.mk.injEq] at hg
          obtain ⟨⟨g1, g2, g3⟩, rfl⟩ := hg
          simp only [namesOk, Bool.and_eq_true, Bool.not_eq_true', beq_eq_false_iff_ne] at hn
          simp only [eqFs] at h
          split at h
          · rename_i x y hx hy
            split at h
            · rename_i b1 hb1
              split at h
              · rename_i b2 hb2
                cases h
                have h1 := eqV_ok' hty ρ d hb1 D (by omega) w
                have h2 := eqFs_ok hty ρ d hb2 hr hn.2 D (by omega) w
                simp only [Op.eqFields, Sem.run_ite, Sem.run_bind, g1, g2, partL_ok' hty hx ρ, partL_ok' hty hy ρ, Result.andThen_ok, h1, h2, B.den_mkAnd]
                rw [if_pos hn.1]
                cases b1.den ρ.is <;> simp
              · cases h
            · cases h
          · cases h
end
theorem eqV_noH {d : Nat} {t : TypeId} {x y : SV} {b : B} (h : eqV ty d t x y = some b) {e : TE} (he : ty.get t = some e) : e.d.isH = false := by
  cases d with
  | zero => simp [eqV] at h
  | succ d =>
    simp only [eqV, he] at h
    cases hb : e.d.isH
    · rfl
    · exfalso
      cases hd : e.d <;> rw [hd] at hb h <;> first | (cases hb; done) | cases h
theorem eqV_ok (hty : TyOk P ty) (ρ : Env) (d : Nat) {t : TypeId} {x y : SV} {b : B} (h : eqV ty d t x y = some b) (D : Nat) (hD : d ≤ D) (w : World) : (Op.equalIn D t (x.den ρ) (y.den ρ)).run P w = .ok (b.den ρ.is) w := by
  have := eqV_ok' hty ρ d h D hD w
  cases he : ty.get t with
  | none => cases d <;> simp [eqV, he] at h
  | some e => rwa [hty.un he (eqV_noH h he)] at this
theorem tdOf_info (hty : TyOk P ty) {t : TypeId} {td : TD} (h : tdOf ty t = td) (hn : td ≠ .other) (hh : td.isH = false := by rfl) : ∃ e dd i, ty.get t = some e ∧ e.d = td ∧ P.underlying t = some dd ∧ P.info? t = some i ∧ mkTD P t dd = some td.un ∧ i.size = e.size := by
  unfold tdOf at h
  split at h
  · rename_i e he
    obtain ⟨dd, i, hu, hi, hm, hs, _, _⟩ := hty.info he (by rw [h]; exact hh)
    exact ⟨e, dd, i, he, h, hu, hi, h ▸ hm, hs⟩
  · exact absurd h.symm hn
theorem un_of (hty : TyOk P ty) {t : TypeId} {td : TD} (h : tdOf ty t = td) (hn : td ≠ .other) (hh : td.isH = false := by rfl) : un t = t := by
  obtain ⟨e, _, _, he, hd, _⟩ := tdOf_info hty h hn hh
  exact hty.un he (by rw [hd]; exact hh)
theorem mkTD_iface {P : Program} {t : TypeId} {d : TypeDesc} (h : mkTD P t d = some .iface) : ∃ ms, d = .interface ms := by
  cases d <;> simp only [mkTD] at h <;> first
    | (cases h; exact ⟨_, rfl⟩)
    | (cases h; done)
    | (split at h <;> cases h)
theorem eql_of (t : TypeId) (X Y : Operand) (x y : Value) (b : Bool) (w : World) (hg : ∀ op, (eqGuard op t X Y x y).run P w = .ok () w) (hb : (binOp .eql t x y).run P w = .ok (.bool b) w) (hb' : (binOp .neq t x y).run P w = .ok (.bool (!b)) w) :
    (do eqGuard .eql t X Y x y; binOp .eql t x y).run P w = .ok (.bool b) w ∧ (do eqGuard .neq t X Y x y; binOp .neq t x y).run P w = .ok (.bool (!b)) w := by
  constructor
  · rw [Sem.run_bind, hg, Result.andThen_ok, hb]
  · rw [Sem.run_bind, hg, Result.andThen_ok, hb']
theorem eql_equal (t : TypeId) (x y : Value) (b : Bool) (w : World) (hk : (binOp .eql t x y) = (do pure (.bool (← Op.equal t x y)))) (hk' : (binOp .neq t x y) = (do pure (.bool (!(← Op.equal t x y))))) (h : ∀ D, (Op.equalIn (D + 1) t x y).run P w = .ok b w) :
    (binOp .eql t x y).run P w = .ok (.bool b) w ∧ (binOp .neq t x y).run P w = .ok (.bool (!b)) w := by
  have := h 9999
  rw [hk, hk']
  simp only [Op.equal, Sem.run_bind]
  rw [show Op.maxDepth = 9999 + 1 from rfl, this]
  exact ⟨rfl, rfl⟩
theorem eqAny_ok (hty : TyOk P ty) {mem : Tb SO} {ni nb : Nat} (hm : ∀ i o, mem.get i = some o → i < nb ∧ o.wf ni nb = true ∧ GhOk ty ρ i o) {pc : List (B × Bool)} (hp : PcOk ρ.is pc) {t : TypeId} {x y : SV} {b : B} (X Y : Operand) (h : eqAny ty mem pc (isCon X || isCon Y) t x y = some b) (w : World) :
    (do eqGuard .eql t X Y (x.den ρ) (y.den ρ); binOp .eql t (x.den ρ) (y.den ρ)).run P w = .ok (.bool (b.den ρ.is)) w ∧
    (do eqGuard .neq t X Y (x.den ρ) (y.den ρ); binOp .neq t (x.den ρ) (y.den ρ)).run P w = .ok (.bool (!b.den ρ.is)) w := by
  unfold eqAny at h
  split at h
  · rename_i k a k' c
    cases hk : kindEq k k'
    · rw [hk] at h; cases h
    · rw [hk] at h
      cases kindEq_eq hk
      cases h
      rw [B.den_mkEq]
      constructor
      · simp [eqGuard, SV.den, binOp, Op.intCmp]
      · simp [eqGuard, SV.den, binOp, Op.intCmp, bne]
  · split at h <;> cases h
    rename_i x y htd
    rw [den_mkSeq]
    constructor
    · simp [eqGuard, SV.den, bytesOf, binOp, Op.stringOp, ByteArray.toList_eq]
    · simp [eqGuard, SV.den, bytesOf, binOp, Op.stringOp, ByteArray.toList_eq]
  · split at h <;> cases h
    rename_i htd
    obtain ⟨_, dd, _, _, _, hu, _, hmt, _⟩ := tdOf_info hty htd (by simp)
    obtain ⟨q1, q2, q3, rfl⟩ := mkTD_func hmt
    obtain ⟨g1, g2⟩ := eql_equal (P := P) t (SV.den ρ (.fn _ _ _)) (SV.den ρ .nilfn) false w rfl rfl (fun D => by simp [Op.equalIn, run_underlying hu, SV.den])
    exact eql_of t X Y _ _ _ w (fun op => by cases op <;> simp [eqGuard, SV.den]) g1 g2
  · split at h <;> cases h
    rename_i htd
    obtain ⟨_, dd, _, _, _, hu, _, hmt, _⟩ := tdOf_info hty htd (by simp)
    obtain ⟨q1, q2, q3, rfl⟩ := mkTD_func hmt
    obtain ⟨g1, g2⟩ := eql_equal (P := P) t (SV.den ρ .nilfn) (SV.den ρ .nilfn) true w rfl rfl (fun D => by simp [Op.equalIn, run_underlying hu, SV.den])
    exact eql_of t X Y _ _ _ w (fun op => by cases op <;> simp [eqGuard, SV.den]) g1 g2
  · split at h <;> cases h
    rename_i htd
    obtain ⟨_, dd, _, _, _, hu, _, hmt, _⟩ := tdOf_info hty htd (by simp)
    cases mkTD_map hmt
    obtain ⟨g1, g2⟩ := eql_equal (P := P) t (SV.den ρ (.map _)) (SV.den ρ .nilmap) false w rfl rfl (fun D => by simp [Op.equalIn, run_underlying hu, SV.den])
    exact eql_of t X Y _ _ _ w (fun op => by cases op <;> simp [eqGuard, SV.den]) g1 g2
  · split at h <;> cases h
    rename_i htd
    obtain ⟨_, dd, _, _, _, hu, _, hmt, _⟩ := tdOf_info hty htd (by simp)
    cases mkTD_map hmt
    obtain ⟨g1, g2⟩ := eql_equal (P := P) t (SV.den ρ .nilmap) (SV.den ρ .nilmap) true w rfl rfl (fun D => by simp [Op.equalIn, run_underlying hu, SV.den])
    exact eql_of t X Y _ _ _ w (fun op => by cases op <;> simp [eqGuard, SV.den]) g1 g2
  · split at h <;> cases h
    rename_i htd
    obtain ⟨_, dd, _, _, _, hu, _, hmt, _⟩ := tdOf_info hty htd (by simp)
    obtain ⟨ms, rfl⟩ := mkTD_iface hmt
    obtain ⟨g1, g2⟩ := eql_equal (P := P) t (SV.den ρ (.iface _ _)) (SV.den ρ .niliface) false w rfl rfl (fun D => by simp [Op.equalIn, run_underlying hu, SV.den])
    exact eql_of t X Y _ _ _ w (fun op => by cases op <;> simp [eqGuard, SV.den]) g1 g2
  · split at h <;> cases h
    rename_i htd hcon
    obtain ⟨_, dd, _, _, _, hu, _, hmt, _⟩ := tdOf_info hty htd (by simp)
    obtain ⟨ms, rfl⟩ := mkTD_iface hmt
    obtain ⟨g1, g2⟩ := eql_equal (P := P) t (SV.den ρ .niliface) (SV.den ρ .niliface) true w rfl rfl (fun D => by simp [Op.equalIn, run_underlying hu, SV.den])
    refine eql_of t X Y _ _ _ w (fun op => ?_) g1 g2
    simp only [Bool.or_eq_true] at hcon
    cases X <;> cases Y <;> first
      | (exfalso; simp [isCon] at hcon; done)
      | (cases op <;> simp [eqGuard, SV.den])
  · rename_i i
    split at h
    · rename_i htd
      split at h <;> cases h
      rename_i x hx
      obtain ⟨_, dd, _, _, _, hu, _, hmt, _⟩ := tdOf_info hty htd (by simp)
      obtain ⟨rfl, _⟩ := mkTD_slice hmt
      rw [den_nilA]
      rcases slA_ok hm hp hx with ⟨h1, h2⟩ | ⟨l, ad, cap, h1, h2, _⟩
      · rw [h1, h2]
        obtain ⟨g1, g2⟩ := eql_equal (P := P) t (.slice none 0 0) (SV.den ρ .nilsl) true w rfl rfl (fun D => by simp [Op.equalIn, run_underlying hu, SV.den])
        exact eql_of t X Y _ _ _ w (fun op => by cases op <;> simp [eqGuard, SV.den]) g1 g2
      · rw [h1, h2]
        obtain ⟨g1, g2⟩ := eql_equal (P := P) t (.slice (some ad) l.length cap) (SV.den ρ .nilsl) false w rfl rfl (fun D => by simp [Op.equalIn, run_underlying hu, SV.den])
        exact eql_of t X Y _ _ _ w (fun op => by cases op <;> simp [eqGuard, SV.den]) g1 g2
    · cases h
  · split at h <;> cases h
    rename_i htd
    obtain ⟨_, dd, _, _, _, hu, _, hmt, _⟩ := tdOf_info hty htd (by simp)
    obtain ⟨rfl, _⟩ := mkTD_slice hmt
    obtain ⟨g1, g2⟩ := eql_equal (P := P) t (SV.den ρ .nilsl) (SV.den ρ .nilsl) true w rfl rfl (fun D => by simp [Op.equalIn, run_underlying hu, SV.den])
    exact eql_of t X Y _ _ _ w (fun op => by cases op <;> simp [eqGuard, SV.den]) g1 g2
  · rename_i xs ys
    have h0 := h
    have h1 := eqV_ok hty ρ 60 h 10000 (by omega) w
    have hg : P.eqGuardType P.depth t = false := by
      simp only [eqV] at h
      split at h
      · cases h
      · rename_i e he
        obtain ⟨dd, i, hu, hi, hm, hs, _, _⟩ := hty.info he (eqV_noH h0 he)
        split at h
        · cases h
        · cases h
        · cases h
        · rename_i fs hd
          rw [hd] at hm
          obtain ⟨gs, rfl, hf, hb⟩ := mkTD_struct hm
          simp only [eq_comm (a := true), Bool.and_eq_true, Bool.not_eq_true'] at hb
          exact hb.1.1
        · cases h
    simp only [SV.den] at h1
    constructor
    · simp only [SV.den, Sem.run_bind, run_eqGuard_agg w .eql t X Y _ _ hg, Result.andThen_ok, run_eql_struct, h1]
    · simp only [SV.den, Sem.run_bind, run_eqGuard_agg w .neq t X Y _ _ hg, Result.andThen_ok, run_neq_struct, h1]
  · split at h <;> cases h
    rename_i q1 q2 _ htd
    obtain ⟨_, dd, _, _, _, hu, _, hmt, _⟩ := tdOf_info hty htd (by simp)
    cases mkTD_bool hmt
    rw [den_eqB]
    obtain ⟨g1, g2⟩ := eql_equal (P := P) t (SV.den ρ (.bool q1)) (SV.den ρ (.bool q2)) _ w rfl rfl (fun D => run_equalIn_bool' w D t _ _ hu)
    exact eql_of t X Y _ _ _ w (fun op => by cases op <;> simp [eqGuard, SV.den]) g1 g2
  · cases h
theorem cmpB_ok {op : BinOp} {x y : A} {b : B} (h : cmpB op x y = some b) (is : List Dt) (w : World) : (Op.intCmp op (x.int is) (y.int is)).run P w = .ok (.bool (b.den is)) w := by
  cases op <;> simp only [cmpB] at h <;> cases h <;> simp [Op.intCmp, B.den_mkLt, B.den_mkNot]
  · by_cases hh : y.int is < x.int is <;> simp [hh] <;> omega
  · by_cases hh : x.int is < y.int is <;> simp [hh] <;> omega
theorem bitsOf_and (k : IntKind) (x y : Int) (w : World) : (Op.intBits .and k x y).run P w = .ok (.int k (bitsOf k (· &&& ·) x y)) w := rfl
theorem bitsOf_or (k : IntKind) (x y : Int) (w : World) : (Op.intBits .or k x y).run P w = .ok (.int k (bitsOf k (· ||| ·) x y)) w := rfl
theorem bitsOf_xor (k : IntKind) (x y : Int) (w : World) : (Op.intBits .xor k x y).run P w = .ok (.int k (bitsOf k (· ^^^ ·) x y)) w := rfl
theorem bitsOf_clr (k : IntKind) (x y : Int) (w : World) : (Op.intBits .andNot k x y).run P w = .ok (.int k (bitsOf k (fun a b => a &&& ~~~b) x y)) w := rfl
theorem run_binOp_int {op : BinOp} (h : op ≠ .shl) (h' : op ≠ .shr) (t : TypeId) (k : IntKind) (x y : Int) : binOp op t (.int k x) (.int k y) = (match op with
    | .add | .sub | .mul => Op.intArith op k x y
    | .quo | .rem => Op.intDiv op k x y
    | .and | .or | .xor | .andNot => Op.intBits op k x y
    | _ => Op.intCmp op x y) := by
  cases op <;> first | (exact absurd rfl h) | (exact absurd rfl h') | simp [binOp]
theorem run_shift {op : BinOp} (h : op = .shl ∨ op = .shr) (t : TypeId) (k k' : IntKind) (x y : Int) : binOp op t (.int k x) (.int k' y) = Op.shift op k x k' y := by
  rcases h with rfl | rfl <;> rfl
theorem int_n (c : Int) (is : List Dt) : (A.n c).int is = c := rfl
theorem binE_ok {op : BinOp} {k k' : IntKind} {x y : A} {e : E} (h : binE op k x y = some e) (hk : (kindEq k k' || shOp op) = true) (is : List Dt) (t : TypeId) (w : World) :
    (binOp op t (.int k (x.int is)) (.int k' (y.int is))).run P w = .ok (.int k (e.den is).int) w := by
  cases hs : shOp op
  · rw [hs, Bool.or_false] at hk
    cases kindEq_eq hk
    rw [run_binOp_int (by rintro rfl; cases hs) (by rintro rfl; cases hs)]
    cases op <;> simp only [binE] at h <;> (try (cases h; done)) <;> (try (cases hs; done))
    case add => cases h; rfl
    case sub => cases h; rfl
    case mul => cases h; rfl
    case and => cases h; exact bitsOf_and k _ _ w
    case or => cases h; exact bitsOf_or k _ _ w
    case xor => cases h; exact bitsOf_xor k _ _ w
    case andNot => cases h; exact bitsOf_clr k _ _ w
    case quo =>
      cases y with
      | n c =>
        simp only at h
        cases hz : (c == 0)
        · rw [hz] at h
          cases h
          have : ¬ c = 0 := by simpa using hz
          simp [Op.intDiv, int_n, this, E.den, Dt.int]
        · rw [hz] at h; cases h
      | _ => simp at h
    case rem =>
      cases y with
      | n c =>
        simp only at h
        cases hz : (c == 0)
        · rw [hz] at h
          cases h
          have : ¬ c = 0 := by simpa using hz
          simp [Op.intDiv, int_n, this, E.den, Dt.int]
        · rw [hz] at h; cases h
      | _ => simp at h
  · have hsh : op = .shl ∨ op = .shr := by cases op <;> simp_all [shOp]
    rw [run_shift hsh]
    rcases hsh with rfl | rfl
    · simp only [binE] at h
      cases y with
      | n c =>
        simp only at h
        cases hz : decide (c < 0)
        · rw [hz] at h
          cases h
          have : ¬ c < 0 := by simpa using hz
          simp [Op.shift, int_n, this, E.den, Dt.int]
        · rw [hz] at h; cases h
      | _ => simp at h
    · simp only [binE] at h
      cases y with
      | n c =>
        simp only at h
        cases hz : decide (c < 0)
        · rw [hz] at h
          cases h
          have : ¬ c < 0 := by simpa using hz
          simp [Op.shift, int_n, this, E.den, Dt.int]
        · rw [hz] at h; cases h
      | _ => simp at h
theorem bytesLess_bsLt : ∀ (x y : List UInt8), Op.bytesLess x y = bsLt x y
  | [], [] => rfl
  | [], _ :: _ => rfl
  | _ :: _, [] => rfl
  | a :: x, b :: y => by
    simp only [Op.bytesLess, bsLt, bytesLess_bsLt x y]
    have e1 : Nat.blt a.toNat b.toNat = decide (a < b) := by
      rw [Bool.eq_iff_iff, decide_eq_true_iff, UInt8.lt_iff_toNat_lt]
      exact ⟨fun h => blt_nat h, fun h => Nat.ble_eq.mpr h⟩
    have e2 : Nat.beq a.toNat b.toNat = (a == b) := by
      rw [Bool.eq_iff_iff, Nat.beq_eq, beq_iff_eq]
      exact UInt8.toNat_inj
    rw [e1, e2]
    by_cases h : a < b <;> by_cases h' : a = b <;> simp [h, h']
theorem den_mkSlt (is : List Dt) (x y : A) : (mkSlt x y).den is = bsLt (x.den is).str (y.den is).str := by
  unfold mkSlt; rw [B.den_fold]; rfl
theorem bsLt_asym : ∀ (x y : List UInt8), (bsLt x y || x == y) = !bsLt y x
  | [], [] => rfl
  | [], _ :: _ => rfl
  | _ :: _, [] => rfl
  | a :: x, b :: y => by
    have ih := bsLt_asym x y
    have e1 : ∀ a b : UInt8, Nat.blt a.toNat b.toNat = decide (a.toNat < b.toNat) := fun a b => by
      rw [Bool.eq_iff_iff, decide_eq_true_iff]
      exact ⟨fun h => blt_nat h, fun h => Nat.ble_eq.mpr h⟩
    have e2 : ∀ a b : UInt8, Nat.beq a.toNat b.toNat = decide (a.toNat = b.toNat) := fun a b => by
      rw [Bool.eq_iff_iff, Nat.beq_eq, decide_eq_true_iff]
    have e3 : (a :: x == b :: y) = (decide (a.toNat = b.toNat) && (x == y)) := by
      rw [List.cons_beq_cons]
      congr 1
      rw [Bool.eq_iff_iff, beq_iff_eq, decide_eq_true_iff]
      exact UInt8.toNat_inj.symm
    simp only [bsLt, e1, e2, e3]
    rcases Nat.lt_trichotomy a.toNat b.toNat with h | h | h
    · have h1 : ¬ b.toNat < a.toNat := by omega
      have h2 : ¬ b.toNat = a.toNat := by omega
      simp [h, h1, h2]
    · have h1 : ¬ b.toNat < a.toNat := by omega
      have h2 : ¬ a.toNat < b.toNat := by omega
      simp [h]
      exact ih
    · have h1 : ¬ a.toNat < b.toNat := by omega
      have h2 : ¬ a.toNat = b.toNat := by omega
      simp [h, h1, h2]
theorem partL_ty {t : TypeId} {cs : List SV} {off : Nat} {v : SV} (h : partL ty t cs off = some v) (ht : SV.tys ρ cs) : v.ty ρ := by
  unfold partL at h
  split at h
  · cases h
  · rename_i e he
    cases ha : e.d.agg <;> rw [ha] at h <;> simp only [cond_true, cond_false] at h
    · rw [nth_eq] at h
      exact tys_mem ht v (List.mem_of_getElem? h)
    · split at h <;> cases h
      rename_i l hl
      rw [dropN_eq] at hl
      obtain ⟨h1, rfl⟩ := takeN_eq _ _ _ hl
      exact tys_of_mem fun v hv => tys_mem ht v (List.mem_of_mem_drop (List.mem_of_mem_take hv))
mutual
theorem eqV_ty : ∀ (d : Nat) {t : TypeId} {x y : SV} {b : B}, eqV ty d t x y = some b → x.ty ρ → y.ty ρ → b.tyd ρ.is
  | 0, t, x, y, b, h, _, _ => by simp [eqV] at h
  | d + 1, t, x, y, b, h, hx, hy => by
    simp only [eqV] at h
    split at h
    · cases h
    · split at h
      · split at h <;> cases h
        exact tyd_eqB hx hy
      · split at h
        · rename_i k a k' b'
          cases hk : kindEq k k' <;> rw [hk] at h <;> simp only [cond_true, cond_false] at h <;> cases h
          exact B.tyd_mkEq _ _
        · cases h
      · split at h <;> cases h
        exact tyd_mkSeq _ _
      · split at h
        · exact eqFs_ty d h hx hy
        · cases h
      · cases h
theorem eqFs_ty : ∀ (d : Nat) {fs : List (Nat × Nat × Nat)} {xs ys : List SV} {b : B}, eqFs ty d fs xs ys = some b → SV.tys ρ xs → SV.tys ρ ys → b.tyd ρ.is
  | 0, fs, xs, ys, b, h, _, _ => by simp [eqFs] at h
  | d + 1, [], xs, ys, b, h, _, _ => by simp only [eqFs] at h; cases h; trivial
  | d + 1, f :: fs, xs, ys, b, h, hx, hy => by
    simp only [eqFs] at h
    split at h
    · rename_i x y h1 h2
      split at h
      · rename_i b1 hb1
        split at h <;> cases h
        rename_i b2 hb2
        exact B.tyd_mkAnd (eqV_ty d hb1 (partL_ty h1 hx) (partL_ty h2 hy)) fun _ => eqFs_ty d hb2 hx hy
      · cases h
    · cases h
end
theorem eqAny_ty {mem : Tb SO} {pc : List (B × Bool)} {lit : Bool} {t : TypeId} {x y : SV} {b : B} (h : eqAny ty mem pc lit t x y = some b) (hx : x.ty ρ) (hy : y.ty ρ) : b.tyd ρ.is := by
  unfold eqAny at h
  split at h
  · rename_i k a k' c
    cases hk : kindEq k k' <;> rw [hk] at h <;> simp only [cond_true, cond_false] at h <;> cases h
    exact B.tyd_mkEq _ _
  · split at h <;> cases h
    exact tyd_mkSeq _ _
  · split at h <;> cases h; trivial
  · split at h <;> cases h; trivial
  · split at h <;> cases h; trivial
  · split at h <;> cases h; trivial
  · split at h <;> cases h; trivial
  · split at h <;> cases h; trivial
  · split at h
    · split at h <;> cases h
      exact tyd_nilA _
    · cases h
  · split at h <;> cases h; trivial
  · exact eqV_ty 60 h hx hy
  · split at h <;> cases h
    exact tyd_eqB hx hy
  · cases h
theorem cmpB_ty {op : BinOp} {x y : A} {b : B} (h : cmpB op x y = some b) (is : List Dt) : b.tyd is := by
  cases op <;> simp only [cmpB] at h <;> cases h <;> first | exact B.tyd_mkLt _ _ | exact B.tyd_mkNot (B.tyd_mkLt _ _)
theorem kind_zero (k : IntKind) : k.min ≤ 0 ∧ 0 ≤ k.max := by cases k <;> decide
theorem tmod_range {k : IntKind} {x : Int} (h : k.min ≤ x ∧ x ≤ k.max) (y : Int) : k.min ≤ x.tmod y ∧ x.tmod y ≤ k.max := by
  have h0 := kind_zero k
  have pos : ∀ z : Int, 0 ≤ z → 0 ≤ z.tmod y ∧ z.tmod y ≤ z := by
    intro z hz
    refine ⟨Int.tmod_nonneg y hz, ?_⟩
    obtain ⟨m, rfl⟩ := Int.eq_ofNat_of_zero_le hz
    rcases Int.natAbs_eq y with hy | hy
    · rw [hy, ← Int.ofNat_tmod]
      exact Int.ofNat_le.2 (Nat.mod_le _ _)
    · rw [hy, Int.tmod_neg, ← Int.ofNat_tmod]
      exact Int.ofNat_le.2 (Nat.mod_le _ _)
  rcases Int.lt_or_le x 0 with hx | hx
  · have h1 : (-x).tmod y = -(x.tmod y) := Int.neg_tmod x y
    have h2 := pos (-x) (by omega)
    omega
  · have h2 := pos x hx
    omega
theorem fdiv_range {k : IntKind} {x : Int} (h : k.min ≤ x ∧ x ≤ k.max) (n : Nat) : k.min ≤ x.fdiv (2 ^ n) ∧ x.fdiv (2 ^ n) ≤ k.max := by
  have h0 := kind_zero k
  have hp : (0 : Int) < 2 ^ n := Int.pow_pos (by decide)
  rw [Int.fdiv_eq_ediv_of_nonneg x (Int.le_of_lt hp)]
  rcases Int.lt_or_le x 0 with hx | hx
  · have h1 : x / 2 ^ n < 0 := Int.ediv_neg_of_neg_of_pos hx hp
    have h2 : x ≤ x / 2 ^ n := by
      have := Int.le_ediv_of_mul_le hp (a := x) (b := x) (by
        have : x * 2 ^ n ≤ x * 1 := Int.mul_le_mul_of_nonpos_left (by omega) (by omega)
        omega)
      exact this
    omega
  · have h1 : 0 ≤ x / 2 ^ n := Int.ediv_nonneg hx (Int.le_of_lt hp)
    have h2 : x / 2 ^ n ≤ x := Int.ediv_le_self _ hx
    omega
theorem wrap_ty (k : IntKind) (n : Int) : ∃ m, Dt.num (k.wrap n) = .num m ∧ k.min ≤ m ∧ m ≤ k.max := ⟨_, rfl, wrap_within k n⟩
theorem binE_ty {op : BinOp} {k : IntKind} {x y : A} {e : E} (h : binE op k x y = some e) (is : List Dt) (hx : ∃ n, x.den is = .num n ∧ k.min ≤ n ∧ n ≤ k.max) : ∃ m, e.den is = .num m ∧ k.min ≤ m ∧ m ≤ k.max := by
  obtain ⟨n, hn, hr⟩ := hx
  have hi : x.int is = n := by simp only [A.int, hn, Dt.int]
  cases op <;> simp only [binE] at h <;> (try (cases h; done))
  case quo =>
    split at h
    · rename_i c
      cases hz : (c == 0) <;> rw [hz] at h <;> simp only [cond_true, cond_false] at h <;> cases h
      exact wrap_ty k _
    · cases h
  case rem =>
    split at h
    · rename_i c
      cases hz : (c == 0) <;> rw [hz] at h <;> simp only [cond_true, cond_false] at h <;> cases h
      exact ⟨_, rfl, by rw [hi]; exact tmod_range hr _⟩
    · cases h
  case shl =>
    split at h
    · rename_i c
      cases hz : decide (c < 0) <;> rw [hz] at h <;> simp only [cond_true, cond_false] at h <;> cases h
      exact wrap_ty k _
    · cases h
  case shr =>
    split at h
    · rename_i c
      cases hz : decide (c < 0) <;> rw [hz] at h <;> simp only [cond_true, cond_false] at h <;> cases h
      exact ⟨_, rfl, by rw [hi]; exact fdiv_range hr _⟩
    · cases h
  all_goals (cases h; exact wrap_ty k _)
theorem pBinOp_ok (hty : TyOk P p.ty) (hc : Px ρ p a) {op : BinOp} {t yt : TypeId} {x y : Operand} (ho : o.op = .binOp op t x y yt) (h : pBinOp p op t x y = some (v, d)) : Pure P o a ρ p v d := by
  unfold pBinOp at h
  split at h
  · rename_i vx vy hx hy
    have ex := hc.ev hx
    have ey := hc.ev hy
    split at h
    · split at h <;> cases h
      rename_i b hb
      refine Pure.plain hc (fun hcg => eqAny_ty hb (hc.evt hx hcg) (hc.evt hy hcg)) fun hcg w _ => ?_
      have := (eqAny_ok hty hc.hmem (hc.hpc hcg) x y hb w).1
      unfold execOp
      simp only [ho, ex hcg, ey hcg]
      rw [Sem.run_bind, this]; rfl
    · split at h <;> cases h
      rename_i b hb
      refine Pure.plain hc (fun hcg => B.tyd_mkNot (eqAny_ty hb (hc.evt hx hcg) (hc.evt hy hcg))) fun hcg w _ => ?_
      have := (eqAny_ok hty hc.hmem (hc.hpc hcg) x y hb w).2
      unfold execOp
      simp only [ho, ex hcg, ey hcg]
      rw [Sem.run_bind, this]
      simp [SV.den, B.den_mkNot]
    · rename_i hne1 hne2
      split at h
      · rename_i k p' k' q
        cases hkk : (kindEq k k' || shOp op)
        · rw [hkk] at h; cases h
        · rw [hkk] at h
          simp only [cond_true] at h
          have hg : ∀ w, (eqGuard op t x y (.int k (p'.int ρ.is)) (.int k' (q.int ρ.is))).run P w = .ok () w := by
            intro w
            cases op <;> simp [eqGuard]
          split at h
          · rename_i b hb
            cases h
            have hsh : op ≠ .shl ∧ op ≠ .shr := by constructor <;> (rintro rfl; simp [cmpB] at hb)
            have hk : k = k' := by
              have : shOp op = false := by cases op <;> first | rfl | (exfalso; exact hsh.1 rfl) | (exfalso; exact hsh.2 rfl)
              rw [this, Bool.or_false] at hkk
              exact kindEq_eq hkk
            subst hk
            refine Pure.plain hc (fun _ => cmpB_ty hb _) fun hcg w _ => ?_
            unfold execOp
            simp only [ho, ex hcg, ey hcg, SV.den, Sem.run_bind, hg, Result.andThen_ok]
            rw [run_binOp_int hsh.1 hsh.2]
            have hcm := cmpB_ok (P := P) hb ρ.is w
            cases op <;> simp only [cmpB] at hb <;> (try (cases hb; done)) <;> simp only [hcm, Result.andThen_ok, Sem.run_pure]
          · split at h
            · rename_i e he
              cases h
              refine Pure.bind hc e (fun r => .int k r) fun hcg ρ1 r hle hr => ⟨?_, fun w _ => ?_⟩
              · have := binE_ty he ρ.is (hc.evt hx hcg)
                simp only [SV.ty, hr]; exact this
              unfold execOp
              simp only [ho, ex hcg, ey hcg, SV.den, Sem.run_bind, hg, Result.andThen_ok, binE_ok (P := P) he hkk ρ.is t w, Sem.run_pure, int_of_den hr]
            · cases h
      · rename_i s1 s2
        have hg : ∀ w, (eqGuard op t x y (bytesOf (s1.den ρ.is).str) (bytesOf (s2.den ρ.is).str)).run P w = .ok () w := by
          intro w
          cases op <;> simp [eqGuard, bytesOf]
        have main : ∀ (b : Bool), ((Op.stringOp op ⟨(s1.den ρ.is).str.toArray⟩ ⟨(s2.den ρ.is).str.toArray⟩).run P = fun w => .ok (.bool b) w) → p.cg.den ρ.is = true → ∀ w, (execOp a.eval o).run P w = .ok (.value (.bool b)) w := by
          intro b hb hcg w
          unfold execOp
          simp only [ho, ex hcg, ey hcg, SV.den, Sem.run_bind, hg, Result.andThen_ok]
          have : binOp op t (bytesOf (s1.den ρ.is).str) (bytesOf (s2.den ρ.is).str) = Op.stringOp op ⟨(s1.den ρ.is).str.toArray⟩ ⟨(s2.den ρ.is).str.toArray⟩ := by
            cases op <;> rfl
          rw [this, hb]; rfl
        split at h <;> cases h
        · refine Pure.plain hc (fun _ => tyd_mkSlt _ _) fun hcg w _ => main _ ?_ hcg w
          funext w
          simp [Op.stringOp, SV.den, den_mkSlt, ByteArray.toList_eq, bytesLess_bsLt]
        · refine Pure.plain hc (fun _ => B.tyd_mkNot (tyd_mkSlt _ _)) fun hcg w _ => main _ ?_ hcg w
          funext w
          simp [Op.stringOp, SV.den, den_mkSlt, B.den_mkNot, ByteArray.toList_eq, bytesLess_bsLt, bsLt_asym]
        · refine Pure.plain hc (fun _ => tyd_mkSlt _ _) fun hcg w _ => main _ ?_ hcg w
          funext w
          simp [Op.stringOp, SV.den, den_mkSlt, B.den_mkNot, ByteArray.toList_eq, bytesLess_bsLt, bsLt_asym]
        · refine Pure.plain hc (fun _ => B.tyd_mkNot (tyd_mkSlt _ _)) fun hcg w _ => main _ ?_ hcg w
          funext w
          simp [Op.stringOp, SV.den, den_mkSlt, B.den_mkNot, ByteArray.toList_eq, bytesLess_bsLt, bsLt_asym]
      · cases h
  · cases h
theorem pUnOp_ok (hc : Px ρ p a) {op : UnOp} {t : TypeId} {x : Operand} (ho : o.op = .unOp op t x) (h : pUnOp p op x = some (v, d)) : Pure P o a ρ p v d := by
  unfold pUnOp at h
  split at h
  · rename_i b hx
    cases h
    refine Pure.plain hc (fun hcg => B.tyd_mkNot (hc.evt hx hcg)) fun hcg w _ => ?_
    unfold execOp
    simp [ho, hc.ev hx hcg, SV.den, Op.unary, B.den_mkNot]
  · rename_i k p' hx
    cases h
    refine Pure.bind hc (.neg k p') (fun r => .int k r) fun hcg ρ1 r hle hr => ⟨by simp only [SV.ty, hr]; exact wrap_ty k _, fun w _ => ?_⟩
    unfold execOp
    simp only [ho, hc.ev hx hcg, SV.den, Op.unary, int_of_den hr, E.den, Dt.int]
    try rfl
  · rename_i k p' hx
    cases h
    refine Pure.bind hc (.com k p') (fun r => .int k r) fun hcg ρ1 r hle hr => ⟨by simp only [SV.ty, hr]; exact wrap_ty k _, fun w _ => ?_⟩
    unfold execOp
    simp only [ho, hc.ev hx hcg, SV.den, Op.unary, int_of_den hr, E.den, Dt.int, Sem.run_bind, bitsOf_xor, Result.andThen_ok, Sem.run_pure]
  · cases h
end
end Go.SY
set_option linter.unusedVariables false
set_option linter.unusedSimpArgs false
namespace Go.SY
open Go Go.RowKit
noncomputable section
variable {P : Program} {ty : Ty} {pl : Bool} {ρ ρ1 ρ2 : Env} {p : Pu} {a : Act} {o : Oper} {v : SV} {d d' : Bd}
theorem repL_bytes {fz : Fz} {e : Nat} (he : tdOf ty e = .int .u8) : ∀ {l : List Dt} {s b off : Nat}, repL ty fz l e s b off → ∀ w, FzIn fz w → s = 1 → ∀ (j : Nat) x, l[j]? = some x → ∃ n : Int, x = .num n ∧ 0 ≤ n ∧ n ≤ 255 ∧ w.cell? ⟨b, off + j, none⟩ = some (.int .u8 n)
  | [], _, _, _, _, _, _, _, _, _, h => by simp at h
  | y :: l, s, b, off, hr, w, hw, hs, 0, x, h => by
    simp only [List.getElem?_cons_zero, Option.some.injEq] at h
    subst h
    simp only [repL] at hr
    obtain ⟨⟨cs, h1, h2, h3⟩, _⟩ := hr
    obtain ⟨n, rfl, rfl, h4, h5⟩ := rep_int he h3
    refine ⟨n, rfl, h4, h5, ?_⟩
    exact fzCell_w hw (by simpa using h2 0 _ rfl)
  | y :: l, s, b, off, hr, w, hw, hs, j + 1, x, h => by
    simp only [List.getElem?_cons_succ] at h
    simp only [repL] at hr
    obtain ⟨n, h1, h2, h3, h4⟩ := repL_bytes he hr.2 w hw hs j x h
    refine ⟨n, h1, h2, h3, ?_⟩
    rw [show off + (j + 1) = off + s + j by omega]; exact h4
theorem bytes_forIn (xs : List Int) (h : ∀ n ∈ xs, 0 ≤ n ∧ n ≤ 255) (w : World) : ∀ (s : ByteArray),
    (forIn (m := Sem) (xs.map (Value.int .u8)) s fun c r => do
      let .int .u8 n := c | stuck "bytesToString: byte expected"
      pure (ForInStep.yield (r.push (UInt8.ofNat n.toNat)))).run P w = .ok ⟨s.data ++ (xs.map fun n => UInt8.ofNat n.toNat).toArray⟩ w := by
  induction xs with
  | nil => intro s; simp
  | cons x xs ih =>
    intro s
    have ih := ih (fun n hn => h n (List.mem_cons_of_mem _ hn)) (s.push (UInt8.ofNat x.toNat))
    simp only [List.map_cons, List.forIn_cons, Sem.run_bind, Sem.run_pure, Result.andThen_ok, ih]
    congr 2
    simp [ByteArray.push]
theorem bytesToString_ok {fz : Fz} {t e s : Nat} (hty : TyOk P ty) (ht : tdOf ty t = .slice e s) (hs : s = 1) (he : tdOf ty e = .int .u8) {x : Dt} {v : Value} (hr : rep ty fz x t [v]) (w : World) (hw : FzIn fz w) :
    (Conv.bytesToString v).run P w = .ok (bytesOf (x.list.map fun d => UInt8.ofNat d.int.toNat)) w := by
  rcases rep_slice ht hr with ⟨rfl, h2⟩ | ⟨l, b, off, sp, cap, rfl, h2, h3, h4, h5, h6⟩
  · injection h2 with h2
    subst h2
    rfl
  · injection h2 with h2
    subst h2
    have hb := repL_bytes he h5 w hw hs
    have hcells : ∀ j u, ((l.map fun d => Value.int .u8 d.int))[j]? = some u → w.cell? ((⟨b, off, sp⟩ : Addr).add j) = some u := by
      intro j u hj
      have hsp : sp = none := by
        rcases h6 with h6 | h6
        · exact h6
        · subst h6; simp at hj
      subst hsp
      rw [List.getElem?_map] at hj
      cases hlj : l[j]? with
      | none => rw [hlj] at hj; cases hj
      | some y =>
        rw [hlj] at hj
        cases hj
        obtain ⟨n, rfl, _, _, hc⟩ := hb j y hlj
        rw [Addr.add_lit]; exact hc
    have hload := run_loadCells_list (P := P) w ⟨b, off, sp⟩ _ hcells
    rw [List.length_map] at hload
    have hall : ∀ n ∈ l.map (fun d => d.int), 0 ≤ n ∧ n ≤ 255 := by
      intro n hn
      obtain ⟨y, hy, rfl⟩ := List.mem_map.1 hn
      obtain ⟨j, hj⟩ := List.getElem?_of_mem hy
      obtain ⟨n, rfl, h1, h2, _⟩ := hb j y hj
      exact ⟨h1, h2⟩
    have := bytes_forIn (P := P) (l.map fun d => d.int) hall w ByteArray.empty
    rw [List.map_map] at this
    simp only [Conv.bytesToString, Sem.run_bind, hload, Result.andThen_ok]
    rw [show ((l.map fun d => Value.int .u8 d.int)) = List.map (Value.int IntKind.u8 ∘ fun d => Dt.int d) l from rfl]
    simp only [List.forIn_toArray]
    refine Eq.trans (congrArg (fun r => Result.andThen r _) this) ?_
    simp [bytesOf, Dt.list]
end
end Go.SY
