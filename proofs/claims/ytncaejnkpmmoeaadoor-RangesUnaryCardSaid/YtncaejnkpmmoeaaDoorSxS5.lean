/- The symbolic executor SX, its soundness, part 5: the other pure operations. -/
import Derived.Test.YtncaejnkpmmoeaaDoorSxS4
set_option linter.unusedVariables false
set_option linter.unusedSimpArgs false
namespace Go.SX
open Go Go.RowKit

variable {P : Program} {ty : Ty} {ρ : Env} {ni nb : Nat} {pc : List (B × Bool)} {tm : Tm} {a : Act} {o : Oper} {v : SV} {d : Bd}

theorem pUnOp_ok (hc : Cx ρ ni nb pc tm a) {op : UnOp} {t : TypeId} {x : Operand} (ho : o.op = .unOp op t x) (h : pUnOp ty tm ni pc op x = some (v, d)) : Pure P o a ρ v d := by
  unfold pUnOp at h
  simp only at h
  split at h
  · rename_i b hx
    cases h
    refine Pure.plain hc.hni fun w => ?_
    unfold execOp
    simp [ho, (hc.ev hx).1, SV.den, Op.unary, B.den_mkNot]
  · rename_i k p hx
    cases h
    obtain ⟨h1, h2, h3, _, _⟩ := bind_spec (is := ρ.is) hc.hni (d := ⟨ni, []⟩) (by simp) (.neg k p)
    refine ⟨by rw [hc.hni]; exact h1, fun w => ?_⟩
    unfold execOp
    simp only [ho, (hc.ev hx).1, SV.den, Op.unary, h3, E.den]
    rfl
  · rename_i k p hx
    cases h
    obtain ⟨h1, h2, h3, _, _⟩ := bind_spec (is := ρ.is) hc.hni (d := ⟨ni, []⟩) (by simp) (.com k p)
    refine ⟨by rw [hc.hni]; exact h1, fun w => ?_⟩
    unfold execOp
    simp only [ho, (hc.ev hx).1, SV.den, Op.unary, h3, E.den, Sem.run_bind, bitsOf_xor, Result.andThen_ok, Sem.run_pure]
    rfl
  · cases h

theorem tdOf_info (hty : TyOk P ty) {t : TypeId} {td : TD} (h : tdOf ty t = td) (hn : td ≠ .other) : ∃ e dd i, ty.get t = some e ∧ e.d = td ∧ P.underlying t = some dd ∧ P.info? t = some i ∧ mkTD P t dd = some td ∧ i.size = e.size := by
  unfold tdOf at h
  split at h
  · rename_i e he
    obtain ⟨dd, i, hu, hi, hm, hs, _, _⟩ := hty.info he
    exact ⟨e, dd, i, he, h, hu, hi, h ▸ hm, hs⟩
  · exact absurd h.symm hn

theorem pConvert_ok (hty : TyOk P ty) (hc : Cx ρ ni nb pc tm a) {src dst : TypeId} {x : Operand} (ho : o.op = .convert src dst x) (h : pConvert ty tm ni pc src dst x = some (v, d)) : Pure P o a ρ v d := by
  unfold pConvert at h
  simp only at h
  split at h
  · rename_i _ k _ p h1 h2 hx
    cases h
    obtain ⟨_, d1, _, _, _, hu1, _, hm1, _⟩ := tdOf_info hty h1 (by simp)
    obtain ⟨_, d2, _, _, _, hu2, _, hm2, _⟩ := tdOf_info hty h2 (by simp)
    cases mkTD_int hm1
    cases mkTD_int hm2
    obtain ⟨g1, g2, g3, _, _⟩ := bind_spec (is := ρ.is) hc.hni (d := ⟨ni, []⟩) (by simp) (.wrap k p)
    refine ⟨by rw [hc.hni]; exact g1, fun w => ?_⟩
    unfold execOp
    simp only [ho, (hc.ev hx).1, SV.den, convert, Sem.run_bind, run_underlying hu1, run_underlying hu2, Result.andThen_ok, g3, E.den]
    rfl
  · rename_i s h1 h2 hx
    cases h
    obtain ⟨_, d1, _, _, _, hu1, _, hm1, _⟩ := tdOf_info hty h1 (by simp)
    obtain ⟨_, d2, _, _, _, hu2, _, hm2, _⟩ := tdOf_info hty h2 (by simp)
    cases mkTD_str hm1
    cases mkTD_str hm2
    refine Pure.plain hc.hni fun w => ?_
    unfold execOp
    simp only [ho, (hc.ev hx).1, SV.den, convert, Sem.run_bind, run_underlying hu1, run_underlying hu2, Result.andThen_ok]
    rfl
  · cases h

theorem evs_array (hc : Cx ρ ni nb pc tm a) {xs : Array Operand} {vs : List SV} (h : evOs pc tm xs.toList = some vs) : xs.map a.eval = (SV.dens ρ vs).toArray := by
  have := (hc.evs h).1
  apply Array.ext'
  simpa using this

theorem pMakeFunc_ok (hc : Cx ρ ni nb pc tm a) {f : Fn} {fi ca : Array Operand} (ho : o.op = .makeFunc f fi ca) (h : pMakeFunc ty tm ni pc f fi ca = some (v, d)) : Pure P o a ρ v d := by
  unfold pMakeFunc at h
  simp only at h
  split at h
  · rename_i h1 h2
    cases h
    refine Pure.plain hc.hni fun w => ?_
    unfold execOp
    simp only [ho, evs_array hc h1, evs_array hc h2, SV.den, Instr.makeFunc]
    rfl
  · cases h

theorem pMakeInterface_ok (hty : TyOk P ty) (hc : Cx ρ ni nb pc tm a) {t : TypeId} {x : Operand} (ho : o.op = .makeInterface t x) (h : pMakeInterface ty tm ni pc t x = some (v, d)) : Pure P o a ρ v d := by
  unfold pMakeInterface at h
  simp only at h
  split at h
  · cases h
  · cases h
  · rename_i vv _ _ _
    have hn1 : tdOf ty t ≠ .iface := by assumption
    have hn2 : tdOf ty t ≠ .other := by assumption
    have hx : evO pc tm x = some vv := by assumption
    cases h
    obtain ⟨_, d1, _, _, _, hu1, _, hm1, _⟩ := tdOf_info hty rfl hn2
    have hd := mkTD_concrete hm1 hn1
    refine Pure.plain hc.hni fun w => ?_
    unfold execOp
    simp only [ho, (hc.ev hx).1, SV.den, Instr.makeInterface, Sem.run_bind, run_underlying hu1, Result.andThen_ok]
    cases d1 with
    | interface ms => exact absurd rfl (hd ms)
    | _ => rfl
  · cases h

theorem add_plain (b off n : Nat) : (⟨b, off, none⟩ : Addr).add n = ⟨b, off + n, none⟩ := by unfold Addr.add; split <;> simp_all

theorem pFieldAddr_ok (hty : TyOk P ty) (hc : Cx ρ ni nb pc tm a) {t : TypeId} {x : Operand} {f : Nat} (ho : o.op = .fieldAddr t x f) (h : pFieldAddr ty tm ni pc t x f = some (v, d)) : Pure P o a ρ v d := by
  have key : ∀ (fs : List (Nat × Nat × Nat)) (b : Bool), tdOf ty t = .struct fs b → ∀ g, nth fs f = some g → Nat.beq g.2.2 0 = false → ∀ (B off : Nat) w, (Instr.fieldAt t (.pointer (some ⟨B, off, none⟩)) f).run P w = .ok (.pointer (some ⟨B, off + g.2.1, none⟩)) w := by
    intro fs b ht g hg hz B off w
    obtain ⟨_, d1, _, _, _, hu1, _, hm1, _⟩ := tdOf_info hty ht (by simp)
    obtain ⟨gs, rfl, hf, _⟩ := mkTD_struct hm1
    obtain ⟨G, j, h1, h2, h3, h4, h5⟩ := fieldsTD_nth hf f g hg
    have h1' : gs[f]? = some G := by simpa using h1
    have hz' : ¬ j.size = 0 := by intro e; rw [h5] at e; rw [e] at hz; cases hz
    simp only [Instr.fieldAt, Sem.run_bind, run_underlying hu1, Result.andThen_ok, h1', Instr.sureAddr, Sem.run_pure, fieldPlace, run_size h4, if_neg hz', Sem.run_ite, add_plain, h3]
  unfold pFieldAddr at h
  simp only at h
  split at h
  · rename_i ht hx
    split at h
    · rename_i g hg
      cases hz : Nat.beq g.2.2 0 <;> rw [hz] at h <;> simp only [cond_true, cond_false] at h <;> cases h
      refine Pure.plain hc.hni fun w => ?_
      unfold execOp
      simp only [ho, (hc.ev hx).1, SV.den, Sem.run_bind, key _ _ ht g hg hz, Result.andThen_ok, Sem.run_pure]
    · cases h
  · rename_i ht hx
    split at h
    · rename_i g hg
      cases hz : Nat.beq g.2.2 0 <;> rw [hz] at h <;> simp only [cond_true, cond_false] at h <;> cases h
      refine Pure.plain hc.hni fun w => ?_
      unfold execOp
      simp only [ho, (hc.ev hx).1, SV.den, Sem.run_bind, key _ _ ht g hg hz, Result.andThen_ok, Sem.run_pure]
    · cases h
  · cases h

theorem pField_ok (hty : TyOk P ty) (hc : Cx ρ ni nb pc tm a) {t : TypeId} {x : Operand} {f : Nat} (ho : o.op = .field t x f) (h : pField ty tm ni pc t x f = some (v, d)) : Pure P o a ρ v d := by
  unfold pField at h
  simp only at h
  split at h
  · rename_i ht hx
    split at h
    · rename_i g hg
      split at h <;> cases h
      rename_i hp
      obtain ⟨_, d1, _, _, _, hu1, _, hm1, _⟩ := tdOf_info hty ht (by simp)
      obtain ⟨gs, rfl, hf, _⟩ := mkTD_struct hm1
      obtain ⟨G, j, h1, h2, h3, h4, h5⟩ := fieldsTD_nth hf f g hg
      have h1' : gs[f]? = some G := by simpa using h1
      refine Pure.plain hc.hni fun w => ?_
      unfold execOp
      have := partL_ok hty hp ρ w
      rw [h2, h3] at this
      simp only [ho, (hc.ev hx).1, SV.den, Instr.field, Sem.run_bind, run_underlying hu1, Result.andThen_ok, h1', asAgg, Sem.run_pure, this]
    · cases h
  · cases h

theorem pExtract_ok (hc : Cx ρ ni nb pc tm a) {x : Operand} {i : Nat} (ho : o.op = .extract x i) (h : pExtract ty tm ni pc x i = some (v, d)) : Pure P o a ρ v d := by
  unfold pExtract at h
  simp only at h
  split at h
  · rename_i l hx
    split at h <;> cases h
    rename_i hn
    rw [nth_eq] at hn
    refine Pure.plain hc.hni fun w => ?_
    unfold execOp
    have := dens_getElem? ρ l i
    rw [hn] at this
    simp [ho, (hc.ev hx).1, SV.den, Instr.extract, this]
  · cases h

theorem litNat_eq {c : Int} {j : Nat} (h : litNat c = some j) : c = (j : Int) := by
  cases c with
  | ofNat m => simp [litNat] at h; simp [h]
  | negSucc m => simp [litNat] at h

theorem indexAt_slice (hty : TyOk P ty) {t : TypeId} {e n : Nat} (ht : tdOf ty t = .slice e n) {b off len cap j : Nat} (hj : j < len) (k : IntKind) (w : World) :
    (Instr.indexAt t (.slice (some ⟨b, off, none⟩) len cap) (.int k (j : Int))).run P w = .ok (.pointer (some ⟨b, off + j * n, none⟩)) w := by
  obtain ⟨_, d1, _, _, _, hu1, _, hm1, _⟩ := tdOf_info hty ht (by simp)
  obtain ⟨rfl, i, hi, rfl⟩ := mkTD_slice hm1
  have : (0 : Int) ≤ (j : Int) ∧ (j : Int) < (len : Int) := by omega
  simp [Instr.indexAt, asIntOf, run_underlying hu1, this, run_size hi, add_plain]
  intro hle; omega
theorem indexAt_array (hty : TyOk P ty) {t : TypeId} {e n len : Nat} (ht : tdOf ty t = .arr len e n) {b off j : Nat} (hj : j < len) (k : IntKind) (w : World) :
    (Instr.indexAt t (.pointer (some ⟨b, off, none⟩)) (.int k (j : Int))).run P w = .ok (.pointer (some ⟨b, off + j * n, none⟩)) w := by
  obtain ⟨_, d1, _, _, _, hu1, _, hm1, _⟩ := tdOf_info hty ht (by simp)
  obtain ⟨rfl, i, hi, rfl⟩ := mkTD_arr hm1
  have : (0 : Int) ≤ (j : Int) ∧ (j : Int) < (len : Int) := by omega
  simp [Instr.indexAt, asIntOf, run_underlying hu1, this, run_size hi, add_plain, Instr.sureAddr]
  intro hle; omega
theorem index_array (hty : TyOk P ty) {t : TypeId} {e n len : Nat} (ht : tdOf ty t = .arr len e n) {l : List SV} {j : Nat} (hj : j < len) {v : SV} (hp : partL ty e l (j * n) = some v) (ρ : Env) (k : IntKind) (w : World) :
    (Instr.index t (.agg (SV.dens ρ l).toArray) (.int k (j : Int))).run P w = .ok (v.den ρ) w := by
  obtain ⟨_, d1, _, _, _, hu1, _, hm1, _⟩ := tdOf_info hty ht (by simp)
  obtain ⟨rfl, i, hi, rfl⟩ := mkTD_arr hm1
  have : (0 : Int) ≤ (j : Int) ∧ (j : Int) < (len : Int) := by omega
  simp [Instr.index, asIntOf, run_underlying hu1, this, run_size hi, partL_ok hty hp ρ w]
  intro hle; omega

theorem pIndexAddr_ok (hty : TyOk P ty) (hc : Cx ρ ni nb pc tm a) {t : TypeId} {x i : Operand} (ho : o.op = .indexAddr t x i) (h : pIndexAddr ty tm ni pc t x i = some (v, d)) : Pure P o a ρ v d := by
  unfold pIndexAddr at h
  simp only at h
  split at h
  · rename_i ht hx hi
    split at h
    · rename_i j hj
      cases hz : Nat.blt j _ <;> rw [hz] at h <;> simp only [cond_true, cond_false] at h <;> cases h
      refine Pure.plain hc.hni fun w => ?_
      unfold execOp
      simp only [ho, (hc.ev hx).1, (hc.ev hi).1, SV.den, A.den, litNat_eq hj, Sem.run_bind, indexAt_slice hty ht (blt_nat hz), Result.andThen_ok, Sem.run_pure]
    · cases h
  · rename_i ht hx hi
    split at h
    · rename_i j hj
      cases hz : Nat.blt j _ <;> rw [hz] at h <;> simp only [cond_true, cond_false] at h <;> cases h
      refine Pure.plain hc.hni fun w => ?_
      unfold execOp
      simp only [ho, (hc.ev hx).1, (hc.ev hi).1, SV.den, A.den, litNat_eq hj, Sem.run_bind, indexAt_slice hty ht (blt_nat hz), Result.andThen_ok, Sem.run_pure, Nat.zero_add]
    · cases h
  · rename_i ht hx hi
    split at h
    · rename_i j hj
      cases hz : Nat.blt j _ <;> rw [hz] at h <;> simp only [cond_true, cond_false] at h <;> cases h
      refine Pure.plain hc.hni fun w => ?_
      unfold execOp
      simp only [ho, (hc.ev hx).1, (hc.ev hi).1, SV.den, A.den, litNat_eq hj, Sem.run_bind, indexAt_array hty ht (blt_nat hz), Result.andThen_ok, Sem.run_pure]
    · cases h
  · rename_i ht hx hi
    split at h
    · rename_i j hj
      cases hz : Nat.blt j _ <;> rw [hz] at h <;> simp only [cond_true, cond_false] at h <;> cases h
      refine Pure.plain hc.hni fun w => ?_
      unfold execOp
      simp only [ho, (hc.ev hx).1, (hc.ev hi).1, SV.den, A.den, litNat_eq hj, Sem.run_bind, indexAt_array hty ht (blt_nat hz), Result.andThen_ok, Sem.run_pure]
    · cases h
  · cases h

theorem pIndex_ok (hty : TyOk P ty) (hc : Cx ρ ni nb pc tm a) {t : TypeId} {x i : Operand} (ho : o.op = .index t x i) (h : pIndex ty tm ni pc t x i = some (v, d)) : Pure P o a ρ v d := by
  unfold pIndex at h
  simp only at h
  split at h
  · rename_i ht hx hi
    split at h
    · rename_i j hj
      cases hz : Nat.blt j _ <;> rw [hz] at h <;> simp only [cond_true, cond_false] at h
      · cases h
      · split at h <;> cases h
        rename_i hp
        refine Pure.plain hc.hni fun w => ?_
        unfold execOp
        simp only [ho, (hc.ev hx).1, (hc.ev hi).1, SV.den, A.den, litNat_eq hj, Sem.run_bind, index_array hty ht (blt_nat hz) hp, Result.andThen_ok, Sem.run_pure]
    · cases h
  · cases h

theorem pNilCheck_ok (hc : Cx ρ ni nb pc tm a) {x : Operand} (ho : o.op = .nilCheck x) (h : pNilCheck ty tm ni pc x = some (v, d)) : Pure P o a ρ v d := by
  unfold pNilCheck at h
  simp only at h
  split at h
  · rename_i hx
    cases h
    refine Pure.plain hc.hni fun w => ?_
    unfold execOp
    simp [ho, (hc.ev hx).1, SV.den]
  · rename_i hx
    cases h
    refine Pure.plain hc.hni fun w => ?_
    unfold execOp
    simp [ho, (hc.ev hx).1, SV.den]
  · cases h

end Go.SX
