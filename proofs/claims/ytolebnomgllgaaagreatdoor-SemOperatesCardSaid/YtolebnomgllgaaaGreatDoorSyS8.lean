/- The symbolic executor SY, its soundness, part 8: the other pure operations, on. -/
import Derived.Test.YtolebnomgllgaaaGreatDoorSyS6
set_option linter.unusedVariables false
set_option linter.unusedSimpArgs false
namespace Go.SY
open Go Go.RowKit
noncomputable section
variable {P : Program} {ty : Ty} {pl : Bool} {ρ ρ1 ρ2 : Env} {p : Pu} {a : Act} {o : Oper} {v : SV} {d d' : Bd}
theorem evAll (hc : Px ρ p a) {x : Operand} {v : SV} (hv : p.ev x = some v) (hcg : p.cg.den ρ.is = true) : a.eval x = v.den ρ := hc.ev hv hcg
theorem pConvert_ok (hty : TyOk P p.ty) (hc : Px ρ p a) {src dst : TypeId} {x : Operand} (ho : o.op = .convert src dst x) (h : pConvert p src dst x = some (v, d)) : Pure P o a ρ p v d := by
  unfold pConvert at h
  split at h
  · rename_i _ k _ x' h1 h2 hx
    cases h
    obtain ⟨_, d1, _, _, _, hu1, _, hm1, _⟩ := tdOf_info hty h1 (by simp)
    obtain ⟨_, d2, _, _, _, hu2, _, hm2, _⟩ := tdOf_info hty h2 (by simp)
    cases mkTD_int hm1
    cases mkTD_int hm2
    refine Pure.bind hc (.wrap k x') (fun r => .int k r) fun hcg ρ1 r hle hr => ⟨by simp only [SV.ty, hr]; exact wrap_ty k _, fun w _ => ?_⟩
    unfold execOp
    simp only [ho, hc.ev hx hcg, SV.den, convert, Sem.run_bind, run_underlying hu1, run_underlying hu2, Result.andThen_ok, int_of_den hr, E.den, Dt.int]
    rfl
  · rename_i s h1 h2 hx
    cases h
    obtain ⟨_, d1, _, _, _, hu1, _, hm1, _⟩ := tdOf_info hty h1 (by simp)
    obtain ⟨_, d2, _, _, _, hu2, _, hm2, _⟩ := tdOf_info hty h2 (by simp)
    cases mkTD_str hm1
    cases mkTD_str hm2
    refine Pure.plain hc (hc.evt hx) fun hcg w _ => ?_
    unfold execOp
    simp only [ho, hc.ev hx hcg, SV.den, convert, Sem.run_bind, run_underlying hu1, run_underlying hu2, Result.andThen_ok]
    rfl
  · rename_i e n x' h1 h2 hx
    split at h
    · rename_i s he hs
      cases h
      have hn : n = 1 ∧ tdOf p.ty e = .int .u8 := by
        cases hb : Nat.beq n 1 <;> rw [hb] at he <;> simp only [cond_true, cond_false] at he
        · cases he
        · exact ⟨beq_nat hb, he⟩
      obtain ⟨_, d1, _, _, _, hu1, _, hm1, _⟩ := tdOf_info hty h1 (by simp)
      obtain ⟨_, d2, _, _, _, hu2, _, hm2, _⟩ := tdOf_info hty h2 (by simp)
      obtain ⟨rfl, _⟩ := mkTD_slice hm1
      rw [un_of hty hn.2 (by simp)] at hu1
      cases mkTD_str hm2
      obtain ⟨_, d3, _, _, _, hu3, _, hm3, _⟩ := tdOf_info hty hn.2 (by simp)
      cases mkTD_int hm3
      refine Pure.bind hc (.ofBs s) (fun r => .str r) fun hcg ρ1 r hle hr => ?_
      have hrep := slF_ok hty hc.hmem (hc.hpc hcg) h1 hs
      refine ⟨?_, fun w hw => ?_⟩
      · simp only [SV.ty, hr]
        refine ⟨_, rfl, ?_⟩
        rw [List.length_map]
        rcases rep_slice h1 hrep with ⟨e1, _⟩ | ⟨l, _, _, _, _, e1, _, e3, _⟩
        · rw [e1]; simp [Dt.list]
        · rw [e1]; exact e3
      have := bytesToString_ok hty h1 hn.1 hn.2 hrep w hw
      unfold execOp
      simp only [ho, hc.ev hx hcg]
      have hsl : ∃ ad n c, x'.den ρ = .slice ad n c := by
        rcases rep_slice h1 hrep with ⟨_, h2⟩ | ⟨_, _, _, _, _, _, h2, _⟩
        · injection h2 with h2; exact ⟨_, _, _, h2⟩
        · injection h2 with h2; exact ⟨_, _, _, h2⟩
      obtain ⟨ad, m, c, hsl⟩ := hsl
      rw [hsl] at this ⊢
      simp only [convert, Sem.run_bind, run_underlying hu1, run_underlying hu2, run_underlying hu3, Result.andThen_ok, this, Sem.run_pure, SV.den, hr, E.den, Dt.str]
    · cases h
  · cases h
theorem pMakeFunc_ok (hc : Px ρ p a) {f : Fn} {fi ca : Array Operand} (ho : o.op = .makeFunc f fi ca) (h : pMakeFunc p f fi ca = some (v, d)) : Pure P o a ρ p v d := by
  unfold pMakeFunc evOsP at h
  split at h
  · rename_i h1 h2
    cases h
    refine Pure.plain hc (fun hcg => ⟨evOs_ty hc.htm (hc.hpc hcg) h1, evOs_ty hc.htm (hc.hpc hcg) h2⟩) fun hcg w _ => ?_
    unfold execOp
    simp only [ho, evs_array hc.htm (hc.hpc hcg) h1, evs_array hc.htm (hc.hpc hcg) h2, SV.den, Instr.makeFunc]
    rfl
  · cases h
theorem pMakeInterface_ok (hty : TyOk P p.ty) (hc : Px ρ p a) {t : TypeId} {x : Operand} (ho : o.op = .makeInterface t x) (h : pMakeInterface p t x = some (v, d)) : Pure P o a ρ p v d := by
  unfold pMakeInterface at h
  split at h
  · cases h
  · cases h
  · rename_i vv _ _ _
    have hn1 : tdOf p.ty t ≠ .iface := by assumption
    have hn2 : tdOf p.ty t ≠ .other := by assumption
    have hx : p.ev x = some vv := by assumption
    cases hnh : (tdOf p.ty t).isH <;> rw [hnh] at h <;> simp only [cond_true, cond_false] at h
    case true => cases h
    cases h
    obtain ⟨_, d1, _, _, _, hu1, _, hm1, _⟩ := tdOf_info hty rfl hn2 (by assumption)
    have hd := mkTD_concrete hm1 (fun e => hn1 (by revert e; cases tdOf p.ty t <;> simp [TD.un]))
    refine Pure.plain hc (fun hcg => show vv.ty ρ from hc.evt hx hcg) fun hcg w _ => ?_
    unfold execOp
    simp only [ho, hc.ev hx hcg, SV.den, Instr.makeInterface, Sem.run_bind, run_underlying hu1, Result.andThen_ok]
    cases d1 with
    | interface ms => exact absurd rfl (hd ms)
    | _ => rfl
  · cases h
theorem add_plain (b off n : Nat) : (⟨b, off, none⟩ : Addr).add n = ⟨b, off + n, none⟩ := by unfold Addr.add; split <;> simp_all
theorem fieldAt_run (hty : TyOk P ty) {t : TypeId} {fs : List (Nat × Nat × Nat)} {q : Bool} (ht : tdOf ty t = .struct fs q) {f : Nat} {g : Nat × Nat × Nat} (hg : nth fs f = some g) (hz : Nat.beq g.2.2 0 = false) (B off : Nat) (w : World) :
    (Instr.fieldAt t (.pointer (some ⟨B, off, none⟩)) f).run P w = .ok (.pointer (some ⟨B, off + g.2.1, none⟩)) w := by
  obtain ⟨_, d1, _, _, _, hu1, _, hm1, _⟩ := tdOf_info hty ht (by simp)
  obtain ⟨gs, rfl, hf, _⟩ := mkTD_struct hm1
  obtain ⟨G, j, h1, h2, h3, h4, h5⟩ := fieldsTD_nth hf f _ (nth_unF hg)
  simp only at h2 h3 h5
  have h1' : gs[f]? = some G := by simpa using h1
  have hz' : ¬ j.size = 0 := by intro e; rw [h5] at e; rw [e] at hz; cases hz
  simp only [Instr.fieldAt, Sem.run_bind, run_underlying hu1, Result.andThen_ok, h1', Instr.sureAddr, Sem.run_pure, fieldPlace, run_size h4, if_neg hz', Sem.run_ite, add_plain, h3]
theorem repF_nth {fz : Fz} : ∀ {l : List Dt} {fs : List (Nat × Nat × Nat)} {cs : List Value} {i : Nat} {g : Nat × Nat × Nat}, repF ty fz l fs cs → nth fs i = some g → ∃ x, l[i]? = some x ∧ g.2.1 + g.2.2 ≤ cs.length ∧ rep ty fz x g.1 ((cs.drop g.2.1).take g.2.2)
  | [], [], _, i, g, _, h => by cases i <;> cases h
  | [], _ :: _, _, _, _, hr, _ => by simp only [repF] at hr
  | _ :: _, [], _, _, _, hr, _ => by simp only [repF] at hr
  | x :: l, f :: fs, cs, 0, g, hr, h => by
    simp only [repF] at hr
    cases h
    exact ⟨x, rfl, hr.1.1, hr.1.2⟩
  | x :: l, f :: fs, cs, i + 1, g, hr, h => by
    simp only [repF] at hr
    obtain ⟨y, h1, h2, h3⟩ := repF_nth (i := i) hr.2 h
    exact ⟨y, by simpa using h1, h2, h3⟩
theorem Lies.sub {fz : Fz} {b off : Nat} {cs : List Value} (h : Lies fz b off cs) (m n : Nat) : Lies fz b (off + m) ((cs.drop m).take n) := by
  intro j u hj
  rw [List.getElem?_take] at hj
  split at hj
  · rw [List.getElem?_drop] at hj
    have := h _ u hj
    rwa [← Nat.add_assoc] at this
  · cases hj
theorem Px.ghost (hc : Px ρ p a) {so : SO} {V : Value} (hw : so.wf p.ni p.nb = true) (hV : p.cg.den ρ.is = true → one1 V = V ∧ ∀ ρ2 : Env, ρ2.is = ρ.is → ρ2.fz = ρ.fz → ρ2.val p.nb = V → GhOk p.ty ρ2 p.nb so) (hF : p.cg.den ρ.is = false → ∀ ρ2 : Env, ρ2.is = ρ.is → GhOk p.ty ρ2 p.nb so) :
    ∃ ρ2, Ext p.ty ρ (p.d.ghost so).2 ρ2 ∧ (p.cg.den ρ.is = true → ρ2.val (p.d.ghost so).1 = V) := by
  cases hcg : p.cg.den ρ.is
  · obtain ⟨ρ2, g1, g2, g3, g4⟩ := hc.ext0.ghost (so := so) (v := .pointer none) rfl hw (fun ρ2 e1 e2 e3 => hF hcg ρ2 e1)
    exact ⟨ρ2, g1, fun h => by cases h⟩
  · obtain ⟨h1, h2⟩ := hV hcg
    obtain ⟨ρ2, g1, g2, g3, g4⟩ := hc.ext0.ghost (so := so) (v := V) h1 hw h2
    exact ⟨ρ2, g1, fun _ => g3⟩
theorem pFieldAddr_ok (hty : TyOk P p.ty) (hc : Px ρ p a) {t : TypeId} {x : Operand} {f : Nat} (ho : o.op = .fieldAddr t x f) (h : pFieldAddr p t x f = some (v, d)) : Pure P o a ρ p v d := by
  unfold pFieldAddr at h
  split at h
  · rename_i fs q v' ht hx
    split at h
    · rename_i g hg
      cases hz : Nat.beq g.2.2 0 <;> rw [hz] at h <;> simp only [cond_true, cond_false] at h
      · split at h
        · cases h
          refine Pure.plain hc (fun _ => trivial) fun hcg w _ => ?_
          unfold execOp
          simp only [ho, hc.ev hx hcg, SV.den, Sem.run_bind, fieldAt_run hty ht hg hz, Result.andThen_ok, Sem.run_pure]
        · cases h
          refine Pure.plain hc (fun _ => trivial) fun hcg w _ => ?_
          unfold execOp
          simp only [ho, hc.ev hx hcg, SV.den, Sem.run_bind, fieldAt_run hty ht hg hz, Result.andThen_ok, Sem.run_pure]
        · cases h
          refine Pure.plain hc (fun _ => trivial) fun hcg w _ => ?_
          unfold execOp
          simp only [ho, hc.ev hx hcg, SV.den, Sem.run_bind, fieldAt_run hty ht hg hz, Result.andThen_ok, Sem.run_pure, Nat.add_assoc]
        · rename_i b
          split at h
          · rename_i c t' xa hb
            cases hk : (Nat.beq t t' && knownIs p.pc c true) <;> rw [hk] at h <;> simp only [cond_true, cond_false] at h <;> cases h
            simp only [Bool.and_eq_true] at hk
            obtain ⟨_, hw, hgo⟩ := hc.hmem b _ hb
            have htt := beq_nat hk.1
            subst htt
            simp only [SO.wf, Bool.and_eq_true] at hw
            have key : p.cg.den ρ.is = true → ∃ B off cs y, ρ.val b = .pointer (some ⟨B, off, none⟩) ∧ Lies ρ.fz B (off + g.2.1) cs ∧ rep p.ty ρ.fz y g.1 cs ∧ (xa.den ρ.is).fld f = y := by
              intro hcg
              obtain ⟨B, off, cs, h1, h2, h3⟩ := hgo (knownIs_ok (hc.hpc hcg) hk.2)
              obtain ⟨l, h4, h5, h6⟩ := rep_struct ht h3
              obtain ⟨y, h7, h8, h9⟩ := repF_nth h6 hg
              exact ⟨B, off, _, y, h1, h2.sub _ _, h9, by rw [h4]; simp [Dt.fld, Dt.list, h7]⟩
            have wx : (A.mkFld xa f).wf p.ni = true := wf_mkFld hw.2
            have hex : ∃ V : Value, p.cg.den ρ.is = true → ∃ B off, V = .pointer (some ⟨B, off + g.2.1, none⟩) ∧ ρ.val b = .pointer (some ⟨B, off, none⟩) ∧ ∃ cs y, Lies ρ.fz B (off + g.2.1) cs ∧ rep p.ty ρ.fz y g.1 cs ∧ (xa.den ρ.is).fld f = y := by
              by_cases hcg : p.cg.den ρ.is = true
              · obtain ⟨B, off, cs, y, h1, h2, h3, h4⟩ := key hcg
                exact ⟨_, fun _ => ⟨B, off, rfl, h1, cs, y, h2, h3, h4⟩⟩
              · exact ⟨.pointer none, fun h => absurd h hcg⟩
            obtain ⟨V, hV⟩ := hex
            obtain ⟨ρ2, g1, g2⟩ := hc.ghost (so := .at p.cg g.1 (xa.mkFld f)) (V := V) (by simp only [SO.wf, hc.hcw, wx, Bool.and_self]) (fun hcg => by
              obtain ⟨B, off, rfl, _, cs, y, h2, h3, h4⟩ := hV hcg
              refine ⟨rfl, fun ρ2 e1 e2 e3 _ => ⟨B, _, cs, e3, by rw [e2]; exact h2, ?_⟩⟩
              rw [e1, e2, den_mkFld, h4]; exact h3) (fun hcf ρ2 e1 hcc => by rw [e1, hcf] at hcc; cases hcc)
            refine ⟨ρ2, g1, fun hcg => ⟨trivial, fun w _ => ?_⟩⟩
            obtain ⟨B, off, e1, e2, _⟩ := hV hcg
            have hv : SV.den ρ (.pt b) = .pointer (some ⟨B, off, none⟩) := e2
            unfold execOp
            simp only [ho, hc.ev hx hcg, hv, Sem.run_bind, fieldAt_run hty ht hg hz, Result.andThen_ok, Sem.run_pure]
            have : SV.den ρ2 (.pt (p.d.ghost (.at p.cg g.1 (xa.mkFld f))).1) = V := g2 hcg
            rw [this, e1]
          · cases h
        · cases h
      · cases h
    · cases h
  · cases h
theorem pField_ok (hty : TyOk P p.ty) (hc : Px ρ p a) {t : TypeId} {x : Operand} {f : Nat} (ho : o.op = .field t x f) (h : pField p t x f = some (v, d)) : Pure P o a ρ p v d := by
  unfold pField at h
  split at h
  · rename_i ht hx
    split at h
    · rename_i g hg
      split at h <;> cases h
      rename_i hp
      obtain ⟨_, d1, _, _, _, hu1, _, hm1, _⟩ := tdOf_info hty ht (by simp)
      obtain ⟨gs, rfl, hf, _⟩ := mkTD_struct hm1
      obtain ⟨G, j, h1, h2, h3, h4, h5⟩ := fieldsTD_nth hf f _ (nth_unF hg)
      have h1' : gs[f]? = some G := by simpa using h1
      refine Pure.plain hc (fun hcg => partL_ty hp (hc.evt hx hcg)) fun hcg w _ => ?_
      unfold execOp
      have := partL_ok' hty hp ρ w
      simp only at h2 h3
      rw [h2, h3] at this
      simp only [ho, hc.ev hx hcg, SV.den, Instr.field, Sem.run_bind, run_underlying hu1, Result.andThen_ok, h1', asAgg, Sem.run_pure, this]
    · cases h
  · cases h
theorem pExtract_ok (hc : Px ρ p a) {x : Operand} {i : Nat} (ho : o.op = .extract x i) (h : pExtract p x i = some (v, d)) : Pure P o a ρ p v d := by
  unfold pExtract at h
  split at h
  · rename_i l hx
    split at h <;> cases h
    rename_i hn
    rw [nth_eq] at hn
    refine Pure.plain hc (fun hcg => tys_mem (show SV.tys ρ l from hc.evt hx hcg) v (List.mem_of_getElem? hn)) fun hcg w _ => ?_
    unfold execOp
    have := dens_getElem? ρ l i
    rw [hn] at this
    simp [ho, hc.ev hx hcg, SV.den, Instr.extract, this]
  · cases h
theorem litNat_eq {c : Int} {j : Nat} (h : litNat c = some j) : c = (j : Int) := by
  cases c with
  | ofNat m => simp [litNat] at h; simp [h]
  | negSucc m => simp [litNat] at h
theorem indexAt_slice' (hty : TyOk P ty) {t : TypeId} {e n : Nat} (ht : tdOf ty t = .slice e n) {b off len cap j : Nat} (hj : j < len) (k : IntKind) (w : World) :
    (Instr.indexAt t (.slice (some ⟨b, off, none⟩) len cap) (.int k (j : Int))).run P w = .ok (.pointer (some ⟨b, off + j * n, none⟩)) w := by
  obtain ⟨_, d1, _, _, _, hu1, _, hm1, _⟩ := tdOf_info hty ht (by simp)
  obtain ⟨rfl, i, hi, rfl⟩ := mkTD_slice hm1
  have : (0 : Int) ≤ (j : Int) ∧ (j : Int) < (len : Int) := by omega
  simp [Instr.indexAt, asIntOf, run_underlying hu1, this, run_size hi, add_plain]
  intro hle; omega
theorem indexAt_array' (hty : TyOk P ty) {t : TypeId} {e n len : Nat} (ht : tdOf ty t = .arr len e n) {b off j : Nat} (hj : j < len) (k : IntKind) (w : World) :
    (Instr.indexAt t (.pointer (some ⟨b, off, none⟩)) (.int k (j : Int))).run P w = .ok (.pointer (some ⟨b, off + j * n, none⟩)) w := by
  obtain ⟨_, d1, _, _, _, hu1, _, hm1, _⟩ := tdOf_info hty ht (by simp)
  obtain ⟨rfl, i, hi, rfl⟩ := mkTD_arr hm1
  have : (0 : Int) ≤ (j : Int) ∧ (j : Int) < (len : Int) := by omega
  simp [Instr.indexAt, asIntOf, run_underlying hu1, this, run_size hi, add_plain, Instr.sureAddr]
  intro hle; omega
theorem index_array' (hty : TyOk P ty) {t : TypeId} {e n len : Nat} (ht : tdOf ty t = .arr len e n) {l : List SV} {j : Nat} (hj : j < len) {v : SV} (hp : partL ty e l (j * n) = some v) (ρ : Env) (k : IntKind) (w : World) :
    (Instr.index t (.agg (SV.dens ρ l).toArray) (.int k (j : Int))).run P w = .ok (v.den ρ) w := by
  obtain ⟨_, d1, _, _, _, hu1, _, hm1, _⟩ := tdOf_info hty ht (by simp)
  obtain ⟨rfl, i, hi, rfl⟩ := mkTD_arr hm1
  have : (0 : Int) ≤ (j : Int) ∧ (j : Int) < (len : Int) := by omega
  simp [Instr.index, asIntOf, run_underlying hu1, this, run_size hi, partL_ok' hty hp ρ w]
  intro hle; omega
theorem bytes_get (l : List UInt8) (j : Nat) : (⟨l.toArray⟩ : ByteArray)[j]? = l[j]? := by
  by_cases h : j < l.length
  · have h' : j < (⟨l.toArray⟩ : ByteArray).size := by simpa [ByteArray.size] using h
    rw [getElem?_pos (⟨l.toArray⟩ : ByteArray) j h', List.getElem?_eq_getElem h]
    rfl
  · have h' : ¬ j < (⟨l.toArray⟩ : ByteArray).size := by simpa [ByteArray.size] using h
    rw [getElem?_neg (⟨l.toArray⟩ : ByteArray) j h', List.getElem?_eq_none (by omega)]
theorem index_str' (hty : TyOk P ty) {t : TypeId} (ht : tdOf ty t = .str) {l : List UInt8} {j : Nat} {b : UInt8} (hj : l[j]? = some b) (k : IntKind) (w : World) :
    (Instr.index t (bytesOf l) (.int k (j : Int))).run P w = .ok (.int .u8 b.toNat) w := by
  obtain ⟨_, d1, _, _, _, hu1, _, hm1, _⟩ := tdOf_info hty ht (by simp)
  cases mkTD_str hm1
  have : (0 : Int) ≤ (j : Int) := by omega
  simp [Instr.index, asIntOf, run_underlying hu1, bytes_get, hj, bytesOf]
theorem u8_range (x : UInt8) : IntKind.u8.min ≤ (x.toNat : Int) ∧ (x.toNat : Int) ≤ IntKind.u8.max := by
  have := UInt8.toNat_lt x
  have h1 : IntKind.u8.min = 0 := by decide
  have h2 : IntKind.u8.max = 255 := by decide
  rw [h1, h2]; omega
theorem inRange {is : List Dt} {pc : List (B × Bool)} (hp : PcOk is pc) {x n : A} {N : Nat} (hn : n.int is = N) (h0 : knownIs pc (.mkLt x (.n 0)) false = true) (h1 : knownIs pc (.mkLt x n) true = true) : ∃ j : Nat, x.int is = (j : Int) ∧ j < N ∧ (x.int is).toNat = j := by
  have h0 := knownIs_ok hp h0
  have h1 := knownIs_ok hp h1
  rw [B.den_mkLt] at h0 h1
  have h0 := of_decide_eq_false h0
  rw [int_n] at h0
  rw [hn] at h1
  have h1 := of_decide_eq_true h1
  exact ⟨(x.int is).toNat, by omega, by omega, rfl⟩
theorem idxAddr_ok (hty : TyOk P p.ty) (hc : Px ρ p a) {t : TypeId} {b : Nat} {x : A} (hx : x.wf p.ni = true) (h : idxAddr p t (.sl b) x p.d = some (v, d)) (k : IntKind) :
    ∃ ρ1, Ext p.ty ρ d ρ1 ∧ (∀ ρ, v.ty ρ) ∧ (p.cg.den ρ.is = true → ∀ w, (Instr.indexAt t (SV.den ρ (.sl b)) (.int k (x.int ρ.is))).run P w = .ok (v.den ρ1) w) := by
  unfold idxAddr at h
  simp only at h
  split at h
  · rename_i c t' xa e n hb ht
    split at h
    · rename_i e' s' ht'
      cases hk : (Nat.beq e e' && knownIs p.pc c true && knownIs p.pc (B.mkLt x (.n 0)) false && knownIs p.pc (B.mkLt x xa.mkLen) true) <;> rw [hk] at h <;> simp only [cond_true, cond_false] at h <;> cases h
      simp only [Bool.and_eq_true] at hk
      obtain ⟨⟨⟨k1, k2⟩, k3⟩, k4⟩ := hk
      have hee := beq_nat k1
      subst hee
      obtain ⟨_, hw, hgo⟩ := hc.hmem b _ hb
      simp only [SO.wf, Bool.and_eq_true] at hw
      have key : p.cg.den ρ.is = true → ∃ B off cap l j y cs, ρ.val b = .slice (some ⟨B, off, none⟩) l cap ∧ j < l ∧ x.int ρ.is = (j : Int) ∧ Lies ρ.fz B (off + j * n) cs ∧ rep p.ty ρ.fz y e cs ∧ (xa.den ρ.is).idx (x.int ρ.is).toNat = y := by
        intro hcg
        have hr := rep_retype hty ht ht' (hgo (knownIs_ok (hc.hpc hcg) k2))
        obtain ⟨j, j1, j2, j3⟩ := inRange (hc.hpc hcg) (int_mkLen xa ρ.is) k3 k4
        rcases rep_slice ht hr with ⟨h1, _⟩ | ⟨l, B, off, sp, cap, h1, h2, h3, h4, h5, h6⟩
        · rw [h1] at j2; simp [Dt.len] at j2
        · rw [h1] at j2
          simp only [Dt.len] at j2
          injection h2 with h2
          have hsp : sp = none := by
            rcases h6 with h6 | h6
            · exact h6
            · subst h6; simp at j2
          subst hsp
          obtain ⟨cs, c1, c2, c3⟩ := repL_idx h5 j _ (List.getElem?_eq_getElem j2)
          exact ⟨B, off, cap, l.length, j, _, cs, h2, j2, j1, c2, c3, by rw [h1, j3]; simp [Dt.idx, Dt.list, j2]⟩
      have wx : (A.mkIdx xa x).wf p.ni = true := wf_mkIdx hw.2 hx
      have hex : ∃ V : Value, p.cg.den ρ.is = true → ∃ B off j, V = .pointer (some ⟨B, off + j * n, none⟩) ∧ (∃ l cap, ρ.val b = .slice (some ⟨B, off, none⟩) l cap ∧ j < l) ∧ x.int ρ.is = (j : Int) ∧ ∃ cs y, Lies ρ.fz B (off + j * n) cs ∧ rep p.ty ρ.fz y e cs ∧ (xa.den ρ.is).idx (x.int ρ.is).toNat = y := by
        by_cases hcg : p.cg.den ρ.is = true
        · obtain ⟨B, off, cap, l, j, y, cs, h1, h2, h3, h4, h5, h6⟩ := key hcg
          exact ⟨_, fun _ => ⟨B, off, j, rfl, ⟨l, cap, h1, h2⟩, h3, cs, y, h4, h5, h6⟩⟩
        · exact ⟨.pointer none, fun h => absurd h hcg⟩
      obtain ⟨V, hV⟩ := hex
      obtain ⟨ρ2, g1, g2⟩ := hc.ghost (so := .at p.cg e (xa.mkIdx x)) (V := V) (by simp only [SO.wf, hc.hcw, wx, Bool.and_self]) (fun hcg => by
        obtain ⟨B, off, j, rfl, _, _, cs, y, h2, h3, h4⟩ := hV hcg
        refine ⟨rfl, fun ρ2 e1 e2 e3 _ => ⟨B, _, cs, e3, by rw [e2]; exact h2, ?_⟩⟩
        rw [e1, e2, den_mkIdx, h4]; exact h3) (fun hcf ρ2 e1 hcc => by rw [e1, hcf] at hcc; cases hcc)
      refine ⟨ρ2, g1, fun _ => trivial, fun hcg w => ?_⟩
      obtain ⟨B, off, j, e1, ⟨l, cap, e2, e3⟩, e4, _⟩ := hV hcg
      have hv : SV.den ρ (.sl b) = .slice (some ⟨B, off, none⟩) l cap := e2
      rw [hv, e4, indexAt_slice' hty ht e3]
      have : SV.den ρ2 (.pt (p.d.ghost (.at p.cg e (xa.mkIdx x))).1) = V := g2 hcg
      rw [this, e1]
    · rename_i e' s' ht'
      split at h
      · rename_i P hpool
        cases hk : (Nat.beq e e' && Nat.beq n s' && knownIs p.pc c true && knownIs p.pc (B.mkLt x (.n 0)) false && knownIs p.pc (B.mkLt x (P.mkIdx xa).mkLen) true) <;> rw [hk] at h <;> simp only [cond_true, cond_false] at h <;> cases h
        simp only [Bool.and_eq_true] at hk
        obtain ⟨⟨⟨⟨k1, k2⟩, k0⟩, k3⟩, k4⟩ := hk
        refine ⟨ρ, hc.ext0, fun _ => trivial, fun hcg w => ?_⟩
        obtain ⟨j, j1, j2, j3⟩ := inRange (hc.hpc hcg) (int_mkLen (P.mkIdx xa) ρ.is) k3 k4
        obtain ⟨l, i, y, h1, h2, h3, h4, h5, h6⟩ := hnd_row hc.hmem hc.hhk hb (knownIs_ok (hc.hpc hcg) k0) ht' hpool
        rw [h6] at j2
        rcases h5 with ⟨h5, _⟩ | ⟨m, B, cap, q1, q2, q3⟩
        · rw [h5] at j2; simp [Dt.len] at j2
        · rw [q1] at j2
          simp only [Dt.len] at j2
          have hv : SV.den ρ (.sl b) = .slice (some ⟨B, 0, none⟩) m.length cap := q2
          rw [hv, j1, indexAt_slice' hty ht j2]
          simp [SV.den, j1, Env.rb, q2]
      · cases h
    · cases h
  · rename_i e' s xa e n hb ht
    cases hk : (Nat.beq e e' && Nat.beq s n && knownIs p.pc (B.mkLt x (.n 0)) false && knownIs p.pc (B.mkLt x xa.mkLen) true) <;> rw [hk] at h <;> simp only [cond_true, cond_false] at h <;> cases h
    simp only [Bool.and_eq_true] at hk
    obtain ⟨⟨⟨k1, k2⟩, k3⟩, k4⟩ := hk
    have hsn := beq_nat k2
    subst hsn
    obtain ⟨_, hw, hgo⟩ := hc.hmem b _ hb
    refine ⟨ρ, hc.ext0, fun _ => trivial, fun hcg w => ?_⟩
    obtain ⟨j, j1, j2, j3⟩ := inRange (hc.hpc hcg) (int_mkLen xa ρ.is) k3 k4
    simp only [GhOk] at hgo
    rcases hgo with ⟨h1, _⟩ | ⟨l, cap, h1, h2, _⟩
    · rw [h1] at j2; simp [Dt.len] at j2
    · rw [h1] at j2
      simp only [Dt.len] at j2
      have hv : SV.den ρ (.sl b) = .slice (some ⟨ρ.b b, 0, none⟩) l.length cap := h2
      rw [hv, j1, indexAt_slice' hty ht j2]
      simp [SV.den, j1, Env.rb, h2]
  · cases h
theorem pIndexAddr_ok (hty : TyOk P p.ty) (hc : Px ρ p a) {t : TypeId} {x i : Operand} (ho : o.op = .indexAddr t x i) (h : pIndexAddr p t x i = some (v, d)) : Pure P o a ρ p v d := by
  unfold pIndexAddr at h
  split at h
  · rename_i ht hx hi
    split at h
    · rename_i j hj
      cases hz : Nat.blt j _ <;> rw [hz] at h <;> simp only [cond_true, cond_false] at h <;> cases h
      refine Pure.plain hc (fun _ => trivial) fun hcg w _ => ?_
      unfold execOp
      simp only [ho, hc.ev hx hcg, hc.ev hi hcg, SV.den, int_n, litNat_eq hj, Sem.run_bind, indexAt_slice' hty ht (blt_nat hz), Result.andThen_ok, Sem.run_pure]
    · cases h
  · rename_i ht hx hi
    have wi := hc.evw hi
    simp only [SV.wf] at wi
    rename_i ki _ _ _ _
    obtain ⟨ρ1, h1, h3, h2⟩ := idxAddr_ok hty hc wi h (by assumption)
    refine ⟨ρ1, h1, fun hcg => ⟨h3 _, fun w _ => ?_⟩⟩
    unfold execOp
    simp only [ho, hc.ev hx hcg, hc.ev hi hcg]
    have := h2 hcg w
    simp only [SV.den] at this ⊢
    simp only [Sem.run_bind, this, Result.andThen_ok, Sem.run_pure]
  · rename_i ht hx hi
    split at h
    · rename_i j hj
      cases hz : Nat.blt j _ <;> rw [hz] at h <;> simp only [cond_true, cond_false] at h <;> cases h
      refine Pure.plain hc (fun _ => trivial) fun hcg w _ => ?_
      unfold execOp
      simp only [ho, hc.ev hx hcg, hc.ev hi hcg, SV.den, int_n, litNat_eq hj, Sem.run_bind, indexAt_array' hty ht (blt_nat hz), Result.andThen_ok, Sem.run_pure]
    · cases h
  · rename_i ht hx hi
    split at h
    · rename_i j hj
      cases hz : Nat.blt j _ <;> rw [hz] at h <;> simp only [cond_true, cond_false] at h <;> cases h
      refine Pure.plain hc (fun _ => trivial) fun hcg w _ => ?_
      unfold execOp
      simp only [ho, hc.ev hx hcg, hc.ev hi hcg, SV.den, int_n, litNat_eq hj, Sem.run_bind, indexAt_array' hty ht (blt_nat hz), Result.andThen_ok, Sem.run_pure]
    · cases h
  · cases h
theorem pIndex_ok (hty : TyOk P p.ty) (hc : Px ρ p a) {t : TypeId} {x i : Operand} (ho : o.op = .index t x i) (h : pIndex p t x i = some (v, d)) : Pure P o a ρ p v d := by
  unfold pIndex at h
  split at h
  · rename_i ht hx hi
    split at h
    · rename_i j hj
      cases hz : Nat.blt j _ <;> rw [hz] at h <;> simp only [cond_true, cond_false] at h
      · cases h
      · split at h <;> cases h
        rename_i hp
        refine Pure.plain hc (fun hcg => partL_ty hp (hc.evt hx hcg)) fun hcg w _ => ?_
        unfold execOp
        simp only [ho, hc.ev hx hcg, hc.ev hi hcg, SV.den, int_n, litNat_eq hj, Sem.run_bind, index_array' hty ht (blt_nat hz) hp, Result.andThen_ok, Sem.run_pure]
    · cases h
  · rename_i s kx x' ht hx hi
    cases hk : (knownIs p.pc (B.mkLt x' (.n 0)) false && knownIs p.pc (B.mkLt x' s.mkSlen) true) <;> rw [hk] at h <;> simp only [cond_true, cond_false] at h <;> cases h
    simp only [Bool.and_eq_true] at hk
    refine Pure.plain hc (fun _ => ⟨_, den_mkSidx s x' ρ.is, u8_range _⟩) fun hcg w _ => ?_
    obtain ⟨j, j1, j2, j3⟩ := inRange (hc.hpc hcg) (int_mkSlen s ρ.is) hk.1 hk.2
    unfold execOp
    have hg : (s.den ρ.is).str[j]? = some ((s.den ρ.is).str.getD j 0) := by simp [j2]
    simp only [ho, hc.ev hx hcg, hc.ev hi hcg, SV.den, j1, Sem.run_bind, index_str' hty ht hg, Result.andThen_ok, Sem.run_pure, int_mkSidx, j3]
    rw [← j1, j3]
  · cases h
theorem pNilCheck_ok (hc : Px ρ p a) {x : Operand} (ho : o.op = .nilCheck x) (h : pNilCheck p x = some (v, d)) : Pure P o a ρ p v d := by
  unfold pNilCheck at h
  split at h
  · rename_i hx
    cases h
    refine Pure.plain hc (hc.evt hx) fun hcg w _ => ?_
    unfold execOp
    simp [ho, hc.ev hx hcg, SV.den]
  · rename_i hx
    cases h
    refine Pure.plain hc (hc.evt hx) fun hcg w _ => ?_
    unfold execOp
    simp [ho, hc.ev hx hcg, SV.den]
  · rename_i b hx
    split at h
    · rename_i c t x' hb
      cases hk : knownIs p.pc c true <;> rw [hk] at h <;> simp only [cond_true, cond_false] at h <;> cases h
      obtain ⟨_, hw, hgo⟩ := hc.hmem b _ hb
      refine Pure.plain hc (fun _ => trivial) fun hcg w _ => ?_
      obtain ⟨B, off, cs, h1, _⟩ := hgo (knownIs_ok (hc.hpc hcg) hk)
      have hv : SV.den ρ (.pt b) = .pointer (some ⟨B, off, none⟩) := h1
      unfold execOp
      simp [ho, hc.ev hx hcg, hv]
    · cases h
  · rename_i hx
    cases h
    refine Pure.plain hc (hc.evt hx) fun hcg w _ => ?_
    unfold execOp
    simp [ho, hc.ev hx hcg, SV.den]
  · cases h
end
end Go.SY
