/- The symbolic executor SY, its soundness, part 18: maps. -/
import Derived.Test.YtolebnomgllgaaaGreatDoorSyS17
set_option linter.unusedVariables false
set_option linter.unusedSimpArgs false
namespace Go.SY
open Go Go.RowKit
noncomputable section
variable {F : Nat → List Dt → Post → Prop} {Q : Post}
variable {C : Cfg} {G : Nat → Prop} {fz0 : Fz} {w0 w w' : World} {ρ ρ' ρ1 ρ1' : Env} {st : St} {d : Bd} {tm : Tm} {a : Act} {o : Oper} {k : SV → St → T} {next : Act → World → Prop} {QE : Exit → Act → World → Prop}
theorem bytes_eq {a b : ByteArray} (h : (a == b) = true) : a = b := by
  rw [beq_toListBytes, beq_iff_eq, ByteArray.toList_eq, ByteArray.toList_eq] at h
  obtain ⟨⟨x⟩⟩ := a
  obtain ⟨⟨y⟩⟩ := b
  simp at h
  rw [h]
theorem bytes_refl (a : ByteArray) : (a == a) = true := by
  rw [beq_toListBytes]; simp
theorem keyEq_ok {x y : SV} {c : B} (h : keyEq x y = some c) {td : TD} {kd : TypeDesc} (hk : keyKind td x = true) (hd : (∃ k, td = .int k ∧ kd = .int k) ∨ (td = .str ∧ kd = .string)) (ρ : Env) :
    Instr.sameNow kd (x.den ρ) (y.den ρ) = some (c.den ρ.is) := by
  unfold keyEq at h
  split at h
  · rename_i k a k' b
    cases hkk : kindEq k k' <;> rw [hkk] at h <;> simp only [cond_true, cond_false] at h
    · cases h
    · cases h
      cases kindEq_eq hkk
      rcases hd with ⟨j, rfl, rfl⟩ | ⟨rfl, rfl⟩
      · simp [Instr.sameNow, SV.den, B.den_mkEq]
      · simp [keyKind] at hk
  · rename_i s t
    cases h
    rcases hd with ⟨j, rfl, rfl⟩ | ⟨rfl, rfl⟩
    · simp [keyKind] at hk
    · simp only [Instr.sameNow, SV.den, den_mkSeq, bytesOf, toList_beq]
  · cases h
theorem findE_ok {key : SV} {td : TD} {kd : TypeDesc} (hk : keyKind td key = true) (hd : (∃ k, td = .int k ∧ kd = .int k) ∨ (td = .str ∧ kd = .string)) (ρ : Env) : ∀ (es : List (SV × SV × Nat)) (i : Nat) {res : Option Nat}, findE key es i = some res →
    Instr.findNow kd (key.den ρ) (esDen ρ es) i = some (match res with
      | none => none
      | some j => some (j, ((es[j - i]?).map fun e => e.2.1.den ρ).getD undef)) ∧ (∀ j, res = some j → i ≤ j ∧ ∃ e, es[j - i]? = some e ∧ Instr.sameNow kd (key.den ρ) (e.1.den ρ) = some true)
  | [], i, res, h => by
    simp only [findE] at h
    cases h
    exact ⟨rfl, fun j hj => by cases hj⟩
  | e :: es, i, res, h => by
    simp only [findE] at h
    split at h
    · rename_i he
      cases h
      have hs := keyEq_ok he hk hd ρ
      refine ⟨?_, fun j hj => ?_⟩
      · simp only [esDen, List.map_cons, Instr.findNow, hs, B.den]
        simp
      · cases hj
        exact ⟨Nat.le_refl _, e, by simp, hs⟩
    · rename_i he
      have hs := keyEq_ok he hk hd ρ
      obtain ⟨h1, h2⟩ := findE_ok hk hd ρ es (i + 1) h
      refine ⟨?_, fun j hj => ?_⟩
      · simp only [esDen, List.map_cons, Instr.findNow, hs, B.den]
        rw [show (es.map fun e => (⟨e.1.den ρ, e.2.1.den ρ, e.2.2⟩ : MapEntry)) = esDen ρ es from rfl, h1]
        cases res with
        | none => rfl
        | some j =>
          obtain ⟨h3, _⟩ := h2 j rfl
          show some (some (j, (Option.map (fun e => SV.den ρ e.snd.fst) es[j - (i + 1)]?).getD undef)) = some (some (j, (Option.map (fun e => SV.den ρ e.snd.fst) (e :: es)[j - i]?).getD undef))
          rw [show j - i = (j - (i + 1)) + 1 from by omega, List.getElem?_cons_succ]
      · obtain ⟨h3, e', h4, h5⟩ := h2 j hj
        refine ⟨by omega, e', ?_, h5⟩
        rw [show j - i = (j - (i + 1)) + 1 from by omega]
        simpa using h4
    · cases h
theorem run_checkKey {kt : TypeId} {kd : TypeDesc} {key : SV} {td : TD} (hk : keyKind td key = true) (hd : (∃ k, td = .int k ∧ kd = .int k) ∨ (td = .str ∧ kd = .string)) (hu : C.P.underlying kt = some kd) (b : Bool) (ρ : Env) (w : World) :
    (Instr.checkKey b 10000 kt (key.den ρ)).run C.P w = .ok () w := by
  have gen : ∀ n, (Instr.checkKey b (n + 1) kt (key.den ρ)).run C.P w = .ok () w := by
    intro n
    rcases hd with ⟨j, rfl, rfl⟩ | ⟨rfl, rfl⟩ <;> cases key <;> simp [keyKind] at hk <;> simp [Instr.checkKey, run_underlying hu, SV.den]
  exact gen 9999
theorem same_key {kd : TypeDesc} {x y : Value} (h : Instr.sameNow kd x y = some true) : x = y := by
  unfold Instr.sameNow at h
  split at h
  · split at h
    · rename_i e; cases e; simp at h; rw [h]
    · cases h
  · simp only [Option.some.injEq] at h; rw [bytes_eq h]
  · simp at h; rw [h]
  · cases h
theorem same_bits {kd : TypeDesc} {x : Value} (h : Instr.sameNow kd x x = some true) (n : Nat) : Instr.sameBits n x x = true := by
  cases n <;> cases x <;> first
    | (simp [Instr.sameBits]; done)
    | (simp only [Instr.sameBits]; exact bytes_refl _)
    | (simp [Instr.sameNow] at h)
theorem tdKey (hty : TyOk C.P C.ty) {kt : TypeId} {td : TD} (h : tdOf C.ty kt = td) {key : SV} (hk : keyKind td key = true) : ∃ kd, C.P.underlying kt = some kd ∧ ((∃ k, td = .int k ∧ kd = .int k) ∨ (td = .str ∧ kd = .string)) := by
  cases td <;> simp [keyKind] at hk
  · obtain ⟨_, d1, _, _, _, hu1, _, hm1, _⟩ := tdOf_info hty h (by simp)
    cases mkTD_int hm1
    exact ⟨_, hu1, .inl ⟨_, rfl, rfl⟩⟩
  · obtain ⟨_, d1, _, _, _, hu1, _, hm1, _⟩ := tdOf_info hty h (by simp)
    cases mkTD_str hm1
    exact ⟨_, hu1, .inr ⟨rfl, rfl⟩⟩
theorem run_findKey {kt : TypeId} {kd : TypeDesc} {key : Value} {es : List MapEntry} {res : Option (Nat × Value)} (hu : C.P.underlying kt = some kd) (h : Instr.findNow kd key es 0 = some res) (w : World) : (Instr.findKey kt key es).run C.P w = .ok res w := by
  simp [Instr.findKey, run_underlying hu, h]
theorem Md.setMap (hm : Md C.ty C.pl G fz0 w0 ρ st w) {b : Nat} {es es' : List (SV × SV × Nat)} {c c' : Nat} (hb : st.mem.get b = some (.map es c)) (hw : esWf st.ni st.nb es' = true) (ht : esTyd ρ es') :
    (setObj (ρ.b b) (.map (esDen ρ es').toArray c')).run C.P w = .ok () { w with heap := w.heap.setIfInBounds (ρ.b b) (.map (esDen ρ es').toArray c') } ∧
    Md C.ty C.pl G fz0 w0 ρ { st with mem := st.mem.put b (.map es' c') } { w with heap := w.heap.setIfInBounds (ρ.b b) (.map (esDen ρ es').toArray c') } := by
  obtain ⟨_, h2, _, hok⟩ := hm.mem b _ hb
  simp only [SO.ok] at hok
  have hlt : ρ.b b < w.heap.size := (Array.getElem?_eq_some_iff.1 hok.1).1
  refine ⟨by simp [setObj, Sem.run, hok.1], hm.upd hb (o' := .map es' c') (row := some (ρ.b b)) ⟨rfl, rfl, rfl, by simp, fun k hk hne => ?_⟩ (fun k hk => by cases hk; rfl) hw trivial ?_ (fun k hk => hk)⟩
  · have : ρ.b b ≠ k := fun e => hne (by rw [e])
    simp [Array.getElem?_setIfInBounds_ne this]
  · simp only [SO.ok]
    exact ⟨by simp [hlt], ht⟩
theorem run_getMap (hm : Md C.ty C.pl G fz0 w0 ρ st w) {b : Nat} {es : List (SV × SV × Nat)} {c : Nat} (hb : st.mem.get b = some (.map es c)) : (getObj (ρ.b b)).run C.P w = .ok (.map (esDen ρ es).toArray c) w ∧ esWf st.ni st.nb es = true ∧ esTyd ρ es := by
  obtain ⟨_, h2, _, hok⟩ := hm.mem b _ hb
  simp only [SO.ok] at hok
  exact ⟨by simp [getObj, Sem.run, hok.1], h2, hok.2⟩
theorem esTyd_append {l m : List (SV × SV × Nat)} (h : esTyd ρ l) (h' : esTyd ρ m) : esTyd ρ (l ++ m) := fun e he => (List.mem_append.1 he).elim (h e) (h' e)
theorem esTyd_set {l : List (SV × SV × Nat)} (h : esTyd ρ l) {i : Nat} {x : SV × SV × Nat} (hx : x.1.ty ρ ∧ x.2.1.ty ρ) : esTyd ρ (setN l i x) := fun e he => by
  rw [setN_eq] at he
  rcases List.mem_or_eq_of_mem_set he with he | rfl
  · exact h e he
  · exact hx
theorem esTyd_get {l : List (SV × SV × Nat)} (h : esTyd ρ l) {i : Nat} {e : SV × SV × Nat} (he : l[i]? = some e) : e.1.ty ρ ∧ e.2.1.ty ρ := h e (List.mem_of_getElem? he)
theorem esWf_append {ni nb : Nat} : ∀ {l m : List (SV × SV × Nat)}, esWf ni nb l = true → esWf ni nb m = true → esWf ni nb (l ++ m) = true
  | [], m, _, h => h
  | e :: l, m, h, h' => by
    simp only [esWf, Bool.and_eq_true, List.cons_append] at h ⊢
    exact ⟨h.1, esWf_append h.2 h'⟩
theorem esWf_set {ni nb : Nat} {x : SV × SV × Nat} (hx : x.1.wf ni nb = true) (hx' : x.2.1.wf ni nb = true) : ∀ {l : List (SV × SV × Nat)} {i : Nat}, esWf ni nb l = true → esWf ni nb (setN l i x) = true
  | [], _, _ => rfl
  | e :: l, 0, h => by
    simp only [esWf, Bool.and_eq_true, setN] at h ⊢
    exact ⟨⟨hx, hx'⟩, h.2⟩
  | e :: l, i + 1, h => by
    simp only [esWf, Bool.and_eq_true, setN] at h ⊢
    exact ⟨h.1, esWf_set hx hx' h.2⟩
theorem esWf_get {ni nb : Nat} : ∀ {l : List (SV × SV × Nat)} {i : Nat} {e : SV × SV × Nat}, esWf ni nb l = true → l[i]? = some e → e.1.wf ni nb = true ∧ e.2.1.wf ni nb = true
  | [], _, _, _, h => by simp at h
  | x :: l, 0, e, h, he => by
    simp only [esWf, Bool.and_eq_true] at h
    simp at he; subst he; exact h.1
  | x :: l, i + 1, e, h, he => by
    simp only [esWf, Bool.and_eq_true] at h
    exact esWf_get h.2 (by simpa using he)
theorem esDen_modify (ρ : Env) {l : List (SV × SV × Nat)} {i : Nat} {e : SV × SV × Nat} (he : l[i]? = some e) (f : MapEntry → MapEntry) {x : SV × SV × Nat} (hx : f ⟨e.1.den ρ, e.2.1.den ρ, e.2.2⟩ = ⟨x.1.den ρ, x.2.1.den ρ, x.2.2⟩) :
    (esDen ρ l).toArray.modify i f = (esDen ρ (setN l i x)).toArray := by
  apply Array.ext_getElem?
  intro j
  rw [setN_eq]
  simp only [Array.getElem?_modify, List.getElem?_toArray, esDen, List.getElem?_map, List.getElem?_set]
  by_cases h : i = j
  · subst h
    obtain ⟨hlt, hle⟩ := List.getElem?_eq_some_iff.1 he
    simp [hlt, hle, hx]
  · simp [h]
theorem eMapUpdate_ok (hty : TyOk C.P C.ty) (hm : Md C.ty C.pl G fz0 w0 ρ st w) (ht : TmOk ρ st.ni st.nb tm a) {t : TypeId} {x y z : Operand} (ho : o.op = .mapUpdate t x y z ∨ o.op = .insert t x y z) (h : (eMapUpdate C tm st k t x y z).wp C.ty F ρ.is Q) (hk : HK C.ty C.pl F Q G fz0 w0 ρ st a o.dst next k) : o.wp C.P a w next QE := by
  unfold eMapUpdate at h
  split at h
  · rename_i kt et htd
    split at h
    · rename_i td b key v hkd hx hy hz
      cases hkd
      obtain ⟨ex, _⟩ : _ ∧ _ := ⟨evO_den ht hm.hpc hx, evO_wf ht hx⟩
      obtain ⟨ey, wy⟩ : _ ∧ _ := ⟨evO_den ht hm.hpc hy, evO_wf ht hy⟩
      obtain ⟨ez, wz⟩ : _ ∧ _ := ⟨evO_den ht hm.hpc hz, evO_wf ht hz⟩
      cases hc : (keyKind (tdOf C.ty kt) key && v.wf st.ni st.nb && key.wf st.ni st.nb && v.plain) <;> rw [hc] at h <;> simp only [cond_true, cond_false] at h
      · exact h.elim
      · simp only [Bool.and_eq_true] at hc
        obtain ⟨⟨⟨hkk, _⟩, _⟩, hcell⟩ := hc
        obtain ⟨_, d1, _, _, _, hu1, _, hm1, _⟩ := tdOf_info hty htd (by simp)
        cases mkTD_map hm1
        obtain ⟨kd, hku, hkd⟩ := tdKey hty rfl hkk
        have hck := run_checkKey (C := C) hkk hkd hku false ρ w
        have wk : key.wf st.ni st.nb = true := wy
        split at h
        · rename_i es clock hb
          obtain ⟨hget, hwf, htyd⟩ := run_getMap hm hb
          split at h
          · rename_i hf
            obtain ⟨f1, _⟩ := findE_ok hkk hkd ρ es 0 hf
            have hfk := run_findKey (C := C) hku f1 w
            obtain ⟨s1, s2⟩ := hm.setMap hb (es' := es ++ [(key, v, clock)]) (c' := clock + 1) (esWf_append hwf (by simp [esWf, wk, wz])) (esTyd_append htyd (fun q hq => by rcases List.mem_singleton.1 hq with rfl; exact ⟨evO_ty ht hm.hpc hy, evO_ty ht hm.hpc hz⟩))
            refine wp_skip (w' := _) ?_ (hk _ _ _ (.tup []) (Env.le_refl ρ) s2 rfl trivial h)
            have e1 : (esDen ρ es).toArray.push ⟨key.den ρ, v.den ρ, clock⟩ = (esDen ρ (es ++ [(key, v, clock)])).toArray := by simp [esDen]
            unfold execOp
            rcases ho with ho | ho <;> simp only [ho, ex, ey, ez, SV.den, Instr.mapUpdate, Sem.run_bind, run_underlying hu1, Result.andThen_ok, hget, hck, hfk, e1, s1, Sem.run_pure]
          · rename_i i hf
            obtain ⟨f1, f2⟩ := findE_ok hkk hkd ρ es 0 hf
            obtain ⟨_, e, he, hs⟩ := f2 i rfl
            rw [Nat.sub_zero] at he
            have hfk := run_findKey (C := C) hku f1 w
            split at h
            · rename_i e' he'
              rw [nth_eq, he] at he'
              cases he'
              obtain ⟨we1, we2⟩ := esWf_get hwf he
              obtain ⟨s1, s2⟩ := hm.setMap hb (es' := setN es i (e.1, v, e.2.2)) (c' := clock) (esWf_set (x := (e.1, v, e.2.2)) we1 wz hwf) (esTyd_set htyd ⟨(esTyd_get htyd he).1, evO_ty ht hm.hpc hz⟩)
              refine wp_skip (w' := _) ?_ (hk _ _ _ (.tup []) (Env.le_refl ρ) s2 rfl trivial h)
              have ek : key.den ρ = e.1.den ρ := same_key hs
              have e1 : (esDen ρ es).toArray.modify i (fun x => { x with key := key.den ρ, val := v.den ρ }) = (esDen ρ (setN es i (e.1, v, e.2.2))).toArray := esDen_modify ρ he _ (by simp [ek])
              have e2 : (((esDen ρ es).toArray[i]?).map (·.key)).getD (key.den ρ) = key.den ρ := by
                simp only [List.getElem?_toArray, esDen, List.getElem?_map, he, Option.map_some, Option.getD_some]
                exact ek.symm
              have hks : (Instr.keyThatStays (key.den ρ) (key.den ρ)).run C.P w = .ok (key.den ρ) w := by
                rw [ek] at hs ⊢
                simp [Instr.keyThatStays, same_bits hs]
              unfold execOp
              rcases ho with ho | ho <;> simp only [ho, ex, ey, ez, SV.den, Instr.mapUpdate, Sem.run_bind, run_underlying hu1, Result.andThen_ok, hget, hck, hfk, e2, hks, e1, s1, Sem.run_pure]
            · exact h.elim
          · exact h.elim
        · exact h.elim
    · exact h.elim
  · exact h.elim
theorem eMapEntry_ok (hty : TyOk C.P C.ty) (hm : Md C.ty C.pl G fz0 w0 ρ st w) (ht : TmOk ρ st.ni st.nb tm a) {t : TypeId} {x y : Operand} (ho : o.op = .mapEntry t x y) (h : (eMapEntry C tm st k t x y).wp C.ty F ρ.is Q) (hk : HK C.ty C.pl F Q G fz0 w0 ρ st a o.dst next k) : o.wp C.P a w next QE := by
  unfold eMapEntry at h
  split at h
  · rename_i kt et htd
    split at h
    · rename_i td b key z hkd hx hy hz
      cases hkd
      obtain ⟨ex, _⟩ : _ ∧ _ := ⟨evO_den ht hm.hpc hx, evO_wf ht hx⟩
      obtain ⟨ey, wk⟩ : _ ∧ _ := ⟨evO_den ht hm.hpc hy, evO_wf ht hy⟩
      cases hc : (keyKind (tdOf C.ty kt) key && key.wf st.ni st.nb && z.wf st.ni st.nb) <;> rw [hc] at h <;> simp only [cond_true, cond_false] at h
      · exact h.elim
      · simp only [Bool.and_eq_true] at hc
        obtain ⟨⟨hkk, _⟩, wz⟩ := hc
        obtain ⟨_, d1, _, _, _, hu1, _, hm1, _⟩ := tdOf_info hty htd (by simp)
        cases mkTD_map hm1
        obtain ⟨kd, hku, hkd⟩ := tdKey hty rfl hkk
        have hck := run_checkKey (C := C) hkk hkd hku false ρ w
        have hzr := zeroV_ok hty hz ρ w
        split at h
        · rename_i es clock hb
          obtain ⟨hget, hwf, htyd⟩ := run_getMap hm hb
          split at h
          · rename_i hf
            obtain ⟨f1, _⟩ := findE_ok hkk hkd ρ es 0 hf
            have hfk := run_findKey (C := C) hku f1 w
            obtain ⟨s1, s2⟩ := hm.setMap hb (es' := es ++ [(key, z, clock)]) (c' := clock + 1) (esWf_append hwf (by simp [esWf, wk, wz])) (esTyd_append htyd (fun q hq => by rcases List.mem_singleton.1 hq with rfl; exact ⟨evO_ty ht hm.hpc hy, zeroV_ty hty hz ρ⟩))
            cases hck2 : Nat.blt clock 4294967296 <;> rw [hck2] at h <;> simp only [cond_true, cond_false] at h
            · exact h.elim
            have hcl := blt_nat hck2
            refine wp_value (x := SV.den ρ (.tup [z, .int .i64 (.n clock)])) (w' := _) ?_ (hk _ _ _ (.tup [z, .int .i64 (.n clock)]) (Env.le_refl ρ) s2 rfl ⟨zeroV_ty hty hz ρ, ⟨_, rfl, i64_nat (by omega)⟩, trivial⟩ h)
            have e1 : (esDen ρ es).toArray.push ⟨key.den ρ, z.den ρ, clock⟩ = (esDen ρ (es ++ [(key, z, clock)])).toArray := by simp [esDen]
            unfold execOp
            simp only [ho, ex, ey, SV.den, SV.dens, int_n, Instr.mapEntry, Sem.run_bind, run_underlying hu1, Result.andThen_ok, hget, hck, hfk, hzr, e1, s1, Sem.run_pure, goInt]
          · rename_i i hf
            obtain ⟨f1, f2⟩ := findE_ok hkk hkd ρ es 0 hf
            obtain ⟨_, e, he, hs⟩ := f2 i rfl
            rw [Nat.sub_zero] at he
            have hfk := run_findKey (C := C) hku f1 w
            split at h
            · rename_i e' he'
              rw [nth_eq, he] at he'
              cases he'
              have ek : key.den ρ = e.1.den ρ := same_key hs
              have e0 : setN es i e = es := by
                rw [setN_eq]
                apply List.ext_getElem?
                intro j
                rw [List.getElem?_set]
                split
                · rename_i hij; subst hij
                  split
                  · exact he.symm
                  · rename_i hlt; rw [List.getElem?_eq_none (by omega)]
                · rfl
              obtain ⟨we1, we2⟩ := esWf_get hwf he
              obtain ⟨s1, s2⟩ := hm.setMap hb (es' := setN es i e) (c' := clock) (esWf_set (x := e) we1 we2 hwf) (esTyd_set htyd (esTyd_get htyd he))
              have hmem : Md C.ty C.pl G fz0 w0 ρ st { w with heap := w.heap.setIfInBounds (ρ.b b) (.map (esDen ρ (setN es i e)).toArray clock) } := by
                obtain ⟨_, h2, _, hok⟩ := hm.mem b _ hb
                simp only [SO.ok] at hok
                replace hok := hok.1
                have : w.heap.setIfInBounds (ρ.b b) (.map (esDen ρ (setN es i e)).toArray clock) = w.heap := by
                  rw [e0]
                  apply Array.ext_getElem?
                  intro j
                  rw [Array.getElem?_setIfInBounds]
                  split
                  · rename_i hij; subst hij
                    have hlt : ρ.b b < w.heap.size := (Array.getElem?_eq_some_iff.1 hok).1
                    rw [if_pos hlt, hok]
                  · rfl
                rw [this]; exact hm
              cases hck2 : Nat.blt e.2.2 4294967296 <;> rw [hck2] at h <;> simp only [cond_true, cond_false] at h
              · exact h.elim
              have hcl := blt_nat hck2
              refine wp_value (x := SV.den ρ (.tup [e.2.1, .int .i64 (.n e.2.2)])) (w' := _) ?_ (hk _ _ _ (.tup [e.2.1, .int .i64 (.n e.2.2)]) (Env.le_refl ρ) hmem rfl ⟨(esTyd_get htyd he).2, ⟨_, rfl, i64_nat (by omega)⟩, trivial⟩ h)
              have e1 : (esDen ρ es).toArray.modify i (fun x => { x with key := key.den ρ }) = (esDen ρ (setN es i e)).toArray := esDen_modify ρ he _ (by simp [ek])
              have e2 : (((esDen ρ es).toArray[i]?).map (·.key)).getD (key.den ρ) = key.den ρ := by
                simp only [List.getElem?_toArray, esDen, List.getElem?_map, he, Option.map_some, Option.getD_some]
                exact ek.symm
              have e3 : (((esDen ρ es).toArray[i]?).map (·.born)).getD 0 = e.2.2 := by
                simp only [List.getElem?_toArray, esDen, List.getElem?_map, he, Option.map_some, Option.getD_some]
              have hks : (Instr.keyThatStays (key.den ρ) (key.den ρ)).run C.P w = .ok (key.den ρ) w := by
                rw [ek] at hs ⊢
                simp [Instr.keyThatStays, same_bits hs]
              unfold execOp
              simp only [ho, ex, ey, SV.den, SV.dens, int_n, Instr.mapEntry, Sem.run_bind, run_underlying hu1, Result.andThen_ok, hget, hck, hfk, e2, hks, e1, s1, Sem.run_pure, goInt, Nat.sub_zero, he, Option.map_some, Option.getD_some]
              simp [esDen, he]
            · exact h.elim
          · exact h.elim
        · exact h.elim
    · exact h.elim
  · exact h.elim
theorem byBorn_ok (ρ : Env) (n : Nat) : ∀ (es : List (SV × SV × Nat)) (i : Nat) {j : Nat}, byBorn n es i = some j → i ≤ j ∧ (esDen ρ es).findIdx? (fun e => (e.born : Int) == (n : Int)) = some (j - i)
  | [], i, j, h => by cases h
  | e :: es, i, j, h => by
    simp only [byBorn] at h
    cases hb : Nat.beq e.2.2 n <;> rw [hb] at h <;> simp only [cond_true, cond_false] at h
    · obtain ⟨h1, h2⟩ := byBorn_ok ρ n es (i + 1) h
      refine ⟨by omega, ?_⟩
      simp only [esDen, List.map_cons, List.findIdx?_cons]
      have : ((e.2.2 : Int) == (n : Int)) = false := by
        rw [beq_eq_false_iff_ne]; intro hh
        have : e.2.2 = n := by omega
        rw [this] at hb; simp at hb
      rw [this]
      simp only [Bool.false_eq_true, if_false]
      rw [show (es.map fun e => (⟨e.1.den ρ, e.2.1.den ρ, e.2.2⟩ : MapEntry)) = esDen ρ es from rfl, h2]
      simp; omega
    · cases h
      refine ⟨Nat.le_refl _, ?_⟩
      simp only [esDen, List.map_cons, List.findIdx?_cons, beq_nat hb]
      simp
theorem eEntryStore_ok (hm : Md C.ty C.pl G fz0 w0 ρ st w) (ht : TmOk ρ st.ni st.nb tm a) {t : TypeId} {x y z : Operand} (ho : o.op = .entryStore t x y z) (h : (eEntryStore C tm st k x y z).wp C.ty F ρ.is Q) (hk : HK C.ty C.pl F Q G fz0 w0 ρ st a o.dst next k) : o.wp C.P a w next QE := by
  unfold eEntryStore at h
  split at h
  · rename_i b kk c v hx hy hz
    obtain ⟨ex, _⟩ : _ ∧ _ := ⟨evO_den ht hm.hpc hx, evO_wf ht hx⟩
    obtain ⟨ey, _⟩ : _ ∧ _ := ⟨evO_den ht hm.hpc hy, evO_wf ht hy⟩
    obtain ⟨ez, wz⟩ : _ ∧ _ := ⟨evO_den ht hm.hpc hz, evO_wf ht hz⟩
    split at h
    · rename_i n es clock hn hb
      cases hc : (v.wf st.ni st.nb && v.plain) <;> rw [hc] at h <;> simp only [cond_true, cond_false] at h
      · exact h.elim
      · split at h
        · rename_i i hbb
          obtain ⟨_, hfi⟩ := byBorn_ok ρ n es 0 hbb
          rw [Nat.sub_zero] at hfi
          split at h
          · rename_i e he
            rw [nth_eq] at he
            obtain ⟨hget, hwf, htyd⟩ := run_getMap hm hb
            obtain ⟨we1, we2⟩ := esWf_get hwf he
            obtain ⟨s1, s2⟩ := hm.setMap hb (es' := setN es i (e.1, v, e.2.2)) (c' := clock) (esWf_set (x := (e.1, v, e.2.2)) we1 wz hwf) (esTyd_set htyd ⟨(esTyd_get htyd he).1, evO_ty ht hm.hpc hz⟩)
            refine wp_skip (w' := _) ?_ (hk _ _ _ (.tup []) (Env.le_refl ρ) s2 rfl trivial h)
            have e1 : (esDen ρ es).toArray.modify i (fun x => { x with val := v.den ρ }) = (esDen ρ (setN es i (e.1, v, e.2.2))).toArray := esDen_modify ρ he _ rfl
            have e2 : (esDen ρ es).toArray.findIdx? (fun e => (e.born : Int) == (n : Int)) = some i := by
              rw [List.findIdx?_toArray]; exact hfi
            unfold execOp
            simp only [ho, ex, ey, ez, SV.den, int_n, litNat_eq hn, Instr.entryStore, Sem.run_bind, hget, Result.andThen_ok, asInt, asIntOf, Sem.run_pure, e2, e1, s1]
          · exact h.elim
        · exact h.elim
    · exact h.elim
  · exact h.elim
theorem lookE_ok {key : SV} {td : TD} {kd : TypeDesc} (hkk : keyKind td key = true) (hd : (∃ k, td = .int k ∧ kd = .int k) ∨ (td = .str ∧ kd = .string)) {kn : St → T} {ks : SV → St → T} : ∀ (es : List (SV × SV × Nat)) (i : Nat) {st : St}, Md C.ty C.pl G fz0 w0 ρ st w → (lookE key st kn ks es).wp C.ty F ρ.is Q →
    (Instr.findNow kd (key.den ρ) (esDen ρ es) i = some none ∧ ∃ p, Md C.ty C.pl G fz0 w0 ρ { st with pc := p } w ∧ (kn { st with pc := p }).wp C.ty F ρ.is Q) ∨
    (∃ j v, Instr.findNow kd (key.den ρ) (esDen ρ es) i = some (some (j, v.den ρ)) ∧ (∃ e ∈ es, v = e.2.1) ∧ ∃ p, Md C.ty C.pl G fz0 w0 ρ { st with pc := p } w ∧ (ks v { st with pc := p }).wp C.ty F ρ.is Q)
  | [], i, st, hm, h => .inl ⟨rfl, st.pc, hm, h⟩
  | e :: es, i, st, hm, h => by
    simp only [lookE] at h
    split at h
    · rename_i c hc
      have hs := keyEq_ok hc hkk hd ρ
      obtain ⟨b, p, hb, hm', hd'⟩ := condB_ok hm h
      simp only [esDen, List.map_cons, Instr.findNow, hs, hb]
      cases b
      · simp only [cond_false] at hd'
        rcases lookE_ok hkk hd es (i + 1) hm' hd' with ⟨h1, p', h2⟩ | ⟨j, v, h1, ⟨e', he', hv⟩, p', h2⟩
        · exact .inl ⟨h1, p', h2⟩
        · exact .inr ⟨j, v, h1, ⟨e', .tail _ he', hv⟩, p', h2⟩
      · simp only [cond_true] at hd'
        exact .inr ⟨i, e.2.1, rfl, ⟨e, .head _, rfl⟩, p, hm', hd'⟩
    · exact h.elim
theorem findNow_none {kd : TypeDesc} {key : Value} : ∀ {l : List MapEntry} {i : Nat}, (∀ e ∈ l, Instr.sameNow kd key e.key = some false) → Instr.findNow kd key l i = some none
  | [], _, _ => rfl
  | e :: l, i, h => by
    simp only [Instr.findNow, h e (.head _)]
    exact findNow_none fun x hx => h x (.tail _ hx)
theorem findNow_all {kd : TypeDesc} {key : Value} : ∀ {l : List MapEntry} {i : Nat}, Instr.findNow kd key l i = some none → ∀ e ∈ l, Instr.sameNow kd key e.key = some false
  | [], _, _, _, h => nomatch h
  | e :: l, i, h, x, hx => by
    simp only [Instr.findNow] at h
    split at h
    · cases h
    · rename_i hs
      rcases List.mem_cons.1 hx with rfl | hx
      · exact hs
      · exact findNow_all h x hx
    · cases h
theorem findNow_some {kd : TypeDesc} {key : Value} : ∀ {l : List MapEntry} {i j : Nat} {v : Value}, Instr.findNow kd key l i = some (some (j, v)) → ∃ e ∈ l, Instr.sameNow kd key e.key = some true ∧ e.val = v
  | [], _, _, _, h => by cases h
  | e :: l, i, j, v, h => by
    simp only [Instr.findNow] at h
    split at h
    · rename_i hs
      cases h
      exact ⟨e, .head _, hs, rfl⟩
    · obtain ⟨x, h1, h2⟩ := findNow_some h
      exact ⟨x, .tail _ h1, h2⟩
    · cases h
theorem findNow_total {kd : TypeDesc} {key : Value} : ∀ {l : List MapEntry} {i : Nat}, (∀ e ∈ l, ∃ b, Instr.sameNow kd key e.key = some b) → ∃ r, Instr.findNow kd key l i = some r
  | [], i, _ => ⟨none, rfl⟩
  | e :: l, i, h => by
    obtain ⟨b, hb⟩ := h e (.head _)
    simp only [Instr.findNow, hb]
    cases b
    · exact findNow_total fun x hx => h x (.tail _ hx)
    · exact ⟨_, rfl⟩
theorem keysNe_eq : ∀ {l : List MapEntry}, keysNe l → ∀ {e e' : MapEntry}, e ∈ l → e' ∈ l → e.key = e'.key → e = e'
  | [], _, _, _, h, _, _ => nomatch h
  | x :: l, hk, e, e', h, h', he => by
    obtain ⟨k1, k2⟩ := List.pairwise_cons.1 hk
    rcases List.mem_cons.1 h with rfl | h1
    · rcases List.mem_cons.1 h' with rfl | h2
      · rfl
      · exact absurd he (k1 _ h2)
    · rcases List.mem_cons.1 h' with rfl | h2
      · exact absurd he.symm (k1 _ h1)
      · exact keysNe_eq k2 h1 h2 he
theorem find_perm {kd : TypeDesc} {key : Value} {es arr : List MapEntry} (hp : (arr.map kvE).Perm (es.map kvE)) (hne : keysNe es) (hall : ∀ e ∈ es, ∃ b, Instr.sameNow kd key e.key = some b) :
    (Instr.findNow kd key es 0 = some none → Instr.findNow kd key arr 0 = some none) ∧ ∀ j v, Instr.findNow kd key es 0 = some (some (j, v)) → ∃ j', Instr.findNow kd key arr 0 = some (some (j', v)) := by
  have in_es : ∀ x ∈ arr, ∃ y ∈ es, y.key = x.key ∧ y.val = x.val := fun x hx => by
    have := hp.mem_iff.1 (List.mem_map.2 ⟨x, hx, rfl⟩)
    obtain ⟨y, hy, he⟩ := List.mem_map.1 this
    exact ⟨y, hy, by injection he, by injection he⟩
  have in_arr : ∀ y ∈ es, ∃ x ∈ arr, x.key = y.key ∧ x.val = y.val := fun x hx => by
    have := hp.mem_iff.2 (List.mem_map.2 ⟨x, hx, rfl⟩)
    obtain ⟨y, hy, he⟩ := List.mem_map.1 this
    exact ⟨y, hy, by injection he, by injection he⟩
  refine ⟨fun h => findNow_none fun x hx => ?_, fun j v h => ?_⟩
  · obtain ⟨y, hy, hk, _⟩ := in_es x hx
    rw [← hk]; exact findNow_all h y hy
  · obtain ⟨e, he, hs, hv⟩ := findNow_some h
    obtain ⟨r, hr⟩ := findNow_total (kd := kd) (key := key) (l := arr) (i := 0) fun x hx => by
      obtain ⟨y, hy, hk, _⟩ := in_es x hx
      rw [← hk]; exact hall y hy
    rw [hr]
    cases r with
    | none =>
      obtain ⟨x, hx, hk, _⟩ := in_arr e he
      have := findNow_all hr x hx
      rw [hk, hs] at this
      cases this
    | some p =>
      obtain ⟨j', v'⟩ := p
      obtain ⟨x, hx, hsx, hvx⟩ := findNow_some hr
      obtain ⟨y, hy, hk, hvy⟩ := in_es x hx
      have h1 := same_key hs
      have h2 := same_key hsx
      have : y = e := keysNe_eq hne hy he (by rw [hk, ← h2, h1])
      subst this
      exact ⟨j', by rw [← hvx, ← hvy, hv]⟩
theorem keysEq_ok {key : SV} {td : TD} {kd : TypeDesc} (hk : keyKind td key = true) (hd : (∃ k, td = .int k ∧ kd = .int k) ∨ (td = .str ∧ kd = .string)) (ρ : Env) : ∀ {es : List (SV × SV × Nat)}, keysEq key es = true → ∀ e ∈ esDen ρ es, ∃ b, Instr.sameNow kd (key.den ρ) e.key = some b
  | [], _, _, h => nomatch h
  | x :: es, h, e, he => by
    simp only [keysEq, Bool.and_eq_true] at h
    rcases List.mem_cons.1 he with rfl | he
    · have h1 := h.1
      split at h1
      · rename_i hq
        exact ⟨_, keyEq_ok hq hk hd ρ⟩
      · cases h1
    · exact keysEq_ok hk hd ρ h.2 e he
theorem eLookup_ok (hty : TyOk C.P C.ty) (hm : Md C.ty C.pl G fz0 w0 ρ st w) (ht : TmOk ρ st.ni st.nb tm a) {t : TypeId} {x y : Operand} {ok : Bool} (ho : o.op = .lookup t x y ok) (h : (eLookup C tm st k t x y ok).wp C.ty F ρ.is Q) (hk : HK C.ty C.pl F Q G fz0 w0 ρ st a o.dst next k) : o.wp C.P a w next QE := by
  unfold eLookup at h
  split at h
  · rename_i kt et htd
    split at h
    · rename_i td key z hkd hy hz
      cases hkd
      obtain ⟨ey, wk⟩ : _ ∧ _ := ⟨evO_den ht hm.hpc hy, evO_wf ht hy⟩
      cases hkk : keyKind (tdOf C.ty kt) key <;> rw [hkk] at h <;> simp only [cond_true, cond_false] at h
      · exact h.elim
      · obtain ⟨_, d1, _, _, _, hu1, _, hm1, _⟩ := tdOf_info hty htd (by simp)
        cases mkTD_map hm1
        obtain ⟨kd, hku, hkd⟩ := tdKey hty rfl hkk
        have hzr := zeroV_ok hty hz ρ w
        have main : ∀ (es : List (SV × SV × Nat)) (X : Value), esTyd ρ es → a.eval x = X → ((X = .map none ∧ es = []) ∨ ∃ b c arr, X = .map (some b) ∧ (getObj b).run C.P w = .ok (.map arr c) w ∧
              (Instr.findNow kd (key.den ρ) (esDen ρ es) 0 = some none → Instr.findNow kd (key.den ρ) arr.toList 0 = some none) ∧ ∀ j v, Instr.findNow kd (key.den ρ) (esDen ρ es) 0 = some (some (j, v)) → ∃ j', Instr.findNow kd (key.den ρ) arr.toList 0 = some (some (j', v))) →
            (lookE key st (fun st => k (bif ok then .tup [z, .bool (.c false)] else z) st) (fun v st => k (bif ok then .tup [v, .bool (.c true)] else v) st) es).wp C.ty F ρ.is Q → o.wp C.P a w next QE := by
          intro es X htE hX hrun hd
          rcases lookE_ok hkk hkd es 0 hm hd with ⟨h1, p, hm', hd'⟩ | ⟨j, v, h1, ⟨ee, hee, hve⟩, p, hm', hd'⟩
          · refine wp_value (x := SV.den ρ (bif ok then .tup [z, .bool (.c false)] else z)) (w' := w) ?_ (hk _ _ _ (bif ok then .tup [z, .bool (.c false)] else z) (Env.le_refl ρ) hm' rfl (by cases ok; exact zeroV_ty hty hz ρ; exact ⟨zeroV_ty hty hz ρ, trivial, trivial⟩) hd')
            unfold execOp
            rcases hrun with ⟨rfl, rfl⟩ | ⟨b, c, arr, rfl, hrun, hf1, _⟩
            · have hck := run_checkKey (C := C) hkk hkd hku (esDen ρ []).toArray.isEmpty ρ w
              have hfk := run_findKey (C := C) hku h1 w
              have e0 : (#[] : Array MapEntry) = (esDen ρ []).toArray := rfl
              simp only [ho, hX, ey, Instr.lookup, Sem.run_bind, run_underlying hu1, Result.andThen_ok, Sem.run_pure, e0, hck, hfk, hzr]
              cases ok <;> simp [SV.den, SV.dens, B.den]
            · have hck := run_checkKey (C := C) hkk hkd hku arr.isEmpty ρ w
              have hfk := run_findKey (C := C) hku (hf1 h1) w
              simp only [ho, hX, ey, Instr.lookup, Sem.run_bind, run_underlying hu1, Result.andThen_ok, hrun, Sem.run_pure, hck, hfk, hzr]
              cases ok <;> simp [SV.den, SV.dens, B.den]
          · refine wp_value (x := SV.den ρ (bif ok then .tup [v, .bool (.c true)] else v)) (w' := w) ?_ (hk _ _ _ (bif ok then .tup [v, .bool (.c true)] else v) (Env.le_refl ρ) hm' rfl (by subst hve; cases ok; exact (htE ee hee).2; exact ⟨(htE ee hee).2, trivial, trivial⟩) hd')
            unfold execOp
            rcases hrun with ⟨rfl, rfl⟩ | ⟨b, c, arr, rfl, hrun, _, hf2⟩
            · cases h1
            · obtain ⟨j', h2⟩ := hf2 _ _ h1
              have hck := run_checkKey (C := C) hkk hkd hku arr.isEmpty ρ w
              have hfk := run_findKey (C := C) hku h2 w
              simp only [ho, hX, ey, Instr.lookup, Sem.run_bind, run_underlying hu1, Result.andThen_ok, hrun, Sem.run_pure, hck, hfk, hzr]
              cases ok <;> simp [SV.den, SV.dens, B.den]
        split at h
        · rename_i es hes
          split at hes
          · rename_i hx
            cases hes
            obtain ⟨ex, _⟩ : _ ∧ _ := ⟨evO_den ht hm.hpc hx, evO_wf ht hx⟩
            exact main [] _ (fun _ h => nomatch h) ex (.inl ⟨rfl, rfl⟩) h
          · rename_i b hx
            obtain ⟨ex, _⟩ : _ ∧ _ := ⟨evO_den ht hm.hpc hx, evO_wf ht hx⟩
            split at hes
            · cases hes
              rename_i clock hb
              obtain ⟨hget, hwf, htyd⟩ := run_getMap hm hb
              exact main es _ htyd ex (.inr ⟨_, _, _, rfl, hget, fun h => h, fun j v h => ⟨j, h⟩⟩) h
            · rename_i es' hb
              cases hq : keysEq key es' <;> rw [hq] at hes <;> simp only [cond_true, cond_false] at hes <;> cases hes
              obtain ⟨_, h2, ⟨⟨arr, kk, h3, h4⟩, h5, h6⟩, _⟩ := hm.mem b _ hb
              have hget : (getObj (ρ.b b)).run C.P w = .ok (.map arr kk) w := by simp [getObj, Sem.run, hm.fzw _ _ h3]
              obtain ⟨p1, p2⟩ := find_perm h4 h5 (keysEq_ok hkk hkd ρ hq)
              exact main es _ h6 ex (.inr ⟨_, _, arr, rfl, hget, p1, p2⟩) h
            · cases hes
          · cases hes
        · exact h.elim
    · exact h.elim
  · exact h.elim
theorem repC_bytes {ty : Ty} {fz : Fz} {e : Nat} (he : tdOf ty e = .int .u8) : ∀ {l : List Dt} {cs : List Value}, repC ty fz l e 1 cs → cs = l.map (fun d => Value.int .u8 d.int) ∧ ∀ d ∈ l, 0 ≤ d.int ∧ d.int ≤ 255
  | [], cs, h => by simp only [repC] at h; exact ⟨h, fun _ h => nomatch h⟩
  | x :: l, cs, h => by
    simp only [repC] at h
    obtain ⟨n, rfl, h2, h3, h4⟩ := rep_int he h.2.1
    obtain ⟨i1, i2⟩ := repC_bytes he h.2.2
    refine ⟨?_, fun d hd => ?_⟩
    · rw [← List.take_append_drop 1 cs, h2, i1]; rfl
    · rcases List.mem_cons.1 hd with rfl | hd
      · exact ⟨h3, h4⟩
      · exact i2 d hd
theorem eConv_ok (hty : TyOk C.P C.ty) (hm : Md C.ty C.pl G fz0 w0 ρ st w) (ht : TmOk ρ st.ni st.nb tm a) {src dst : TypeId} {x : Operand} (ho : o.op = .convert src dst x) {e n : Nat} {v : SV} {ax : A}
    (h1 : tdOf C.ty src = .slice e n) (h2 : tdOf C.ty dst = .str) (hx : evO st.pc tm x = some v) (hn : n = 1) (he : tdOf C.ty e = .int .u8) (hax : slA C.ty st.mem st.pc src v = some ax)
    (h : (bind1 st (.ofBs ax) fun r st => k (.str r) st).wp C.ty F ρ.is Q) (hk : HK C.ty C.pl F Q G fz0 w0 ρ st a o.dst next k) : o.wp C.P a w next QE := by
  obtain ⟨_, d1, _, _, _, hu1, _, hm1, _⟩ := tdOf_info hty h1 (by simp)
  obtain ⟨rfl, i, hi, hsz⟩ := mkTD_slice hm1
  rw [un_of hty he (by simp)] at hu1
  obtain ⟨_, d2, _, _, _, hu2, _, hm2, _⟩ := tdOf_info hty h2 (by simp)
  cases mkTD_str hm2
  obtain ⟨_, d3, _, _, _, hu3, _, hm3, _⟩ := tdOf_info hty he (by simp)
  cases mkTD_int hm3
  subst hn
  have hex := evO_den ht hm.hpc hx
  have hsrc := srcCells hty hm h1 hax
  have main : (Conv.bytesToString (v.den ρ)).run C.P w = .ok (bytesOf ((ax.den ρ.is).list.map fun d => UInt8.ofNat d.int.toNat)) w ∧ (ax.den ρ.is).list.length < 9223372036854775808 := by
    rcases hsrc with ⟨q1, q2⟩ | ⟨L, ad, cap, cs, q1, q2, q3, q4⟩
    · rw [q1, q2]; exact ⟨rfl, by simp [Dt.list]⟩
    · rw [q1, q2]
      obtain ⟨c1, c2⟩ := repC_bytes he q3
      subst c1
      have hload := run_loadCells_list (P := C.P) w ad _ q4
      rw [List.length_map] at hload
      have hall : ∀ n ∈ L.map (fun d => d.int), 0 ≤ n ∧ n ≤ 255 := by
        intro n hn
        obtain ⟨y, hy, rfl⟩ := List.mem_map.1 hn
        exact c2 y hy
      have := bytes_forIn (P := C.P) (L.map fun d => d.int) hall w ByteArray.empty
      rw [List.map_map] at this
      refine ⟨?_, ?_⟩
      · simp only [Conv.bytesToString, Sem.run_bind, hload, Result.andThen_ok]
        rw [show ((L.map fun d => Value.int .u8 d.int)) = List.map (Value.int IntKind.u8 ∘ fun d => Dt.int d) L from rfl]
        simp only [List.forIn_toArray]
        refine Eq.trans (congrArg (fun r => Result.andThen r _) this) ?_
        simp [bytesOf, Dt.list]
      · rcases slA_ok hm.gmem hm.hpc hax with ⟨k1, _⟩ | ⟨l, ad, cap, k1, _, k3⟩
        · rw [q1] at k1; cases k1
        · rw [q1] at k1; cases k1; exact k3
  obtain ⟨ρ1, r, st', g1, g2, g3, g4, g5, g6, g7, h⟩ := bind1_ok hm h
  refine wp_value (x := SV.den ρ1 (.str r)) (w' := w) ?_ (hk ρ1 _ _ (.str r) g1 g7 g6 ⟨_, g2, by simpa using main.2⟩ h)
  have hmain := main.1
  have hsl : ∃ x y z, v.den ρ = .slice x y z := by rcases hsrc with ⟨_, q2⟩ | ⟨_, _, _, _, _, q2, _⟩ <;> exact ⟨_, _, _, q2⟩
  obtain ⟨x1, y1, z1, hsl⟩ := hsl
  rw [hsl] at hmain hex
  unfold execOp
  cases x1 <;> simp only [ho, hex, convert, Sem.run_bind, run_underlying hu1, run_underlying hu2, run_underlying hu3, Result.andThen_ok, hmain, Sem.run_pure, SV.den, g2, E.den, Dt.str]
end
end Go.SY
