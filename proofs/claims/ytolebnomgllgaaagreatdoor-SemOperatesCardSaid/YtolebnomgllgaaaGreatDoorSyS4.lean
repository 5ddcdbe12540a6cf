/- The symbolic executor SY, its soundness, part 4: data as cells. -/
import Derived.Test.YtolebnomgllgaaaGreatDoorSyR
set_option linter.unusedVariables false
set_option linter.unusedSimpArgs false
namespace Go.SY
open Go Go.RowKit
noncomputable section
variable {ty : Ty} {pl : Bool} {ρ ρ' ρ1 ρ2 : Env} {d d' : Bd} {fz : Fz} {t : TypeId} {x : Dt} {cs : List Value}
theorem rep_int {k : IntKind} (ht : tdOf ty t = .int k) (h : rep ty fz x t cs) : ∃ n, x = .num n ∧ cs = [.int k n] ∧ k.min ≤ n ∧ n ≤ k.max := by
  cases x <;> simp only [rep, ht] at h
  case num n =>
    rcases h with ⟨k', h1, h2, h3, h4⟩ | ⟨_, _, _, h1, _⟩
    · cases h1; exact ⟨n, rfl, h2, h3, h4⟩
    · cases h1
  all_goals simp_all
theorem rep_hnd_one {e s : Nat} (ht : tdOf ty t = .hnd e s) (h : rep ty fz x t cs) : ∃ v, cs = [v] ∧ one1 v = v := by
  cases x <;> simp only [rep, ht] at h
  case num n =>
    rcases h with ⟨_, h1, _⟩ | ⟨_, _, V, _, ⟨_, _, rfl | ⟨_, _, _, rfl⟩⟩, rfl⟩
    · cases h1
    · exact ⟨_, rfl, rfl⟩
    · exact ⟨_, rfl, rfl⟩
  all_goals simp_all
theorem rep_bool (ht : tdOf ty t = .bool) (h : rep ty fz x t cs) : ∃ b, x = .tru b ∧ cs = [.bool b] := by
  cases x <;> simp only [rep, ht] at h
  case tru b => exact ⟨b, rfl, h.2⟩
  all_goals simp_all
theorem rep_str (ht : tdOf ty t = .str) (h : rep ty fz x t cs) : ∃ l, x = .byt l ∧ cs = [bytesOf l] ∧ l.length < 9223372036854775808 := by
  cases x <;> simp only [rep, ht] at h
  case byt l => exact ⟨l, rfl, h.2⟩
  all_goals simp_all
theorem rep_slice {e s : Nat} (ht : tdOf ty t = .slice e s) (h : rep ty fz x t cs) : (x = .nil ∧ cs = [.slice none 0 0]) ∨
    ∃ l b off sp cap, x = .row l ∧ cs = [.slice (some ⟨b, off, sp⟩) l.length cap] ∧ l.length < 9223372036854775808 ∧ l.length ≤ cap ∧ repL ty fz l e s b off ∧ (sp = none ∨ l = []) := by
  cases x <;> simp only [rep, ht] at h
  case nil => exact .inl ⟨rfl, h.2⟩
  case row l =>
    obtain ⟨e', s', b, off, sp, cap, h1, h2, h3, h4, h5, h6⟩ := h
    cases h1
    exact .inr ⟨l, b, off, sp, cap, rfl, h2, h3, h4, h5, h6⟩
  all_goals simp_all
theorem rep_struct {fs : List (Nat × Nat × Nat)} {q : Bool} (ht : tdOf ty t = .struct fs q) (h : rep ty fz x t cs) : ∃ l, x = .tup l ∧ sizeT ty t = some cs.length ∧ repF ty fz l fs cs := by
  cases x <;> simp only [rep, ht] at h
  case tup l =>
    obtain ⟨h0, ⟨fs', q', h1, h2⟩ | ⟨n, e, s, h1, _⟩⟩ := h
    · cases h1; exact ⟨l, rfl, h0.1, h2⟩
    · cases h1
  all_goals simp_all
theorem rep_arr {n e s : Nat} (ht : tdOf ty t = .arr n e s) (h : rep ty fz x t cs) : ∃ l, x = .tup l ∧ sizeT ty t = some cs.length ∧ l.length = n ∧ repA ty fz l e s cs := by
  cases x <;> simp only [rep, ht] at h
  case tup l =>
    obtain ⟨h0, ⟨fs', q', h1, _⟩ | ⟨n', e', s', h1, h2, h3⟩⟩ := h
    · cases h1
    · cases h1; exact ⟨l, rfl, h0.1, h2, h3⟩
  all_goals simp_all
theorem repF_len : ∀ {l : List Dt} {fs : List (Nat × Nat × Nat)} {cs : List Value}, repF ty fz l fs cs → l.length = fs.length
  | [], [], _, _ => rfl
  | x :: l, f :: fs, cs, h => by simp only [repF] at h; simp [repF_len h.2]
  | [], _ :: _, _, h => by simp only [repF] at h
  | _ :: _, [], _, h => by simp only [repF] at h
theorem rep_slice_one {e s : Nat} (ht : tdOf ty t = .slice e s) (h : rep ty fz x t cs) : ∃ v, cs = [v] ∧ one1 v = v := by
  rcases rep_slice ht h with ⟨_, rfl⟩ | ⟨l, b, off, sp, cap, _, rfl, _⟩
  · exact ⟨_, rfl, rfl⟩
  · exact ⟨_, rfl, rfl⟩
def MkR (ty : Ty) (ρ ρ1 : Env) (c : B) (cs : List Value) (l : List SV) (d' : Bd) : Prop :=
  ∃ ρ2, Ext ty ρ d' ρ2 ∧ ρ1.le ρ2 ∧ (c.den ρ1.is = true → SV.dens ρ2 l = cs ∧ SV.tys ρ2 l) ∧ SV.wfs d'.ni d'.nb l = true ∧ allCell l = true
theorem wfs_mono' {n m n' m' : Nat} (h : n ≤ m) (h' : n' ≤ m') {l : List SV} (hl : SV.wfs n n' l = true) : SV.wfs m m' l = true := SV.wfs_mono h h' hl
theorem wfs_append {ni nb : Nat} {l m : List SV} (h : SV.wfs ni nb l = true) (h' : SV.wfs ni nb m = true) : SV.wfs ni nb (l ++ m) = true :=
  wfs_of_mem fun v hv => (List.mem_append.1 hv).elim (wfs_mem h v) (wfs_mem h' v)
theorem allCell_append {l m : List SV} (h : allCell l = true) (h' : allCell m = true) : allCell (l ++ m) = true :=
  allCell_of_mem fun v hv => (List.mem_append.1 hv).elim (allCell_mem h v) (allCell_mem h' v)
theorem Ext.mono_ni (h : Ext ty ρ d ρ1) (h' : Ext ty ρ d' ρ2) (hl : ρ1.le ρ2) : d.ni ≤ d'.ni ∧ d.nb ≤ d'.nb := by
  rw [← h.len, ← h'.len, ← h.lenb, ← h'.lenb]; exact ⟨hl.len_is, hl.len_bs⟩
theorem fld_drop {l : List Dt} {i : Nat} {x : Dt} {r : List Dt} (h : l.drop i = x :: r) : l.getD i .nil = x ∧ l.drop (i + 1) = r := by
  have h1 : l[i]? = some x := by
    have := congrArg (·[0]?) h
    simpa using this
  refine ⟨by simp [List.getD, h1], ?_⟩
  rw [← List.drop_drop, h]; rfl
theorem mk_all (n : Nat) :
    (∀ {t : TypeId} {a : A} {c : B} {d d' : Bd} {l : List SV} {ρ1 : Env} {cs : List Value}, mkD ty n t a c d = some (l, d') → Ext ty ρ d ρ1 → a.wf d.ni = true → c.wf d.ni = true →
      (c.den ρ1.is = true → rep ty ρ.fz (a.den ρ1.is) t cs) → MkR ty ρ ρ1 c cs l d') ∧
    (∀ {fs : List (Nat × Nat × Nat)} {a : A} {i off : Nat} {c : B} {d d' : Bd} {l : List SV} {ρ1 : Env} {cs : List Value}, mkDF ty n fs a i off c d = some (l, d') → Ext ty ρ d ρ1 → a.wf d.ni = true → c.wf d.ni = true →
      (c.den ρ1.is = true → repF ty ρ.fz ((a.den ρ1.is).list.drop i) fs cs) → MkR ty ρ ρ1 c ((cs.drop off).take l.length) l d') ∧
    (∀ {m : Nat} {e : TypeId} {s : Nat} {a : A} {i : Nat} {c : B} {d d' : Bd} {l : List SV} {ρ1 : Env} {cs : List Value}, mkDA ty n m e s a i c d = some (l, d') → Ext ty ρ d ρ1 → a.wf d.ni = true → c.wf d.ni = true →
      (c.den ρ1.is = true → ((a.den ρ1.is).list.drop i).length = m ∧ repA ty ρ.fz ((a.den ρ1.is).list.drop i) e s cs) → MkR ty ρ ρ1 c (cs.take l.length) l d') := by
  induction n with
  | zero => exact ⟨fun h => by simp [mkD] at h, fun h => by simp [mkDF] at h, fun h => by simp [mkDA] at h⟩
  | succ n ih =>
    refine ⟨?_, ?_, ?_⟩
    · intro t a c d d' l ρ1 cs h he ha hc hr
      simp only [mkD] at h
      split at h
      · rename_i k hk
        cases h
        refine ⟨ρ1, he, Env.le_refl _, fun hcc => ?_, by simpa [SV.wfs, SV.wf] using ha, rfl⟩
        obtain ⟨m, h1, h2, h3, h4⟩ := rep_int hk (hr hcc)
        exact ⟨by simp [SV.dens, SV.den, A.int, h1, h2, Dt.int], ⟨m, h1, h3, h4⟩, trivial⟩
      · rename_i hk
        cases h
        have ht : a.tru.wf d.ni = true := by
          unfold A.tru
          split
          · rfl
          · exact ha
        refine ⟨ρ1, he, Env.le_refl _, fun hcc => ?_, by simp only [SV.wfs, SV.wf, ht, Bool.and_self], rfl⟩
        obtain ⟨m, h1, h2⟩ := rep_bool hk (hr hcc)
        refine ⟨by simp [SV.dens, SV.den, den_tru, h1, h2, Dt.bool], ?_, trivial⟩
        simp only [SV.ty]
        unfold A.tru
        split
        · trivial
        · exact ⟨m, h1⟩
      · rename_i hk
        cases h
        refine ⟨ρ1, he, Env.le_refl _, fun hcc => ?_, by simpa [SV.wfs, SV.wf] using ha, rfl⟩
        obtain ⟨m, h1, h2, h3⟩ := rep_str hk (hr hcc)
        exact ⟨by simp [SV.dens, SV.den, h1, h2, Dt.str], ⟨m, h1, h3⟩, trivial⟩
      · rename_i e s hk
        simp only [Option.some.injEq, Prod.mk.injEq] at h
        obtain ⟨rfl, rfl⟩ := h
        by_cases hn : a = .d .nil
        · subst hn
          refine ⟨ρ1, he, Env.le_refl _, fun hcc => ?_, rfl, rfl⟩
          rcases rep_slice hk (hr hcc) with ⟨_, h2⟩ | ⟨l, _, _, _, _, h1, _⟩
          · rw [h2]; exact ⟨rfl, trivial, trivial⟩
          · simp [A.den] at h1
        · have hnv : newVal t c a d = ((.sl (d.ghost (.val c t a)).1), (d.ghost (.val c t a)).2) := by
            unfold newVal
            split
            · exact absurd rfl hn
            · rfl
          rw [hnv]
          by_cases hcc : c.den ρ1.is = true
          · obtain ⟨v, h1, h2⟩ := rep_slice_one hk (hr hcc)
            obtain ⟨ρ2, g1, g2, g3, g4⟩ := he.ghost (so := .val c t a) h2 (by simp only [SO.wf, hc, ha, Bool.and_self]) (fun ρ2 e1 e2 e3 _ => by rw [e1, e2, e3, he.fz, ← h1]; exact hr hcc)
            refine ⟨ρ2, g1, g2, fun _ => ⟨by rw [h1]; simp only [SV.dens, SV.den, g3], trivial, trivial⟩, ?_, rfl⟩
            simp only [SV.wfs, SV.wf, Bool.and_true, Bd.ghost]
            exact Nat.ble_eq.mpr (Nat.le_refl _)
          · obtain ⟨ρ2, g1, g2, g3, g4⟩ := he.ghost (so := .val c t a) (v := .pointer none) rfl (by simp only [SO.wf, hc, ha, Bool.and_self]) (fun ρ2 e1 e2 e3 hc' => by rw [e1] at hc'; exact absurd hc' hcc)
            refine ⟨ρ2, g1, g2, fun h => absurd h hcc, ?_, rfl⟩
            simp only [SV.wfs, SV.wf, Bool.and_true, Bd.ghost]
            exact Nat.ble_eq.mpr (Nat.le_refl _)
      · rename_i e s hk
        simp only [Option.some.injEq, Prod.mk.injEq] at h
        obtain ⟨rfl, rfl⟩ := h
        by_cases hcc : c.den ρ1.is = true
        · obtain ⟨v, h1, h2⟩ := rep_hnd_one hk (hr hcc)
          obtain ⟨ρ2, g1, g2, g3, g4⟩ := he.ghost (so := .val c t a) h2 (by simp only [SO.wf, hc, ha, Bool.and_self]) (fun ρ2 e1 e2 e3 _ => by rw [e1, e2, e3, he.fz, ← h1]; exact hr hcc)
          refine ⟨ρ2, g1, g2, fun _ => ⟨by rw [h1]; simp only [SV.dens, SV.den, g3], trivial, trivial⟩, ?_, rfl⟩
          simp only [SV.wfs, SV.wf, Bool.and_true, Bd.ghost]
          exact Nat.ble_eq.mpr (Nat.le_refl _)
        · obtain ⟨ρ2, g1, g2, g3, g4⟩ := he.ghost (so := .val c t a) (v := .pointer none) rfl (by simp only [SO.wf, hc, ha, Bool.and_self]) (fun ρ2 e1 e2 e3 hc' => by rw [e1] at hc'; exact absurd hc' hcc)
          refine ⟨ρ2, g1, g2, fun h => absurd h hcc, ?_, rfl⟩
          simp only [SV.wfs, SV.wf, Bool.and_true, Bd.ghost]
          exact Nat.ble_eq.mpr (Nat.le_refl _)
      · rename_i fs q hk
        unfold sizeIs at h
        split at h
        · rename_i l1 d1 z hm hz
          cases hb : Nat.beq l1.length z <;> rw [hb] at h <;> simp only [cond_true, cond_false] at h <;> cases h
          have hlz := beq_nat hb
          have hsf : Ext ty ρ (shpFact c a fs.length d) ρ1 ∧ (shpFact c a fs.length d).ni = d.ni ∧ (shpFact c a fs.length d).nb = d.nb := by
            unfold shpFact
            split
            · cases hl : a.lit
              · refine ⟨he.fact ha ?_, rfl, rfl⟩
                obtain ⟨x, h1, _, h3⟩ := rep_struct hk (hr rfl)
                simp only [B.den, h1, Dt.isShp, repF_len h3, Nat.beq_refl]
              · exact ⟨he, rfl, rfl⟩
            · exact ⟨he, rfl, rfl⟩
          obtain ⟨ρ2, g1, g2, g3, g4, g5⟩ := ih.2.1 hm hsf.1 (by rw [hsf.2.1]; exact ha) (by rw [hsf.2.1]; exact hc) (cs := cs) (fun hcc => by
            obtain ⟨x, h1, _, h3⟩ := rep_struct hk (hr hcc)
            rw [h1]; exact h3)
          refine ⟨ρ2, g1, g2, fun hcc => ?_, g4, g5⟩
          obtain ⟨x, h1, h2, h3⟩ := rep_struct hk (hr hcc)
          rw [hz] at h2
          injection h2 with h2
          exact ⟨by rw [(g3 hcc).1, hlz, h2, List.drop_zero, List.take_length], (g3 hcc).2⟩
        · cases h
      · rename_i m e s hk
        unfold sizeIs at h
        split at h
        · rename_i l1 d1 z hm hz
          cases hb : Nat.beq l1.length z <;> rw [hb] at h <;> simp only [cond_true, cond_false] at h <;> cases h
          have hlz := beq_nat hb
          obtain ⟨ρ2, g1, g2, g3, g4, g5⟩ := ih.2.2 hm he ha hc (cs := cs) (fun hcc => by
            obtain ⟨x, h1, _, h3, h4⟩ := rep_arr hk (hr hcc)
            rw [h1]; exact ⟨h3, h4⟩)
          refine ⟨ρ2, g1, g2, fun hcc => ?_, g4, g5⟩
          obtain ⟨x, h1, h2, _⟩ := rep_arr hk (hr hcc)
          rw [hz] at h2
          injection h2 with h2
          exact ⟨by rw [(g3 hcc).1, hlz, h2, List.take_length], (g3 hcc).2⟩
        · cases h
      · cases h
    · intro fs a i off c d d' l ρ1 cs h he ha hc hr
      cases fs with
      | nil =>
        simp only [mkDF] at h
        cases h
        exact ⟨ρ1, he, Env.le_refl _, fun _ => ⟨by simp [SV.dens], trivial⟩, rfl, rfl⟩
      | cons f fs =>
        simp only [mkDF] at h
        split at h
        · rename_i l1 d1 h1
          cases hb : (Nat.beq f.2.1 off && Nat.beq l1.length f.2.2) <;> rw [hb] at h <;> simp only [cond_true, cond_false] at h
          · cases h
          · simp only [Bool.and_eq_true] at hb
            have ho := beq_nat hb.1
            have hl1 := beq_nat hb.2
            split at h
            · rename_i r d2 h2
              cases h
              have key : c.den ρ1.is = true → ∃ x rest, (a.den ρ1.is).list.drop i = x :: rest ∧ f.2.1 + f.2.2 ≤ cs.length ∧ rep ty ρ.fz x f.1 ((cs.drop f.2.1).take f.2.2) ∧ repF ty ρ.fz rest fs cs := by
                intro hcc
                have := hr hcc
                cases hd : (a.den ρ1.is).list.drop i with
                | nil => rw [hd] at this; simp only [repF] at this
                | cons x rest => rw [hd] at this; simp only [repF] at this; exact ⟨x, rest, rfl, this.1.1, this.1.2, this.2⟩
              obtain ⟨ρ2, g1, g2, g3, g4, g5⟩ := ih.1 h1 he (wf_mkFld ha) hc (cs := (cs.drop off).take f.2.2) (fun hcc => by
                obtain ⟨x, rest, k1, k2, k3, k4⟩ := key hcc
                rw [den_mkFld, Dt.fld, (fld_drop k1).1, ← ho]; exact k3)
              have hm := he.mono_ni g1 g2
              have hc2 : c.den ρ2.is = c.den ρ1.is := Env.B_app g2 (by rw [he.len]; exact hc)
              have ha2 : a.den ρ2.is = a.den ρ1.is := Env.A_app g2 (by rw [he.len]; exact ha)
              obtain ⟨ρ3, k1, k2, k3, k4, k5⟩ := ih.2.1 h2 g1 (A.wf_mono hm.1 ha) (B.wf_mono hm.1 hc) (cs := cs) (fun hcc => by
                rw [hc2] at hcc
                obtain ⟨x, rest, q1, q2, q3, q4⟩ := key hcc
                rw [ha2, (fld_drop q1).2]; exact q4)
              have hm2 := g1.mono_ni k1 k2
              refine ⟨ρ3, k1, Env.le_trans g2 k2, fun hcc => ?_, wfs_append (wfs_mono' hm2.1 hm2.2 g4) k4, allCell_append g5 k5⟩
              refine ⟨?_, tys_append (SV.tys_app k2 (by rw [g1.len, g1.lenb]; exact g4) (g3 hcc).2) (k3 (by rw [hc2]; exact hcc)).2⟩
              rw [dens_append, SV.dens_app k2 (by rw [g1.len, g1.lenb]; exact g4), (g3 hcc).1, (k3 (by rw [hc2]; exact hcc)).1]
              rw [List.length_append, hl1, List.take_add, List.drop_drop]
            · cases h
        · cases h
    · intro m e s a i c d d' l ρ1 cs h he ha hc hr
      cases m with
      | zero =>
        simp only [mkDA] at h
        cases h
        exact ⟨ρ1, he, Env.le_refl _, fun _ => ⟨by simp [SV.dens], trivial⟩, rfl, rfl⟩
      | succ m =>
        simp only [mkDA] at h
        split at h
        · rename_i l1 d1 h1
          cases hb : Nat.beq l1.length s <;> rw [hb] at h <;> simp only [cond_true, cond_false] at h
          · cases h
          · have hl1 := beq_nat hb
            split at h
            · rename_i r d2 h2
              cases h
              have key : c.den ρ1.is = true → ∃ x rest, (a.den ρ1.is).list.drop i = x :: rest ∧ rest.length = m ∧ s ≤ cs.length ∧ rep ty ρ.fz x e (cs.take s) ∧ repA ty ρ.fz rest e s (cs.drop s) := by
                intro hcc
                obtain ⟨hlen, this⟩ := hr hcc
                cases hd : (a.den ρ1.is).list.drop i with
                | nil => rw [hd] at hlen; simp at hlen
                | cons x rest => rw [hd] at this hlen; simp only [repA] at this; exact ⟨x, rest, rfl, by simpa using hlen, this.1.1, this.1.2, this.2⟩
              obtain ⟨ρ2, g1, g2, g3, g4, g5⟩ := ih.1 h1 he (wf_mkFld ha) hc (cs := cs.take s) (fun hcc => by
                obtain ⟨x, rest, k1, _, k2, k3, k4⟩ := key hcc
                rw [den_mkFld, Dt.fld, (fld_drop k1).1]; exact k3)
              have hm := he.mono_ni g1 g2
              have hc2 : c.den ρ2.is = c.den ρ1.is := Env.B_app g2 (by rw [he.len]; exact hc)
              have ha2 : a.den ρ2.is = a.den ρ1.is := Env.A_app g2 (by rw [he.len]; exact ha)
              obtain ⟨ρ3, k1, k2, k3, k4, k5⟩ := ih.2.2 h2 g1 (A.wf_mono hm.1 ha) (B.wf_mono hm.1 hc) (cs := cs.drop s) (fun hcc => by
                rw [hc2] at hcc
                obtain ⟨x, rest, q1, q0, q2, q3, q4⟩ := key hcc
                rw [ha2, (fld_drop q1).2]; exact ⟨q0, q4⟩)
              have hm2 := g1.mono_ni k1 k2
              refine ⟨ρ3, k1, Env.le_trans g2 k2, fun hcc => ?_, wfs_append (wfs_mono' hm2.1 hm2.2 g4) k4, allCell_append g5 k5⟩
              refine ⟨?_, tys_append (SV.tys_app k2 (by rw [g1.len, g1.lenb]; exact g4) (g3 hcc).2) (k3 (by rw [hc2]; exact hcc)).2⟩
              rw [dens_append, SV.dens_app k2 (by rw [g1.len, g1.lenb]; exact g4), (g3 hcc).1, (k3 (by rw [hc2]; exact hcc)).1]
              rw [List.length_append, hl1, List.take_add]
            · cases h
        · cases h
end
end Go.SY
