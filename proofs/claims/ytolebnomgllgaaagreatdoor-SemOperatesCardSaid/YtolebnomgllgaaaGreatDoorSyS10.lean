/- The symbolic executor SY, its soundness, part 10: memory. -/
import Derived.Test.YtolebnomgllgaaaGreatDoorSyS9
import Derived.Maps.AppendAt
import Derived.Deep.AppendLies
import Derived.Laws.CopyRow
import Derived.Great.BuildSlice
set_option linter.unusedVariables false
set_option linter.unusedSimpArgs false
namespace Go.SY
open Go Go.RowKit
noncomputable section
def repC (ty : Ty) (fz : Fz) : List Dt → TypeId → Nat → List Value → Prop
  | [], _, _, cs => cs = []
  | x :: l, e, s, cs => s ≤ cs.length ∧ rep ty fz x e (cs.take s) ∧ repC ty fz l e s (cs.drop s)
variable {ty : Ty} {pl : Bool} {fz fz' : Fz} {e s : Nat}
theorem repC_len : ∀ {l : List Dt} {cs : List Value}, repC ty fz l e s cs → cs.length = l.length * s
  | [], cs, h => by simp only [repC] at h; simp [h]
  | x :: l, cs, h => by
    simp only [repC] at h
    have := repC_len h.2.2
    rw [List.length_drop] at this
    simp only [List.length_cons, Nat.add_mul]; omega
theorem repC_mono (hz : FzLe fz fz') : ∀ {l : List Dt} {cs : List Value}, repC ty fz l e s cs → repC ty fz' l e s cs
  | [], cs, h => h
  | x :: l, cs, h => by
    simp only [repC] at h ⊢
    exact ⟨h.1, rep_mono hz h.2.1, repC_mono hz h.2.2⟩
theorem repC_append : ∀ {l m : List Dt} {cs ds : List Value}, repC ty fz l e s cs → repC ty fz m e s ds → repC ty fz (l ++ m) e s (cs ++ ds)
  | [], m, cs, ds, h, h' => by simp only [repC] at h; subst h; exact h'
  | x :: l, m, cs, ds, h, h' => by
    simp only [List.cons_append, repC] at h ⊢
    refine ⟨by simp; omega, ?_, ?_⟩
    · rw [List.take_append_of_le_length h.1]; exact h.2.1
    · rw [List.drop_append_of_le_length h.1]; exact repC_append h.2.2 h'
theorem repC_idx : ∀ {l : List Dt} {cs : List Value} {i : Nat} {x : Dt}, repC ty fz l e s cs → l[i]? = some x → i * s + s ≤ cs.length ∧ rep ty fz x e ((cs.drop (i * s)).take s)
  | [], cs, i, x, h, hi => by simp at hi
  | y :: l, cs, 0, x, h, hi => by
    simp only [repC] at h
    simp at hi; subst hi
    simpa using ⟨h.1, h.2.1⟩
  | y :: l, cs, i + 1, x, h, hi => by
    simp only [repC] at h
    obtain ⟨h1, h2⟩ := repC_idx (i := i) h.2.2 (by simpa using hi)
    rw [List.length_drop] at h1
    rw [List.drop_drop] at h2
    rw [show s + i * s = (i + 1) * s by rw [Nat.add_mul]; omega] at h2
    exact ⟨by rw [Nat.add_mul]; omega, h2⟩
theorem repC_set : ∀ {l : List Dt} {cs ds : List Value} {i : Nat} {x : Dt}, repC ty fz l e s cs → i < l.length → rep ty fz x e ds → ds.length = s → repC ty fz (l.set i x) e s (cs.take (i * s) ++ ds ++ cs.drop (i * s + s))
  | [], cs, ds, i, x, h, hi, _, _ => by simp at hi
  | y :: l, cs, ds, 0, x, h, hi, hx, hl => by
    simp only [repC] at h
    simp only [List.set_cons_zero, Nat.zero_mul, List.take_zero, List.nil_append, Nat.zero_add, repC]
    refine ⟨by simp; omega, ?_, ?_⟩
    · rw [List.take_append_of_le_length (by omega), List.take_of_length_le (by omega)]; exact hx
    · rw [List.drop_append_of_le_length (by omega), List.drop_of_length_le (by omega)]; simpa using h.2.2
  | y :: l, cs, ds, i + 1, x, h, hi, hx, hl => by
    simp only [repC] at h
    have hlen := repC_len h.2.2
    rw [List.length_drop] at hlen
    have ih := repC_set (i := i) h.2.2 (by simpa using hi) hx hl
    simp only [List.set_cons_succ, repC]
    have e1 : (i + 1) * s = s + i * s := by rw [Nat.add_mul]; omega
    have hi' : i * s ≤ l.length * s := Nat.mul_le_mul_right _ (by simp at hi; omega)
    rw [e1]
    have e2 : List.take (s + i * s) cs = cs.take s ++ (cs.drop s).take (i * s) := by rw [List.take_add]
    rw [e2]
    refine ⟨by simp; omega, ?_, ?_⟩
    · rw [List.append_assoc, List.append_assoc, List.take_append_of_le_length (by simp; omega), List.take_take, Nat.min_self]; exact h.2.1
    · rw [List.append_assoc, List.append_assoc, List.drop_append_of_le_length (by simp; omega), List.drop_of_length_le (by simp; omega), List.nil_append, ← List.append_assoc]
      rw [List.drop_drop] at ih
      rw [show s + i * s + s = s + (i * s + s) by omega]
      exact ih
theorem repC_lies {b : Nat} : ∀ {l : List Dt} {cs : List Value} {off : Nat}, repC ty fz l e s cs → Lies fz b off cs → repL ty fz l e s b off
  | [], cs, off, h, _ => by simp only [repL]
  | x :: l, cs, off, h, hl => by
    simp only [repC] at h
    simp only [repL]
    refine ⟨⟨cs.take s, by simp; omega, ?_, h.2.1⟩, repC_lies h.2.2 ?_⟩
    · have := hl.sub 0 s
      simpa using this
    · have := hl.sub s (cs.length)
      rwa [List.take_of_length_le (by simp)] at this
theorem Lies.append {b off : Nat} {cs ds : List Value} (h : Lies fz b off cs) (h' : Lies fz b (off + cs.length) ds) : Lies fz b off (cs ++ ds) := by
  intro j v hj
  by_cases hjl : j < cs.length
  · rw [List.getElem?_append_left hjl] at hj; exact h j v hj
  · rw [List.getElem?_append_right (by omega)] at hj
    have := h' _ v hj
    rwa [show off + cs.length + (j - cs.length) = off + j by omega] at this
theorem repL_cells {b : Nat} : ∀ {l : List Dt} {off : Nat}, repL ty fz l e s b off → ∃ cs, Lies fz b off cs ∧ repC ty fz l e s cs
  | [], off, _ => ⟨[], fun j v h => by simp at h, rfl⟩
  | x :: l, off, h => by
    simp only [repL] at h
    obtain ⟨⟨cs, h1, h2, h3⟩, h4⟩ := h
    obtain ⟨ds, h5, h6⟩ := repL_cells h4
    refine ⟨cs ++ ds, h2.append (by rw [h1]; exact h5), ?_⟩
    simp only [repC]
    refine ⟨by simp; omega, ?_, ?_⟩
    · rw [List.take_append_of_le_length (by omega), List.take_of_length_le (by omega)]; exact h3
    · rw [List.drop_append_of_le_length (by omega), List.drop_of_length_le (by omega)]; exact h6
theorem rep_one {x : Dt} {t : TypeId} {cs : List Value} (h : rep ty fz x t cs) : ∀ v ∈ cs, v.oneCell' = true := by
  cases x <;> simp only [rep] at h
  case num n =>
    rcases h with ⟨k, _, rfl, _⟩ | ⟨_, _, V, _, ⟨_, _, rfl | ⟨_, _, _, rfl⟩⟩, rfl⟩
    · intro v hv; simp at hv; subst hv; rfl
    · intro v hv; simp at hv; subst hv; rfl
    · intro v hv; simp at hv; subst hv; rfl
  case tru b => obtain ⟨_, rfl⟩ := h; intro v hv; simp at hv; subst hv; rfl
  case byt l => obtain ⟨_, rfl, _⟩ := h; intro v hv; simp at hv; subst hv; rfl
  case nil => obtain ⟨_, rfl⟩ := h; intro v hv; simp at hv; subst hv; rfl
  case row l => obtain ⟨_, _, _, _, _, _, _, rfl, _⟩ := h; intro v hv; simp at hv; subst hv; rfl
  case tup l => exact h.1.2
theorem repC_one : ∀ {l : List Dt} {cs : List Value}, repC ty fz l e s cs → ∀ v ∈ cs, v.oneCell' = true
  | [], cs, h, v, hv => by simp only [repC] at h; subst h; cases hv
  | x :: l, cs, h, v, hv => by
    simp only [repC] at h
    rw [← List.take_append_drop s cs] at hv
    rcases List.mem_append.1 hv with hv | hv
    · exact rep_one h.2.1 v hv
    · exact repC_one h.2.2 v hv
theorem repC_hasTys : ∀ {l : List Dt} {cs : List Value}, repC ty fz l e s cs → hasTys ty l e = true
  | [], _, _ => rfl
  | x :: l, cs, h => by
    simp only [repC] at h
    simp only [hasTys, rep_hasTy h.2.1, repC_hasTys h.2.2, Bool.and_self]
def RowOk (ty : Ty) (fz : Fz) (w : World) (e s : Nat) (x : Dt) (V : Value) : Prop :=
  (x = .nil ∧ V = .slice none 0 0) ∨ ∃ l b cap xs, x = .row l ∧ V = .slice (some ⟨b, 0, none⟩) l.length cap ∧ w.ownsRow 0 (SY.un e) s V l.length xs ∧ repC ty fz l e s xs
def hdV (fz : Fz) (j : Nat) : Option Value := match fz (.h j) with
  | some (.cells c _ _) => c[0]?
  | _ => none
theorem hdV_hob {fz : Fz} {j : Nat} {V : Value} (h : fz (.h j) = some (hob V)) : hdV fz j = some V := by simp [hdV, h, hob]
def PoolOk (ty : Ty) (fz : Fz) (w : World) (e s : Nat) (l : List Dt) : Prop :=
  (∀ j y, l[j]? = some y → ∃ V, fz (.h j) = some (hob V) ∧ RowOk ty fz w e s y V) ∧ ∀ j j' V V' k, j < l.length → j' < l.length → hdV fz j = some V → hdV fz j' = some V' → V.ownBlock = some k → V'.ownBlock = some k → j = j'
def SO.ok (ty : Ty) (ρ : Env) (w : World) (i : Nat) : SO → Prop
  | .cells c e => w.heap[ρ.b i]? = some (.cells (SV.dens ρ c).toArray e (0, 0)) ∧ SV.tys ρ c
  | .rowd e s a => RowOk ty ρ.fz w e s (a.den ρ.is) (ρ.val i)
  | .map es k => w.heap[ρ.b i]? = some (.map (esDen ρ es).toArray k) ∧ esTyd ρ es
  | .pool e s a => PoolOk ty ρ.fz w e s (a.den ρ.is).list
  | _ => True
def foot (ρ : Env) (i : Nat) : SO → Nat → Prop
  | .cells _ _, k | .map _ _, k => ρ.b i = k
  | .rowd _ _ _, k => (ρ.val i).ownBlock = some k
  | .pool _ _ a, k => ∃ j V, j < (a.den ρ.is).list.length ∧ hdV ρ.fz j = some V ∧ V.ownBlock = some k
  | _, _ => False
def footL (ρ : Env) (i : Nat) : SO → List Nat
  | .cells _ _ | .map _ _ => [ρ.b i]
  | .rowd _ _ _ => (ρ.val i).ownBlock.toList
  | .pool _ _ a => (List.range (a.den ρ.is).list.length).filterMap fun j => (hdV ρ.fz j).bind Value.ownBlock
  | _ => []
theorem mem_footL {ρ : Env} {i k : Nat} {o : SO} : k ∈ footL ρ i o ↔ foot ρ i o k := by
  cases o with
  | pool e s a =>
    simp only [footL, foot, List.mem_filterMap, List.mem_range, Option.bind_eq_some_iff]
    exact ⟨fun ⟨j, h1, V, h2, h3⟩ => ⟨j, V, h1, h2, h3⟩, fun ⟨j, V, h1, h2, h3⟩ => ⟨j, h1, V, h2, h3⟩⟩
  | _ => simp [footL, foot, eq_comm]
structure Belw (G : Nat → Prop) (w w' : World) : Prop where
  os : w'.os = w.os
  tape : w'.tape = w.tape
  output : w'.output = w.output
  size : w.heap.size ≤ w'.heap.size
  block : ∀ k, k < w.heap.size → ¬ G k → w'.heap[k]? = w.heap[k]?
structure HkP (pl : Bool) (ρ : Env) (fz0 : Fz) (mem : Tb SO) : Prop where
  ok : HkOk ρ mem
  np : pl = false → (∀ n : Nat, ρ.fz (.h n) = fz0 (.h n)) ∧ ∀ e s a, mem.get 0 ≠ some (.pool e s a)
theorem HkP.nil {pl : Bool} {ρ : Env} : HkP pl ρ ρ.fz .e := ⟨fun e s a h => by rw [Tb.get_e] at h; (cases h), fun _ => ⟨fun _ => rfl, fun e s a h => by rw [Tb.get_e] at h; (cases h)⟩⟩
def NoPool (pl : Bool) (ρ : Env) (o : SO) : Prop := ∀ e s a, o = .pool e s a → pl = true ∧ ∀ n : Nat, ρ.fz (.h n) ≠ none → n < (a.den ρ.is).list.length
theorem HkP.put {pl : Bool} {ρ : Env} {fz0 : Fz} {mem : Tb SO} (h : HkP pl ρ fz0 mem) {i : Nat} {o : SO} (hn : NoPool pl ρ o) : HkP pl ρ fz0 (mem.put i o) := by
  refine ⟨fun e s a hg => ?_, fun hp => ⟨(h.np hp).1, fun e s a hg => ?_⟩⟩
  · rcases Tb.get_put hg with ⟨_, h2⟩ | ⟨_, h2⟩
    · exact (hn e s a h2.symm).2
    · exact h.ok e s a h2
  · rcases Tb.get_put hg with ⟨_, h2⟩ | ⟨_, h2⟩
    · have := (hn e s a h2.symm).1
      rw [hp] at this; cases this
    · exact (h.np hp).2 e s a h2
structure Md (ty : Ty) (pl : Bool) (G : Nat → Prop) (fz0 : Fz) (w0 : World) (ρ : Env) (st : St) (w : World) : Prop where
  below : Belw G w0 w
  hni : ρ.is.length = st.ni
  hnb : ρ.bs.length = st.nb
  hpc : PcOk ρ.is st.pc
  hpw : ∀ p ∈ st.pc, p.1.wf st.ni = true
  fzw : FzIn ρ.fz w
  fzl : FzLe fz0 ρ.fz
  fzn : ∀ k : Nat, ρ.fz k ≠ none → fz0 k = none → w0.heap.size ≤ k ∨ G k
  mem : ∀ i o, st.mem.get i = some o → i < st.nb ∧ o.wf st.ni st.nb = true ∧ GhOk ty ρ i o ∧ SO.ok ty ρ w i o
  own : ∀ i o k, st.mem.get i = some o → foot ρ i o k → (w0.heap.size ≤ k ∨ G k) ∧ ρ.fz k = none
  inj : ∀ i j oi oj k, st.mem.get i = some oi → st.mem.get j = some oj → foot ρ i oi k → foot ρ j oj k → i = j
  hkk : HkP pl ρ fz0 st.mem
variable {G : Nat → Prop} {fz0 : Fz} {w0 w w' : World} {ρ ρ' ρ1 : Env} {st : St} {d : Bd}
theorem World.grownBy.refl (w : World) (r : Option Nat) : w.grownBy w r := ⟨rfl, rfl, rfl, Nat.le_refl _, fun _ _ _ => rfl⟩
theorem Belw.refl (G : Nat → Prop) (w : World) : Belw G w w := ⟨rfl, rfl, rfl, Nat.le_refl _, fun _ _ _ => rfl⟩
theorem Belw.step (h : Belw G w0 w) {row : Option Nat} (hg : w.grownBy w' row) (hr : ∀ k, row = some k → w0.heap.size ≤ k ∨ G k) : Belw G w0 w' :=
  ⟨hg.os.trans h.os, hg.tape.trans h.tape, hg.output.trans h.output, Nat.le_trans h.size hg.size, fun k hk hn => (hg.block k (Nat.lt_of_lt_of_le hk h.size) (fun e => (hr k e.symm).elim (fun h => by omega) hn)).trans (h.block k hk hn)⟩
theorem RowOk.mono (hz : FzLe fz fz') {x : Dt} {V : Value} (h : RowOk ty fz w e s x V) : RowOk ty fz' w e s x V := by
  rcases h with h | ⟨l, b, cap, xs, h1, h2, h3, h4⟩
  · exact .inl h
  · exact .inr ⟨l, b, cap, xs, h1, h2, h3, repC_mono hz h4⟩
theorem PoolOk.mono (hz : FzLe fz fz') {l : List Dt} (h : PoolOk ty fz w e s l) : PoolOk ty fz' w e s l := by
  refine ⟨fun j y hj => ?_, fun j j' V V' k hj hj' hV hV' hk hk' => ?_⟩
  · obtain ⟨V, h1, h2⟩ := h.1 j y hj
    exact ⟨V, hz _ _ h1, h2.mono hz⟩
  · have key : ∀ {j V}, j < l.length → hdV fz' j = some V → hdV fz j = some V := fun {j V} hj hV => by
      obtain ⟨V0, h1, _⟩ := h.1 j _ (List.getElem?_eq_getElem hj)
      rw [hdV_hob (hz _ _ h1)] at hV
      rw [hdV_hob h1, hV]
    exact h.2 j j' V V' k hj hj' (key hj hV) (key hj' hV') hk hk'
theorem SO.ok_app (h : ρ.le ρ') {i : Nat} (hi : i < ρ.bs.length) : ∀ {o : SO}, o.wf ρ.is.length ρ.bs.length = true → SO.ok ty ρ w i o → SO.ok ty ρ' w i o
  | .cells c e, hw, ho => by
    simp only [SO.wf, Bool.and_eq_true] at hw
    simp only [SO.ok] at ho ⊢
    rw [Env.b_app h hi, SV.dens_app h hw.1]; exact ⟨ho.1, SV.tys_app h hw.1 ho.2⟩
  | .rowd e s a, hw, ho => by
    simp only [SO.wf] at hw
    simp only [SO.ok] at ho ⊢
    rw [Env.val_app h hi, Env.A_app h hw]; exact ho.mono h.fz
  | .map es k, hw, ho => by
    simp only [SO.wf] at hw
    simp only [SO.ok] at ho ⊢
    rw [Env.b_app h hi, esDen_app h hw]; exact ⟨ho.1, esTyd_app h hw ho.2⟩
  | .pool e s a, hw, ho => by
    simp only [SO.wf] at hw
    simp only [SO.ok] at ho ⊢
    rw [Env.A_app h hw]
    exact ho.mono h.fz
  | .val _ _ _, _, _ | .at _ _ _, _, _ | .mset _, _, _ | .gone, _, _ => trivial
theorem foot_app (h : ρ.le ρ') {i : Nat} (hi : i < ρ.bs.length) (o : SO) (hw : o.wf ρ.is.length ρ.bs.length = true) (hg : GhOk ty ρ i o) : foot ρ' i o = foot ρ i o := by
  funext k
  cases o with
  | pool e s a =>
    simp only [SO.wf] at hw
    simp only [GhOk] at hg
    obtain ⟨l, h1, h2⟩ := hg
    simp only [foot, Env.A_app h hw, h1, Dt.list]
    have : ∀ j V, j < l.length → (hdV ρ'.fz j = some V ↔ hdV ρ.fz j = some V) := fun j V hj => by
      obtain ⟨V0, hV0, _⟩ := h2 j _ (List.getElem?_eq_getElem hj)
      rw [hdV_hob hV0, hdV_hob (h.fz _ _ hV0)]
    exact propext ⟨fun ⟨j, V, q1, q2, q3⟩ => ⟨j, V, q1, (this j V q1).1 q2, q3⟩, fun ⟨j, V, q1, q2, q3⟩ => ⟨j, V, q1, (this j V q1).2 q2, q3⟩⟩
  | _ => first | rfl | simp only [foot, Env.b_app h hi, Env.val_app h hi]
theorem foot_app' (h : ρ.le ρ') {i : Nat} (hi : i < ρ.bs.length) (o : SO) (hn : ∀ e s a, o ≠ .pool e s a) : foot ρ' i o = foot ρ i o := by
  funext k
  cases o with
  | pool e s a => exact absurd rfl (hn e s a)
  | _ => first | rfl | simp only [foot, Env.b_app h hi, Env.val_app h hi]
theorem ownsRow_heap {n g cap : Nat} {xs : List Value} (h : w.ownsRow 0 e s (.slice (some ⟨g, 0, none⟩) n cap) n xs) (hh : w'.heap[g]? = w.heap[g]?) : w'.ownsRow 0 e s (.slice (some ⟨g, 0, none⟩) n cap) n xs := by
  refine ⟨h.1, ?_⟩
  rcases h.2 with ⟨h1, _⟩ | ⟨g', cap', cur, h1, h2, h3, h4⟩
  · cases h1
  · refine .inr ⟨g', cap', cur, h1, h2, ?_, h4⟩
    have : g = g' := by injection h1 with h1; injection h1 with h1; injection h1
    subst this
    rw [hh]; exact h3
theorem SO.ok_heap {i : Nat} : ∀ {o : SO}, (∀ k, foot ρ i o k → w'.heap[k]? = w.heap[k]?) → SO.ok ty ρ w i o → SO.ok ty ρ w' i o
  | .cells c e, hh, ho => by simp only [SO.ok] at ho ⊢; rw [hh _ rfl]; exact ho
  | .rowd e s a, hh, ho => by
    simp only [SO.ok] at ho ⊢
    rcases ho with h | ⟨l, b, cap, xs, h1, h2, h3, h4⟩
    · exact .inl h
    · refine .inr ⟨l, b, cap, xs, h1, h2, ?_, h4⟩
      have := hh b (by simp only [foot, h2, Value.ownBlock])
      rw [h2] at h3 ⊢
      exact ownsRow_heap h3 this
  | .map es k, hh, ho => by simp only [SO.ok] at ho ⊢; rw [hh _ rfl]; exact ho
  | .pool e s a, hh, ho => by
    simp only [SO.ok] at ho ⊢
    refine ⟨fun j y hj => ?_, ho.2⟩
    obtain ⟨V, hV, hr⟩ := ho.1 j y hj
    refine ⟨V, hV, ?_⟩
    rcases hr with h | ⟨l, b, cap, xs, h1, h2, h3, h4⟩
    · exact .inl h
    · refine .inr ⟨l, b, cap, xs, h1, h2, ?_, h4⟩
      have := hh b ⟨j, V, (List.getElem?_eq_some_iff.1 hj).1, hdV_hob hV, by rw [h2]; rfl⟩
      rw [h2] at h3 ⊢
      exact ownsRow_heap h3 this
  | .val _ _ _, _, _ | .at _ _ _, _, _ | .mset _, _, _ | .gone, _, _ => trivial
theorem foot_lt {i k : Nat} : ∀ {o : SO}, SO.ok ty ρ w i o → foot ρ i o k → k < w.heap.size
  | .cells c e, ho, hk => by simp only [foot] at hk; cases hk; exact (Array.getElem?_eq_some_iff.1 ho.1).1
  | .rowd e s a, ho, hk => by
    simp only [SO.ok] at ho
    simp only [foot] at hk
    rcases ho with ⟨_, h⟩ | ⟨l, b, cap, xs, h1, h2, h3, h4⟩
    · rw [h] at hk; cases hk
    · exact (h3.lt k hk).2
  | .map es j, ho, hk => by simp only [foot] at hk; cases hk; exact (Array.getElem?_eq_some_iff.1 ho.1).1
  | .pool e s a, ho, hk => by
    simp only [SO.ok] at ho
    obtain ⟨j, V, h1, h2, h3⟩ := hk
    obtain ⟨V', h4, h5⟩ := ho.1 j _ (List.getElem?_eq_getElem h1)
    rw [hdV_hob h4] at h2
    cases h2
    rcases h5 with ⟨_, h⟩ | ⟨l, b, cap, xs, g1, g2, g3, g4⟩
    · rw [h] at h3; cases h3
    · exact (g3.lt k h3).2
  | .val _ _ _, _, hk | .at _ _ _, _, hk | .mset _, _, hk | .gone, _, hk => by cases hk
theorem FzIn.lt (h : FzIn fz w) {k : Nat} (hk : fz k ≠ none) : k < w.heap.size := by
  cases hz : fz k with
  | none => exact absurd hz hk
  | some o => exact (Array.getElem?_eq_some_iff.1 (h k o hz)).1
theorem FzIn.grown (h : FzIn fz w) {row : Option Nat} (hg : w.grownBy w' row) (hr : ∀ k, row = some k → fz k = none) : FzIn fz w' := fun b o ho => by
  rw [hg.block b (h.lt (by rw [ho]; simp)) (fun e => by rw [hr b e.symm] at ho; cases ho)]
  exact h b o ho
theorem Md.upd (h : Md ty pl G fz0 w0 ρ st w) {i : Nat} {o o' : SO} (hi : st.mem.get i = some o) {row : Option Nat} (hg : w.grownBy w' row) (hrow : ∀ k, row = some k → foot ρ i o k) (hw : o'.wf st.ni st.nb = true) (hgo : GhOk ty ρ i o') (hok : SO.ok ty ρ w' i o') (hf : ∀ k, foot ρ i o' k → foot ρ i o k) (hnp : NoPool pl ρ o' := by intro _ _ _ h; cases h) :
    Md ty pl G fz0 w0 ρ { st with mem := st.mem.put i o' } w' := by
  obtain ⟨h1, h2, h3, h4⟩ := h.mem i o hi
  refine ⟨h.below.step hg fun k hk => (h.own i o k hi (hrow k hk)).1, h.hni, h.hnb, h.hpc, h.hpw, h.fzw.grown hg fun k hk => (h.own i o k hi (hrow k hk)).2, h.fzl, h.fzn, fun j oj hj => ?_, fun j oj k hj hk => ?_, fun j l oj ol k hj hl hkj hkl => ?_, h.hkk.put hnp⟩
  · rcases Tb.get_put hj with ⟨rfl, rfl⟩ | ⟨hne, hj'⟩
    · exact ⟨h1, hw, hgo, hok⟩
    · obtain ⟨q1, q2, q3, q4⟩ := h.mem j oj hj'
      refine ⟨q1, q2, q3, SO.ok_heap (w := w) (fun k hk => ?_) q4⟩
      exact hg.block k (foot_lt q4 hk) fun e => hne (h.inj j i oj o k hj' hi hk (hrow k e.symm))
  · rcases Tb.get_put hj with ⟨rfl, rfl⟩ | ⟨hne, hj'⟩
    · exact h.own j o k hi (hf k hk)
    · exact h.own j oj k hj' hk
  · rcases Tb.get_put hj with ⟨rfl, rfl⟩ | ⟨hnj, hj'⟩ <;> rcases Tb.get_put hl with ⟨hl1, hl2⟩ | ⟨hnl, hl'⟩
    · exact hl1.symm
    · exact h.inj j l o ol k hi hl' (hf k hkj) hkl
    · subst hl1; subst hl2; exact h.inj j l oj o k hj' hi hkj (hf k hkl)
    · exact h.inj j l oj ol k hj' hl' hkj hkl
theorem Md.later (h : Md ty pl G fz0 w0 ρ st w) (hg : w.grownBy w' none) : Md ty pl G fz0 w0 ρ st w' :=
  ⟨h.below.step hg (fun k hk => by cases hk), h.hni, h.hnb, h.hpc, h.hpw, h.fzw.grown hg (fun k hk => by cases hk), h.fzl, h.fzn, fun j oj hj => by
    obtain ⟨q1, q2, q3, q4⟩ := h.mem j oj hj
    exact ⟨q1, q2, q3, SO.ok_heap (w := w) (fun k hk => hg.block k (foot_lt q4 hk) (by simp)) q4⟩, h.own, h.inj, h.hkk⟩
theorem Md.drew (h : Md ty pl G fz0 w0 ρ st w) : Md ty pl G fz0 w0 ρ st w.drew := h.later ⟨rfl, rfl, rfl, Nat.le_refl _, fun _ _ _ => rfl⟩
theorem Md.push (h : Md ty pl G fz0 w0 ρ st w) {o : SO} (hw : o.wf st.ni st.nb = true) (b : Nat) (V : Value) {ρ' : Env} (hρ : ρ' = { ρ with bs := ρ.bs ++ [(b, V)] })
    (hgo : GhOk ty ρ' st.nb o) (hok : SO.ok ty ρ' w st.nb o) (hf : ∀ k, foot ρ' st.nb o k → (w0.heap.size ≤ k ∨ G k) ∧ ρ.fz k = none ∧ ∀ j oj, st.mem.get j = some oj → ¬ foot ρ j oj k) (hnp : NoPool pl ρ o := by intro _ _ _ h; cases h) :
    Md ty pl G fz0 w0 ρ' { st with mem := st.mem.put st.nb o, nb := st.nb + 1 } w := by
  have hle : ρ.le ρ' := by subst hρ; exact ⟨⟨[], by simp⟩, ⟨_, rfl⟩, fun _ _ h => h⟩
  have e1 : ρ'.is = ρ.is := by subst hρ; rfl
  have e2 : ρ'.fz = ρ.fz := by subst hρ; rfl
  have e3 : ρ'.bs.length = st.nb + 1 := by subst hρ; simp [h.hnb]
  have ft : ∀ j oj, st.mem.get j = some oj → foot ρ' j oj = foot ρ j oj := fun j oj hj => foot_app hle (by rw [h.hnb]; exact (h.mem j oj hj).1) oj (by rw [h.hni, h.hnb]; exact (h.mem j oj hj).2.1) (h.mem j oj hj).2.2.1
  refine ⟨h.below, by rw [e1]; exact h.hni, e3, by rw [e1]; exact h.hpc, h.hpw, by rw [e2]; exact h.fzw, by rw [e2]; exact h.fzl, by rw [e2]; exact h.fzn, fun j oj hj => ?_, fun j oj k hj hk => ?_, fun j l oj ol k hj hl hkj hkl => ?_, ⟨fun e s a hg n hn => by rw [e1]; rw [e2] at hn; exact (h.hkk.put hnp).ok e s a hg n hn, fun hp => ⟨by rw [e2]; exact (h.hkk.np hp).1, ((h.hkk.put (i := st.nb) hnp).np hp).2⟩⟩⟩
  · rcases Tb.get_put hj with ⟨rfl, rfl⟩ | ⟨hne, hj'⟩
    · exact ⟨Nat.lt_succ_self _, SO.wf_mono (Nat.le_refl _) (Nat.le_succ _) hw, hgo, hok⟩
    · obtain ⟨q1, q2, q3, q4⟩ := h.mem j oj hj'
      exact ⟨Nat.lt_succ_of_lt q1, SO.wf_mono (Nat.le_refl _) (Nat.le_succ _) q2, GhOk.app hle (by rw [h.hnb]; exact q1) (by rw [h.hni, h.hnb]; exact q2) q3, SO.ok_app hle (by rw [h.hnb]; exact q1) (by rw [h.hni, h.hnb]; exact q2) q4⟩
  · rw [e2]
    rcases Tb.get_put hj with ⟨rfl, rfl⟩ | ⟨hne, hj'⟩
    · exact ⟨(hf k hk).1, (hf k hk).2.1⟩
    · rw [ft j oj hj'] at hk; exact h.own j oj k hj' hk
  · rcases Tb.get_put hj with ⟨rfl, rfl⟩ | ⟨hnj, hj'⟩ <;> rcases Tb.get_put hl with ⟨hl1, hl2⟩ | ⟨hnl, hl'⟩
    · exact hl1.symm
    · rw [ft l ol hl'] at hkl; exact absurd hkl ((hf k hkj).2.2 l ol hl')
    · subst hl1; subst hl2; rw [ft j oj hj'] at hkj; exact absurd hkj ((hf k hkl).2.2 j oj hj')
    · rw [ft j oj hj'] at hkj; rw [ft l ol hl'] at hkl; exact h.inj j l oj ol k hj' hl' hkj hkl
theorem fresh_ok (h : Md ty pl G fz0 w0 ρ st w) {k : Nat} (hk : w.heap.size ≤ k) : (w0.heap.size ≤ k ∨ G k) ∧ ρ.fz k = none ∧ ∀ j oj, st.mem.get j = some oj → ¬ foot ρ j oj k := by
  refine ⟨.inl (Nat.le_trans h.below.size hk), ?_, fun j oj hj e => ?_⟩
  · cases hz : ρ.fz k with
    | none => rfl
    | some o => have := h.fzw.lt (k := k) (by rw [hz]; simp); omega
  · have := foot_lt (h.mem j oj hj).2.2.2 e; omega
theorem facts_wf {n : Nat} : ∀ (c : B) (b : Bool), c.wf n = true → ∀ p ∈ c.facts b, p.1.wf n = true := by
  intro c
  induction c with
  | not x ih => intro b h p hp; simp only [B.facts, List.mem_cons] at hp; rcases hp with rfl | hp; exact h; exact ih _ (by simpa [B.wf] using h) p hp
  | and x y ihx ihy =>
    intro b h p hp
    cases b
    · simp [B.facts] at hp; subst hp; exact h
    · simp only [B.facts, List.mem_cons, List.mem_append] at hp
      rcases hp with rfl | hp | hp
      · exact h
      · simp only [B.wf, Bool.and_eq_true] at h; exact ihx _ h.1 p hp
      · simp only [B.wf, Bool.and_eq_true] at h; exact ihy _ h.2 p hp
  | or x y ihx ihy =>
    intro b h p hp
    cases b
    · simp only [B.facts, List.mem_cons, List.mem_append] at hp
      rcases hp with rfl | hp | hp
      · exact h
      · simp only [B.wf, Bool.and_eq_true] at h; exact ihx _ h.1 p hp
      · simp only [B.wf, Bool.and_eq_true] at h; exact ihy _ h.2 p hp
    · simp [B.facts] at hp; subst hp; exact h
  | _ => intro b h p hp; simp [B.facts] at hp; subst hp; exact h
theorem Md.assume (h : Md ty pl G fz0 w0 ρ st w) {c : B} (hw : c.wf st.ni = true) {b : Bool} (hb : c.den ρ.is = b) : Md ty pl G fz0 w0 ρ { st with pc := c.facts b ++ st.pc } w :=
  ⟨h.below, h.hni, h.hnb, PcOk.append (B.facts_ok _ _ _ hb) h.hpc, fun p hp => (List.mem_append.1 hp).elim (facts_wf c b hw p) (h.hpw p), h.fzw, h.fzl, h.fzn, h.mem, h.own, h.inj, h.hkk⟩
theorem get_pushG : ∀ (l : List SO) (m : Tb SO) (n i : Nat) (v : SO), (pushG m n l).get i = some v → (n ≤ i ∧ l[i - n]? = some v) ∨ m.get i = some v
  | [], _, _, _, _, h => .inr h
  | x :: l, m, n, i, v, h => by
    rcases get_pushG l (m.put n x) (n + 1) i v h with ⟨h1, h2⟩ | h1
    · refine .inl ⟨by omega, ?_⟩
      rw [show i - n = (i - (n + 1)) + 1 from by omega, List.getElem?_cons_succ]; exact h2
    · rcases Tb.get_put h1 with ⟨rfl, rfl⟩ | ⟨_, h3⟩
      · exact .inl ⟨Nat.le_refl _, by simp⟩
      · exact .inr h3
theorem allGh_mem : ∀ {l : List SO}, allGh l = true → ∀ o ∈ l, o.gh = true
  | [], _, _, h => nomatch h
  | x :: l, hl, o, h => by
    simp only [allGh, Bool.and_eq_true] at hl
    rcases List.mem_cons.1 h with rfl | h
    · exact hl.1
    · exact allGh_mem hl.2 o h
theorem gh_ok {o : SO} (h : o.gh = true) (ρ : Env) (w : World) (i : Nat) : SO.ok ty ρ w i o ∧ ∀ k, ¬ foot ρ i o k := by
  cases o <;> first | exact ⟨trivial, fun _ h => h⟩ | cases h
theorem Md.ext (h : Md ty pl G fz0 w0 ρ st w) (he : Ext ty ρ d ρ1) (hgh : allGh d.gs = true) :
    Md ty pl G fz0 w0 ρ1 { st with ni := d.ni, nb := d.nb, mem := pushG st.mem st.nb d.gs, pc := d.fs ++ st.pc } w := by
  have hle := he.le
  have ft : ∀ j oj, st.mem.get j = some oj → foot ρ1 j oj = foot ρ j oj := fun j oj hj => foot_app hle (by rw [h.hnb]; exact (h.mem j oj hj).1) oj (by rw [h.hni, h.hnb]; exact (h.mem j oj hj).2.1) (h.mem j oj hj).2.2.1
  have hm := he.mono_ni he (Env.le_refl _)
  have m1 : st.ni ≤ d.ni := by rw [he.ni, h.hni]; omega
  have m2 : st.nb ≤ d.nb := by rw [he.nb, h.hnb]; omega
  refine ⟨h.below, he.len, he.lenb, PcOk.append he.fs (PcOk.app hle (by rw [h.hni]; exact h.hpw) h.hpc), fun p hp => (List.mem_append.1 hp).elim (he.fw p) (fun hp => B.wf_mono m1 (h.hpw p hp)), by rw [he.fz]; exact h.fzw, by rw [he.fz]; exact h.fzl, by rw [he.fz]; exact h.fzn, fun j oj hj => ?_, fun j oj k hj hk => ?_, fun j l oj ol k hj hl hkj hkl => ?_, ⟨fun e s a hg n hn => ?_, fun hp => ⟨by rw [he.fz]; exact (h.hkk.np hp).1, fun e s a hg => ?_⟩⟩⟩
  · rcases get_pushG _ _ _ _ _ hj with ⟨h1, h2⟩ | hj'
    · have hlt := (List.getElem?_eq_some_iff.1 h2).1
      refine ⟨by show j < d.nb; rw [he.nb, h.hnb]; omega, he.gw oj (List.mem_of_getElem? h2), ?_, (gh_ok (allGh_mem hgh oj (List.mem_of_getElem? h2)) ρ1 w j).1⟩
      have := he.gs _ oj h2
      rwa [h.hnb, show st.nb + (j - st.nb) = j by omega] at this
    · obtain ⟨q1, q2, q3, q4⟩ := h.mem j oj hj'
      exact ⟨Nat.lt_of_lt_of_le q1 m2, SO.wf_mono m1 m2 q2, GhOk.app hle (by rw [h.hnb]; exact q1) (by rw [h.hni, h.hnb]; exact q2) q3, SO.ok_app hle (by rw [h.hnb]; exact q1) (by rw [h.hni, h.hnb]; exact q2) q4⟩
  · rw [he.fz]
    rcases get_pushG _ _ _ _ _ hj with ⟨h1, h2⟩ | hj'
    · exact ((gh_ok (ty := ty) (allGh_mem hgh oj (List.mem_of_getElem? h2)) ρ1 w j).2 _ hk).elim
    · rw [ft j oj hj'] at hk; exact h.own j oj k hj' hk
  · rcases get_pushG _ _ _ _ _ hj with ⟨h1, h2⟩ | hj'
    · exact ((gh_ok (ty := ty) (allGh_mem hgh oj (List.mem_of_getElem? h2)) ρ1 w j).2 _ hkj).elim
    · rcases get_pushG _ _ _ _ _ hl with ⟨h1, h2⟩ | hl'
      · exact ((gh_ok (ty := ty) (allGh_mem hgh ol (List.mem_of_getElem? h2)) ρ1 w l).2 _ hkl).elim
      · rw [ft j oj hj'] at hkj; rw [ft l ol hl'] at hkl; exact h.inj j l oj ol k hj' hl' hkj hkl
  · rcases get_pushG _ _ _ _ _ hg with ⟨_, h2⟩ | h2
    · have := allGh_mem hgh _ (List.mem_of_getElem? h2)
      cases this
    · have hw := (h.mem 0 _ h2).2.1
      simp only [SO.wf] at hw
      rw [Env.A_app hle (by rw [h.hni]; exact hw)]
      rw [he.fz] at hn
      exact h.hkk.ok e s a h2 n hn
  · rcases get_pushG _ _ _ _ _ hg with ⟨_, h2⟩ | h2
    · have := allGh_mem hgh _ (List.mem_of_getElem? h2)
      cases this
    · exact (h.hkk.np hp).2 e s a h2
theorem Md.freeze {P : Program} (hty : TyOk P ty) (h : Md ty pl G fz0 w0 ρ st w) {i e' s' t s : Nat} {x : A} (hi : st.mem.get i = some (.rowd e' s' x)) (ht : tdOf ty t = .slice e' s) (hs : s = s') :
    ∃ fz', FzLe ρ.fz fz' ∧ rep ty fz' (x.den ρ.is) t [ρ.val i] ∧ Md ty pl G fz0 w0 { ρ with fz := fz' } { st with mem := st.mem.put i (.val (.c true) t x) } w := by
  obtain ⟨h1, h2, h3, h4⟩ := h.mem i _ hi
  simp only [SO.wf] at h2
  have hok : ∃ fz', FzLe ρ.fz fz' ∧ rep ty fz' (x.den ρ.is) t [ρ.val i] ∧ FzIn fz' w ∧ (∀ k : Nat, fz' k ≠ none → ρ.fz k ≠ none ∨ foot ρ i (.rowd e' s' x) k) ∧ ∀ n : Nat, fz' (.h n) = ρ.fz (.h n) := by
    simp only [SO.ok] at h4
    rcases h4 with ⟨q1, q2⟩ | ⟨l, b, cap, xs, q1, q2, q3, q4⟩
    · refine ⟨ρ.fz, fun _ _ h => h, ?_, h.fzw, fun k hk => .inl hk, fun _ => rfl⟩
      rw [q1, q2]; simp only [rep]; exact ⟨⟨e', s, ht⟩, trivial⟩
    · have hfb : ρ.fz b = none := (h.own i _ b hi (by simp only [foot, q2, Value.ownBlock])).2
      have hle : FzLe ρ.fz (fun k : Key => if k = .b b then w.heap[b]? else ρ.fz k) := by
        intro k o hk
        by_cases hkb : k = .b b
        · rw [hkb, hfb] at hk; cases hk
        · simp only [if_neg hkb]; exact hk
      refine ⟨fun k : Key => if k = .b b then w.heap[b]? else ρ.fz k, hle, ?_, ?_, ?_, fun n => if_neg (by simp)⟩
      · have q3' := q3
        rcases q3.2 with ⟨q5, _⟩ | ⟨g, c, cur, q5, q6, q7, q8, q9, q10, q11⟩
        · rw [q2] at q5; cases q5
        · rw [q2] at q5
          injection q5 with q5 q5' q5''
          injection q5 with q5
          injection q5 with q5
          subst q5; subst q5''
          rw [q1, q2]
          simp only [rep]
          refine ⟨e', s, b, 0, none, cap, ht, rfl, ?_, q8, ?_, .inl rfl⟩
          · have : cap ≤ maxLen := q9
            simp only [maxLen] at this; omega
          · subst hs
            refine repC_lies (off := 0) (repC_mono hle q4) fun j v hj => ?_
            simp only [fzCell, if_true, q7, cellOf, Nat.zero_add]
            rw [← q11, List.getElem?_take] at hj
            split at hj
            · rwa [Array.getElem?_toList] at hj
            · cases hj
      · intro k o hk
        by_cases hkb : k = b
        · simp only [if_pos (congrArg Key.b hkb)] at hk; rw [hkb]; exact hk
        · have hkb' : ¬ Key.b k = Key.b b := fun e => hkb (by injection e)
          simp only [if_neg hkb'] at hk; exact h.fzw k o hk
      · intro k hk
        by_cases hkb : k = b
        · right; simp only [foot, q2, Value.ownBlock, hkb]
        · have hkb' : ¬ Key.b k = Key.b b := fun e => hkb (by injection e)
          simp only [if_neg hkb'] at hk; exact .inl hk
  obtain ⟨fz', f1, f2, f3, f4, f5⟩ := hok
  have hle : ρ.le { ρ with fz := fz' } := ⟨⟨[], by simp⟩, ⟨[], by simp⟩, f1⟩
  have ft : ∀ j oj, st.mem.get j = some oj → foot { ρ with fz := fz' } j oj = foot ρ j oj := fun j oj hj => foot_app hle (by rw [h.hnb]; exact (h.mem j oj hj).1) oj (by rw [h.hni, h.hnb]; exact (h.mem j oj hj).2.1) (h.mem j oj hj).2.2.1
  refine ⟨fz', f1, f2, h.below, h.hni, h.hnb, h.hpc, h.hpw, f3, fun b o hb => f1 b o (h.fzl b o hb), fun k hk h0 => ?_, fun j oj hj => ?_, fun j oj k hj hk => ?_, fun j l oj ol k hj hl hkj hkl => ?_, ⟨fun e s a hg n hn => by simp only [f5] at hn; exact (h.hkk.put (by intro _ _ _ h; cases h)).ok e s a hg n hn, fun hp => ⟨fun n => (f5 n).trans ((h.hkk.np hp).1 n), ((h.hkk.put (i := i) (o := .val (.c true) t x) (by intro _ _ _ h; cases h)).np hp).2⟩⟩⟩
  · rcases f4 k hk with hk | hk
    · exact h.fzn k hk h0
    · exact (h.own i _ k hi hk).1
  · rcases Tb.get_put hj with ⟨rfl, rfl⟩ | ⟨hne, hj'⟩
    · exact ⟨h1, by simp only [SO.wf, B.wf, h2, Bool.and_self], fun _ => f2, trivial⟩
    · obtain ⟨q1, q2, q3, q4⟩ := h.mem j oj hj'
      exact ⟨q1, q2, GhOk.app hle (by rw [h.hnb]; exact q1) (by rw [h.hni, h.hnb]; exact q2) q3, SO.ok_app hle (by rw [h.hnb]; exact q1) (by rw [h.hni, h.hnb]; exact q2) q4⟩
  · rcases Tb.get_put hj with ⟨rfl, rfl⟩ | ⟨hne, hj'⟩
    · cases hk
    · rw [ft j oj hj'] at hk
      obtain ⟨g1, g2⟩ := h.own j oj k hj' hk
      refine ⟨g1, ?_⟩
      cases hz : fz' k with
      | none => exact hz
      | some o =>
        rcases f4 k (by rw [hz]; simp) with g | g
        · exact absurd g2 g
        · exact absurd (h.inj j i oj _ k hj' hi hk g) hne
  · rcases Tb.get_put hj with ⟨rfl, rfl⟩ | ⟨hnj, hj'⟩
    · cases hkj
    · rcases Tb.get_put hl with ⟨rfl, rfl⟩ | ⟨hnl, hl'⟩
      · cases hkl
      · rw [ft j oj hj'] at hkj
        rw [ft l ol hl'] at hkl
        exact h.inj j l oj ol k hj' hl' hkj hkl
end
end Go.SY
