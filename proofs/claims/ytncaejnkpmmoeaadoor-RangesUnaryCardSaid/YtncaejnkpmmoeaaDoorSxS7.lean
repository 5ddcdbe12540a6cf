/- The symbolic executor SX, its soundness, part 7: the call's own memory. -/
import Derived.Test.YtncaejnkpmmoeaaDoorSxS6
import Derived.Maps.AppendAt
import Derived.Deep.AppendLies
import Derived.Laws.CopyRow
import Derived.Great.BuildSlice
set_option linter.unusedVariables false
set_option linter.unusedSimpArgs false
namespace Go.SX
open Go Go.RowKit

def SO.live : SO → Bool
  | .gone => false
  | _ => true
def esDen (ρ : Env) (es : List (SV × SV × Nat)) : List MapEntry := es.map fun e => ⟨e.1.den ρ, e.2.1.den ρ, e.2.2⟩
/-- A block holds what is known of it. -/
def SO.ok (ρ : Env) (w : World) (b : Nat) : SO → Prop
  | .cells c e => w.heap[ρ.b b]? = some (.cells (SV.dens ρ c).toArray e (0, 0))
  | .row c e s n => w.ownsRow 0 e s (.slice (some ⟨ρ.b b, 0, none⟩) n (ρ.cap b)) n (SV.dens ρ c)
  | .map es k => w.heap[ρ.b b]? = some (.map (esDen ρ es).toArray k)
  | .gone => True

/-- What the executor's state says of a world. -/
structure Md (C : Cfg) (w0 : World) (ρ : Env) (st : St) (w : World) : Prop where
  below : Below w0.heap.size w0 w
  hni : ρ.is.length = st.ni
  hnb : ρ.bs.length = st.nb
  hpc : PcOk ρ.is st.pc
  hpw : ∀ p ∈ st.pc, p.1.wf st.ni = true
  mem : ∀ i o, st.mem.get i = some o → i < st.nb ∧ o.wf st.ni st.nb = true ∧ (o.live = true → w0.heap.size ≤ ρ.b i ∧ SO.ok ρ w i o)
  inj : ∀ i j oi oj, st.mem.get i = some oi → st.mem.get j = some oj → oi.live = true → oj.live = true → ρ.b i = ρ.b j → i = j

/-- The package variables whose contents are constants. -/
def GOk (C : Cfg) (w : World) : Prop := ∀ g off n l, rdGl C.gl g off n = some l → ∀ (j : Nat) (v : SV), l[j]? = some v → v.wf 0 0 = true ∧ v.cell = true ∧ w.cell? ⟨g, off + j, none⟩ = some (v.den ⟨[], []⟩)

variable {C : Cfg} {w0 w w' : World} {ρ ρ' : Env} {st : St}

theorem GOk.below (h : GOk C w0) (hb : Below w0.heap.size w0 w) : GOk C w := by
  intro g off n l hl j v hv
  obtain ⟨h1, h2, h3⟩ := h g off n l hl j v hv
  have hlt := World.block_lt_of_cell? (w := w0) (a := ⟨g, off + j, none⟩) h3
  exact ⟨h1, h2, by rw [hb.cell hlt]; exact h3⟩

theorem esDen_app (h : ρ.le ρ') : ∀ {es : List (SV × SV × Nat)}, esWf ρ.is.length ρ.bs.length es = true → esDen ρ' es = esDen ρ es
  | [], _ => rfl
  | e :: es, he => by
    simp only [esWf, Bool.and_eq_true] at he
    simp only [esDen, List.map_cons]
    rw [SV.den_app h he.1.1, SV.den_app h he.1.2]
    congr 1
    exact esDen_app h he.2
theorem SO.ok_app (h : ρ.le ρ') {b : Nat} (hb : b < ρ.bs.length) : ∀ {o : SO}, o.wf ρ.is.length ρ.bs.length = true → SO.ok ρ w b o → SO.ok ρ' w b o
  | .cells c e, hw, ho => by
    simp only [SO.wf, Bool.and_eq_true] at hw
    simp only [SO.ok] at ho ⊢
    rw [Env.b_app h hb, SV.dens_app h hw.1]; exact ho
  | .row c e s n, hw, ho => by
    simp only [SO.wf, Bool.and_eq_true] at hw
    simp only [SO.ok] at ho ⊢
    rw [Env.b_app h hb, Env.cap_app h hb, SV.dens_app h hw.1]; exact ho
  | .map es k, hw, ho => by
    simp only [SO.wf] at hw
    simp only [SO.ok] at ho ⊢
    rw [Env.b_app h hb, esDen_app h hw]; exact ho
  | .gone, _, _ => trivial
theorem ownsRow_heap {e s n g cap : Nat} {xs : List Value} (h : w.ownsRow 0 e s (.slice (some ⟨g, 0, none⟩) n cap) n xs) (hh : w'.heap[g]? = w.heap[g]?) : w'.ownsRow 0 e s (.slice (some ⟨g, 0, none⟩) n cap) n xs := by
  refine ⟨h.1, ?_⟩
  rcases h.2 with ⟨h1, _⟩ | ⟨g', cap', cur, h1, h2, h3, h4⟩
  · cases h1
  · refine .inr ⟨g', cap', cur, h1, h2, ?_, h4⟩
    have : g = g' := by injection h1 with h1; injection h1 with h1; injection h1
    subst this
    rw [hh]; exact h3
theorem SO.ok_heap {b : Nat} (hh : w'.heap[ρ.b b]? = w.heap[ρ.b b]?) : ∀ {o : SO}, SO.ok ρ w b o → SO.ok ρ w' b o
  | .cells c e, ho => by simp only [SO.ok] at ho ⊢; rw [hh]; exact ho
  | .row c e s n, ho => ownsRow_heap ho hh
  | .map es k, ho => by simp only [SO.ok] at ho ⊢; rw [hh]; exact ho
  | .gone, _ => trivial
theorem SO.ok_lt {b : Nat} : ∀ {o : SO}, o.live = true → SO.ok ρ w b o → ρ.b b < w.heap.size
  | .cells c e, _, ho => (Array.getElem?_eq_some_iff.1 ho).1
  | .row c e s n, _, ho => by
    rcases ho.2 with ⟨h1, _⟩ | ⟨g', cap', cur, h1, h2, h3, h4⟩
    · cases h1
    · have : ρ.b b = g' := by injection h1 with h1; injection h1 with h1; injection h1
      rw [this]; exact (Array.getElem?_eq_some_iff.1 h3).1
  | .map es k, _, ho => (Array.getElem?_eq_some_iff.1 ho).1
  | .gone, h, _ => by cases h
theorem esWf_mono {n m n' m' : Nat} (h : n ≤ m) (h' : n' ≤ m') : ∀ {es : List (SV × SV × Nat)}, esWf n n' es = true → esWf m m' es = true
  | [], _ => rfl
  | e :: es, he => by
    simp only [esWf, Bool.and_eq_true] at he ⊢
    exact ⟨⟨SV.wf_mono h h' he.1.1, SV.wf_mono h h' he.1.2⟩, esWf_mono h h' he.2⟩
theorem SO.wf_mono {n m n' m' : Nat} (h : n ≤ m) (h' : n' ≤ m') : ∀ {o : SO}, o.wf n n' = true → o.wf m m' = true
  | .cells c e, hw => by
    simp only [SO.wf, Bool.and_eq_true] at hw ⊢
    exact ⟨SV.wfs_mono h h' hw.1, hw.2⟩
  | .row c e s n, hw => by
    simp only [SO.wf, Bool.and_eq_true] at hw ⊢
    exact ⟨SV.wfs_mono h h' hw.1, hw.2⟩
  | .map es k, hw => by simp only [SO.wf] at hw ⊢; exact esWf_mono h h' hw
  | .gone, _ => rfl

/-! ### Steps of the world -/
theorem Md.drew (h : Md C w0 ρ st w) : Md C w0 ρ st w.drew :=
  ⟨h.below.drew, h.hni, h.hnb, h.hpc, h.hpw, fun i o hi => ⟨(h.mem i o hi).1, (h.mem i o hi).2.1, fun hl => ⟨((h.mem i o hi).2.2 hl).1, SO.ok_heap rfl ((h.mem i o hi).2.2 hl).2⟩⟩, h.inj⟩
theorem below_then' {B : Nat} {w w1 w2 : World} (h : Below B w w1) (hB : B ≤ w1.heap.size) (k : Below w1.heap.size w1 w2) : Below B w w2 :=
  h.trans ⟨k.os, k.tape, k.output, k.size, fun i hi => k.block i (Nat.lt_of_lt_of_le hi hB)⟩
/-- Nothing that was there has turned. -/
theorem Md.later (h : Md C w0 ρ st w) (hb : Below w.heap.size w w') : Md C w0 ρ st w' :=
  ⟨below_then' h.below h.below.size hb, h.hni, h.hnb, h.hpc, h.hpw, fun i o hi => ⟨(h.mem i o hi).1, (h.mem i o hi).2.1, fun hl =>
    ⟨((h.mem i o hi).2.2 hl).1, SO.ok_heap (hb.block _ (SO.ok_lt hl ((h.mem i o hi).2.2 hl).2)) ((h.mem i o hi).2.2 hl).2⟩⟩, h.inj⟩
/-- More numbers. -/
theorem Md.nums (h : Md C w0 ρ st w) {x : List Int} {n : Nat} (hn : n = st.ni + x.length) : Md C w0 ⟨ρ.is ++ x, ρ.bs⟩ { st with ni := n } w := by
  have hle : ρ.le ⟨ρ.is ++ x, ρ.bs⟩ := ⟨⟨x, rfl⟩, ⟨[], by simp⟩⟩
  refine ⟨h.below, by simp [h.hni, hn], h.hnb, fun p hp => ?_, fun p hp => B.wf_mono (by simp only [hn]; omega) (h.hpw p hp), fun i o hi => ?_, h.inj⟩
  · rw [← h.hpc p hp]
    exact B.den_app (by rw [h.hni]; exact h.hpw p hp)
  · obtain ⟨h1, h2, h3⟩ := h.mem i o hi
    refine ⟨h1, SO.wf_mono (by simp only [hn]; omega) (Nat.le_refl _) h2, fun hl => ⟨(h3 hl).1, ?_⟩⟩
    exact SO.ok_app hle (by rw [h.hnb]; exact h1) (by rw [h.hni, h.hnb]; exact h2) (h3 hl).2
theorem extE_nums (h : Md C w0 ρ st w) {d : Bd} (hd : d.ni = ρ.is.length + d.es.length) : Md C w0 ⟨extE ρ.is d.es, ρ.bs⟩ { st with ni := d.ni } w := by
  obtain ⟨x, hx, hl⟩ := extE_app d.es ρ.is
  rw [hx]
  exact h.nums (by rw [hd, h.hni, hl])
theorem Md.env_eq {ρ ρ' : Env} (h : Md C w0 ρ st w) (he : ρ = ρ') : Md C w0 ρ' st w := he ▸ h
/-- A condition is known. -/
theorem Md.assume (h : Md C w0 ρ st w) {c : B} (hw : c.wf st.ni = true) {b : Bool} (hb : c.den ρ.is = b) : Md C w0 ρ { st with pc := c.facts b ++ st.pc } w := by
  have hwf : ∀ (c : B) (b : Bool), c.wf st.ni = true → ∀ p ∈ c.facts b, p.1.wf st.ni = true := by
    intro c
    induction c with
    | c x => intro b h p hp; simp [B.facts] at hp; subst hp; exact h
    | cmp o x y => intro b h p hp; simp [B.facts] at hp; subst hp; exact h
    | not x ih => intro b h p hp; simp only [B.facts, List.mem_cons] at hp; rcases hp with rfl | hp; exact h; exact ih _ (by simpa [B.wf] using h) p hp
    | and x y ihx ihy =>
      intro b h p hp
      cases b
      · simp [B.facts] at hp; subst hp; exact h
      · simp only [B.facts, List.mem_cons, List.mem_append] at hp
        rcases hp with rfl | hp | hp
        · exact h
        · simp only [B.wf, Bool.and_eq_true] at h; exact ihx _ h.1 p hp
        · simp only [B.wf, Bool.and_eq_true] at h; exact ihy _ h.2 p hp
    | or x y ihx ihy =>
      intro b h p hp
      cases b
      · simp only [B.facts, List.mem_cons, List.mem_append] at hp
        rcases hp with rfl | hp | hp
        · exact h
        · simp only [B.wf, Bool.and_eq_true] at h; exact ihx _ h.1 p hp
        · simp only [B.wf, Bool.and_eq_true] at h; exact ihy _ h.2 p hp
      · simp [B.facts] at hp; subst hp; exact h
  exact ⟨h.below, h.hni, h.hnb, PcOk.append (B.facts_ok _ _ _ hb) h.hpc, fun p hp => (List.mem_append.1 hp).elim (hwf c b hw p) (h.hpw p), h.mem, h.inj⟩

/-- A new block. -/
theorem Md.new (h : Md C w0 ρ st w) {o : SO} {ob : Obj} (hw : o.wf st.ni st.nb = true) (hl : o.live = true) (cap : Nat)
    (hob : ∀ ρ' : Env, ρ.le ρ' → ρ'.b st.nb = w.heap.size → ρ'.cap st.nb = cap → SO.ok ρ' (w.alloc ob) st.nb o) :
    Md C w0 ⟨ρ.is, ρ.bs ++ [(w.heap.size, cap)]⟩ { st with mem := st.mem.put st.nb o, nb := st.nb + 1 } (w.alloc ob) := by
  have hle : ρ.le ⟨ρ.is, ρ.bs ++ [(w.heap.size, cap)]⟩ := ⟨⟨[], by simp⟩, ⟨_, rfl⟩⟩
  have hb : (⟨ρ.is, ρ.bs ++ [(w.heap.size, cap)]⟩ : Env).b st.nb = w.heap.size := by simp [Env.b, ← h.hnb, List.getD]
  have hc : (⟨ρ.is, ρ.bs ++ [(w.heap.size, cap)]⟩ : Env).cap st.nb = cap := by simp [Env.cap, ← h.hnb, List.getD]
  have old : ∀ i oi, st.mem.get i = some oi → (⟨ρ.is, ρ.bs ++ [(w.heap.size, cap)]⟩ : Env).b i = ρ.b i := fun i oi hi => Env.b_app hle (by rw [h.hnb]; exact (h.mem i oi hi).1)
  refine ⟨h.below.alloc h.below.size ob, h.hni, by simp [h.hnb], h.hpc, h.hpw, fun i oi hi => ?_, fun i j oi oj hi hj hli hlj he => ?_⟩
  · rcases Tb.get_put hi with ⟨rfl, rfl⟩ | ⟨hne, hi'⟩
    · refine ⟨by simp, SO.wf_mono (Nat.le_refl _) (by simp) hw, fun _ => ⟨?_, hob _ hle hb hc⟩⟩
      rw [hb]; exact h.below.size
    · obtain ⟨h1, h2, h3⟩ := h.mem i oi hi'
      refine ⟨by simp; omega, SO.wf_mono (Nat.le_refl _) (by simp) h2, fun hli => ?_⟩
      obtain ⟨g1, g2⟩ := h3 hli
      refine ⟨by rw [old i oi hi']; exact g1, ?_⟩
      refine SO.ok_app hle (by rw [h.hnb]; exact h1) (by rw [h.hni, h.hnb]; exact h2) (SO.ok_heap (w := w) ?_ g2)
      exact Below.heap_alloc _ _ _ (SO.ok_lt hli g2)
  · rcases Tb.get_put hi with ⟨rfl, rfl⟩ | ⟨hne, hi'⟩ <;> rcases Tb.get_put hj with ⟨hj1, hj2⟩ | ⟨hnej, hj'⟩
    · exact hj1.symm
    · exfalso
      rw [hb, old j oj hj'] at he
      have := SO.ok_lt hlj ((h.mem j oj hj').2.2 hlj).2
      omega
    · exfalso
      rw [hj1, hb, old i oi hi'] at he
      have := SO.ok_lt hli ((h.mem i oi hi').2.2 hli).2
      omega
    · rw [old i oi hi', old j oj hj'] at he
      exact h.inj i j oi oj hi' hj' hli hlj he

/-- A block is turned. -/
theorem Md.upd (h : Md C w0 ρ st w) {i : Nat} {o o' : SO} (hi : st.mem.get i = some o) (hl : o.live = true) (hw : o'.wf st.ni st.nb = true)
    (hos : w'.os = w.os) (htape : w'.tape = w.tape) (hout : w'.output = w.output) (hsz : w'.heap.size = w.heap.size) (hoth : ∀ k, k ≠ ρ.b i → w'.heap[k]? = w.heap[k]?) (hok : o'.live = true → SO.ok ρ w' i o') :
    Md C w0 ρ { st with mem := st.mem.put i o' } w' := by
  obtain ⟨h1, h2, h3⟩ := h.mem i o hi
  obtain ⟨g1, g2⟩ := h3 hl
  refine ⟨?_, h.hni, h.hnb, h.hpc, h.hpw, fun j oj hj => ?_, fun j k oj ok hj hk hlj hlk he => ?_⟩
  · exact h.below.trans ⟨hos, htape, hout, by omega, fun k hk => hoth k (by omega)⟩
  · rcases Tb.get_put hj with ⟨rfl, rfl⟩ | ⟨hne, hj'⟩
    · exact ⟨h1, hw, fun hl' => ⟨g1, hok hl'⟩⟩
    · obtain ⟨q1, q2, q3⟩ := h.mem j oj hj'
      refine ⟨q1, q2, fun hlj => ⟨(q3 hlj).1, SO.ok_heap (hoth _ ?_) (q3 hlj).2⟩⟩
      intro e
      exact hne (h.inj j i oj o hj' hi hlj hl e)
  · have look : ∀ j oj, (st.mem.put i o').get j = some oj → oj.live = true → ∃ x, st.mem.get j = some x ∧ x.live = true := by
      intro j oj hj hlj
      rcases Tb.get_put hj with ⟨rfl, rfl⟩ | ⟨_, hj'⟩
      · exact ⟨o, hi, hl⟩
      · exact ⟨oj, hj', hlj⟩
    obtain ⟨x, hx, hlx⟩ := look j oj hj hlj
    obtain ⟨y, hy, hly⟩ := look k ok hk hlk
    exact h.inj j k x y hx hy hlx hly he

end Go.SX
