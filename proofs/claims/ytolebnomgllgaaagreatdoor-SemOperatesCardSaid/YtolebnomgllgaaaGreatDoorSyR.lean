/- The symbolic executor SY: how data lies in memory that nobody writes. -/
import Derived.Test.YtolebnomgllgaaaGreatDoorSyS2
import Derived.Sort.Row
import Derived.Laws.BitsLemmas
set_option linter.unusedVariables false
set_option linter.unusedSimpArgs false
namespace Go.SY
open Go Go.RowKit
noncomputable section
abbrev Fz := Key → Option Obj
def cellOf : Obj → Nat → Option Value
  | .cells c _ _, k => c[k]?
  | _, _ => none
def fzCell (fz : Fz) (b off : Nat) : Option Value := match fz b with
  | some o => cellOf o off
  | none => none
def FzIn (fz : Fz) (w : World) : Prop := ∀ (b : Nat) o, fz b = some o → w.heap[b]? = some o
def FzLe (fz fz' : Fz) : Prop := ∀ (b : Key) o, fz b = some o → fz' b = some o
theorem fzCell_w {fz : Fz} {w : World} (h : FzIn fz w) {b off : Nat} {v : Value} (hv : fzCell fz b off = some v) : w.cell? ⟨b, off, none⟩ = some v := by
  unfold fzCell at hv
  split at hv
  · rename_i o ho
    have := h b o ho
    cases o <;> simp only [cellOf] at hv <;> first | cases hv | skip
    simpa [World.cell?, this] using hv
  · cases hv
theorem fzCell_mono {fz fz' : Fz} (h : FzLe fz fz') {b off : Nat} {v : Value} (hv : fzCell fz b off = some v) : fzCell fz' b off = some v := by
  unfold fzCell at hv ⊢
  split at hv
  · rename_i o ho
    rw [h b o ho]; exact hv
  · cases hv
def Lies (fz : Fz) (b off : Nat) (cs : List Value) : Prop := ∀ (j : Nat) (v : Value), cs[j]? = some v → fzCell fz b (off + j) = some v
def hob (V : Value) : Obj := .cells #[V] 0 (0, 0)
theorem hob_inj {V V' : Value} (h : hob V = hob V') : V = V' := by
  unfold hob at h
  injection h with h
  simpa using h
def Hdr (fz : Fz) (n : Int) (V : Value) : Prop := 0 ≤ n ∧ fz (.h n.toNat) = some (hob V) ∧ (V = .slice none 0 0 ∨ ∃ b l c, V = .slice (some ⟨b, 0, none⟩) l c)
mutual
def rep (ty : Ty) (fz : Fz) : Dt → TypeId → List Value → Prop
  | .num n, t, cs => (∃ k, tdOf ty t = .int k ∧ cs = [.int k n] ∧ k.min ≤ n ∧ n ≤ k.max) ∨ ∃ e s V, tdOf ty t = .hnd e s ∧ Hdr fz n V ∧ cs = [V]
  | .tru x, t, cs => tdOf ty t = .bool ∧ cs = [.bool x]
  | .byt l, t, cs => tdOf ty t = .str ∧ cs = [bytesOf l] ∧ l.length < 9223372036854775808
  | .nil, t, cs => (∃ e s, tdOf ty t = .slice e s) ∧ cs = [.slice none 0 0]
  | .row l, t, cs => ∃ e s b off sp cap, tdOf ty t = .slice e s ∧ cs = [.slice (some ⟨b, off, sp⟩) l.length cap] ∧ l.length < 9223372036854775808 ∧ l.length ≤ cap ∧ repL ty fz l e s b off ∧ (sp = none ∨ l = [])
  | .tup l, t, cs => (sizeT ty t = some cs.length ∧ ∀ v ∈ cs, v.oneCell' = true) ∧ ((∃ fs q, tdOf ty t = .struct fs q ∧ repF ty fz l fs cs) ∨ (∃ n e s, tdOf ty t = .arr n e s ∧ l.length = n ∧ repA ty fz l e s cs))
def repL (ty : Ty) (fz : Fz) : List Dt → TypeId → Nat → Nat → Nat → Prop
  | [], _, _, _, _ => True
  | x :: l, e, s, b, off => (∃ cs, cs.length = s ∧ Lies fz b off cs ∧ rep ty fz x e cs) ∧ repL ty fz l e s b (off + s)
def repF (ty : Ty) (fz : Fz) : List Dt → List (Nat × Nat × Nat) → List Value → Prop
  | [], [], _ => True
  | x :: l, f :: fs, cs => (f.2.1 + f.2.2 ≤ cs.length ∧ rep ty fz x f.1 ((cs.drop f.2.1).take f.2.2)) ∧ repF ty fz l fs cs
  | _, _, _ => False
def repA (ty : Ty) (fz : Fz) : List Dt → TypeId → Nat → List Value → Prop
  | [], _, _, _ => True
  | x :: l, e, s, cs => (s ≤ cs.length ∧ rep ty fz x e (cs.take s)) ∧ repA ty fz l e s (cs.drop s)
end
theorem Lies.mono {fz fz' : Fz} (h : FzLe fz fz') {b off : Nat} {cs : List Value} (hl : Lies fz b off cs) : Lies fz' b off cs := fun j v hj => fzCell_mono h (hl j v hj)
mutual
theorem rep_mono {ty : Ty} {fz fz' : Fz} (h : FzLe fz fz') : ∀ {d : Dt} {t : TypeId} {cs : List Value}, rep ty fz d t cs → rep ty fz' d t cs
  | .num _, _, _, hr => by
    simp only [rep] at hr ⊢
    exact hr.imp id fun ⟨e, s, V, h1, ⟨h2, h3, h4⟩, h5⟩ => ⟨e, s, V, h1, ⟨h2, h _ _ h3, h4⟩, h5⟩
  | .tru _, _, _, hr => hr
  | .byt _, _, _, hr => hr
  | .nil, _, _, hr => hr
  | .row l, t, cs, hr => by
    simp only [rep] at hr ⊢
    obtain ⟨e, s, b, off, sp, cap, h1, h2, h3, h4, h5, h6⟩ := hr
    exact ⟨e, s, b, off, sp, cap, h1, h2, h3, h4, repL_mono h h5, h6⟩
  | .tup l, t, cs, hr => by
    simp only [rep] at hr ⊢
    refine ⟨hr.1, ?_⟩
    rcases hr.2 with ⟨fs, q, h1, h2⟩ | ⟨n, e, s, h1, h2, h3⟩
    · exact .inl ⟨fs, q, h1, repF_mono h h2⟩
    · exact .inr ⟨n, e, s, h1, h2, repA_mono h h3⟩
theorem repL_mono {ty : Ty} {fz fz' : Fz} (h : FzLe fz fz') : ∀ {l : List Dt} {e : TypeId} {s b off : Nat}, repL ty fz l e s b off → repL ty fz' l e s b off
  | [], _, _, _, _, _ => by simp only [repL]
  | x :: l, e, s, b, off, hr => by
    simp only [repL] at hr ⊢
    obtain ⟨⟨cs, h1, h2, h3⟩, h4⟩ := hr
    exact ⟨⟨cs, h1, h2.mono h, rep_mono h h3⟩, repL_mono h h4⟩
theorem repF_mono {ty : Ty} {fz fz' : Fz} (h : FzLe fz fz') : ∀ {l : List Dt} {fs : List (Nat × Nat × Nat)} {cs : List Value}, repF ty fz l fs cs → repF ty fz' l fs cs
  | [], [], _, _ => by simp only [repF]
  | x :: l, f :: fs, cs, hr => by
    simp only [repF] at hr ⊢
    exact ⟨⟨hr.1.1, rep_mono h hr.1.2⟩, repF_mono h hr.2⟩
  | [], _ :: _, _, hr => by simp only [repF] at hr
  | _ :: _, [], _, hr => by simp only [repF] at hr
theorem repA_mono {ty : Ty} {fz fz' : Fz} (h : FzLe fz fz') : ∀ {l : List Dt} {e : TypeId} {s : Nat} {cs : List Value}, repA ty fz l e s cs → repA ty fz' l e s cs
  | [], _, _, _, _ => by simp only [repA]
  | x :: l, e, s, cs, hr => by
    simp only [repA] at hr ⊢
    exact ⟨⟨hr.1.1, rep_mono h hr.1.2⟩, repA_mono h hr.2⟩
end
mutual
theorem rep_hasTy {ty : Ty} {fz : Fz} : ∀ {d : Dt} {t : TypeId} {cs : List Value}, rep ty fz d t cs → hasTy ty d t = true
  | .num _, _, _, hr => by
    simp only [rep] at hr
    rcases hr with ⟨k, h1, _, h2, h3⟩ | ⟨e, s, V, h1, ⟨h2, _, _⟩, _⟩
    · simp [hasTy, h1, h2, h3]
    · simp [hasTy, h1, h2]
  | .tru _, _, _, hr => by simp only [rep] at hr; simp [hasTy, hr.1]
  | .byt _, _, _, hr => by simp only [rep] at hr; simp [hasTy, hr.1, hr.2.2]
  | .nil, _, _, hr => by simp only [rep] at hr; obtain ⟨⟨e, s, h⟩, _⟩ := hr; simp [hasTy, h]
  | .row l, t, cs, hr => by
    simp only [rep] at hr
    obtain ⟨e, s, b, off, sp, cap, h1, h2, h3, h4, h5, h6⟩ := hr
    simp [hasTy, h1, h3, repL_hasTy h5]
  | .tup l, t, cs, hr => by
    simp only [rep] at hr
    rcases hr.2 with ⟨fs, q, h1, h2⟩ | ⟨n, e, s, h1, h2, h3⟩
    · simp [hasTy, h1, repF_hasTy h2]
    · simp [hasTy, h1, h2, repA_hasTy h3]
theorem repL_hasTy {ty : Ty} {fz : Fz} : ∀ {l : List Dt} {e : TypeId} {s b off : Nat}, repL ty fz l e s b off → hasTys ty l e = true
  | [], _, _, _, _, _ => rfl
  | x :: l, e, s, b, off, hr => by
    simp only [repL] at hr
    obtain ⟨⟨cs, h1, h2, h3⟩, h4⟩ := hr
    simp [hasTys, rep_hasTy h3, repL_hasTy h4]
theorem repF_hasTy {ty : Ty} {fz : Fz} : ∀ {l : List Dt} {fs : List (Nat × Nat × Nat)} {cs : List Value}, repF ty fz l fs cs → hasTyF ty l fs = true
  | [], [], _, _ => rfl
  | x :: l, f :: fs, cs, hr => by
    simp only [repF] at hr
    simp [hasTyF, rep_hasTy hr.1.2, repF_hasTy hr.2]
  | [], _ :: _, _, hr => by simp only [repF] at hr
  | _ :: _, [], _, hr => by simp only [repF] at hr
theorem repA_hasTy {ty : Ty} {fz : Fz} : ∀ {l : List Dt} {e : TypeId} {s : Nat} {cs : List Value}, repA ty fz l e s cs → hasTys ty l e = true
  | [], _, _, _, _ => rfl
  | x :: l, e, s, cs, hr => by
    simp only [repA] at hr
    simp [hasTys, rep_hasTy hr.1.2, repA_hasTy hr.2]
end
theorem repL_idx {ty : Ty} {fz : Fz} : ∀ {l : List Dt} {e : TypeId} {s b off : Nat}, repL ty fz l e s b off → ∀ (i : Nat) (x : Dt), l[i]? = some x → ∃ cs, cs.length = s ∧ Lies fz b (off + i * s) cs ∧ rep ty fz x e cs
  | [], _, _, _, _, _, _, _, hi => by simp at hi
  | y :: l, e, s, b, off, hr, 0, x, hi => by
    simp only [repL] at hr
    simp only [List.getElem?_cons_zero, Option.some.injEq] at hi
    subst hi
    simpa using hr.1
  | y :: l, e, s, b, off, hr, i + 1, x, hi => by
    simp only [repL] at hr
    simp only [List.getElem?_cons_succ] at hi
    obtain ⟨cs, h1, h2, h3⟩ := repL_idx hr.2 i x hi
    refine ⟨cs, h1, ?_, h3⟩
    rw [show off + (i + 1) * s = off + s + i * s by rw [Nat.add_mul]; omega]
    exact h2
end
end Go.SY
set_option linter.unusedVariables false
set_option linter.unusedSimpArgs false
namespace Go.SY
open Go Go.RowKit
noncomputable section
def extP (is : List Dt) (es : List (Option TypeId × E)) : List Dt := extE is (es.map (·.2))
theorem extE_app : ∀ (es : List E) (is : List Dt), ∃ x, extE is es = is ++ x ∧ x.length = es.length
  | [], is => ⟨[], by simp [extE], rfl⟩
  | e :: es, is => by
    obtain ⟨x, hx, hl⟩ := extE_app es (is ++ [e.den is])
    exact ⟨e.den is :: x, by simp [extE, hx], by simp [hl]⟩
theorem extE_snoc : ∀ (es : List E) (is : List Dt) (e : E), extE is (es ++ [e]) = extE is es ++ [e.den (extE is es)]
  | [], is, e => rfl
  | f :: es, is, e => by simp only [List.cons_append, extE]; exact extE_snoc es _ e
theorem extP_app (es : List (Option TypeId × E)) (is : List Dt) : ∃ x, extP is es = is ++ x ∧ x.length = es.length := by
  obtain ⟨x, h1, h2⟩ := extE_app (es.map (·.2)) is
  exact ⟨x, h1, by simpa using h2⟩
theorem extP_snoc (es : List (Option TypeId × E)) (is : List Dt) (o : Option TypeId) (e : E) : extP is (es ++ [(o, e)]) = extP is es ++ [e.den (extP is es)] := by
  simp only [extP, List.map_append, List.map_cons, List.map_nil, extE_snoc]
theorem extP_len (es : List (Option TypeId × E)) (is : List Dt) : (extP is es).length = is.length + es.length := by
  obtain ⟨x, h1, h2⟩ := extP_app es is
  rw [h1, List.length_append, h2]
theorem litA_mem : ∀ {l : List A}, litA l = true → ∀ (is js : List Dt), l.map (·.den is) = l.map (·.den js)
  | [], _, _, _ => rfl
  | x :: l, h, is, js => by
    simp only [litA, Bool.and_eq_true] at h
    simp only [List.map_cons, A.den_lit h.1 is js, litA_mem h.2 is js]
theorem E.den_lit {e : E} (h : e.lit = true) (is js : List Dt) : e.den is = e.den js := by
  cases e <;> simp only [E.lit, Bool.and_eq_true] at h <;> simp only [E.den] <;> first
    | rw [A.int_lit h.1 is js, A.int_lit h.2 is js]
    | rw [A.den_lit h.1 is js, A.den_lit h.2 is js]
    | rw [A.int_lit h.1 is js, A.den_lit h.2 is js]
    | rw [A.int_lit h is js]
    | rw [A.den_lit h is js]
    | rw [B.den_lit h is js]
    | rw [litA_mem h is js]
    | rw [B.den_lit h.1.1 is js, A.den_lit h.1.2 is js, A.den_lit h.2 is js]
    | rw [A.den_lit h.1.1 is js, A.int_lit h.1.2 is js, A.int_lit h.2 is js]
    | rw [A.den_lit h.1.1 is js, A.int_lit h.1.2 is js, A.den_lit h.2 is js]
theorem den_ofDt (x : Dt) (is : List Dt) : (A.ofDt x).den is = x := by unfold A.ofDt; split <;> rfl
theorem lit_ofDt (x : Dt) (n : Nat) : (A.ofDt x).wf n = true := by unfold A.ofDt; split <;> rfl
theorem den_mkFld (a : A) (i : Nat) (is : List Dt) : (a.mkFld i).den is = (a.den is).fld i := by
  unfold A.mkFld
  split
  · rw [den_ofDt]; rfl
  · rfl
theorem den_mkLen (a : A) (is : List Dt) : a.mkLen.den is = .num (a.den is).len := by unfold A.mkLen; split <;> rfl
theorem int_mkLen (a : A) (is : List Dt) : a.mkLen.int is = ((a.den is).len : Int) := by simp only [A.int, den_mkLen, Dt.int]
theorem den_mkIdx (a i : A) (is : List Dt) : (a.mkIdx i).den is = (a.den is).idx (i.int is).toNat := by
  unfold A.mkIdx
  split
  · rw [den_ofDt]; rfl
  · rfl
theorem int_mkSlen (a : A) (is : List Dt) : a.mkSlen.int is = ((a.den is).str.length : Int) := by unfold A.mkSlen; split <;> rfl
theorem int_mkSidx (a i : A) (is : List Dt) : (a.mkSidx i).int is = ((a.den is).str.getD (i.int is).toNat 0).toNat := by unfold A.mkSidx; split <;> rfl
theorem den_mkSidx (a i : A) (is : List Dt) : (a.mkSidx i).den is = .num ((a.den is).str.getD (i.int is).toNat 0).toNat := by unfold A.mkSidx; split <;> rfl
theorem den_mkSlen (a : A) (is : List Dt) : a.mkSlen.den is = .num (a.den is).str.length := by unfold A.mkSlen; split <;> rfl
theorem wf_mkSlen {a : A} {n : Nat} (h : a.wf n = true) : a.mkSlen.wf n = true := by
  unfold A.mkSlen
  split
  · rfl
  · exact h
theorem wf_mkSidx {a i : A} {n : Nat} (h : a.wf n = true) (hi : i.wf n = true) : (a.mkSidx i).wf n = true := by
  unfold A.mkSidx
  split
  · rfl
  · simp only [A.wf, h, hi, Bool.and_self]
theorem wf_mkFld {a : A} {i n : Nat} (h : a.wf n = true) : (a.mkFld i).wf n = true := by
  unfold A.mkFld
  split
  · exact lit_ofDt _ _
  · exact h
theorem wf_mkLen {a : A} {n : Nat} (h : a.wf n = true) : a.mkLen.wf n = true := by
  unfold A.mkLen
  split
  · rfl
  · exact h
theorem wf_mkIdx {a i : A} {n : Nat} (h : a.wf n = true) (hi : i.wf n = true) : (a.mkIdx i).wf n = true := by
  unfold A.mkIdx
  split
  · exact lit_ofDt _ _
  · simp only [A.wf, h, hi, Bool.and_self]
def esDen (ρ : Env) (es : List (SV × SV × Nat)) : List MapEntry := es.map fun e => ⟨e.1.den ρ, e.2.1.den ρ, e.2.2⟩
def esTyd (ρ : Env) (es : List (SV × SV × Nat)) : Prop := ∀ e ∈ es, e.1.ty ρ ∧ e.2.1.ty ρ
section
variable {ρ ρ' : Env}
theorem esDen_app (h : ρ.le ρ') : ∀ {es : List (SV × SV × Nat)}, esWf ρ.is.length ρ.bs.length es = true → esDen ρ' es = esDen ρ es
  | [], _ => rfl
  | e :: es, he => by
    simp only [esWf, Bool.and_eq_true] at he
    simp only [esDen, List.map_cons]
    rw [SV.den_app h he.1.1, SV.den_app h he.1.2]
    congr 1
    exact esDen_app h he.2
theorem esTyd_app (h : ρ.le ρ') : ∀ {es : List (SV × SV × Nat)}, esWf ρ.is.length ρ.bs.length es = true → esTyd ρ es → esTyd ρ' es
  | [], _, _ => fun e he => nomatch he
  | e :: es, he, ht => by
    simp only [esWf, Bool.and_eq_true] at he
    intro x hx
    rcases List.mem_cons.1 hx with rfl | hx
    · have := ht x (.head _)
      exact ⟨SV.ty_app h he.1.1 this.1, SV.ty_app h he.1.2 this.2⟩
    · exact esTyd_app h he.2 (fun y hy => ht y (.tail _ hy)) x hx
end
def kvE (e : MapEntry) : Value × Value := (e.key, e.val)
def keysNe (es : List MapEntry) : Prop := es.Pairwise fun e e' => e.key ≠ e'.key
def Hd1 (y : Dt) (V : Value) : Prop := (y = .nil ∧ V = .slice none 0 0) ∨ ∃ m b cap, y = .row m ∧ V = .slice (some ⟨b, 0, none⟩) m.length cap ∧ m.length < 9223372036854775808
def GhOk (ty : Ty) (ρ : Env) (i : Nat) : SO → Prop
  | .val c t a => c.den ρ.is = true → rep ty ρ.fz (a.den ρ.is) t [ρ.val i]
  | .at c t a => c.den ρ.is = true → ∃ b off cs, ρ.val i = .pointer (some ⟨b, off, none⟩) ∧ Lies ρ.fz b off cs ∧ rep ty ρ.fz (a.den ρ.is) t cs
  | .rowd e s a => (a.den ρ.is = .nil ∧ ρ.val i = .slice none 0 0) ∨ ∃ l cap, a.den ρ.is = .row l ∧ ρ.val i = .slice (some ⟨ρ.b i, 0, none⟩) l.length cap ∧ l.length < 9223372036854775808
  | .pool _ _ a => ∃ l, a.den ρ.is = .row l ∧ ∀ (j : Nat) (y : Dt), l[j]? = some y → ∃ V, ρ.fz (.h j) = some (hob V) ∧ Hd1 y V
  | .mset es => (∃ arr k, ρ.fz (.b (ρ.b i)) = some (.map arr k) ∧ (arr.toList.map kvE).Perm ((esDen ρ es).map kvE)) ∧ keysNe (esDen ρ es) ∧ esTyd ρ es
  | _ => True
def esTy (ty : Ty) : List Dt → List (Option TypeId × E) → Prop
  | _, [] => True
  | is, e :: es => tyO ty e.1 (e.2.den is) ∧ esTy ty (is ++ [e.2.den is]) es
theorem esTy_snoc {ty : Ty} {o : Option TypeId} {e : E} : ∀ {es : List (Option TypeId × E)} {is : List Dt}, esTy ty is es → tyO ty o (e.den (extP is es)) → esTy ty is (es ++ [(o, e)])
  | [], is, _, h => ⟨h, trivial⟩
  | f :: es, is, h, h' => ⟨h.1, esTy_snoc h.2 h'⟩
structure Ext (ty : Ty) (ρ : Env) (d : Bd) (ρ' : Env) : Prop where
  ni : d.ni = ρ.is.length + d.es.length
  nb : d.nb = ρ.bs.length + d.gs.length
  is : ρ'.is = extP ρ.is d.es
  bs : ∃ y, ρ'.bs = ρ.bs ++ y ∧ y.length = d.gs.length
  fz : ρ'.fz = ρ.fz
  et : esTy ty ρ.is d.es
  gw : ∀ g ∈ d.gs, g.wf d.ni d.nb = true
  gs : ∀ j g, d.gs[j]? = some g → GhOk ty ρ' (ρ.bs.length + j) g
  fw : ∀ p ∈ d.fs, p.1.wf d.ni = true
  fs : PcOk ρ'.is d.fs
variable {ty : Ty} {pl : Bool} {ρ ρ' ρ1 ρ2 : Env} {d d' : Bd}
theorem Ext.le (h : Ext ty ρ d ρ') : ρ.le ρ' := by
  obtain ⟨x, hx, _⟩ := extP_app d.es ρ.is
  obtain ⟨y, hy, _⟩ := h.bs
  exact ⟨⟨x, by rw [h.is, hx]⟩, ⟨y, hy⟩, fun b o hb => by rw [h.fz]; exact hb⟩
theorem Ext.len (h : Ext ty ρ d ρ') : ρ'.is.length = d.ni := by rw [h.is, extP_len, h.ni]
theorem Ext.lenb (h : Ext ty ρ d ρ') : ρ'.bs.length = d.nb := by
  obtain ⟨y, hy, hl⟩ := h.bs
  rw [hy, List.length_append, hl, h.nb]
theorem Ext.refl (ρ : Env) : Ext ty ρ (.of ρ.is.length ρ.bs.length) ρ :=
  ⟨rfl, rfl, rfl, ⟨[], by simp, rfl⟩, rfl, trivial, fun _ h => absurd h List.not_mem_nil, fun j g h => by simp [Bd.of] at h, fun _ h => absurd h List.not_mem_nil, fun _ h => absurd h List.not_mem_nil⟩
theorem esWf_mono {n m n' m' : Nat} (h : n ≤ m) (h' : n' ≤ m') : ∀ {es : List (SV × SV × Nat)}, esWf n n' es = true → esWf m m' es = true
  | [], _ => rfl
  | e :: es, he => by
    simp only [esWf, Bool.and_eq_true] at he ⊢
    exact ⟨⟨SV.wf_mono h h' he.1.1, SV.wf_mono h h' he.1.2⟩, esWf_mono h h' he.2⟩
theorem SO.wf_mono {n m n' m' : Nat} (h : n ≤ m) (h' : n' ≤ m') {o : SO} (hw : o.wf n n' = true) : o.wf m m' = true := by
  cases o with
  | val c t a | «at» c t a =>
    simp only [SO.wf, Bool.and_eq_true] at hw ⊢
    exact ⟨B.wf_mono h hw.1, A.wf_mono h hw.2⟩
  | cells c e =>
    simp only [SO.wf, Bool.and_eq_true] at hw ⊢
    exact ⟨SV.wfs_mono h h' hw.1, hw.2⟩
  | rowd e s a => simp only [SO.wf] at hw ⊢; exact A.wf_mono h hw
  | pool e s a => simp only [SO.wf] at hw ⊢; exact A.wf_mono h hw
  | map es k | mset es => simp only [SO.wf] at hw ⊢; exact esWf_mono h h' hw
  | gone => rfl
theorem rb_row {ty : Ty} {ρ : Env} {i e s : Nat} {a : A} (h : GhOk ty ρ i (.rowd e s a)) : ρ.rb i = ρ.b i := by
  simp only [GhOk] at h
  rcases h with ⟨_, h⟩ | ⟨l, cap, _, h, _⟩ <;> simp only [Env.rb, h]
def HkOk (ρ : Env) (mem : Tb SO) : Prop := ∀ e s a, mem.get 0 = some (.pool e s a) → ∀ n : Nat, ρ.fz (.h n) ≠ none → n < (a.den ρ.is).list.length
theorem GhOk.app (h : ρ1.le ρ2) {i : Nat} (hi : i < ρ1.bs.length) {o : SO} (hw : o.wf ρ1.is.length ρ1.bs.length = true) (ho : GhOk ty ρ1 i o) : GhOk ty ρ2 i o := by
  cases o with
  | val c t a =>
    simp only [SO.wf, Bool.and_eq_true] at hw
    intro hc
    rw [Env.B_app h hw.1] at hc
    rw [Env.A_app h hw.2, Env.val_app h hi]
    exact rep_mono h.fz (ho hc)
  | «at» c t a =>
    simp only [SO.wf, Bool.and_eq_true] at hw
    intro hc
    rw [Env.B_app h hw.1] at hc
    rw [Env.A_app h hw.2, Env.val_app h hi]
    obtain ⟨b, off, cs, h1, h2, h3⟩ := ho hc
    exact ⟨b, off, cs, h1, h2.mono h.fz, rep_mono h.fz h3⟩
  | rowd e s a =>
    simp only [SO.wf] at hw
    simp only [GhOk] at ho ⊢
    rw [Env.A_app h hw, Env.val_app h hi, Env.b_app h hi]
    exact ho
  | pool e s a =>
    simp only [SO.wf] at hw
    simp only [GhOk] at ho ⊢
    rw [Env.A_app h hw]
    obtain ⟨l, h1, h2⟩ := ho
    exact ⟨l, h1, fun j y hj => by obtain ⟨V, hV, hd⟩ := h2 j y hj; exact ⟨V, h.fz _ _ hV, hd⟩⟩
  | mset es =>
    simp only [SO.wf] at hw
    simp only [GhOk] at ho ⊢
    obtain ⟨⟨arr, k, h1, h2⟩, h3, h4⟩ := ho
    rw [esDen_app h hw, Env.b_app h hi]
    exact ⟨⟨arr, k, h.fz _ _ h1, h2⟩, h3, esTyd_app h hw h4⟩
  | _ => trivial
theorem PcOk.app (h : ρ1.le ρ2) {l : List (B × Bool)} (hw : ∀ p ∈ l, p.1.wf ρ1.is.length = true) (hp : PcOk ρ1.is l) : PcOk ρ2.is l := fun p hm => by rw [Env.B_app h (hw p hm)]; exact hp p hm
theorem Ext.bindT (h : Ext ty ρ d ρ1) (o : Option TypeId) (e : E) (ho : tyO ty o (e.den ρ1.is)) :
    ∃ ρ2, Ext ty ρ (d.bindT o e).2 ρ2 ∧ ρ1.le ρ2 ∧ (d.bindT o e).1.den ρ2.is = e.den ρ1.is ∧ (d.bindT o e).1.wf (d.bindT o e).2.ni = true := by
  unfold Bd.bindT
  cases hl : e.lit
  · simp only [cond_false]
    have hle : ρ1.le { ρ1 with is := ρ1.is ++ [e.den ρ1.is] } := ⟨⟨_, rfl⟩, ⟨[], by simp⟩, fun _ _ h => h⟩
    refine ⟨{ ρ1 with is := ρ1.is ++ [e.den ρ1.is] }, ⟨by simp [h.ni]; omega, h.nb, ?_, h.bs, h.fz, ?_, ?_, ?_, ?_, ?_⟩, hle, ?_, ?_⟩
    · show ρ1.is ++ [e.den ρ1.is] = extP ρ.is (d.es ++ [(o, e)])
      rw [extP_snoc, ← h.is]
    · exact esTy_snoc h.et (by rw [← h.is]; exact ho)
    · intro g hg
      exact SO.wf_mono (Nat.le_succ _) (Nat.le_refl _) (h.gw g hg)
    · intro j g hg
      have hb : ρ.bs.length + j < ρ1.bs.length := by
        have h0 : j < d.gs.length := (List.getElem?_eq_some_iff.1 hg).1
        rw [h.lenb, h.nb]; omega
      exact GhOk.app hle hb (by rw [h.len, h.lenb]; exact h.gw g (List.mem_of_getElem? hg)) (h.gs j g hg)
    · intro p hp
      exact B.wf_mono (Nat.le_succ _) (h.fw p hp)
    · exact PcOk.app hle (by rw [h.len]; exact h.fw) h.fs
    · show ((ρ1.is ++ [e.den ρ1.is]).getD d.ni .nil) = _
      rw [← h.len]; simp [List.getD]
    · exact Nat.ble_eq.mpr (Nat.le_refl _)
  · simp only [cond_true]
    exact ⟨ρ1, h, Env.le_refl _, by rw [den_ofDt]; exact E.den_lit hl _ _, lit_ofDt _ _⟩
theorem Ext.ghost (h : Ext ty ρ d ρ1) {so : SO} {v : Value} (hv : one1 v = v) (hw : so.wf d.ni d.nb = true)
    (ho : ∀ ρ2 : Env, ρ2.is = ρ1.is → ρ2.fz = ρ1.fz → ρ2.val d.nb = v → GhOk ty ρ2 d.nb so) :
    ∃ ρ2, Ext ty ρ (d.ghost so).2 ρ2 ∧ ρ1.le ρ2 ∧ ρ2.val (d.ghost so).1 = v ∧ ρ2.is = ρ1.is := by
  have hle : ρ1.le { ρ1 with bs := ρ1.bs ++ [(0, v)] } := ⟨⟨[], by simp⟩, ⟨_, rfl⟩, fun _ _ h => h⟩
  have hval : ({ ρ1 with bs := ρ1.bs ++ [(0, v)] } : Env).val d.nb = v := by
    simp [Env.val, ← h.lenb, hv]
  refine ⟨{ ρ1 with bs := ρ1.bs ++ [(0, v)] }, ⟨h.ni, ?_, h.is, ?_, h.fz, h.et, ?_, ?_, h.fw, PcOk.app hle (by rw [h.len]; exact h.fw) h.fs⟩, hle, hval, rfl⟩
  · simp only [Bd.ghost, List.length_append, List.length_singleton, h.nb]; omega
  · obtain ⟨y, hy, hyl⟩ := h.bs
    exact ⟨y ++ [(0, v)], by simp [hy], by simp [Bd.ghost, hyl]⟩
  · intro g hg
    simp only [Bd.ghost, List.mem_append, List.mem_singleton] at hg
    rcases hg with hg | rfl
    · exact SO.wf_mono (Nat.le_refl _) (Nat.le_succ _) (h.gw g hg)
    · exact SO.wf_mono (Nat.le_refl _) (Nat.le_succ _) hw
  · intro j g hg
    simp only [Bd.ghost] at hg
    by_cases hj : j < d.gs.length
    · rw [List.getElem?_append_left hj] at hg
      have hb : ρ.bs.length + j < ρ1.bs.length := by rw [h.lenb, h.nb]; omega
      exact GhOk.app hle hb (by rw [h.len, h.lenb]; exact h.gw g (List.mem_of_getElem? hg)) (h.gs j g hg)
    · rw [List.getElem?_append_right (by omega)] at hg
      have h0 : j - d.gs.length = 0 := by
        have := (List.getElem?_eq_some_iff.1 hg).1
        simp at this; omega
      rw [h0] at hg
      simp only [List.getElem?_cons_zero, Option.some.injEq] at hg
      subst hg
      have : ρ.bs.length + j = d.nb := by rw [h.nb]; omega
      rw [this]
      exact ho { ρ1 with bs := ρ1.bs ++ [(0, v)] } rfl rfl hval
theorem Ext.fact (h : Ext ty ρ d ρ1) {c : B} {b : Bool} (hw : c.wf d.ni = true) (hc : c.den ρ1.is = b) : Ext ty ρ (d.fact c b) ρ1 :=
  ⟨h.ni, h.nb, h.is, h.bs, h.fz, h.et, h.gw, h.gs, fun p hp => (List.mem_append.1 hp).elim (h.fw p) (fun q => by simp at q; subst q; exact hw), PcOk.append h.fs (PcOk.one hc)⟩
end
end Go.SY
