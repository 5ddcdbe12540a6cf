/- The symbolic executor SY: package variables that the rows' conditions lay: what they hold. -/
import Derived.Test.YtolebnomgllgaaaGreatDoorSyK
import Derived.LaidLaws
import Derived.LaidHandle
import Derived.FnData
set_option linter.unusedVariables false
set_option linter.unusedSimpArgs false
namespace Go.SY
open Go Go.RowKit
noncomputable section
variable {ty : Ty} {P : Program} {fz : Fz}
mutual
def dtW {H : Type} : DataW H → Dt
  | .lit (.int _ n) => .num n
  | .lit (.bool b) => .tru b
  | .lit (.string s) => .byt s
  | .slice e _ => .row (dtWs e)
  | .agg l => .tup (dtWs l)
  | _ => .nil
def dtWs {H : Type} : List (DataW H) → List Dt
  | [] => []
  | x :: l => dtW x :: dtWs l
end
theorem dtWs_map {H : Type} : ∀ l : List (DataW H), dtWs l = l.map dtW
  | [] => rfl
  | x :: l => by simp only [dtWs, dtWs_map l, List.map_cons]
theorem repL_at {b e s : Nat} : ∀ {l : List Dt} {off : Nat}, (∀ i d, l[i]? = some d → ∃ cs, cs.length = s ∧ Lies fz b (off + i * s) cs ∧ rep ty fz d e cs) → repL ty fz l e s b off
  | [], off, _ => by simp only [repL]
  | x :: l, off, h => by
    simp only [repL]
    obtain ⟨cs, h1, h2, h3⟩ := h 0 x rfl
    refine ⟨⟨cs, h1, by simpa using h2, h3⟩, repL_at fun i d hi => ?_⟩
    have := h (i + 1) d (by simpa using hi)
    rwa [show off + (i + 1) * s = off + s + i * s by rw [Nat.add_mul]; omega] at this
theorem repF_at {cs : List Value} : ∀ {l : List Dt} {fs : List (Nat × Nat × Nat)}, l.length = fs.length → (∀ (j : Nat) f d, fs[j]? = some f → l[j]? = some d → f.2.1 + f.2.2 ≤ cs.length ∧ rep ty fz d f.1 ((cs.drop f.2.1).take f.2.2)) → repF ty fz l fs cs
  | [], [], _, _ => by simp only [repF]
  | x :: l, f :: fs, hl, h => by
    simp only [repF]
    exact ⟨h 0 f x rfl rfl, repF_at (by simpa using hl) fun j g d hg hd => h (j + 1) g d (by simpa using hg) (by simpa using hd)⟩
  | [], _ :: _, hl, _ => by simp at hl
  | _ :: _, [], hl, _ => by simp at hl
theorem repA_at {e s : Nat} : ∀ {l : List Dt} {cs : List Value}, cs.length = l.length * s → (∀ j d, l[j]? = some d → rep ty fz d e ((cs.drop (j * s)).take s)) → repA ty fz l e s cs
  | [], cs, _, _ => by simp only [repA]
  | x :: l, cs, hl, h => by
    simp only [List.length_cons, Nat.add_mul, Nat.one_mul] at hl
    simp only [repA]
    refine ⟨⟨by omega, by simpa using h 0 x rfl⟩, repA_at (by rw [List.length_drop]; omega) fun j d hj => ?_⟩
    have := h (j + 1) d (by simpa using hj)
    rw [List.drop_drop]
    rwa [show s + j * s = (j + 1) * s by rw [Nat.add_mul]; omega]
theorem fieldsTD_at : ∀ {gs : List Field} {fs : List (Nat × Nat × Nat)}, fieldsTD P gs = some fs → ∀ {j : Nat} {f : Nat × Nat × Nat}, fs[j]? = some f → ∃ g, gs[j]? = some g ∧ g.type = f.1 ∧ g.offset = f.2.1 ∧ P.cellsOf g.type = f.2.2
  | [], fs, h, j, f, hf => by simp only [fieldsTD] at h; cases h; simp at hf
  | g :: gs, fs, h, j, f, hf => by
    simp only [fieldsTD] at h
    split at h
    · cases h
    · rename_i i hi
      split at h
      · cases h
      · rename_i r hr
        cases h
        cases j with
        | zero => simp at hf; subst hf; exact ⟨g, rfl, rfl, rfl, by simp [Program.cellsOf, hi]⟩
        | succ j =>
          obtain ⟨g', h1, h2⟩ := fieldsTD_at hr (j := j) (by simpa using hf)
          exact ⟨g', by simpa using h1, h2⟩
theorem fieldsTD_len : ∀ {gs : List Field} {fs : List (Nat × Nat × Nat)}, fieldsTD P gs = some fs → gs.length = fs.length
  | [], fs, h => by simp only [fieldsTD] at h; cases h; rfl
  | g :: gs, fs, h => by
    simp only [fieldsTD] at h
    split at h
    · cases h
    · split at h
      · cases h
      · rename_i r hr
        cases h
        simp [fieldsTD_len hr]
theorem mapM_len {α β : Type} {f : α → Option β} : ∀ {l : List α} {r : List β}, l.mapM f = some r → r.length = l.length
  | [], r, h => by simp at h; subst h; rfl
  | a :: l, r, h => by
    rw [List.mapM_cons] at h
    cases ha : f a with
    | none => simp [ha] at h
    | some b =>
      cases hl : l.mapM f with
      | none => simp [ha, hl] at h
      | some bs => simp [ha, hl] at h; subst h; simp [mapM_len hl]
theorem mapM_nth {α β : Type} {f : α → Option β} : ∀ {l : List α} {r : List β}, l.mapM f = some r → ∀ {i : Nat} {a : α}, l[i]? = some a → f a = r[i]?
  | [], r, h, i, a, ha => by simp at ha
  | x :: l, r, h, i, a, ha => by
    rw [List.mapM_cons] at h
    cases hx : f x with
    | none => simp [hx] at h
    | some b =>
      cases hl : l.mapM f with
      | none => simp [hx, hl] at h
      | some bs =>
        simp [hx, hl] at h
        subst h
        cases i with
        | zero => simp at ha; subst ha; simpa using hx
        | succ i => simpa using mapM_nth hl (i := i) (by simpa using ha)
theorem trod_array' {t e n : Nat} {H : Type} {enc : TypeId × Value → H} {w : World} {base : Nat} {spare : Nat → Bool} {held : Bool} {fuel : Nat} {cs : List Value} {x : DataW H × List MemPlace} (ht : P.underlying t = some (.array n e)) (h : DataW.trod enc P w base spare held fuel t cs = some x) :
    ∃ (m : Nat) (xs : List (DataW H × List MemPlace)), fuel = m + 1 ∧ x = (.agg (xs.map (·.1)), xs.flatMap (·.2)) ∧ cs.length = P.cellsOf t ∧ xs.length = n ∧ ∀ i, i < n → DataW.trod enc P w base spare held m e ((cs.drop (i * P.cellsOf e)).take (P.cellsOf e)) = xs[i]? := by
  cases fuel with
  | zero => simp [DataW.trod] at h
  | succ m =>
    unfold DataW.trod at h
    rw [ht] at h
    split at h <;> simp_all
    obtain ⟨hl, xs, hp, hd⟩ := h
    refine ⟨xs, hd.symm, by rw [mapM_len hp, List.length_range], fun i hi => ?_⟩
    exact mapM_nth hp (i := i) (a := i) (List.getElem?_range hi)
theorem rep_dtW (hty : TyOk P ty) {D : List TypeId} (hD : dataD ty D D = true) {H : Type} {enc : TypeId × Value → H} {w : World} {spare : Nat → Bool} {held : Bool} : ∀ (n : Nat) (t : TypeId) (cs : List Value) (x : DataW H × List MemPlace), t ∈ D → DataW.trod enc P w 0 spare held n t cs = some x → rep ty (fzH w) (dtW x.1) t cs := by
  intro n
  induction n with
  | zero => intro t cs x _ h; simp [DataW.trod] at h
  | succ n ih =>
    intro t cs x ht h
    have hin := dataD_mem hD t ht
    unfold dataIn at hin
    cases hte : ty.get t with
    | none => rw [hte] at hin; cases hin
    | some te =>
      rw [hte] at hin
      simp only at hin
      obtain ⟨dd, i, hu, hi, hmt, hs, hb, _⟩ := hty.info hte (D_noH hD ht hte)
      have htd : tdOf ty t = te.d := by simp [tdOf, hte]
      cases hd : te.d with
      | int k =>
        rw [hd] at hmt
        have := mkTD_int hmt
        subst this
        obtain ⟨m, rfl, rfl, hw⟩ := DataW.trod_int hu h
        simp only [Lit.wf, Bool.and_eq_true, decide_eq_true_eq] at hw
        simp only [dtW, rep]; exact .inl ⟨_, by rw [htd, hd], rfl, hw.1, hw.2⟩
      | bool =>
        rw [hd] at hmt
        have := mkTD_bool hmt
        subst this
        obtain ⟨b, rfl, rfl⟩ := DataW.trod_bool hu h
        simp only [dtW, rep]; exact ⟨by rw [htd, hd], trivial⟩
      | str =>
        rw [hd] at hmt
        have := mkTD_str hmt
        subst this
        obtain ⟨s, rfl, rfl, hl⟩ := DataW.trod_string hu h
        simp only [dtW, rep]
        refine ⟨by rw [htd, hd], ?_, ?_⟩
        · rfl
        · have : s.data.toList.length = s.size := Array.length_toList
          rw [this]
          unfold maxLen at hl
          omega
      | slice e s =>
        rw [hd] at hmt hin
        simp only [Bool.and_eq_true] at hin
        have he := memN_mem hin.1
        have hs0 := blt_nat hin.2
        simp only [TD.un, D_un hty hD he] at hmt
        obtain ⟨rfl, i', hi', hs'⟩ := mkTD_slice hmt
        have hce : P.cellsOf e = s := by simp [Program.cellsOf, hi', hs']
        rcases DataW.trod_slice hu h with ⟨rfl, rfl⟩ | ⟨ad, len, cap, elems, rest, m, hm, rfl, rfl, _, hlc, hcm, hlen, hel, _⟩
        · simp only [dtW, rep]; exact ⟨⟨e, s, by rw [htd, hd]⟩, trivial⟩
        · cases hm
          rw [hce] at hel
          have hget : ∀ j, j < len → ∃ cs' y, elems[j]? = some y ∧ w.cells? 0 (ad.add (j * s)) s = some cs' ∧ rep ty (fzH w) (dtW y.1) e cs' := by
            intro j hj
            have := hel j hj
            rw [List.getElem?_eq_getElem (by omega)] at this
            simp only [Option.bind_eq_some_iff] at this
            obtain ⟨cs', hc', hy'⟩ := this
            exact ⟨cs', elems[j], List.getElem?_eq_getElem (by omega), hc', ih e cs' _ he hy'⟩
          have hspot : 0 < len → ad.spot = none := by
            intro hl0
            obtain ⟨cs', _, _, hc', _⟩ := hget 0 hl0
            obtain ⟨_, hl', hcell⟩ := World.cells?_some hc'
            have := hcell 0 hs0
            rw [List.getElem?_eq_getElem (by omega)] at this
            simp only [Nat.zero_mul, Addr.add, if_true] at this
            unfold World.cell? at this
            split at this
            · split at this
              · cases this
              · rename_i hsp; simpa using hsp
            · cases this
          have helem : ∀ j d, (elems.map fun y => dtW y.1)[j]? = some d → ∃ cs, cs.length = s ∧ Lies (fzH w) ad.block (ad.off + j * s) cs ∧ rep ty (fzH w) d e cs := by
            intro j d hjd
            rw [List.getElem?_map, Option.map_eq_some_iff] at hjd
            obtain ⟨y0, hy0, rfl⟩ := hjd
            have hj : j < len := by have := (List.getElem?_eq_some_iff.1 hy0).1; omega
            have hsp := hspot (by omega)
            obtain ⟨cs', y1, hy1, hc', hr⟩ := hget j hj
            rw [hy0] at hy1
            cases hy1
            obtain ⟨_, hl', hcell⟩ := World.cells?_some hc'
            refine ⟨cs', hl', ?_, hr⟩
            intro m v hm
            have hlt := (List.getElem?_eq_some_iff.1 hm).1
            have hc2 := hcell m (by omega)
            rw [hm] at hc2
            cases ad
            simp only at hsp
            subst hsp
            rw [add_plain, add_plain] at hc2
            exact fzH_cell hc2
          have hrl := repL_at (ty := ty) (fz := fzH w) (b := ad.block) (e := e) (s := s) (off := ad.off) helem
          have hl : (elems.map fun y => dtW y.1).length = len := by rw [List.length_map]; exact hlen
          have hdt : dtW (DataW.slice (elems.map (·.1)) (rest.map (·.1))) = .row (elems.map fun y => dtW y.1) := by simp only [dtW, dtWs_map, List.map_map]; rfl
          show rep ty (fzH w) (dtW (DataW.slice (elems.map (·.1)) (rest.map (·.1)))) t _
          rw [hdt]
          simp only [rep]
          refine ⟨e, s, ad.block, ad.off, ad.spot, cap, by rw [htd, hd], by rw [hl], ?_, by rw [hl]; exact hlc, hrl, ?_⟩
          · rw [hl]
            unfold maxLen at hcm
            omega
          · by_cases h0 : len = 0
            · right; rw [h0] at hl; exact List.eq_nil_of_length_eq_zero hl
            · left; exact hspot (by omega)
      | struct fs q =>
        rw [hd] at hmt hin
        simp only [Bool.and_eq_true] at hin
        simp only [TD.un, D_unF hty hD hin.1] at hmt
        obtain ⟨gs, rfl, hfs, _⟩ := mkTD_struct hmt
        have hct : P.cellsOf t = te.size := by simp [Program.cellsOf, hi, hs]
        obtain ⟨_, c2, c3⟩ := contig_all hin.2
        obtain ⟨xs, m, hm, rfl, hlen, hxl, hxs⟩ := DataW.trod_struct hu h
        cases hm
        rw [hct] at hlen
        have hf : ∀ (j : Nat) f d, fs[j]? = some f → (xs.map fun y => dtW y.1)[j]? = some d → f.2.1 + f.2.2 ≤ cs.length ∧ rep ty (fzH w) d f.1 ((cs.drop f.2.1).take f.2.2) := by
          intro j f d hfj hdj
          obtain ⟨g, hg, q1, q2, q3⟩ := fieldsTD_at hfs hfj
          have hy := hxs j g (by rw [← Array.getElem?_toList]; exact hg)
          rw [List.getElem?_map, Option.map_eq_some_iff] at hdj
          obtain ⟨y, hyj, rfl⟩ := hdj
          rw [hyj, q3, q1, q2] at hy
          have hfm := List.mem_of_getElem? hfj
          exact ⟨by rw [hlen]; exact c2 f hfm, ih f.1 _ _ (allIn1_mem hin.1 f hfm) hy⟩
        have hfl : (xs.map fun y => dtW y.1).length = fs.length := by rw [List.length_map, hxl, ← Array.length_toList, fieldsTD_len hfs]
        have hl := repF_at hfl hf
        have hdt : dtW (DataW.agg (xs.map (·.1)) : DataW H) = .tup (xs.map fun y => dtW y.1) := by simp only [dtW, dtWs_map, List.map_map]; rfl
        show rep ty (fzH w) (dtW (DataW.agg (xs.map (·.1)))) t _
        rw [hdt]
        simp only [rep]
        refine ⟨⟨by simp [sizeT, hte, hlen], fun v hv => ?_⟩, .inl ⟨fs, q, by rw [htd, hd], hl⟩⟩
        obtain ⟨j, hj⟩ := List.getElem?_of_mem hv
        have hjl := (List.getElem?_eq_some_iff.1 hj).1
        obtain ⟨f, hf1, hf2, hf3⟩ := c3 j (Nat.zero_le _) (by omega)
        obtain ⟨jf, hjf⟩ := List.getElem?_of_mem hf1
        have hjl2 := (List.getElem?_eq_some_iff.1 hjf).1
        obtain ⟨_, hr⟩ := hf jf f _ hjf (List.getElem?_eq_getElem (by rw [hfl]; exact hjl2))
        refine rep_one hr v (List.mem_of_getElem? (i := j - f.2.1) ?_)
        rw [List.getElem?_take, if_pos (by omega), List.getElem?_drop, show f.2.1 + (j - f.2.1) = j by omega]
        exact hj
      | arr m e s =>
        rw [hd] at hmt hin
        simp only [Bool.and_eq_true] at hin
        have he := memN_mem hin.1
        have hsz := beq_nat hin.2
        simp only [TD.un, D_un hty hD he] at hmt
        obtain ⟨rfl, i', hi', hs'⟩ := mkTD_arr hmt
        have hce : P.cellsOf e = s := by simp [Program.cellsOf, hi', hs']
        have hct : P.cellsOf t = te.size := by simp [Program.cellsOf, hi, hs]
        obtain ⟨k, xs, hk, rfl, hlen, hxl, hall⟩ := trod_array' hu h
        cases hk
        rw [hct, hsz] at hlen
        have hf : ∀ j d, (xs.map fun y => dtW y.1)[j]? = some d → rep ty (fzH w) d e ((cs.drop (j * s)).take s) := by
          intro j d hdj
          rw [List.getElem?_map, Option.map_eq_some_iff] at hdj
          obtain ⟨y, hyj, rfl⟩ := hdj
          have hjm : j < m := by have := (List.getElem?_eq_some_iff.1 hyj).1; omega
          have hy := hall j hjm
          rw [hce, hyj] at hy
          exact ih e _ _ he hy
        have hl : (xs.map fun y => dtW y.1).length = m := by rw [List.length_map, hxl]
        have hr := repA_at (by rw [hl]; exact hlen) hf
        have hdt : dtW (DataW.agg (xs.map (·.1)) : DataW H) = .tup (xs.map fun y => dtW y.1) := by simp only [dtW, dtWs_map, List.map_map]; rfl
        show rep ty (fzH w) (dtW (DataW.agg (xs.map (·.1)))) t _
        rw [hdt]
        simp only [rep]
        refine ⟨⟨by simp [sizeT, hte, hsz, hlen], fun v hv => ?_⟩, .inr ⟨m, e, s, by rw [htd, hd], hl, hr⟩⟩
        obtain ⟨j, hj⟩ := List.getElem?_of_mem hv
        have hjl := (List.getElem?_eq_some_iff.1 hj).1
        by_cases hs0 : s = 0
        · subst hs0; omega
        · have hq : j / s < m := Nat.div_lt_of_lt_mul (by rw [Nat.mul_comm]; omega)
          have hr := hf (j / s) _ (List.getElem?_eq_getElem (by rw [hl]; exact hq))
          refine rep_one hr v (List.mem_of_getElem? (i := j % s) ?_)
          rw [List.getElem?_take, if_pos (Nat.mod_lt _ (by omega)), List.getElem?_drop, Nat.mul_comm, Nat.div_add_mod]
          exact hj
      | ptr e => rw [hd] at hin; cases hin
      | map k e => rw [hd] at hin; cases hin
      | func => rw [hd] at hin; cases hin
      | iface => rw [hd] at hin; cases hin
      | hnd _ _ => rw [hd] at hin; cases hin
      | prow _ _ => rw [hd] at hin; cases hin
      | other => rw [hd] at hin; cases hin
mutual
def flatC (ty : Ty) : Dt → TypeId → Option (List SV)
  | .num n, t => match tdOf ty t with
    | .int k => some [.int k (.n n)]
    | _ => none
  | .tru b, t => match tdOf ty t with
    | .bool => some [.bool (.c b)]
    | _ => none
  | .byt s, t => match tdOf ty t with
    | .str => some [.str (.d (.byt s))]
    | _ => none
  | .tup l, t => match tdOf ty t with
    | .struct fs _ => match sizeT ty t with
      | some n => bif contig fs 0 n then flatF ty l fs else none
      | none => none
    | .arr _ e s => match sizeT ty t with
      | some n => bif Nat.beq n (l.length * s) then flatA ty l e s else none
      | none => none
    | _ => none
  | _, _ => none
def flatF (ty : Ty) : List Dt → List (Nat × Nat × Nat) → Option (List SV)
  | [], [] => some []
  | x :: l, f :: fs => match flatC ty x f.1, flatF ty l fs with
    | some a, some b => bif Nat.beq a.length f.2.2 then some (a ++ b) else none
    | _, _ => none
  | _, _ => none
def flatA (ty : Ty) : List Dt → TypeId → Nat → Option (List SV)
  | [], _, _ => some []
  | x :: l, e, s => match flatC ty x e, flatA ty l e s with
    | some a, some b => bif Nat.beq a.length s then some (a ++ b) else none
    | _, _ => none
end
mutual
theorem flatC_ok : ∀ {d : Dt} {t : TypeId} {l : List SV} {cs : List Value}, flatC ty d t = some l → rep ty fz d t cs → cs = SV.dens E0 l ∧ ∀ v ∈ l, v.wf 0 0 = true ∧ v.cell = true ∧ v.ty E0
  | .num n, t, l, cs, h, hr => by
    simp only [flatC] at h
    split at h
    · rename_i k hk
      cases h
      simp only [rep] at hr
      rcases hr with ⟨k', h1, h2, h3, h4⟩ | ⟨e, s, V, h1, _⟩
      · rw [hk] at h1; cases h1
        refine ⟨by rw [h2]; rfl, fun v hv => ?_⟩
        simp only [List.mem_singleton] at hv
        subst hv
        exact ⟨rfl, rfl, _, rfl, h3, h4⟩
      · rw [hk] at h1; cases h1
    · cases h
  | .tru b, t, l, cs, h, hr => by
    simp only [flatC] at h
    split at h
    · cases h
      simp only [rep] at hr
      refine ⟨by rw [hr.2]; rfl, fun v hv => ?_⟩
      simp only [List.mem_singleton] at hv
      subst hv
      exact ⟨rfl, rfl, trivial⟩
    · cases h
  | .byt s, t, l, cs, h, hr => by
    simp only [flatC] at h
    split at h
    · cases h
      simp only [rep] at hr
      refine ⟨by rw [hr.2.1]; rfl, fun v hv => ?_⟩
      simp only [List.mem_singleton] at hv
      subst hv
      exact ⟨rfl, rfl, _, rfl, hr.2.2⟩
    · cases h
  | .tup l, t, r, cs, h, hr => by
    simp only [flatC] at h
    simp only [rep] at hr
    split at h
    · rename_i fs q hfs
      split at h
      · rename_i n hn
        cases hc : contig fs 0 n <;> rw [hc] at h <;> simp only [cond_true, cond_false] at h
        · cases h
        · obtain ⟨⟨hs, _⟩, hr⟩ := hr
          rw [hn] at hs
          cases hs
          rcases hr with ⟨fs', q', h1, h2⟩ | ⟨_, e, s, h1, _⟩
          · rw [hfs] at h1; cases h1
            have := flatF_ok (off := 0) h h2 hc
            rwa [List.drop_zero] at this
          · rw [hfs] at h1; cases h1
      · cases h
    · rename_i m e s ht
      obtain ⟨⟨hs, _⟩, hr⟩ := hr
      rcases hr with ⟨fs', q', h1, h2⟩ | ⟨n', e', s', h1, h2, h3⟩
      · rw [ht] at h1; cases h1
      · rw [ht] at h1; cases h1
        split at h
        · rename_i n hn
          cases hc : Nat.beq n (l.length * s) <;> rw [hc] at h <;> simp only [cond_true, cond_false] at h
          · cases h
          · rw [hn] at hs
            cases hs
            have hk := flatA_ok h h3
            rwa [← beq_nat hc, List.take_length] at hk
        · cases h
    · cases h
  | .nil, _, _, _, h, _ => by simp only [flatC] at h; cases h
  | .row _, _, _, _, h, _ => by simp only [flatC] at h; cases h
theorem flatF_ok : ∀ {l : List Dt} {fs : List (Nat × Nat × Nat)} {r : List SV} {cs : List Value} {off : Nat}, flatF ty l fs = some r → repF ty fz l fs cs → contig fs off cs.length = true → cs.drop off = SV.dens E0 r ∧ ∀ v ∈ r, v.wf 0 0 = true ∧ v.cell = true ∧ v.ty E0
  | [], [], r, cs, off, h, hr, hc => by
    simp only [flatF] at h; cases h
    have := beq_nat hc
    subst this
    exact ⟨by simp [SV.dens], fun v hv => nomatch hv⟩
  | x :: l, f :: fs, r, cs, off, h, hr, hc => by
    simp only [flatF] at h
    simp only [contig, Bool.and_eq_true] at hc
    have ho := beq_nat hc.1
    split at h
    · rename_i a b ha hb
      cases hl : Nat.beq a.length f.2.2 <;> rw [hl] at h <;> simp only [cond_true, cond_false] at h
      · cases h
      · cases h
        simp only [repF] at hr
        obtain ⟨q1, q2⟩ := flatC_ok ha hr.1.2
        obtain ⟨q3, q4⟩ := flatF_ok hb hr.2 hc.2
        refine ⟨?_, fun v hv => (List.mem_append.1 hv).elim (q2 v) (q4 v)⟩
        rw [dens_append, ← q1, ← q3, ho]
        rw [← List.drop_drop]
        exact (List.take_append_drop _ _).symm
    · cases h
  | [], _ :: _, _, _, _, h, _, _ => by simp only [flatF] at h; cases h
  | _ :: _, [], _, _, _, h, _, _ => by simp only [flatF] at h; cases h
theorem flatA_ok : ∀ {l : List Dt} {e s : Nat} {r : List SV} {cs : List Value}, flatA ty l e s = some r → repA ty fz l e s cs → cs.take (l.length * s) = SV.dens E0 r ∧ ∀ v ∈ r, v.wf 0 0 = true ∧ v.cell = true ∧ v.ty E0
  | [], e, s, r, cs, h, hr => by
    simp only [flatA] at h; cases h
    exact ⟨by simp [SV.dens], fun v hv => nomatch hv⟩
  | x :: l, e, s, r, cs, h, hr => by
    simp only [flatA] at h
    split at h
    · rename_i a b ha hb
      cases hl : Nat.beq a.length s <;> rw [hl] at h <;> simp only [cond_true, cond_false] at h
      · cases h
      · cases h
        simp only [repA] at hr
        obtain ⟨q1, q2⟩ := flatC_ok ha hr.1.2
        obtain ⟨q3, q4⟩ := flatA_ok hb hr.2
        refine ⟨?_, fun v hv => (List.mem_append.1 hv).elim (q2 v) (q4 v)⟩
        rw [dens_append, ← q1, ← q3, List.length_cons, Nat.add_mul, Nat.one_mul, Nat.add_comm (l.length * s) s, List.take_add]
    · cases h
end
theorem laid_at {w : World} : ∀ {l : List (String × DataW Unit)} {ps : List MemPlace}, DataW.LaidVars P w l ps → ∀ {nm : String} {d : DataW Unit}, (nm, d) ∈ l → ∃ g t cs fuel p, P.globalNamed nm = some g ∧ (P.globals[g]?).map (·.type) = some t ∧ w.var? P nm = some cs ∧ DataW.trod (fun _ => ()) P w 0 (fun _ => true) false fuel t cs.toList = some (d, p)
  | (n, d') :: r, ps, h, nm, d, hm => by
    obtain ⟨g, t, cs, fuel, p, q, h1, h2, h3, h4, h5, _⟩ := h
    rcases List.mem_cons.1 hm with he | hm
    · cases he; exact ⟨g, t, cs, fuel, p, h1, h2, h3, h4⟩
    · exact laid_at h5 hm
  | [], _, _, _, _, hm => nomatch hm
structure Lvar where
  g : Nat
  t : TypeId
  nm : String
  d : DataW Unit
structure Lvar.Ok (P : Program) (x : Lvar) : Prop where
  gn : P.globalNamed x.nm = some x.g
  gt : (P.globals[x.g]?).map (·.type) = some x.t
theorem laid_rep (hty : TyOk P ty) {D : List TypeId} (hD : dataD ty D D = true) {w : World} {laid : List (String × DataW Unit)} (h : laidMet P laid w) {x : Lvar} (hx : x.Ok P) (hm : (x.nm, x.d) ∈ laid) (ht : memN x.t D = true) : ∃ cs, Lies (fzH w) x.g 0 cs ∧ rep ty (fzH w) (dtW x.d) x.t cs := by
  obtain ⟨ps, hl, _⟩ := h
  obtain ⟨g, t, cs, fuel, p, h1, h2, h3, h4⟩ := laid_at hl hm
  rw [hx.gn] at h1; cases h1
  rw [hx.gt] at h2; cases h2
  refine ⟨cs.toList, fun j v hj => ?_, rep_dtW hty hD _ _ _ _ (memN_mem ht) h4⟩
  refine fzH_cell ?_
  rw [World.var?_cell hx.gn h3, Nat.zero_add, ← Array.getElem?_toList]
  exact hj
def flOf (ty : Ty) : List Lvar → List (Nat × List SV)
  | [] => []
  | x :: l => (x.g, (flatC ty (dtW x.d) x.t).getD []) :: flOf ty l
def dtOf : List Lvar → List (Nat × TypeId × Dt)
  | [] => []
  | x :: l => (x.g, x.t, dtW x.d) :: dtOf l
theorem gok_of_laid (hty : TyOk P ty) {D : List TypeId} (hD : dataD ty D D = true) {w : World} {laid : List (String × DataW Unit)} (h : laidMet P laid w) {fl dt : List Lvar} (hfl : ∀ x ∈ fl, x.Ok P ∧ (x.nm, x.d) ∈ laid ∧ memN x.t D = true) (hdt : ∀ x ∈ dt, x.Ok P ∧ (x.nm, x.d) ∈ laid ∧ memN x.t D = true) : GOk ty ⟨flOf ty fl, dtOf dt⟩ (fzH w) := by
  refine ⟨?_, ?_⟩
  · intro g off n l hl j v hj
    simp only at hl
    clear hdt
    induction fl with
    | nil => simp only [flOf, rdGl] at hl; cases hl
    | cons x fl ih =>
      simp only [flOf, rdGl] at hl
      cases hb : Nat.beq x.g g <;> rw [hb] at hl <;> simp only [cond_true, cond_false] at hl
      · exact ih (fun y hy => hfl y (.tail _ hy)) hl
      · have := beq_nat hb
        subst this
        obtain ⟨h1, h2, h3⟩ := hfl x (.head _)
        obtain ⟨cs, q1, q2⟩ := laid_rep hty hD h h1 h2 h3
        rw [dropN_eq] at hl
        obtain ⟨_, rfl⟩ := takeN_eq _ _ _ hl
        rw [List.getElem?_take] at hj
        split at hj
        · rw [List.getElem?_drop] at hj
          cases hf : flatC ty (dtW x.d) x.t with
          | none => rw [hf] at hj; simp at hj
          | some r =>
            rw [hf] at hj
            simp only [Option.getD_some] at hj
            obtain ⟨q3, q4⟩ := flatC_ok hf q2
            obtain ⟨a1, a2, a3⟩ := q4 v (List.mem_of_getElem? hj)
            refine ⟨a1, a2, a3, ?_⟩
            have := q1 (off + j) (v.den E0) (by rw [q3, dens_getElem?, hj]; rfl)
            rwa [Nat.zero_add] at this
        · cases hj
  · intro g t y hg
    simp only at hg
    clear hfl
    induction dt with
    | nil => simp only [dtOf, gdOf] at hg; cases hg
    | cons x dt ih =>
      simp only [dtOf, gdOf] at hg
      cases hb : Nat.beq x.g g <;> rw [hb] at hg <;> simp only [cond_true, cond_false] at hg
      · exact ih (fun y hy => hdt y (.tail _ hy)) hg
      · have := beq_nat hb
        subst this
        cases hg
        obtain ⟨h1, h2, h3⟩ := hdt x (.head _)
        exact laid_rep hty hD h h1 h2 h3
end
end Go.SY
set_option linter.unusedVariables false
set_option linter.unusedSimpArgs false
namespace Go.SY
open Go Go.RowKit Go.ChangeShapes
noncomputable section
theorem law_callsW {X : Pg} (hX : X.Ok) {D : List TypeId} (hD : dataD X.ty D D = true) (K : Kids X.P (· < X.P.types.size)) (hz : ∀ t e, t < X.P.types.size → X.P.underlying t = some (.slice e) → 0 < X.P.cellsOf e)
    {f g tb : Nat} {fn : Func} {c : Code} {s : ChangeSpec} (hf : X.P.funcs[f]? = some fn) (hb : fn.body = some c) (hn : (fn.name == "runtime.NumGoroutine") = false)
    (hps : (fn.params.toList.all fun t => memN t D) = true) (hps2 : (fn.params.toList.all fun t => Nat.blt t X.P.types.size) = true) (hrs : fn.resultTypes = #[tb]) (hub : X.P.underlying tb = some .bool) (htb : tdOf X.ty tb = .bool) (hab : aggB X.ty tb = false)
    (hvars : s.vars = []) {H : Type} {enc : TypeId × Value → H} (hspec : ∀ (ds : List (DataW H)), ds.length = fn.params.size → s.fn H ds = { results := [.lit (.bool true)], args := ds, vars := [] })
    (con : Ent X (f, g, ⟨fn.params.toList.map .dat, [], ⟨[.dat tb], []⟩, none⟩, trueS))
    (W : World) (hg : GOk X.ty X.gl (fzH W)) (base : Nat) (args : Array Value) (ds gs : List (DataW H)) (before : List MemPlace) (hval : ∀ (j : Nat) t v, fn.params[j]? = some t → args[j]? = some v → Value.okWide X.P W .any base t v) (hW : DataW.Whole enc X.P fn.params.toList s.vars false W args.toList ds gs before) :
    Calls X.P f args W fun e W' => ∃ v, e = .returned v ∧ s.post enc X.P fn false true false false W args v W' := by
  have hW0 := hW
  obtain ⟨p, q, hA, hV, rfl, hfz, hnd⟩ := hW
  rw [hvars] at hV
  obtain ⟨rfl, rfl⟩ := trodVars_none hV
  obtain ⟨xs, hxs⟩ := shrl_of_trod hX.ty hD (w := W) (β := fun _ => none) (fun t ht => allMem_mem hps t ht) (fun j t v hj hv => hval j t v (by rw [← Array.getElem?_toList]; exact hj) (by rw [← Array.getElem?_toList]; exact hv)) hA
  have hcall := calls_of_sem hf hb hn (con.1 (fzH W) W (fun _ => none) args.toList xs [] [] [] (fun c r => c = 0 ∧ r = [.tru true]) hg (fzH_in W) hxs (by simp only [BlR]; exact ⟨trivial, trivial⟩) (by simp) (by simp) (fun _ _ h => nomatch h) ⟨rfl, rfl⟩)
  rw [Array.toArray_toList] at hcall
  refine Calls.mono hcall fun e W' he => ?_
  cases e with
  | returned v =>
    obtain ⟨rs, ⟨_, rfl⟩, ha⟩ := he
    obtain ⟨rfl, hbl⟩ := true_of_aft htb hab ha
    have hlen : (ds ++ ([] : List (DataW H))).length = fn.params.size := by rw [List.append_nil, trodAll_len hA, Array.length_toList]
    have hs := hspec _ hlen
    refine ⟨_, rfl, ds, [], _, [], p, [], hW0, ?_, ?_, ?_, World.keptBut_mono (fun _ h => h.elim) (keptBut_of_belw hbl), fun h => by cases h⟩
    · rw [hs, hrs]
      exact trodAll_mk1 (shut_bool hub true)
    · rw [hs]
      simp only [List.append_nil]
      refine trodAll_belw hbl (DataW.TrodAll.respare K hz (fun t ht => allLt_mem hps2 t ht) hA fun pl hp => ?_)
      exact decide_eq_true (hA.lt pl hp)
    · rw [hs, hvars]
      rfl
  | panicked chain =>
    obtain ⟨v, _, o, rs, hp, _⟩ := he
    cases hp
  | outgrown => exact he.elim
end
end Go.SY
