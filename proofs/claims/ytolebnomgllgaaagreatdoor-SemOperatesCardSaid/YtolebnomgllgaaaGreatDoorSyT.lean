/- The symbolic executor SY: what the kit's rows read as data is data of the executor, in the memory as it is at the call. -/
import Derived.Test.YtolebnomgllgaaaGreatDoorSyS29
import Derived.ChangeReads
import Derived.ChangeOld
import Derived.ChangeShapes
import Derived.ChangeArms
import Derived.Handed
set_option linter.unusedVariables false
set_option linter.unusedSimpArgs false
namespace Go.SY
open Go Go.RowKit
noncomputable section
def fzH (w : World) : Fz
  | .b k => w.heap[k]?
  | .h _ => none
theorem fzH_in (w : World) : FzIn (fzH w) w := fun _ _ h => h
theorem fzH_cell {w : World} {b off : Nat} {v : Value} (h : w.cell? ⟨b, off, none⟩ = some v) : fzCell (fzH w) b off = some v := by
  unfold World.cell? at h
  unfold fzCell
  simp only [fzH]
  split at h
  · rename_i c _ _ hh
    simp only at hh
    rw [hh]
    simpa [cellOf] using h
  · cases h
def contig : List (Nat × Nat × Nat) → Nat → Nat → Bool
  | [], off, n => Nat.beq off n
  | f :: fs, off, n => Nat.beq f.2.1 off && contig fs (off + f.2.2) n
def allIn1 (D : List TypeId) : List (Nat × Nat × Nat) → Bool
  | [] => true
  | f :: fs => memN f.1 D && allIn1 D fs
def dataIn (ty : Ty) (D : List TypeId) (t : TypeId) : Bool := match ty.get t with
  | some i => match i.d with
    | .int _ | .bool | .str => true
    | .slice e s => memN e D && Nat.blt 0 s
    | .struct fs _ => allIn1 D fs && contig fs 0 i.size
    | .arr n e s => memN e D && Nat.beq i.size (n * s)
    | _ => false
  | none => false
def dataD (ty : Ty) (D : List TypeId) : List TypeId → Bool
  | [] => true
  | t :: l => dataIn ty D t && dataD ty D l
theorem memN_mem {x : Nat} : ∀ {l : List Nat}, memN x l = true → x ∈ l
  | [], h => by cases h
  | y :: l, h => by
    simp only [memN, Bool.or_eq_true] at h
    rcases h with h | h
    · rw [beq_nat h]; exact .head _
    · exact .tail _ (memN_mem h)
theorem dataD_mem {ty : Ty} {D : List TypeId} : ∀ {l : List TypeId}, dataD ty D l = true → ∀ t ∈ l, dataIn ty D t = true
  | [], _, t, ht => nomatch ht
  | x :: l, h, t, ht => by
    simp only [dataD, Bool.and_eq_true] at h
    rcases List.mem_cons.1 ht with rfl | ht
    · exact h.1
    · exact dataD_mem h.2 t ht
theorem allIn1_mem {D : List TypeId} : ∀ {fs : List (Nat × Nat × Nat)}, allIn1 D fs = true → ∀ f ∈ fs, f.1 ∈ D
  | [], _, f, hf => nomatch hf
  | x :: fs, h, f, hf => by
    simp only [allIn1, Bool.and_eq_true] at h
    rcases List.mem_cons.1 hf with rfl | hf
    · exact memN_mem h.1
    · exact allIn1_mem h.2 f hf
theorem contig_all : ∀ {fs : List (Nat × Nat × Nat)} {off n : Nat}, contig fs off n = true → off ≤ n ∧ (∀ f ∈ fs, f.2.1 + f.2.2 ≤ n) ∧ ∀ j, off ≤ j → j < n → ∃ f ∈ fs, f.2.1 ≤ j ∧ j < f.2.1 + f.2.2
  | [], off, n, h => by
    have := beq_nat h
    subst this
    exact ⟨Nat.le_refl _, (fun f hf => nomatch hf), fun j h1 h2 => by omega⟩
  | f :: fs, off, n, h => by
    simp only [contig, Bool.and_eq_true] at h
    have h1 := beq_nat h.1
    obtain ⟨i1, i2, i3⟩ := contig_all h.2
    refine ⟨by omega, fun g hg => ?_, fun j k1 k2 => ?_⟩
    · rcases List.mem_cons.1 hg with rfl | hg
      · omega
      · exact i2 g hg
    · by_cases hj : j < off + f.2.2
      · exact ⟨f, .head _, by omega, by omega⟩
      · obtain ⟨g, hg, q⟩ := i3 j (by omega) k2
        exact ⟨g, .tail _ hg, q⟩
theorem mapM_all {α β : Type} {f : α → Option β} : ∀ {l : List α} {r : List β}, l.mapM f = some r → ∀ x ∈ l, ∃ y, f x = some y
  | [], _, _, x, hx => nomatch hx
  | a :: l, r, h, x, hx => by
    rw [List.mapM_cons] at h
    cases ha : f a with
    | none => simp [ha] at h
    | some b =>
      cases hl : l.mapM f with
      | none => simp [ha, hl] at h
      | some bs =>
        rcases List.mem_cons.1 hx with rfl | hx
        · exact ⟨b, ha⟩
        · exact mapM_all hl x hx
variable {ty : Ty} {pl : Bool} {P : Program} {fz : Fz}
theorem repL_of {b e s : Nat} : ∀ (n : Nat) {off : Nat}, (∀ i, i < n → ∃ d cs, cs.length = s ∧ Lies fz b (off + i * s) cs ∧ rep ty fz d e cs) → ∃ l : List Dt, l.length = n ∧ repL ty fz l e s b off
  | 0, off, _ => ⟨[], rfl, by simp only [repL]⟩
  | n + 1, off, h => by
    obtain ⟨d, cs, h1, h2, h3⟩ := h 0 (by omega)
    obtain ⟨l, h4, h5⟩ := repL_of n (off := off + s) fun i hi => by
      have := h (i + 1) (by omega)
      rwa [show off + (i + 1) * s = off + s + i * s by rw [Nat.add_mul]; omega] at this
    refine ⟨d :: l, by simp [h4], ?_⟩
    simp only [repL]
    exact ⟨⟨cs, h1, by simpa using h2, h3⟩, h5⟩
theorem repF_of {cs : List Value} : ∀ {fs : List (Nat × Nat × Nat)}, (∀ f ∈ fs, f.2.1 + f.2.2 ≤ cs.length ∧ ∃ d, rep ty fz d f.1 ((cs.drop f.2.1).take f.2.2)) → ∃ l, repF ty fz l fs cs
  | [], _ => ⟨[], by simp only [repF]⟩
  | f :: fs, h => by
    obtain ⟨h1, d, h2⟩ := h f (.head _)
    obtain ⟨l, h3⟩ := repF_of fun g hg => h g (.tail _ hg)
    refine ⟨d :: l, ?_⟩
    simp only [repF]
    exact ⟨⟨h1, h2⟩, h3⟩
theorem repA_of {e s : Nat} : ∀ (n : Nat) {cs : List Value}, cs.length = n * s → (∀ i, i < n → ∃ d, rep ty fz d e ((cs.drop (i * s)).take s)) → ∃ l : List Dt, l.length = n ∧ repA ty fz l e s cs
  | 0, cs, _, _ => ⟨[], rfl, by simp only [repA]⟩
  | n + 1, cs, hl, h => by
    rw [Nat.add_mul] at hl
    obtain ⟨d, h1⟩ := h 0 (by omega)
    obtain ⟨l, h2, h3⟩ := repA_of (e := e) (s := s) n (cs := cs.drop s) (by rw [List.length_drop]; omega) fun i hi => by
      have := h (i + 1) (by omega)
      rwa [List.drop_drop, show s + i * s = (i + 1) * s by rw [Nat.add_mul]; omega]
    refine ⟨d :: l, by simp [h2], ?_⟩
    simp only [repA]
    exact ⟨⟨by omega, by simpa using h1⟩, h3⟩
theorem fieldsTD_mem : ∀ {gs : List Field} {fs : List (Nat × Nat × Nat)}, fieldsTD P gs = some fs → ∀ f ∈ fs, ∃ g ∈ gs, g.type = f.1 ∧ g.offset = f.2.1 ∧ P.cellsOf g.type = f.2.2
  | [], fs, h, f, hf => by simp only [fieldsTD] at h; cases h; cases hf
  | g :: gs, fs, h, f, hf => by
    simp only [fieldsTD] at h
    split at h
    · cases h
    · rename_i j hj
      split at h
      · cases h
      · rename_i r hr
        cases h
        rcases List.mem_cons.1 hf with rfl | hf
        · exact ⟨g, .head _, rfl, rfl, by simp [Program.cellsOf, hj]⟩
        · obtain ⟨g', h1, h2⟩ := fieldsTD_mem hr f hf
          exact ⟨g', .tail _ h1, h2⟩
theorem trod_array {t e n : Nat} {H : Type} {enc : TypeId × Value → H} {w : World} {base : Nat} {spare : Nat → Bool} {held : Bool} {fuel : Nat} {cs : List Value} {x : DataW H × List MemPlace} (ht : P.underlying t = some (.array n e)) (h : DataW.trod enc P w base spare held fuel t cs = some x) :
    ∃ m, fuel = m + 1 ∧ cs.length = P.cellsOf t ∧ ∀ i, i < n → ∃ y, DataW.trod enc P w base spare held m e ((cs.drop (i * P.cellsOf e)).take (P.cellsOf e)) = some y := by
  cases fuel with
  | zero => simp [DataW.trod] at h
  | succ m =>
    unfold DataW.trod at h
    rw [ht] at h
    split at h <;> simp_all
    obtain ⟨hl, xs, hp, hd⟩ := h
    intro i hi
    obtain ⟨y, hy⟩ := mapM_all hp i (List.mem_range.2 hi)
    exact ⟨y.1, y.2, hy⟩
theorem D_noH {D : List TypeId} (hD : dataD ty D D = true) {t : TypeId} (ht : t ∈ D) {te : TE} (hte : ty.get t = some te) : te.d.isH = false := by
  have hin := dataD_mem hD t ht
  simp only [dataIn, hte] at hin
  cases hb : te.d.isH
  · rfl
  · exfalso
    cases hd : te.d <;> rw [hd] at hb hin <;> first | (cases hb; done) | cases hin
theorem D_un (hty : TyOk P ty) {D : List TypeId} (hD : dataD ty D D = true) {t : TypeId} (ht : t ∈ D) : un t = t := by
  have hin := dataD_mem hD t ht
  cases hte : ty.get t with
  | none => simp [dataIn, hte] at hin
  | some te => exact hty.un hte (D_noH hD ht hte)
theorem D_unF (hty : TyOk P ty) {D : List TypeId} (hD : dataD ty D D = true) : ∀ {fs : List (Nat × Nat × Nat)}, allIn1 D fs = true → unF fs = fs
  | [], _ => rfl
  | f :: fs, h => by
    simp only [allIn1, Bool.and_eq_true] at h
    simp only [unF, D_un hty hD (memN_mem h.1), D_unF hty hD h.2]
theorem rep_of_trod (hty : TyOk P ty) {D : List TypeId} (hD : dataD ty D D = true) {H : Type} {enc : TypeId × Value → H} {w : World} {spare : Nat → Bool} {held : Bool} : ∀ (n : Nat) (t : TypeId) (cs : List Value) (x : DataW H × List MemPlace), t ∈ D → DataW.trod enc P w 0 spare held n t cs = some x → ∃ d, rep ty (fzH w) d t cs := by
  intro n
  induction n with
  | zero => intro t cs x _ h; simp [DataW.trod] at h
  | succ n ih =>
    intro t cs x ht h
    have hin := dataD_mem hD t ht
    unfold dataIn at hin
    cases hte : ty.get t with
    | none => rw [hte] at hin; cases hin
    | some te =>
      rw [hte] at hin
      simp only at hin
      obtain ⟨dd, i, hu, hi, hmt, hs, hb, _⟩ := hty.info hte (D_noH hD ht hte)
      have htd : tdOf ty t = te.d := by simp [tdOf, hte]
      cases hd : te.d with
      | int k =>
        rw [hd] at hmt
        have := mkTD_int hmt
        subst this
        obtain ⟨m, rfl, _, hw⟩ := DataW.trod_int hu h
        simp only [Lit.wf, Bool.and_eq_true, decide_eq_true_eq] at hw
        exact ⟨.num m, by simp only [rep]; exact .inl ⟨_, by rw [htd, hd], rfl, hw.1, hw.2⟩⟩
      | bool =>
        rw [hd] at hmt
        have := mkTD_bool hmt
        subst this
        obtain ⟨b, rfl, _⟩ := DataW.trod_bool hu h
        exact ⟨.tru b, by simp only [rep]; exact ⟨by rw [htd, hd], trivial⟩⟩
      | str =>
        rw [hd] at hmt
        have := mkTD_str hmt
        subst this
        obtain ⟨s, rfl, _, hl⟩ := DataW.trod_string hu h
        refine ⟨.byt s.data.toList, ?_⟩
        simp only [rep]
        refine ⟨by rw [htd, hd], ?_, ?_⟩
        · rfl
        · have : s.data.toList.length = s.size := Array.length_toList
          rw [this]
          unfold maxLen at hl
          omega
      | slice e s =>
        rw [hd] at hmt hin
        simp only [Bool.and_eq_true] at hin
        have he := memN_mem hin.1
        have hs0 := blt_nat hin.2
        simp only [TD.un, D_un hty hD he] at hmt
        obtain ⟨rfl, i', hi', hs'⟩ := mkTD_slice hmt
        have hce : P.cellsOf e = s := by simp [Program.cellsOf, hi', hs']
        rcases DataW.trod_slice hu h with ⟨rfl, _⟩ | ⟨ad, len, cap, elems, rest, m, hm, rfl, _, _, hlc, hcm, hlen, hel, _⟩
        · exact ⟨.nil, by simp only [rep]; exact ⟨⟨e, s, by rw [htd, hd]⟩, trivial⟩⟩
        · cases hm
          rw [hce] at hel
          have hget : ∀ j, j < len → ∃ cs', w.cells? 0 (ad.add (j * s)) s = some cs' ∧ ∃ d, rep ty (fzH w) d e cs' := by
            intro j hj
            have := hel j hj
            rw [List.getElem?_eq_getElem (by omega)] at this
            simp only [Option.bind_eq_some_iff] at this
            obtain ⟨cs', hc', hy'⟩ := this
            exact ⟨cs', hc', ih e cs' _ he hy'⟩
          have hspot : 0 < len → ad.spot = none := by
            intro hl0
            obtain ⟨cs', hc', _⟩ := hget 0 hl0
            obtain ⟨_, hl', hcell⟩ := World.cells?_some hc'
            have := hcell 0 hs0
            rw [List.getElem?_eq_getElem (by omega)] at this
            simp only [Nat.zero_mul, Addr.add, if_true] at this
            unfold World.cell? at this
            split at this
            · split at this
              · cases this
              · rename_i hsp; simpa using hsp
            · cases this
          have helem : ∀ j, j < len → ∃ d cs, cs.length = s ∧ Lies (fzH w) ad.block (ad.off + j * s) cs ∧ rep ty (fzH w) d e cs := by
            intro j hj
            have hsp := hspot (by omega)
            obtain ⟨cs', hc', d, hr⟩ := hget j hj
            obtain ⟨_, hl', hcell⟩ := World.cells?_some hc'
            refine ⟨d, cs', hl', ?_, hr⟩
            intro m v hm
            have hlt := (List.getElem?_eq_some_iff.1 hm).1
            have hc2 := hcell m (by omega)
            rw [hm] at hc2
            cases ad
            simp only at hsp
            subst hsp
            rw [add_plain, add_plain] at hc2
            exact fzH_cell hc2
          obtain ⟨l, hl, hrl⟩ := repL_of (ty := ty) (fz := fzH w) (b := ad.block) (e := e) (s := s) len (off := ad.off) helem
          refine ⟨.row l, ?_⟩
          simp only [rep]
          refine ⟨e, s, ad.block, ad.off, ad.spot, cap, by rw [htd, hd], by rw [hl], ?_, by rw [hl]; exact hlc, hrl, ?_⟩
          · rw [hl]
            unfold maxLen at hcm
            omega
          · by_cases h0 : len = 0
            · right; rw [h0] at hl; exact List.eq_nil_of_length_eq_zero hl
            · left; exact hspot (by omega)
      | struct fs q =>
        rw [hd] at hmt hin
        simp only [Bool.and_eq_true] at hin
        simp only [TD.un, D_unF hty hD hin.1] at hmt
        obtain ⟨gs, rfl, hfs, _⟩ := mkTD_struct hmt
        have hct : P.cellsOf t = te.size := by simp [Program.cellsOf, hi, hs]
        obtain ⟨_, c2, c3⟩ := contig_all hin.2
        obtain ⟨xs, m, hm, _, hlen, hxl, hxs⟩ := DataW.trod_struct hu h
        cases hm
        rw [hct] at hlen
        have hf : ∀ f ∈ fs, f.2.1 + f.2.2 ≤ cs.length ∧ ∃ d, rep ty (fzH w) d f.1 ((cs.drop f.2.1).take f.2.2) := by
          intro f hf
          obtain ⟨g, hg, q1, q2, q3⟩ := fieldsTD_mem hfs f hf
          obtain ⟨j, hj⟩ := List.getElem?_of_mem hg
          have hjl := (List.getElem?_eq_some_iff.1 hj).1
          have hy := hxs j g (by rw [← Array.getElem?_toList]; exact hj)
          rw [Array.length_toList] at hjl
          rw [List.getElem?_eq_getElem (by omega), q3, q1, q2] at hy
          exact ⟨by rw [hlen]; exact c2 f hf, ih f.1 _ _ (allIn1_mem hin.1 f hf) hy⟩
        obtain ⟨l, hl⟩ := repF_of hf
        refine ⟨.tup l, ?_⟩
        simp only [rep]
        refine ⟨⟨by simp [sizeT, hte, hlen], fun v hv => ?_⟩, .inl ⟨fs, q, by rw [htd, hd], hl⟩⟩
        obtain ⟨j, hj⟩ := List.getElem?_of_mem hv
        have hjl := (List.getElem?_eq_some_iff.1 hj).1
        obtain ⟨f, hf1, hf2, hf3⟩ := c3 j (Nat.zero_le _) (by omega)
        obtain ⟨_, d, hr⟩ := hf f hf1
        refine rep_one hr v (List.mem_of_getElem? (i := j - f.2.1) ?_)
        rw [List.getElem?_take, if_pos (by omega), List.getElem?_drop, show f.2.1 + (j - f.2.1) = j by omega]
        exact hj
      | arr m e s =>
        rw [hd] at hmt hin
        simp only [Bool.and_eq_true] at hin
        have he := memN_mem hin.1
        have hsz := beq_nat hin.2
        simp only [TD.un, D_un hty hD he] at hmt
        obtain ⟨rfl, i', hi', hs'⟩ := mkTD_arr hmt
        have hce : P.cellsOf e = s := by simp [Program.cellsOf, hi', hs']
        have hct : P.cellsOf t = te.size := by simp [Program.cellsOf, hi, hs]
        obtain ⟨k, hk, hlen, hall⟩ := trod_array hu h
        cases hk
        rw [hct, hsz] at hlen
        have hf : ∀ j, j < m → ∃ d, rep ty (fzH w) d e ((cs.drop (j * s)).take s) := by
          intro j hj
          obtain ⟨y, hy⟩ := hall j hj
          rw [hce] at hy
          exact ih e _ y he hy
        obtain ⟨l, hl, hr⟩ := repA_of m hlen hf
        refine ⟨.tup l, ?_⟩
        simp only [rep]
        refine ⟨⟨by simp [sizeT, hte, hsz, hlen], fun v hv => ?_⟩, .inr ⟨m, e, s, by rw [htd, hd], hl, hr⟩⟩
        obtain ⟨j, hj⟩ := List.getElem?_of_mem hv
        have hjl := (List.getElem?_eq_some_iff.1 hj).1
        by_cases hs0 : s = 0
        · subst hs0; omega
        · have hq : j / s < m := Nat.div_lt_of_lt_mul (by rw [Nat.mul_comm]; omega)
          obtain ⟨d, hr⟩ := hf (j / s) hq
          refine rep_one hr v (List.mem_of_getElem? (i := j % s) ?_)
          rw [List.getElem?_take, if_pos (Nat.mod_lt _ (by omega)), List.getElem?_drop, Nat.mul_comm, Nat.div_add_mod]
          exact hj
      | ptr e => rw [hd] at hin; cases hin
      | map k e => rw [hd] at hin; cases hin
      | func => rw [hd] at hin; cases hin
      | iface => rw [hd] at hin; cases hin
      | hnd _ _ => rw [hd] at hin; cases hin
      | prow _ _ => rw [hd] at hin; cases hin
      | other => rw [hd] at hin; cases hin
theorem val_of_okWide (hty : TyOk P ty) {D : List TypeId} (hD : dataD ty D D = true) {t : TypeId} (ht : t ∈ D) {w : World} {r : Reach} {b : Nat} {v : Value} (hv : Value.okWide P w r b t v) : (Sh.dat t).val ty v v.cells.toList := by
  have hin := dataD_mem hD t ht
  unfold dataIn at hin
  cases hte : ty.get t with
  | none => rw [hte] at hin; cases hin
  | some te =>
    rw [hte] at hin
    simp only at hin
    obtain ⟨dd, i, hu, hi, hmt, hs, hb, _⟩ := hty.info hte (D_noH hD ht hte)
    have ha : aggB ty t = te.d.agg := by simp [aggB, hte]
    simp only [Sh.val, ha]
    unfold Value.okWide at hv
    rw [hu] at hv
    cases hd : te.d with
    | int k =>
      rw [hd] at hmt
      have := mkTD_int hmt
      subst this
      simp only [Cell.okWide, hu, Cell.ok] at hv
      cases v <;> simp_all [TD.agg, Value.cells]
    | bool =>
      rw [hd] at hmt
      have := mkTD_bool hmt
      subst this
      simp only [Cell.okWide, hu, Cell.ok] at hv
      cases v <;> simp_all [TD.agg, Value.cells]
    | str =>
      rw [hd] at hmt
      have := mkTD_str hmt
      subst this
      simp only [Cell.okWide, hu, Cell.ok] at hv
      cases v <;> simp_all [TD.agg, Value.cells]
    | slice e s =>
      rw [hd] at hmt
      simp only [TD.un] at hmt
      obtain ⟨rfl, _⟩ := mkTD_slice hmt
      simp only [Cell.okWide, hu, Cell.ok] at hv
      cases v <;> simp_all [TD.agg, Value.cells]
    | struct fs q =>
      rw [hd] at hmt
      simp only [TD.un] at hmt
      obtain ⟨gs, rfl, _⟩ := mkTD_struct hmt
      obtain ⟨cs, rfl, _⟩ := hv
      simp [TD.agg, Value.cells]
    | arr m e s =>
      rw [hd] at hmt
      simp only [TD.un] at hmt
      obtain ⟨rfl, _⟩ := mkTD_arr hmt
      obtain ⟨cs, rfl, _⟩ := hv
      simp [TD.agg, Value.cells]
    | ptr e => rw [hd] at hin; cases hin
    | map k e => rw [hd] at hin; cases hin
    | func => rw [hd] at hin; cases hin
    | iface => rw [hd] at hin; cases hin
    | hnd _ _ => rw [hd] at hin; cases hin
    | prow _ _ => rw [hd] at hin; cases hin
    | other => rw [hd] at hin; cases hin
theorem shrl_of_trod (hty : TyOk P ty) {D : List TypeId} (hD : dataD ty D D = true) {H : Type} {enc : TypeId × Value → H} {w : World} {spare : Nat → Bool} {held : Bool} {r : Reach} {b : Nat} {β : Bt} : ∀ {ts : List TypeId} {vs : List Value} {ds : List (DataW H)} {ps : List MemPlace}, (∀ t ∈ ts, t ∈ D) → (∀ (j : Nat) t v, ts[j]? = some t → vs[j]? = some v → Value.okWide P w r b t v) →
    DataW.TrodAll enc P w 0 spare held ts vs ds ps → ∃ xs, ShRL ty (fzH w) w β (ts.map .dat) vs xs []
  | [], [], [], _, _, _, _ => ⟨[], by simp only [List.map_nil, ShRL]; exact ⟨trivial, trivial, trivial⟩⟩
  | t :: ts, v :: vs, d :: ds, ps, hts, hok, h => by
    obtain ⟨p, q, ⟨n, h1⟩, h2, _⟩ := h
    obtain ⟨x, hx⟩ := rep_of_trod hty hD n t _ _ (hts t (.head _)) h1
    obtain ⟨xs, hxs⟩ := shrl_of_trod hty hD (β := β) (fun t ht => hts t (.tail _ ht)) (fun j t v hj hj' => hok (j + 1) t v (by simpa using hj) (by simpa using hj')) h2
    refine ⟨x :: xs, ?_⟩
    simp only [List.map_cons, ShRL]
    refine ⟨v, vs, _, [x], xs, [], [], rfl, rfl, rfl, val_of_okWide hty hD (hts t (.head _)) (hok 0 t v rfl rfl), ?_, hxs⟩
    simp only [ShR]
    exact ⟨trivial, x, rfl, hx⟩
  | [], [], _ :: _, _, _, _, h => h.elim
  | [], _ :: _, [], _, _, _, h => h.elim
  | [], _ :: _, _ :: _, _, _, _, h => h.elim
  | _ :: _, [], [], _, _, _, h => h.elim
  | _ :: _, [], _ :: _, _, _, _, h => h.elim
  | _ :: _, _ :: _, [], _, _, _, h => h.elim
theorem trodAll_belw {H : Type} {enc : TypeId × Value → H} {w w' : World} {base : Nat} {spare : Nat → Bool} {held : Bool} (hb : Belw (· ∈ ([] : List Nat)) w w') : ∀ {ts : List TypeId} {vs : List Value} {ds : List (DataW H)} {ps : List MemPlace}, DataW.TrodAll enc P w base spare held ts vs ds ps → DataW.TrodAll enc P w' base spare held ts vs ds ps
  | [], [], [], _, h => h
  | t :: ts, v :: vs, d :: ds, ps, h => by
    obtain ⟨p, q, ⟨n, h1⟩, h2, h3⟩ := h
    refine ⟨p, q, ⟨n, DataW.trod_carry n t _ _ h1 fun pl hp => ?_⟩, trodAll_belw hb h2, h3⟩
    have hlt := DataW.trod_lt n t _ _ h1 pl hp
    have hk : ∀ k, k < w.heap.size → w'.heap[k]? = w.heap[k]? := fun k hk => hb.block k hk (fun h => nomatch h)
    cases pl with
    | cell b off =>
      show w'.cell? ⟨b, off, none⟩ = w.cell? ⟨b, off, none⟩
      unfold World.cell?
      rw [hk b hlt]
    | map b => exact hk b hlt
  | [], [], _ :: _, _, h => h.elim
  | [], _ :: _, [], _, h => h.elim
  | [], _ :: _, _ :: _, _, h => h.elim
  | _ :: _, [], [], _, h => h.elim
  | _ :: _, [], _ :: _, _, h => h.elim
  | _ :: _, _ :: _, [], _, h => h.elim
end
end Go.SY
