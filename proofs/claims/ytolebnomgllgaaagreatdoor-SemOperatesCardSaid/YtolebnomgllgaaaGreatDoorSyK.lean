/- The symbolic executor SY: contracts; laws that return true. -/
import Derived.Test.YtolebnomgllgaaaGreatDoorSyT
import Derived.ReadAgain
import Derived.JoinedOf
set_option linter.unusedVariables false
set_option linter.unusedSimpArgs false
namespace Go.SY
open Go Go.RowKit Go.ChangeShapes
noncomputable section
abbrev Spec := List Dt → Post → Prop
abbrev Ct := Nat × Nat × Sig × Spec
def SMono (s : Spec) : Prop := ∀ is Q Q', (∀ c r, Q c r → Q' c r) → s is Q → s is Q'
def sF (f : List Dt → List Dt) : Spec := fun is Q => Q 0 (f is)
theorem sF_mono {f : List Dt → List Dt} : SMono (sF f) := fun _ _ _ h hs => h _ _ hs
def spOf : List Ct → Nat → List (Nat × Sig)
  | [], _ => []
  | e :: l, f => bif Nat.beq e.1 f then (e.2.1, e.2.2.1) :: spOf l f else spOf l f
def fOf : List Ct → Nat → List Dt → Post → Prop
  | [], g, is, Q => if g = litG then is = [] ∧ Q 0 [] else False
  | e :: l, g, is, Q => bif Nat.beq e.2.1 g then e.2.2.2 is Q else fOf l g is Q
structure Pg where
  P : Program
  ty : Ty
  gl : Gls
structure Pg.Ok (X : Pg) : Prop where
  ty : TyOk X.P X.ty
  mix : X.P.follows .mixedOrders = true
def unAll (_ : Nat) : Bool := true
def unNo (_ : Nat) : Bool := false
def noOw (_ : Nat) : List Nat := []
abbrev Lv := Nat → Option (Sig × (List Dt → Option (List Dt)))
def noLv : Lv := fun _ => none
def Pg.cfgL (X : Pg) (l : List Ct) (un : Nat → Bool) (ow : Nat → List Nat) (mv : Bool) (lv : Lv) : Cfg := ⟨X.P, X.ty, X.gl, spOf l, un, ow, mv, false, lv⟩
def Pg.cfg (X : Pg) (l : List Ct) (un : Nat → Bool) (ow : Nat → List Nat) (mv : Bool) : Cfg := X.cfgL l un ow mv noLv
def Ent (X : Pg) (e : Ct) : Prop := ConOk X.P X.ty X.gl (fun _ => e.2.2.2) 0 e.1 e.2.2.1 ∧ SMono e.2.2.2
theorem spOf_mem : ∀ {l : List Ct} {f : Nat} {x : Nat × Sig}, x ∈ spOf l f → ∃ e ∈ l, e.1 = f ∧ e.2.1 = x.1 ∧ e.2.2.1 = x.2
  | [], _, _, h => nomatch h
  | e :: l, f, x, h => by
    simp only [spOf] at h
    cases hb : Nat.beq e.1 f <;> rw [hb] at h <;> simp only [cond_true, cond_false] at h
    · obtain ⟨y, hy, q⟩ := spOf_mem h
      exact ⟨y, .tail _ hy, q⟩
    · rcases List.mem_cons.1 h with rfl | h
      · exact ⟨e, .head _, beq_nat hb, rfl, rfl⟩
      · obtain ⟨y, hy, q⟩ := spOf_mem h
        exact ⟨y, .tail _ hy, q⟩
def numsOk : List Ct → Bool
  | [] => true
  | e :: l => !Nat.beq e.2.1 litG && !memN e.2.1 (l.map (·.2.1)) && numsOk l
theorem memN_iff {x : Nat} : ∀ {l : List Nat}, x ∈ l → memN x l = true
  | y :: l, h => by
    simp only [memN, Bool.or_eq_true]
    rcases List.mem_cons.1 h with rfl | h
    · exact .inl (Nat.beq_refl _)
    · exact .inr (memN_iff h)
theorem fOf_get : ∀ {l : List Ct} {e : Ct}, numsOk l = true → e ∈ l → ∀ is Q, fOf l e.2.1 is Q ↔ e.2.2.2 is Q
  | [], _, _, h, _, _ => nomatch h
  | y :: l, e, hn, h, is, Q => by
    simp only [numsOk, Bool.and_eq_true, Bool.not_eq_true'] at hn
    simp only [fOf]
    rcases List.mem_cons.1 h with rfl | h
    · simp
    · have : Nat.beq y.2.1 e.2.1 = false := by
        cases hb : Nat.beq y.2.1 e.2.1 with
        | false => rfl
        | true =>
          have := beq_nat hb
          have h2 := memN_iff (List.mem_map.2 ⟨e, h, this.symm⟩ : y.2.1 ∈ l.map (·.2.1))
          rw [h2] at hn
          cases hn.1.2
      rw [this]
      exact fOf_get hn.2 h is Q
theorem fOf_lit : ∀ {l : List Ct}, numsOk l = true → ∀ is Q, fOf l litG is Q ↔ (is = [] ∧ Q 0 [])
  | [], _, is, Q => by simp only [fOf, if_true]
  | y :: l, hn, is, Q => by
    simp only [numsOk, Bool.and_eq_true, Bool.not_eq_true'] at hn
    simp only [fOf, hn.1.1, cond_false]
    exact fOf_lit hn.2 is Q
theorem fOf_mono {l : List Ct} (h : ∀ e ∈ l, SMono e.2.2.2) : FMono (fOf l) := by
  intro f is Q Q' hQ hf
  induction l with
  | nil =>
    simp only [fOf] at hf ⊢
    by_cases hg : f = litG
    · rw [if_pos hg] at hf ⊢; exact ⟨hf.1, hQ _ _ hf.2⟩
    · rw [if_neg hg] at hf; exact hf.elim
  | cons e l ih =>
    simp only [fOf] at hf ⊢
    cases hb : Nat.beq e.2.1 f <;> rw [hb] at hf <;> simp only [cond_true, cond_false] at hf ⊢
    · exact ih (fun x hx => h x (.tail _ hx)) hf
    · exact h e (.head _) is Q Q' hQ hf
theorem con_of {X : Pg} {l : List Ct} (hn : numsOk l = true) (h : ∀ e ∈ l, Ent X e) : ∀ f x, x ∈ spOf l f → ConOk X.P X.ty X.gl (fOf l) x.1 f x.2 := by
  intro f x hx
  obtain ⟨e, he, rfl, q2, q3⟩ := spOf_mem hx
  intro fz w β vs d1 d2 f1 f2 Q hg hz r1 r2 hnd hfp hβ hF
  rw [← q2] at hF
  rw [← q3] at r1 r2 hβ ⊢
  exact (h e he).1 fz w β vs d1 d2 f1 f2 Q hg hz r1 r2 hnd hfp hβ ((fOf_get hn he _ Q).1 hF)
def s0 : Spec := fun is Q => is = [] ∧ Q 0 []
theorem s0_mono : SMono s0 := fun _ _ _ h hs => ⟨hs.1, h _ _ hs.2⟩
def LvOk (X : Pg) (lv : Lv) : Prop := ∀ f x, lv f = some x → ∀ ds rs sig, x.2 ds = some rs → litSig x.1 ds rs = some sig → ConOk X.P X.ty X.gl (fun _ => s0) 0 f sig
theorem noLv_ok {X : Pg} : LvOk X noLv := fun _ _ h => nomatch h
theorem lit_of {X : Pg} {l : List Ct} (hn : numsOk l = true) {lv : Lv} (h : LvOk X lv) {C : Cfg} (hC : C.lv = lv) : ∀ f args st sig, litOf C f args st = some sig → ConOk X.P X.ty X.gl (fOf l) litG f sig := by
  intro f args st sig hs
  unfold litOf at hs
  split at hs
  · cases hs
  · rename_i x hx
    split at hs
    · cases hs
    · split at hs
      · cases hs
      · split at hs
        · cases hs
        · rename_i rs hrs
          have := h f x (by rw [← hC]; exact hx) _ _ sig hrs hs
          intro fz w β vs d1 d2 f1 f2 Q hg hz r1 r2 hnd hfp hβ hF
          exact this fz w β vs d1 d2 f1 f2 Q hg hz r1 r2 hnd hfp hβ ((fOf_lit hn _ _).1 hF)
theorem hyp_ofL {X : Pg} (hX : X.Ok) {l : List Ct} (hn : numsOk l = true) (h : ∀ e ∈ l, Ent X e) (un : Nat → Bool) (ow : Nat → List Nat) (mv : Bool) {lv : Lv} (hlv : LvOk X lv) : Hyp (X.cfgL l un ow mv lv) (fOf l) := ⟨hX.ty, hX.mix, con_of hn h, fOf_mono fun e he => (h e he).2, lit_of hn hlv rfl⟩
theorem ent_ofL {X : Pg} (hX : X.Ok) {l : List Ct} (hn : numsOk l = true) (h : ∀ e ∈ l, Ent X e) {un : Nat → Bool} {ow : Nat → List Nat} {mv : Bool} {lv : Lv} (hlv : LvOk X lv) {fuel f g : Nat} {sig : Sig} {t : T} {s : Spec} (ht : sxFunc (X.cfgL l un ow mv lv) fuel f sig = t) (hm : SMono s)
    (hs : ∀ is Q, hasTyL X.ty is (Sh.tysL sig.ins ++ ShB.tysL sig.bl) = true → s is Q → t.wp X.ty (fOf l) is Q) : Ent X (f, g, sig, s) := by
  refine ⟨?_, hm⟩
  intro fz w β vs d1 d2 f1 f2 Q hg hz r1 r2 hnd hfp hβ hF
  refine run_ok (C := X.cfgL l un ow mv lv) (F := fOf l) (fuel := fuel) (hyp_ofL hX hn h un ow mv hlv) rfl hg hz r1 r2 hnd hfp hβ ?_
  rw [ht]
  exact hs _ _ (hasTyL_append r1.tys r2.tys) hF
theorem ent_of {X : Pg} (hX : X.Ok) {l : List Ct} (hn : numsOk l = true) (h : ∀ e ∈ l, Ent X e) {un : Nat → Bool} {ow : Nat → List Nat} {mv : Bool} {fuel f g : Nat} {sig : Sig} {t : T} {s : Spec} (ht : sxFunc (X.cfg l un ow mv) fuel f sig = t) (hm : SMono s)
    (hs : ∀ is Q, hasTyL X.ty is (Sh.tysL sig.ins ++ ShB.tysL sig.bl) = true → s is Q → t.wp X.ty (fOf l) is Q) : Ent X (f, g, sig, s) := ent_ofL hX hn h noLv_ok ht hm hs
theorem ent_of' {X : Pg} (hX : X.Ok) {l : List Ct} (hn : numsOk l = true) (h : ∀ e ∈ l, Ent X e) {un : Nat → Bool} {ow : Nat → List Nat} {mv : Bool} {fuel f g : Nat} {sig : Sig} {t : T} {s : Spec} (ht : sxFunc (X.cfg l un ow mv) fuel f sig = t) (hm : SMono s)
    (hs : FMono (fOf l) → ∀ is Q, hasTyL X.ty is (Sh.tysL sig.ins ++ ShB.tysL sig.bl) = true → s is Q → t.wp X.ty (fOf l) is Q) : Ent X (f, g, sig, s) :=
  ent_of hX hn h ht hm (hs (fOf_mono fun e he => (h e he).2))
theorem ents_nil {X : Pg} : ∀ e ∈ ([] : List Ct), Ent X e := fun _ h => nomatch h
theorem ents_cons {X : Pg} {e : Ct} {l : List Ct} (h : Ent X e) (hl : ∀ x ∈ l, Ent X x) : ∀ x ∈ e :: l, Ent X x := fun x hx => by
  rcases List.mem_cons.1 hx with rfl | hx
  · exact h
  · exact hl x hx
theorem mkTyX_ok (P : Program) (md : List (Nat × TD)) : ∀ (l : List Nat), TyOk P (mkTyX P md l)
  | [], t, e, h => by simp [mkTyX, Tb.get_e] at h
  | x :: l, t, e, h => by
    simp only [mkTyX] at h
    cases hx : Nat.blt x 1000000 <;> rw [hx] at h <;> simp only [cond_true, cond_false] at h
    · split at h
      · rename_i td _
        cases hb : (td.isH && isSl P (un x)) <;> rw [hb] at h <;> simp only [cond_true, cond_false] at h
        · exact mkTyX_ok P md l t e h
        · simp only [Bool.and_eq_true] at hb
          rcases Tb.get_put h with ⟨rfl, rfl⟩ | ⟨_, h⟩
          · refine .inl ⟨hb.1, rfl, rfl, ?_⟩
            have := hb.2
            unfold isSl at this
            split at this
            · exact ⟨_, ‹_›⟩
            · cases this
          · exact mkTyX_ok P md l t e h
      · exact mkTyX_ok P md l t e h
    · split at h
      · rename_i e0 he0
        cases hb : decide (((lookTD x md).getD e0.d).un = e0.d) <;> rw [hb] at h <;> simp only [cond_true, cond_false] at h
        · exact mkTyX_ok P md l t e h
        · rcases Tb.get_put h with ⟨rfl, rfl⟩ | ⟨_, h⟩
          · refine .inr ⟨by simp [SY.un, hx], ?_⟩
            simp only [of_decide_eq_true hb]
            exact he0
          · exact mkTyX_ok P md l t e h
      · exact mkTyX_ok P md l t e h
theorem tyOk_of {P : Program} {md : List (Nat × TD)} {keys : List Nat} {ty : Ty} (h : mkTyX P md keys = ty) : TyOk P ty := h ▸ mkTyX_ok P md keys
theorem wp_loop_inv {ty : Ty} {F : Nat → List Dt → Post → Prop} (hF : FMono F) {d : Nat} {ts : List (Option TypeId)} {fs : List (B × Bool)} {init : List A} {t : T} {is : List Dt} {Q : Post} (I : Nat → List Dt → Prop) (n0 : Nat) (h0 : I n0 (init.map (·.den is)))
    (hfs : ∀ n s, I n s → factsB fs (is ++ s) = true) (step : ∀ n s, I n s → hasTyO ty s ts = true → t.wp ty F (is ++ s) fun c r => if c = d + 2 then ∃ m, m < n ∧ I m r else Q c r) : (T.loop d ts fs init t).wp ty F is Q := by
  simp only [T.wp]
  refine ⟨hfs _ _ h0, n0 + 1, ?_⟩
  have go : ∀ K n s, n < K → I n s → iterW K (fun s Q => hasTyO ty s ts = true → t.wp ty F (is ++ s) fun c r => if c = d + 2 then factsB fs (is ++ r) = true ∧ Q c r else Q c r) (d + 2) s Q := by
    intro K
    induction K with
    | zero => intro n s hn _; omega
    | succ K ih =>
      intro n s hn hI hty
      refine T.wp_mono hF _ _ _ _ (fun c r hc => ?_) (step n s hI hty)
      by_cases he : c = d + 2
      · rw [if_pos he] at hc ⊢
        obtain ⟨m, hm, hI'⟩ := hc
        refine ⟨hfs m r hI', ?_⟩
        show (if c = d + 2 then _ else Q c r)
        rw [if_pos he]
        exact ih m r (by omega) hI'
      · rw [if_neg he] at hc ⊢
        show (if c = d + 2 then _ else Q c r)
        rw [if_neg he]
        exact hc
  exact go (n0 + 1) n0 _ (Nat.lt_succ_self _) h0
theorem keptBut_of_belw {W W' : World} (h : Belw (· ∈ ([] : List Nat)) W W') : W.keptBut W' (fun _ => False) :=
  World.keptBut_none_iff.2 ⟨h.os, h.output, fun k hk => h.block k hk (fun h => nomatch h)⟩
theorem calls_of_sem {P : Program} {f : Nat} {fn : Func} {c : Code} {args : Array Value} {w : World} {next nextP : Value → World → Prop} (hf : P.funcs[f]? = some fn) (hb : fn.body = some c) (hn : (fn.name == "runtime.NumGoroutine") = false) (h : CallSem P f args w next nextP) :
    Calls P f args w (RetR next nextP) := by
  rcases h with ⟨_, h⟩ | ⟨v, h, _⟩
  · exact h
  · rw [run_callFunc_enter hf hb hn w] at h; cases h
theorem true_of_aft {ty : Ty} {t : Nat} (ht : tdOf ty t = .bool) (ha : aggB ty t = false) {nbl : Nat} {β : Bt} {fz : Fz} {w w' : World} {V : Value} {x : Bool} (h : AftR ty ⟨[.dat t], []⟩ nbl β fz [] w w' V [.tru x]) : V = .bool x ∧ Belw (· ∈ ([] : List Nat)) w w' := by
  obtain ⟨fz', β', vs, d1, d2, f1, f2, hd, rfl, r1, r2, _, _, _, _, _, _, _, _, hb, _⟩ := h
  refine ⟨?_, hb⟩
  simp only [BlR] at r2
  obtain ⟨rfl, rfl⟩ := r2
  simp only [ShRL] at r1
  obtain ⟨V1, vr, cs, e1, e2, g1, g2, rfl, rfl, rfl, hv, hr, rfl, rfl, rfl⟩ := r1
  simp only [ShR] at hr
  obtain ⟨rfl, y, rfl, hrep⟩ := hr
  simp at hd
  subst hd
  simp only [rep] at hrep
  obtain ⟨_, rfl⟩ := hrep
  simp only [Sh.val, ha, Bool.false_eq_true, if_false] at hv
  cases hv
  rfl
def trueS : Spec := sF fun _ => [.tru true]
theorem trodAll_len {H : Type} {enc : TypeId × Value → H} {P : Program} {w : World} {base : Nat} {spare : Nat → Bool} {held : Bool} : ∀ {ts : List TypeId} {vs : List Value} {ds : List (DataW H)} {ps : List MemPlace}, DataW.TrodAll enc P w base spare held ts vs ds ps → ds.length = ts.length
  | [], [], [], _, _ => rfl
  | _ :: _, _ :: _, _ :: _, _, ⟨_, _, _, h, _⟩ => by simp [trodAll_len h]
  | [], [], _ :: _, _, h => h.elim
  | [], _ :: _, [], _, h => h.elim
  | [], _ :: _, _ :: _, _, h => h.elim
  | _ :: _, [], [], _, h => h.elim
  | _ :: _, [], _ :: _, _, h => h.elim
  | _ :: _, _ :: _, [], _, h => h.elim
theorem allLt_mem {n : Nat} {l : List Nat} (h : (l.all fun t => Nat.blt t n) = true) : ∀ t ∈ l, t < n := fun t ht => blt_nat (List.all_eq_true.1 h t ht)
theorem allMem_mem {D l : List Nat} (h : (l.all fun t => memN t D) = true) : ∀ t ∈ l, t ∈ D := fun t ht => memN_mem (List.all_eq_true.1 h t ht)
end
end Go.SY
