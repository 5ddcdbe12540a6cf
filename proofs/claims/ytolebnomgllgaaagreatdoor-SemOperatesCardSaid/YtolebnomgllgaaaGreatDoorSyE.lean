/- The symbolic executor SY: trees that are run on data (an evaluator that the kernel does well), definitions. -/
import Derived.Test.YtolebnomgllgaaaGreatDoorSyD
import Derived.Test.YtolebnomgllgaaaGreatDoorSyK
set_option linter.unusedVariables false
namespace Go.SY
open Go
noncomputable section
def frcI {α : Type} (x : Int) (k : Int → α) : α := match x with
  | .ofNat m => frc m fun m => k (.ofNat m)
  | .negSucc m => frc m fun m => k (.negSucc m)
theorem frcI_eq {α : Type} (x : Int) (k : Int → α) : frcI x k = k x := by cases x <;> simp only [frcI, frc_eq]
def frcLC {α β : Type} : List β → (List β → α) → α
  | [], k => k []
  | x :: l, k => frcLC l fun l => k (x :: l)
noncomputable def frcL {α β : Type} (l : List β) : (List β → α) → α :=
  List.rec (motive := fun _ => (List β → α) → α) (fun k => k []) (fun x _ ih k => ih fun l => k (x :: l)) l
theorem frcL_eq {α β : Type} : ∀ (l : List β) (k : List β → α), frcL l k = k l
  | [], _ => rfl
  | x :: l, k => frcL_eq l fun l => k (x :: l)
def frcD {α : Type} (x : Dt) (k : Dt → α) : α := match x with
  | .num x => frcI x fun x => k (.num x)
  | .tru b => bif b then k (.tru true) else k (.tru false)
  | .byt l => frcL l fun l => k (.byt l)
  | .nil => k .nil
  | .row l => frcL l fun l => k (.row l)
  | .tup l => frcL l fun l => k (.tup l)
theorem frcD_eq {α : Type} (x : Dt) (k : Dt → α) : frcD x k = k x := by
  cases x with
  | tru b => cases b <;> rfl
  | _ => simp only [frcD, frcI_eq, frcL_eq]
def nthC {α : Type} : List α → Nat → α → α
  | [], _, d => d
  | x :: _, 0, _ => x
  | _ :: l, n + 1, d => nthC l n d
noncomputable def nthR {α : Type} (l : List α) : Nat → α → α :=
  List.rec (motive := fun _ => Nat → α → α) (fun _ d => d) (fun x _ ih i d => Nat.rec (motive := fun _ => α) x (fun j _ => ih j d) i) l
theorem nthR_eq {α : Type} : ∀ (l : List α) (i : Nat) (d : α), nthR l i d = l.getD i d
  | [], _, _ => rfl
  | x :: l, 0, _ => rfl
  | x :: l, i + 1, d => by
    show nthR l i d = _
    rw [nthR_eq l i d]; rfl
structure Ev where
  rs : List Dt
  n : Nat
def Ev.is (v : Ev) : List Dt := v.rs.reverse
def Ev.ok (v : Ev) : Prop := v.n = v.rs.length
def Ev.get (v : Ev) (i : Nat) : Dt := bif Nat.blt i v.n then nthR v.rs (Nat.sub (Nat.sub v.n 1) i) .nil else .nil
theorem Ev.get_eq {v : Ev} (h : v.ok) (i : Nat) : v.get i = v.is.getD i .nil := by
  unfold Ev.get Ev.is Ev.ok at *
  cases hb : Nat.blt i v.n
  · simp only [cond_false]
    have : v.n ≤ i := by
      rcases Nat.lt_or_ge i v.n with h | h
      · rw [(show Nat.blt i v.n = true from Nat.ble_eq_true_of_le h)] at hb; cases hb
      · exact h
    rw [List.getD_eq_getElem?_getD, List.getElem?_eq_none (by rw [List.length_reverse]; omega)]; rfl
  · simp only [cond_true]
    have hi : i < v.n := Nat.le_of_ble_eq_true hb
    rw [nthR_eq, List.getD_eq_getElem?_getD, List.getD_eq_getElem?_getD, List.getElem?_reverse (by omega)]
    congr 2
    simp only [h]
    rfl
def Ev.put (v : Ev) (x : Dt) : Ev := ⟨x :: v.rs, v.n + 1⟩
theorem Ev.put_is (v : Ev) (x : Dt) : (v.put x).is = v.is ++ [x] := by simp [Ev.put, Ev.is]
theorem Ev.put_ok {v : Ev} (h : v.ok) (x : Dt) : (v.put x).ok := by simp only [Ev.ok, Ev.put, List.length_cons] at *; rw [h]
def Ev.putsC (v : Ev) : List Dt → Ev
  | [] => v
  | x :: l => Ev.putsC ⟨x :: v.rs, v.n + 1⟩ l
def Ev.puts (v : Ev) (l : List Dt) : Ev := match v with
  | ⟨rs, n⟩ => frc (n + l.length) fun n => ⟨l.foldl (fun r x => x :: r) rs, n⟩
theorem foldl_rev {α : Type} : ∀ (l r : List α), l.foldl (fun r x => x :: r) r = l.reverse ++ r
  | [], r => rfl
  | x :: l, r => by rw [List.foldl_cons, foldl_rev l]; simp
theorem Ev.puts_is (v : Ev) (l : List Dt) : (v.puts l).is = v.is ++ l := by
  cases v
  simp [Ev.puts, frc_eq, Ev.is]
theorem Ev.puts_ok {v : Ev} (h : v.ok) (l : List Dt) : (v.puts l).ok := by
  cases v
  simp only [Ev.ok, Ev.puts, frc_eq, foldl_rev, List.length_append, List.length_reverse] at *
  omega
noncomputable def A.evR (v : Ev) (a : A) : Dt :=
  A.rec (motive := fun _ => Dt) (fun i => v.get i) (fun c => .num c) (fun x => x) (fun _ i d => nthR d.list i .nil) (fun _ d => .num d.len)
    (fun _ _ d i => match d with
      | .byt y => .num ((nthR y i.int.toNat 0).toNat : Int)
      | x => nthR x.list i.int.toNat .nil)
    (fun _ d => .num d.str.length) (fun _ _ d i => .num (nthR d.str i.int.toNat 0).toNat) a
def A.evC (v : Ev) : A → Dt
  | .v i => v.get i
  | .n c => .num c
  | .d x => x
  | .fld a i => nthR (a.evC v).list i .nil
  | .len a => .num (a.evC v).len
  | .idx a i => match a.evC v with
    | .byt y => .num ((nthR y (i.evC v).int.toNat 0).toNat : Int)
    | x => nthR x.list (i.evC v).int.toNat .nil
  | .slen a => .num (a.evC v).str.length
  | .sidx a i => .num (nthR (a.evC v).str (i.evC v).int.toNat 0).toNat
theorem A.evR_eqC : @A.evR = @A.evC := by
  funext v a
  induction a with
  | fld a i ih => show nthR (A.evR v a).list i .nil = nthR (A.evC v a).list i .nil; rw [ih]
  | len a ih => show Dt.num (A.evR v a).len = .num (A.evC v a).len; rw [ih]
  | idx a i iha ihi =>
    show (match A.evR v a with
      | .byt y => Dt.num ((nthR y (A.evR v i).int.toNat 0).toNat : Int)
      | x => nthR x.list (A.evR v i).int.toNat .nil) = _
    rw [iha, ihi]; rfl
  | slen a ih => show Dt.num (A.evR v a).str.length = .num (A.evC v a).str.length; rw [ih]
  | sidx a i iha ihi => show Dt.num (nthR (A.evR v a).str (A.evR v i).int.toNat 0).toNat = .num (nthR (A.evC v a).str (A.evC v i).int.toNat 0).toNat; rw [iha, ihi]
  | _ => rfl
theorem A.evR_eq {v : Ev} (h : v.ok) (a : A) : a.evR v = a.den v.is := by
  rw [A.evR_eqC]
  induction a with
  | v i => exact Ev.get_eq h i
  | fld a i ih => simp only [A.evC, A.den, ih, nthR_eq, Dt.fld]
  | len a ih => simp only [A.evC, A.den, ih]
  | idx a i iha ihi =>
    simp only [A.evC, A.den, iha, ihi, nthR_eq, Dt.idx]
    cases a.den v.is <;> rfl
  | slen a ih => simp only [A.evC, A.den, ih]
  | sidx a i iha ihi => simp only [A.evC, A.den, iha, ihi, nthR_eq]
  | _ => rfl
def B.evEC (v : Ev) : B → Bool
  | .c b => b
  | .cmp o x y => o.den (x.evR v).int (y.evR v).int
  | .is x => (x.evR v).bool
  | .seq x y => bsEq (x.evR v).str (y.evR v).str
  | .slt x y => bsLt (x.evR v).str (y.evR v).str
  | .deq x y => (x.evR v).beq (y.evR v)
  | .nil x => (x.evR v).isNil
  | .shp x n => (x.evR v).isShp n
  | .not b => !b.evEC v
  | .and x y => x.evEC v && y.evEC v
  | .or x y => x.evEC v || y.evEC v
noncomputable def B.evE (v : Ev) (b : B) : Bool :=
  B.rec (motive := fun _ => Bool) (fun b => b) (fun o x y => o.den (x.evR v).int (y.evR v).int) (fun x => (x.evR v).bool) (fun x y => bsEq (x.evR v).str (y.evR v).str) (fun x y => bsLt (x.evR v).str (y.evR v).str)
    (fun x y => (x.evR v).beq (y.evR v)) (fun x => (x.evR v).isNil) (fun x n => (x.evR v).isShp n) (fun _ h => !h) (fun _ _ h h' => h && h') (fun _ _ h h' => h || h') b
theorem B.evE_eqC : @B.evE = @B.evEC := by
  funext v b
  induction b with
  | not b ih => show (!B.evE v b) = !b.evEC v; rw [ih]
  | and x y ihx ihy => show (B.evE v x && B.evE v y) = (x.evEC v && y.evEC v); rw [ihx, ihy]
  | or x y ihx ihy => show (B.evE v x || B.evE v y) = (x.evEC v || y.evEC v); rw [ihx, ihy]
  | _ => rfl
theorem B.evE_eq {v : Ev} (h : v.ok) (b : B) : b.evE v = b.den v.is := by
  rw [B.evE_eqC]
  induction b with
  | not b ih => simp only [B.evEC, B.den, ih]
  | and x y ihx ihy | or x y ihx ihy => simp only [B.evEC, B.den, ihx, ihy]
  | _ => simp only [B.evEC, B.den, A.evR_eq h, A.int]
def evAsC (v : Ev) : List A → List Dt
  | [] => []
  | a :: l => frcD (a.evR v) fun x => (fun r => x :: r) (evAsC v l)
noncomputable def evAs (v : Ev) (l : List A) : List Dt :=
  List.rec (motive := fun _ => List Dt) [] (fun a _ ih => frcD (a.evR v) fun x => x :: ih) l
theorem evAs_eqC : @evAs = @evAsC := by
  funext v l
  induction l with
  | nil => rfl
  | cons a l ih => show (frcD (a.evR v) fun x => x :: evAs v l) = _; rw [ih]; rfl
theorem evAs_eq {v : Ev} (h : v.ok) (l : List A) : evAs v l = l.map (·.den v.is) := by
  rw [evAs_eqC]
  induction l with
  | nil => rfl
  | cons a l ih => simp only [evAsC, frcD_eq, A.evR_eq h, ih, List.map_cons]
def E.evE (v : Ev) : E → Dt
  | .add k x y => .num (k.wrap ((x.evR v).int + (y.evR v).int))
  | .sub k x y => .num (k.wrap ((x.evR v).int - (y.evR v).int))
  | .mul k x y => .num (k.wrap ((x.evR v).int * (y.evR v).int))
  | .quo k x y => .num (k.wrap (((x.evR v).int).tdiv ((y.evR v).int)))
  | .rem x y => .num (((x.evR v).int).tmod ((y.evR v).int))
  | .wrap k x => .num (k.wrap (x.evR v).int)
  | .mn x y => .num (if (y.evR v).int < (x.evR v).int then (y.evR v).int else (x.evR v).int)
  | .mx x y => .num (if (y.evR v).int > (x.evR v).int then (y.evR v).int else (x.evR v).int)
  | .sel c x y => if c.evE v then x.evR v else y.evR v
  | .boo c => .tru (c.evE v)
  | .mk x => .tup (evAs v x)
  | .lst x => .row (evAs v x)
  | .cat x y => (x.evR v).cat (y.evR v)
  | .scat x y => .byt ((x.evR v).str ++ (y.evR v).str)
  | .cut x lo hi => (x.evR v).cut (lo.evR v).int.toNat (hi.evR v).int.toNat
  | .scut x lo hi => .byt (((x.evR v).str.take (hi.evR v).int.toNat).drop (lo.evR v).int.toNat)
  | .set x i y => .row ((x.evR v).list.set (i.evR v).int.toNat (y.evR v))
  | .setf x f y => .tup ((x.evR v).list.set f (y.evR v))
  | e => e.den v.is
theorem E.evE_eq {v : Ev} (h : v.ok) (e : E) : e.evE v = e.den v.is := by
  cases e <;> (try simp only [E.evE, E.den, A.evR_eq h, A.int, B.evE_eq h, evAs_eq h]) <;> rfl
abbrev EvF := Nat → List Dt → Option (Nat × List Dt)
def factsE : List (B × Bool) → Ev → Bool
  | [], _ => true
  | p :: l, v => (p.1.evE v == p.2) && factsE l v
theorem factsE_eq {v : Ev} (h : v.ok) : ∀ l, factsE l v = factsB l v.is
  | [] => rfl
  | p :: l => by simp only [factsE, factsB, B.evE_eq h, factsE_eq h l]
def loopC (body : List Dt → Option (Nat × List Dt)) (ok : List Dt → Bool) (d : Nat) : Nat → List Dt → Option (Nat × List Dt)
  | 0, _ => none
  | k + 1, s => bif ok s then (match body s with
    | none => none
    | some (c, r) => bif Nat.beq c (d + 2) then loopC body ok d k r else some (c, r)) else none
noncomputable def loopE (body : List Dt → Option (Nat × List Dt)) (ok : List Dt → Bool) (d : Nat) (k : Nat) : List Dt → Option (Nat × List Dt) :=
  Nat.rec (motive := fun _ => List Dt → Option (Nat × List Dt)) (fun _ => none) (fun _ ih s => bif ok s then (match body s with
    | none => none
    | some (c, r) => bif Nat.beq c (d + 2) then ih r else some (c, r)) else none) k
theorem loopE_eqC : @loopE = @loopC := by
  funext body ok d k
  induction k with
  | zero => rfl
  | succ k ih =>
    funext s
    show (bif ok s then (match body s with
      | none => none
      | some (c, r) => bif Nat.beq c (d + 2) then loopE body ok d k r else some (c, r)) else none) = _
    rw [ih]; rfl
def T.evC (FE : EvF) (K : Nat) : T → Ev → Option (Nat × List Dt)
  | .ret c l, v => some (c, evAs v l)
  | .fail _, _ => none
  | .lt _ e t, v => frcD (e.evE v) fun x => match v with
    | ⟨rs, n⟩ => frc (n + 1) fun m => t.evC FE K ⟨x :: rs, m⟩
  | .br c t e, v => bif c.evE v then t.evC FE K v else e.evC FE K v
  | .call f args _ t _ p, v => match FE f (evAs v args) with
    | some (0, rs) => t.evC FE K (v.puts rs)
    | some (1, rs) => p.evC FE K (v.puts rs)
    | _ => none
  | .again d l, v => some (d + 2, evAs v l)
  | .loop d _ fs init t, v => loopE (fun s => t.evC FE K (v.puts s)) (fun s => factsE fs (v.puts s)) d K (evAs v init)
  | .out d t, v => match t.evC FE K v with
    | some (c, r) => bif Nat.beq c (d + 2) then none else some (c, r)
    | none => none
noncomputable def T.ev (FE : EvF) (K : Nat) (t : T) : Ev → Option (Nat × List Dt) :=
  T.rec (motive := fun _ => Ev → Option (Nat × List Dt)) (fun c l v => some (c, evAs v l)) (fun _ _ => none)
    (fun _ e _ ih v => frcD (e.evE v) fun x => match v with
      | ⟨rs, n⟩ => frc (n + 1) fun m => ih ⟨x :: rs, m⟩)
    (fun c _ _ iht ihe v => bif c.evE v then iht v else ihe v)
    (fun f args _ _ _ _ iht ihp v => match FE f (evAs v args) with
      | some (0, rs) => iht (v.puts rs)
      | some (1, rs) => ihp (v.puts rs)
      | _ => none)
    (fun d l v => some (d + 2, evAs v l))
    (fun d _ fs init _ ih v => loopE (fun s => ih (v.puts s)) (fun s => factsE fs (v.puts s)) d K (evAs v init))
    (fun d _ ih v => match ih v with
      | some (c, r) => bif Nat.beq c (d + 2) then none else some (c, r)
      | none => none) t
theorem T.ev_eqC : @T.ev = @T.evC := by
  funext FE K t
  induction t with
  | ret => funext v; rfl
  | fail => funext v; rfl
  | lt o e t ih =>
    funext v
    show (frcD (e.evE v) fun x => match v with
      | ⟨rs, n⟩ => frc (n + 1) fun m => T.ev FE K t ⟨x :: rs, m⟩) = _
    rw [ih]; rfl
  | br c t e iht ihe =>
    funext v
    show (bif c.evE v then T.ev FE K t v else T.ev FE K e v) = _
    rw [iht, ihe]; rfl
  | call f args ts t ps p iht ihp =>
    funext v
    show (match FE f (evAs v args) with
      | some (0, rs) => T.ev FE K t (v.puts rs)
      | some (1, rs) => T.ev FE K p (v.puts rs)
      | _ => none) = _
    rw [iht, ihp]; rfl
  | again => funext v; rfl
  | loop d ts fs init t ih =>
    funext v
    show loopE (fun s => T.ev FE K t (v.puts s)) (fun s => factsE fs (v.puts s)) d K (evAs v init) = _
    rw [ih]; rfl
  | out d t ih =>
    funext v
    show (match T.ev FE K t v with
      | some (c, r) => bif Nat.beq c (d + 2) then none else some (c, r)
      | none => none) = _
    rw [ih]; rfl
theorem T.evC_ok {ty : Ty} {F : Nat → List Dt → Post → Prop} {FE : EvF} {K : Nat} (hF : ∀ f args c r (Q : Post), FE f args = some (c, r) → Q c r → F f args Q) :
    ∀ (t : T) (v : Ev) (c : Nat) (r : List Dt) (Q : Post), v.ok → t.evC FE K v = some (c, r) → Q c r → t.wp ty F v.is Q := by
  intro t
  induction t with
  | ret c l =>
    intro v c' r Q hv h hQ
    simp only [T.evC, Option.some.injEq, Prod.mk.injEq] at h
    obtain ⟨rfl, rfl⟩ := h
    rw [evAs_eq hv] at hQ
    exact hQ
  | fail => intro v c r Q hv h; cases h
  | lt o e t ih =>
    intro v c r Q hv h hQ
    cases v with
    | mk rs n =>
      simp only [T.evC, frcD_eq, frc_eq] at h
      intro _
      have := ih _ c r Q (Ev.put_ok hv _) h hQ
      rw [Ev.put_is, E.evE_eq hv] at this
      exact this
  | br c t e iht ihe =>
    intro v c' r Q hv h hQ
    simp only [T.evC, B.evE_eq hv] at h
    simp only [T.wp]
    cases hc : c.den v.is <;> rw [hc] at h <;> simp only [cond_true, cond_false] at h
    · simp only [Bool.false_eq_true, if_false]; exact ihe v c' r Q hv h hQ
    · simp only [if_true]; exact iht v c' r Q hv h hQ
  | call f args ts t ps p iht ihp =>
    intro v c r Q hv h hQ
    simp only [T.evC, evAs_eq hv] at h
    simp only [T.wp]
    split at h
    · rename_i rs hfe
      refine hF _ _ _ _ _ hfe ?_
      simp only [if_true]
      intro _
      have := iht _ c r Q (Ev.puts_ok hv rs) h hQ
      rwa [Ev.puts_is] at this
    · rename_i rs hfe
      refine hF _ _ _ _ _ hfe ?_
      simp only [show (1 : Nat) ≠ 0 by decide, if_false, if_true]
      intro _
      have := ihp _ c r Q (Ev.puts_ok hv rs) h hQ
      rwa [Ev.puts_is] at this
    · cases h
  | again d l =>
    intro v c r Q hv h hQ
    simp only [T.evC, Option.some.injEq, Prod.mk.injEq] at h
    obtain ⟨rfl, rfl⟩ := h
    rw [evAs_eq hv] at hQ
    exact hQ
  | loop d ts fs init t ih =>
    intro v c r Q hv h hQ
    simp only [T.evC, evAs_eq hv] at h
    simp only [T.wp]
    have key : ∀ (k : Nat) (s : List Dt), loopE (fun s => t.evC FE K (v.puts s)) (fun s => factsE fs (v.puts s)) d k s = some (c, r) → factsB fs (v.is ++ s) = true ∧
        iterW k (fun s Q => hasTyO ty s ts = true → t.wp ty F (v.is ++ s) fun c r => if c = d + 2 then factsB fs (v.is ++ r) = true ∧ Q c r else Q c r) (d + 2) s Q := by
      intro k
      induction k with
      | zero => intro s h; cases h
      | succ k ihk =>
        intro s h
        rw [loopE_eqC] at h
        simp only [loopC, factsE_eq (Ev.puts_ok hv s), Ev.puts_is] at h
        rw [← loopE_eqC] at h
        cases hok : factsB fs (v.is ++ s) <;> rw [hok] at h <;> simp only [cond_true, cond_false] at h
        · cases h
        · refine ⟨rfl, ?_⟩
          simp only [iterW]
          split at h
          · cases h
          · rename_i c' r' hb
            intro _
            have hthis := ih (v.puts s) c' r' (fun c r => if c = d + 2 then factsB fs (v.is ++ r) = true ∧ (if c = d + 2 then iterW k (fun s Q => hasTyO ty s ts = true → t.wp ty F (v.is ++ s) fun c r => if c = d + 2 then factsB fs (v.is ++ r) = true ∧ Q c r else Q c r) (d + 2) r Q else Q c r) else (if c = d + 2 then iterW k (fun s Q => hasTyO ty s ts = true → t.wp ty F (v.is ++ s) fun c r => if c = d + 2 then factsB fs (v.is ++ r) = true ∧ Q c r else Q c r) (d + 2) r Q else Q c r)) (Ev.puts_ok hv s) hb ?_
            · rw [Ev.puts_is] at hthis
              exact hthis
            · cases hcd : Nat.beq c' (d + 2) <;> rw [hcd] at h <;> simp only [cond_true, cond_false] at h
              · have hne : c' ≠ d + 2 := fun e => by rw [e, Nat.beq_refl] at hcd; cases hcd
                cases h
                simp only [if_neg hne]
                exact hQ
              · have heq : c' = d + 2 := Nat.eq_of_beq_eq_true hcd
                simp only [if_pos heq]
                exact ihk r' h
    obtain ⟨h1, h2⟩ := key K _ h
    exact ⟨h1, K, h2⟩
  | out d t ih =>
    intro v c r Q hv h hQ
    simp only [T.evC] at h
    simp only [T.wp]
    split at h
    · rename_i c' r' hb
      cases hcd : Nat.beq c' (d + 2) <;> rw [hcd] at h <;> simp only [cond_true, cond_false] at h
      · have hne : c' ≠ d + 2 := fun e => by rw [e, Nat.beq_refl] at hcd; cases hcd
        cases h
        exact ih v _ _ _ hv hb ⟨hne, hQ⟩
      · cases h
    · cases h
end
end Go.SY
set_option linter.unusedVariables false
set_option linter.unusedSimpArgs false
namespace Go.SY
open Go Go.RowKit
noncomputable section
def tabOf : List (Nat × T) → Tb T
  | [] => .e
  | e :: l => (tabOf l).put e.1 e.2
theorem tabOf_mem : ∀ {l : List (Nat × T)} {g : Nat} {t : T}, (tabOf l).get g = some t → (g, t) ∈ l
  | [], g, t, h => by rw [tabOf, Tb.get_e] at h; cases h
  | e :: l, g, t, h => by
    rcases Tb.get_put h with ⟨rfl, rfl⟩ | ⟨_, h⟩
    · exact .head _
    · exact .tail _ (tabOf_mem h)
noncomputable def famE (tab : Tb T) (K : Nat) (n : Nat) : EvF :=
  Nat.rec (motive := fun _ => EvF) (fun _ _ => none) (fun _ ih f args => match tab.get f with
    | some t => t.ev ih K (Ev.puts ⟨[], 0⟩ args)
    | none => none) n
theorem famE_succ (tab : Tb T) (K n f : Nat) (args : List Dt) : famE tab K (n + 1) f args = match tab.get f with
    | some t => t.ev (famE tab K n) K (Ev.puts ⟨[], 0⟩ args)
    | none => none := rfl
def sE (tab : Tb T) (K n g : Nat) : Spec := fun is Q => ∃ c r, famE tab K n g is = some (c, r) ∧ Q c r
theorem sE_mono (tab : Tb T) (K n g : Nat) : SMono (sE tab K n g) := fun _ _ _ h ⟨c, r, h1, h2⟩ => ⟨c, r, h1, h _ _ h2⟩
structure Mem where
  f : Nat
  g : Nat
  sig : Sig
  un : Bool
  ow : List Nat
  mv : Bool
  t : T
def Mem.ct (tab : Tb T) (K n : Nat) (m : Mem) : Ct := (m.f, m.g, m.sig, sE tab K n m.g)
def Mem.c0 (m : Mem) : Ct := (m.f, m.g, m.sig, s0)
theorem spOf_congr {α : Type} {a b : α → Ct} (h : ∀ x, (a x).1 = (b x).1 ∧ (a x).2.1 = (b x).2.1 ∧ (a x).2.2.1 = (b x).2.2.1) : ∀ (l : List α) (f : Nat), spOf (l.map a) f = spOf (l.map b) f
  | [], _ => rfl
  | x :: l, f => by
    simp only [List.map_cons, spOf, (h x).1, (h x).2.1, (h x).2.2, spOf_congr h l f]
theorem nums_map {α : Type} {a b : α → Ct} (h : ∀ x, (a x).2.1 = (b x).2.1) : ∀ (l : List α), (l.map a).map (·.2.1) = (l.map b).map (·.2.1)
  | [] => rfl
  | x :: l => by simp only [List.map_cons, h x, nums_map h l]
theorem numsOk_congr {α : Type} {a b : α → Ct} (h : ∀ x, (a x).2.1 = (b x).2.1) : ∀ (l : List α), numsOk (l.map a) = numsOk (l.map b)
  | [] => rfl
  | x :: l => by simp only [List.map_cons, numsOk, h x, nums_map h l, numsOk_congr h l]
theorem fam_ok {X : Pg} (hX : X.Ok) {ms : List Mem} {tab : Tb T} (K : Nat) (hn : numsOk (ms.map Mem.c0) = true) (htab : tabOf (ms.map fun m => (m.g, m.t)) = tab)
    (ht : ∀ m ∈ ms, sxFunc (X.cfg (ms.map Mem.c0) (fun _ => m.un) (fun _ => m.ow) m.mv) 400 m.f m.sig = m.t) :
    ∀ n, ∀ m ∈ ms, Ent X (m.ct tab K n)
  | 0, m, hm => ⟨fun fz w β vs d1 d2 f1 f2 Q hg hz r1 r2 hnd hfp hβ hF => by
      obtain ⟨c, r, h, _⟩ := hF
      (cases h), sE_mono _ _ _ _⟩
  | n + 1, m, hm => by
    have ih := fam_ok hX K hn htab ht n
    have hsp : ∀ f, spOf (ms.map (Mem.ct tab K n)) f = spOf (ms.map Mem.c0) f := fun f => spOf_congr (a := Mem.ct tab K n) (b := Mem.c0) (fun x => ⟨rfl, rfl, rfl⟩) ms f
    have hcfg : X.cfg (ms.map (Mem.ct tab K n)) (fun _ => m.un) (fun _ => m.ow) m.mv = X.cfg (ms.map Mem.c0) (fun _ => m.un) (fun _ => m.ow) m.mv := by
      simp only [Pg.cfg, Pg.cfgL, funext hsp]
    have hn' : numsOk (ms.map (Mem.ct tab K n)) = true := (numsOk_congr (a := Mem.ct tab K n) (b := Mem.c0) (fun x => rfl) ms).trans hn
    have ht' : sxFunc (X.cfg (ms.map (Mem.ct tab K n)) (fun _ => m.un) (fun _ => m.ow) m.mv) 400 m.f m.sig = m.t := hcfg ▸ ht m hm
    refine ent_of hX hn' (fun e he => ?_) ht' (sE_mono _ _ _ _) fun is Q _ hs => ?_
    · obtain ⟨m', hm', rfl⟩ := List.mem_map.1 he
      exact ih m' hm'
    · obtain ⟨c, r, h1, h2⟩ := hs
      rw [famE_succ] at h1
      split at h1
      · rename_i t hg
        have hmem := tabOf_mem (by rw [htab]; exact hg : (tabOf (ms.map fun m => (m.g, m.t))).get m.g = some t)
        obtain ⟨m', hm', he⟩ := List.mem_map.1 hmem
        injection he with e1 e2
        have : m.t = t := by
          have : ∀ {l : List Mem}, numsOk (l.map Mem.c0) = true → m ∈ l → m' ∈ l → m' = m := by
            intro l
            induction l with
            | nil => intro _ h; cases h
            | cons y l ihl =>
              intro hk h1 h2
              simp only [List.map_cons, numsOk, Bool.and_eq_true, Bool.not_eq_true'] at hk
              have no : ∀ z ∈ l, z.g = y.g → False := fun z hz e => by
                have := memN_iff (List.mem_map.2 ⟨_, List.mem_map.2 ⟨z, hz, rfl⟩, e⟩ : y.g ∈ (l.map Mem.c0).map (·.2.1))
                have hk2 := hk.1.2
                simp only [Mem.c0] at hk2 this
                rw [this] at hk2
                cases hk2
              rcases List.mem_cons.1 h1 with k1 | k1 <;> rcases List.mem_cons.1 h2 with k2 | k2
              · rw [k1, k2]
              · exact (no _ k2 (by rw [← k1]; exact e1)).elim
              · exact (no _ k1 (by rw [← k2]; exact e1.symm)).elim
              · exact ihl hk.2 k1 k2
          rw [← e2, this hn hm hm']
        subst this
        rw [T.ev_eqC] at h1
        have := T.evC_ok (ty := X.ty) (F := fOf (ms.map (Mem.ct tab K n))) (FE := famE tab K n) (fun f args c r Q' hfe hQ' => ?_) m.t _ c r Q (Ev.puts_ok (v := ⟨[], 0⟩) rfl is) h1 h2
        · rw [Ev.puts_is] at this
          exact this
        · cases n with
          | zero => cases hfe
          | succ n =>
            have hfe' := hfe
            rw [famE_succ] at hfe'
            split at hfe'
            · rename_i t' hg'
              have hmem' := tabOf_mem (by rw [htab]; exact hg' : (tabOf (ms.map fun m => (m.g, m.t))).get f = some t')
              obtain ⟨m2, hm2, he2⟩ := List.mem_map.1 hmem'
              injection he2 with e3 e4
              subst e3
              exact (fOf_get hn' (List.mem_map.2 ⟨m2, hm2, rfl⟩ : Mem.ct tab K (n + 1) m2 ∈ _) args Q').2 ⟨c, r, hfe, hQ'⟩
            · cases hfe'
      · cases h1
section
variable {ty : Ty} {fz : Fz} {w : World} {β : Bt}
theorem lit_in : ∀ {ss : List Sh} {ds : List Dt} {a : List Sh} {vs : List Value} {d : List Dt} {f : List Nat}, litSh ss ds = some a → ShRL ty fz w β a vs d f → d = [] ∧ f = [] ∧ ShRL ty fz w β ss vs ds []
  | [], [], a, vs, d, f, h, hr => by
    simp only [litSh] at h; cases h
    simp only [ShRL] at hr ⊢
    exact ⟨hr.2.1, hr.2.2, hr.1, trivial, trivial⟩
  | .dat t :: ss, x :: ds, a, vs, d, f, h, hr => by
    simp only [litSh] at h
    split at h
    · rename_i r hr1
      cases h
      simp only [ShRL] at hr ⊢
      obtain ⟨V, vr, cs, d1, d2, f1, f2, rfl, rfl, rfl, hv, hs, hl⟩ := hr
      obtain ⟨rfl, rfl, hl2⟩ := lit_in hr1 hl
      simp only [ShR] at hs
      obtain ⟨rfl, rfl, hs⟩ := hs
      refine ⟨rfl, rfl, V, vr, cs, [x], ds, [], [], rfl, rfl, rfl, hv, ?_, hl2⟩
      simp only [ShR]
      exact ⟨trivial, x, rfl, hs⟩
    · cases h
  | [], _ :: _, _, _, _, _, h, _ => by simp only [litSh] at h; cases h
  | .dat _ :: _, [], _, _, _, _, h, _ => by simp only [litSh] at h; cases h
  | .lit _ _ :: _, _, _, _, _, _, h, _ | .own _ :: _, _, _, _, _, _, h, _ | .ptr _ :: _, _, _, _, _, _, h, _ | .map _ :: _, _, _, _, _, _, h, _ | .con _ :: _, _, _, _, _, _, h, _ | .fn _ _ _ :: _, _, _, _, _, _, h, _ | .ifc _ _ :: _, _, _, _, _, _, h, _ => by simp only [litSh] at h; cases h
theorem lit_out : ∀ {ss : List Sh} {rs : List Dt} {b : List Sh} {vs : List Value} {f : List Nat}, litSh ss rs = some b → ShRL ty fz w β ss vs rs f → f = [] ∧ ShRL ty fz w β b vs [] []
  | [], [], b, vs, f, h, hr => by
    simp only [litSh] at h; cases h
    simp only [ShRL] at hr ⊢
    exact ⟨hr.2.2, hr.1, trivial, trivial⟩
  | .dat t :: ss, x :: rs, b, vs, f, h, hr => by
    simp only [litSh] at h
    split at h
    · rename_i r hr1
      cases h
      simp only [ShRL] at hr
      obtain ⟨V, vr, cs, d1, d2, f1, f2, rfl, hd, rfl, hv, hs, hl⟩ := hr
      simp only [ShR] at hs
      obtain ⟨rfl, y, rfl, hs⟩ := hs
      simp only [List.cons_append, List.nil_append, List.cons.injEq] at hd
      obtain ⟨rfl, rfl⟩ := hd
      obtain ⟨rfl, hl2⟩ := lit_out hr1 hl
      refine ⟨rfl, ?_⟩
      simp only [ShRL]
      refine ⟨V, vr, cs, [], [], [], [], rfl, rfl, rfl, hv, ?_, hl2⟩
      simp only [ShR]
      exact ⟨trivial, trivial, hs⟩
    · cases h
  | [], _ :: _, _, _, _, h, _ => by simp only [litSh] at h; cases h
  | .dat _ :: _, [], _, _, _, h, _ => by simp only [litSh] at h; cases h
  | .lit _ _ :: _, _, _, _, _, h, _ | .own _ :: _, _, _, _, _, h, _ | .ptr _ :: _, _, _, _, _, h, _ | .map _ :: _, _, _, _, _, h, _ | .con _ :: _, _, _, _, _, h, _ | .fn _ _ _ :: _, _, _, _, _, h, _ | .ifc _ _ :: _, _, _, _, _, h, _ => by simp only [litSh] at h; cases h
end
noncomputable def evFn (tab : Tb T) (K n g : Nat) (ds : List Dt) : Option (List Dt) := match famE tab K n g ds with
  | some (c, rs) => bif Nat.beq c 0 then some rs else none
  | none => none
def plainSig (s : Sig) : Bool := match s.bl, s.out.bl with
  | [], [] => true
  | _, _ => false
theorem lit_con {X : Pg} {tab : Tb T} {K n f g : Nat} {sig sg : Sig} (hp : plainSig sig = true) (h : Ent X (f, g, sig, sE tab K n g)) {ds rs : List Dt} (hev : evFn tab K n g ds = some rs) (hs : litSig sig ds rs = some sg) : ConOk X.P X.ty X.gl (fun _ => s0) 0 f sg := by
  unfold litSig at hs
  split at hs
  · rename_i a b ha hb
    cases hs
    unfold plainSig at hp
    split at hp
    · rename_i hbl hobl
      intro fz w β vs d1 d2 f1 f2 Q hg hz r1 r2 hnd hfp hβ hF
      obtain ⟨rfl, rfl, r1'⟩ := lit_in ha r1
      simp only [BlR] at r2
      obtain ⟨rfl, rfl⟩ := r2
      have hfe : famE tab K n g ds = some (0, rs) := by
        unfold evFn at hev
        split at hev
        · rename_i c r hc
          cases hcb : Nat.beq c 0 <;> rw [hcb] at hev <;> simp only [cond_true, cond_false] at hev
          · cases hev
          · cases hev
            rw [hc, Nat.eq_of_beq_eq_true hcb]
        · cases hev
      have := h.1 fz w β vs ds [] [] [] (fun c r => c = 0 ∧ r = rs) hg hz r1' (by rw [hbl]; simp only [BlR]; exact ⟨trivial, trivial⟩) (by simp) (by simp) (fun j hh hj => by rw [hbl]; exact hβ j hh hj) ⟨0, rs, by rw [List.append_nil]; exact hfe, rfl, rfl⟩
      refine CallSem.mono this ?_ ?_
      · rintro V w' ⟨r, ⟨_, rfl⟩, fz', β', us, e1, e2, g1, g2, hr, hV, q1, q2, q3, q4, q5, q6, q7, q8, q9, q10, q11, q12⟩
        rw [hobl] at q2 q6 q7
        rw [hbl] at q7
        simp only [BlR] at q2
        obtain ⟨rfl, rfl⟩ := q2
        rw [List.append_nil] at hr
        subst hr
        obtain ⟨rfl, q1'⟩ := lit_out hb q1
        refine ⟨[], hF.2, fz', β', us, [], [], [], [], rfl, hV, q1', ?_, by simp, by simp, q5, q6, Nat.le_refl _, q8, q9, q10, q11, q12⟩
        simp only [BlR]; exact ⟨trivial, trivial⟩
      · rintro V w' ⟨o, r, _, ⟨h0, _⟩, _⟩
        cases h0
    · cases hp
  · cases hs
noncomputable def lvOf (tab : Tb T) (K n : Nat) : List (Nat × Nat × Sig) → Lv
  | [], _ => none
  | e :: l, f => bif Nat.beq e.1 f then some (e.2.2, evFn tab K n e.2.1) else lvOf tab K n l f
theorem lvOf_ok {X : Pg} {tab : Tb T} {K n : Nat} : ∀ {l : List (Nat × Nat × Sig)}, (∀ e ∈ l, plainSig e.2.2 = true ∧ Ent X (e.1, e.2.1, e.2.2, sE tab K n e.2.1)) → LvOk X (lvOf tab K n l)
  | [], _, f, x, h => nomatch h
  | e :: l, hl, f, x, h => by
    simp only [lvOf] at h
    cases hb : Nat.beq e.1 f <;> rw [hb] at h <;> simp only [cond_true, cond_false] at h
    · exact lvOf_ok (fun y hy => hl y (.tail _ hy)) f x h
    · cases h
      have := Nat.eq_of_beq_eq_true hb
      subst this
      intro ds rs sig h1 h2
      exact lit_con (hl e (.head _)).1 (hl e (.head _)).2 h1 h2
end
end Go.SY
