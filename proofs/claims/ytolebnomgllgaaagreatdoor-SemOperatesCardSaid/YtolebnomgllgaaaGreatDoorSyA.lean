/- The symbolic executor SY (SX over data in memory), part A: data, atoms, truths, numbers, values (definitions alone). -/
import Derived.Calls
import Derived.Orders
import Derived.OrdersHeld
import Derived.LoopN
import Derived.Below
import Derived.KernelRfl
set_option linter.unusedVariables false
namespace Go.SY
open Go
noncomputable section
inductive Dt where
  | num (x : Int)
  | tru (x : Bool)
  | byt (x : List UInt8)
  | nil
  | row (x : List Dt)
  | tup (x : List Dt)
  deriving Inhabited, Repr
def Dt.int : Dt → Int
  | .num x => x
  | _ => 0
def Dt.bool : Dt → Bool
  | .tru x => x
  | _ => false
def Dt.str : Dt → List UInt8
  | .byt x => x
  | _ => []
def Dt.list : Dt → List Dt
  | .row x | .tup x => x
  | _ => []
def Dt.fld (x : Dt) (i : Nat) : Dt := x.list.getD i .nil
def Dt.len : Dt → Nat
  | .row x => x.length
  | .byt x => x.length
  | _ => 0
def Dt.idx (x : Dt) (n : Nat) : Dt := match x with
  | .byt y => .num ((y.getD n 0).toNat : Int)
  | x => x.list.getD n .nil
def Dt.isNil : Dt → Bool
  | .nil => true
  | _ => false
def Dt.isShp (n : Nat) : Dt → Bool
  | .tup x => Nat.beq x.length n
  | _ => false
def bsEq : List UInt8 → List UInt8 → Bool
  | [], [] => true
  | a :: x, b :: y => Nat.beq a.toNat b.toNat && bsEq x y
  | _, _ => false
def bsLt : List UInt8 → List UInt8 → Bool
  | [], [] => false
  | [], _ :: _ => true
  | _ :: _, [] => false
  | a :: x, b :: y => bif Nat.blt a.toNat b.toNat then true else bif Nat.beq a.toNat b.toNat then bsLt x y else false
mutual
def Dt.beq : Dt → Dt → Bool
  | .num a, .num b => a == b
  | .tru a, .tru b => a == b
  | .byt a, .byt b => bsEq a b
  | .nil, .nil => true
  | .row a, .row b => Dt.beqs a b
  | .tup a, .tup b => Dt.beqs a b
  | _, _ => false
def Dt.beqs : List Dt → List Dt → Bool
  | [], [] => true
  | x :: xs, y :: ys => x.beq y && Dt.beqs xs ys
  | _, _ => false
end
def Dt.cat (x y : Dt) : Dt := match x, y.list with
  | .nil, [] => .nil
  | x, l => .row (x.list ++ l)
def Dt.cut (x : Dt) (lo hi : Nat) : Dt := match x with
  | .nil => .nil
  | x => .row ((x.list.take hi).drop lo)
def Dt.cpy (x y : Dt) : Dt := match x with
  | .nil => .nil
  | x => .row (y.list.take x.list.length ++ x.list.drop y.list.length)
inductive A where
  | v (i : Nat)
  | n (c : Int)
  | d (x : Dt)
  | fld (a : A) (i : Nat)
  | len (a : A)
  | idx (a i : A)
  | slen (a : A)
  | sidx (a i : A)
  deriving Inhabited, Repr
def A.den (is : List Dt) : A → Dt
  | .v i => is.getD i .nil
  | .n c => .num c
  | .d x => x
  | .fld a i => (a.den is).fld i
  | .len a => .num (a.den is).len
  | .idx a i => (a.den is).idx (i.den is).int.toNat
  | .slen a => .num (a.den is).str.length
  | .sidx a i => .num ((a.den is).str.getD (i.den is).int.toNat 0).toNat
def A.int (is : List Dt) (a : A) : Int := (a.den is).int
def A.lit : A → Bool
  | .v _ => false
  | .n _ | .d _ => true
  | .fld a _ => a.lit
  | .len a | .slen a => a.lit
  | .idx a i | .sidx a i => a.lit && i.lit
def A.wf (ni : Nat) : A → Bool
  | .v i => Nat.blt i ni
  | .n _ | .d _ => true
  | .fld a _ => a.wf ni
  | .len a | .slen a => a.wf ni
  | .idx a i | .sidx a i => a.wf ni && i.wf ni
def A.beq : A → A → Bool
  | .v i, .v j => Nat.beq i j
  | .n a, .n c => a == c
  | .d x, .d y => x.beq y
  | .fld a i, .fld b j => Nat.beq i j && a.beq b
  | .len a, .len b => a.beq b
  | .idx a i, .idx b j => a.beq b && i.beq j
  | .slen a, .slen b => a.beq b
  | .sidx a i, .sidx b j => a.beq b && i.beq j
  | _, _ => false
def A.ofDt : Dt → A
  | .num c => .n c
  | x => .d x
def A.mkFld (a : A) (i : Nat) : A := match a with
  | .d x => .ofDt (x.fld i)
  | a => .fld a i
def A.mkLen (a : A) : A := match a with
  | .d x => .n x.len
  | a => .len a
def A.mkIdx (a i : A) : A := match a, i with
  | .d x, .n c => .ofDt (x.idx c.toNat)
  | a, i => .idx a i
def A.mkSlen (a : A) : A := match a with
  | .d x => .n x.str.length
  | a => .slen a
def A.mkSidx (a i : A) : A := match a, i with
  | .d x, .n c => .n (x.str.getD c.toNat 0).toNat
  | a, i => .sidx a i
inductive Cm where
  | eq | lt
  deriving DecidableEq, Inhabited, Repr
inductive B where
  | c (b : Bool)
  | cmp (o : Cm) (x y : A)
  | is (x : A)
  | seq (x y : A)
  | slt (x y : A)
  | deq (x y : A)
  | nil (x : A)
  | shp (x : A) (n : Nat)
  | not (b : B)
  | and (x y : B)
  | or (x y : B)
  deriving Inhabited, Repr
def Cm.den : Cm → Int → Int → Bool
  | .eq, x, y => x == y
  | .lt, x, y => decide (x < y)
def B.den (is : List Dt) : B → Bool
  | .c b => b
  | .cmp o x y => o.den (x.int is) (y.int is)
  | .is x => (x.den is).bool
  | .seq x y => bsEq (x.den is).str (y.den is).str
  | .slt x y => bsLt (x.den is).str (y.den is).str
  | .deq x y => (x.den is).beq (y.den is)
  | .nil x => (x.den is).isNil
  | .shp x n => (x.den is).isShp n
  | .not b => !b.den is
  | .and x y => x.den is && y.den is
  | .or x y => x.den is || y.den is
def B.lit : B → Bool
  | .c _ => true
  | .cmp _ x y | .seq x y | .slt x y | .deq x y => x.lit && y.lit
  | .is x | .nil x | .shp x _ => x.lit
  | .not b => b.lit
  | .and x y => x.lit && y.lit
  | .or x y => x.lit && y.lit
def B.wf (ni : Nat) : B → Bool
  | .c _ => true
  | .cmp _ x y | .seq x y | .slt x y | .deq x y => x.wf ni && y.wf ni
  | .is x | .nil x | .shp x _ => x.wf ni
  | .not b => b.wf ni
  | .and x y => x.wf ni && y.wf ni
  | .or x y => x.wf ni && y.wf ni
def Cm.beq : Cm → Cm → Bool
  | .eq, .eq | .lt, .lt => true
  | _, _ => false
def B.beq : B → B → Bool
  | .c a, .c b => a == b
  | .cmp o x y, .cmp o' x' y' => o.beq o' && x.beq x' && y.beq y'
  | .is x, .is y => x.beq y
  | .nil x, .nil y => x.beq y
  | .shp x n, .shp y m => Nat.beq n m && x.beq y
  | .seq x y, .seq x' y' | .slt x y, .slt x' y' | .deq x y, .deq x' y' => x.beq x' && y.beq y'
  | .not a, .not b => a.beq b
  | .and p q, .and r s => p.beq r && q.beq s
  | .or p q, .or r s => p.beq r && q.beq s
  | _, _ => false
def B.mkNot : B → B
  | .c b => .c (!b)
  | .not b => b
  | b => .not b
def B.mkAnd : B → B → B
  | .c true, y => y
  | .c false, _ => .c false
  | x, .c true => x
  | _, .c false => .c false
  | x, y => .and x y
def B.mkOr : B → B → B
  | .c true, _ => .c true
  | .c false, y => y
  | x, .c false => x
  | _, .c true => .c true
  | x, y => .or x y
def B.fold (b : B) : B := bif b.lit then .c (b.den []) else b
def B.mkEq (x y : A) : B := bif x.lit && y.lit then .c (x.int [] == y.int []) else bif x.beq y then .c true else .cmp .eq x y
def negLen : A → A → Bool
  | .len _, .n c | .slen _, .n c => decide (c ≤ 0)
  | _, _ => false
def B.mkLt (x y : A) : B := bif x.lit && y.lit then .c (decide (x.int [] < y.int [])) else bif x.beq y || negLen x y then .c false else .cmp .lt x y
def B.mkIs (b : B) (want : Bool) : B := bif want then b else b.mkNot
inductive E where
  | add (k : IntKind) (x y : A)
  | sub (k : IntKind) (x y : A)
  | mul (k : IntKind) (x y : A)
  | quo (k : IntKind) (x y : A)
  | rem (x y : A)
  | band (k : IntKind) (x y : A)
  | bor (k : IntKind) (x y : A)
  | bxor (k : IntKind) (x y : A)
  | bclr (k : IntKind) (x y : A)
  | shl (k : IntKind) (x y : A)
  | shr (k : IntKind) (x y : A)
  | wrap (k : IntKind) (x : A)
  | mn (x y : A)
  | mx (x y : A)
  | neg (k : IntKind) (x : A)
  | com (k : IntKind) (x : A)
  | sel (c : B) (x y : A)
  | boo (b : B)
  | mk (l : List A)
  | lst (l : List A)
  | cpy (x y : A)
  | cat (x y : A)
  | scat (x y : A)
  | cut (x lo hi : A)
  | scut (x lo hi : A)
  | set (x i y : A)
  | setf (x : A) (f : Nat) (y : A)
  | rep (n y : A)
  | ofBs (x : A)
  | toBs (x : A)
  deriving Inhabited, Repr
def bitsOf (k : IntKind) (f : BitVec k.bits → BitVec k.bits → BitVec k.bits) (x y : Int) : Int := k.wrap (f (BitVec.ofInt k.bits x) (BitVec.ofInt k.bits y)).toNat
def E.den (is : List Dt) : E → Dt
  | .add k x y => .num (k.wrap (x.int is + y.int is))
  | .sub k x y => .num (k.wrap (x.int is - y.int is))
  | .mul k x y => .num (k.wrap (x.int is * y.int is))
  | .quo k x y => .num (k.wrap ((x.int is).tdiv (y.int is)))
  | .rem x y => .num ((x.int is).tmod (y.int is))
  | .band k x y => .num (bitsOf k (· &&& ·) (x.int is) (y.int is))
  | .bor k x y => .num (bitsOf k (· ||| ·) (x.int is) (y.int is))
  | .bxor k x y => .num (bitsOf k (· ^^^ ·) (x.int is) (y.int is))
  | .bclr k x y => .num (bitsOf k (fun a b => a &&& ~~~b) (x.int is) (y.int is))
  | .shl k x y => .num (k.wrap (x.int is * 2 ^ (min (y.int is).toNat k.bits)))
  | .shr k x y => .num ((x.int is).fdiv (2 ^ (min (y.int is).toNat k.bits)))
  | .wrap k x => .num (k.wrap (x.int is))
  | .mn x y => .num (if y.int is < x.int is then y.int is else x.int is)
  | .mx x y => .num (if y.int is > x.int is then y.int is else x.int is)
  | .neg k x => .num (k.wrap (0 - x.int is))
  | .com k x => .num (bitsOf k (· ^^^ ·) (if k.signed then -1 else k.max) (x.int is))
  | .sel c x y => if c.den is then x.den is else y.den is
  | .boo c => .tru (c.den is)
  | .mk x => .tup (x.map (·.den is))
  | .lst x => .row (x.map (·.den is))
  | .cpy x y => (x.den is).cpy (y.den is)
  | .cat x y => (x.den is).cat (y.den is)
  | .scat x y => .byt ((x.den is).str ++ (y.den is).str)
  | .cut x lo hi => (x.den is).cut (lo.int is).toNat (hi.int is).toNat
  | .scut x lo hi => .byt (((x.den is).str.take (hi.int is).toNat).drop (lo.int is).toNat)
  | .set x i y => .row ((x.den is).list.set (i.int is).toNat (y.den is))
  | .setf x f y => .tup ((x.den is).list.set f (y.den is))
  | .rep n y => .row (List.replicate (n.int is).toNat (y.den is))
  | .ofBs x => .byt ((x.den is).list.map fun d => UInt8.ofNat d.int.toNat)
  | .toBs x => .row ((x.den is).str.map fun c => .num c.toNat)
def litA : List A → Bool
  | [] => true
  | x :: l => x.lit && litA l
def wfA (ni : Nat) : List A → Bool
  | [] => true
  | x :: l => x.wf ni && wfA ni l
def E.lit : E → Bool
  | .add _ x y | .sub _ x y | .mul _ x y | .quo _ x y | .rem x y | .band _ x y | .bor _ x y | .bxor _ x y | .bclr _ x y | .shl _ x y | .shr _ x y | .mn x y | .mx x y | .cpy x y | .cat x y | .scat x y | .setf x _ y | .rep x y => x.lit && y.lit
  | .wrap _ x | .neg _ x | .com _ x | .ofBs x | .toBs x => x.lit
  | .sel c x y => c.lit && x.lit && y.lit
  | .boo b => b.lit
  | .mk l | .lst l => litA l
  | .cut x y z | .scut x y z | .set x y z => x.lit && y.lit && z.lit
def E.wf (ni : Nat) : E → Bool
  | .add _ x y | .sub _ x y | .mul _ x y | .quo _ x y | .rem x y | .band _ x y | .bor _ x y | .bxor _ x y | .bclr _ x y | .shl _ x y | .shr _ x y | .mn x y | .mx x y | .cpy x y | .cat x y | .scat x y | .setf x _ y | .rep x y => x.wf ni && y.wf ni
  | .wrap _ x | .neg _ x | .com _ x | .ofBs x | .toBs x => x.wf ni
  | .sel c x y => c.wf ni && x.wf ni && y.wf ni
  | .boo b => b.wf ni
  | .mk l | .lst l => wfA ni l
  | .cut x y z | .scut x y z | .set x y z => x.wf ni && y.wf ni && z.wf ni
inductive SV where
  | int (k : IntKind) (a : A)
  | bool (b : B)
  | str (a : A)
  | sl (b : Nat)
  | pt (b : Nat)
  | ptr (b off : Nat)
  | rp (b : Nat) (s : Nat) (i : A) (off : Nat) (path : List Nat)
  | gptr (g off : Nat)
  | nilp
  | slice (b off len cap : Nat)
  | nilsl
  | map (b : Nat)
  | nilmap
  | fn (f : Fn) (first captured : List SV)
  | nilfn
  | agg (l : List SV)
  | tup (l : List SV)
  | iface (t : Nat) (v : SV)
  | niliface
  | gd (c : B) (want : Bool) (v : SV)
  | bot
  deriving Inhabited, Repr
inductive Key where
  | b (n : Nat)
  | h (n : Nat)
  deriving DecidableEq
instance : Coe Nat Key := ⟨Key.b⟩
structure Env where
  is : List Dt
  bs : List (Nat × Value)
  fz : Key → Option Obj
def Env.b (ρ : Env) (i : Nat) : Nat := (ρ.bs.getD i (0, undef)).1
def one1 : Value → Value
  | .slice a n c => .slice a n c
  | .pointer a => .pointer a
  | _ => .pointer none
def Env.val (ρ : Env) (i : Nat) : Value := one1 (ρ.bs.getD i (0, undef)).2
def Env.rb (ρ : Env) (i : Nat) : Nat := match ρ.val i with
  | .slice (some a) _ _ => a.block
  | _ => ρ.b i
def bytesOf (l : List UInt8) : Value := .string ⟨l.toArray⟩
mutual
def SV.den (ρ : Env) : SV → Value
  | .int k a => .int k (a.int ρ.is)
  | .bool b => .bool (b.den ρ.is)
  | .str a => bytesOf (a.den ρ.is).str
  | .sl b => ρ.val b
  | .pt b => ρ.val b
  | .ptr b off => .pointer (some ⟨ρ.b b, off, none⟩)
  | .rp b s i off _ => .pointer (some ⟨ρ.rb b, (i.int ρ.is).toNat * s + off, none⟩)
  | .gptr g off => .pointer (some ⟨g, off, none⟩)
  | .nilp => .pointer none
  | .slice b off len cap => .slice (some ⟨ρ.b b, off, none⟩) len cap
  | .nilsl => .slice none 0 0
  | .map b => .map (some (ρ.b b))
  | .nilmap => .map none
  | .fn f first cap => .func f (SV.dens ρ first).toArray (SV.dens ρ cap).toArray
  | .nilfn => .nilFunc
  | .agg l => .agg (SV.dens ρ l).toArray
  | .tup l => .tuple (SV.dens ρ l).toArray
  | .iface t v => .iface t (SV.den ρ v)
  | .niliface => .nilIface
  | .gd c want v => if c.den ρ.is = want then SV.den ρ v else undef
  | .bot => undef
def SV.dens (ρ : Env) : List SV → List Value
  | [] => []
  | v :: l => SV.den ρ v :: SV.dens ρ l
end
def SV.cell : SV → Bool
  | .agg _ | .tup _ | .gd _ _ _ | .bot => false
  | _ => true
def allCell : List SV → Bool
  | [] => true
  | v :: l => v.cell && allCell l
mutual
def SV.wf (ni nb : Nat) : SV → Bool
  | .int _ a | .str a => a.wf ni
  | .bool b => b.wf ni
  | .gptr _ _ | .nilp | .nilsl | .nilmap | .nilfn | .niliface => true
  | .sl b | .pt b | .ptr b _ | .slice b _ _ _ | .map b => Nat.blt b nb
  | .rp b _ i _ _ => Nat.blt b nb && i.wf ni
  | .fn _ first cap => SV.wfs ni nb first && SV.wfs ni nb cap
  | .agg l => SV.wfs ni nb l && allCell l
  | .tup l => SV.wfs ni nb l
  | .iface _ v => SV.wf ni nb v
  | .gd c _ v => c.wf ni && SV.wf ni nb v
  | .bot => false
def SV.wfs (ni nb : Nat) : List SV → Bool
  | [] => true
  | v :: l => SV.wf ni nb v && SV.wfs ni nb l
end
inductive SO where
  | cells (c : List SV) (e : TypeId)
  | rowd (e s : Nat) (a : A)
  | map (es : List (SV × SV × Nat)) (clock : Nat)
  | val (c : B) (t : TypeId) (a : A)
  | at (c : B) (t : TypeId) (a : A)
  | pool (e s : Nat) (a : A)
  | mset (es : List (SV × SV × Nat))
  | gone
  deriving Inhabited, Repr
def esWf (ni nb : Nat) : List (SV × SV × Nat) → Bool
  | [] => true
  | e :: l => SV.wf ni nb e.1 && SV.wf ni nb e.2.1 && esWf ni nb l
def SO.wf (ni nb : Nat) : SO → Bool
  | .cells c _ => SV.wfs ni nb c && allCell c
  | .rowd _ _ a => a.wf ni
  | .map es _ => esWf ni nb es
  | .val c _ a | .at c _ a => c.wf ni && a.wf ni
  | .pool _ _ a => a.wf ni
  | .mset es => esWf ni nb es
  | .gone => true
inductive Tb (α : Type) where
  | e
  | n (l : Tb α) (v : Option α) (r : Tb α)
  deriving Inhabited, Repr
def Tb.getC {α : Type} : Tb α → Nat → Option α
  | .e, _ => none
  | .n l v r, i =>
    match i with
    | 0 => v
    | i + 1 => bif Nat.beq (Nat.mod i 2) 0 then l.getC (Nat.div i 2) else r.getC (Nat.div i 2)
noncomputable def Tb.get {α : Type} (t : Tb α) : Nat → Option α :=
  Tb.rec (motive := fun _ => Nat → Option α) (fun _ => none) (fun _ v _ gl gr i =>
    Nat.rec (motive := fun _ => Option α) v (fun j _ => Bool.rec (motive := fun _ => Option α) (gr (Nat.div j 2)) (gl (Nat.div j 2)) (Nat.beq (Nat.mod j 2) 0)) i) t
theorem Tb.get_eq : @Tb.get = @Tb.getC := by
  funext α t
  induction t with
  | e => rfl
  | n l v r hl hr =>
    funext i
    cases i with
    | zero => rfl
    | succ j =>
      show Bool.rec (motive := fun _ => Option α) (Tb.get r (Nat.div j 2)) (Tb.get l (Nat.div j 2)) (Nat.beq (Nat.mod j 2) 0) = bif Nat.beq (Nat.mod j 2) 0 then l.getC (Nat.div j 2) else r.getC (Nat.div j 2)
      rw [hl, hr]
      cases Nat.beq (Nat.mod j 2) 0 <;> rfl
def Tb.setC {α : Type} : Nat → Tb α → Nat → α → Tb α
  | 0, _, _, _ => .e
  | f + 1, .e, i, x =>
    match i with
    | 0 => .n .e (some x) .e
    | i + 1 => bif Nat.beq (Nat.mod i 2) 0 then .n (Tb.setC f .e (Nat.div i 2) x) none .e else .n .e none (Tb.setC f .e (Nat.div i 2) x)
  | f + 1, .n l v r, i, x =>
    match i with
    | 0 => .n l (some x) r
    | i + 1 => bif Nat.beq (Nat.mod i 2) 0 then .n (Tb.setC f l (Nat.div i 2) x) v r else .n l v (Tb.setC f r (Nat.div i 2) x)
noncomputable def Tb.frc {α : Type} (t : Tb α) (k : Tb α → Tb α) : Tb α := Tb.rec (motive := fun _ => Tb α) (k .e) (fun l v r _ _ => k (.n l v r)) t
theorem Tb.frc_eq {α : Type} (t : Tb α) (k : Tb α → Tb α) : t.frc k = k t := by cases t <;> rfl
noncomputable def Tb.set {α : Type} (f : Nat) (t : Tb α) (i : Nat) (x : α) : Tb α :=
  Nat.rec (motive := fun _ => Tb α → Nat → Tb α) (fun _ _ => .e) (fun _ ih t i =>
    Tb.rec (motive := fun _ => Tb α)
      (Nat.rec (motive := fun _ => Tb α) (.n .e (some x) .e) (fun j _ => Bool.rec (motive := fun _ => Tb α) ((ih .e (Nat.div j 2)).frc fun u => .n .e none u) ((ih .e (Nat.div j 2)).frc fun u => .n u none .e) (Nat.beq (Nat.mod j 2) 0)) i)
      (fun l v r _ _ => Nat.rec (motive := fun _ => Tb α) (.n l (some x) r) (fun j _ => Bool.rec (motive := fun _ => Tb α) ((ih r (Nat.div j 2)).frc fun u => .n l v u) ((ih l (Nat.div j 2)).frc fun u => .n u v r) (Nat.beq (Nat.mod j 2) 0)) i) t) f t i
theorem Tb.set_eq : @Tb.set = @Tb.setC := by
  funext α f t i x
  induction f generalizing t i with
  | zero => rfl
  | succ f ih =>
    cases t with
    | e =>
      cases i with
      | zero => rfl
      | succ j =>
        show Bool.rec (motive := fun _ => Tb α) ((Tb.set f .e (Nat.div j 2) x).frc fun u => .n .e none u) ((Tb.set f .e (Nat.div j 2) x).frc fun u => .n u none .e) (Nat.beq (Nat.mod j 2) 0) = bif Nat.beq (Nat.mod j 2) 0 then .n (Tb.setC f .e (Nat.div j 2) x) none .e else .n .e none (Tb.setC f .e (Nat.div j 2) x)
        rw [Tb.frc_eq, Tb.frc_eq, ih]
        cases Nat.beq (Nat.mod j 2) 0 <;> rfl
    | n l v r =>
      cases i with
      | zero => rfl
      | succ j =>
        show Bool.rec (motive := fun _ => Tb α) ((Tb.set f r (Nat.div j 2) x).frc fun u => .n l v u) ((Tb.set f l (Nat.div j 2) x).frc fun u => .n u v r) (Nat.beq (Nat.mod j 2) 0) = bif Nat.beq (Nat.mod j 2) 0 then .n (Tb.setC f l (Nat.div j 2) x) v r else .n l v (Tb.setC f r (Nat.div j 2) x)
        rw [Tb.frc_eq, Tb.frc_eq, ih, ih]
        cases Nat.beq (Nat.mod j 2) 0 <;> rfl
def Tb.put {α : Type} (t : Tb α) (i : Nat) (x : α) : Tb α := Tb.set 40 t i x
def Tb.ofL {α : Type} : List α → Nat → Tb α → Tb α
  | [], _, t => t
  | x :: l, i, t => Tb.ofL l (i + 1) (t.put i x)
inductive TD where
  | bool
  | int (k : IntKind)
  | str
  | ptr (e : Nat)
  | slice (e esz : Nat)
  | arr (n e esz : Nat)
  | map (k e : Nat)
  | struct (fs : List (Nat × Nat × Nat)) (eq : Bool)
  | func
  | iface
  | hnd (e s : Nat)
  | prow (e s : Nat)
  | other
  deriving Inhabited, Repr, DecidableEq
structure TE where
  d : TD
  size : Nat
  bytes : Nat
  zero : Option (List SV)
  deriving Inhabited, Repr
def TD.agg : TD → Bool
  | .arr _ _ _ | .struct _ _ => true
  | _ => false
def TD.isH : TD → Bool
  | .hnd _ _ | .prow _ _ => true
  | _ => false
def un (t : Nat) : Nat := bif Nat.blt t 1000000 then t else bif Nat.blt t 2000000 then Nat.sub t 1000000 else Nat.sub t 2000000
def unF : List (Nat × Nat × Nat) → List (Nat × Nat × Nat)
  | [] => []
  | f :: fs => (un f.1, f.2.1, f.2.2) :: unF fs
def TD.un : TD → TD
  | .slice e s => .slice (SY.un e) s
  | .arr n e s => .arr n (SY.un e) s
  | .struct fs q => .struct (unF fs) q
  | d => d
abbrev Ty := Tb TE
abbrev Tm := Tb SV
structure St where
  mem : Tb SO
  nb : Nat
  ni : Nat
  pc : List (B × Bool)
  df : List (Nat × List SV)
  deriving Inhabited, Repr
def tdOf (ty : Ty) (t : TypeId) : TD := match ty.get t with
  | some i => i.d
  | none => .other
mutual
def hasTy (ty : Ty) : Dt → TypeId → Bool
  | .num n, t => match tdOf ty t with
    | .int k => decide (k.min ≤ n) && decide (n ≤ k.max)
    | .hnd _ _ => decide (0 ≤ n)
    | _ => false
  | .tru _, t => match tdOf ty t with
    | .bool => true
    | _ => false
  | .byt l, t => match tdOf ty t with
    | .str => decide (l.length < 9223372036854775808)
    | _ => false
  | .nil, t => match tdOf ty t with
    | .slice _ _ => true
    | _ => false
  | .row l, t => match tdOf ty t with
    | .slice e _ => decide (l.length < 9223372036854775808) && hasTys ty l e
    | .prow e _ => hasTyR ty l e
    | _ => false
  | .tup l, t => match tdOf ty t with
    | .struct fs _ => hasTyF ty l fs
    | .arr n e _ => Nat.beq l.length n && hasTys ty l e
    | _ => false
def hasTys (ty : Ty) : List Dt → TypeId → Bool
  | [], _ => true
  | x :: l, t => hasTy ty x t && hasTys ty l t
def hasTyR (ty : Ty) : List Dt → TypeId → Bool
  | [], _ => true
  | .row x :: l, t => decide (x.length < 9223372036854775808) && hasTys ty x t && hasTyR ty l t
  | .nil :: l, t => hasTyR ty l t
  | _, _ => false
def hasTyF (ty : Ty) : List Dt → List (Nat × Nat × Nat) → Bool
  | [], [] => true
  | x :: l, f :: fs => hasTy ty x f.1 && hasTyF ty l fs
  | _, _ => false
end
def hasTyL (ty : Ty) : List Dt → List TypeId → Bool
  | [], [] => true
  | x :: l, t :: ts => hasTy ty x t && hasTyL ty l ts
  | _, _ => false
def hasTyO (ty : Ty) : List Dt → List (Option TypeId) → Bool
  | [], [] => true
  | x :: l, t :: ts => (match t with
    | some t => hasTy ty x t
    | none => true) && hasTyO ty l ts
  | _, _ => false
inductive T where
  | ret (c : Nat) (l : List A)
  | fail (why : Nat)
  | lt (o : Option TypeId) (e : E) (t : T)
  | br (c : B) (t e : T)
  | call (f : Nat) (args : List A) (ts : List TypeId) (t : T) (ps : List TypeId) (p : T)
  | again (d : Nat) (l : List A)
  | loop (d : Nat) (ts : List (Option TypeId)) (fs : List (B × Bool)) (init : List A) (body : T)
  | out (d : Nat) (t : T)
  deriving Inhabited, Repr
def factsB : List (B × Bool) → List Dt → Bool
  | [], _ => true
  | p :: l, is => (p.1.den is == p.2) && factsB l is
abbrev Post := Nat → List Dt → Prop
def iterW : Nat → (List Dt → Post → Prop) → Nat → List Dt → Post → Prop
  | 0, _, _, _, _ => False
  | k + 1, f, d, s, Q => f s fun c r => if c = d then iterW k f d r Q else Q c r
def tyO (ty : Ty) (o : Option TypeId) (x : Dt) : Prop := match o with
  | some t => hasTy ty x t = true
  | none => True
def T.wp (ty : Ty) (F : Nat → List Dt → Post → Prop) : T → List Dt → Post → Prop
  | .ret c l, is, Q => Q c (l.map (·.den is))
  | .fail _, _, _ => False
  | .lt o e t, is, Q => tyO ty o (e.den is) → t.wp ty F (is ++ [e.den is]) Q
  | .br c t e, is, Q => if c.den is = true then t.wp ty F is Q else e.wp ty F is Q
  | .call f args ts t ps p, is, Q => F f (args.map (·.den is)) fun c rs =>
      if c = 0 then hasTyL ty rs ts = true → t.wp ty F (is ++ rs) Q else if c = 1 then hasTyL ty rs ps = true → p.wp ty F (is ++ rs) Q else False
  | .again d l, is, Q => Q (d + 2) (l.map (·.den is))
  | .loop d ts fs init t, is, Q => factsB fs (is ++ init.map (·.den is)) = true ∧ ∃ K, iterW K (fun s Q => hasTyO ty s ts = true →
      t.wp ty F (is ++ s) fun c r => if c = d + 2 then factsB fs (is ++ r) = true ∧ Q c r else Q c r) (d + 2) (init.map (·.den is)) Q
  | .out d t, is, Q => t.wp ty F is fun c r => c ≠ d + 2 ∧ Q c r
def extE (is : List Dt) : List E → List Dt
  | [] => is
  | e :: es => extE (is ++ [e.den is]) es
def ofVal1 : Value → Option SV
  | .int k n => bif decide (k.min ≤ n) && decide (n ≤ k.max) then some (.int k (.n n)) else none
  | .bool b => some (.bool (.c b))
  | .string s => bif decide (s.data.toList.length < 9223372036854775808) then some (.str (.d (.byt s.data.toList))) else none
  | .pointer none => some .nilp
  | .slice none 0 0 => some .nilsl
  | .map none => some .nilmap
  | .nilFunc => some .nilfn
  | .nilIface => some .niliface
  | _ => none
def ofVals : List Value → Option (List SV)
  | [] => some []
  | v :: l => match ofVal1 v with
    | none => none
    | some s => match ofVals l with
      | none => none
      | some r => some (s :: r)
def ofVal : Value → Option SV
  | .agg cs => match ofVals cs.toList with
    | some l => some (.agg l)
    | none => none
  | .tuple cs => match ofVals cs.toList with
    | some l => some (.tup l)
    | none => none
  | v => ofVal1 v
def nth {α : Type} : List α → Nat → Option α
  | [], _ => none
  | x :: _, 0 => some x
  | _ :: l, n + 1 => nth l n
def setN {α : Type} : List α → Nat → α → List α
  | [], _, _ => []
  | _ :: l, 0, y => y :: l
  | x :: l, n + 1, y => x :: setN l n y
def dropN {α : Type} : Nat → List α → List α
  | 0, l => l
  | _ + 1, [] => []
  | n + 1, _ :: l => dropN n l
def takeN {α : Type} : Nat → List α → Option (List α)
  | 0, _ => some []
  | _ + 1, [] => none
  | n + 1, x :: l => match takeN n l with
    | some r => some (x :: r)
    | none => none
def putN {α : Type} : List α → Nat → List α → Option (List α)
  | l, 0, [] => some l
  | [], _, _ => none
  | _ :: l, 0, y :: ys => match putN l 0 ys with
    | some r => some (y :: r)
    | none => none
  | x :: l, n + 1, ys => match putN l n ys with
    | some r => some (x :: r)
    | none => none
def pcFind : List (B × Bool) → B → Option Bool
  | [], _ => none
  | (c, b) :: l, x => bif c.beq x then some b else pcFind l x
def B.facts : B → Bool → List (B × Bool)
  | .not x, b => (.not x, b) :: x.facts (!b)
  | .and x y, true => (.and x y, true) :: (x.facts true ++ y.facts true)
  | .or x y, false => (.or x y, false) :: (x.facts false ++ y.facts false)
  | x, b => [(x, b)]
def B.known (pc : List (B × Bool)) (c : B) : Option Bool :=
  match c with
  | .c b => some b
  | .not x => match x.known pc with
    | some b => some (!b)
    | none => none
  | .and x y => match pcFind pc (.and x y) with
    | some b => some b
    | none => match x.known pc, y.known pc with
      | some false, _ => some false
      | _, some false => some false
      | some true, some true => some true
      | _, _ => none
  | .or x y => match pcFind pc (.or x y) with
    | some b => some b
    | none => match x.known pc, y.known pc with
      | some true, _ => some true
      | _, some true => some true
      | some false, some false => some false
      | _, _ => none
  | x => pcFind pc x
def SV.under (pc : List (B × Bool)) : SV → SV
  | .gd c w v => match (c.mkIs w).known pc with
    | some true => v
    | _ => .gd c w v
  | v => v
def evO (pc : List (B × Bool)) (tm : Tm) : Operand → Option SV
  | .tmp t => match tm.get t with
    | some .bot => none
    | some v => some (v.under pc)
    | none => none
  | .const v => ofVal v
  | .global g => some (.gptr g 0)
  | .func f => some (.fn (.func f) [] [])
def evOs (pc : List (B × Bool)) (tm : Tm) : List Operand → Option (List SV)
  | [] => some []
  | x :: l => match evO pc tm x with
    | none => none
    | some v => match evOs pc tm l with
      | none => none
      | some r => some (v :: r)
def SV.cellsOf : SV → Option (List SV)
  | .agg l => some l
  | .tup _ | .gd _ _ _ | .bot => none
  | v => some [v]
def partL (ty : Ty) (t : TypeId) (cs : List SV) (off : Nat) : Option SV :=
  match ty.get t with
  | none => none
  | some i => bif i.d.agg then (match takeN i.size (dropN off cs) with
        | some l => some (.agg l)
        | none => none)
    else nth cs off
end
end Go.SY
