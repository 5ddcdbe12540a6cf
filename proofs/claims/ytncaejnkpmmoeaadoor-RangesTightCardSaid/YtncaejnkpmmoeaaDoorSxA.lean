/- The symbolic executor SX, part A: its terms, its state and the executor itself (definitions alone). -/
import Derived.Calls
import Derived.Orders
import Derived.OrdersHeld
import Derived.LoopN
import Derived.Below
import Derived.KernelRfl
set_option linter.unusedVariables false
namespace Go.SX
open Go

/-- An atom: a variable, or a number. -/
inductive A where
  | v (i : Nat)
  | n (c : Int)
  deriving DecidableEq, Inhabited, Repr

/-- A comparison. -/
inductive Cm where
  | eq | lt
  deriving DecidableEq, Inhabited, Repr

/-- A truth. -/
inductive B where
  | c (b : Bool)
  | cmp (o : Cm) (x y : A)
  | not (b : B)
  | and (x y : B)
  | or (x y : B)
  deriving DecidableEq, Inhabited, Repr

def A.den (is : List Int) : A → Int
  | .v i => is.getD i 0
  | .n c => c
def Cm.den : Cm → Int → Int → Bool
  | .eq, x, y => x == y
  | .lt, x, y => decide (x < y)
def B.den (is : List Int) : B → Bool
  | .c b => b
  | .cmp o x y => o.den (x.den is) (y.den is)
  | .not b => !b.den is
  | .and x y => x.den is && y.den is
  | .or x y => x.den is || y.den is

/-- A number that is reckoned. -/
inductive E where
  | add (k : IntKind) (x y : A)
  | sub (k : IntKind) (x y : A)
  | mul (k : IntKind) (x y : A)
  | quo (k : IntKind) (x y : A)
  | rem (x y : A)
  | band (k : IntKind) (x y : A)
  | bor (k : IntKind) (x y : A)
  | bxor (k : IntKind) (x y : A)
  | bclr (k : IntKind) (x y : A)
  | shl (k : IntKind) (x y : A)
  | shr (k : IntKind) (x y : A)
  | wrap (k : IntKind) (x : A)
  | sel (c : B) (x y : A)
  | mn (x y : A)
  | mx (x y : A)
  | neg (k : IntKind) (x : A)
  | com (k : IntKind) (x : A)
  | tab (s : List UInt8) (x : A)
  deriving DecidableEq, Inhabited, Repr

def bitsOf (k : IntKind) (f : BitVec k.bits → BitVec k.bits → BitVec k.bits) (x y : Int) : Int := k.wrap (f (BitVec.ofInt k.bits x) (BitVec.ofInt k.bits y)).toNat

def E.den (is : List Int) : E → Int
  | .add k x y => k.wrap (x.den is + y.den is)
  | .sub k x y => k.wrap (x.den is - y.den is)
  | .mul k x y => k.wrap (x.den is * y.den is)
  | .quo k x y => k.wrap ((x.den is).tdiv (y.den is))
  | .rem x y => (x.den is).tmod (y.den is)
  | .band k x y => bitsOf k (· &&& ·) (x.den is) (y.den is)
  | .bor k x y => bitsOf k (· ||| ·) (x.den is) (y.den is)
  | .bxor k x y => bitsOf k (· ^^^ ·) (x.den is) (y.den is)
  | .bclr k x y => bitsOf k (fun a b => a &&& ~~~b) (x.den is) (y.den is)
  | .shl k x y => k.wrap (x.den is * 2 ^ (min (y.den is).toNat k.bits))
  | .shr k x y => (x.den is).fdiv (2 ^ (min (y.den is).toNat k.bits))
  | .wrap k x => k.wrap (x.den is)
  | .sel c x y => if c.den is then x.den is else y.den is
  | .mn x y => if y.den is < x.den is then y.den is else x.den is
  | .mx x y => if y.den is > x.den is then y.den is else x.den is
  | .neg k x => k.wrap (0 - x.den is)
  | .com k x => bitsOf k (· ^^^ ·) (if k.signed then -1 else k.max) (x.den is)
  | .tab s x => ((s.getD (x.den is).toNat 0).toNat : Int)

def A.lit : A → Bool
  | .v _ => false
  | .n _ => true
def B.lit : B → Bool
  | .c _ => true
  | .cmp _ x y => x.lit && y.lit
  | .not b => b.lit
  | .and x y => x.lit && y.lit
  | .or x y => x.lit && y.lit
def E.lit : E → Bool
  | .add _ x y | .sub _ x y | .mul _ x y | .quo _ x y | .rem x y | .band _ x y | .bor _ x y | .bxor _ x y | .bclr _ x y | .shl _ x y | .shr _ x y | .mn x y | .mx x y => x.lit && y.lit
  | .wrap _ x | .neg _ x | .com _ x | .tab _ x => x.lit
  | .sel c x y => c.lit && x.lit && y.lit

def A.wf (ni : Nat) : A → Bool
  | .v i => Nat.blt i ni
  | .n _ => true
def B.wf (ni : Nat) : B → Bool
  | .c _ => true
  | .cmp _ x y => x.wf ni && y.wf ni
  | .not b => b.wf ni
  | .and x y => x.wf ni && y.wf ni
  | .or x y => x.wf ni && y.wf ni
def E.wf (ni : Nat) : E → Bool
  | .add _ x y | .sub _ x y | .mul _ x y | .quo _ x y | .rem x y | .band _ x y | .bor _ x y | .bxor _ x y | .bclr _ x y | .shl _ x y | .shr _ x y | .mn x y | .mx x y => x.wf ni && y.wf ni
  | .wrap _ x | .neg _ x | .com _ x | .tab _ x => x.wf ni
  | .sel c x y => c.wf ni && x.wf ni && y.wf ni

/-- Smart truths. -/
def B.mkNot : B → B
  | .c b => .c (!b)
  | .not b => b
  | b => .not b
def B.mkAnd : B → B → B
  | .c true, y => y
  | .c false, _ => .c false
  | x, .c true => x
  | x, .c false => bif x.lit then .c false else .and x (.c false)
  | x, y => .and x y
def B.mkOr : B → B → B
  | .c true, _ => .c true
  | .c false, y => y
  | x, .c false => x
  | x, y => .or x y
def A.beq : A → A → Bool
  | .v i, .v j => Nat.beq i j
  | .n a, .n b => a == b
  | _, _ => false
def Cm.beq : Cm → Cm → Bool
  | .eq, .eq | .lt, .lt => true
  | _, _ => false
def B.beq : B → B → Bool
  | .c a, .c b => a == b
  | .cmp o x y, .cmp o' x' y' => o.beq o' && x.beq x' && y.beq y'
  | .not a, .not b => a.beq b
  | .and p q, .and r s => p.beq r && q.beq s
  | .or p q, .or r s => p.beq r && q.beq s
  | _, _ => false
def B.mkEq (x y : A) : B := bif x.lit && y.lit then .c (x.den [] == y.den []) else bif x.beq y then .c true else .cmp .eq x y
def B.mkLt (x y : A) : B := bif x.lit && y.lit then .c (decide (x.den [] < y.den [])) else bif x.beq y then .c false else .cmp .lt x y
def B.mkIs (b : B) (want : Bool) : B := bif want then b else b.mkNot

/-- A value. -/
inductive SV where
  | int (k : IntKind) (a : A)
  | bool (b : B)
  | str (s : List UInt8)
  | ptr (b off : Nat)
  | gptr (g off : Nat)
  | nilp
  | slice (b off len cap : Nat)
  | own (b len : Nat)
  | nilsl
  | map (b : Nat)
  | nilmap
  | fn (f : Fn) (first captured : List SV)
  | nilfn
  | agg (l : List SV)
  | tup (l : List SV)
  | iface (t : Nat) (v : SV)
  | niliface
  | gd (c : B) (want : Bool) (v : SV)
  | bot
  deriving Inhabited, Repr

/-- Variables: numbers; blocks (with a capacity). -/
structure Env where
  is : List Int
  bs : List (Nat × Nat)

def Env.b (ρ : Env) (i : Nat) : Nat := (ρ.bs.getD i (0, 0)).1
def Env.cap (ρ : Env) (i : Nat) : Nat := (ρ.bs.getD i (0, 0)).2

mutual
def SV.den (ρ : Env) : SV → Value
  | .int k a => .int k (a.den ρ.is)
  | .bool b => .bool (b.den ρ.is)
  | .str s => .string ⟨s.toArray⟩
  | .ptr b off => .pointer (some ⟨ρ.b b, off, none⟩)
  | .gptr g off => .pointer (some ⟨g, off, none⟩)
  | .nilp => .pointer none
  | .slice b off len cap => .slice (some ⟨ρ.b b, off, none⟩) len cap
  | .own b len => .slice (some ⟨ρ.b b, 0, none⟩) len (ρ.cap b)
  | .nilsl => .slice none 0 0
  | .map b => .map (some (ρ.b b))
  | .nilmap => .map none
  | .fn f first cap => .func f (SV.dens ρ first).toArray (SV.dens ρ cap).toArray
  | .nilfn => .nilFunc
  | .agg l => .agg (SV.dens ρ l).toArray
  | .tup l => .tuple (SV.dens ρ l).toArray
  | .iface t v => .iface t (SV.den ρ v)
  | .niliface => .nilIface
  | .gd c want v => if c.den ρ.is = want then SV.den ρ v else undef
  | .bot => undef
def SV.dens (ρ : Env) : List SV → List Value
  | [] => []
  | v :: l => SV.den ρ v :: SV.dens ρ l
end

/-- A value that lies in one cell. -/
def SV.cell : SV → Bool
  | .agg _ | .tup _ | .gd _ _ _ | .bot => false
  | _ => true

def allCell : List SV → Bool
  | [] => true
  | v :: l => v.cell && allCell l

mutual
/-- It mentions no other variables than the first ones. -/
def SV.wf (ni nb : Nat) : SV → Bool
  | .int _ a => a.wf ni
  | .bool b => b.wf ni
  | .str _ | .gptr _ _ | .nilp | .nilsl | .nilmap | .nilfn | .niliface => true
  | .ptr b _ => Nat.blt b nb
  | .slice b _ _ _ => Nat.blt b nb
  | .own b _ => Nat.blt b nb
  | .map b => Nat.blt b nb
  | .fn _ first cap => SV.wfs ni nb first && SV.wfs ni nb cap
  | .agg l => SV.wfs ni nb l && allCell l
  | .tup l => SV.wfs ni nb l
  | .iface _ v => SV.wf ni nb v
  | .gd c _ v => c.wf ni && SV.wf ni nb v
  | .bot => false
def SV.wfs (ni nb : Nat) : List SV → Bool
  | [] => true
  | v :: l => SV.wf ni nb v && SV.wfs ni nb l
end

/-- A block of the call's own. -/
inductive SO where
  | cells (c : List SV) (e : TypeId)
  | row (c : List SV) (e : TypeId) (size n : Nat)
  | map (es : List (SV × SV × Nat)) (clock : Nat)
  | gone
  deriving Inhabited, Repr

def esWf (ni nb : Nat) : List (SV × SV × Nat) → Bool
  | [] => true
  | e :: l => SV.wf ni nb e.1 && SV.wf ni nb e.2.1 && esWf ni nb l
def SO.wf (ni nb : Nat) : SO → Bool
  | .cells c _ => SV.wfs ni nb c && allCell c
  | .row c _ _ _ => SV.wfs ni nb c && allCell c
  | .map es _ => esWf ni nb es
  | .gone => true

/-! ### Rows of things by number -/
inductive Tb (α : Type) where
  | e
  | n (l : Tb α) (v : Option α) (r : Tb α)
  deriving Inhabited, Repr
def Tb.get {α : Type} : Tb α → Nat → Option α
  | .e, _ => none
  | .n l v r, i =>
    match i with
    | 0 => v
    | i + 1 => bif Nat.beq (Nat.mod i 2) 0 then l.get (Nat.div i 2) else r.get (Nat.div i 2)
def Tb.set {α : Type} : Nat → Tb α → Nat → α → Tb α
  | 0, _, _, _ => .e
  | f + 1, .e, i, x =>
    match i with
    | 0 => .n .e (some x) .e
    | i + 1 => bif Nat.beq (Nat.mod i 2) 0 then .n (Tb.set f .e (Nat.div i 2) x) none .e else .n .e none (Tb.set f .e (Nat.div i 2) x)
  | f + 1, .n l v r, i, x =>
    match i with
    | 0 => .n l (some x) r
    | i + 1 => bif Nat.beq (Nat.mod i 2) 0 then .n (Tb.set f l (Nat.div i 2) x) v r else .n l v (Tb.set f r (Nat.div i 2) x)
def Tb.put {α : Type} (t : Tb α) (i : Nat) (x : α) : Tb α := Tb.set 40 t i x
def Tb.ofL {α : Type} : List α → Nat → Tb α → Tb α
  | [], _, t => t
  | x :: l, i, t => Tb.ofL l (i + 1) (t.put i x)

/-- What is known of a type. -/
inductive TD where
  | bool
  | int (k : IntKind)
  | str
  | ptr (e : Nat)
  | slice (e esz : Nat)
  | arr (n e esz : Nat)
  | map (k e : Nat)
  | struct (fs : List (Nat × Nat × Nat)) (eq : Bool)
  | func
  | iface
  | other
  deriving Inhabited, Repr
structure TE where
  d : TD
  size : Nat
  bytes : Nat
  zero : Option (List SV)
  deriving Inhabited, Repr
def TD.agg : TD → Bool
  | .arr _ _ _ | .struct _ _ => true
  | _ => false
abbrev Ty := Tb TE
abbrev Tm := Tb SV

structure St where
  mem : Tb SO
  nb : Nat
  ni : Nat
  pc : List (B × Bool)
  deriving Inhabited, Repr

/-- What comes out: a tree. -/
inductive T where
  | ret (l : List A)
  | fail (why : Nat)
  | lt (e : E) (t : T)
  | br (c : B) (t e : T)
  | call (f : Nat) (args : List A) (n : Nat) (t : T)
  | again (d : Nat) (l : List A)
  | loop (d : Nat) (init : List A) (body : T)
  | out (d : Nat) (t : T)
  deriving DecidableEq, Inhabited, Repr


/-! ### What a tree says -/
def iter : Nat → (List Int → Option (Nat × List Int)) → Nat → List Int → Option (Nat × List Int)
  | 0, _, _, _ => none
  | k + 1, f, d, s =>
    match f s with
    | none => none
    | some r => if r.1 = d then iter k f d r.2 else some r

def T.den (F : Nat → List Int → Option (List Int)) (K : Nat) : T → List Int → Option (Nat × List Int)
  | .ret l, is => some (0, l.map (·.den is))
  | .fail _, _ => none
  | .lt e t, is => t.den F K (is ++ [e.den is])
  | .br c t e, is => if c.den is = true then t.den F K is else e.den F K is
  | .call f args n t, is =>
    match F f (args.map (·.den is)) with
    | none => none
    | some rs => if rs.length = n then t.den F K (is ++ rs) else none
  | .again d l, is => some (d, l.map (·.den is))
  | .loop d init body, is => iter K (fun s => body.den F K (is ++ s)) d (init.map (·.den is))
  | .out d t, is =>
    match t.den F K is with
    | none => none
    | some r => if r.1 = d then none else some r

/-- Some numbers, one behind the other. -/
def extE (is : List Int) : List E → List Int
  | [] => is
  | e :: es => extE (is ++ [e.den is]) es
def T.lts : List E → T → T
  | [], t => t
  | e :: es, t => .lt e (T.lts es t)

/-! ### Operands, constants -/
def ofVal1 : Value → Option SV
  | .int k n => some (.int k (.n n))
  | .bool b => some (.bool (.c b))
  | .string s => some (.str s.data.toList)
  | .pointer none => some .nilp
  | .slice none 0 0 => some .nilsl
  | .map none => some .nilmap
  | .nilFunc => some .nilfn
  | .nilIface => some .niliface
  | _ => none
def ofVals : List Value → Option (List SV)
  | [] => some []
  | v :: l => match ofVal1 v with
    | none => none
    | some s => match ofVals l with
      | none => none
      | some r => some (s :: r)
def ofVal : Value → Option SV
  | .agg cs => match ofVals cs.toList with
    | some l => some (.agg l)
    | none => none
  | .tuple cs => match ofVals cs.toList with
    | some l => some (.tup l)
    | none => none
  | v => ofVal1 v

def nth {α : Type} : List α → Nat → Option α
  | [], _ => none
  | x :: _, 0 => some x
  | _ :: l, n + 1 => nth l n
def setN {α : Type} : List α → Nat → α → List α
  | [], _, _ => []
  | _ :: l, 0, y => y :: l
  | x :: l, n + 1, y => x :: setN l n y
def dropN {α : Type} : Nat → List α → List α
  | 0, l => l
  | _ + 1, [] => []
  | n + 1, _ :: l => dropN n l
/-- So many from the front; none bif there are fewer. -/
def takeN {α : Type} : Nat → List α → Option (List α)
  | 0, _ => some []
  | _ + 1, [] => none
  | n + 1, x :: l => match takeN n l with
    | some r => some (x :: r)
    | none => none
/-- Some cells written over a row. -/
def putN {α : Type} : List α → Nat → List α → Option (List α)
  | l, 0, [] => some l
  | [], _, _ => none
  | _ :: l, 0, y :: ys => match putN l 0 ys with
    | some r => some (y :: r)
    | none => none
  | x :: l, n + 1, ys => match putN l n ys with
    | some r => some (x :: r)
    | none => none

/-! ### What is known of truths -/
def pcFind : List (B × Bool) → B → Option Bool
  | [], _ => none
  | (c, b) :: l, x => bif c.beq x then some b else pcFind l x
/-- What a truth tells of its parts. -/
def B.facts : B → Bool → List (B × Bool)
  | .not x, b => (.not x, b) :: x.facts (!b)
  | .and x y, true => (.and x y, true) :: (x.facts true ++ y.facts true)
  | .or x y, false => (.or x y, false) :: (x.facts false ++ y.facts false)
  | x, b => [(x, b)]
/-- What is known of a truth. -/
def B.known (pc : List (B × Bool)) (c : B) : Option Bool :=
  match c with
  | .c b => some b
  | .not x => match x.known pc with
    | some b => some (!b)
    | none => none
  | .and x y => match pcFind pc (.and x y) with
    | some b => some b
    | none => match x.known pc, y.known pc with
      | some false, _ => some false
      | _, some false => some false
      | some true, some true => some true
      | _, _ => none
  | .or x y => match pcFind pc (.or x y) with
    | some b => some b
    | none => match x.known pc, y.known pc with
      | some true, _ => some true
      | _, some true => some true
      | some false, some false => some false
      | _, _ => none
  | x => pcFind pc x

/-- A value that is there where something holds, where that is known. -/
def SV.under (pc : List (B × Bool)) : SV → SV
  | .gd c w v => match (c.mkIs w).known pc with
    | some true => v
    | _ => .gd c w v
  | v => v
def evO (pc : List (B × Bool)) (tm : Tm) : Operand → Option SV
  | .tmp t => match tm.get t with
    | some .bot => none
    | some v => some (v.under pc)
    | none => none
  | .const v => ofVal v
  | .global g => some (.gptr g 0)
  | .func f => some (.fn (.func f) [] [])
def evOs (pc : List (B × Bool)) (tm : Tm) : List Operand → Option (List SV)
  | [] => some []
  | x :: l => match evO pc tm x with
    | none => none
    | some v => match evOs pc tm l with
      | none => none
      | some r => some (v :: r)

def SV.cellsOf : SV → Option (List SV)
  | .agg l => some l
  | .tup _ | .gd _ _ _ | .bot => none
  | v => some [v]

/-- A part of an aggregate's cells, as a value of a type. -/
def partL (ty : Ty) (t : TypeId) (cs : List SV) (off : Nat) : Option SV :=
  match ty.get t with
  | none => none
  | some i => bif i.d.agg then (match takeN i.size (dropN off cs) with
        | some l => some (.agg l)
        | none => none)
    else nth cs off

/-! ### Pure operations -/
/-- The numbers that are made: how many there are, and the new ones. -/
structure Bd where
  ni : Nat
  es : List E

def Bd.bind (d : Bd) (e : E) : A × Bd := bif e.lit then (.n (e.den []), d) else (.v d.ni, ⟨d.ni + 1, d.es ++ [e]⟩)

def binE (op : BinOp) (k : IntKind) (x y : A) : Option E :=
  match op with
  | .add => some (.add k x y)
  | .sub => some (.sub k x y)
  | .mul => some (.mul k x y)
  | .and => some (.band k x y)
  | .or => some (.bor k x y)
  | .xor => some (.bxor k x y)
  | .andNot => some (.bclr k x y)
  | .quo => match y with
    | .n c => bif (c == 0) then none else some (.quo k x y)
    | _ => none
  | .rem => match y with
    | .n c => bif (c == 0) then none else some (.rem x y)
    | _ => none
  | .shl => match y with
    | .n c => bif decide (c < 0) then none else some (.shl k x y)
    | _ => none
  | .shr => match y with
    | .n c => bif decide (c < 0) then none else some (.shr k x y)
    | _ => none
  | _ => none
def shOp : BinOp → Bool
  | .shl | .shr => true
  | _ => false
def cmpB (op : BinOp) (x y : A) : Option B :=
  match op with
  | .lss => some (.mkLt x y)
  | .leq => some (B.mkLt y x).mkNot
  | .gtr => some (.mkLt y x)
  | .geq => some (B.mkLt x y).mkNot
  | _ => none
def kindEq (a b : IntKind) : Bool := decide (a = b)

def eqB (x y : B) : B := match x, y with
  | .c true, y => y
  | .c false, y => y.mkNot
  | x, .c true => x
  | x, .c false => x.mkNot
  | x, y => .or (.and x y) (.and x.mkNot y.mkNot)

mutual
/-- Equality of two values of a type. -/
def eqV (ty : Ty) : Nat → TypeId → SV → SV → Option B
  | 0, _, _, _ => none
  | d + 1, t, x, y =>
    match ty.get t with
    | none => none
    | some i => match i.d with
      | .bool => match x, y with
        | .bool a, .bool b => some (eqB a b)
        | _, _ => none
      | .int _ => match x, y with
        | .int k a, .int k' b => bif kindEq k k' then some (B.mkEq a b) else none
        | _, _ => none
      | .struct fs true => match x, y with
        | .agg xs, .agg ys => eqFs ty d fs xs ys
        | _, _ => none
      | _ => none
def eqFs (ty : Ty) : Nat → List (Nat × Nat × Nat) → List SV → List SV → Option B
  | 0, _, _, _ => none
  | _ + 1, [], _, _ => some (.c true)
  | d + 1, f :: fs, xs, ys =>
    match partL ty f.1 xs f.2.1, partL ty f.1 ys f.2.1 with
    | some x, some y => match eqV ty d f.1 x y with
      | some b => match eqFs ty d fs xs ys with
        | some r => some (b.mkAnd r)
        | none => none
      | none => none
    | _, _ => none
end

def eqAny (ty : Ty) (t : TypeId) (x y : SV) : Option B :=
  match x, y with
  | .int k a, .int k' b => bif kindEq k k' then some (B.mkEq a b) else none
  | .fn _ _ _, .nilfn => match ty.get t with
    | some ⟨.func, _, _, _⟩ => some (.c false)
    | _ => none
  | .nilfn, .nilfn => match ty.get t with
    | some ⟨.func, _, _, _⟩ => some (.c true)
    | _ => none
  | .agg _, .agg _ => eqV ty 40 t x y
  | .bool a, .bool b => match ty.get t with
    | some ⟨.bool, _, _, _⟩ => some (eqB a b)
    | _ => none
  | _, _ => none

def foldMM (mn : Bool) : List SV → A → IntKind → Bd → Option (SV × Bd)
  | [], x, k, d => some (.int k x, d)
  | .int k' y :: l, x, k, d => bif kindEq k k' then (let r := d.bind (bif mn then .mn x y else .mx x y); foldMM mn l r.1 k r.2) else none
  | _, _, _, _ => none

-- 'pick' of two values
mutual
def pickV (c : B) : SV → SV → Bd → Option (SV × Bd)
  | .int k x, .int k' y, d => bif kindEq k k' then (bif x.beq y then some (.int k x, d) else (let r := d.bind (.sel c x y); some (.int k r.1, r.2))) else none
  | .bool x, .bool y, d => some (.bool (.mkOr (.mkAnd c x) (.mkAnd c.mkNot y)), d)
  | .agg xs, .agg ys, d => match pickVs c xs ys d with
    | some (l, d') => some (.agg l, d')
    | none => none
  | _, _, _ => none
def pickVs (c : B) : List SV → List SV → Bd → Option (List SV × Bd)
  | [], [], d => some ([], d)
  | x :: xs, y :: ys, d => match pickV c x y d with
    | some (v, d') => match pickVs c xs ys d' with
      | some (l, d'') => some (v :: l, d'')
      | none => none
    | none => none
  | _, _, _ => none
end
def pickB (c x y : B) : B := match x, y with
  | .c true, y => .mkOr c y
  | x, .c false => .mkAnd c x
  | x, y => .mkOr (.mkAnd c x) (.mkAnd c.mkNot y)

def fillL (place : Nat → Option (Nat × Nat)) : List SV → List (Nat × SV) → Option (List SV)
  | cells, [] => some cells
  | cells, (i, v) :: rest =>
    match place i, v.cellsOf with
    | some (off, size), some vs => bif Nat.beq vs.length size then (match putN cells off vs with
        | some c => fillL place c rest
        | none => none) else none
    | _, _ => none
def evPs (pc : List (B × Bool)) (tm : Tm) : List (Nat × Operand) → Option (List (Nat × SV))
  | [] => some []
  | (i, x) :: l => match evO pc tm x with
    | none => none
    | some v => match evPs pc tm l with
      | none => none
      | some r => some ((i, v) :: r)
def zeroL (ty : Ty) (t : TypeId) : Option (List SV) := match ty.get t with
  | some i => i.zero
  | none => none
/-- A type's zero value. -/
def zeroV (ty : Ty) (t : TypeId) : Option SV := match ty.get t with
  | some i => match i.zero with
    | some l => bif i.d.agg then some (.agg l) else (match l with
      | [z] => some z
      | _ => none)
    | none => none
  | none => none
def sizeT (ty : Ty) (t : TypeId) : Option Nat := match ty.get t with
  | some i => some i.size
  | none => none
def fieldPl (fs : List (Nat × Nat × Nat)) (i : Nat) : Option (Nat × Nat) :=
  match nth fs i with
  | some f => some (f.2.1, f.2.2)
  | none => none

def repeatL {α : Type} : Nat → List α → List α
  | 0, _ => []
  | n + 1, l => l ++ repeatL n l

def buildV (ty : Ty) (t : TypeId) (parts : List (Nat × SV)) : Option SV :=
  match ty.get t with
  | none => none
  | some i => match i.zero, i.d with
    | some z, .struct fs _ => match fillL (fieldPl fs) z parts with
      | some l => some (.agg l)
      | none => none
    | some z, .arr _ _ n => match fillL (fun i => some (i * n, n)) z parts with
      | some l => some (.agg l)
      | none => none
    | _, _ => none

def litNat (n : Int) : Option Nat := match n with
  | .ofNat m => some m
  | .negSucc _ => none

/-- The bounds of a slice expression. -/
def bnd (pc : List (B × Bool)) (tm : Tm) (o : Option Operand) (dflt : Nat) : Option Nat :=
  match o with
  | none => some dflt
  | some x => match evO pc tm x with
    | some (.int _ (.n c)) => litNat c
    | _ => none

def sliceV (ty : Ty) (t : TypeId) (x : SV) (lo hi : Option Operand) (pc : List (B × Bool)) (tm : Tm) : Option SV :=
  match ty.get t with
  | none => none
  | some i => match i.d with
    | .slice _ n => match x with
      | .nilsl => match bnd pc tm lo 0, bnd pc tm hi 0 with
        | some 0, some 0 => some .nilsl
        | _, _ => none
      | .slice b off len cap => match bnd pc tm hi len with
        | some h => bif Nat.ble h cap then (match bnd pc tm lo 0 with
          | some l => bif Nat.ble l h then some (.slice b (bif Nat.beq cap l then off else off + l * n) (h - l) (cap - l)) else none
          | none => none) else none
        | none => none
      | _ => none
    | .str => match x with
      | .str s => match bnd pc tm hi s.length with
        | some h => bif Nat.ble h s.length then (match bnd pc tm lo 0 with
          | some l => bif Nat.ble l h then (match takeN (h - l) (dropN l s) with
              | some r => some (.str r)
              | none => none) else none
          | none => none) else none
        | none => none
      | _ => none
    | .arr n _ m => match bnd pc tm hi n with
        | some h => bif Nat.ble h n then (match bnd pc tm lo 0 with
          | some l => bif Nat.ble l h then (match x with
              | .ptr b off => some (.slice b (bif Nat.beq n l then off else off + l * m) (h - l) (n - l))
              | _ => none) else none
          | none => none) else none
        | none => none
    | _ => none

def lenV (ty : Ty) (t : TypeId) (x : SV) : Option Nat :=
  match ty.get t with
  | none => none
  | some i => match i.d with
    | .str => match x with
      | .str s => some s.length
      | _ => none
    | .arr n _ _ => some n
    | .slice _ _ => match x with
      | .slice _ _ len _ => some len
      | .own _ len => some len
      | .nilsl => some 0
      | _ => none
    | _ => none

def tdOf (ty : Ty) (t : TypeId) : TD := match ty.get t with
  | some i => i.d
  | none => .other

def pMove (ty : Ty) (tm : Tm) (ni : Nat) (pc : List (B × Bool)) (x : Operand) : Option (SV × Bd) :=
  let d : Bd := ⟨ni, []⟩
  match evO pc tm x with
    | some v => some (v, d)
    | none => none
def pPick (ty : Ty) (tm : Tm) (ni : Nat) (pc : List (B × Bool)) (c x y : Operand) : Option (SV × Bd) :=
  let d : Bd := ⟨ni, []⟩
  match evO pc tm c with
    | some (.bool (.c true)) => match evO pc tm x with
      | some v => some (v, d)
      | none => none
    | some (.bool (.c false)) => match evO pc tm y with
      | some v => some (v, d)
      | none => none
    | some (.bool c) => match evO pc tm x, evO pc tm y with
      | some x, some y => match x.under (c.facts true ++ pc), y.under (c.facts false ++ pc) with
        | .bool x, .bool y => some (.bool (pickB c x y), d)
        | x, y => pickV c x y d
      | _, _ => none
    | _ => none
def pBinOp (ty : Ty) (tm : Tm) (ni : Nat) (pc : List (B × Bool)) (op : BinOp) (t : TypeId) (x y : Operand) : Option (SV × Bd) :=
  let d : Bd := ⟨ni, []⟩
  match evO pc tm x, evO pc tm y with
    | some x, some y => match op with
      | .eql => match eqAny ty t x y with
        | some b => some (.bool b, d)
        | none => none
      | .neq => match eqAny ty t x y with
        | some b => some (.bool b.mkNot, d)
        | none => none
      | op => match x, y with
        | .int k a, .int k' b => bif kindEq k k' || shOp op then (match cmpB op a b with
            | some o => some (.bool o, d)
            | none => match binE op k a b with
              | some e => let r := d.bind e; some (.int k r.1, r.2)
              | none => none) else none
        | _, _ => none
    | _, _ => none
def pUnOp (ty : Ty) (tm : Tm) (ni : Nat) (pc : List (B × Bool)) (op : UnOp) (x : Operand) : Option (SV × Bd) :=
  let d : Bd := ⟨ni, []⟩
  match op, evO pc tm x with
    | .not, some (.bool b) => some (.bool b.mkNot, d)
    | .neg, some (.int k a) => let r := d.bind (.neg k a); some (.int k r.1, r.2)
    | .xor, some (.int k a) => let r := d.bind (.com k a); some (.int k r.1, r.2)
    | _, _ => none
def pConvert (ty : Ty) (tm : Tm) (ni : Nat) (pc : List (B × Bool)) (src dst : TypeId) (x : Operand) : Option (SV × Bd) :=
  let d : Bd := ⟨ni, []⟩
  match tdOf ty src, tdOf ty dst, evO pc tm x with
    | .int _, .int k, some (.int _ a) => let r := d.bind (.wrap k a); some (.int k r.1, r.2)
    | .str, .str, some (.str s) => some (.str s, d)
    | _, _, _ => none
def pMakeFunc (ty : Ty) (tm : Tm) (ni : Nat) (pc : List (B × Bool)) (f : Fn) (first captured : Array Operand) : Option (SV × Bd) :=
  let d : Bd := ⟨ni, []⟩
  match evOs pc tm first.toList, evOs pc tm captured.toList with
    | some a, some b => some (.fn f a b, d)
    | _, _ => none
def pMakeInterface (ty : Ty) (tm : Tm) (ni : Nat) (pc : List (B × Bool)) (t : TypeId) (x : Operand) : Option (SV × Bd) :=
  let d : Bd := ⟨ni, []⟩
  match tdOf ty t, evO pc tm x with
    | .iface, _ | .other, _ => none
    | _, some v => some (.iface t v, d)
    | _, _ => none
def pFieldAddr (ty : Ty) (tm : Tm) (ni : Nat) (pc : List (B × Bool)) (t : TypeId) (x : Operand) (f : Nat) : Option (SV × Bd) :=
  let d : Bd := ⟨ni, []⟩
  match tdOf ty t, evO pc tm x with
    | .struct fs _, some (.ptr b off) => match nth fs f with
      | some g => bif Nat.beq g.2.2 0 then none else some (.ptr b (off + g.2.1), d)
      | none => none
    | .struct fs _, some (.gptr b off) => match nth fs f with
      | some g => bif Nat.beq g.2.2 0 then none else some (.gptr b (off + g.2.1), d)
      | none => none
    | _, _ => none
def pField (ty : Ty) (tm : Tm) (ni : Nat) (pc : List (B × Bool)) (t : TypeId) (x : Operand) (f : Nat) : Option (SV × Bd) :=
  let d : Bd := ⟨ni, []⟩
  match tdOf ty t, evO pc tm x with
    | .struct fs _, some (.agg l) => match nth fs f with
      | some g => match partL ty g.1 l g.2.1 with
        | some v => some (v, d)
        | none => none
      | none => none
    | _, _ => none
def pExtract (ty : Ty) (tm : Tm) (ni : Nat) (pc : List (B × Bool)) (x : Operand) (i : Nat) : Option (SV × Bd) :=
  let d : Bd := ⟨ni, []⟩
  match evO pc tm x with
    | some (.tup l) => match nth l i with
      | some v => some (v, d)
      | none => none
    | _ => none
def pBuild (ty : Ty) (tm : Tm) (ni : Nat) (pc : List (B × Bool)) (t : TypeId) (parts : Array (Nat × Operand)) : Option (SV × Bd) :=
  let d : Bd := ⟨ni, []⟩
  match evPs pc tm parts.toList with
    | some ps => match buildV ty t ps with
      | some v => some (v, d)
      | none => none
    | none => none
def pIndexAddr (ty : Ty) (tm : Tm) (ni : Nat) (pc : List (B × Bool)) (t : TypeId) (x i : Operand) : Option (SV × Bd) :=
  let d : Bd := ⟨ni, []⟩
  match tdOf ty t, evO pc tm x, evO pc tm i with
    | .slice _ n, some (.slice b off len _), some (.int _ (.n c)) => match litNat c with
      | some j => bif Nat.blt j len then some (.ptr b (off + j * n), d) else none
      | none => none
    | .slice _ n, some (.own b len), some (.int _ (.n c)) => match litNat c with
      | some j => bif Nat.blt j len then some (.ptr b (j * n), d) else none
      | none => none
    | .arr len _ n, some (.ptr b off), some (.int _ (.n c)) => match litNat c with
      | some j => bif Nat.blt j len then some (.ptr b (off + j * n), d) else none
      | none => none
    | .arr len _ n, some (.gptr b off), some (.int _ (.n c)) => match litNat c with
      | some j => bif Nat.blt j len then some (.gptr b (off + j * n), d) else none
      | none => none
    | _, _, _ => none
def pIndex (ty : Ty) (tm : Tm) (ni : Nat) (pc : List (B × Bool)) (t : TypeId) (x i : Operand) : Option (SV × Bd) :=
  let d : Bd := ⟨ni, []⟩
  match tdOf ty t, evO pc tm x, evO pc tm i with
    | .arr len e n, some (.agg l), some (.int _ (.n c)) => match litNat c with
      | some j => bif Nat.blt j len then (match partL ty e l (j * n) with
        | some v => some (v, d)
        | none => none) else none
      | none => none
    | .str, some (.str s), some (.int _ (.n c)) => match litNat c with
      | some j => match nth s j with
        | some b => some (.int .u8 (.n b.toNat), d)
        | none => none
      | none => none
    | _, _, _ => none
def pSlice (ty : Ty) (tm : Tm) (ni : Nat) (pc : List (B × Bool)) (t : TypeId) (x : Operand) (lo hi mx : Option Operand) : Option (SV × Bd) :=
  let d : Bd := ⟨ni, []⟩
  match evO pc tm x, mx with
    | some v, none => match sliceV ty t v lo hi pc tm with
      | some r => some (r, d)
      | none => none
    | _, _ => none
def pNilCheck (ty : Ty) (tm : Tm) (ni : Nat) (pc : List (B × Bool)) (x : Operand) : Option (SV × Bd) :=
  let d : Bd := ⟨ni, []⟩
  match evO pc tm x with
    | some (.ptr b off) => some (.ptr b off, d)
    | some (.fn (.func f) a b) => some (.fn (.func f) a b, d)
    | _ => none
def pCall (ty : Ty) (tm : Tm) (ni : Nat) (pc : List (B × Bool)) (c : Call) : Option (SV × Bd) :=
  let d : Bd := ⟨ni, []⟩
  match c.callee with
    | .builtin .len => match c.argTypes.toList, evOs pc tm c.args.toList with
      | [t], some [x] => match lenV ty t x with
        | some n => some (.int .i64 (.n n), d)
        | none => none
      | _, _ => none
    | .builtin .min => match evOs pc tm c.args.toList with
      | some (.int k x :: l) => foldMM true l x k d
      | _ => none
    | .builtin .max => match evOs pc tm c.args.toList with
      | some (.int k x :: l) => foldMM false l x k d
      | _ => none
    | _ => none
/-- An operation that looks at no memory and makes none. -/
def pureOp (ty : Ty) (op : Op) (tm : Tm) (ni : Nat) (pc : List (B × Bool)) : Option (SV × Bd) :=
  match op with
  | .move x | .assign x => pMove ty tm ni pc x
  | .pick c x y => pPick ty tm ni pc c x y
  | .binOp op t x y _ => pBinOp ty tm ni pc op t x y
  | .unOp op _ x => pUnOp ty tm ni pc op x
  | .convert src dst x => pConvert ty tm ni pc src dst x
  | .makeFunc f first captured => pMakeFunc ty tm ni pc f first captured
  | .makeInterface t x => pMakeInterface ty tm ni pc t x
  | .fieldAddr t x f => pFieldAddr ty tm ni pc t x f
  | .field t x f => pField ty tm ni pc t x f
  | .extract x i => pExtract ty tm ni pc x i
  | .build t parts => pBuild ty tm ni pc t parts
  | .indexAddr t x i => pIndexAddr ty tm ni pc t x i
  | .index t x i => pIndex ty tm ni pc t x i
  | .slice t x lo hi mx => pSlice ty tm ni pc t x lo hi mx
  | .nilCheck x => pNilCheck ty tm ni pc x
  | .call c => pCall ty tm ni pc c
  | _ => none

end Go.SX
