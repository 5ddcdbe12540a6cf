/- The symbolic executor SY, part B: data and values; pure operations (definitions alone). -/
import Derived.Test.YtolebnomgllgaaaGreatDoorSyA
set_option linter.unusedVariables false
namespace Go.SY
open Go
noncomputable section
def ofCells (ty : Ty) (t : TypeId) (cs : List SV) : Option SV := partL ty t cs 0
def kindEq (a b : IntKind) : Bool := decide (a = b)
structure Bd where
  ni : Nat
  nb : Nat
  es : List (Option TypeId × E)
  gs : List SO
  fs : List (B × Bool)
def Bd.of (ni nb : Nat) : Bd := ⟨ni, nb, [], [], []⟩
def Bd.bindT (d : Bd) (o : Option TypeId) (e : E) : A × Bd := bif e.lit then (.ofDt (e.den []), d) else (.v d.ni, { d with ni := d.ni + 1, es := d.es ++ [(o, e)] })
def Bd.bind (d : Bd) (e : E) : A × Bd := d.bindT none e
def Bd.ghost (d : Bd) (o : SO) : Nat × Bd := (d.nb, { d with nb := d.nb + 1, gs := d.gs ++ [o] })
def Bd.fact (d : Bd) (c : B) (b : Bool) : Bd := { d with fs := d.fs ++ [(c, b)] }
def knownIs (pc : List (B × Bool)) (c : B) (want : Bool) : Bool := match c.known pc with
  | some true => want
  | some false => !want
  | none => false
def A.tru : A → B
  | .d (.tru x) => .c x
  | a => .is a
def sizeT (ty : Ty) (t : TypeId) : Option Nat := match ty.get t with
  | some i => some i.size
  | none => none
def sizeO (ty : Ty) (t : TypeId) : Option Nat := match ty.get t with
  | some e => bif e.d.isH then none else some e.size
  | none => none
def newVal (t : TypeId) (c : B) (a : A) (d : Bd) : SV × Bd := match a with
  | .d .nil => (.nilsl, d)
  | a => let r := d.ghost (.val c t a); (.sl r.1, r.2)
def shpFact (c : B) (a : A) (n : Nat) (d : Bd) : Bd := match c with
  | .c true => bif a.lit then d else d.fact (.shp a n) true
  | _ => d
def sizeIs (ty : Ty) (t : TypeId) (r : Option (List SV × Bd)) : Option (List SV × Bd) := match r, sizeT ty t with
  | some (l, d), some z => bif Nat.beq l.length z then some (l, d) else none
  | _, _ => none
mutual
def mkD (ty : Ty) : Nat → TypeId → A → B → Bd → Option (List SV × Bd)
  | 0, _, _, _, _ => none
  | n + 1, t, a, c, d => match tdOf ty t with
    | .int k => some ([.int k a], d)
    | .bool => some ([.bool a.tru], d)
    | .str => some ([.str a], d)
    | .slice _ _ => let r := newVal t c a d; some ([r.1], r.2)
    | .hnd _ _ => let r := d.ghost (.val c t a); some ([.sl r.1], r.2)
    | .struct fs _ => sizeIs ty t (mkDF ty n fs a 0 0 c (shpFact c a fs.length d))
    | .arr m e s => sizeIs ty t (mkDA ty n m e s a 0 c d)
    | _ => none
def mkDF (ty : Ty) : Nat → List (Nat × Nat × Nat) → A → Nat → Nat → B → Bd → Option (List SV × Bd)
  | 0, _, _, _, _, _, _ => none
  | _ + 1, [], _, _, _, _, d => some ([], d)
  | n + 1, f :: fs, a, i, off, c, d => match mkD ty n f.1 (a.mkFld i) c d with
    | some (l, d) => bif Nat.beq f.2.1 off && Nat.beq l.length f.2.2 then (match mkDF ty n fs a (i + 1) (off + f.2.2) c d with
      | some (r, d) => some (l ++ r, d)
      | none => none) else none
    | none => none
def mkDA (ty : Ty) : Nat → Nat → TypeId → Nat → A → Nat → B → Bd → Option (List SV × Bd)
  | 0, _, _, _, _, _, _, _ => none
  | _ + 1, 0, _, _, _, _, _, d => some ([], d)
  | n + 1, m + 1, e, s, a, i, c, d => match mkD ty n e (a.mkFld i) c d with
    | some (l, d) => bif Nat.beq l.length s then (match mkDA ty n m e s a (i + 1) c d with
      | some (r, d) => some (l ++ r, d)
      | none => none) else none
    | none => none
end
def mkV (ty : Ty) (t : TypeId) (a : A) (c : B) (d : Bd) : Option (SV × Bd) := match mkD ty 60 t a c d with
  | some (l, d) => match ofCells ty t l with
    | some v => some (v, d)
    | none => none
  | none => none
def sameFld (x : A) : List A → Nat → Bool
  | [], _ => true
  | .fld y i :: r, j => Nat.beq i j && x.beq y && sameFld x r (j + 1)
  | _, _ => false
def etaA (pc : List (B × Bool)) (l : List A) : Option A := match l with
  | .fld x i :: _ => bif sameFld x l 0 && knownIs pc (.shp x l.length) true then some x else none
  | _ => none
def boolA : B → Bd → A × Bd
  | .c b, d => (.d (.tru b), d)
  | .is a, d => (a, d)
  | b, d => d.bind (.boo b)
def litsOf : List A → Option (List Dt)
  | [] => some []
  | .n c :: r => match litsOf r with
    | some l => some (.num c :: l)
    | none => none
  | .d x :: r => match litsOf r with
    | some l => some (x :: l)
    | none => none
  | _ => none
def mkTup (pc : List (B × Bool)) (l : List A) (d : Bd) : A × Bd := match litsOf l with
  | some x => (.d (.tup x), d)
  | none => match etaA pc l with
    | some a => (a, d)
    | none => d.bind (.mk l)
structure Fs where
  d : Bd
  mem : Tb SO
def slD (ty : Ty) (pc : List (B × Bool)) (t : TypeId) (e s : Nat) (b : Nat) (f : Fs) : Option (A × Fs) := match f.mem.get b with
  | some (.val c t' a) => match tdOf ty t' with
    | .slice e' _ => bif Nat.beq e e' && knownIs pc c true then some (a, f) else none
    | _ => none
  | some (.rowd e' s' a) => bif Nat.beq e e' && Nat.beq s s' then some (a, { f with mem := f.mem.put b (.val (.c true) t a) }) else none
  | _ => none
def hnD (pc : List (B × Bool)) (t b : Nat) (f : Fs) : Option (A × Fs) := match f.mem.get b with
  | some (.val c t' a) => bif Nat.beq t t' && knownIs pc c true then some (a, f) else none
  | _ => none
def sizeOk (ty : Ty) (t : TypeId) (n : Nat) : Bool := match sizeT ty t with
  | some z => Nat.beq n z
  | none => false
mutual
def toD (ty : Ty) (pc : List (B × Bool)) : Nat → TypeId → List SV → Fs → Option (A × Fs)
  | 0, _, _, _ => none
  | n + 1, t, cs, f => match tdOf ty t, cs with
    | .int k, [.int k' a] => bif kindEq k k' then some (a, f) else none
    | .bool, [.bool b] => let r := boolA b f.d; some (r.1, { f with d := r.2 })
    | .str, [.str a] => some (a, f)
    | .slice _ _, [.nilsl] => some (.d .nil, f)
    | .slice e s, [.sl b] => slD ty pc t e s b f
    | .hnd _ _, [.sl b] => hnD pc t b f
    | .struct fs _, _ => bif sizeOk ty t cs.length then (match toDF ty pc n fs cs f with
      | some (l, f) => let r := mkTup pc l f.d; some (r.1, { f with d := r.2 })
      | none => none) else none
    | .arr m e s, _ => bif sizeOk ty t cs.length then (match toDA ty pc n m e s cs f with
      | some (l, f) => let r := mkTup pc l f.d; some (r.1, { f with d := r.2 })
      | none => none) else none
    | _, _ => none
def toDF (ty : Ty) (pc : List (B × Bool)) : Nat → List (Nat × Nat × Nat) → List SV → Fs → Option (List A × Fs)
  | 0, _, _, _ => none
  | _ + 1, [], _, f => some ([], f)
  | n + 1, g :: gs, cs, f => match takeN g.2.2 (dropN g.2.1 cs) with
    | some l => match toD ty pc n g.1 l f with
      | some (a, f) => match toDF ty pc n gs cs f with
        | some (r, f) => bif Nat.ble (g.2.1 + g.2.2) cs.length then some (a :: r, f) else none
        | none => none
      | none => none
    | none => none
def toDA (ty : Ty) (pc : List (B × Bool)) : Nat → Nat → TypeId → Nat → List SV → Fs → Option (List A × Fs)
  | 0, _, _, _, _, _ => none
  | _ + 1, 0, _, _, _, f => some ([], f)
  | n + 1, m + 1, e, s, cs, f => match takeN s cs with
    | some l => match toD ty pc n e l f with
      | some (a, f) => match toDA ty pc n m e s (dropN s cs) f with
        | some (r, f) => some (a :: r, f)
        | none => none
      | none => none
    | none => none
end
def toDs (ty : Ty) (pc : List (B × Bool)) (t : TypeId) : List (List SV) → Fs → Option (List A × Fs)
  | [], f => some ([], f)
  | c :: r, f => match toD ty pc 60 t c f with
    | some (a, f) => match toDs ty pc t r f with
      | some (l, f) => some (a :: l, f)
      | none => none
    | none => none
def slA (ty : Ty) (mem : Tb SO) (pc : List (B × Bool)) (t : TypeId) (v : SV) : Option A := match v with
  | .nilsl => some (.d .nil)
  | .sl b => match mem.get b, tdOf ty t with
    | some (.val c t' a), .slice e _ => match tdOf ty t' with
      | .slice e' _ => bif Nat.beq e e' && knownIs pc c true then some a else none
      | _ => none
    | some (.rowd e' n' a), .slice e n => bif Nat.beq e e' && Nat.beq n n' then some a else none
    | _, _ => none
  | _ => none
def slH (ty : Ty) (mem : Tb SO) (pc : List (B × Bool)) (t : TypeId) (v : SV) : Option A := match slA ty mem pc t v with
  | some a => some a
  | none => match v with
    | .sl b => match mem.get b, tdOf ty t, mem.get 0 with
      | some (.val c t' a), .slice e n, some (.pool _ _ P) => match tdOf ty t' with
        | .hnd e' s' => bif Nat.beq e e' && Nat.beq n s' && knownIs pc c true then some (P.mkIdx a) else none
        | _ => none
      | _, _, _ => none
    | _ => none
def slF (ty : Ty) (mem : Tb SO) (pc : List (B × Bool)) (t : TypeId) (v : SV) : Option A := match v with
  | .nilsl => some (.d .nil)
  | .sl b => match mem.get b, tdOf ty t with
    | some (.val c t' a), .slice e _ => match tdOf ty t' with
      | .slice e' _ => bif Nat.beq e e' && knownIs pc c true then some a else none
      | _ => none
    | _, _ => none
  | _ => none
def binE (op : BinOp) (k : IntKind) (x y : A) : Option E :=
  match op with
  | .add => some (.add k x y)
  | .sub => some (.sub k x y)
  | .mul => some (.mul k x y)
  | .and => some (.band k x y)
  | .or => some (.bor k x y)
  | .xor => some (.bxor k x y)
  | .andNot => some (.bclr k x y)
  | .quo => match y with
    | .n c => bif (c == 0) then none else some (.quo k x y)
    | _ => none
  | .rem => match y with
    | .n c => bif (c == 0) then none else some (.rem x y)
    | _ => none
  | .shl => match y with
    | .n c => bif decide (c < 0) then none else some (.shl k x y)
    | _ => none
  | .shr => match y with
    | .n c => bif decide (c < 0) then none else some (.shr k x y)
    | _ => none
  | _ => none
def shOp : BinOp → Bool
  | .shl | .shr => true
  | _ => false
def cmpB (op : BinOp) (x y : A) : Option B :=
  match op with
  | .lss => some (.mkLt x y)
  | .leq => some (B.mkLt y x).mkNot
  | .gtr => some (.mkLt y x)
  | .geq => some (B.mkLt x y).mkNot
  | _ => none
def eqB (x y : B) : B := match x, y with
  | .c true, y => y
  | .c false, y => y.mkNot
  | x, .c true => x
  | x, .c false => x.mkNot
  | x, y => .or (.and x y) (.and x.mkNot y.mkNot)
def mkSeq (x y : A) : B := bif x.beq y then .c true else (B.seq x y).fold
def mkSlt (x y : A) : B := (B.slt x y).fold
mutual
def eqV (ty : Ty) : Nat → TypeId → SV → SV → Option B
  | 0, _, _, _ => none
  | n + 1, t, x, y =>
    match ty.get t with
    | none => none
    | some i => match i.d with
      | .bool => match x, y with
        | .bool a, .bool b => some (eqB a b)
        | _, _ => none
      | .int _ => match x, y with
        | .int k a, .int k' b => bif kindEq k k' then some (B.mkEq a b) else none
        | _, _ => none
      | .str => match x, y with
        | .str a, .str b => some (mkSeq a b)
        | _, _ => none
      | .struct fs true => match x, y with
        | .agg xs, .agg ys => eqFs ty n fs xs ys
        | _, _ => none
      | _ => none
def eqFs (ty : Ty) : Nat → List (Nat × Nat × Nat) → List SV → List SV → Option B
  | 0, _, _, _ => none
  | _ + 1, [], _, _ => some (.c true)
  | n + 1, f :: fs, xs, ys =>
    match partL ty f.1 xs f.2.1, partL ty f.1 ys f.2.1 with
    | some x, some y => match eqV ty n f.1 x y with
      | some b => match eqFs ty n fs xs ys with
        | some r => some (b.mkAnd r)
        | none => none
      | none => none
    | _, _ => none
end
def nilA (a : A) : B := (B.nil a).fold
def eqAny (ty : Ty) (mem : Tb SO) (pc : List (B × Bool)) (lit : Bool) (t : TypeId) (x y : SV) : Option B :=
  match x, y with
  | .int k a, .int k' b => bif kindEq k k' then some (B.mkEq a b) else none
  | .str a, .str b => match tdOf ty t with
    | .str => some (mkSeq a b)
    | _ => none
  | .fn _ _ _, .nilfn => match tdOf ty t with
    | .func => some (.c false)
    | _ => none
  | .nilfn, .nilfn => match tdOf ty t with
    | .func => some (.c true)
    | _ => none
  | .map _, .nilmap => match tdOf ty t with
    | .map _ _ => some (.c false)
    | _ => none
  | .nilmap, .nilmap => match tdOf ty t with
    | .map _ _ => some (.c true)
    | _ => none
  | .iface _ _, .niliface => match tdOf ty t with
    | .iface => some (.c false)
    | _ => none
  | .niliface, .niliface => match tdOf ty t, lit with
    | .iface, true => some (.c true)
    | _, _ => none
  | .sl b, .nilsl => match tdOf ty t with
    | .slice _ _ => match slA ty mem pc t (.sl b) with
      | some a => some (nilA a)
      | none => none
    | _ => none
  | .nilsl, .nilsl => match tdOf ty t with
    | .slice _ _ => some (.c true)
    | _ => none
  | .agg _, .agg _ => eqV ty 60 t x y
  | .bool a, .bool b => match tdOf ty t with
    | .bool => some (eqB a b)
    | _ => none
  | _, _ => none
def foldMM (mn : Bool) : List SV → A → IntKind → Bd → Option (SV × Bd)
  | [], x, k, d => some (.int k x, d)
  | .int k' y :: l, x, k, d => bif kindEq k k' then (let r := d.bind (bif mn then .mn x y else .mx x y); foldMM mn l r.1 k r.2) else none
  | _, _, _, _ => none
def tOf (mem : Tb SO) (v : SV) : Option TypeId := match v with
  | .sl b => match mem.get b with
    | some (.val _ t _) => some t
    | _ => none
  | _ => none
mutual
def pickV (ty : Ty) (mem : Tb SO) (pt pe : List (B × Bool)) (cg c : B) : SV → SV → Bd → Option (SV × Bd)
  | .int k x, .int k' y, d => bif kindEq k k' then (bif x.beq y then some (.int k x, d) else (let r := d.bind (.sel c x y); some (.int k r.1, r.2))) else none
  | .str x, .str y, d => bif x.beq y then some (.str x, d) else (let r := d.bind (.sel c x y); some (.str r.1, r.2))
  | .bool x, .bool y, d => some (.bool (.mkOr (.mkAnd c x) (.mkAnd c.mkNot y)), d)
  | .agg xs, .agg ys, d => match pickVs ty mem pt pe cg c xs ys d with
    | some (l, d') => some (.agg l, d')
    | none => none
  | .sl i, .sl j, d => bif Nat.beq i j then some (.sl i, d) else pickS ty mem pt pe cg c (tOf mem (.sl i)) (.sl i) (.sl j) d
  | .sl i, .nilsl, d => pickS ty mem pt pe cg c (tOf mem (.sl i)) (.sl i) .nilsl d
  | .nilsl, .sl j, d => pickS ty mem pt pe cg c (tOf mem (.sl j)) .nilsl (.sl j) d
  | .nilsl, .nilsl, d => some (.nilsl, d)
  | .nilp, .nilp, d => some (.nilp, d)
  | .niliface, .niliface, d => some (.niliface, d)
  | _, _, _ => none
def pickVs (ty : Ty) (mem : Tb SO) (pt pe : List (B × Bool)) (cg c : B) : List SV → List SV → Bd → Option (List SV × Bd)
  | [], [], d => some ([], d)
  | x :: xs, y :: ys, d => match pickV ty mem pt pe cg c x y d with
    | some (v, d') => match pickVs ty mem pt pe cg c xs ys d' with
      | some (l, d'') => some (v :: l, d'')
      | none => none
    | none => none
  | _, _, _ => none
def pickS (ty : Ty) (mem : Tb SO) (pt pe : List (B × Bool)) (cg c : B) : Option TypeId → SV → SV → Bd → Option (SV × Bd)
  | some t, x, y, d => match slF ty mem pt t x, slF ty mem pe t y with
    | some a, some b => let r := d.bind (.sel c a b); let q := newVal t cg r.1 r.2; some q
    | _, _ => none
  | none, _, _, _ => none
end
def pickB (c x y : B) : B := match x, y with
  | .c true, y => .mkOr c y
  | x, .c false => .mkAnd c x
  | x, y => .mkOr (.mkAnd c x) (.mkAnd c.mkNot y)
def fillL (place : Nat → Option (Nat × Nat)) : List SV → List (Nat × SV) → Option (List SV)
  | cells, [] => some cells
  | cells, (i, v) :: rest =>
    match place i, v.cellsOf with
    | some (off, size), some vs => bif Nat.beq vs.length size then (match putN cells off vs with
        | some c => fillL place c rest
        | none => none) else none
    | _, _ => none
def evPs (pc : List (B × Bool)) (tm : Tm) : List (Nat × Operand) → Option (List (Nat × SV))
  | [] => some []
  | (i, x) :: l => match evO pc tm x with
    | none => none
    | some v => match evPs pc tm l with
      | none => none
      | some r => some ((i, v) :: r)
def zeroL (ty : Ty) (t : TypeId) : Option (List SV) := match ty.get t with
  | some i => i.zero
  | none => none
def zeroV (ty : Ty) (t : TypeId) : Option SV := match ty.get t with
  | some i => match i.zero with
    | some l => bif i.d.agg then some (.agg l) else (match l with
      | [z] => some z
      | _ => none)
    | none => none
  | none => none
def fieldPl (fs : List (Nat × Nat × Nat)) (i : Nat) : Option (Nat × Nat) :=
  match nth fs i with
  | some f => some (f.2.1, f.2.2)
  | none => none
def repeatL {α : Type} : Nat → List α → List α
  | 0, _ => []
  | n + 1, l => l ++ repeatL n l
def buildV (ty : Ty) (t : TypeId) (parts : List (Nat × SV)) : Option SV :=
  match ty.get t with
  | none => none
  | some i => match i.zero, i.d with
    | some z, .struct fs _ => match fillL (fieldPl fs) z parts with
      | some l => some (.agg l)
      | none => none
    | some z, .arr _ _ n => match fillL (fun i => some (i * n, n)) z parts with
      | some l => some (.agg l)
      | none => none
    | _, _ => none
def litNat (n : Int) : Option Nat := match n with
  | .ofNat m => some m
  | .negSucc _ => none
structure Gls where
  fl : List (Nat × List SV)
  dt : List (Nat × TypeId × Dt)
def gdOf : List (Nat × TypeId × Dt) → Nat → Option (TypeId × Dt)
  | [], _ => none
  | e :: l, g => bif Nat.beq e.1 g then some e.2 else gdOf l g
structure Pu where
  ty : Ty
  mem : Tb SO
  tm : Tm
  ni : Nat
  nb : Nat
  pc : List (B × Bool)
  cg : B
  gd : List (Nat × TypeId × Dt)
def Pu.ev (p : Pu) (x : Operand) : Option SV := evO p.pc p.tm x
def Pu.d (p : Pu) : Bd := .of p.ni p.nb
def bndA (p : Pu) (o : Option Operand) (dflt : A) : Option A :=
  match o with
  | none => some dflt
  | some x => match p.ev x with
    | some (.int _ a) => some a
    | _ => none
def litNatA : A → Option Nat
  | .n c => litNat c
  | _ => none
def inOrder (pc : List (B × Bool)) (lo hi n : A) : Bool :=
  knownIs pc (.mkLt lo (.n 0)) false && knownIs pc (.mkLt hi lo) false && knownIs pc (.mkLt n hi) false
def noMx : Option Operand → Bool
  | none => true
  | some _ => false
def mxIs (p : Pu) (hi mx : Option Operand) (h : A) : Bool := match mx with
  | none => true
  | some m => match hi, p.ev m with
    | some _, some (.int _ m) => m.beq h || knownIs p.pc (.mkEq m h) true
    | _, _ => false
def cutA (a lo hi : A) (d : Bd) : A × Bd := d.bind (.cut a lo hi)
def sliceV (p : Pu) (t : TypeId) (x : SV) (lo hi mx : Option Operand) : Option (SV × Bd) :=
  match tdOf p.ty t with
  | .str => match x with
    | .str s => match bndA p lo (.n 0), bndA p hi s.mkSlen with
      | some l, some h => bif inOrder p.pc l h s.mkSlen && noMx mx then (let r := p.d.bind (.scut s l h); some (.str r.1, r.2)) else none
      | _, _ => none
    | _ => none
  | .slice _ n => match x with
    | .slice b off len cap => match bndA p lo (.n 0), bndA p hi (.n len), mx with
      | some l, some h, none => match litNatA l, litNatA h with
        | some l, some h => bif Nat.ble l h && Nat.ble h cap then some (.slice b (bif Nat.beq cap l then off else off + l * n) (h - l) (cap - l), p.d) else none
        | _, _ => none
      | _, _, _ => none
    | x => match slF p.ty p.mem p.pc t x with
      | some a => match bndA p lo (.n 0), bndA p hi a.mkLen with
        | some l, some h => bif inOrder p.pc l h a.mkLen && mxIs p hi mx h then (let r := cutA a l h p.d; some (newVal t p.cg r.1 r.2)) else none
        | _, _ => none
      | none => none
  | .arr n _ m => match x with
    | .ptr b off => match bndA p lo (.n 0), bndA p hi (.n n), mx with
      | some l, some h, none => match litNatA l, litNatA h with
        | some l, some h => bif Nat.ble l h && Nat.ble h n then some (.slice b (bif Nat.beq n l then off else off + l * m) (h - l) (n - l), p.d) else none
        | _, _ => none
      | _, _, _ => none
    | _ => none
  | _ => none
def lenV (p : Pu) (t : TypeId) (x : SV) : Option A :=
  match tdOf p.ty t with
  | .str => match x with
    | .str s => some s.mkSlen
    | _ => none
  | .arr n _ _ => bif decide (n < 9223372036854775808) then some (.n n) else none
  | .slice _ _ => match x with
    | .slice _ _ len _ => bif decide (len < 9223372036854775808) then some (.n len) else none
    | .nilsl => some (.n 0)
    | x => match slH p.ty p.mem p.pc t x with
      | some a => some a.mkLen
      | none => none
  | .map _ _ => match x with
    | .nilmap => some (.n 0)
    | _ => none
  | _ => none
def pMove (p : Pu) (x : Operand) : Option (SV × Bd) := match p.ev x with
  | some v => some (v, p.d)
  | none => none
def pPick (p : Pu) (c x y : Operand) : Option (SV × Bd) := match p.ev c with
  | some (.bool (.c true)) => match p.ev x with
    | some v => some (v, p.d)
    | none => none
  | some (.bool (.c false)) => match p.ev y with
    | some v => some (v, p.d)
    | none => none
  | some (.bool c) => match p.ev x, p.ev y with
    | some x, some y => match x.under (c.facts true ++ p.pc), y.under (c.facts false ++ p.pc) with
      | .bool x, .bool y => some (.bool (pickB c x y), p.d)
      | x, y => pickV p.ty p.mem (c.facts true ++ p.pc) (c.facts false ++ p.pc) p.cg c x y p.d
    | _, _ => none
  | _ => none
def isCon : Operand → Bool
  | .const _ => true
  | _ => false
def pBinOp (p : Pu) (op : BinOp) (t : TypeId) (ox oy : Operand) : Option (SV × Bd) := match p.ev ox, p.ev oy with
  | some x, some y => match op with
    | .eql => match eqAny p.ty p.mem p.pc (isCon ox || isCon oy) t x y with
      | some b => some (.bool b, p.d)
      | none => none
    | .neq => match eqAny p.ty p.mem p.pc (isCon ox || isCon oy) t x y with
      | some b => some (.bool b.mkNot, p.d)
      | none => none
    | op => match x, y with
      | .int k a, .int k' b => bif kindEq k k' || shOp op then (match cmpB op a b with
          | some o => some (.bool o, p.d)
          | none => match binE op k a b with
            | some e => let r := p.d.bind e; some (.int k r.1, r.2)
            | none => none) else none
      | .str a, .str b => match op with
        | .lss => some (.bool (mkSlt a b), p.d)
        | .leq => some (.bool (mkSlt b a).mkNot, p.d)
        | .gtr => some (.bool (mkSlt b a), p.d)
        | .geq => some (.bool (mkSlt a b).mkNot, p.d)
        | _ => none
      | _, _ => none
  | _, _ => none
def pUnOp (p : Pu) (op : UnOp) (x : Operand) : Option (SV × Bd) := match op, p.ev x with
  | .not, some (.bool b) => some (.bool b.mkNot, p.d)
  | .neg, some (.int k a) => let r := p.d.bind (.neg k a); some (.int k r.1, r.2)
  | .xor, some (.int k a) => let r := p.d.bind (.com k a); some (.int k r.1, r.2)
  | _, _ => none
def pConvert (p : Pu) (src dst : TypeId) (x : Operand) : Option (SV × Bd) := match tdOf p.ty src, tdOf p.ty dst, p.ev x with
  | .int _, .int k, some (.int _ a) => let r := p.d.bind (.wrap k a); some (.int k r.1, r.2)
  | .str, .str, some (.str s) => some (.str s, p.d)
  | .slice e n, .str, some x => match (bif Nat.beq n 1 then tdOf p.ty e else .other), slF p.ty p.mem p.pc src x with
    | .int .u8, some a => let r := p.d.bind (.ofBs a); some (.str r.1, r.2)
    | _, _ => none
  | _, _, _ => none
def evOsP (p : Pu) (l : List Operand) : Option (List SV) := evOs p.pc p.tm l
def pMakeFunc (p : Pu) (f : Fn) (first captured : Array Operand) : Option (SV × Bd) := match evOsP p first.toList, evOsP p captured.toList with
  | some a, some b => some (.fn f a b, p.d)
  | _, _ => none
def pMakeInterface (p : Pu) (t : TypeId) (x : Operand) : Option (SV × Bd) := match tdOf p.ty t, p.ev x with
  | .iface, _ => none
  | .other, _ => none
  | td, some v => bif td.isH then none else some (.iface t v, p.d)
  | _, _ => none
def pFieldAddr (p : Pu) (t : TypeId) (x : Operand) (f : Nat) : Option (SV × Bd) := match tdOf p.ty t, p.ev x with
  | .struct fs _, some v => match nth fs f with
    | some g => bif Nat.beq g.2.2 0 then none else match v with
      | .ptr b off => some (.ptr b (off + g.2.1), p.d)
      | .gptr b off => some (.gptr b (off + g.2.1), p.d)
      | .rp b s i off path => some (.rp b s i (off + g.2.1) (path ++ [f]), p.d)
      | .pt b => match p.mem.get b with
        | some (.at c t' a) => bif Nat.beq t t' && knownIs p.pc c true then (let r := p.d.ghost (.at p.cg g.1 (a.mkFld f)); some (.pt r.1, r.2)) else none
        | _ => none
      | _ => none
    | none => none
  | _, _ => none
def pField (p : Pu) (t : TypeId) (x : Operand) (f : Nat) : Option (SV × Bd) := match tdOf p.ty t, p.ev x with
  | .struct fs _, some (.agg l) => match nth fs f with
    | some g => match partL p.ty g.1 l g.2.1 with
      | some v => some (v, p.d)
      | none => none
    | none => none
  | _, _ => none
def pExtract (p : Pu) (x : Operand) (i : Nat) : Option (SV × Bd) := match p.ev x with
  | some (.tup l) => match nth l i with
    | some v => some (v, p.d)
    | none => none
  | _ => none
def pBuild (p : Pu) (t : TypeId) (parts : Array (Nat × Operand)) : Option (SV × Bd) := match evPs p.pc p.tm parts.toList with
  | some ps => match buildV p.ty t ps with
    | some v => some (v, p.d)
    | none => none
  | none => none
def idxAddr (p : Pu) (t : TypeId) (v : SV) (a : A) (d : Bd) : Option (SV × Bd) := match v with
  | .sl b => match p.mem.get b, tdOf p.ty t with
    | some (.val c t' x), .slice e n => match tdOf p.ty t' with
      | .slice e' _ => bif Nat.beq e e' && knownIs p.pc c true && knownIs p.pc (.mkLt a (.n 0)) false && knownIs p.pc (.mkLt a x.mkLen) true then
          (let r := d.ghost (.at p.cg e (x.mkIdx a)); some (.pt r.1, r.2)) else none
      | .hnd e' s' => match p.mem.get 0 with
        | some (.pool _ _ P) => bif Nat.beq e e' && Nat.beq n s' && knownIs p.pc c true && knownIs p.pc (.mkLt a (.n 0)) false && knownIs p.pc (.mkLt a (P.mkIdx x).mkLen) true then some (.rp b n a 0 [], d) else none
        | _ => none
      | _ => none
    | some (.rowd e' s x), .slice e n => bif Nat.beq e e' && Nat.beq s n && knownIs p.pc (.mkLt a (.n 0)) false && knownIs p.pc (.mkLt a x.mkLen) true then some (.rp b s a 0 [], d) else none
    | _, _ => none
  | _ => none
def pIndexAddr (p : Pu) (t : TypeId) (x i : Operand) : Option (SV × Bd) := match tdOf p.ty t, p.ev x, p.ev i with
  | .slice _ n, some (.slice b off len _), some (.int _ (.n c)) => match litNat c with
    | some j => bif Nat.blt j len then some (.ptr b (off + j * n), p.d) else none
    | none => none
  | .slice _ _, some (.sl b), some (.int _ a) => idxAddr p t (.sl b) a p.d
  | .arr len _ n, some (.ptr b off), some (.int _ (.n c)) => match litNat c with
    | some j => bif Nat.blt j len then some (.ptr b (off + j * n), p.d) else none
    | none => none
  | .arr len _ n, some (.gptr b off), some (.int _ (.n c)) => match litNat c with
    | some j => bif Nat.blt j len then some (.gptr b (off + j * n), p.d) else none
    | none => none
  | _, _, _ => none
def pIndex (p : Pu) (t : TypeId) (x i : Operand) : Option (SV × Bd) := match tdOf p.ty t, p.ev x, p.ev i with
  | .arr len e n, some (.agg l), some (.int _ (.n c)) => match litNat c with
    | some j => bif Nat.blt j len then (match partL p.ty e l (j * n) with
      | some v => some (v, p.d)
      | none => none) else none
    | none => none
  | .str, some (.str s), some (.int _ a) => bif knownIs p.pc (.mkLt a (.n 0)) false && knownIs p.pc (.mkLt a s.mkSlen) true then some (.int .u8 (s.mkSidx a), p.d) else none
  | _, _, _ => none
def pSlice (p : Pu) (t : TypeId) (x : Operand) (lo hi mx : Option Operand) : Option (SV × Bd) := match p.ev x with
  | some v => sliceV p t v lo hi mx
  | none => none
def pNilCheck (p : Pu) (x : Operand) : Option (SV × Bd) := match p.ev x with
  | some (.ptr b off) => some (.ptr b off, p.d)
  | some (.rp b s i off l) => some (.rp b s i off l, p.d)
  | some (.pt b) => match p.mem.get b with
    | some (.at c _ _) => bif knownIs p.pc c true then some (.pt b, p.d) else none
    | _ => none
  | some (.fn (.func f) a b) => some (.fn (.func f) a b, p.d)
  | _ => none
def pTypeAssert (p : Pu) (x : Operand) (asserted : TypeId) (ok : Bool) : Option (SV × Bd) := match tdOf p.ty asserted, p.ev x with
  | .iface, _ | .other, _ => none
  | td, some (.iface t v) => bif td.isH then none else bif Nat.beq t asserted then some (bif ok then .tup [v, .bool (.c true)] else v, p.d) else (match ok, zeroV p.ty asserted with
    | true, some z => some (.tup [z, .bool (.c false)], p.d)
    | _, _ => none)
  | td, some .niliface => bif td.isH then none else match ok, zeroV p.ty asserted with
    | true, some z => some (.tup [z, .bool (.c false)], p.d)
    | _, _ => none
  | _, _ => none
def pLoad (p : Pu) (t : TypeId) (x : Operand) : Option (SV × Bd) := match p.ev x with
  | some (.pt b) => match p.mem.get b with
    | some (.at c t' a) => bif Nat.beq t t' && knownIs p.pc c true && !(tdOf p.ty t).isH then mkV p.ty t a p.cg p.d else none
    | _ => none
  | some (.gptr g 0) => match gdOf p.gd g with
    | some (t', x) => bif Nat.beq t t' && !(tdOf p.ty t).isH then mkV p.ty t (.d x) p.cg p.d else none
    | none => none
  | _ => none
def pCall (p : Pu) (c : Call) : Option (SV × Bd) := match c.callee with
  | .builtin .len => match c.argTypes.toList, evOsP p c.args.toList with
    | [t], some [x] => match lenV p t x with
      | some a => some (.int .i64 a, p.d)
      | none => none
    | _, _ => none
  | .builtin .min => match evOsP p c.args.toList with
    | some (.int k x :: l) => foldMM true l x k p.d
    | _ => none
  | .builtin .max => match evOsP p c.args.toList with
    | some (.int k x :: l) => foldMM false l x k p.d
    | _ => none
  | .builtin .cap => match c.argTypes.toList, evOsP p c.args.toList with
    | [t], some [.nilsl] => match tdOf p.ty t with
      | .slice _ _ => some (.int .i64 (.n 0), p.d)
      | _ => none
    | _, _ => none
  | _ => none
def pureOp (p : Pu) (op : Op) : Option (SV × Bd) :=
  match op with
  | .move x | .assign x => pMove p x
  | .pick c x y => pPick p c x y
  | .binOp op t x y _ => pBinOp p op t x y
  | .unOp op _ x => pUnOp p op x
  | .convert src dst x => pConvert p src dst x
  | .makeFunc f first captured => pMakeFunc p f first captured
  | .makeInterface t x => pMakeInterface p t x
  | .fieldAddr t x f => pFieldAddr p t x f
  | .field t x f => pField p t x f
  | .extract x i => pExtract p x i
  | .build t parts => pBuild p t parts
  | .indexAddr t x i => pIndexAddr p t x i
  | .index t x i => pIndex p t x i
  | .slice t x lo hi mx => pSlice p t x lo hi mx
  | .nilCheck x => pNilCheck p x
  | .typeAssert x _ a ok => pTypeAssert p x a ok
  | .load t x => pLoad p t x
  | .call c => pCall p c
  | _ => none
end
end Go.SY
