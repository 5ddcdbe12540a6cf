/- The symbolic executor SX, part B: memory, calls, regions, code (definitions alone). -/
import Derived.Test.YtncaejnkpmmoeaaDoorSxA
set_option linter.unusedVariables false
namespace Go.SX
open Go

def A.beqs : List A → List A → Bool
  | [], [] => true
  | x :: xs, y :: ys => x.beq y && A.beqs xs ys
  | _, _ => false
def strEq : List UInt8 → List UInt8 → Bool
  | [], [] => true
  | a :: l, b :: m => Nat.beq a.toNat b.toNat && strEq l m
  | _, _ => false
def E.beq : E → E → Bool
  | .add k x y, .add k' x' y' | .sub k x y, .sub k' x' y' | .mul k x y, .mul k' x' y' | .quo k x y, .quo k' x' y' | .band k x y, .band k' x' y' | .bor k x y, .bor k' x' y' | .bxor k x y, .bxor k' x' y'
  | .bclr k x y, .bclr k' x' y' | .shl k x y, .shl k' x' y' | .shr k x y, .shr k' x' y' => kindEq k k' && x.beq x' && y.beq y'
  | .rem x y, .rem x' y' | .mn x y, .mn x' y' | .mx x y, .mx x' y' => x.beq x' && y.beq y'
  | .wrap k x, .wrap k' x' | .neg k x, .neg k' x' | .com k x, .com k' x' => kindEq k k' && x.beq x'
  | .sel c x y, .sel c' x' y' => c.beq c' && x.beq x' && y.beq y'
  | .tab s x, .tab s' x' => strEq s s' && x.beq x'
  | _, _ => false
def T.beq : T → T → Bool
  | .ret l, .ret l' => A.beqs l l'
  | .fail a, .fail b => Nat.beq a b
  | .lt e t, .lt e' t' => e.beq e' && t.beq t'
  | .br c t e, .br c' t' e' => c.beq c' && t.beq t' && e.beq e'
  | .call f l n t, .call f' l' n' t' => Nat.beq f f' && A.beqs l l' && Nat.beq n n' && t.beq t'
  | .again d l, .again d' l' => Nat.beq d d' && A.beqs l l'
  | .loop d l t, .loop d' l' t' => Nat.beq d d' && A.beqs l l' && t.beq t'
  | .out d t, .out d' t' => Nat.beq d d' && t.beq t'
  | _, _ => false
def fnEq : Fn → Fn → Bool
  | .func f, .func g => Nat.beq f g
  | _, _ => false
mutual
def SV.beq : SV → SV → Bool
  | .int k a, .int k' a' => kindEq k k' && a.beq a'
  | .bool a, .bool b => a.beq b
  | .str a, .str b => strEq a b
  | .ptr a b, .ptr c d | .gptr a b, .gptr c d | .own a b, .own c d => Nat.beq a c && Nat.beq b d
  | .nilp, .nilp | .nilsl, .nilsl | .nilmap, .nilmap | .nilfn, .nilfn | .niliface, .niliface => true
  | .slice a b c d, .slice a' b' c' d' => Nat.beq a a' && Nat.beq b b' && Nat.beq c c' && Nat.beq d d'
  | .map a, .map b => Nat.beq a b
  | .fn f a b, .fn g c d => fnEq f g && SV.beqs a c && SV.beqs b d
  | .agg a, .agg b => SV.beqs a b
  | .tup a, .tup b => SV.beqs a b
  | .iface t a, .iface u b => Nat.beq t u && a.beq b
  | .gd c w v, .gd c' w' v' => c.beq c' && (w == w') && v.beq v'
  | _, _ => false
def SV.beqs : List SV → List SV → Bool
  | [], [] => true
  | x :: xs, y :: ys => x.beq y && SV.beqs xs ys
  | _, _ => false
end

/-- What is known of the program: constants of package variables; which functions are taken by a contract (their parameters and results); which loops are unrolled. -/
inductive S1 where
  | int (k : IntKind)
  | bool
  deriving Inhabited, Repr
inductive Sh where
  | one (s : S1)
  | agg (l : List S1)
  deriving Inhabited, Repr
structure Sig where
  ins : List Sh
  outs : List Sh
  deriving Inhabited, Repr
structure Cfg where
  P : Program
  ty : Ty
  gl : List (Nat × List SV)
  sp : Nat → Option Sig
  un : Nat → Bool

/-! ### Memory -/
def rdMem (mem : Tb SO) (b off n : Nat) : Option (List SV) :=
  match mem.get b with
  | some (.cells c _) => takeN n (dropN off c)
  | some (.row c _ _ _) => takeN n (dropN off c)
  | _ => none
def rdGl (gl : List (Nat × List SV)) (g off n : Nat) : Option (List SV) :=
  match gl with
  | [] => none
  | (h, c) :: r => bif Nat.beq h g then takeN n (dropN off c) else rdGl r g off n

def loadV (C : Cfg) (mem : Tb SO) (t : TypeId) (a : SV) : Option SV :=
  match C.ty.get t with
  | some i =>
    match (match a with
      | .ptr b off => rdMem mem b off (bif i.d.agg then i.size else 1)
      | .gptr g off => rdGl C.gl g off (bif i.d.agg then i.size else 1)
      | _ => none) with
    | none => none
    | some l => bif i.d.agg then some (.agg l) else match l with
      | [v] => some v
      | _ => none
  | none => none

def wrMem (mem : Tb SO) (b off : Nat) (vs : List SV) : Option (Tb SO) :=
  match mem.get b with
  | some (.cells c e) => match putN c off vs with
    | some c' => some (mem.put b (.cells c' e))
    | none => none
  | some (.row c e s n) => match putN c off vs with
    | some c' => some (mem.put b (.row c' e s n))
    | none => none
  | _ => none

def storeV (C : Cfg) (mem : Tb SO) (t : TypeId) (a v : SV) : Option (Tb SO) :=
  match a, v.cellsOf, sizeT C.ty t with
  | .ptr b off, some vs, some n => bif Nat.beq vs.length n then wrMem mem b off vs else none
  | _, _, _ => none

/-! ### Conditions -/
def condB (c : B) (st : St) (k : Bool → St → T) : T :=
  match c.known st.pc with
  | some b => k b st
  | none => bif c.wf st.ni then .br c (k true { st with pc := c.facts true ++ st.pc }) (k false { st with pc := c.facts false ++ st.pc }) else (.fail 101)

def wfEs : Nat → List E → Bool
  | _, [] => true
  | n, e :: es => e.wf n && wfEs (n + 1) es
/-- New numbers are bound. -/
def bindEs (st : St) (d : Bd) (k : St → T) : T :=
  bif wfEs st.ni d.es && Nat.beq d.ni (st.ni + d.es.length) then .lts d.es (k { st with ni := d.ni }) else (.fail 102)
def bind1 (st : St) (e : E) (k : A → St → T) : T :=
  let r := (⟨st.ni, []⟩ : Bd).bind e
  bindEs st r.2 (k r.1)

/-- A value in a slot. -/
def putT (tm : Tm) (dst : Option Tmp) (v : SV) (st : St) (k : Tm → St → T) : T :=
  match dst with
  | none => k tm st
  | some d => match tm.get d with
    | some _ => bif v.wf st.ni st.nb then k (tm.put d v) st else (.fail 103)
    | none => .fail 99

def newB (st : St) (o : SO) (k : Nat → St → T) : T :=
  bif o.wf st.ni st.nb then k st.nb { st with mem := st.mem.put st.nb o, nb := st.nb + 1 } else (.fail 104)
def setM (st : St) (mem : Tb SO) (k : St → T) : T := k { st with mem := mem }

/-! ### Calls by contract -/
def flat1 : S1 → SV → Bd → Option (A × Bd)
  | .int k, .int k' a, d => bif kindEq k k' then some (a, d) else none
  | .bool, .bool b, d => some (d.bind (.sel b (.n 1) (.n 0)))
  | _, _, _ => none
def flatL : List S1 → List SV → Bd → Option (List A × Bd)
  | [], [], d => some ([], d)
  | s :: ss, v :: vs, d => match flat1 s v d with
    | none => none
    | some (a, d') => match flatL ss vs d' with
      | none => none
      | some (l, d'') => some (a :: l, d'')
  | _, _, _ => none
def Sh.size : Sh → Nat
  | .one _ => 1
  | .agg l => l.length
def flatSh : Sh → SV → Bd → Option (List A × Bd)
  | .one s, v, d => match flat1 s v d with
    | none => none
    | some (a, d') => some ([a], d')
  | .agg l, .agg cs, d => flatL l cs d
  | _, _, _ => none
def flatS : List Sh → List SV → Bd → Option (List A × Bd)
  | [], [], d => some ([], d)
  | s :: ss, v :: vs, d => match flatSh s v d with
    | none => none
    | some (a, d') => match flatS ss vs d' with
      | none => none
      | some (r, d'') => some (a ++ r, d'')
  | _, _, _ => none
def mk1 (n : Nat) : S1 → SV
  | .int k => .int k (.v n)
  | .bool => .bool (.not (.cmp .eq (.v n) (.n 0)))
def mkL : Nat → List S1 → List SV
  | _, [] => []
  | n, s :: ss => mk1 n s :: mkL (n + 1) ss
def mkSh (n : Nat) : Sh → SV
  | .one s => mk1 n s
  | .agg l => .agg (mkL n l)
def mkS : Nat → List Sh → List SV
  | _, [] => []
  | n, s :: ss => mkSh n s :: mkS (n + s.size) ss
def Sh.len : List Sh → Nat
  | [] => 0
  | s :: ss => s.size + Sh.len ss
def tupV (l : List SV) : SV := match l with
  | [v] => v
  | l => .tup l

/-! ### Operations that look at memory, make some, branch or call -/
def keyEq : SV → SV → Option B
  | .int k a, .int k' b => bif kindEq k k' then some (B.mkEq a b) else none
  | .str a, .str b => some (.c (strEq a b))
  | _, _ => none
def keyKind : TD → SV → Bool
  | .int _, .int _ _ => true
  | .str, .str _ => true
  | _, _ => false
/-- The entry of a key whose place is plain: 'some none' bif there is none. -/
def findE (key : SV) : List (SV × SV × Nat) → Nat → Option (Option Nat)
  | [], _ => some none
  | e :: es, i => match keyEq key e.1 with
    | some (.c true) => some (some i)
    | some (.c false) => findE key es (i + 1)
    | _ => none
def lookE (key : SV) (st : St) (none_ : St → T) (some_ : SV → St → T) : List (SV × SV × Nat) → T
  | [] => none_ st
  | e :: es => match keyEq key e.1 with
    | some c => condB c st fun b st => bif b then some_ e.2.1 st else
        -- (the state's knowledge is not handed on: the chain goes by what was known at its head)
        lookE key st none_ some_ es
    | none => (.fail 105)
def byBorn (n : Nat) : List (SV × SV × Nat) → Nat → Option Nat
  | [], _ => none
  | e :: es, i => bif Nat.beq e.2.2 n then some i else byBorn n es (i + 1)

def enumI (x : A) (st : St) (k : Nat → St → T) : Nat → Nat → T
  | 0, _ => (.fail 106)
  | n + 1, j => condB (.mkEq x (.n j)) st fun b st => bif b then k j st else enumI x st k n (j + 1)

def resTup (l : List SV) : SV := tupV l

def eAlloc (C : Cfg) (tm : Tm) (st : St) (k : SV → St → T) (t : TypeId) : T :=
  match zeroL C.ty t with
    | some cs => newB st (.cells cs t) fun b st => k (.ptr b 0) st
    | none => (.fail 107)
def eBox (C : Cfg) (tm : Tm) (st : St) (k : SV → St → T) (t : TypeId) (x : Operand) : T :=
  match evO st.pc tm x with
    | some v => match v.cellsOf with
      | some cs => newB st (.cells cs t) fun b st => k (.ptr b 0) st
      | none => (.fail 108)
    | none => (.fail 109)
def eBuildSlice (C : Cfg) (tm : Tm) (st : St) (k : SV → St → T) (t : TypeId) (len : Nat) (parts : Array (Nat × Operand)) : T :=
  match tdOf C.ty t with
    | .slice e n => match zeroL C.ty e, evPs st.pc tm parts.toList with
      | some z, some ps => bif Nat.ble (len * n) 16777216 && Nat.beq z.length n then (match fillL (fun i => some (i * n, n)) (repeatL len z) ps with
          | some cs => newB st (.cells cs e) fun b st => k (.slice b 0 len len) st
          | none => .fail 110) else .fail 111
      | _, _ => .fail 112
    | _ => .fail 113
def eLoad (C : Cfg) (tm : Tm) (st : St) (k : SV → St → T) (t : TypeId) (x : Operand) : T :=
  match evO st.pc tm x with
    | some a => match loadV C st.mem t a with
      | some v => k v st
      | none => (.fail 114)
    | none => (.fail 115)
def eStore (C : Cfg) (tm : Tm) (st : St) (k : SV → St → T) (t : TypeId) (x y : Operand) : T :=
  match evO st.pc tm x, evO st.pc tm y with
    | some a, some v => match storeV C st.mem t a v with
      | some mem => setM st mem fun st => k (.tup []) st
      | none => (.fail 116)
    | _, _ => (.fail 117)
def eMakeMap (C : Cfg) (tm : Tm) (st : St) (k : SV → St → T)  : T :=
  newB st (.map [] 0) fun b st => k (.map b) st
def eMapUpdate (C : Cfg) (tm : Tm) (st : St) (k : SV → St → T) (t : TypeId) (x y z : Operand) : T :=
  match tdOf C.ty t with
    | .map kt _ => match some (tdOf C.ty kt), evO st.pc tm x, evO st.pc tm y, evO st.pc tm z with
      | some kd, some (.map b), some key, some v => bif keyKind kd key && v.wf st.ni st.nb && key.wf st.ni st.nb && v.cell then
          (match st.mem.get b with
          | some (.map es clock) => match findE key es 0 with
            | some none => setM st (st.mem.put b (.map (es ++ [(key, v, clock)]) (clock + 1))) fun st => k (.tup []) st
            | some (some i) => match nth es i with
              | some e => setM st (st.mem.put b (.map (setN es i (e.1, v, e.2.2)) clock)) fun st => k (.tup []) st
              | none => (.fail 118)
            | none => (.fail 119)
          | _ => (.fail 120)) else (.fail 121)
      | _, _, _, _ => (.fail 122)
    | _ => (.fail 123)
def eMapEntry (C : Cfg) (tm : Tm) (st : St) (k : SV → St → T) (t : TypeId) (x y : Operand) : T :=
  match tdOf C.ty t with
    | .map kt et => match some (tdOf C.ty kt), evO st.pc tm x, evO st.pc tm y, zeroV C.ty et with
      | some kd, some (.map b), some key, some z => bif keyKind kd key && key.wf st.ni st.nb && z.wf st.ni st.nb then
          (match st.mem.get b with
          | some (.map es clock) => match findE key es 0 with
            | some none => setM st (st.mem.put b (.map (es ++ [(key, z, clock)]) (clock + 1))) fun st => k (.tup [z, .int .i64 (.n clock)]) st
            | some (some i) => match nth es i with
              | some e => k (.tup [e.2.1, .int .i64 (.n e.2.2)]) st
              | none => (.fail 124)
            | none => (.fail 125)
          | _ => (.fail 126)) else (.fail 127)
      | _, _, _, _ => (.fail 128)
    | _ => (.fail 129)
def eEntryStore (C : Cfg) (tm : Tm) (st : St) (k : SV → St → T) (x y z : Operand) : T :=
  match evO st.pc tm x, evO st.pc tm y, evO st.pc tm z with
    | some (.map b), some (.int _ (.n c)), some v => match litNat c, st.mem.get b with
      | some n, some (.map es clock) => bif v.wf st.ni st.nb && v.cell then (match byBorn n es 0 with
          | some i => match nth es i with
            | some e => setM st (st.mem.put b (.map (setN es i (e.1, v, e.2.2)) clock)) fun st => k (.tup []) st
            | none => (.fail 130)
          | none => (.fail 131)) else (.fail 132)
      | _, _ => (.fail 133)
    | _, _, _ => (.fail 134)
def eLookup (C : Cfg) (tm : Tm) (st : St) (k : SV → St → T) (t : TypeId) (x y : Operand) (ok : Bool) : T :=
  match tdOf C.ty t with
    | .map kt et => match some (tdOf C.ty kt), evO st.pc tm y, zeroV C.ty et with
      | some kd, some key, some z => bif keyKind kd key then
          (match (match evO st.pc tm x with
            | some .nilmap => some []
            | some (.map b) => match st.mem.get b with
              | some (.map es _) => some es
              | _ => none
            | _ => none) with
          | some es => lookE key st (fun st => k (bif ok then .tup [z, .bool (.c false)] else z) st) (fun v st => k (bif ok then .tup [v, .bool (.c true)] else v) st) es
          | none => (.fail 135)) else (.fail 136)
      | _, _, _ => (.fail 137)
    | _ => (.fail 138)
def eIndexAddr (C : Cfg) (tm : Tm) (st : St) (k : SV → St → T) (t : TypeId) (x i : Operand) : T :=
  match tdOf C.ty t, evO st.pc tm x, evO st.pc tm i with
    | .slice _ n, some (.slice b off len _), some (.int _ a) => enumI a st (fun j st => k (.ptr b (off + j * n)) st) len 0
    | .slice _ n, some (.own b len), some (.int _ a) => enumI a st (fun j st => k (.ptr b (j * n)) st) len 0
    | .arr len _ n, some (.ptr b off), some (.int _ a) => enumI a st (fun j st => k (.ptr b (off + j * n)) st) len 0
    | .arr len _ n, some (.gptr b off), some (.int _ a) => enumI a st (fun j st => k (.gptr b (off + j * n)) st) len 0
    | _, _, _ => .fail 140
def eIndex (C : Cfg) (tm : Tm) (st : St) (k : SV → St → T) (t : TypeId) (x i : Operand) : T :=
  match tdOf C.ty t, evO st.pc tm x, evO st.pc tm i with
    | .arr len e n, some (.agg l), some (.int _ a) => enumI a st (fun j st => match partL C.ty e l (j * n) with
          | some v => k v st
          | none => .fail 141) len 0
    | .str, some (.str s), some (.int _ a) => condB (.mkLt a (.n 0)) st fun b st => bif b then .fail 143 else condB (.mkLt a (.n s.length)) st fun b st => bif b then bind1 st (.tab s a) fun r st => k (.int .u8 r) st else .fail 144
    | _, _, _ => .fail 142
def eBinOp (C : Cfg) (tm : Tm) (st : St) (k : SV → St → T) (op : BinOp) (x y : Operand) : T :=
  match evO st.pc tm x, evO st.pc tm y with
    | some (.int kx a), some (.int ky b) => match op with
      | .quo => bif kindEq kx ky then condB (.mkEq b (.n 0)) st fun z st => bif z then (.fail 147) else bind1 st (.quo kx a b) fun r st => k (.int kx r) st else (.fail 148)
      | .rem => bif kindEq kx ky then condB (.mkEq b (.n 0)) st fun z st => bif z then (.fail 149) else bind1 st (.rem a b) fun r st => k (.int kx r) st else (.fail 150)
      | .shl => condB (.mkLt b (.n 0)) st fun z st => bif z then (.fail 151) else bind1 st (.shl kx a b) fun r st => k (.int kx r) st
      | .shr => condB (.mkLt b (.n 0)) st fun z st => bif z then (.fail 152) else bind1 st (.shr kx a b) fun r st => k (.int kx r) st
      | _ => (.fail 153)
    | _, _ => (.fail 154)
def ePick (C : Cfg) (tm : Tm) (st : St) (k : SV → St → T) (c x y : Operand) : T :=
  match evO st.pc tm c with
    | some (.bool cb) => condB cb st fun b st => bif b then (match evO st.pc tm x with
        | some v => k (v.under st.pc) st
        | none => (.fail 155)) else (match evO st.pc tm y with
        | some v => k (v.under st.pc) st
        | none => (.fail 156))
    | _ => (.fail 157)
def srcL (st : St) (sz : Nat) (x : SV) : Option (Nat × List SV) :=
  match x with
  | .slice b off n _ => match rdMem st.mem b off (n * sz) with
    | some l => some (n, l)
    | none => none
  | .own b n => match rdMem st.mem b 0 (n * sz) with
    | some l => some (n, l)
    | none => none
  | .nilsl => some (0, [])
  | _ => none
def zlen (i : TE) : Bool := match i.zero with
  | some z => Nat.beq z.length i.size
  | none => false
def eAppend (C : Cfg) (st : St) (k : SV → St → T) (t : TypeId) (s x : SV) : T :=
  match tdOf C.ty t with
  | .slice e _ => match C.ty.get e with
    | some i =>
      match srcL st i.size x with
      | none => .fail 159
      | some (n, l) =>
        bif Nat.beq n 0 then (match s with
          | .nilsl => k .nilsl st
          | _ => .fail 160)
        else bif Nat.blt 0 i.size && zlen i then
          (match s with
          | .nilsl => bif Nat.ble (n * i.bytes) 140737488355328 && Nat.ble n 9223372036854775807 then newB st (.row l e i.size n) fun b st => k (.own b n) st else .fail 161
          | .own b m => match st.mem.get b with
            | some (.row c e' s' m') => bif Nat.beq m m' && Nat.beq e e' && Nat.beq i.size s' && Nat.ble ((m + n) * i.bytes) 140737488355328 && Nat.ble (m + n) 9223372036854775807 then
                setM st (st.mem.put b .gone) fun st => newB st (.row (c ++ l) e i.size (m + n)) fun b st => k (.own b (m + n)) st else .fail 162
            | _ => .fail 163
          | _ => .fail 164)
        else .fail 165
    | none => .fail 166
  | _ => .fail 167
def eCall (C : Cfg) (tm : Tm) (st : St) (k : SV → St → T) (callF : Nat → List SV → St → (SV → St → T) → T) (c : Call) : T :=
  match c.callee with
    | .value f => match evO st.pc tm f, evOs st.pc tm c.args.toList with
      | some (.fn (.func f) first cap), some args => callF f (first ++ args ++ cap) st k
      | _, _ => .fail 158
    | .builtin .append => match c.argTypes.toList, evOs st.pc tm c.args.toList with
      | [t, t'], some [s, x] => bif Nat.beq t t' then eAppend C st k t s x else .fail 168
      | _, _ => .fail 169
    | _ => .fail 170
def sxEff (C : Cfg) (callF : Nat → List SV → St → (SV → St → T) → T) (o : Oper) (tm : Tm) (st : St) (k : SV → St → T) : T :=
  match o.op with
  | .alloc t => eAlloc C tm st k t
  | .box t x => eBox C tm st k t x
  | .buildSlice t len parts => eBuildSlice C tm st k t len parts
  | .load t x => eLoad C tm st k t x
  | .store t x y => eStore C tm st k t x y
  | .makeMap _ none => eMakeMap C tm st k 
  | .mapUpdate t x y z | .insert t x y z => eMapUpdate C tm st k t x y z
  | .mapEntry t x y => eMapEntry C tm st k t x y
  | .entryStore _ x y z => eEntryStore C tm st k x y z
  | .lookup t x y ok => eLookup C tm st k t x y ok
  | .indexAddr t x i => eIndexAddr C tm st k t x i
  | .index t x i => eIndex C tm st k t x i
  | .binOp op _ x y _ => eBinOp C tm st k op x y
  | .pick c x y => ePick C tm st k c x y
  | .call c => eCall C tm st k callF c
  | _ => (.fail 171)

def sxOp (C : Cfg) (callF : Nat → List SV → St → (SV → St → T) → T) (o : Oper) (tm : Tm) (st : St) (k : SV → St → T) : T :=
  match pureOp C.ty o.op tm st.ni st.pc with
  | some (v, d) => bindEs st d (k v)
  | none => sxEff C callF o tm st k

/-- Is an operation with a guard carried out? -/
def guardB (dstOf : Nat → Option Tmp) (tm : Tm) (j : Nat) (want : Bool) : Option B :=
  match dstOf j with
  | none => none
  | some t => match tm.get t with
    | some (.bool b) => some (b.mkIs want)
    | some (.gd c w (.bool b)) => some ((c.mkIs w).mkAnd (b.mkIs want))
    | some (.tup []) => some (.c false)
    | _ => none

/-- One operation of a region, with its guard. -/
def sxG (C : Cfg) (callF : Nat → List SV → St → (SV → St → T) → T) (dstOf : Nat → Option Tmp) (o : Oper) (tm : Tm) (st : St) (k : Tm → St → T) : T :=
  match o.guard with
  | none => sxOp C callF o tm st fun v st => putT tm o.dst v st k
  | some (j, want) =>
    match guardB dstOf tm j want with
    | none => (.fail 172)
    | some c =>
      match c.known st.pc with
      | some true => sxOp C callF o tm st fun v st => putT tm o.dst v st k
      | some false => putT tm o.dst (.tup []) st k
      | none =>
        match pureOp C.ty o.op tm st.ni (c.facts true ++ st.pc) with
        | some (v, d) => bindEs st d fun st => putT tm o.dst (.gd c true v) st k
        | none =>
          match (match o.op with
            | .load t x => match evO (c.facts true ++ st.pc) tm x with
              | some a => loadV C st.mem t a
              | none => none
            | _ => none) with
          | some v => putT tm o.dst (.gd c true v) st k
          | none => condB c st fun b st => bif b then sxOp C callF o tm st fun v st => putT tm o.dst v st k else putT tm o.dst (.tup []) st k

def sxL (C : Cfg) (callF : Nat → List SV → St → (SV → St → T) → T) (dstOf : Nat → Option Tmp) : List Oper → Tm → St → (Tm → St → T) → T
  | [], tm, st, k => k tm st
  | o :: r, tm, st, k => sxG C callF dstOf o tm st fun tm st => sxL C callF dstOf r tm st k

end Go.SX
