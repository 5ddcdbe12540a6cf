/- The symbolic executor SY, part D: regions that draw their order, loops, code, calls (definitions alone). -/
import Derived.Test.YtolebnomgllgaaaGreatDoorSyC
set_option linter.unusedVariables false
namespace Go.SY
open Go
noncomputable section
structure Ro where
  i : Nat
  o : Oper
  pre : Nat
  cf : Nat
def preM (l : List Edge) : Nat := match l with
  | [] => 0
  | e :: r => bif Region.binds .any e then Nat.lor (2 ^ e.on) (preM r) else preM r
def tmpsM : List Tmp → Nat
  | [] => 0
  | t :: r => Nat.lor (2 ^ t) (tmpsM r)
def dstM (d : Option Tmp) : Nat := match d with
  | some t => 2 ^ t
  | none => 0
structure Rm where
  i : Nat
  pre : Nat
  look : Nat
  dst : Nat
def mkRm (ops : Array Oper) : List Oper → Nat → List Rm
  | [], _ => []
  | o :: r, i => ⟨i, preM o.after.toList, tmpsM (o.looksAt ops), dstM o.dst⟩ :: mkRm ops r (i + 1)
def cfM (x : Rm) : List Rm → Nat
  | [] => 0
  | y :: r => bif Nat.beq x.i y.i || Nat.testBit y.pre x.i || (Nat.beq (Nat.land x.dst (Nat.lor y.look y.dst)) 0 && Nat.beq (Nat.land y.dst x.look) 0) then cfM x r else Nat.lor (2 ^ y.i) (cfM x r)
def mkRo (all : List Rm) : List Oper → List Rm → List Ro
  | o :: r, m :: ms => ⟨m.i, o, m.pre, cfM m all⟩ :: mkRo all r ms
  | _, _ => []
def rosOf (ops : Array Oper) : List Ro := let ms := mkRm ops ops.toList 0; mkRo ms ops.toList ms
def Ro.ready (m : Nat) (r : Ro) : Bool := !Nat.testBit m r.i && Nat.beq (Nat.land r.pre m) r.pre
def Ro.free (m : Nat) (r : Ro) : Bool := Nat.beq (Nat.land r.cf m) r.cf
abbrev Pl := List (Nat × Nat)
def rowPl : Nat := 1000000
def placesFrom (b off : Nat) : Nat → Pl
  | 0 => []
  | n + 1 => (b, off) :: placesFrom b (off + 1) n
def inPl0 (b off : Nat) : Pl → Bool
  | [] => false
  | p :: r => (Nat.beq p.1 b && Nat.beq p.2 off) || inPl0 b off r
def allPl : Pl := [(0, 3000000)]
def isAll : Pl → Bool
  | p :: _ => Nat.beq p.2 3000000
  | [] => false
def inPl (b off : Nat) (L : Pl) : Bool := isAll L || inPl0 b off L
def setT (tm : Tm) (d : Option Tmp) (v : SV) : Tm := match d with
  | some t => tm.put t v
  | none => tm
def weakAddr (p : Pu) (op : Op) : SV := match op with
  | .indexAddr t x _ => match p.ev x with
    | some (.sl b) => match p.mem.get b with
      | some (.rowd _ s _) => .rp b s (.n 0) 0 []
      | _ => .bot
    | _ => .bot
  | _ => .bot
def weakV (C : Cfg) (p : Pu) (op : Op) : SV := match pureOp p op with
  | some (v, d) => match d.gs with
    | [] => v
    | _ => .bot
  | none => match op with
    | .load t x => match p.ev x with
      | some a => match loadV C p.mem p.pc p.cg t a p.d with
        | some (v, _) => v
        | none => .bot
      | none => .bot
    | op => weakAddr p op
def addrPl (C : Cfg) (p : Pu) (t : TypeId) (x : Operand) : Pl := match p.ev x, sizeT C.ty t with
  | some (.ptr b off), some n => placesFrom b off n
  | some (.rp b _ _ _ _), _ => [(b, rowPl)]
  | _, _ => []
def lookL (C : Cfg) : List Oper → Nat → Pu → List (Nat × Pl) → List (Nat × Pl) → List (Nat × Pl) × List (Nat × Pl)
  | [], _, p, ls, ss => (ls, ss)
  | o :: r, i, p, ls, ss =>
    let p' := { p with tm := setT p.tm o.dst (weakV C p o.op) }
    match o.op with
    | .load t x => lookL C r (i + 1) p' ((i, addrPl C p t x) :: ls) ss
    | .store t x _ => lookL C r (i + 1) p' ls ((i, addrPl C p t x) :: ss)
    | _ => lookL C r (i + 1) p' ls ss
def bfE (t : Tb Nat) : List Edge → Nat
  | [] => 0
  | e :: r => bif Region.binds .any e then Nat.lor (Nat.lor (2 ^ e.on) ((t.get e.on).getD 0)) (bfE t r) else bfE t r
def bfL : List Oper → Nat → Tb Nat → Tb Nat
  | [], _, t => t
  | o :: r, i, t => bfL r (i + 1) (t.put i (bfE t o.after.toList))
def bfOf (t : Tb Nat) (i : Nat) : Nat := (t.get i).getD 0
def clash (bf : Tb Nat) (y : Nat) (p : Nat × Nat) : List (Nat × Pl) → Bool
  | [] => false
  | s :: r => (inPl p.1 p.2 s.2 && !Nat.testBit (bfOf bf s.1) y) || clash bf y p r
def calm (bf : Tb Nat) (ss : List (Nat × Pl)) (y : Nat) : Pl → Pl
  | [] => []
  | p :: r => bif clash bf y p ss then calm bf ss y r else p :: calm bf ss y r
def calmL (bf : Tb Nat) (ss : List (Nat × Pl)) : List (Nat × Pl) → List (Nat × Pl)
  | [] => []
  | e :: r => (e.1, calm bf ss e.1 e.2) :: calmL bf ss r
structure Hd where
  all : Bool
  l : List (Nat × Pl)
def plFind : List (Nat × Pl) → Nat → Pl
  | [], _ => []
  | e :: r, y => bif Nat.beq e.1 y then e.2 else plFind r y
def plOf (h : Hd) (y : Nat) : Pl := bif h.all then allPl else plFind h.l y
def hdOf (C : Cfg) (bf : Tb Nat) (l : List Oper) (p : Pu) (ne : Bool) : Hd := bif ne then ⟨true, []⟩ else (let r := lookL C l 0 p [] []; ⟨false, calmL bf r.2 r.1⟩)
def cellAt (mem : Tb SO) (b off : Nat) : Option SV := match mem.get b with
  | some (.cells c _) => nth c off
  | _ => none
def rowAt (mem : Tb SO) (b : Nat) : Option (Nat × Nat × A) := match mem.get b with
  | some (.rowd e s a) => some (e, s, a)
  | _ => none
def heldOk0 (mem0 mem : Tb SO) : Pl → Bool
  | [] => true
  | p :: r => (bif Nat.beq p.2 rowPl then (match rowAt mem0 p.1, rowAt mem p.1 with
    | some a, some b => Nat.beq a.1 b.1 && Nat.beq a.2.1 b.2.1 && a.2.2.beq b.2.2
    | _, _ => false) else (match cellAt mem0 p.1 p.2, cellAt mem p.1 p.2 with
    | some v, some u => v.beq u
    | _, _ => false)) && heldOk0 mem0 mem r
def soHeld : Option SO → Option SO → Bool
  | some (.cells c e), some (.cells c' e') => Nat.beq e e' && SV.beqs c c'
  | some (.rowd e s a), some (.rowd e' s' a') => Nat.beq e e' && Nat.beq s s' && a.beq a'
  | some (.cells _ _), _ | some (.rowd _ _ _), _ => false
  | _, _ => true
def noHeld : Tb SO → Bool
  | .e => true
  | .n l v r => soHeld v none && noHeld l && noHeld r
def memHeld : Tb SO → Tb SO → Bool
  | .e, _ => true
  | .n l v r, .n l' v' r' => soHeld v v' && memHeld l l' && memHeld r r'
  | .n l v r, .e => noHeld (.n l v r)
def heldOk (mem0 mem : Tb SO) (L : Pl) : Bool := bif isAll L then memHeld mem0 mem else heldOk0 mem0 mem L
def allIn (b off : Nat) (L : Pl) : Nat → Bool
  | 0 => true
  | n + 1 => inPl b off L && allIn b (off + 1) L n
def allInA (b off : Nat) (L : Pl) (n : Nat) : Bool := isAll L || allIn b off L n
def heldsOk (mem0 mem : Tb SO) (D : Nat) : List (Nat × Pl) → Bool
  | [] => true
  | e :: r => (Nat.testBit D e.1 || heldOk mem0 mem e.2) && heldsOk mem0 mem D r
def heldU (mem0 mem : Tb SO) (D : Nat) (h : Hd) : Bool := bif h.all then memHeld mem0 mem else heldsOk mem0 mem D h.l
def effOp : Op → Bool
  | .store .. | .mapUpdate .. | .insert .. | .entryStore .. | .mapEntry .. | .panic _ | .defer _ | .alloc _ | .box .. | .buildSlice .. | .makeMap .. | .makeSlice .. | .lookup .. => true
  | .call c => match c.callee with
    | .builtin .len | .builtin .min | .builtin .max | .builtin .cap => false
    | _ => true
  | _ => false
def noEff : List Oper → Bool
  | [] => true
  | o :: r => !effOp o.op && noEff r
def heldLoad (C : Cfg) (mem0 : Tb SO) (L : Pl) (op : Op) (p : Pu) : Option (SV × Bd) :=
  match op with
  | .load t x => match p.ev x, aggT C.ty t with
    | some (.ptr b off), some (n, _) => bif allInA b off L n then loadV C mem0 p.pc p.cg t (.ptr b off) p.d else none
    | some (.gptr g off), some _ => loadV C mem0 p.pc p.cg t (.gptr g off) p.d
    | some (.rp b s i off path), some _ => bif inPl b rowPl L then (match loadV C mem0 p.pc p.cg t (.rp b s i off path) p.d with
      | some (v, d) => bif Nat.beq d.ni p.ni && Nat.beq d.nb p.nb then some (v, d) else none
      | none => none) else none
    | _, _ => none
  | _ => none
def takeP (C : Cfg) (mem0 : Tb SO) (L : Pl) (o : Oper) (p : Pu) : Option (SV × Bd) := match pureOp p o.op with
  | some r => some r
  | none => heldLoad C mem0 L o.op p
def takeV (C : Cfg) (dstOf : Nat → Option Tmp) (mem0 : Tb SO) (L : Pl) (o : Oper) (tm : Tm) (st : St) : Option (SV × Bd) :=
  match o.guard with
  | none => takeP C mem0 L o (puOf C tm st)
  | some (j, want) => match guardB dstOf tm j want with
    | none => none
    | some c => match c.known st.pc with
      | some true => takeP C mem0 L o (puOf C tm st)
      | some false => some (.tup [], st.bd)
      | none => match takeP C mem0 L o ⟨C.ty, st.mem, tm, st.ni, st.nb, c.facts true ++ st.pc, c, C.gl.dt⟩ with
        | some (v, d) => some (.gd c true v, d)
        | none => none
def findTake (C : Cfg) (dstOf : Nat → Option Tmp) (mem0 : Tb SO) (hd : Hd) (m : Nat) (tm : Tm) (st : St) : List Ro → Option (Ro × SV × Bd)
  | [] => none
  | r :: rs => bif r.ready m && r.free m then (match takeV C dstOf mem0 (plOf hd r.i) r.o tm st with
      | some (v, d) => some (r, v, d)
      | none => findTake C dstOf mem0 hd m tm st rs) else findTake C dstOf mem0 hd m tm st rs
def dropRo (i : Nat) : List Ro → List Ro
  | [] => []
  | r :: rs => bif Nat.beq r.i i then rs else r :: dropRo i rs
def readyL (m : Nat) : List Ro → List Ro
  | [] => []
  | r :: rs => bif r.ready m then r :: readyL m rs else readyL m rs
def A.beqs : List A → List A → Bool
  | [], [] => true
  | x :: xs, y :: ys => x.beq y && A.beqs xs ys
  | _, _ => false
def E.beq : E → E → Bool
  | .add k x y, .add k' x' y' | .sub k x y, .sub k' x' y' | .mul k x y, .mul k' x' y' | .quo k x y, .quo k' x' y' | .band k x y, .band k' x' y' | .bor k x y, .bor k' x' y' | .bxor k x y, .bxor k' x' y'
  | .bclr k x y, .bclr k' x' y' | .shl k x y, .shl k' x' y' | .shr k x y, .shr k' x' y' => kindEq k k' && x.beq x' && y.beq y'
  | .rem x y, .rem x' y' | .mn x y, .mn x' y' | .mx x y, .mx x' y' | .cpy x y, .cpy x' y' | .cat x y, .cat x' y' | .scat x y, .scat x' y' | .rep x y, .rep x' y' => x.beq x' && y.beq y'
  | .wrap k x, .wrap k' x' | .neg k x, .neg k' x' | .com k x, .com k' x' => kindEq k k' && x.beq x'
  | .sel c x y, .sel c' x' y' => c.beq c' && x.beq x' && y.beq y'
  | .boo c, .boo c' => c.beq c'
  | .mk x, .mk y | .lst x, .lst y => A.beqs x y
  | .cut x y z, .cut x' y' z' | .scut x y z, .scut x' y' z' | .set x y z, .set x' y' z' => x.beq x' && y.beq y' && z.beq z'
  | .setf x f y, .setf x' f' y' => Nat.beq f f' && x.beq x' && y.beq y'
  | .ofBs x, .ofBs y | .toBs x, .toBs y => x.beq y
  | _, _ => false
def oEq : Option Nat → Option Nat → Bool
  | none, none => true
  | some a, some b => Nat.beq a b
  | _, _ => false
def osEq : List (Option Nat) → List (Option Nat) → Bool
  | [], [] => true
  | a :: l, b :: m => oEq a b && osEq l m
  | _, _ => false
def fsEq : List (B × Bool) → List (B × Bool) → Bool
  | [], [] => true
  | x :: l, y :: m => x.1.beq y.1 && (x.2 == y.2) && fsEq l m
  | _, _ => false
def T.beq : T → T → Bool
  | .ret c l, .ret c' l' => Nat.beq c c' && A.beqs l l'
  | .fail a, .fail b => Nat.beq a b
  | .lt o e t, .lt o' e' t' => oEq o o' && e.beq e' && t.beq t'
  | .br c t e, .br c' t' e' => c.beq c' && t.beq t' && e.beq e'
  | .call f l n t m p, .call f' l' n' t' m' p' => Nat.beq f f' && A.beqs l l' && natsEq n n' && t.beq t' && natsEq m m' && p.beq p'
  | .again d l, .again d' l' => Nat.beq d d' && A.beqs l l'
  | .loop d n fs l t, .loop d' n' fs' l' t' => Nat.beq d d' && osEq n n' && fsEq fs fs' && A.beqs l l' && t.beq t'
  | .out d t, .out d' t' => Nat.beq d d' && t.beq t'
  | _, _ => false
def allT : List T → T
  | [] => (.fail 301)
  | [t] => t
  | t :: ts => bif t.beq (allT ts) then t else (.fail 302)
def deadM (bf : Tb Nat) (D i : Nat) : Nat := Nat.lor (Nat.lor D (bfOf bf i)) (2 ^ i)
def isLz : Op → Bool
  | .alloc _ | .box _ _ | .makeSlice _ _ _ => true
  | _ => false
def opM : Operand → Nat
  | .tmp t => 2 ^ t
  | _ => 0
def lzOps : Op → List Operand
  | .box _ x => [x]
  | .makeSlice _ x y => [x, y]
  | _ => []
def lzCand (r : Ro) : Bool := isLz r.o.op && (match r.o.guard, r.o.dst with
  | none, some _ => true
  | _, _ => false)
def candM : List Ro → Nat
  | [] => 0
  | r :: rs => bif lzCand r then Nat.lor (2 ^ r.i) (candM rs) else candM rs
def stableO (pre : Nat) (v : Operand) : List Ro → Bool
  | [] => true
  | r :: rs => (Nat.beq (Nat.land (dstM r.o.dst) (opM v)) 0 || Nat.testBit pre r.i) && stableO pre v rs
def stableOs (pre : Nat) (all : List Ro) : List Operand → Bool
  | [] => true
  | v :: l => stableO pre v all && stableOs pre all l
def onlyW (i : Nat) (d : Nat) : List Ro → Bool
  | [] => true
  | r :: rs => (Nat.beq r.i i || Nat.beq (Nat.land (dstM r.o.dst) d) 0) && onlyW i d rs
def lzOk (cand : Nat) (all : List Ro) (r : Ro) : Bool := lzCand r && Nat.beq (Nat.land r.pre cand) 0 && stableOs r.pre all (lzOps r.o.op) && onlyW r.i (dstM r.o.dst) all
def lzM (cand : Nat) (all : List Ro) : List Ro → Nat
  | [] => 0
  | r :: rs => bif lzOk cand all r then Nat.lor (2 ^ r.i) (lzM cand all rs) else lzM cand all rs
def lzOf (all : List Ro) : Nat := lzM (candM all) all all
def lzFit (C : Cfg) (tm : Tm) (st : St) (o : Op) : Bool := match o with
  | .alloc t => (match zeroL C.ty t with
    | some _ => true
    | none => false)
  | .box _ x => (match evO st.pc tm x with
    | some v => (match v.cellsOf with
      | some _ => true
      | none => false)
    | none => false)
  | .makeSlice t x y => (match tdOf C.ty t, evO st.pc tm x, evO st.pc tm y with
    | .slice e n, some (.int _ a), some (.int _ c) => (match zeroL C.ty (un e) with
      | some _ => a.beq c && makeFit C.ty (un e) n && knownIs st.pc (.mkLt a (.n 0)) false && knownIs st.pc (.mkLt (.n 1099511627776) a) false
      | none => false)
    | _, _, _ => false)
  | _ => false
def lzFits (C : Cfg) (tm : Tm) (st : St) (lz m : Nat) : List Ro → Bool
  | [] => true
  | r :: rs => (!(Nat.testBit lz r.i && r.ready m) || lzFit C tm st r.o.op) && lzFits C tm st lz m rs
def lzBots (tm : Tm) (lz m : Nat) : List Ro → Bool
  | [] => true
  | r :: rs => (!(Nat.testBit lz r.i && !Nat.testBit m r.i) || (match r.o.dst with
    | some d => (match tm.get d with
      | some .bot => true
      | _ => false)
    | none => false)) && lzBots tm lz m rs
def botZ (lz : Nat) : List Ro → Tm → Tm
  | [], tm => tm
  | r :: rs, tm => bif Nat.testBit lz r.i then botZ lz rs (match r.o.dst with
    | some d => (match tm.get d with
      | some _ => tm.put d .bot
      | none => tm)
    | none => tm) else botZ lz rs tm
def lzOp (C : Cfg) (tm : Tm) (st : St) (k : K) (o : Op) : T := match o with
  | .alloc t => eAlloc C tm st k t
  | .box t x => eBox C tm st k t x
  | .makeSlice t x y => eMakeSlice C tm st k t x y
  | _ => .fail 311
def ndM (bf : Tb Nat) (r : Ro) : Nat := Nat.lor (bfOf bf r.i) r.pre
def candL (bf : Tb Nat) (lz m : Nat) : List Ro → List Ro
  | [] => []
  | r :: rs => bif !Nat.testBit lz r.i && Nat.beq (Nat.land (ndM bf r) (Nat.lor m lz)) (ndM bf r) then r :: candL bf lz m rs else candL bf lz m rs
def allNeed (bf : Tb Nat) (i : Nat) : List Ro → Bool
  | [] => true
  | r :: rs => Nat.testBit (ndM bf r) i && allNeed bf i rs
def firstLz (bf : Tb Nat) (lz m : Nat) (cs : List Ro) : List Ro → Option Ro
  | [] => none
  | r :: rs => bif Nat.testBit lz r.i && r.ready m && allNeed bf r.i cs then some r else firstLz bf lz m cs rs
def needL (bf : Tb Nat) (lz m : Nat) (c : Ro) : List Ro → List Ro
  | [] => []
  | r :: rs => bif Nat.testBit lz r.i && !Nat.testBit m r.i && Nat.testBit (ndM bf c) r.i then r :: needL bf lz m c rs else needL bf lz m c rs
def allReady (m : Nat) : List Ro → Bool
  | [] => true
  | r :: rs => r.ready m && allReady m rs
def resL (C : Cfg) : List Ro → Tm → St → (Tm → St → T) → T
  | [], tm, st, k => k tm st
  | r :: rs, tm, st, k => lzOp C tm st (fun v st => putT tm r.o.dst v st fun tm st => resL C rs tm st k) r.o.op
def dropL : List Ro → List Ro → List Ro
  | [], ps => ps
  | r :: rs, ps => dropL rs (dropRo r.i ps)
def addM : List Ro → Nat → Nat
  | [], m => m
  | r :: rs, m => addM rs (Nat.lor m (2 ^ r.i))
def sxAny (C : Cfg) (callF : CallF) (dstOf : Nat → Option Tmp) (hd : Hd) (bf : Tb Nat) (lz : Nat) (mem0 : Tb SO) : Nat → List Ro → Nat → Nat → Tm → St → KT → (SV → KT) → T
  | 0, _, _, _, _, _, _, _ => (.fail 303)
  | n + 1, ps, m, D, tm, st, k, kp =>
    match ps with
    | [] => k tm st
    | p :: ps =>
      match findTake C dstOf mem0 hd m tm st (p :: ps) with
      | some (r, v, d) => bindD st d fun st => putT tm r.o.dst v st fun tm st => sxAny C callF dstOf hd bf lz mem0 n (dropRo r.i (p :: ps)) (Nat.lor m (2 ^ r.i)) D tm st k kp
      | none =>
        bif !(lzFits C tm st lz m (p :: ps) && lzBots tm lz m (p :: ps) && heldU mem0 st.mem D hd) then .fail 310 else
        match firstLz bf lz m (candL bf lz m (p :: ps)) (p :: ps) with
        | some r => lzOp C tm st (fun v st => putT tm r.o.dst v st fun tm st => bif heldU mem0 st.mem D hd then sxAny C callF dstOf hd bf lz mem0 n (dropRo r.i (p :: ps)) (Nat.lor m (2 ^ r.i)) D tm st k kp else .fail 304) r.o.op
        | none => match candL bf lz m (p :: ps) with
          | [] => (.fail 300)
          | c0 :: cs => bif !allReady m (needL bf lz m c0 (p :: ps)) then .fail 312 else allT ((c0 :: cs).map fun c => let nl := needL bf lz m c (p :: ps)
              resL C nl tm st fun tm st => sxG C callF dstOf c.o tm st (fun tm st => bif heldU mem0 st.mem (deadM bf D c.i) hd then sxAny C callF dstOf hd bf lz mem0 n (dropRo c.i (dropL nl (p :: ps))) (Nat.lor (addM nl m) (2 ^ c.i)) (deadM bf D c.i) tm st k kp else (.fail 304)) kp)
structure Fl where
  t : TypeId
  m : Tmp
  bits : Nat
  pre : Nat
  es : List (SV × Operand)
  mkr : Nat
def isIns : Op → Bool
  | .insert .. => true
  | _ => false
def keyLit : SV → Bool
  | .int _ (.n _) | .str (.d (.byt _)) => true
  | _ => false
def insE (ty : Ty) (t : TypeId) (kt : TypeId) (m : Tmp) (o : Oper) : Option (SV × Operand) := match o.op, o.guard, o.dst with
  | .insert t' (.tmp m') (.const k) v, none, none => match ofVal1 k with
    | some kv => bif Nat.beq t t' && Nat.beq m m' && keyLit kv && keyKind (tdOf ty kt) kv then some (kv, v) else none
    | none => none
  | _, _, _ => none
def insEs (ty : Ty) (t : TypeId) (kt : TypeId) (m : Tmp) : List Ro → Option (List (SV × Operand))
  | [] => some []
  | r :: rs => match insE ty t kt m r.o, insEs ty t kt m rs with
    | some e, some l => some (e :: l)
    | _, _ => none
def filtIns (b : Bool) : List Ro → List Ro
  | [] => []
  | r :: rs => bif isIns r.o.op == b then r :: filtIns b rs else filtIns b rs
def bitsRo : List Ro → Nat
  | [] => 0
  | r :: rs => Nat.lor (2 ^ r.i) (bitsRo rs)
def preRo : List Ro → Nat
  | [] => 0
  | r :: rs => Nat.lor r.pre (preRo rs)
def isMk (m : Tmp) (o : Oper) : Bool := match o.op, o.dst, o.guard with
  | .makeMap _ none, some d, none => Nat.beq d m
  | _, _, _ => false
def findMk (m : Tmp) : List Ro → Option Nat
  | [] => none
  | r :: rs => bif isMk m r.o then some r.i else findMk m rs
def onlyMk (m : Tmp) (mk : Nat) : List Ro → Bool
  | [] => true
  | r :: rs => (bif Nat.beq r.i mk then isMk m r.o else Nat.beq (Nat.land (dstM r.o.dst) (2 ^ m)) 0) && onlyMk m mk rs
def stableL (mk : Nat) (all : List Ro) : List Ro → Bool
  | [] => true
  | r :: rs => (match r.o.op with
    | .insert _ _ _ v => stableO r.pre v all
    | _ => false) && Nat.testBit r.pre mk && stableL mk all rs
def keyNe (k : SV) : List (SV × Operand) → Bool
  | [] => true
  | e :: es => (match keyEq k e.1, keyEq e.1 k with
    | some (.c false), some (.c false) => true
    | _, _ => false) && keyNe k es
def alOr (bits : Nat) : List Ro → Bool
  | [] => true
  | r :: rs => (isIns r.o.op || Nat.beq (Nat.land r.pre bits) 0 || Nat.beq (Nat.land r.pre bits) bits) && alOr bits rs
def alMk (bits mk : Nat) : List Ro → Bool
  | [] => true
  | r :: rs => (isIns r.o.op || (bif Nat.beq r.i mk then Nat.beq r.pre 0 else (Nat.beq (Nat.land r.pre bits) bits || (!Nat.testBit r.pre mk && !Nat.testBit r.cf mk)))) && alMk bits mk rs
def keysNeB : List (SV × Operand) → Bool
  | [] => true
  | e :: es => keyNe e.1 es && keysNeB es
def fillOf (ty : Ty) (all : List Ro) : Option Fl := match filtIns true all with
  | [] => none
  | r :: rs => match r.o.op with
    | .insert t (.tmp m) _ _ => match tdOf ty t with
      | .map kt _ => match insEs ty t kt m (r :: rs), findMk m all with
        | some es, some mk => bif keysNeB es && Nat.beq (Nat.land (preRo (r :: rs)) (bitsRo (r :: rs))) 0 && onlyMk m mk all && stableL mk all (r :: rs) && alOr (bitsRo (r :: rs)) all && alMk (bitsRo (r :: rs)) mk all then
            some ⟨t, m, bitsRo (r :: rs), preRo (r :: rs), es, mk⟩ else none
        | _, _ => none
      | _ => none
    | _ => none
def fillEs (pc : List (B × Bool)) (tm : Tm) (ni nb : Nat) : List (SV × Operand) → Option (List (SV × SV × Nat))
  | [] => some []
  | e :: es => match evO pc tm e.2, fillEs pc tm ni nb es with
    | some v, some l => bif e.1.wf ni nb && v.wf ni nb && v.plain then some ((e.1, v, 0) :: l) else none
    | _, _ => none
def botM (tm : Tm) (m : Tmp) : Bool := match tm.get m with
  | some .bot => true
  | _ => false
def hideM (tm : Tm) (m : Tmp) : Tm := match tm.get m with
  | some _ => tm.put m .bot
  | none => tm
def sxAnyM (C : Cfg) (callF : CallF) (dstOf : Nat → Option Tmp) (hd : Hd) (bf : Tb Nat) (mem0 : Tb SO) (fl : Fl) : Nat → List Ro → Nat → Nat → Tm → St → KT → (SV → KT) → T
  | 0, _, _, _, _, _, _, _ => (.fail 303)
  | n + 1, ps, m, D, tm, st, k, kp =>
    bif !(heldU mem0 st.mem D hd && botM tm fl.m) then .fail 304 else
    match findTake C dstOf mem0 hd m tm st ps with
    | some (r, v, d) => bindD st d fun st => putT tm r.o.dst v st fun tm st => sxAnyM C callF dstOf hd bf mem0 fl n (dropRo r.i ps) (Nat.lor m (2 ^ r.i)) D tm st k kp
    | none => allT ((bif Nat.beq (Nat.land fl.pre m) fl.pre then [newB st .gone fun b st => putT tm (some fl.m) (.map b) st fun tm st => match fillEs st.pc tm st.ni st.nb fl.es with
          | none => .fail 306
          | some es => bif heldU mem0 (st.mem.put b (.mset es)) D hd then sxAny C callF dstOf hd bf 0 mem0 n ps (Nat.lor m fl.bits) D tm { st with mem := st.mem.put b (.mset es) } k kp else .fail 304] else []) ++
        (readyL m ps).map fun r => sxG C callF dstOf r.o tm st (fun tm st => sxAnyM C callF dstOf hd bf mem0 fl n (dropRo r.i ps) (Nat.lor m (2 ^ r.i)) (deadM bf D r.i) tm st k kp) kp)
def opsOfCode : Code → List Oper
  | .region _ ops _ => ops.toList
  | .seq a b => opsOfCode a ++ opsOfCode b
  | .cond _ a b => opsOfCode a ++ opsOfCode b
  | .block _ b => opsOfCode b
  | .loop b => opsOfCode b
  | .scope b => opsOfCode b
  | _ => []
def dstsM : List Oper → Nat
  | [] => 0
  | o :: r => Nat.lor (dstM o.dst) (dstsM r)
def frameT (args : List SV) (n : Nat) : Tm := Tb.ofL (args ++ List.replicate (n - args.length) (.tup [])) 0 .e
def weakBm (mem : Tb SO) : List (Sh × SV) → Tb Nat → Tb Nat
  | [], bm => bm
  | (.ptr j, .ptr b 0) :: r, bm => weakBm mem r (bm.put j b)
  | (.fn _ a b, .fn _ c d) :: r, bm => weakBm mem r (((a ++ b).zip (c ++ d)).foldl (fun bm x => match x with
    | (.ptr j, .ptr b 0) => bm.put j b
    | _ => bm) bm)
  | _ :: r, bm => weakBm mem r bm
def shPl (ty : Ty) (b : Nat) : List Sh → Nat → Pl
  | [], _ => []
  | s :: r, off => (match s with
    | .dat _ | .own _ => placesFrom b off (s.size ty)
    | _ => []) ++ shPl ty b r (off + s.size ty)
def shPtrs (ty : Ty) : List Sh → List SV → List (Sh × SV)
  | [], _ => []
  | s :: r, cs => (match s, cs with
    | .dat _, _ | .own _, _ => []
    | s, c :: _ => [(s, c)]
    | _, _ => []) ++ shPtrs ty r (dropN (s.size ty) cs)
def sigPl (C : Cfg) (mem : Tb SO) : List ShB → Nat → Tb Nat → Pl
  | [], _, _ => []
  | s :: r, j, bm => match s, bm.get j with
    | .cells _ l, some b => match mem.get b with
      | some (.cells c _) => shPl C.ty b l 0 ++ sigPl C mem r (j + 1) (weakBm mem (shPtrs C.ty l c) bm)
      | _ => sigPl C mem r (j + 1) bm
    | _, _ => sigPl C mem r (j + 1) bm
def appM : List Oper → Nat → Nat
  | [], m => m
  | o :: r, m => match o.op with
    | .call c => match c.callee, c.args.toList with
      | .builtin .append, .tmp t :: _ => appM r (Nat.lor (Nat.lor (2 ^ t) (dstM o.dst)) m)
      | _, _ => appM r m
    | .makeSlice _ _ _ => appM r (Nat.lor (dstM o.dst) m)
    | .move (.tmp t) | .assign (.tmp t) => match o.dst with
      | some d => bif Nat.testBit m d || Nat.testBit m t then appM r (Nat.lor (Nat.lor (2 ^ t) (2 ^ d)) m) else appM r m
      | none => appM r m
    | _ => appM r m
def appN (ops : List Oper) : Nat → Nat → Nat
  | 0, m => m
  | n + 1, m => appN ops n (appM ops m)
def ownPl : Nat := 2000000
def ownOf (M : Nat) (y : Operand) (l : Pl) : Pl := match y with
  | .tmp t => bif Nat.testBit M t then l.map (fun x => (x.1, x.2 + ownPl)) else []
  | _ => []
def wrOps (C : Cfg) (M : Nat) (call : Nat → List SV → Pl → Pl) : List Oper → Pu → Pl → Pl × Tm
  | [], p, ss => (ss, p.tm)
  | o :: r, p, ss =>
    let p' := { p with tm := setT p.tm o.dst (weakV C p o.op) }
    match o.op with
    | .store t x y => wrOps C M call r p' (ownOf M y (addrPl C p t x) ++ addrPl C p t x ++ ss)
    | .call c => match c.callee with
      | .value f => match p.ev f with
        | some (.fn (.func f) fi ca) => wrOps C M call r p' (call f (fi ++ (c.args.toList.map fun x => (p.ev x).getD .bot) ++ ca) ss)
        | _ => wrOps C M call r p' ss
      | .builtin .copy => match c.args.toList with
        | x :: _ => match p.ev x with
          | some (.sl b) => wrOps C M call r p' ((b, rowPl) :: ss)
          | _ => wrOps C M call r p' ss
        | _ => wrOps C M call r p' ss
      | _ => wrOps C M call r p' ss
    | _ => wrOps C M call r p' ss
mutual
def wrC (C : Cfg) : Nat → Code → Pu → Pl → Pl × Tm
  | 0, _, p, ss => (ss, p.tm)
  | n + 1, c, p, ss => match c with
    | .region _ ops _ => wrOps C (appN ops.toList 3 0) (wrF C n p) ops.toList p ss
    | .seq a b => match wrC C n a p ss with
      | (ss, tm) => wrC C n b { p with tm := tm } ss
    | .cond _ a b => match wrC C n a p ss with
      | (ss, tm) => wrC C n b { p with tm := tm } ss
    | .block _ b | .loop b | .scope b => wrC C n b p ss
    | _ => (ss, p.tm)
def wrF (C : Cfg) : Nat → Pu → Nat → List SV → Pl → Pl
  | 0, _, _, _, ss => ss
  | n + 1, p, f, args, ss => match C.sp f with
    | (_, sig) :: _ => sigPl C p.mem sig.bl 0 (weakBm p.mem (sig.ins.zip args) .e) ++ ss
    | [] => match C.P.funcs[f]? with
      | some fn => match fn.body with
        | some c => (wrC C n c { p with tm := frameT args fn.ntmps } ss).1
        | none => ss
      | none => ss
end
def memN (x : Nat) : List Nat → Bool
  | [] => false
  | y :: l => Nat.beq x y || memN x l
def slotT : List Oper → Tb TypeId → Tb TypeId
  | [], t => t
  | o :: r, t => match o.dst with
    | some d => slotT r (t.put d o.type)
    | none => slotT r t
inductive Hs where
  | keep
  | bot
  | sh (s : Sh)
  deriving Inhabited, Repr
def isData (ty : Ty) : Nat → TypeId → Bool
  | 0, _ => false
  | n + 1, t => match tdOf ty t with
    | .int _ | .bool | .str | .slice _ _ => true
    | .struct fs _ => fs.all fun f => isData ty n f.1
    | .arr _ e _ => isData ty n e
    | _ => false
def hsOf (ty : Ty) (mem : Tb SO) (own : Bool) (t : Option TypeId) (v : SV) : Hs := match t with
  | none => .bot
  | some t => match v with
    | .int _ _ | .bool _ | .str _ => .sh (.dat t)
    | .agg _ => bif isData ty 20 t then .sh (.dat t) else .bot
    | .nilsl => bif own then .sh (.own t) else .sh (.dat t)
    | .sl b => match mem.get b with
      | some (.rowd _ _ _) => .sh (.own t)
      | _ => .sh (.dat t)
    | _ => .bot
def tmL (tm : Tm) : Nat → Nat → List SV
  | 0, _ => []
  | n + 1, i => (tm.get i).getD .bot :: tmL tm n (i + 1)
def memL (mem : Tb SO) : Nat → Nat → List SO
  | 0, _ => []
  | n + 1, i => (mem.get i).getD .gone :: memL mem n (i + 1)
def slotHs (ty : Ty) (mem : Tb SO) (W : Nat) (ts : Tb TypeId) (M : Nat) (ows : List Nat) : Nat → List SV → List Hs
  | _, [] => []
  | i, v :: r => (bif memN (20000 + i) ows then .bot else bif Nat.testBit W i then hsOf ty mem (Nat.testBit M i || memN i ows) (ts.get i) v else .keep) :: slotHs ty mem W ts M ows (i + 1) r
mutual
def leafT (ty : Ty) : Nat → TypeId → List TypeId
  | 0, _ => []
  | n + 1, t => match tdOf ty t with
    | .struct fs _ => leafTF ty n fs
    | .arr m e _ => leafTA ty n m e
    | _ => [t]
def leafTF (ty : Ty) : Nat → List (Nat × Nat × Nat) → List TypeId
  | 0, _ => []
  | _ + 1, [] => []
  | n + 1, f :: fs => leafT ty n f.1 ++ leafTF ty n fs
def leafTA (ty : Ty) : Nat → Nat → TypeId → List TypeId
  | 0, _, _ => []
  | _ + 1, 0, _ => []
  | n + 1, m + 1, e => leafT ty n e ++ leafTA ty n m e
end
def cellHs (ty : Ty) (mem : Tb SO) (Hc : Pl) (ows : List Nat) (b : Nat) : Nat → List SV → List TypeId → List Hs
  | _, [], _ => []
  | i, v :: r, ts => (bif inPl b i Hc then hsOf ty mem (inPl b (i + ownPl) Hc || memN (10000 + i) ows) (match ts with
      | t :: _ => some t
      | [] => none) v else .keep) :: cellHs ty mem Hc ows b (i + 1) r (match ts with
      | _ :: ts => ts
      | [] => [])
inductive HsB where
  | keep
  | cells (l : List Hs)
  | row
  deriving Inhabited, Repr
def blockHs (ty : Ty) (mem : Tb SO) (Hc : Pl) (ows : List Nat) : Nat → List SO → List HsB
  | _, [] => []
  | b, o :: r => (match o with
    | .cells c e => .cells (cellHs ty mem Hc ows b 0 c (leafT ty 40 e))
    | .rowd _ _ _ => bif inPl b rowPl Hc then .row else .keep
    | _ => .keep) :: blockHs ty mem Hc ows (b + 1) r
def mtHs (ty : Ty) (pc : List (B × Bool)) : List Hs → List SV → List SV → Mt → Option (List A × Mt)
  | [], [], [], m => some ([], m)
  | h :: hs, o :: os, v :: vs, m => match (match h with
    | .bot => some ([], m)
    | .keep => bif (match o with
      | .bot => true
      | _ => false) || o.beq v then some ([], m) else none
    | .sh s => match fitV ty s v with
      | some cs => mtC ty pc 60 s cs m
      | none => none) with
    | some (a, m) => match mtHs ty pc hs os vs m with
      | some (r, m) => some (a ++ r, m)
      | none => none
    | none => none
  | _, _, _, _ => none
def esBeq : List (SV × SV × Nat) → List (SV × SV × Nat) → Bool
  | [], [] => true
  | x :: xs, y :: ys => x.1.beq y.1 && x.2.1.beq y.2.1 && Nat.beq x.2.2 y.2.2 && esBeq xs ys
  | _, _ => false
def SO.beq : SO → SO → Bool
  | .cells c e, .cells c' e' => Nat.beq e e' && SV.beqs c c'
  | .rowd e s a, .rowd e' s' a' | .pool e s a, .pool e' s' a' => Nat.beq e e' && Nat.beq s s' && a.beq a'
  | .map es k, .map es' k' => Nat.beq k k' && esBeq es es'
  | .mset es, .mset es' => esBeq es es'
  | .val c t a, .val c' t' a' | .at c t a, .at c' t' a' => c.beq c' && Nat.beq t t' && a.beq a'
  | .gone, _ => true
  | _, _ => false
def mtHsB (ty : Ty) (pc : List (B × Bool)) : List HsB → List SO → Nat → Mt → Option (List A × Mt)
  | [], [], _, m => some ([], m)
  | h :: hs, o :: os, b, m => match (match h, o, (m.f.mem.get b).getD .gone with
    | .cells l, .cells c e, .cells c' e' => bif Nat.beq e e' then mtHs ty pc l c c' m else none
    | .row, .rowd e s _, .rowd e' s' a => bif Nat.beq e e' && Nat.beq s s' then some ([a], m) else none
    | _, o, o' => bif o.beq o' then some ([], m) else none) with
    | some (a, m) => match mtHsB ty pc hs os (b + 1) m with
      | some (r, m) => some (a ++ r, m)
      | none => none
    | none => none
  | _, _, _, _ => none
def crHs (ty : Ty) : List Hs → List SV → Cr → Option (List SV × Cr)
  | [], [], c => some ([], c)
  | h :: hs, v :: vs, c => match (match h with
    | .keep => some (v, c)
    | .bot => some (.bot, c)
    | .sh s => crV ty .e 60 s c) with
    | some (v, c) => match crHs ty hs vs c with
      | some (r, c) => some (v :: r, c)
      | none => none
    | none => none
  | _, _, _ => none
def crHsB (ty : Ty) : List HsB → List SO → Cr → Option (List SO × Cr)
  | [], [], c => some ([], c)
  | h :: hs, o :: os, c => match (match h, o with
    | .cells l, .cells x e => match crHs ty l x c with
      | some (x, c) => some (SO.cells x e, c)
      | none => none
    | .row, .rowd e s _ => some (SO.rowd e s (.v c.n), ⟨c.n + 1, c.d⟩)
    | _, o => some (o, c)) with
    | some (o, c) => match crHsB ty hs os c with
      | some (r, c) => some (o :: r, c)
      | none => none
    | none => none
  | _, _, _ => none
def hsTys : List Hs → List (Option TypeId)
  | [] => []
  | .sh s :: r => (s.tys.map some) ++ hsTys r
  | _ :: r => hsTys r
def hsBTys : List HsB → List SO → List (Option TypeId)
  | h :: r, o :: os => (match h, o with
    | .cells l, .cells _ _ => hsTys l
    | .row, .rowd _ _ _ => [none]
    | _, _ => []) ++ hsBTys r os
  | _, _ => []
inductive Ex where
  | norm
  | exit (id : Nat)
  | ret
  | panic (v : SV)
  deriving Inhabited
abbrev KE := Ex → Tm → St → T
def botL : List Oper → Tm → Tm
  | [], tm => tm
  | o :: r, tm => botL r (match o.dst with
    | some d => (match tm.get d with
      | some _ => tm.put d .bot
      | none => tm)
    | none => tm)
def resV (C : Cfg) (tm : Tm) (st : St) (r : ResultVar) : Option SV := match r with
  | .tmp t => match tm.get t with
    | some .bot => none
    | some v => some (v.under st.pc)
    | none => none
  | .cell a t => match tm.get a with
    | some (.ptr b off) => match loadV C st.mem st.pc (.c true) t (.ptr b off) st.bd with
      | some (v, _) => some v
      | none => none
    | _ => none
def evRes (C : Cfg) (tm : Tm) (st : St) : List ResultVar → Option (List SV)
  | [] => some []
  | r :: rs => match resV C tm st r with
    | none => none
    | some v => match evRes C tm st rs with
      | none => none
      | some l => some (v :: l)
def dstOfOps (ops : List Oper) (j : Nat) : Option Tmp := match nth ops j with
  | some o => o.dst
  | none => none
def noSel : List Oper → Bool
  | [] => true
  | o :: l => (match o.op with
    | .select .. => false
    | _ => true) && noSel l
def ntmpsOf (C : Cfg) (f : Nat) : Nat := match C.P.funcs[f]? with
  | some fn => fn.ntmps
  | none => 0
def notBots : List SV → Bool
  | [] => true
  | v :: l => (match v with
    | .bot => true
    | v => true) && notBots l
def SV.wfsB (ni nb : Nat) : List SV → Bool
  | [] => true
  | .bot :: l => SV.wfsB ni nb l
  | v :: l => v.wf ni nb && SV.wfsB ni nb l
def nnFacts (no : List Nat) : Nat → List SV → List SV → List (B × Bool)
  | i, .int _ (.n c) :: vs, .int _ (.v n) :: hs => bif decide (0 ≤ c) && !memN (20000 + i) no then (.cmp .lt (.v n) (.n 0), false) :: nnFacts no (i + 1) vs hs else nnFacts no (i + 1) vs hs
  | i, _ :: vs, _ :: hs => nnFacts no (i + 1) vs hs
  | _, _, _ => []
def sosBeq : List SO → List SO → Bool
  | [], [] => true
  | a :: l, b :: m => a.beq b && b.beq a && sosBeq l m
  | _, _ => false
def kindOk : SO → SO → Bool
  | .cells _ _, .cells _ _ | .rowd _ _ _, .rowd _ _ _ | .map _ _, .map _ _ => true
  | .pool _ _ a, .pool _ _ b => a.beq b
  | .cells _ _, _ | .rowd _ _ _, _ | .map _ _, _ | .pool _ _ _, _ => false
  | _, _ => true
def kindsOk : List SO → List SO → Bool
  | [], [] => true
  | a :: l, b :: m => kindOk a b && kindsOk l m
  | _, _ => false
def dfBeq : List (Nat × List SV) → List (Nat × List SV) → Bool
  | [], [] => true
  | x :: l, y :: m => Nat.beq x.1 y.1 && SV.beqs x.2 y.2 && dfBeq l m
  | _, _ => false
def loopK (C : Cfg) (dep N nb : Nat) (hs : List Hs) (hb : List HsB) (tl : List SV) (ml : List SO) (df : List (Nat × List SV)) (k : KE) (e : Ex) (tm : Tm) (st' : St) : T :=
  match e with
  | .norm => bif !dfBeq df st'.df then .fail 337 else match mtHs C.ty st'.pc hs tl (tmL tm N 0) ⟨st'.fs, .e, 0⟩ with
    | none => .fail 335
    | some (as, m) => match mtHsB C.ty st'.pc hb ml 0 m with
      | none => .fail 336
      | some (bs, m) => bif kindsOk ml (memL m.f.mem nb 0) then bindF st' m.f fun _ => .again (dep + 1) (as ++ bs) else .fail 337
  | e => .out (dep + 1) (k e tm st')
def ownCells : List Hs → List SV → List Nat
  | .sh (.own _) :: hs, .sl b :: vs => b :: ownCells hs vs
  | _ :: hs, _ :: vs => ownCells hs vs
  | _, _ => []
def ownsHb : List HsB → List SO → List Nat
  | .cells l :: hs, .cells c _ :: os => ownCells l c ++ ownsHb hs os
  | _ :: hs, _ :: os => ownsHb hs os
  | _, _ => []
def goneL (bs : List Nat) : Nat → List SO → List SO
  | _, [] => []
  | i, o :: r => (bif memN i bs then .gone else o) :: goneL bs (i + 1) r
def headL (hb : List HsB) (ml : List SO) : List SO := goneL (ownsHb hb ml) 0 ml
def sxLoop (C : Cfg) (no : List Nat) (dep N : Nat) (hs : List Hs) (hb : List HsB) (tl : List SV) (ml : List SO) (body : Tm → St → KE → T) (st : St) (k : KE) : T :=
  match mtHs C.ty st.pc hs tl tl ⟨st.fs, .e, 0⟩ with
  | none => .fail 331
  | some (as, m0) => match mtHsB C.ty st.pc hb (headL hb (memL m0.f.mem st.nb 0)) 0 m0 with
    | none => .fail 332
    | some (bs, m) => bif !sosBeq (headL hb (memL m0.f.mem st.nb 0)) (memL m.f.mem st.nb 0) then .fail 332 else bindF st m.f fun st1 =>
      match crHs C.ty hs tl ⟨st1.ni, .of (st1.ni + (as ++ bs).length) st1.nb⟩ with
      | none => .fail 333
      | some (tH, c) => match crHsB C.ty hb (memL st1.mem st.nb 0) c with
        | none => .fail 334
        | some (mH, c) =>
          bif Nat.beq c.n c.d.ni && SV.wfsB c.d.ni c.d.nb tH && wfSOs c.d.ni c.d.nb mH && wfSOs c.d.ni c.d.nb c.d.gs && wfFs c.d.ni c.d.fs then
            let nn := nnFacts no 0 tl tH
            .loop (dep + 1) (hsTys hs ++ hsBTys hb (memL m.f.mem st.nb 0)) nn (as ++ bs) (body (Tb.ofL tH 0 .e)
              { st1 with mem := pushG (Tb.ofL mH 0 .e) st1.nb c.d.gs, ni := c.d.ni, nb := c.d.nb, pc := nn ++ c.d.fs ++ st1.pc }
              (loopK C dep N st1.nb hs hb tH mH st1.df k))
          else .fail 338
def hasRec : List Oper → Bool
  | [] => false
  | o :: r => (match o.op with
    | .call c => match c.callee with
      | .builtin .recover => true
      | _ => false
    | _ => false) || hasRec r
def afterCall (C : Cfg) (st : St) (bm : Tb Nat) (nbl : Nat) (o : Out) (k : SV → St → T) : T :=
  let extra := o.bl.length - nbl
  let N := o.tys.length
  let bm := Tb.ofL ((List.range extra).map (st.nb + ·)) nbl bm
  match crL C.ty bm 60 o.vs ⟨st.ni, .of (st.ni + N) (st.nb + extra)⟩ with
  | none => .fail 340
  | some (vs, c) => match crB C.ty bm o.bl 0 c with
    | none => .fail 341
    | some (bs, c) => bif Nat.beq c.n c.d.ni && Nat.beq c.d.es.length 0 && SV.wfs c.d.ni c.d.nb vs && wfSOs c.d.ni c.d.nb (bs.map (·.2)) && wfSOs c.d.ni c.d.nb c.d.gs && wfFs c.d.ni c.d.fs then
        k (tupV vs) { st with ni := c.d.ni, nb := c.d.nb, mem := bs.foldl (fun m x => m.put x.1 x.2) (pushG st.mem (st.nb + extra) c.d.gs), pc := c.d.fs ++ st.pc }
      else .fail 342
def conCall (C : Cfg) (g : Nat) (sig : Sig) (args : List SV) (st : St) (k kp : K) : T :=
  match mtL C.ty st.pc 60 sig.ins args ⟨st.fs, .e, sig.bl.length⟩ with
  | none => .fail 343
  | some (as, m) => match mtB C.ty st.pc sig.bl 0 m with
    | none => .fail 344
    | some (bs, m) => bindF st m.f fun st => .call g (as ++ bs) sig.out.tys (afterCall C st m.bm sig.bl.length sig.out k)
        (match sig.pan with
        | some o => o.tys
        | none => []) (match sig.pan with
        | some o => afterCall C st m.bm sig.bl.length o kp
        | none => .fail 345)
def conCallL (C : Cfg) : List (Nat × Sig) → List SV → St → K → K → T
  | [], _, _, _, _ => .fail 343
  | x :: l, args, st, k, kp => match (match mtL C.ty st.pc 60 x.2.ins args ⟨st.fs, .e, x.2.bl.length⟩ with
    | some _ => true
    | none => false) with
    | true => conCall C x.1 x.2 args st k kp
    | false => conCallL C l args st k kp
def litG : Nat := 999999
def litSh : List Sh → List Dt → Option (List Sh)
  | [], [] => some []
  | .dat t :: ss, x :: ds => match litSh ss ds with
    | some r => some (.lit t x :: r)
    | none => none
  | _, _ => none
def litSig (sig : Sig) (ds rs : List Dt) : Option Sig := match litSh sig.ins ds, litSh sig.out.vs rs with
  | some a, some b => some ⟨a, [], ⟨b, []⟩, none⟩
  | _, _ => none
def litOf (C : Cfg) (f : Nat) (args : List SV) (st : St) : Option Sig := match C.lv f with
  | none => none
  | some x => match mtL C.ty st.pc 60 x.1.ins args ⟨st.fs, .e, 0⟩ with
    | none => none
    | some (as, _) => match litsOf as with
      | none => none
      | some ds => match x.2 ds with
        | none => none
        | some rs => litSig x.1 ds rs
mutual
def sx (C : Cfg) : Nat → Nat → Nat → Code → Tm → St → KE → T
  | 0, _, _, _, _, _, _ => (.fail 305)
  | n + 1, dep, f, c, tm, st, k =>
    match c with
    | .skip => k .norm tm st
    | .seq a b => sx C n dep f a tm st fun e tm st => match e with
      | .norm => sx C n dep f b tm st k
      | e => k e tm st
    | .cond x a b => match evO st.pc tm x with
      | some (.bool c) => condB c st fun t st => bif t then sx C n dep f a tm st k else sx C n dep f b tm st k
      | _ => (.fail 306)
    | .block id b => sx C n dep f b tm st fun e tm st => match e with
      | .exit i => bif Nat.beq i id then k .norm tm st else k (.exit i) tm st
      | e => k e tm st
    | .exit id => k (.exit id) tm st
    | .ret => k .ret tm st
    | .region _ ops draw =>
      let l := ops.toList
      let kp : SV → KT := fun v tm st => k (.panic v) tm st
      bif draw then
        bif noSel l then
        (let ros := rosOf ops
        let bf := bfL l 0 .e
        let hd := hdOf C bf l (puOf C tm st) (noEff l)
        match fillOf C.ty ros with
        | none => let lz := lzOf ros
          sxAny C (callOf C n dep) (dstOfOps l) hd bf lz st.mem (2 * l.length + 1) ros 0 0 (botZ lz ros tm) st (k .norm) (fun v tm st => k (.panic v) (botL l tm) st)
        | some fl => sxAnyM C (callOf C n dep) (dstOfOps l) hd bf st.mem fl (l.length + 2) (dropRo fl.mkr (filtIns false ros)) (2 ^ fl.mkr) 0 (hideM tm fl.m) st (k .norm) (fun v tm st => k (.panic v) (botL l tm) st)) else .fail 339
      else sxL C (callOf C n dep) (dstOfOps l) l tm st (k .norm) kp
    | .loop b =>
      bif C.un f then sx C n dep f b tm st fun e tm st => match e with
        | .norm => sx C n dep f (.loop b) tm st k
        | e => k e tm st
      else
        let ops := opsOfCode b
        let W := dstsM ops
        let N := ntmpsOf C f
        let tl := tmL tm N 0
        let ows := C.ow f
        let hs := slotHs C.ty st.mem W (slotT ops .e) (appN ops 4 0) ows 0 tl
        let Hc := (wrC C 40 b (puOf C tm st) []).1
        let ml := memL st.mem st.nb 0
        sxLoop C ows dep N hs (blockHs C.ty st.mem Hc ows 0 ml) tl ml (sx C n (dep + 1) f b) st k
    | .scope b => sx C n dep f b tm st k
    | .label _ => k .norm tm st
    | _ => (.fail 316)
def sxS (C : Cfg) : Nat → Nat → Nat → Code → Tm → St → Option SV → (Ex → Tm → St → Option SV → T) → T
  | 0, _, _, _, _, _, _, _ => .fail 350
  | n + 1, dep, f, c, tm, st, m, k =>
    bif hasRec (opsOfCode c) then match c with
    | .seq a b => sxS C n dep f a tm st m fun e tm st m => match e with
      | .norm => sxS C n dep f b tm st m k
      | e => k e tm st m
    | .cond x a b => match evO st.pc tm x with
      | some (.bool c) => condB c st fun t st => bif t then sxS C n dep f a tm st m k else sxS C n dep f b tm st m k
      | _ => (.fail 351)
    | .region _ ops false => sxSL C (callOf C n dep) (dstOfOps ops.toList) ops.toList tm st m (k .norm)
    | _ => .fail 352
    else sx C n dep f c tm st fun e tm st => k e tm st m
def callOf (C : Cfg) : Nat → Nat → Nat → List SV → St → K → K → T
  | 0, _, _, _, _, _, _ => (.fail 317)
  | n + 1, dep, f, args, st, k, kp =>
    match litOf C f args st with
    | some sig => conCall C litG sig args st k kp
    | none => match C.sp f with
    | x :: l => conCallL C (x :: l) args st k kp
    | [] => match C.P.funcs[f]? with
      | some fn => match fn.body with
        | some c => bif fn.name == "runtime.NumGoroutine" then (.fail 319) else
          sx C n dep f c (frameT args fn.ntmps) { st with df := [] } fun e tm st' => match e with
            | .exit _ => (.fail 320)
            | .panic v => leave C n dep fn tm (some v) st'.df st' (fun v st' => k v { st' with df := st.df }) (fun v st' => kp v { st' with df := st.df })
            | _ => leave C n dep fn tm none st'.df st' (fun v st' => k v { st' with df := st.df }) (fun v st' => kp v { st' with df := st.df })
        | none => (.fail 322)
      | none => (.fail 323)
def leave (C : Cfg) : Nat → Nat → Func → Tm → Option SV → List (Nat × List SV) → St → K → K → T
  | 0, _, _, _, _, _, _, _, _ => .fail 324
  | n + 1, dep, fn, tm, m, ds, st, k, kp => match ds with
    | [] => match m with
      | some v => kp v st
      | none => match evRes C tm st fn.results.toList with
        | some l => k (tupV l) st
        | none => (.fail 321)
    | x :: ds => match C.P.funcs[x.1]? with
      | some gn => match gn.body with
        | some c => bif gn.name == "runtime.NumGoroutine" || !Nat.beq gn.results.size 0 then .fail 325 else
          sxS C n dep x.1 c (frameT x.2 gn.ntmps) { st with df := [] } m fun e _ st m => match e with
            | .exit _ => .fail 326
            | .panic _ => .fail 327
            | _ => match st.df with
              | [] => leave C n dep fn tm m ds st k kp
              | _ => .fail 328
        | none => .fail 329
      | none => .fail 330
def sxSL (C : Cfg) (callF : CallF) (dstOf : Nat → Option Tmp) : List Oper → Tm → St → Option SV → (Tm → St → Option SV → T) → T
  | [], tm, st, m, k => k tm st m
  | o :: r, tm, st, m, k => match o.op, o.guard with
    | .call c, none => match c.callee with
      | .builtin .recover => match m with
        | some v => putT tm o.dst v st fun tm st => sxSL C callF dstOf r tm st none k
        | none => putT tm o.dst .niliface st fun tm st => sxSL C callF dstOf r tm st none k
      | _ => sxG C callF dstOf o tm st (fun tm st => sxSL C callF dstOf r tm st m k) (fun _ _ _ => .fail 353)
    | _, _ => sxG C callF dstOf o tm st (fun tm st => sxSL C callF dstOf r tm st m k) (fun _ _ _ => .fail 354)
end
def sxBody (C : Cfg) (fuel dep f : Nat) (args : List SV) (st : St) (k kp : K) : T := callOf { C with sp := fun g => bif Nat.beq g f then [] else C.sp g } fuel dep f args st k kp
def retVs (ss : List Sh) (v : SV) : List SV := match v, ss with
  | .tup l, [_] => [.tup l]
  | .tup l, _ => l
  | v, _ => [v]
def retK (C : Cfg) (code : Nat) (nbl : Nat) (o : Out) (v : SV) (st : St) : T :=
  bif !(v.wf st.ni st.nb && Nat.ble nbl o.bl.length && Nat.blt nbl 1000000) then .fail 360 else
  match mtL C.ty st.pc 60 o.vs (retVs o.vs v) ⟨st.fs, Tb.ofL (List.range nbl) 0 .e, o.bl.length⟩ with
  | none => .fail 355
  | some (as, m) => match mtB C.ty st.pc o.bl 0 m with
    | none => .fail 356
    | some (bs, m) => bindF st m.f fun _ => .ret code (as ++ bs)
def startOf (C : Cfg) (sig : Sig) : Option (List SV × St) :=
  let nbl := sig.bl.length
  let N := (Sh.tysL sig.ins ++ ShB.tysL sig.bl).length
  let bm := Tb.ofL (List.range nbl) 0 .e
  match crL C.ty bm 60 sig.ins ⟨0, .of N nbl⟩ with
  | none => none
  | some (vs, c) => match crB C.ty bm sig.bl 0 c with
    | none => none
    | some (bs, c) => bif Nat.beq c.n c.d.ni && Nat.beq c.d.es.length 0 && SV.wfs c.d.ni c.d.nb vs && wfSOs c.d.ni c.d.nb (bs.map (·.2)) && wfSOs c.d.ni c.d.nb c.d.gs && wfFs c.d.ni c.d.fs then
        some (vs, ⟨bs.foldl (fun m x => m.put x.1 x.2) (pushG .e nbl c.d.gs), c.d.nb, c.d.ni, c.d.fs, []⟩)
      else none
def sxRun (C : Cfg) (fuel f : Nat) (sig : Sig) (args : List SV) (st : St) : T :=
  match C.P.funcs[f]? with
  | some fn => match fn.body with
    | some c => bif fn.name == "runtime.NumGoroutine" then (.fail 319) else
      sx C fuel 0 f c (frameT args fn.ntmps) st fun e tm st' => match e with
        | .exit _ => (.fail 320)
        | .panic v => leave C fuel 0 fn tm (some v) st'.df st' (retK C 0 sig.bl.length sig.out) (match sig.pan with
          | some o => retK C 1 sig.bl.length o
          | none => fun _ _ => .fail 357)
        | _ => leave C fuel 0 fn tm none st'.df st' (retK C 0 sig.bl.length sig.out) (match sig.pan with
          | some o => retK C 1 sig.bl.length o
          | none => fun _ _ => .fail 357)
    | none => (.fail 322)
  | none => (.fail 323)
def sxFunc (C : Cfg) (fuel f : Nat) (sig : Sig) : T := match startOf C sig with
  | some (args, st) => sxRun C fuel f sig args st
  | none => .fail 358
end
end Go.SY
