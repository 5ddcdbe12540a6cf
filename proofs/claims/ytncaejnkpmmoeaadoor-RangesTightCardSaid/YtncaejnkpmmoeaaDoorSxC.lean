/- The symbolic executor SX, part C: regions that draw their order, loops, calls, code (definitions alone). -/
import Derived.Test.YtncaejnkpmmoeaaDoorSxB
set_option linter.unusedVariables false
namespace Go.SX
open Go

/-! ### A region that draws its order -/
structure Ro where
  i : Nat
  o : Oper
  pre : Nat
  cf : Nat

def preM (l : List Edge) : Nat := match l with
  | [] => 0
  | e :: r => bif Region.binds .any e then Nat.lor (2 ^ e.on) (preM r) else preM r
def tmpsM : List Tmp → Nat
  | [] => 0
  | t :: r => Nat.lor (2 ^ t) (tmpsM r)
def dstM (d : Option Tmp) : Nat := match d with
  | some t => 2 ^ t
  | none => 0
/-- Number, what it waits for, what it looks at, what it writes. -/
structure Rm where
  i : Nat
  pre : Nat
  look : Nat
  dst : Nat
def mkRm (ops : Array Oper) : List Oper → Nat → List Rm
  | [], _ => []
  | o :: r, i => ⟨i, preM o.after.toList, tmpsM (o.looksAt ops), dstM o.dst⟩ :: mkRm ops r (i + 1)
/-- Those that are neither behind it at once nor apart from it. -/
def cfM (x : Rm) : List Rm → Nat
  | [] => 0
  | y :: r => bif Nat.beq x.i y.i || Nat.testBit y.pre x.i || (Nat.beq (Nat.land x.dst (Nat.lor y.look y.dst)) 0 && Nat.beq (Nat.land y.dst x.look) 0) then cfM x r else Nat.lor (2 ^ y.i) (cfM x r)
def mkRo (all : List Rm) : List Oper → List Rm → List Ro
  | o :: r, m :: ms => ⟨m.i, o, m.pre, cfM m all⟩ :: mkRo all r ms
  | _, _ => []
def rosOf (ops : Array Oper) : List Ro := let ms := mkRm ops ops.toList 0; mkRo ms ops.toList ms

def Ro.ready (m : Nat) (r : Ro) : Bool := !Nat.testBit m r.i && Nat.beq (Nat.land r.pre m) r.pre
def Ro.free (m : Nat) (r : Ro) : Bool := Nat.beq (Nat.land r.cf m) r.cf

/-- Places of the call's own memory. -/
def placesFrom (b off : Nat) : Nat → List (Nat × Nat)
  | 0 => []
  | n + 1 => (b, off) :: placesFrom b (off + 1) n
def inPl (b off : Nat) : List (Nat × Nat) → Bool
  | [] => false
  | p :: r => (Nat.beq p.1 b && Nat.beq p.2 off) || inPl b off r
def setT (tm : Tm) (d : Option Tmp) (v : SV) : Tm := match d with
  | some t => tm.put t v
  | none => tm
/-- A first look: which places are read, and which are written. -/
def lookL (C : Cfg) (mem : Tb SO) : List Oper → Tm → List (Nat × Nat) → List (Nat × Nat) → List (Nat × Nat) × List (Nat × Nat) × Tm
  | [], tm, ls, ss => (ls, ss, tm)
  | o :: r, tm, ls, ss =>
    match pureOp C.ty o.op tm 0 [] with
    | some (v, _) => lookL C mem r (setT tm o.dst v) ls ss
    | none => match o.op with
      | .load t x => match evO [] tm x, sizeT C.ty t with
        | some (.ptr b off), some n => lookL C mem r (setT tm o.dst ((loadV C mem t (.ptr b off)).getD .bot)) (placesFrom b off n ++ ls) ss
        | some a, _ => lookL C mem r (setT tm o.dst ((loadV C mem t a).getD .bot)) ls ss
        | _, _ => lookL C mem r (setT tm o.dst .bot) ls ss
      | .store t x _ => match evO [] tm x, sizeT C.ty t with
        | some (.ptr b off), some n => lookL C mem r tm ls (placesFrom b off n ++ ss)
        | _, _ => lookL C mem r tm ls ss
      | _ => lookL C mem r (setT tm o.dst .bot) ls ss
def minusPl : List (Nat × Nat) → List (Nat × Nat) → List (Nat × Nat)
  | [], _ => []
  | p :: r, ss => bif inPl p.1 p.2 ss then minusPl r ss else p :: minusPl r ss

def cellAt (mem : Tb SO) (b off : Nat) : Option SV := match mem.get b with
  | some (.cells c _) => nth c off
  | some (.row c _ _ _) => nth c off
  | _ => none
def heldOk (mem0 mem : Tb SO) : List (Nat × Nat) → Bool
  | [] => true
  | p :: r => (match cellAt mem0 p.1 p.2, cellAt mem p.1 p.2 with
    | some v, some u => v.beq u
    | _, _ => false) && heldOk mem0 mem r
def allIn (b off : Nat) (L : List (Nat × Nat)) : Nat → Bool
  | 0 => true
  | n + 1 => inPl b off L && allIn b (off + 1) L n
/-- A load of places that nobody writes. -/
def heldLoad (C : Cfg) (mem0 : Tb SO) (L : List (Nat × Nat)) (op : Op) (pc : List (B × Bool)) (tm : Tm) : Option SV :=
  match op with
  | .load t x => match evO pc tm x, C.ty.get t with
    | some (.ptr b off), some i => bif allIn b off L (bif i.d.agg then i.size else 1) then loadV C mem0 t (.ptr b off) else none
    | some (.gptr g off), some _ => loadV C mem0 t (.gptr g off)
    | _, _ => none
  | _ => none

def takeV (C : Cfg) (dstOf : Nat → Option Tmp) (mem0 : Tb SO) (L : List (Nat × Nat)) (o : Oper) (tm : Tm) (st : St) : Option (SV × Bd) :=
  let plain (tm : Tm) (pc : List (B × Bool)) : Option (SV × Bd) := match pureOp C.ty o.op tm st.ni pc with
    | some r => some r
    | none => match heldLoad C mem0 L o.op pc tm with
      | some v => some (v, ⟨st.ni, []⟩)
      | none => none
  match o.guard with
  | none => plain tm st.pc
  | some (j, want) => match guardB dstOf tm j want with
    | none => none
    | some c => match c.known st.pc with
      | some true => plain tm st.pc
      | some false => some (.tup [], ⟨st.ni, []⟩)
      | none => match plain tm (c.facts true ++ st.pc) with
        | some (v, d) => some (.gd c true v, d)
        | none => none
def findTake (C : Cfg) (dstOf : Nat → Option Tmp) (mem0 : Tb SO) (L : List (Nat × Nat)) (m : Nat) (tm : Tm) (st : St) : List Ro → Option (Ro × SV × Bd)
  | [] => none
  | r :: rs => bif r.free m then (match takeV C dstOf mem0 L r.o tm st with
      | some (v, d) => some (r, v, d)
      | none => findTake C dstOf mem0 L m tm st rs) else findTake C dstOf mem0 L m tm st rs
def readyL (m : Nat) : List Ro → List Ro
  | [] => []
  | r :: rs => bif r.ready m then r :: readyL m rs else readyL m rs
def allT : List T → T
  | [] => (.fail 301)
  | [t] => t
  | t :: ts => bif t.beq (allT ts) then t else (.fail 302)

def sxAny (C : Cfg) (callF : Nat → List SV → St → (SV → St → T) → T) (dstOf : Nat → Option Tmp) (ros : List Ro) (L : List (Nat × Nat)) (mem0 : Tb SO) : Nat → Nat → Tm → St → (Tm → St → T) → T
  | 0, _, _, _, _ => (.fail 303)
  | n + 1, m, tm, st, k =>
    match readyL m ros with
    | [] => k tm st
    | r :: rs =>
      match findTake C dstOf mem0 L m tm st (r :: rs) with
      | some (r, v, d) => bindEs st d fun st => putT tm r.o.dst v st fun tm st => sxAny C callF dstOf ros L mem0 n (Nat.lor m (2 ^ r.i)) tm st k
      | none => allT ((r :: rs).map fun r => sxG C callF dstOf r.o tm st fun tm st => bif heldOk mem0 st.mem L then sxAny C callF dstOf ros L mem0 n (Nat.lor m (2 ^ r.i)) tm st k else (.fail 304))

/-! ### Loops -/
def opsOfCode : Code → List Oper
  | .region _ ops _ => ops.toList
  | .seq a b => opsOfCode a ++ opsOfCode b
  | .cond _ a b => opsOfCode a ++ opsOfCode b
  | .block _ b => opsOfCode b
  | .loop b => opsOfCode b
  | .scope b => opsOfCode b
  | _ => []
def dstsM : List Oper → Nat
  | [] => 0
  | o :: r => Nat.lor (dstM o.dst) (dstsM r)

/-- A value that is told by numbers: of what shape. -/
def scOf : SV → Option S1
  | .int k _ => some (.int k)
  | .bool _ => some .bool
  | _ => none
def scOfs : List SV → Option (List S1)
  | [] => some []
  | v :: l => match scOf v with
    | none => none
    | some s => match scOfs l with
      | none => none
      | some r => some (s :: r)
def shOf : SV → Option Sh
  | .agg l => match scOfs l with
    | some r => some (.agg r)
    | none => none
  | v => match scOf v with
    | some s => some (.one s)
    | none => none
def scal0 : SV → Bool
  | .int _ _ | .bool _ => true
  | _ => false
def isBot : SV → Bool
  | .bot => true
  | _ => false

def tmL (tm : Tm) : Nat → Nat → List SV
  | 0, _ => []
  | n + 1, i => (tm.get i).getD .bot :: tmL tm n (i + 1)
def memL (mem : Tb SO) : Nat → Nat → List SO
  | 0, _ => []
  | n + 1, i => (mem.get i).getD .gone :: memL mem n (i + 1)

/-- Slots at a loop's head: those that the loop turns hold new letters, or nothing that is known. -/
def headL (p : Nat → SV → Bool) : Nat → List SV → Nat → List SV × Nat
  | _, [], n => ([], n)
  | i, h :: hs, n =>
    bif p i h then (match shOf h with
      | some sh => match headL p (i + 1) hs (n + sh.size) with
        | (t, m) => (mkSh n sh :: t, m)
      | none => match headL p (i + 1) hs n with
        | (t, m) => (.bot :: t, m))
    else match headL p (i + 1) hs n with
      | (t, m) => (h :: t, m)
def again1 (turned : Bool) (h v : SV) (d : Bd) : Option (List A × Bd) :=
  bif turned then (match shOf h with
    | some sh => flatSh sh v d
    | none => some ([], d))
  else bif isBot h || h.beq v then some ([], d) else none
/-- At a round's end: the numbers of those that are turned; all others are as they were. -/
def againL (p : Nat → SV → Bool) : Nat → List SV → List SV → Bd → Option (List A × Bd)
  | _, [], [], d => some ([], d)
  | i, h :: hs, v :: vs, d => match again1 (p i h) h v d with
    | none => none
    | some (as, d) => match againL p (i + 1) hs vs d with
      | none => none
      | some (bs, d) => some (as ++ bs, d)
  | _, _, _, _ => none
def turnC (Hc : List (Nat × Nat)) (b : Nat) (j : Nat) (v : SV) : Bool := inPl b j Hc && scal0 v
def headO (Hc : List (Nat × Nat)) (b : Nat) (o : SO) (n : Nat) : SO × Nat := match o with
  | .cells c e => match headL (turnC Hc b) 0 c n with
    | (t, m) => (.cells t e, m)
  | o => (o, n)
def headM (Hc : List (Nat × Nat)) : Nat → List SO → Nat → List SO × Nat
  | _, [], n => ([], n)
  | b, o :: r, n => match headO Hc b o n with
    | (o, m) => match headM Hc (b + 1) r m with
      | (t, m) => (o :: t, m)
def esBeq : List (SV × SV × Nat) → List (SV × SV × Nat) → Bool
  | [], [] => true
  | x :: xs, y :: ys => x.1.beq y.1 && x.2.1.beq y.2.1 && Nat.beq x.2.2 y.2.2 && esBeq xs ys
  | _, _ => false
def againO (Hc : List (Nat × Nat)) (b : Nat) (h o : SO) (d : Bd) : Option (List A × Bd) := match h, o with
  | .cells c e, .cells c' e' => bif Nat.beq e e' then againL (turnC Hc b) 0 c c' d else none
  | .row c e s n, .row c' e' s' n' => bif Nat.beq e e' && Nat.beq s s' && Nat.beq n n' && SV.beqs c c' then some ([], d) else none
  | .map es k, .map es' k' => bif Nat.beq k k' && esBeq es es' then some ([], d) else none
  | .gone, _ => some ([], d)
  | _, _ => none
def againM (Hc : List (Nat × Nat)) : Nat → List SO → List SO → Bd → Option (List A × Bd)
  | _, [], [], d => some ([], d)
  | b, h :: hs, o :: os, d =>
    match againO Hc b h o d with
    | none => none
    | some (as, d) => match againM Hc (b + 1) hs os d with
      | none => none
      | some (bs, d) => some (as ++ bs, d)
  | _, _, _, _ => none

/-- Slots: each is empty, or mentions what it may. -/
def SV.wfsB (ni nb : Nat) : List SV → Bool
  | [] => true
  | .bot :: l => SV.wfsB ni nb l
  | v :: l => v.wf ni nb && SV.wfsB ni nb l
def SO.wfs (ni nb : Nat) : List SO → Bool
  | [] => true
  | o :: l => o.wf ni nb && SO.wfs ni nb l
/-! ### Code -/
/-- A frame: the arguments, and slots that hold nothing yet. -/
def frameT (args : List SV) (n : Nat) : Tm := Tb.ofL (args ++ List.replicate (n - args.length) (.tup [])) 0 .e

inductive Ex where
  | norm
  | exit (id : Nat)
  | ret
  deriving Inhabited

def evRes (C : Cfg) (tm : Tm) (mem : Tb SO) : List ResultVar → Option (List SV)
  | [] => some []
  | r :: rs => match (match r with
      | .tmp t => match tm.get t with
        | some .bot => none
        | some v => some v
        | none => none
      | .cell a t => match tm.get a with
        | some v => loadV C mem t v
        | none => none) with
    | none => none
    | some v => match evRes C tm mem rs with
      | none => none
      | some l => some (v :: l)

def dstOfOps (ops : List Oper) (j : Nat) : Option Tmp := match nth ops j with
  | some o => o.dst
  | none => none

def noSel : List Oper → Bool
  | [] => true
  | o :: l => (match o.op with
    | .select .. => false
    | _ => true) && noSel l
def ntmpsOf (C : Cfg) (f : Nat) : Nat := match C.P.funcs[f]? with
  | some fn => fn.ntmps
  | none => 0
def turnT (W : Nat) (i : Nat) (_ : SV) : Bool := Nat.testBit W i
/-- Which places a loop writes: a first look from its head. -/
def hcOf (C : Cfg) (mem : Tb SO) (ops : List Oper) (t : List SV) : List (Nat × Nat) := (lookL C mem ops (Tb.ofL t 0 .e) [] []).2.1
/-- Behind a round. -/
def loopK (dep : Nat) (p : Nat → SV → Bool) (Hc : List (Nat × Nat)) (N nb : Nat) (tl : List SV) (ml : List SO) (k : Ex → Tm → St → T) (e : Ex) (tm : Tm) (st' : St) : T :=
  match e with
  | .norm => match againL p 0 tl (tmL tm N 0) ⟨st'.ni, []⟩ with
    | none => .fail 335
    | some (as, d) => match againM Hc 0 ml (memL st'.mem nb 0) d with
      | none => .fail 336
      | some (bs, d) => bindEs st' d fun _ => .again (dep + 1) (as ++ bs)
  | .exit i => .out (dep + 1) (k (.exit i) tm st')
  | .ret => .out (dep + 1) (k .ret tm st')
def sxLoop (dep : Nat) (p : Nat → SV → Bool) (Hc : List (Nat × Nat)) (N : Nat) (tl : List SV) (ml : List SO) (body : Tm → St → (Ex → Tm → St → T) → T) (st : St) (k : Ex → Tm → St → T) : T :=
  match againL p 0 tl tl ⟨st.ni, []⟩ with
  | none => .fail 331
  | some (as, d) => match againM Hc 0 ml ml d with
    | none => .fail 332
    | some (bs, d) => bindEs st d fun st1 => match headL p 0 tl st1.ni with
      | (tH, n1) => match headM Hc 0 ml n1 with
        | (mH, n2) =>
          bif Nat.beq n2 (st1.ni + (as ++ bs).length) && SV.wfsB n2 st1.nb tH && SO.wfs n2 st1.nb mH then
            .loop (dep + 1) (as ++ bs) (body (Tb.ofL tH 0 .e) { st1 with mem := Tb.ofL mH 0 .e, ni := n2 } (loopK dep p Hc N st1.nb tl ml k))
          else .fail 338
mutual
def sx (C : Cfg) : Nat → Nat → Nat → Code → Tm → St → (Ex → Tm → St → T) → T
  | 0, _, _, _, _, _, _ => (.fail 305)
  | n + 1, dep, f, c, tm, st, k =>
    match c with
    | .skip => k .norm tm st
    | .seq a b => sx C n dep f a tm st fun e tm st => match e with
      | .norm => sx C n dep f b tm st k
      | .exit i => k (.exit i) tm st
      | .ret => k .ret tm st
    | .cond x a b => match evO st.pc tm x with
      | some (.bool c) => condB c st fun t st => bif t then sx C n dep f a tm st k else sx C n dep f b tm st k
      | _ => (.fail 306)
    | .block id b => sx C n dep f b tm st fun e tm st => match e with
      | .exit i => bif Nat.beq i id then k .norm tm st else k (.exit i) tm st
      | .norm => k .norm tm st
      | .ret => k .ret tm st
    | .exit id => k (.exit id) tm st
    | .ret => k .ret tm st
    | .region _ ops draw =>
      let l := ops.toList
      bif draw then
        bif noSel l then
        let r := lookL C st.mem l tm [] []
        sxAny C (callOf C n dep) (dstOfOps l) (rosOf ops) (minusPl r.1 r.2.1) st.mem (l.length + 1) 0 tm st (k .norm) else .fail 339
      else sxL C (callOf C n dep) (dstOfOps l) l tm st (k .norm)
    | .loop b =>
      bif C.un f then sx C n dep f b tm st fun e tm st => match e with
        | .norm => sx C n dep f (.loop b) tm st k
        | .exit i => k (.exit i) tm st
        | .ret => k .ret tm st
      else
        let W := dstsM (opsOfCode b)
        let N := ntmpsOf C f
        let tl := tmL tm N 0
        sxLoop dep (turnT W) (hcOf C st.mem (opsOfCode b) (headL (turnT W) 0 tl st.ni).1) N tl (memL st.mem st.nb 0) (sx C n (dep + 1) f b) st k
    | .scope b => sx C n dep f b tm st k
    | .label _ => k .norm tm st
    | _ => (.fail 316)
def callOf (C : Cfg) : Nat → Nat → Nat → List SV → St → (SV → St → T) → T
  | 0, _, _, _, _, _ => (.fail 317)
  | n + 1, dep, f, args, st, k =>
    match C.sp f with
    | some sig => match flatS sig.ins args ⟨st.ni, []⟩ with
      | some (l, d) => bindEs st d fun st => .call f l (Sh.len sig.outs) (k (tupV (mkS st.ni sig.outs)) { st with ni := st.ni + Sh.len sig.outs })
      | none => (.fail 318)
    | none => match C.P.funcs[f]? with
      | some fn => match fn.body with
        | some c => bif fn.name == "runtime.NumGoroutine" then (.fail 319) else
          sx C n dep f c (frameT args fn.ntmps) st fun e tm st => match e with
            | .exit _ => (.fail 320)
            | .norm => match evRes C tm st.mem fn.results.toList with
              | some l => k (tupV l) st
              | none => (.fail 321)
            | .ret => match evRes C tm st.mem fn.results.toList with
              | some l => k (tupV l) st
              | none => (.fail 321)
        | none => (.fail 322)
      | none => (.fail 323)
end

/-- The tree of a function: its parameters are the first letters. 'sub': parameters that are known. -/
def subst (l : List (Nat × Int)) (v : SV) : SV := match v with
  | .int k (.v i) => match l.find? (·.1 == i) with
    | some p => .int k (.n p.2)
    | none => v
  | v => v
/-- What a call comes to, its body walked. -/
def sxBody (C : Cfg) (fuel dep f : Nat) (args : List SV) (st : St) (k : List SV → St → T) : T :=
  match C.P.funcs[f]? with
  | some fn => match fn.body with
    | some c => bif fn.name == "runtime.NumGoroutine" then (.fail 319) else
      sx C fuel dep f c (frameT args fn.ntmps) st fun e tm st => match e with
        | .exit _ => (.fail 320)
        | .norm => match evRes C tm st.mem fn.results.toList with
          | some l => k l st
          | none => (.fail 321)
        | .ret => match evRes C tm st.mem fn.results.toList with
          | some l => k l st
          | none => (.fail 321)
    | none => (.fail 322)
  | none => (.fail 323)
def retK (outs : List Sh) (l : List SV) (st : St) : T := match flatS outs l ⟨st.ni, []⟩ with
  | some (as, d) => bif SV.wfs st.ni st.nb l then bindEs st d fun _ => .ret as else .fail 324
  | none => (.fail 325)
def sxRun (C : Cfg) (fuel : Nat) (f : Nat) (sig : Sig) (args : List SV) (pc : List (B × Bool)) : T :=
  sxBody C fuel 0 f args ⟨.e, 0, Sh.len sig.ins, pc⟩ (retK sig.outs)
def sxFunc (C : Cfg) (fuel : Nat) (f : Nat) (sig : Sig) : T := sxRun C fuel f sig (mkS 0 sig.ins) []

end Go.SX
