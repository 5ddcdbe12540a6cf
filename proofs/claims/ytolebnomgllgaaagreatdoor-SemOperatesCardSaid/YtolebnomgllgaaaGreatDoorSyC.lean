/- The symbolic executor SY, part C: memory, shapes, what operations do, calls (definitions alone). -/
import Derived.Test.YtolebnomgllgaaaGreatDoorSyB
set_option linter.unusedVariables false
namespace Go.SY
open Go
noncomputable section
def fnEq : Fn → Fn → Bool
  | .func f, .func g => Nat.beq f g
  | _, _ => false
def natsEq : List Nat → List Nat → Bool
  | [], [] => true
  | a :: l, b :: m => Nat.beq a b && natsEq l m
  | _, _ => false
mutual
def SV.beq : SV → SV → Bool
  | .int k a, .int k' a' => kindEq k k' && a.beq a'
  | .bool a, .bool b => a.beq b
  | .str a, .str b => a.beq b
  | .sl a, .sl b | .pt a, .pt b | .map a, .map b => Nat.beq a b
  | .ptr a b, .ptr c d | .gptr a b, .gptr c d => Nat.beq a c && Nat.beq b d
  | .rp b s i o p, .rp b' s' i' o' p' => Nat.beq b b' && Nat.beq s s' && i.beq i' && Nat.beq o o' && natsEq p p'
  | .nilp, .nilp | .nilsl, .nilsl | .nilmap, .nilmap | .nilfn, .nilfn | .niliface, .niliface => true
  | .slice a b c d, .slice a' b' c' d' => Nat.beq a a' && Nat.beq b b' && Nat.beq c c' && Nat.beq d d'
  | .fn f a b, .fn g c d => fnEq f g && SV.beqs a c && SV.beqs b d
  | .agg a, .agg b => SV.beqs a b
  | .tup a, .tup b => SV.beqs a b
  | .iface t a, .iface u b => Nat.beq t u && a.beq b
  | .gd c w v, .gd c' w' v' => c.beq c' && (w == w') && v.beq v'
  | _, _ => false
def SV.beqs : List SV → List SV → Bool
  | [], [] => true
  | x :: xs, y :: ys => x.beq y && SV.beqs xs ys
  | _, _ => false
end
inductive Sh where
  | dat (t : TypeId)
  | lit (t : TypeId) (x : Dt)
  | own (t : TypeId)
  | ptr (b : Nat)
  | map (b : Nat)
  | con (v : SV)
  | fn (f : Nat) (first cap : List Sh)
  | ifc (t : TypeId) (s : Sh)
  deriving Inhabited, Repr
inductive ShB where
  | cells (e : TypeId) (l : List Sh)
  | map (es : List (SV × Sh)) (clock : Nat)
  | gone
  deriving Inhabited, Repr
structure Out where
  vs : List Sh
  bl : List ShB
  deriving Inhabited, Repr
structure Sig where
  ins : List Sh
  bl : List ShB
  out : Out
  pan : Option Out
  deriving Inhabited, Repr
mutual
def Sh.tys : Sh → List TypeId
  | .dat t | .own t => [t]
  | .ptr _ | .map _ | .con _ | .lit _ _ => []
  | .fn _ a b => Sh.tysL a ++ Sh.tysL b
  | .ifc _ s => s.tys
def Sh.tysL : List Sh → List TypeId
  | [] => []
  | s :: l => s.tys ++ Sh.tysL l
end
def esTys : List (SV × Sh) → List TypeId
  | [] => []
  | e :: l => e.2.tys ++ esTys l
def ShB.tys : ShB → List TypeId
  | .cells _ l => Sh.tysL l
  | .map es _ => esTys es
  | .gone => []
def ShB.tysL : List ShB → List TypeId
  | [] => []
  | s :: l => s.tys ++ ShB.tysL l
def Out.tys (o : Out) : List TypeId := Sh.tysL o.vs ++ ShB.tysL o.bl
def Sh.size (ty : Ty) : Sh → Nat
  | .dat t | .lit t _ => match ty.get t with
    | some i => i.size
    | none => 0
  | _ => 1
structure Cfg where
  P : Program
  ty : Ty
  gl : Gls
  sp : Nat → List (Nat × Sig)
  un : Nat → Bool
  ow : Nat → List Nat
  mv : Bool
  pl : Bool := false
  lv : Nat → Option (Sig × (List Dt → Option (List Dt))) := fun _ => none
structure Mt where
  f : Fs
  bm : Tb Nat
  lim : Nat
def Mt.meet (m : Mt) (j b : Nat) : Option Mt := match m.bm.get j with
  | none => bif Nat.blt j 1000000 && Nat.blt j m.lim then some { m with bm := m.bm.put j b } else none
  | some b' => bif Nat.beq b b' then some m else none
def aggB (ty : Ty) (t : TypeId) : Bool := match ty.get t with
  | some i => i.d.agg
  | none => false
def fitV (ty : Ty) (s : Sh) (v : SV) : Option (List SV) :=
  match s, v with
  | .dat t, .agg l | .lit t _, .agg l => bif aggB ty t then some l else none
  | _, .agg _ => none
  | .dat t, v | .lit t _, v => bif aggB ty t then none else v.cellsOf
  | _, v => v.cellsOf
mutual
def SV.tyC : SV → Bool
  | .int k (.n c) => decide (k.min ≤ c) && decide (c ≤ k.max)
  | .int _ _ => false
  | .bool (.c _) => true
  | .bool _ => false
  | .str (.d (.byt l)) => decide (l.length < 9223372036854775808)
  | .str _ => false
  | .fn _ a b => SV.tysC a && SV.tysC b
  | .agg l | .tup l => SV.tysC l
  | .iface _ v => v.tyC
  | .gd _ _ _ => false
  | _ => true
def SV.tysC : List SV → Bool
  | [] => true
  | v :: l => v.tyC && SV.tysC l
end
def elemOf (ty : Ty) (t : TypeId) : Option (Nat × Nat) := match tdOf ty t with
  | .slice e s => some (e, s)
  | _ => none
mutual
def mtC (ty : Ty) (pc : List (B × Bool)) : Nat → Sh → List SV → Mt → Option (List A × Mt)
  | 0, _, _, _ => none
  | n + 1, s, cs, m => match s, cs with
    | .dat t, cs => match toD ty pc 60 t cs m.f with
      | some (a, f) => some ([a], { m with f := f })
      | none => none
    | .lit t x, cs => match toD ty pc 60 t cs m.f with
      | some (a, f) => bif a.beq (.ofDt x) then some ([], { m with f := f }) else none
      | none => none
    | .own t, [.nilsl] => match elemOf ty t with
      | some _ => some ([.d .nil], m)
      | none => none
    | .own t, [.sl b] => match m.f.mem.get b, elemOf ty t with
      | some (.rowd e s a), some (e', s') => bif Nat.beq e e' && Nat.beq s s' then some ([a], { m with f := { m.f with mem := m.f.mem.put b .gone } }) else none
      | _, _ => none
    | .ptr j, [.ptr b 0] => match m.meet j b with
      | some m => some ([], m)
      | none => none
    | .map j, [.map b] => match m.meet j b with
      | some m => some ([], m)
      | none => none
    | .con v, [u] => bif u.beq v && v.wf 0 0 then some ([], m) else none
    | .fn g fi ca, [.fn (.func g') fi' ca'] => bif Nat.beq g g' then (match mtL ty pc n fi fi' m with
      | some (a, m) => match mtL ty pc n ca ca' m with
        | some (b, m) => some (a ++ b, m)
        | none => none
      | none => none) else none
    | .ifc t s, [.iface t' v] => bif Nat.beq t t' then (match fitV ty s v with
      | some cs => mtC ty pc n s cs m
      | none => none) else none
    | _, _ => none
def mtL (ty : Ty) (pc : List (B × Bool)) : Nat → List Sh → List SV → Mt → Option (List A × Mt)
  | 0, _, _, _ => none
  | _ + 1, [], [], m => some ([], m)
  | n + 1, s :: ss, v :: vs, m => match fitV ty s v with
    | some cs => match mtC ty pc n s cs m with
      | some (a, m) => match mtL ty pc n ss vs m with
        | some (r, m) => some (a ++ r, m)
        | none => none
      | none => none
    | none => none
  | _, _, _, _ => none
end
def mtCells (ty : Ty) (pc : List (B × Bool)) : List Sh → List SV → Mt → Option (List A × Mt)
  | [], [], m => some ([], m)
  | s :: ss, cs, m => match takeN (s.size ty) cs with
    | some l => match mtC ty pc 60 s l m with
      | some (a, m) => match mtCells ty pc ss (dropN (s.size ty) cs) m with
        | some (r, m) => some (a ++ r, m)
        | none => none
      | none => none
    | none => none
  | [], _ :: _, _ => none
def mtEs (ty : Ty) (pc : List (B × Bool)) : List (SV × Sh) → List (SV × SV × Nat) → Nat → Mt → Option (List A × Mt)
  | [], [], _, m => some ([], m)
  | s :: ss, e :: es, i, m => bif e.1.beq s.1 && s.1.wf 0 0 && Nat.beq e.2.2 i then (match fitV ty s.2 e.2.1 with
    | some cs => match mtC ty pc 60 s.2 cs m with
      | some (a, m) => match mtEs ty pc ss es (i + 1) m with
        | some (r, m) => some (a ++ r, m)
        | none => none
      | none => none
    | none => none) else none
  | _, _, _, _ => none
def mtB (ty : Ty) (pc : List (B × Bool)) : List ShB → Nat → Mt → Option (List A × Mt)
  | [], _, m => some ([], m)
  | s :: ss, j, m => match (match s with
    | .gone => some ([], m)
    | .cells e l => match m.bm.get j with
      | some b => match m.f.mem.get b with
        | some (.cells c e') => bif Nat.beq e e' then mtCells ty pc l c { m with f := { m.f with mem := m.f.mem.put b .gone } } else none
        | _ => none
      | none => none
    | .map es k => match m.bm.get j with
      | some b => match m.f.mem.get b with
        | some (.map c k') => bif Nat.beq k k' then mtEs ty pc es c 0 { m with f := { m.f with mem := m.f.mem.put b .gone } } else none
        | _ => none
      | none => none) with
    | some (a, m) => match mtB ty pc ss (j + 1) m with
      | some (r, m) => some (a ++ r, m)
      | none => none
    | none => none
structure Cr where
  n : Nat
  d : Bd
mutual
def crC (ty : Ty) (bm : Tb Nat) : Nat → Sh → Cr → Option (List SV × Cr)
  | 0, _, _ => none
  | k + 1, s, c => match s with
    | .dat t => match mkD ty 60 t (.v c.n) (.c true) c.d with
      | some (l, d) => some (l, ⟨c.n + 1, d⟩)
      | none => none
    | .lit t x => match mkD ty 60 t (.ofDt x) (.c true) c.d with
      | some (l, d) => some (l, ⟨c.n, d⟩)
      | none => none
    | .own t => match elemOf ty t with
      | some (e, s) => let r := c.d.ghost (.rowd e s (.v c.n)); some ([.sl r.1], ⟨c.n + 1, r.2⟩)
      | none => none
    | .ptr j => match bm.get j with
      | some b => some ([.ptr b 0], c)
      | none => none
    | .map j => match bm.get j with
      | some b => some ([.map b], c)
      | none => none
    | .con v => bif v.wf 0 0 && v.cell && v.tyC then some ([v], c) else none
    | .fn f fi ca => match crL ty bm k fi c with
      | some (a, c) => match crL ty bm k ca c with
        | some (b, c) => some ([.fn (.func f) a b], c)
        | none => none
      | none => none
    | .ifc t s => match crV ty bm k s c with
      | some (v, c) => some ([.iface t v], c)
      | none => none
def crV (ty : Ty) (bm : Tb Nat) : Nat → Sh → Cr → Option (SV × Cr)
  | 0, _, _ => none
  | k + 1, s, c => match crC ty bm k s c with
    | some (l, c) => match s with
      | .dat t | .lit t _ => match ofCells ty t l with
        | some v => some (v, c)
        | none => none
      | _ => match l with
        | [v] => some (v, c)
        | _ => none
    | none => none
def crL (ty : Ty) (bm : Tb Nat) : Nat → List Sh → Cr → Option (List SV × Cr)
  | 0, _, _ => none
  | _ + 1, [], c => some ([], c)
  | k + 1, s :: ss, c => match crV ty bm k s c with
    | some (v, c) => match crL ty bm k ss c with
      | some (l, c) => some (v :: l, c)
      | none => none
    | none => none
end
def crCells (ty : Ty) (bm : Tb Nat) : List Sh → Cr → Option (List SV × Cr)
  | [], c => some ([], c)
  | s :: ss, c => match crC ty bm 60 s c with
    | some (l, c) => match crCells ty bm ss c with
      | some (r, c) => some (l ++ r, c)
      | none => none
    | none => none
def crEs (ty : Ty) (bm : Tb Nat) : List (SV × Sh) → Nat → Cr → Option (List (SV × SV × Nat) × Cr)
  | [], _, c => some ([], c)
  | s :: ss, i, c => bif !(s.1.wf 0 0 && s.1.tyC) then none else match crV ty bm 60 s.2 c with
    | some (v, c) => match crEs ty bm ss (i + 1) c with
      | some (r, c) => some ((s.1, v, i) :: r, c)
      | none => none
    | none => none
def crB (ty : Ty) (bm : Tb Nat) : List ShB → Nat → Cr → Option (List (Nat × SO) × Cr)
  | [], _, c => some ([], c)
  | s :: ss, j, c => match (match s with
    | .gone => some ([], c)
    | .cells e l => match bm.get j, crCells ty bm l c with
      | some b, some (r, c) => some ([(b, SO.cells r e)], c)
      | _, _ => none
    | .map es k => match bm.get j, crEs ty bm es 0 c with
      | some b, some (r, c) => some ([(b, SO.map r k)], c)
      | _, _ => none) with
    | some (r, c) => match crB ty bm ss (j + 1) c with
      | some (q, c) => some (r ++ q, c)
      | none => none
    | none => none
def rdMem (mem : Tb SO) (b off n : Nat) : Option (List SV) :=
  match mem.get b with
  | some (.cells c _) => takeN n (dropN off c)
  | _ => none
def rdGl (gl : List (Nat × List SV)) (g off n : Nat) : Option (List SV) :=
  match gl with
  | [] => none
  | (h, c) :: r => bif Nat.beq h g then takeN n (dropN off c) else rdGl r g off n
def aggT (ty : Ty) (t : TypeId) : Option (Nat × Bool) := match ty.get t with
  | some i => bif i.d.isH then none else some (bif i.d.agg then i.size else 1, i.d.agg)
  | none => none
def loadV (C : Cfg) (mem : Tb SO) (pc : List (B × Bool)) (cg : B) (t : TypeId) (a : SV) (d : Bd) : Option (SV × Bd) :=
  match aggT C.ty t with
  | some (n, agg) =>
    match a with
    | .rp b s i off _ => match mem.get b with
      | some (.rowd e s' x) => bif Nat.beq s s' && knownIs pc (.mkLt i (.n 0)) false && knownIs pc (.mkLt i x.mkLen) true then (match mkD C.ty 60 e (x.mkIdx i) cg d with
        | some (l, d) => match partL C.ty t l off with
          | some v => bif Nat.beq l.length s then some (v, d) else none
          | none => none
        | none => none) else none
      | _ => none
    | a => match (match a with
        | .ptr b off => rdMem mem b off n
        | .gptr g off => rdGl C.gl.fl g off n
        | _ => none) with
      | none => none
      | some l => bif agg then some (.agg l, d) else match l with
        | [v] => some (v, d)
        | _ => none
  | none => none
def inferAnd (pc : List (B × Bool)) (x y c : B) (v : Bool) : Option Bool :=
  bif x.beq c && knownIs pc y v then some (!v) else bif y.beq c && knownIs pc x v then some (!v) else
  bif x.beq c.mkNot && knownIs pc y v then some v else bif y.beq c.mkNot && knownIs pc x v then some v else none
def inferL (pc : List (B × Bool)) (c : B) : List (B × Bool) → Option Bool
  | [] => none
  | (p, b) :: r => match (match p, b with
    | .and x y, false => inferAnd pc x y c true
    | .or x y, true => inferAnd pc x y c false
    | _, _ => none) with
    | some v => some v
    | none => inferL pc c r
def B.infer (pc : List (B × Bool)) (c : B) : Option Bool := match c.known pc with
  | some b => some b
  | none => inferL pc c pc
def condB (c : B) (st : St) (k : Bool → St → T) : T :=
  match c.infer st.pc with
  | some b => k b st
  | none => bif c.wf st.ni then .br c (k true { st with pc := c.facts true ++ st.pc }) (k false { st with pc := c.facts false ++ st.pc }) else (.fail 101)
def wfEs : Nat → List (Option TypeId × E) → Bool
  | _, [] => true
  | n, e :: es => e.2.wf n && wfEs (n + 1) es
def T.lts : List (Option TypeId × E) → T → T
  | [], t => t
  | e :: es, t => .lt e.1 e.2 (T.lts es t)
def pushG : Tb SO → Nat → List SO → Tb SO
  | m, _, [] => m
  | m, n, o :: r => pushG (m.put n o) (n + 1) r
def wfSOs (ni nb : Nat) : List SO → Bool
  | [] => true
  | o :: r => o.wf ni nb && wfSOs ni nb r
def wfFs (ni : Nat) : List (B × Bool) → Bool
  | [] => true
  | o :: r => o.1.wf ni && wfFs ni r
def SO.gh : SO → Bool
  | .val _ _ _ | .at _ _ _ => true
  | _ => false
def allGh : List SO → Bool
  | [] => true
  | o :: r => o.gh && allGh r
def frc {α : Type} (n : Nat) (k : Nat → α) : α := match n with
  | 0 => k 0
  | m + 1 => k (Nat.succ m)
theorem frc_eq {α : Type} (n : Nat) (k : Nat → α) : frc n k = k n := by cases n <;> rfl
def bindD (st : St) (d : Bd) (k : St → T) : T :=
  bif wfEs st.ni d.es && Nat.beq d.ni (st.ni + d.es.length) && Nat.beq d.nb (st.nb + d.gs.length) && wfSOs d.ni d.nb d.gs && wfFs d.ni d.fs && allGh d.gs then
    .lts d.es (frc d.ni fun ni => frc d.nb fun nb => k { st with ni := ni, nb := nb, mem := pushG st.mem st.nb d.gs, pc := d.fs ++ st.pc })
  else (.fail 102)
def bindF (st : St) (f : Fs) (k : St → T) : T := bindD { st with mem := f.mem } f.d k
def St.bd (st : St) : Bd := .of st.ni st.nb
def St.fs (st : St) : Fs := ⟨st.bd, st.mem⟩
def bind1 (st : St) (e : E) (k : A → St → T) : T :=
  let r := st.bd.bind e
  bindD st r.2 (k r.1)
def putT (tm : Tm) (dst : Option Tmp) (v : SV) (st : St) (k : Tm → St → T) : T :=
  match dst with
  | none => k tm st
  | some d => match tm.get d with
    | some _ => bif v.wf st.ni st.nb then k (tm.put d v) st else (.fail 103)
    | none => .fail 99
def newB (st : St) (o : SO) (k : Nat → St → T) : T :=
  bif o.wf st.ni st.nb then frc (st.nb + 1) fun nb => k st.nb { st with mem := st.mem.put st.nb o, nb := nb } else (.fail 104)
def tupV (l : List SV) : SV := match l with
  | [v] => v
  | l => .tup l
def puOf (C : Cfg) (tm : Tm) (st : St) : Pu := ⟨C.ty, st.mem, tm, st.ni, st.nb, st.pc, .c true, C.gl.dt⟩
def keyEq : SV → SV → Option B
  | .int k a, .int k' b => bif kindEq k k' then some (B.mkEq a b) else none
  | .str a, .str b => some (mkSeq a b)
  | _, _ => none
def SV.plain : SV → Bool
  | .tup _ | .gd _ _ _ | .bot => false
  | _ => true
def keyKind : TD → SV → Bool
  | .int _, .int _ _ => true
  | .str, .str _ => true
  | _, _ => false
def findE (key : SV) : List (SV × SV × Nat) → Nat → Option (Option Nat)
  | [], _ => some none
  | e :: es, i => match keyEq key e.1 with
    | some (.c true) => some (some i)
    | some (.c false) => findE key es (i + 1)
    | _ => none
def lookE (key : SV) (st : St) (none_ : St → T) (some_ : SV → St → T) : List (SV × SV × Nat) → T
  | [] => none_ st
  | e :: es => match keyEq key e.1 with
    | some c => condB c st fun b st => bif b then some_ e.2.1 st else lookE key st none_ some_ es
    | none => (.fail 105)
def keysEq (key : SV) : List (SV × SV × Nat) → Bool
  | [] => true
  | e :: es => (match keyEq key e.1 with
    | some _ => true
    | none => false) && keysEq key es
def byBorn (n : Nat) : List (SV × SV × Nat) → Nat → Option Nat
  | [], _ => none
  | e :: es, i => bif Nat.beq e.2.2 n then some i else byBorn n es (i + 1)
def enumI (x : A) (st : St) (k : Nat → St → T) : Nat → Nat → T
  | 0, _ => (.fail 106)
  | n + 1, j => condB (.mkEq x (.n j)) st fun b st => bif b then k j st else enumI x st k n (j + 1)
abbrev K := SV → St → T
abbrev CallF := Nat → List SV → St → K → K → T
def eAlloc (C : Cfg) (tm : Tm) (st : St) (k : K) (t : TypeId) : T :=
  match zeroL C.ty t with
    | some cs => newB st (.cells cs t) fun b st => k (.ptr b 0) st
    | none => (.fail 107)
def eBox (C : Cfg) (tm : Tm) (st : St) (k : K) (t : TypeId) (x : Operand) : T :=
  match evO st.pc tm x with
    | some v => match v.cellsOf with
      | some cs => newB st (.cells cs t) fun b st => k (.ptr b 0) st
      | none => (.fail 108)
    | none => (.fail 109)
def groups (s : Nat) : Nat → List SV → Option (List (List SV))
  | 0, [] => some []
  | 0, _ :: _ => none
  | n + 1, l => match takeN s l with
    | some c => match groups s n (dropN s l) with
      | some r => some (c :: r)
      | none => none
    | none => none
def mkRow (l : List A) (d : Bd) : A × Bd := match litsOf l with
  | some x => (.d (.row x), d)
  | none => d.bind (.lst l)
def eBuildSlice (C : Cfg) (tm : Tm) (st : St) (k : K) (t : TypeId) (len : Nat) (parts : Array (Nat × Operand)) : T :=
  match tdOf C.ty t with
    | .slice e n => match zeroL C.ty (un e), evPs st.pc tm parts.toList with
      | some z, some ps => bif Nat.ble (len * n) 16777216 && Nat.ble len 16777216 && Nat.beq z.length n then (match fillL (fun i => some (i * n, n)) (repeatL len z) ps with
          | some cs => match (match groups n len cs with
              | some g => toDs C.ty st.pc e g st.fs
              | none => none) with
            | some (l, f) => let r := mkRow l f.d; bindF st { f with d := r.2 } fun st => newB st (.rowd e n r.1) fun b st => k (.sl b) st
            | none => newB st (.cells cs (un e)) fun b st => k (.slice b 0 len len) st
          | none => .fail 110) else .fail 111
      | _, _ => .fail 112
    | _ => .fail 113
def hdlF (r : TypeId → List SV → List (Nat × TypeId)) : List (Nat × Nat × Nat) → List SV → List (Nat × TypeId)
  | [], _ => []
  | g :: gs, cs => match takeN g.2.2 (dropN g.2.1 cs) with
    | some l => r g.1 l ++ hdlF r gs cs
    | none => []
def hdl (ty : Ty) : Nat → TypeId → List SV → List (Nat × TypeId)
  | 0, _, _ => []
  | n + 1, t, cs => match tdOf ty t, cs with
    | .hnd _ _, [.sl b] => [(b, t)]
    | .struct fs _, cs => hdlF (hdl ty n) fs cs
    | _, _ => []
def hdlPs (ty : Ty) (t : TypeId) : List (Nat × SV) → List (Nat × TypeId)
  | [] => []
  | p :: ps => (match p.2.cellsOf with
    | some c => hdl ty 60 t c
    | none => []) ++ hdlPs ty t ps
def giveL (C : Cfg) (k : St → T) : List (Nat × TypeId) → St → T
  | [], st => k st
  | p :: r, st => match st.mem.get p.1, st.mem.get 0, tdOf C.ty p.2 with
    | some (.rowd e s x), some (.pool e' s' P), .hnd e2 s2 => bif Nat.beq e e' && Nat.beq s s' && Nat.beq e e2 && Nat.beq s s2 then
        bind1 st (.lst [x]) fun a st1 => bind1 st1 (.cat P a) fun q st2 => giveL C k r { st2 with mem := (st2.mem.put p.1 (.val (.c true) p.2 P.mkLen)).put 0 (.pool e s q) }
      else giveL C k r st
    | _, _, _ => giveL C k r st
def eBuildSliceG (C : Cfg) (tm : Tm) (st : St) (k : K) (t : TypeId) (len : Nat) (parts : Array (Nat × Operand)) : T :=
  bif C.pl then (match tdOf C.ty t, evPs st.pc tm parts.toList with
    | .slice e _, some ps => giveL C (fun st => eBuildSlice C tm st k t len parts) (hdlPs C.ty e ps) st
    | _, _ => .fail 112) else eBuildSlice C tm st k t len parts
def rowH (C : Cfg) (mem : Tb SO) (pc : List (B × Bool)) (b : Nat) : Option (Nat × Nat × A) := match mem.get b, mem.get 0 with
  | some (.val c t a), some (.pool e s P) => match tdOf C.ty t with
    | .hnd e' s' => bif Nat.beq e e' && Nat.beq s s' && knownIs pc c true then some (e, s, P.mkIdx a) else none
    | _ => none
  | _, _ => none
def loadH (C : Cfg) (st : St) (t : TypeId) (a : SV) : Option (SV × Bd) := match a with
  | .rp b _ _ _ _ => match rowH C st.mem st.pc b with
    | some (e, s, x) => loadV C (st.mem.put b (.rowd e s x)) st.pc (.c true) t a st.bd
    | none => none
  | _ => none
def eLoad (C : Cfg) (tm : Tm) (st : St) (k : K) (t : TypeId) (x : Operand) : T :=
  match evO st.pc tm x with
    | some a => match loadV C st.mem st.pc (.c true) t a st.bd with
      | some (v, d) => bindD st d fun st => k v st
      | none => match loadH C st t a with
        | some (v, d) => bindD st d fun st => k v st
        | none => (.fail 114)
    | none => (.fail 115)
def wrMem (mem : Tb SO) (b off : Nat) (vs : List SV) : Option (Tb SO) :=
  match mem.get b with
  | some (.cells c e) => match putN c off vs with
    | some c' => some (mem.put b (.cells c' e))
    | none => none
  | _ => none
def storeH (C : Cfg) (st : St) (k : K) (b s : Nat) (i : A) (off : Nat) (cs : List SV) : T :=
  match st.mem.get b, rowH C st.mem st.pc b, st.mem.get 0 with
  | some (.val _ _ aa), some (e, s', x), some (.pool _ _ P) => bif Nat.beq s s' && Nat.blt 0 s && knownIs st.pc (.mkLt i (.n 0)) false && knownIs st.pc (.mkLt i x.mkLen) true then
      (match mkD C.ty 60 e (x.mkIdx i) (.c true) st.bd with
      | some (l, d) => bif Nat.beq l.length s then (match putN l off cs with
        | some l' => bindD st d fun st => match toD C.ty st.pc 60 e l' st.fs with
          | some (z, f) => match f.mem.get 0 with
            | some (.pool e2 s2 P2) => bif Nat.beq e e2 && Nat.beq s s2 && P.beq P2 then bindF st f fun st => bind1 st (.set x i z) fun y st => bind1 st (.set P aa y) fun q st => k (.tup []) { st with mem := st.mem.put 0 (.pool e s q) } else .fail 119
            | _ => .fail 119
          | none => .fail 120
        | none => .fail 121) else .fail 121
      | none => .fail 121)
    else .fail 118
  | _, _, _ => .fail 119
def eStore (C : Cfg) (tm : Tm) (st : St) (k : K) (t : TypeId) (x y : Operand) : T :=
  match evO st.pc tm x, evO st.pc tm y with
    | some (.ptr b off), some v => match v.cellsOf, sizeO C.ty t with
      | some vs, some n => bif Nat.beq vs.length n then (match wrMem st.mem b off vs with
        | some mem => k (.tup []) { st with mem := mem }
        | none => .fail 116) else .fail 116
      | _, _ => .fail 116
    | some (.rp b s i off _), some v => match v.cellsOf, sizeO C.ty t with
      | some cs, some n => bif Nat.beq cs.length n then (match st.mem.get b with
        | some (.rowd e s' x) => bif Nat.beq s s' && Nat.blt 0 s && knownIs st.pc (.mkLt i (.n 0)) false && knownIs st.pc (.mkLt i x.mkLen) true then
            (match mkD C.ty 60 e (x.mkIdx i) (.c true) st.bd with
            | some (l, d) => bif Nat.beq l.length s then (match putN l off cs with
              | some l' => bindD st d fun st => match toD C.ty st.pc 60 e l' st.fs with
                | some (z, f) => match f.mem.get b with
                  | some (.rowd e2 s2 x2) => bif Nat.beq e e2 && Nat.beq s s2 && x.beq x2 then bindF st ⟨(f.d.bind (.set x i z)).2, f.mem⟩ fun st => k (.tup []) { st with mem := st.mem.put b (.rowd e s (f.d.bind (.set x i z)).1) } else .fail 119
                  | _ => .fail 119
                | none => .fail 120
              | none => .fail 121) else .fail 121
            | none => .fail 121)
          else .fail 118
        | _ => storeH C st k b s i off cs) else .fail 121
      | _, _ => .fail 121
    | _, _ => (.fail 117)
def eStoreG (C : Cfg) (tm : Tm) (st : St) (k : K) (t : TypeId) (x y : Operand) : T :=
  bif C.pl then (match evO st.pc tm y with
    | some v => match v.cellsOf with
      | some c => giveL C (fun st => eStore C tm st k t x y) (hdl C.ty 60 t c) st
      | none => .fail 116
    | none => .fail 117) else eStore C tm st k t x y
def eMakeMap (C : Cfg) (tm : Tm) (st : St) (k : K)  : T :=
  newB st (.map [] 0) fun b st => k (.map b) st
def eMapUpdate (C : Cfg) (tm : Tm) (st : St) (k : K) (t : TypeId) (x y z : Operand) : T :=
  match tdOf C.ty t with
    | .map kt _ => match some (tdOf C.ty kt), evO st.pc tm x, evO st.pc tm y, evO st.pc tm z with
      | some kd, some (.map b), some key, some v => bif keyKind kd key && v.wf st.ni st.nb && key.wf st.ni st.nb && v.plain then
          (match st.mem.get b with
          | some (.map es clock) => match findE key es 0 with
            | some none => k (.tup []) { st with mem := st.mem.put b (.map (es ++ [(key, v, clock)]) (clock + 1)) }
            | some (some i) => match nth es i with
              | some e => k (.tup []) { st with mem := st.mem.put b (.map (setN es i (e.1, v, e.2.2)) clock) }
              | none => (.fail 122)
            | none => (.fail 123)
          | _ => (.fail 124)) else (.fail 125)
      | _, _, _, _ => (.fail 126)
    | _ => (.fail 127)
def eMapEntry (C : Cfg) (tm : Tm) (st : St) (k : K) (t : TypeId) (x y : Operand) : T :=
  match tdOf C.ty t with
    | .map kt et => match some (tdOf C.ty kt), evO st.pc tm x, evO st.pc tm y, zeroV C.ty et with
      | some kd, some (.map b), some key, some z => bif keyKind kd key && key.wf st.ni st.nb && z.wf st.ni st.nb then
          (match st.mem.get b with
          | some (.map es clock) => match findE key es 0 with
            | some none => bif Nat.blt clock 4294967296 then k (.tup [z, .int .i64 (.n clock)]) { st with mem := st.mem.put b (.map (es ++ [(key, z, clock)]) (clock + 1)) } else .fail 128
            | some (some i) => match nth es i with
              | some e => bif Nat.blt e.2.2 4294967296 then k (.tup [e.2.1, .int .i64 (.n e.2.2)]) st else .fail 128
              | none => (.fail 128)
            | none => (.fail 129)
          | _ => (.fail 130)) else (.fail 131)
      | _, _, _, _ => (.fail 132)
    | _ => (.fail 133)
def eEntryStore (C : Cfg) (tm : Tm) (st : St) (k : K) (x y z : Operand) : T :=
  match evO st.pc tm x, evO st.pc tm y, evO st.pc tm z with
    | some (.map b), some (.int _ (.n c)), some v => match litNat c, st.mem.get b with
      | some n, some (.map es clock) => bif v.wf st.ni st.nb && v.plain then (match byBorn n es 0 with
          | some i => match nth es i with
            | some e => k (.tup []) { st with mem := st.mem.put b (.map (setN es i (e.1, v, e.2.2)) clock) }
            | none => (.fail 134)
          | none => (.fail 135)) else (.fail 136)
      | _, _ => (.fail 137)
    | _, _, _ => (.fail 138)
def eLookup (C : Cfg) (tm : Tm) (st : St) (k : K) (t : TypeId) (x y : Operand) (ok : Bool) : T :=
  match tdOf C.ty t with
    | .map kt et => match some (tdOf C.ty kt), evO st.pc tm y, zeroV C.ty et with
      | some kd, some key, some z => bif keyKind kd key then
          (match (match evO st.pc tm x with
            | some .nilmap => some []
            | some (.map b) => match st.mem.get b with
              | some (.map es _) => some es
              | some (.mset es) => bif keysEq key es then some es else none
              | _ => none
            | _ => none) with
          | some es => lookE key st (fun st => k (bif ok then .tup [z, .bool (.c false)] else z) st) (fun v st => k (bif ok then .tup [v, .bool (.c true)] else v) st) es
          | none => (.fail 139)) else (.fail 140)
      | _, _, _ => (.fail 141)
    | _ => (.fail 142)
def eIndexAddr (C : Cfg) (tm : Tm) (st : St) (k : K) (t : TypeId) (x i : Operand) : T :=
  match tdOf C.ty t, evO st.pc tm x, evO st.pc tm i with
    | .slice _ n, some (.slice b off len _), some (.int _ a) => enumI a st (fun j st => k (.ptr b (off + j * n)) st) len 0
    | .slice _ _, some (.sl b), some (.int _ a) => match slA C.ty st.mem st.pc t (.sl b) with
      | some x => condB (.mkLt a (.n 0)) st fun c st => bif c then .fail 143 else condB (.mkLt a x.mkLen) st fun c st => bif c then
          (match idxAddr (puOf C tm st) t (.sl b) a st.bd with
          | some (v, d) => bindD st d fun st => k v st
          | none => .fail 144) else .fail 145
      | none => .fail 146
    | .arr len _ n, some (.ptr b off), some (.int _ a) => enumI a st (fun j st => k (.ptr b (off + j * n)) st) len 0
    | .arr len _ n, some (.gptr b off), some (.int _ a) => enumI a st (fun j st => k (.gptr b (off + j * n)) st) len 0
    | _, _, _ => .fail 147
def eIndex (C : Cfg) (tm : Tm) (st : St) (k : K) (t : TypeId) (x i : Operand) : T :=
  match tdOf C.ty t, evO st.pc tm x, evO st.pc tm i with
    | .arr len e n, some (.agg l), some (.int _ a) => enumI a st (fun j st => match partL C.ty e l (j * n) with
          | some v => k v st
          | none => .fail 148) len 0
    | .str, some (.str s), some (.int _ a) => condB (.mkLt a (.n 0)) st fun b st => bif b then .fail 149 else condB (.mkLt a s.mkSlen) st fun b st => bif b then k (.int .u8 (s.mkSidx a)) st else .fail 150
    | _, _, _ => .fail 151
def eBinOp (C : Cfg) (tm : Tm) (st : St) (k : K) (op : BinOp) (x y : Operand) : T :=
  match evO st.pc tm x, evO st.pc tm y with
    | some (.int kx a), some (.int ky b) => match op with
      | .quo => bif kindEq kx ky then condB (.mkEq b (.n 0)) st fun z st => bif z then (.fail 152) else bind1 st (.quo kx a b) fun r st => k (.int kx r) st else (.fail 153)
      | .rem => bif kindEq kx ky then condB (.mkEq b (.n 0)) st fun z st => bif z then (.fail 154) else bind1 st (.rem a b) fun r st => k (.int kx r) st else (.fail 155)
      | .shl => condB (.mkLt b (.n 0)) st fun z st => bif z then (.fail 156) else bind1 st (.shl kx a b) fun r st => k (.int kx r) st
      | .shr => condB (.mkLt b (.n 0)) st fun z st => bif z then (.fail 157) else bind1 st (.shr kx a b) fun r st => k (.int kx r) st
      | _ => (.fail 158)
    | some (.str a), some (.str b) => match op with
      | .add => bind1 st (.scat a b) fun r st => condB (.mkLt r.mkSlen (.n 2147483648)) st fun q st => bif q then k (.str r) st else .fail 158
      | _ => .fail 159
    | _, _ => (.fail 159)
def ePick (C : Cfg) (tm : Tm) (st : St) (k : K) (c x y : Operand) : T :=
  match evO st.pc tm c with
    | some (.bool cb) => condB cb st fun b st => bif b then (match evO st.pc tm x with
        | some v => k (v.under st.pc) st
        | none => (.fail 160)) else (match evO st.pc tm y with
        | some v => k (v.under st.pc) st
        | none => (.fail 161))
    | _ => (.fail 162)
def eSlice (C : Cfg) (tm : Tm) (st : St) (k : K) (t : TypeId) (x : Operand) (lo hi mx : Option Operand) : T :=
  let p := puOf C tm st
  match p.ev x, tdOf C.ty t with
  | some v, .slice e s => match slA C.ty st.mem st.pc t v with
    | some a => match bndA p lo (.n 0), bndA p hi a.mkLen with
      | some l, some h => condB (.mkLt l (.n 0)) st fun b st => bif b then .fail 163 else condB (.mkLt h l) st fun b st => bif b then .fail 164 else condB (.mkLt a.mkLen h) st fun b st => bif b then .fail 165 else
          (match v with
          | .sl j => match st.mem.get j with
            | some (.rowd e' s' y) => bif C.mv && noMx mx && Nat.beq e e' && Nat.beq s s' && knownIs st.pc (.mkEq l (.n 0)) true then (let r := cutA y l h st.bd
                bindD { st with mem := st.mem.put j .gone } r.2 fun st => newB st (.rowd e' s' r.1) fun b st => k (.sl b) st)
              else (match slD C.ty st.pc t e s j st.fs with
                | some (_, f) => let st := { st with mem := f.mem }
                  match sliceV (puOf C tm st) t v lo hi mx with
                  | some (u, d) => bindD st d fun st => k u st
                  | none => .fail 166
                | none => .fail 166)
            | _ => match sliceV (puOf C tm st) t v lo hi mx with
              | some (u, d) => bindD st d fun st => k u st
              | none => .fail 167
          | v => match sliceV (puOf C tm st) t v lo hi mx with
            | some (u, d) => bindD st d fun st => k u st
            | none => .fail 168)
      | _, _ => .fail 169
    | none => .fail 170
  | some (.str a), .str => match bndA p lo (.n 0), bndA p hi a.mkSlen with
    | some l, some h => condB (.mkLt l (.n 0)) st fun b st => bif b then .fail 171 else condB (.mkLt h l) st fun b st => bif b then .fail 172 else condB (.mkLt a.mkSlen h) st fun b st => bif b then .fail 173 else
        (match sliceV (puOf C tm st) t (.str a) lo hi mx with
        | some (u, d) => bindD st d fun st => k u st
        | none => .fail 174)
    | _, _ => .fail 175
  | _, _ => .fail 176
def zlen (te : TE) : Bool := match te.zero with
  | some z => Nat.beq z.length te.size
  | none => false
def elemFit (ty : Ty) (e n : Nat) : Bool := match ty.get e with
  | some te => Nat.beq te.size n && Nat.blt 0 te.size && Nat.ble te.bytes 65536 && zlen te
  | none => false
def eAppend (C : Cfg) (st : St) (k : K) (t t' : TypeId) (s x : SV) : T :=
  match tdOf C.ty t with
  | .slice e n => bif elemFit C.ty (un e) n && Nat.beq t t' then (match slA C.ty st.mem st.pc t x with
    | some ax => match s with
      | .nilsl => let r := st.bd.bind (.cat (.d .nil) ax); bindD st r.2 fun st => condB (.mkLt r.1.mkLen (.n 2147483648)) st fun b st => bif b then newB st (.rowd e n r.1) fun b st => k (.sl b) st else .fail 180
      | .sl b => match st.mem.get b with
        | some (.rowd e' n' a) => bif Nat.beq e e' && Nat.beq n n' then (let r := st.bd.bind (.cat a ax); bindD st r.2 fun st => condB (.mkLt r.1.mkLen (.n 2147483648)) st fun q st => bif q then newB { st with mem := st.mem.put b .gone } (.rowd e n r.1) fun b st => k (.sl b) st else .fail 180) else .fail 177
        | some (.val c t2 _) => (match tdOf C.ty t2 with
          | .slice _ _ => bif knownIs st.pc c true then condB (.mkEq ax.mkLen (.n 0)) st fun q st => bif q then k (.sl b) st else .fail 178 else .fail 178
          | _ => .fail 178)
        | _ => .fail 178
      | _ => .fail 179
    | none => .fail 180) else .fail 181
  | _ => .fail 181
def eCopy (C : Cfg) (st : St) (k : K) (t t' : TypeId) (s x : SV) : T :=
  match tdOf C.ty t with
  | .slice e n => bif Nat.beq n 1 && Nat.beq t t' then (match slA C.ty st.mem st.pc t x with
    | some ax => match s with
      | .sl b => match st.mem.get b with
        | some (.rowd e' n' a) => bif Nat.beq e e' && Nat.beq n n' then (let r := st.bd.bind (.cpy a ax); let q := r.2.bind (.mn a.mkLen ax.mkLen); bindD st q.2 fun st => k (.int .i64 q.1) { st with mem := st.mem.put b (.rowd e n r.1) }) else .fail 182
        | _ => .fail 183
      | _ => .fail 184
    | none => .fail 185) else .fail 185
  | _ => .fail 186
def makeFit (ty : Ty) (e n : Nat) : Bool := match ty.get e with
  | some te => Nat.beq te.size n && Nat.ble te.bytes 256 && zlen te
  | none => false
def eMakeSlice (C : Cfg) (tm : Tm) (st : St) (k : K) (t : TypeId) (x y : Operand) : T :=
  match tdOf C.ty t, evO st.pc tm x, evO st.pc tm y with
  | .slice e n, some (.int _ a), some (.int _ c) => match zeroL C.ty (un e) with
    | some z => match toD C.ty st.pc 60 e z st.fs with
      | some (za, f) => bif a.beq c && makeFit C.ty (un e) n then (match litNatA a, tdOf C.ty e with
          | some m, .slice _ _ => bif Nat.ble m 100 && Nat.beq n 1 then newB st (.cells (repeatL m z) (un e)) fun b st => k (.slice b 0 m m) st else .fail 188
          | _, _ => bindF st f fun st => condB (.mkLt a (.n 0)) st fun b st => bif b then .fail 187 else condB (.mkLt (.n 1099511627776) a) st fun b st => bif b then .fail 188 else
          bind1 st (.rep a za) fun r st => newB st (.rowd e n r) fun b st => k (.sl b) st) else .fail 189
      | none => .fail 190
    | none => .fail 191
  | _, _, _ => .fail 192
def eAppendZ (C : Cfg) (st : St) (k : K) (t t' : TypeId) (s : SV) (kx : IntKind) (xa : A) : T :=
  match tdOf C.ty t, tdOf C.ty t', s with
  | .slice e n, .int _, .nilsl => match zeroL C.ty (un e) with
    | some z => match toD C.ty st.pc 60 e z st.fs with
      | some (za, f) => bif makeFit C.ty (un e) n && Nat.blt 0 n then bindF st f fun st => condB (.mkLt (.n 0) xa) st fun b st => bif b then condB (.mkLt (.n 1099511627776) xa) st fun b st => bif b then .fail 398 else
          bind1 st (.rep xa za) fun r st => newB st (.rowd e n r) fun b st => k (.sl b) st else .fail 397 else .fail 396
      | none => .fail 395
    | none => .fail 394
  | _, _, _ => .fail 393
def eCall (C : Cfg) (tm : Tm) (st : St) (k kp : K) (callF : CallF) (c : Call) : T :=
  match c.callee with
    | .value f => match evO st.pc tm f, evOs st.pc tm c.args.toList with
      | some (.fn (.func f) first cap), some args => callF f (first ++ args ++ cap) st k kp
      | _, _ => .fail 193
    | .builtin .append => match c.argTypes.toList, evOs st.pc tm c.args.toList with
      | [t, t'], some [s, x] => (match x with
        | .int kx xa => eAppendZ C st k t t' s kx xa
        | x => eAppend C st k t t' s x)
      | _, _ => .fail 194
    | .builtin .copy => match c.argTypes.toList, evOs st.pc tm c.args.toList with
      | [t, t'], some [s, x] => eCopy C st k t t' s x
      | _, _ => .fail 195
    | .builtin .len => match evOs st.pc tm c.args.toList with
      | some [.sl b] => match st.mem.get b with
        | some (.rowd _ _ _) => .fail 2001
        | some (.val _ _ _) => .fail 2002
        | some .gone => .fail 2003
        | _ => .fail 2004
      | some [.slice _ _ _ _] => .fail 2005
      | some [.gd _ _ _] => .fail 2006
      | some _ => .fail 2007
      | none => .fail 2008
    | _ => .fail 196
def ePanic (C : Cfg) (tm : Tm) (st : St) (kp : K) (x : Operand) : T := match evO st.pc tm x with
  | some (.iface t v) => kp (.iface t v) st
  | _ => .fail 197
def eDefer (C : Cfg) (tm : Tm) (st : St) (k : K) (c : Call) : T := match c.callee with
  | .value x => match evO st.pc tm x, evOs st.pc tm c.args.toList with
    | some (.fn (.func g) fi ca), some args => k (.tup []) { st with df := (g, fi ++ args ++ ca) :: st.df }
    | _, _ => .fail 346
  | _ => .fail 347
def opNo : Op → Nat
  | .move _ => 1 | .assign _ => 2 | .pick .. => 3 | .alloc _ => 4 | .box .. => 5 | .build .. => 6 | .buildSlice .. => 7 | .insert .. => 8 | .load .. => 9 | .store .. => 10
  | .ready _ => 11 | .waits _ => 12 | .nilCheck _ => 13 | .binOp .. => 14 | .unOp .. => 15 | .convert .. => 16 | .makeInterface .. => 18 | .makeFunc .. => 19 | .makeMap .. => 20
  | .makeSlice .. => 22 | .slice .. => 23 | .fieldAddr .. => 24 | .field .. => 25 | .indexAddr .. => 26 | .index .. => 27 | .lookup .. => 28 | .mapUpdate .. => 29 | .mapEntry .. => 30
  | .entryStore .. => 31 | .range .. => 32 | .next .. => 33 | .entry _ => 34 | .typeAssert .. => 35 | .extract .. => 36 | .call _ => 37 | .defer _ => 39 | .panic _ => 40
  | _ => 50
def sxEff (C : Cfg) (callF : CallF) (o : Oper) (tm : Tm) (st : St) (k kp : K) : T :=
  match o.op with
  | .alloc t => eAlloc C tm st k t
  | .box t x => eBox C tm st k t x
  | .buildSlice t len parts => eBuildSliceG C tm st k t len parts
  | .load t x => eLoad C tm st k t x
  | .store t x y => eStoreG C tm st k t x y
  | .makeMap _ none => eMakeMap C tm st k
  | .mapUpdate t x y z | .insert t x y z => eMapUpdate C tm st k t x y z
  | .mapEntry t x y => eMapEntry C tm st k t x y
  | .entryStore _ x y z => eEntryStore C tm st k x y z
  | .lookup t x y ok => eLookup C tm st k t x y ok
  | .indexAddr t x i => eIndexAddr C tm st k t x i
  | .index t x i => eIndex C tm st k t x i
  | .binOp op _ x y _ => eBinOp C tm st k op x y
  | .pick c x y => ePick C tm st k c x y
  | .slice t x lo hi mx => eSlice C tm st k t x lo hi mx
  | .makeSlice t x y => eMakeSlice C tm st k t x y
  | .call c => eCall C tm st k kp callF c
  | .panic x => ePanic C tm st kp x
  | .defer c => eDefer C tm st k c
  | .convert src dst x => match tdOf C.ty src, tdOf C.ty dst, evO st.pc tm x with
    | .slice e n, .str, some x => match (bif Nat.beq n 1 then tdOf C.ty e else .other), slA C.ty st.mem st.pc src x with
      | .int .u8, some a => bind1 st (.ofBs a) fun r st => k (.str r) st
      | _, _ => .fail 1016
    | _, _, _ => .fail 1016
  | o => (.fail (1000 + opNo o))
def sxOp (C : Cfg) (callF : CallF) (o : Oper) (tm : Tm) (st : St) (k kp : K) : T :=
  match pureOp (puOf C tm st) o.op with
  | some (v, d) => bindD st d (k v)
  | none => sxEff C callF o tm st k kp
def guardB (dstOf : Nat → Option Tmp) (tm : Tm) (j : Nat) (want : Bool) : Option B :=
  match dstOf j with
  | none => none
  | some t => match tm.get t with
    | some (.bool b) => some (b.mkIs want)
    | some (.gd c w (.bool b)) => some ((c.mkIs w).mkAnd (b.mkIs want))
    | some (.tup []) => some (.c false)
    | _ => none
abbrev KT := Tm → St → T
def sxG (C : Cfg) (callF : CallF) (dstOf : Nat → Option Tmp) (o : Oper) (tm : Tm) (st : St) (k : KT) (kp : SV → KT) : T :=
  match o.guard with
  | none => sxOp C callF o tm st (fun v st => putT tm o.dst v st k) (fun v st => kp v tm st)
  | some (j, want) =>
    match guardB dstOf tm j want with
    | none => (.fail 172)
    | some c =>
      match c.known st.pc with
      | some true => sxOp C callF o tm st (fun v st => putT tm o.dst v st k) (fun v st => kp v tm st)
      | some false => putT tm o.dst (.tup []) st k
      | none =>
        let p : Pu := ⟨C.ty, st.mem, tm, st.ni, st.nb, c.facts true ++ st.pc, c, C.gl.dt⟩
        match pureOp p o.op with
        | some (v, d) => bindD st d fun st => putT tm o.dst (.gd c true v) st k
        | none =>
          match (match o.op with
            | .load t x => match p.ev x with
              | some a => loadV C st.mem p.pc c t a p.d
              | none => none
            | _ => none) with
          | some (v, d) => bindD st d fun st => putT tm o.dst (.gd c true v) st k
          | none => condB c st fun b st => bif b then sxOp C callF o tm st (fun v st => putT tm o.dst v st k) (fun v st => kp v tm st) else putT tm o.dst (.tup []) st k
def sxL (C : Cfg) (callF : CallF) (dstOf : Nat → Option Tmp) : List Oper → Tm → St → KT → (SV → KT) → T
  | [], tm, st, k, _ => k tm st
  | o :: r, tm, st, k, kp => sxG C callF dstOf o tm st (fun tm st => sxL C callF dstOf r tm st k kp) kp
end
end Go.SY
