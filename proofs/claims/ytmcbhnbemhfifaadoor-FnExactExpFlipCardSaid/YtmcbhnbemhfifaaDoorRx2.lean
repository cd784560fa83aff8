/- The symbolic evaluator, steps and code. Definitions only: no condition. -/
import Derived.Test.YtmcbhnbemhfifaaDoorRx1
namespace Go.Proofs.YtmcbhnbemhfifaaDoor.RX
open Go
set_option autoImplicit false
variable {G : Sig} {R : Type}

/-- What a function is known to do: what it takes, what it gives, by which plain function. 'br': what it gives holds no memory. -/
structure Ct (G : Sig) where
  br : Bool
  ip : Pat
  rp : Pat
  its : List Ty
  ots : List Ty
  F : HL G.S its → Option (HL G.S ots)

/-- A place of the code where the state is told by a pattern, and what comes from there on. -/
structure Cut (G : Sig) (R : Type) where
  pat : Pat
  ts : List Ty
  g : Nat → HL G.S ts → Option R
/-- What is around a function's code: how many temporaries, the rounds left, the functions it calls, the places told by patterns; of each region whose order is drawn, the orders that are enough. -/
structure Env (G : Sig) (R : Type) where
  N : Nat
  pre : List Nat
  k : Nat
  ct : FuncId → Option (Ct G)
  loops : List (Nat × Cut G R)
  joins : List (Nat × Cut G R)
  ords : List (Nat × List (List Nat))
  fz : List Nat

def idRen : List Nat → List (Nat × Nat)
  | [] => []
  | j :: r => (j, j) :: idRen r
def Cut.go (c : Cut G R) (pre : List Nat) (k : Nat) (L : St G) : Option R :=
  match matchP c.pat (idRen pre) (closeAll L) with
  | some m => match toHL c.ts m.out with
    | some h => c.g k h
    | none => none
  | none => none

def rdAt {α : Type} (d : α) (xs : List α) (i : Int) : α := xs.getD i.toNat d
def bt (s : ByteArray) (i : Int) : Int := ((s.data.getD i.toNat 0).toNat : Int)
def strOf (l : List Int) : ByteArray := l.foldl (fun r n => r.push (UInt8.ofNat n.toNat)) ByteArray.empty
def bytesOf (s : ByteArray) : List Int := s.data.toList.map fun b => (b.toNat : Int)
def dft (G : Sig) : (t : Ty) → G.D t
  | .int _ => (0 : Int)
  | .bool => false
  | .str => ByteArray.empty
  | .sl _ _ => []
  | .po _ => (none : Option _)
  | .st s => G.z s

def leafOf : Value → Option (Leaf G)
  | .int k n => some (.val (.int k) n)
  | .bool b => some (.kb b)
  | .string s => some (.val .str s)
  | .slice none n c => match Nat.beq n 0, Nat.beq c 0 with | true, true => some .nils | _, _ => none
  | .pointer none => some .nilp
  | .nilFunc => some .nilf
  | _ => none
def leavesOf : List Value → Option (List (Leaf G))
  | [] => some []
  | v :: vs => match leafOf v with
    | some l => match leavesOf vs with
      | some ls => some (l :: ls)
      | none => none
    | none => none
def evalO (L : St G) : Operand → Option (SV G)
  | .tmp t => match get L.tmps t with | some (.sv s) => some s | _ => none
  | .const (.agg cs) => match leavesOf cs.toList with | some ls => some (.agg ls) | none => none
  | .const v => match leafOf v with | some l => some (.one l) | none => none
  | .func f => some (.one (.fn f []))
  | .global _ => none
def SV.ls : SV G → List (Leaf G)
  | .one l => [l]
  | .agg ls => ls
def out (E : Env G R) (o : Oper) (v : DV G) (L : St G) (K : St G → Option R) : Option R :=
  match o.dst with
  | none => K L
  | some d => match Nat.blt d E.N with
    | true => match L with | ⟨tm, ob, nx⟩ => K ⟨(d, v) :: tm, ob, nx⟩
    | false => none
def know (t : Nat) (b : Bool) (L : St G) : St G :=
  match L with | ⟨tm, ob, nx⟩ => ⟨(t, .sv (.one (.kb b))) :: tm, ob, nx⟩
def knowO (c : Operand) (b : Bool) (L : St G) : St G :=
  match c with
  | .tmp t => know t b L
  | _ => L
def condK (s : SV G) (A B : Option R) : Option R :=
  match s with
  | .one (.kb b) => match b with | true => A | false => B
  | .one (.prop p d) => @ite _ p d A B
  | .one (.val .bool b) => if (show Bool from b) = true then A else B
  | _ => none
def newOb (b : Ob G) (L : St G) (K : Nat → St G → Option R) : Option R :=
  match L with | ⟨tm, ob, nx⟩ => K nx ⟨tm, (nx, b) :: ob, nx + 1⟩

def zl : LTy → Option (Leaf G)
  | .t (.int k) => some (.val (.int k) (0 : Int))
  | .t .bool => some (.kb false)
  | .t .str => some (.val .str ByteArray.empty)
  | .t (.sl _ _) => some .nils
  | .t (.st _) => none
  | .t (.po _) => none
  | .ptr => some .nilp
  | .fn => some .nilf
  | .other => none
def zls : List LTy → Option (List (Leaf G))
  | [] => some []
  | v :: vs => match zl v with
    | some l => match zls vs with
      | some ls => some (l :: ls)
      | none => none
    | none => none
def buildK (L : St G) (fl : List (Nat × Nat)) : List (Nat × Operand) → List (Leaf G) → Option (List (Leaf G))
  | [], ls => some ls
  | (i, x) :: r, ls => match nth fl i with
    | some (off, n) => match evalO L x with
      | some s => match Nat.beq (len s.ls) n with
        | true => buildK L fl r (setAt ls off s.ls)
        | false => none
      | none => none
    | none => none
def elemsK (t : Ty) : Nat → List (Nat × Operand) → St G → Option (List (G.D t) × St G)
  | _, [], L => some ([], L)
  | j, (i, x) :: r, L => match Nat.beq i j with
    | true => match evalO L x with
      | some s => match svTV t s L with
        | some (v, L') => match castTo t v with
          | some y => match elemsK t (j + 1) r L' with
            | some (ys, L'') => some (y :: ys, L'')
            | none => none
          | none => none
        | none => none
      | none => none
    | false => none
def svLs (agg : Bool) (ls : List (Leaf G)) : Option (SV G) :=
  match agg with
  | true => some (.agg ls)
  | false => match ls with | [l] => some (.one l) | _ => none
def okRange (ro : List Nat) : Nat → Nat → Bool
  | _, 0 => true
  | off, n + 1 => match hasN ro off with | true => false | false => okRange ro (off + 1) n

def cmpP (op : BinOp) (x y : Int) : Option (Leaf G) :=
  match op with
  | .eql => some (.prop (x = y) inferInstance)
  | .neq => some (.prop (¬ x = y) inferInstance)
  | .lss => some (.prop (x < y) inferInstance)
  | .leq => some (.prop (x ≤ y) inferInstance)
  | .gtr => some (.prop (y < x) inferInstance)
  | .geq => some (.prop (y ≤ x) inferInstance)
  | _ => none
def binI (op : BinOp) (k : IntKind) (a b : Int) (K : Leaf G → Option R) : Option R :=
  match op with
  | .add => K (.val (.int k) (k.wrap (a + b)))
  | .sub => K (.val (.int k) (k.wrap (a - b)))
  | .mul => K (.val (.int k) (k.wrap (a * b)))
  | .quo => if b = 0 then none else K (.val (.int k) (k.wrap (a.tdiv b)))
  | .rem => if b = 0 then none else K (.val (.int k) (a.tmod b))
  | .xor => K (.val (.int k) (k.wrap (((BitVec.ofInt k.bits a) ^^^ (BitVec.ofInt k.bits b)).toNat : Int)))
  | .and => K (.val (.int k) (k.wrap (((BitVec.ofInt k.bits a) &&& (BitVec.ofInt k.bits b)).toNat : Int)))
  | .or => K (.val (.int k) (k.wrap (((BitVec.ofInt k.bits a) ||| (BitVec.ofInt k.bits b)).toNat : Int)))
  | op => match cmpP op a b with | some l => K l | none => none
def binS (op : BinOp) (a b : ByteArray) (K : Leaf G → Option R) : Option R :=
  match op with
  | .add => if a.size + b.size ≤ 9223372036854775807 then K (.val .str (a ++ b)) else none
  | .eql => K (.prop (a.toList = b.toList) inferInstance)
  | .neq => K (.prop (¬ a.toList = b.toList) inferInstance)
  | _ => none
def bval : Leaf G → Option Bool
  | .kb b => some b
  | .prop p d => some (@decide p d)
  | .val .bool b => some b
  | _ => none
def eqK (ti : Option TI) (op : BinOp) (x y : SV G) : Option (Leaf G) :=
  match x, y with
  | .one a, .one b => match ti with
    | some ⟨_, _, _, some .bool⟩ => match bval a, bval b with
      | some p, some q => match op with
        | .eql => some (.prop (p = q) inferInstance)
        | .neq => some (.prop (¬ p = q) inferInstance)
        | _ => none
      | _, _ => none
    | some ⟨[.ptr], _, _, _⟩ => match a, b with
      | .nilp, .nilp => match op with | .eql => some (.kb true) | .neq => some (.kb false) | _ => none
      | .ptr _ _, .nilp => match op with | .eql => some (.kb false) | .neq => some (.kb true) | _ => none
      | .rptr _ _, .nilp => match op with | .eql => some (.kb false) | .neq => some (.kb true) | _ => none
      | .val (.po _) x, .nilp => match op with | .eql => some (.prop (Option.isSome x = false) inferInstance) | .neq => some (.prop (Option.isSome x = true) inferInstance) | _ => none
      | _, _ => none
    | some ⟨[.fn], _, _, _⟩ => match a, b with
      | .nilf, .nilf => match op with | .eql => some (.kb true) | .neq => some (.kb false) | _ => none
      | .fn _ _, .nilf => match op with | .eql => some (.kb false) | .neq => some (.kb true) | _ => none
      | _, _ => none
    | _ => none
  | _, _ => none
def binK (ti : Option TI) (op : BinOp) (x y : SV G) (K : Leaf G → Option R) : Option R :=
  match x, y with
  | .one (.val (.int k) a), .one (.val (.int k') b) => match Nat.beq (kn k) (kn k') with
    | true => binI op k a b K
    | false => none
  | .one (.val .str a), .one (.val .str b) => binS op a b K
  | x, y => match eqK ti op x y with
    | some l => K l
    | none => none
/-- How long a row of ours is. -/
def lenO (L : St G) (l : Leaf G) : Option Int :=
  match l with
  | .wnil => some 0
  | .aref o => match get L.objs o with
    | some (.tr _ _ xs) => some (xs.length : Int)
    | some (.fo _ _ xs _ _ _) => some (xs.length : Int)
    | _ => none
  | .wref o => match get L.objs o with
    | some (.arr _ _ xs) => some (xs.length : Int)
    | some (.frz _ _ xs) => some (xs.length : Int)
    | some (.tr _ _ xs) => some (xs.length : Int)
    | some (.fo _ _ xs _ _ _) => some (xs.length : Int)
    | _ => none
  | _ => none
def lenK (ti : Option TI) (L : St G) (s : SV G) : Option Int :=
  match ti, s with
  | some ⟨_, _, _, some .str⟩, .one (.val .str x) => some ((show ByteArray from x).size : Int)
  | some ⟨_, _, _, some (.sl _ _)⟩, .one .nils => some 0
  | some ⟨_, _, _, some (.sl _ _)⟩, .one l => match rowOf L l with
    | some ⟨_, _, xs⟩ => some (xs.length : Int)
    | none => lenO L l
  | _, _ => none
/-- What is appended: a row, or nothing. -/
def itemsK (L : St G) (e : TypeId) (t : Ty) (s : SV G) : Option (List (G.D t)) :=
  match s with
  | .one .nils => some []
  | .one l => match rowOf L l with
    | some ⟨e', t', xs⟩ => match castTo (.sl e t) ⟨.sl e' t', xs⟩ with
      | some y => some y
      | none => none
    | none => none
  | _ => none
/-- A row that may be appended to; what is to be known of it behind that. -/
def growK (L : St G) (e : TypeId) (t : Ty) (s : SV G) : Option (List (G.D t) × St G) :=
  match s with
  | .one .nils => some ([], L)
  | .one (.aref o) => match L with
    | ⟨tm, ob, nx⟩ => match get ob o with
      | some (.arr e' t' xs) => match castTo (.sl e t) ⟨.sl e' t', xs⟩ with
        | some y => some (y, ⟨tm, (o, .dead) :: ob, nx⟩)
        | none => none
      | _ => none
  | _ => none
def intOf : Option (SV G) → Option Int
  | some (.one (.val (.int _) n)) => some n
  | _ => none
def capK (L : St G) : List Operand → Option (List Nat)
  | [] => some []
  | x :: r => match evalO L x with
    | some (.one (.ptr i 0)) => match capK L r with
      | some l => some (i :: l)
      | none => none
    | _ => none
def loK (L : St G) (lo : Option Operand) : Option Int :=
  match lo with
  | none => some 0
  | some a => intOf (evalO L a)
def hiK (L : St G) (n : Int) (hi : Option Operand) : Option Int :=
  match hi with
  | none => some n
  | some a => intOf (evalO L a)
def argsK (L : St G) : Nat → List Operand → Option (List (Nat × DV G))
  | _, [] => some []
  | j, x :: r => match evalO L x with
    | some s => match argsK L (j + 1) r with
      | some l => some ((j, .sv s) :: l)
      | none => none
    | none => none
def capsK : Nat → List Nat → List (Nat × DV G)
  | _, [] => []
  | j, o :: r => (j, .sv (.one (.ptr o 0))) :: capsK (j + 1) r

/-- A call's results put into the caller's state. -/
def mrg (f : Nat → Nat) : List PLeaf → List (Leaf G) → List (TV G) → List (Leaf G) × List (TV G)
  | [], ls, vs => (ls, vs)
  | _, [], vs => ([], vs)
  | .any :: ps, l :: ls, vs => match mrg f ps ls vs with | (r, vs') => (l :: r, vs')
  | p :: ps, _ :: ls, vs => match iLeaf f p vs with
    | (x, vs') => match mrg f ps ls vs' with | (r, vs'') => (x :: r, vs'')
/-- What a contract says of the objects that it takes: it gives them back, of the same kind; a cell that it tells nothing of it may not write. -/
def okAny (ro : List Nat) : Nat → List PLeaf → Bool
  | _, [] => true
  | i, .any :: r => match hasN ro i with | true => okAny ro (i + 1) r | false => false
  | i, _ :: r => okAny ro (i + 1) r
def okIO : List POb → List POb → Bool
  | [], _ => true
  | .cells ro pl :: ps, .cells _ pl' :: qs => match Nat.beq (len pl) (len pl'), okAny ro 0 pl' with | true, true => okIO ps qs | _, _ => false
  | .arr _ _ :: ps, .arr _ _ :: qs => okIO ps qs
  | .ow true a e _ :: ps, .ow true b e' _ :: qs => match a, b, Nat.beq e e' with
    | true, true, true => okIO ps qs
    | false, false, true => okIO ps qs
    | _, _, _ => false
  | _, _ => false
def scalT : Ty → Bool
  | .int _ => true
  | .bool => true
  | .str => true
  | _ => false
def scalTs : List Ty → Bool
  | [] => true
  | t :: r => match scalT t with | true => scalTs r | false => false
def noArr : List POb → Bool
  | [] => true
  | .cells _ _ :: r => noArr r
  | .arr _ _ :: _ => false
  | .ow _ _ _ _ :: _ => false
/-- What comes back of a call is rows of our own, and values that hold no memory; the types told are of the values met, one by one. -/
def brL (ts : List Ty) (p : PLeaf) : Option (List Ty) :=
  match p with
  | .val _ => match ts with
    | t :: r => match scalT t with | true => some r | false => none
    | [] => some []
  | _ => some ts
def brLs (ts : List Ty) : List PLeaf → Option (List Ty)
  | [] => some ts
  | p :: ps => match brL ts p with
    | some ts' => brLs ts' ps
    | none => none
def brS (ts : List Ty) (p : PSV) : Option (List Ty) :=
  match p with
  | .one p => brL ts p
  | .agg ps => brLs ts ps
  | .st _ => none
def brTm (ts : List Ty) : List (Nat × PSV) → Option (List Ty)
  | [] => some ts
  | (_, p) :: ps => match brS ts p with
    | some ts' => brTm ts' ps
    | none => none
def brO (G : Sig) (ts : List Ty) : List POb → Option (List Ty)
  | [] => some ts
  | .cells _ pl :: ps => match brLs ts pl with
    | some ts' => brO G ts' ps
    | none => none
  | .ow _ true _ _ :: ps => match ts with
    | .sl _ _ :: r => brO G r ps
    | _ => none
  | _ :: ps => match ts with
    | .sl _ t :: r => match flatN G 99 [t] with | true => brO G r ps | false => none
    | _ => none
def brAll (G : Sig) (ts : List Ty) (p : Pat) : Bool :=
  match brTm ts p.tmps with
  | some ts' => match brO G ts' p.objs with | some _ => true | none => false
  | none => false
def keysOK : Nat → List (Nat × PSV) → Bool
  | _, [] => true
  | j, (k, _) :: r => match Nat.beq k j with | true => keysOK (j + 1) r | false => false
def isArr : POb → Bool
  | .arr _ _ => true
  | _ => false
/-- Which object a contract's object is, behind the call. -/
def resF (ip : List POb) (ren : List (Nat × Nat)) (nx : Nat) (j : Nat) : Nat :=
  match nth ip j with
  | some (.cells _ _) => match get ren j with | some o => o | none => nx + j
  | some (.ow true _ _ _) => match get ren j with | some o => o | none => nx + j
  | _ => nx + j
def resObs (f : Nat → Nat) : Nat → List POb → List (TV G) → List (Nat × Ob G) → List (Nat × Ob G)
  | _, [], _, ob => ob
  | j, .cells ro pl :: ps, vs, ob => match get ob (f j) with
    | some (.cells ro' ls) => match mrg f pl ls vs with
      | (ls', vs') => resObs f (j + 1) ps vs' ((f j, .cells ro' ls') :: ob)
    | _ => match iLeaves f pl vs with
      | (ls', vs') => resObs f (j + 1) ps vs' ((f j, .cells ro ls') :: ob)
  | j, .arr e t :: ps, vs, ob => match vs with
    | ⟨.sl _ t', x⟩ :: vs' => resObs f (j + 1) ps vs' ((f j, .arr e t' x) :: ob)
    | _ => resObs f (j + 1) ps [] ((f j, .arr e t []) :: ob)
  | j, .ow _ false e t :: ps, vs, ob => match vs with
    | ⟨.sl _ t', x⟩ :: vs' => resObs f (j + 1) ps vs' ((f j, .arr e t' x) :: ob)
    | _ => resObs f (j + 1) ps [] ((f j, .arr e t []) :: ob)
  | j, .ow _ true e t :: ps, vs, ob => match vs with
    | ⟨.sl _ t', x⟩ :: vs' => resObs f (j + 1) ps vs' ((f j, .tr e t' x) :: ob)
    | _ => resObs f (j + 1) ps [] ((f j, .tr e t []) :: ob)
def killArr (ren : List (Nat × Nat)) : Nat → List POb → List (Nat × Ob G) → List (Nat × Ob G)
  | _, [], ob => ob
  | j, .arr _ _ :: ps, ob => match get ren j with
    | some o => killArr ren (j + 1) ps ((o, .dead) :: ob)
    | none => killArr ren (j + 1) ps ob
  | j, .ow _ _ _ _ :: ps, ob => match get ren j with
    | some o => killArr ren (j + 1) ps ((o, .dead) :: ob)
    | none => killArr ren (j + 1) ps ob
  | j, _ :: ps, ob => killArr ren (j + 1) ps ob
def dvAll : List (Nat × DV G) → Option (List (SV G))
  | [] => some []
  | (_, .sv s) :: r => match dvAll r with | some l => some (s :: l) | none => none
  | _ :: _ => none
def dvOf (l : Option (List (SV G))) : DV G :=
  match l with
  | some [s] => .sv s
  | some l => .tup l
  | none => .junk
def afterK (E : Env G R) (o : Oper) (c : Ct G) (ren : List (Nat × Nat)) (r : HL G.S c.ots) (tm : List (Nat × DV G)) (ob : List (Nat × Ob G)) (nx : Nat) (K : St G → Option R) : Option R :=
  match iTmps (resF c.ip.objs ren nx) c.rp.tmps (ofHL c.ots r) with
  | (ds, vs') => out E o (dvOf (dvAll ds)) ⟨tm, resObs (resF c.ip.objs ren nx) 0 c.rp.objs vs' ob, nx + len c.rp.objs⟩ K
def callK (E : Env G R) (o : Oper) (c : Ct G) (args : List (Nat × DV G)) (L : St G) (K : St G → Option R) : Option R :=
  match L with
  | ⟨tm, ob, nx⟩ => match Nat.beq (len args) (len c.ip.tmps), matchP c.ip [] ⟨args, ob, nx⟩ with
    | true, some ⟨⟨_, ob1, nx1⟩, ren, vs⟩ => match toHL c.its vs with
      | some h => (c.F h).bind fun r => match c.br with
        | true => match Nat.beq nx nx1 with
          | true => afterK E o c ren r tm ob nx K
          | false => none
        | false => afterK E o c ren r tm (killArr ren 0 c.ip.objs ob1) nx1 K
      | none => none
    | _, _ => none

/-- A variable's place, as it is handed on where it is to be written no more. -/
def fzK (d : DV G) (L : St G) : DV G × St G :=
  match d with
  | .sv (.one (.aptr o 0 z 0)) => match get L.objs o with
    | some (.arr _ t xs) => match Nat.beq (len xs) 1, Nat.beq z (G.csz t) with
      | true, true => (.sv (.one (.rptr t (rdAt (dft G t) xs 0))), freeze L o)
      | _, _ => (d, L)
    | _ => (d, L)
  | _ => (d, L)
def fzD (fz : List Nat) (dst : Option Nat) : Bool :=
  match dst with
  | some u => hasN fz u
  | none => false
/-- A load out of an element of a row that owns what it leads to: a row of the element is taken out of it. -/
def loadT (E : Env G R) (o : Oper) (ti : TI) (L : St G) (i n z off : Nat) (e : TypeId) (t : Ty) (xs : List (G.D t)) (K : St G → Option R) : Option R :=
  match Nat.beq z (G.csz t), svOf (⟨t, xs.getD n (dft G t)⟩ : TV G), ti.agg with
  | true, some (.agg els), false => match nth els off with
    | some (.val (.sl e' t') ys) => match L with
      | ⟨tm, ob, nx⟩ => match flatN G 99 [t'] with
        | true => out E o (.sv (.one (.wref nx))) ⟨tm, (i, .fo e t xs n off nx) :: (nx, .arr e' t' ys) :: ob, nx + 1⟩ K
        | false => out E o (.sv (.one (.wref nx))) ⟨tm, (i, .fo e t xs n off nx) :: (nx, .tr e' t' ys) :: ob, nx + 1⟩ K
    | some (.val t' x) => match scalT t' with
      | true => out E o (.sv (.one (.val t' x))) L K
      | false => none
    | _ => none
  | _, _, _ => none
/-- A store into an element of a row that owns what it leads to. -/
def storeT (E : Env G R) (o : Oper) (s : SV G) (L : St G) (i n z off : Nat) (e : TypeId) (t : Ty) (xs : List (G.D t)) (K : St G → Option R) : Option R :=
  match Nat.beq z (G.csz t), svOf (⟨t, xs.getD n (dft G t)⟩ : TV G), absLs s.ls L with
  | true, some (.agg els), some (ls', L1, gs) => match Nat.ble (off + len ls') (len els) with
    | true => match svTV t (.agg (setAt els off ls')) L1 with
      | some (y, _) => match castTo t y, L1 with
        | some y, ⟨tm, ob, nx⟩ => match get ob i with
          | some (.tr _ _ _) => gdK gs (out E o .und ⟨tm, (i, .tr e t (xs.set n y)) :: ob, nx⟩ K)
          | _ => none
        | _, _ => none
      | none => none
    | false => none
  | _, _, _ => none
/-- A row of one element or none, that owns what it leads to. -/
def buildT (E : Env G R) (o : Oper) (e : TypeId) (t : Ty) (n : Nat) (ps : List (Nat × Operand)) (L : St G) (K : St G → Option R) : Option R :=
  match ps with
  | [] => match Nat.beq n 0 with
    | true => newOb (.tr e t []) L fun i L' => out E o (.sv (.one (.aref i))) L' K
    | false => none
  | [(j, x)] => match Nat.beq j 0, Nat.beq n 1, Nat.ble (G.csz t) 16777216, evalO L x with
    | true, true, true, some (.agg ls) => match absLs ls L with
      | some (ls', L1, gs) => match svTV t (.agg ls') L1 with
        | some (v, _) => match castTo t v with
          | some y => gdK gs (newOb (.tr e t [y]) L1 fun i L' => out E o (.sv (.one (.aref i))) L' K)
          | none => none
        | none => none
      | none => none
    | _, _, _, _ => none
  | _ => none
/-- A row that owns what it leads to, taken out of the state. -/
def takeT (L : St G) (e : TypeId) (t : Ty) (s : SV G) : Option (List (G.D t) × St G) :=
  match s with
  | .one .nils => some ([], L)
  | .one (.aref o) => match L with
    | ⟨tm, ob, nx⟩ => match get ob o with
      | some (.tr e' t' xs) => match castTo (.sl e t) ⟨.sl e' t', xs⟩ with
        | some y => some (y, ⟨tm, (o, .dead) :: ob, nx⟩)
        | none => none
      | _ => none
  | _ => none
def appendT (E : Env G R) (o : Oper) (e : TypeId) (t : Ty) (s i : SV G) (L : St G) (K : St G → Option R) : Option R :=
  match takeT L e t s with
  | some (xs, L1) => match takeT L1 e t i with
    | some (ys, L2) => if xs.length + ys.length ≤ G.cap e then newOb (.tr e t (xs ++ ys)) L2 fun n L3 => out E o (.sv (.one (.aref n))) L3 K else none
    | none => none
  | none => none
/-- Cells that lead to no memory. -/
def ownLsB : List (Leaf G) → Bool
  | [] => true
  | .val (.int _) _ :: r => ownLsB r
  | .val .bool _ :: r => ownLsB r
  | .val .str _ :: r => ownLsB r
  | .kb _ :: r => ownLsB r
  | .nils :: r => ownLsB r
  | _ :: _ => false
def semOp (E : Env G R) (o : Oper) (L : St G) (K : St G → Option R) : Option R :=
  match o.op with
  | .move x | .assign x => match x with
    | .tmp t => match get L.tmps t with
      | some d => match fzD E.fz o.dst with
        | true => match fzK d L with
          | (d', L') => out E o d' L' K
        | false => out E o d L K
      | none => none
    | x => match evalO L x with
      | some s => out E o (.sv s) L K
      | none => none
  | .pick c a b => match evalO L c with
    | some s => condK s
        (match evalO (knowO c true L) a with | some v => out E o (.sv v) (knowO c true L) K | none => none)
        (match evalO (knowO c false L) b with | some v => out E o (.sv v) (knowO c false L) K | none => none)
    | none => none
  | .box _ x => match evalO L x with
    | some s => newOb (.cells [] s.ls) L fun i L' => out E o (.sv (.one (.ptr i 0))) L' K
    | none => none
  | .alloc T => match G.tab T with
    | some ti => match zls ti.leaves with
      | some ls => match fzD E.fz o.dst with
        | true => match ti.ty, svLs ti.agg ls with
          | some t, some s => match svTV t s L with
            | some (v, L') => match castTo t v with
              | some x => newOb (.arr T t [x]) L' fun i L'' => out E o (.sv (.one (.aptr i 0 (G.csz t) 0))) L'' K
              | none => none
            | none => none
          | _, _ => none
        | false => newOb (.cells [] ls) L fun i L' => out E o (.sv (.one (.ptr i 0))) L' K
      | none => none
    | none => none
  | .build T ps => match G.tab T with
    | some ti => match ti.agg with
      | true => match zls ti.leaves with
        | some ls => match buildK L ti.flds ps.toList ls with
          | some ls' => out E o (.sv (.agg ls')) L K
          | none => none
        | none => none
      | false => none
    | none => none
  | .buildSlice T n ps => match G.tab T with
    | some ⟨_, _, _, some (.sl e t)⟩ => match fzD E.fz o.dst with
     | true => buildT E o e t n ps.toList L K
     | false => match elemsK t 0 ps.toList L with
      | some (xs, L') => match Nat.beq (len xs) n with
        | true => match Nat.ble (n * G.csz t) 16777216 with
          | true => newOb (.arr e t xs) L' fun i L'' => out E o (.sv (.one (.aref i))) L'' K
          | false => none
        | false => none
      | none => none
    | _ => none
  | .load T x => match G.tab T with
    | some ti => match evalO L x with
      | some (.one (.ptr i off)) => match get L.objs i with
        | some (.cells _ ls) => match Nat.ble (off + len ti.leaves) (len ls) with
          | true => match svLs ti.agg ((ls.drop off).take (len ti.leaves)) with
            | some s => out E o (.sv s) L K
            | none => none
          | false => none
        | _ => none
      | some (.one (.rptr t v)) => match ti.ty with
        | some t' => match Ty.beq t' t with
          | true => match svOf ⟨t, v⟩ with
            | some s => out E o (.sv s) L K
            | none => none
          | false => none
        | none => none
      | some (.one (.aptr i n z off)) => match get L.objs i with
        | some (.arr _ t xs) => match Nat.beq z (G.csz t), svOf (⟨t, xs.getD n (dft G t)⟩ : TV G) with
          | true, some e => match Nat.ble (off + len ti.leaves) (len e.ls) with
            | true => match svLs ti.agg ((e.ls.drop off).take (len ti.leaves)) with
              | some s => out E o (.sv s) L K
              | none => none
            | false => none
          | _, _ => none
        | some (.tr e t xs) => loadT E o ti L i n z off e t xs K
        | some (.fo _ _ _ _ _ _) => match get (closeT L i).objs i with
          | some (.tr e t xs) => loadT E o ti (closeT L i) i n z off e t xs K
          | _ => none
        | _ => none
      | _ => none
    | none => none
  | .store T x v => match G.tab T with
    | some ti => match evalO L v with
      | some s => match Nat.beq (len s.ls) (len ti.leaves) with
        | true => match evalO L x with
          | some (.one (.ptr i off)) => match L with
            | ⟨tm, ob, nx⟩ => match get ob i with
              | some (.cells ro ls) => match Nat.ble (off + len ti.leaves) (len ls), okRange ro off (len ti.leaves) with
                | true, true => out E o .und ⟨tm, (i, .cells ro (setAt ls off s.ls)) :: ob, nx⟩ K
                | _, _ => none
              | _ => none
          | some (.one (.aptr i n z off)) => match get L.objs i with
            | some (.arr e t xs) => match Nat.beq z (G.csz t), svOf (⟨t, xs.getD n (dft G t)⟩ : TV G) with
              | true, some el => match Nat.ble (off + len ti.leaves) (len el.ls) with
                | true => match svTV t (match el with | .one _ => s | .agg ls => .agg (setAt ls off s.ls)) L with
                  | some (y, ⟨tm, ob, nx⟩) => match castTo t y with
                    | some y => match get ob i with
                      | some (.arr _ _ _) => out E o .und ⟨tm, (i, .arr e t (xs.set n y)) :: ob, nx⟩ K
                      | _ => none
                    | none => none
                  | none => none
                | false => none
              | _, _ => none
            | some (.tr e t xs) => storeT E o s L i n z off e t xs K
            | some (.fo _ _ _ _ _ _) => match get (closeT L i).objs i with
              | some (.tr e t xs) => storeT E o s (closeT L i) i n z off e t xs K
              | _ => none
            | _ => none
          | _ => none
        | false => none
      | none => none
    | none => none
  | .nilCheck x => match evalO L x with
    | some (.one (.ptr a b)) => out E o (.sv (.one (.ptr a b))) L K
    | some (.one (.rptr a b)) => out E o (.sv (.one (.rptr a b))) L K
    | some (.one (.aptr a b c d)) => out E o (.sv (.one (.aptr a b c d))) L K
    | some (.one (.fn a b)) => out E o (.sv (.one (.fn a b))) L K
    | some (.one (.val (.po t) x)) => (show Option (G.D t) from x).bind fun y => out E o (.sv (.one (.rptr t y))) L K
    | _ => none
  | .binOp op T x y _ => match evalO L x, evalO L y with
    | some a, some b => binK (G.tab T) op a b fun l => out E o (.sv (.one l)) L K
    | _, _ => none
  | .unOp .not _ x => match evalO L x with
    | some (.one (.kb b)) => out E o (.sv (.one (.kb (match b with | true => false | false => true)))) L K
    | some (.one (.prop p d)) => out E o (.sv (.one (.prop (¬ p) (@instDecidableNot p d)))) L K
    | some (.one (.val .bool b)) => out E o (.sv (.one (.prop (¬ (show Bool from b) = true) inferInstance))) L K
    | _ => none
  | .unOp .neg _ x => match evalO L x with
    | some (.one (.val (.int k) a)) => out E o (.sv (.one (.val (.int k) (k.wrap (0 - (show Int from a)))))) L K
    | _ => none
  | .convert src dst x => match evalO L x with
    | some (.one (.val (.int _) a)) => match G.tab src, G.tab dst with
      | some ⟨_, _, _, some (.int _)⟩, some ⟨_, _, _, some (.int k)⟩ => out E o (.sv (.one (.val (.int k) (k.wrap (show Int from a))))) L K
      | _, _ => none
    | some (.one (.val .str a)) => match G.tab src, G.tab dst with
      | some ⟨_, _, _, some .str⟩, some ⟨_, _, _, some .str⟩ => out E o (.sv (.one (.val .str a))) L K
      | some ⟨_, _, _, some .str⟩, some ⟨_, _, _, some (.sl e (.int .u8))⟩ => match G.tab e with
        | some ⟨_, _, _, some (.int .u8)⟩ => out E o (.sv (.one (.val (.sl e (.int .u8)) (bytesOf a)))) L K
        | _ => none
      | _, _ => none
    | some (.one l) => match G.tab src, G.tab dst with
      | some ⟨_, _, _, some (.sl e (.int .u8))⟩, some ⟨_, _, _, some .str⟩ => match G.tab e with
        | some ⟨_, _, _, some (.int .u8)⟩ => match rowOf L l with
          | some ⟨e', t', xs⟩ => match castTo (.sl e (.int .u8)) ⟨.sl e' t', xs⟩ with
            | some ys => out E o (.sv (.one (.val .str (strOf ys)))) L K
            | none => none
          | none => none
        | _ => none
      | _, _ => none
    | _ => none
  | .makeSlice T l c => match intOf (evalO L l), intOf (evalO L c) with
    | some n, some m => match G.tab T with
      | some ⟨_, _, _, some (.sl e t)⟩ => match G.tab e with
        | some te => match zls te.leaves with
          | some ls => match svLs te.agg ls with
            | some s => match svTV t s L with
              | some (v, L') => match castTo t v with
                | some x => if n = m then if 0 ≤ n then if n ≤ (G.cap e : Int) then (match fzD E.fz o.dst, ownLsB ls with | true, true => newOb (.tr e t (List.replicate n.toNat x)) L' fun i L'' => out E o (.sv (.one (.aref i))) L'' K | true, false => none | false, _ => newOb (.arr e t (List.replicate n.toNat x)) L' fun i L'' => out E o (.sv (.one (.aref i))) L'' K) else none else none else none
                | none => none
              | none => none
            | none => none
          | none => none
        | none => none
      | _ => none
    | _, _ => none
  | .makeFunc (.func f) fst caps => match fst.toList with
    | [] => match capK L caps.toList with
      | some is => out E o (.sv (.one (.fn f is))) L K
      | none => none
    | _ :: _ => none
  | .slice T x lo hi mx => match G.tab T, evalO L x with
    | some ⟨_, _, _, some .str⟩, some (.one (.val .str s)) => match mx with
      | some _ => none
      | none => match loK L lo, hiK L ((show ByteArray from s).size : Int) hi with
        | some l, some h => if 0 ≤ l then if l ≤ h then if h ≤ ((show ByteArray from s).size : Int) then out E o (.sv (.one (.val .str ((show ByteArray from s).extract l.toNat h.toNat)))) L K else none else none else none
        | _, _ => none
    | some ⟨_, _, _, some (.sl e t)⟩, some (.one lf) => match toTV (.sl e t) lf L with
      | some (v, L') => match castTo (.sl e t) v with
        | some xs => match loK L lo, hiK L ((show List (G.D t) from xs).length : Int) hi with
          | some l, some h => match mx with
            | none => if 0 ≤ l then if l ≤ h then if h ≤ ((show List (G.D t) from xs).length : Int) then out E o (.sv (.one (.val (.sl e t) (((show List (G.D t) from xs).take h.toNat).drop l.toNat)))) L' K else none else none else none
            | some m => match hi with
              | none => none
              | some _ => match intOf (evalO L m) with
                | some m => if 0 ≤ l then if l ≤ h then if h ≤ ((show List (G.D t) from xs).length : Int) then if m = h then out E o (.sv (.one (.full e t (((show List (G.D t) from xs).take h.toNat).drop l.toNat)))) L' K else none else none else none else none
                | none => none
          | _, _ => none
        | none => none
      | none => none
    | _, _ => none
  | .fieldAddr T x f => match G.tab T with
    | some ti => match nth ti.flds f with
      | some (d, n) => match n with
        | 0 => none
        | _ + 1 => match evalO L x with
          | some (.one (.ptr i off)) => out E o (.sv (.one (.ptr i (off + d)))) L K
          | some (.one (.aptr i n z off)) => out E o (.sv (.one (.aptr i n z (off + d)))) L K
          | some (.one (.rptr (.st s) v)) => match ti.ty with
            | some (.st s') => match Nat.beq s s' with
              | true => match nth (cut1 (G.fs s) (G.op s v)) f with
                | some w => out E o (.sv (.one (.rptr w.t w.x))) L K
                | none => none
              | false => none
            | _ => none
          | _ => none
      | none => none
    | none => none
  | .field T x f => match G.tab T with
    | some ti => match nth ti.flds f with
      | some (d, n) => match evalO L x with
        | some (.agg ls) => match Nat.ble (d + n) (len ls), Nat.beq n 1 with
          | true, true => match (ls.drop d).take n with
            | [l] => out E o (.sv (.one l)) L K
            | _ => none
          | _, _ => none
        | _ => none
      | none => none
    | none => none
  | .indexAddr T x i => match intOf (evalO L i) with
    | some n => match G.tab T with
      | some ⟨_, _, _, some (.sl e t)⟩ => match evalO L x with
        | some (.one (.aref o')) => match get L.objs o' with
          | some (.arr e' t' xs) => match Ty.beq (.sl e t) (.sl e' t') with
            | true => if 0 ≤ n then if n < (xs.length : Int) then out E o (.sv (.one (.aptr o' n.toNat (G.csz t') 0))) L K else none else none
            | false => none
          | some (.tr e' t' xs) => match Ty.beq (.sl e t) (.sl e' t') with
            | true => if 0 ≤ n then if n < (xs.length : Int) then out E o (.sv (.one (.aptr o' n.toNat (G.csz t') 0))) L K else none else none
            | false => none
          | some (.fo e' t' xs _ _ _) => match Ty.beq (.sl e t) (.sl e' t') with
            | true => if 0 ≤ n then if n < (xs.length : Int) then out E o (.sv (.one (.aptr o' n.toNat (G.csz t') 0))) L K else none else none
            | false => none
          | some (.frz e' t' xs) => match Ty.beq (.sl e t) (.sl e' t') with
            | true => if 0 ≤ n then if n < (xs.length : Int) then out E o (.sv (.one (.rptr t' (rdAt (dft G t') xs n)))) L K else none else none
            | false => none
          | _ => none
        | some (.one (.wref o')) => match get L.objs o' with
          | some (.arr e' t' xs) => match Ty.beq (.sl e t) (.sl e' t') with
            | true => if 0 ≤ n then if n < (xs.length : Int) then out E o (.sv (.one (.aptr o' n.toNat (G.csz t') 0))) L K else none else none
            | false => none
          | some (.tr e' t' xs) => match Ty.beq (.sl e t) (.sl e' t') with
            | true => if 0 ≤ n then if n < (xs.length : Int) then out E o (.sv (.one (.aptr o' n.toNat (G.csz t') 0))) L K else none else none
            | false => none
          | some (.fo e' t' xs _ _ _) => match Ty.beq (.sl e t) (.sl e' t') with
            | true => if 0 ≤ n then if n < (xs.length : Int) then out E o (.sv (.one (.aptr o' n.toNat (G.csz t') 0))) L K else none else none
            | false => none
          | some (.frz e' t' xs) => match Ty.beq (.sl e t) (.sl e' t') with
            | true => if 0 ≤ n then if n < (xs.length : Int) then out E o (.sv (.one (.rptr t' (rdAt (dft G t') xs n)))) L K else none else none
            | false => none
          | _ => none
        | some (.one l) => match rowOf L l with
          | some ⟨e', t', xs⟩ => match Ty.beq (.sl e t) (.sl e' t') with
            | true => if 0 ≤ n then if n < (xs.length : Int) then out E o (.sv (.one (.rptr t' (rdAt (dft G t') xs n)))) L K else none else none
            | false => none
          | none => none
        | _ => none
      | _ => none
    | none => none
  | .index T x i => match intOf (evalO L i) with
    | some n => match G.tab T, evalO L x with
      | some ⟨_, _, _, some .str⟩, some (.one (.val .str s)) => if 0 ≤ n then if n < ((show ByteArray from s).size : Int) then out E o (.sv (.one (.val (.int .u8) (bt s n)))) L K else none else none
      | _, _ => none
    | none => none
  | .extract x i => match x with
    | .tmp t => match get L.tmps t with
      | some (.tup l) => match nth l i with
        | some s => out E o (.sv s) L K
        | none => none
      | _ => none
    | _ => none
  | .call c => match c.callee with
    | .builtin .len => match c.args.toList, c.argTypes.toList with
      | [x], [T] => match evalO L x with
        | some s => match lenK (G.tab T) L s with
          | some n => out E o (.sv (.one (.val (.int .i64) n))) L K
          | none => none
        | none => none
      | _, _ => none
    | .builtin .append => match c.args.toList, c.argTypes.toList with
      | [x, y], [T, T'] => match Nat.beq T T' with
        | true => match G.tab T with
          | some ⟨_, _, _, some (.sl e t)⟩ => match fzD E.fz o.dst with
           | true => match evalO L x, evalO L y with
            | some s, some i => appendT E o e t s i L K
            | _, _ => none
           | false => match evalO L x, evalO L y with
            | some s, some i => match itemsK L e t i, growK L e t s with
              | some ys, some (xs, L') => if xs.length + ys.length ≤ G.cap e then newOb (.arr e t (xs ++ ys)) L' fun n L'' => out E o (.sv (.one (.aref n))) L'' K else none
              | _, _ => none
            | _, _ => none
          | _ => none
        | false => none
      | _, _ => none
    | .value (.func f) => match E.ct f with
      | some ct => match argsK L 0 c.args.toList with
        | some l => callK E o ct l L K
        | none => none
      | none => none
    | .value (.tmp t) => match get L.tmps t with
      | some (.sv (.one (.fn f caps))) => match E.ct f with
        | some ct => match argsK L 0 c.args.toList with
          | some l => callK E o ct (l ++ capsK (len l) caps) L K
          | none => none
        | none => none
      | _ => none
    | _ => none
  | _ => none

/-- Of an operation: 2: it looks at no memory; 1: it leaves the world alone; 0: all else. -/
def kd (G : Sig) : Op → Nat
  | .move _ => 2
  | .assign _ => 2
  | .fieldAddr _ _ _ => 2
  | .slice _ _ _ _ _ => 2
  | .pick _ _ _ => 2
  | .load _ _ => 1
  | .nilCheck _ => 2
  | .binOp _ _ _ _ _ => 2
  | .unOp _ _ _ => 2
  | .convert src _ _ => match G.tab src with | some ⟨_, _, _, some (.int _)⟩ => 2 | _ => 0
  | .field _ _ _ => 2
  | .indexAddr _ _ _ => 2
  | .index _ _ _ => 2
  | .extract _ _ => 2
  | .build _ _ => 2
  | .call c => match c.callee with | .builtin .len => 2 | _ => 0
  | _ => 0
def semG (E : Env G R) (all : List Oper) (o : Oper) (L : St G) (K : St G → Option R) : Option R :=
  match o.guard with
  | none => semOp E o L K
  | some (j, want) => match nth all j with
    | some oj => match oj.dst with
      | some t => match get L.tmps t with
        | some (.sv s) => condK s
            (match want with | true => semOp E o (know t true L) K | false => out E o .und (know t true L) K)
            (match want with | false => semOp E o (know t false L) K | true => out E o .und (know t false L) K)
        | some .und => out E o .und L K
        | _ => none
      | none => none
    | none => none
def semOps (E : Env G R) (all : List Oper) : List Oper → St G → (St G → Option R) → Option R
  | [], L, K => K L
  | o :: r, L, K => semG E all o L fun L' => semOps E all r L' K
/-- The operations in an order. -/
def semS (E : Env G R) (all : List Oper) : List Nat → St G → (St G → Option R) → Option R
  | [], L, K => K L
  | i :: p, L, K => match nth all i with
    | some o => semG E all o L fun L' => semS E all p L' K
    | none => none

inductive Ex where
  | nrm
  | exit (id : Nat)
  | ret
def rid : Code → Option Nat
  | .region id _ _ => some id
  | .seq a b => match rid a with | some i => some i | none => rid b
  | .loop a => rid a
  | .block _ a => rid a
  | .cond _ a b => match rid a with | some i => some i | none => rid b
  | _ => none
def look {α : Type} (l : List (Nat × α)) : Option Nat → Option α
  | some i => get l i
  | none => none
def goLoop (E : Env G R) (a : Code) (L : St G) : Option R :=
  match look E.loops (rid a) with
  | some c => c.go E.pre E.k L
  | none => none
def seqK (E : Env G R) (b : Code) (semB : St G → Option R) (K : Ex → St G → Option R) (e : Ex) (L : St G) : Option R :=
  match e with
  | .nrm => match look E.joins (rid b) with
    | some c => c.go E.pre E.k L
    | none => semB L
  | .exit i => K (.exit i) L
  | .ret => K .ret L
def blockK (id : Nat) (K : Ex → St G → Option R) (e : Ex) (L : St G) : Option R :=
  match e with
  | .nrm => K .nrm L
  | .exit i => match Nat.beq i id with | true => K .nrm L | false => K (.exit i) L
  | .ret => K .ret L
def loopK (E : Env G R) (a : Code) (K : Ex → St G → Option R) (e : Ex) (L : St G) : Option R :=
  match e with
  | .nrm => goLoop E a L
  | .exit i => K (.exit i) L
  | .ret => K .ret L
def semC (E : Env G R) : Code → St G → (Ex → St G → Option R) → Option R
  | .skip, L, K => K .nrm L
  | .region _ ops false, L, K => semOps E ops.toList ops.toList L (K .nrm)
  | .region id ops true, L, K => match get E.ords id with
    | some [p] => semS E ops.toList p L (K .nrm)
    | some (_ :: _ :: _) => match get E.joins (id + 100000) with
      | some c => c.go E.pre E.k L
      | none => none
    | _ => none
  | .seq a b, L, K => semC E a L (seqK E b (fun L' => semC E b L' K) K)
  | .cond c a b, L, K => match evalO L c with
    | some s => condK s (semC E a (knowO c true L) K) (semC E b (knowO c false L) K)
    | none => none
  | .block id a, L, K => semC E a L (blockK id K)
  | .loop a, L, _ => goLoop E a L
  | .exit id, L, K => K (.exit id) L
  | .ret, L, K => K .ret L
  | _, _, _ => none

/-- What kind of place: the head of a loop; where ways meet; a region whose order is drawn, in one of the orders. -/
inductive PK where
  | loop
  | join
  | draw (p : List Nat)
/-- A place told by a pattern: of what kind; the code from there; what comes behind it. -/
structure Pt (G : Sig) (R : Type) where
  kd : PK
  id : Option Nat
  code : Code
  K : Nat → Ex → St G → Option R
def drawPts (id : Nat) (c : Code) (K : Nat → Ex → St G → Option R) : List (List Nat) → List (Pt G R)
  | [] => []
  | p :: ps => ⟨.draw p, some id, c, K⟩ :: drawPts id c K ps
def ptsOf (E : Nat → Env G R) : Code → (Nat → Ex → St G → Option R) → List (Pt G R)
  | .region id ops true, K => match get (E 0).ords id with
    | some (p :: q :: ps) => drawPts (id + 100000) (.region id ops true) K (p :: q :: ps)
    | _ => []
  | .seq a b, K => ⟨.join, rid b, b, K⟩ :: (ptsOf E a (fun k => seqK (E k) b (fun L' => semC (E k) b L' (K k)) (K k)) ++ ptsOf E b K)
  | .cond _ a b, K => ptsOf E a K ++ ptsOf E b K
  | .block id a, K => ptsOf E a (fun k => blockK id (K k))
  | .loop a, K => ⟨.loop, rid a, a, K⟩ :: ptsOf E a (fun k => loopK (E k) a (K k))
  | _, _ => []
def cutOf (E : Nat → Env G R) (p : Pt G R) : Option (Cut G R) :=
  match p.kd with
  | .loop => look (E 0).loops p.id
  | _ => look (E 0).joins p.id
/-- Of the places, those that are told by patterns. -/
def used (E : Nat → Env G R) : List (Pt G R) → List (Pt G R × Cut G R)
  | [] => []
  | p :: ps => match cutOf E p with
    | some c => (p, c) :: used E ps
    | none => used E ps
def semW (E : Env G R) (c : Code) (p : List Nat) (L : St G) (K : Ex → St G → Option R) : Option R :=
  match c with
  | .region _ ops _ => semS E ops.toList p L (K .nrm)
  | _ => none
def semP (E : Nat → Env G R) (p : Pt G R) (k : Nat) (L : St G) : Option R :=
  match p.kd with
  | .loop => semC (E k) p.code L (loopK (E k) p.code (p.K k))
  | .join => semC (E k) p.code L (p.K k)
  | .draw o => semW (E k) p.code o L (p.K k)
def semPt (E : Nat → Env G R) (x : Option (Pt G R × Cut G R)) (k : Nat) (L : St G) : Option R :=
  match x with
  | some (p, _) => semP E p k L
  | none => none

/-- The results of a function, at its end. -/
def resK (L : St G) (j : Nat) : List ResultVar → Option (List (Nat × DV G))
  | [] => some []
  | .tmp t :: r => match get L.tmps t with
    | some (.sv s) => match resK L (j + 1) r with
      | some l => some ((j, .sv s) :: l)
      | none => none
    | _ => none
  | .cell t T :: r => match get L.tmps t, G.tab T with
    | some (.sv (.one (.ptr i off))), some ti => match get L.objs i with
      | some (.cells _ ls) => match Nat.ble (off + len ti.leaves) (len ls) with
        | true => match svLs ti.agg ((ls.drop off).take (len ti.leaves)) with
          | some s => match resK L (j + 1) r with
            | some l => some ((j, .sv s) :: l)
            | none => none
          | none => none
        | false => none
      | _ => none
    | _, _ => none
/-- The objects that a function was handed and gives back. -/
def fixOf : Nat → List POb → List Nat
  | _, [] => []
  | j, .cells _ _ :: ps => j :: fixOf (j + 1) ps
  | j, .ow true _ _ _ :: ps => j :: fixOf (j + 1) ps
  | j, _ :: ps => fixOf (j + 1) ps
/-- A row that is not ours, where one that is ours is to be given: it is to be empty (the number told is to be 0). -/
def wkL (ob : List (Nat × Ob G)) (p : PLeaf) (l : Leaf G) : Leaf G × Option Nat :=
  match p with
  | .warr _ => match l with
    | .val (.sl e t) x => (.wnil, some (show List (G.D t) from x).length)
    | .aref o => match get ob o with
      | some (.frz _ _ xs) => (.wnil, some xs.length)
      | _ => (.aref o, none)
    | .wref o => match get ob o with
      | some (.frz _ _ xs) => (.wnil, some xs.length)
      | _ => (.wref o, none)
    | l => (l, none)
  | _ => (l, none)
def wkLs (ob : List (Nat × Ob G)) : List PLeaf → List (Leaf G) → List (Leaf G) × List Nat
  | p :: ps, l :: ls => match wkL ob p l, wkLs ob ps ls with | (l', g), (ls', gs) => (l' :: ls', gdCons g gs)
  | _, ls => (ls, [])
def wkD (ob : List (Nat × Ob G)) (p : PSV) (d : DV G) : DV G × List Nat :=
  match p, d with
  | .one p, .sv (.one l) => match wkL ob p l with | (l', g) => (.sv (.one l'), gdCons g [])
  | .agg ps, .sv (.agg ls) => match wkLs ob ps ls with | (ls', gs) => (.sv (.agg ls'), gs)
  | _, d => (d, [])
def wkDs (ob : List (Nat × Ob G)) : List (Nat × PSV) → List (Nat × DV G) → List (Nat × DV G) × List Nat
  | (_, p) :: ps, (j, d) :: ds => match wkD ob p d, wkDs ob ps ds with | (d', g), (ds', gs) => ((j, d') :: ds', g ++ gs)
  | _, ds => (ds, [])
def retM (c : Ct G) (ds : List (Nat × DV G)) (ob : List (Nat × Ob G)) (nx : Nat) : Option (HL G.S c.ots) :=
  match matchP c.rp (idRen (fixOf 0 c.ip.objs)) ⟨ds, ob, nx⟩ with
  | some m => toHL c.ots m.out
  | none => none
def retK (fn : Func) (c : Ct G) (e : Ex) (L : St G) : Option (HL G.S c.ots) :=
  match e with
  | .exit _ => none
  | _ => match resK L 0 fn.results.toList with
    | some ds => match closeAll L with
      | ⟨_, ob, nx⟩ => match wkDs ob c.rp.tmps ds with
        | (ds', gs) => gdK gs (retM c ds' ob nx)
    | none => none
def semF (c : Ct G) (E : Env G (HL G.S c.ots)) (fn : Func) (body : Code) (h : HL G.S c.its) : Option (HL G.S c.ots) :=
  semC E body (instP c.ip (ofHL c.its h)) (retK fn c)
end Go.Proofs.YtmcbhnbemhfifaaDoor.RX
