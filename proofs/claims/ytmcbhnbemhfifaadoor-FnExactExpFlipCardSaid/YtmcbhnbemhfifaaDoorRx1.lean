/- A symbolic evaluator of the translated code: it steps through a function's code with typed values in place of memory, and answers what the function answers. Definitions only: no condition. -/
import Derived.Test.YtmcbhnbemhfifaaDoorProg
import Derived.Deep.LoopGhost
import Derived.KernelRfl
import Derived.Below
import Derived.Deep.AppendLies
namespace Go.Proofs.YtmcbhnbemhfifaaDoor.RX
open Go
set_option autoImplicit false

/-- The values' types. -/
inductive Ty where
  | int (k : IntKind)
  | bool
  | str
  | sl (e : TypeId) (t : Ty)
  | st (s : Nat)
  | po (t : Ty)

def kn : IntKind → Nat
  | .i8 => 0 | .i16 => 1 | .i32 => 2 | .i64 => 3 | .u8 => 4 | .u16 => 5 | .u32 => 6 | .u64 => 7
theorem kn_inj : ∀ {a b : IntKind}, kn a = kn b → a = b := by
  intro a b h; cases a <;> cases b <;> first | rfl | cases h

def Ty.beq : Ty → Ty → Bool
  | .int k, .int k' => Nat.beq (kn k) (kn k')
  | .bool, .bool => true
  | .str, .str => true
  | .sl e t, .sl e' t' => Nat.beq e e' && Ty.beq t t'
  | .st s, .st s' => Nat.beq s s'
  | .po t, .po t' => Ty.beq t t'
  | _, _ => false
theorem Ty.eq_of_beq : ∀ {a b : Ty}, Ty.beq a b = true → a = b
  | .int k, .int k', h => by rw [kn_inj (Nat.eq_of_beq_eq_true h)]
  | .bool, .bool, _ => rfl
  | .str, .str, _ => rfl
  | .sl e t, .sl e' t', h => by
    have h' : (Nat.beq e e' && Ty.beq t t') = true := h
    rw [Bool.and_eq_true] at h'
    rw [Nat.eq_of_beq_eq_true h'.1, Ty.eq_of_beq h'.2]
  | .st s, .st s', h => by rw [Nat.eq_of_beq_eq_true h]
  | .po t, .po t', h => by rw [Ty.eq_of_beq (show Ty.beq t t' = true from h)]

def den (S : Nat → Type) : Ty → Type
  | .int _ => Int
  | .bool => Bool
  | .str => ByteArray
  | .sl _ t => List (den S t)
  | .st s => S s
  | .po t => Option (den S t)
/-- A struct's fields. -/
def Fs (S : Nat → Type) : List Ty → Type
  | [] => Unit
  | t :: ts => den S t × Fs S ts
/-- What a function takes and gives: one value, or several. -/
def HLc (S : Nat → Type) : Ty → List Ty → Type
  | t, [] => den S t
  | t, t' :: ts => den S t × HLc S t' ts
def HL (S : Nat → Type) : List Ty → Type
  | [] => Unit
  | t :: ts => HLc S t ts

/-- What lies in one cell, by the program's type: a value, or what is none of ours. -/
inductive LTy where
  | t (t : Ty)
  | ptr | fn | other

/-- What is known of a type of the program: its cells; where its fields begin; its own type, if it is a value's. -/
structure TI where
  leaves : List LTy
  flds : List (Nat × Nat)
  agg : Bool
  ty : Option Ty

/-- The structs of a program. -/
structure Sig where
  S : Nat → Type
  fs : Nat → List Ty
  op : (s : Nat) → S s → Fs S (fs s)
  bd : (s : Nat) → Fs S (fs s) → S s
  hop : ∀ s h, op s (bd s h) = h
  sz : Nat → Nat
  z : (s : Nat) → S s
  tab : TypeId → Option TI
  cap : TypeId → Nat

variable (G : Sig)
abbrev Sig.D (t : Ty) : Type := den G.S t
def Sig.csz : Ty → Nat
  | .st s => G.sz s
  | _ => 1

/-- A value with its type. -/
structure TV where
  t : Ty
  x : G.D t

/-- What is known of a cell, or of a temporary that is no struct. -/
inductive Leaf where
  | val (t : Ty) (x : G.D t)
  | kb (b : Bool)
  | prop (p : Prop) (d : Decidable p)
  | nils
  | full (e : TypeId) (t : Ty) (x : List (G.D t))
  | aref (o : Nat)
  | ptr (o off : Nat)
  | rptr (t : Ty) (x : G.D t)
  | aptr (o i z off : Nat)
  | nilp
  | nilf
  | fn (f : FuncId) (caps : List Nat)
  | junk
  | wref (o : Nat)
  | wnil

inductive SV where
  | one (l : Leaf G)
  | agg (ls : List (Leaf G))
inductive DV where
  | sv (s : SV G)
  | tup (l : List (SV G))
  | und
  | junk

/-- What is known of memory of the call's own: a variable's cells; a row that is ours alone; a row that is written no more; a row that is ours with all that its elements lead to, each row of it led to once ('fo': but for one row, object 'o2', of element 'i'). -/
inductive Ob where
  | cells (ro : List Nat) (ls : List (Leaf G))
  | arr (e : TypeId) (t : Ty) (xs : List (G.D t))
  | frz (e : TypeId) (t : Ty) (xs : List (G.D t))
  | dead
  | tr (e : TypeId) (t : Ty) (xs : List (G.D t))
  | fo (e : TypeId) (t : Ty) (xs : List (G.D t)) (i off o2 : Nat)

structure St where
  tmps : List (Nat × DV G)
  objs : List (Nat × Ob G)
  nx : Nat

section
variable {α : Type}
def get : List (Nat × α) → Nat → Option α
  | [], _ => none
  | (k, v) :: r, n => match Nat.beq k n with | true => some v | false => get r n
def nth : List α → Nat → Option α
  | [], _ => none
  | a :: _, 0 => some a
  | _ :: r, n + 1 => nth r n
def setAt : List α → Nat → List α → List α
  | [], _, _ => []
  | l, _, [] => l
  | _ :: r, 0, y :: ys => y :: setAt r 0 ys
  | a :: r, n + 1, ys => a :: setAt r n ys
def hasN : List Nat → Nat → Bool
  | [], _ => false
  | k :: r, n => match Nat.beq k n with | true => true | false => hasN r n
end

variable {G}
def len {α : Type} : List α → Nat
  | [] => 0
  | _ :: r => len r + 1

/-- The fields of a struct, one by one, and so on. -/
def cut1 (ts : List Ty) (h : Fs G.S ts) : List (TV G) :=
  match ts, h with
  | [], _ => []
  | t :: ts, h => ⟨t, h.1⟩ :: cut1 ts h.2
def leavesN : Nat → List (TV G) → Option (List (Leaf G))
  | 0, [] => some []
  | 0, _ :: _ => none
  | _ + 1, [] => some []
  | n + 1, ⟨.st s, x⟩ :: r => match leavesN n (cut1 (G.fs s) (G.op s x)) with
    | some a => match leavesN n r with
      | some b => some (a ++ b)
      | none => none
    | none => none
  | n + 1, v :: r => match leavesN n r with
    | some b => some (.val v.t v.x :: b)
    | none => none
/-- A value as it is held in a temporary. -/
def svOf (v : TV G) : Option (SV G) :=
  match v with
  | ⟨.st s, x⟩ => match leavesN 99 (cut1 (G.fs s) (G.op s x)) with
    | some l => some (.agg l)
    | none => none
  | v => some (.one (.val v.t v.x))

def castTo (t : Ty) (v : TV G) : Option (G.D t) :=
  if h : Ty.beq v.t t = true then some (cast (congrArg G.D (Ty.eq_of_beq h)) v.x) else none

/-- What is read of a row, as a value; 'fz': the row is to be written no more. -/
def rowOf (L : St G) (l : Leaf G) : Option ((e : TypeId) × (t : Ty) × List (G.D t)) :=
  match l with
  | .val (.sl e t) x => some ⟨e, t, x⟩
  | .full e t x => some ⟨e, t, x⟩
  | .aref o => match get L.objs o with
    | some (.arr e t x) => some ⟨e, t, x⟩
    | some (.frz e t x) => some ⟨e, t, x⟩
    | _ => none
  | _ => none
def freeze (L : St G) (o : Nat) : St G :=
  match L with
  | ⟨tm, ob, nx⟩ => match get ob o with
    | some (.arr e t x) => ⟨tm, (o, .frz e t x) :: ob, nx⟩
    | some (.tr e t x) => ⟨tm, (o, .frz e t x) :: ob, nx⟩
    | _ => ⟨tm, ob, nx⟩

/-- A leaf as a value of a type that is no struct; a row that was ours is to be written no more. -/
def toTV (t : Ty) (l : Leaf G) (L : St G) : Option (TV G × St G) :=
  match l with
  | .val t' x => match Ty.beq t' t with | true => some (⟨t', x⟩, L) | false => none
  | .kb b => match Ty.beq t .bool with | true => some (⟨.bool, b⟩, L) | false => none
  | .prop p d => match Ty.beq t .bool with | true => some (⟨.bool, @decide p d⟩, L) | false => none
  | .nils => match t with | .sl e t' => some (⟨.sl e t', []⟩, L) | _ => none
  | .full e t' x => match Ty.beq (.sl e t') t with | true => some (⟨.sl e t', x⟩, L) | false => none
  | .aref o => match get L.objs o with
    | some (.arr e t' x) => match Ty.beq (.sl e t') t with | true => some (⟨.sl e t', x⟩, freeze L o) | false => none
    | some (.tr e t' x) => match Ty.beq (.sl e t') t with | true => some (⟨.sl e t', x⟩, freeze L o) | false => none
    | some (.frz e t' x) => match Ty.beq (.sl e t') t with | true => some (⟨.sl e t', x⟩, L) | false => none
    | _ => none
  | .rptr t' x => match Ty.beq (.po t') t with | true => some (⟨.po t', some x⟩, L) | false => none
  | .nilp => match t with | .po t' => some (⟨.po t', none⟩, L) | _ => none
  | .wref o => match get L.objs o with
    | some (.arr e t' x) => match Ty.beq (.sl e t') t with | true => some (⟨.sl e t', x⟩, freeze L o) | false => none
    | some (.tr e t' x) => match Ty.beq (.sl e t') t with | true => some (⟨.sl e t', x⟩, freeze L o) | false => none
    | some (.frz e t' x) => match Ty.beq (.sl e t') t with | true => some (⟨.sl e t', x⟩, L) | false => none
    | _ => none
  | .wnil => match t with | .sl e t' => some (⟨.sl e t', []⟩, L) | _ => none
  | _ => none

/-- Leaves as the fields of a struct. -/
def packN : Nat → (ts : List Ty) → List (Leaf G) → St G → Option (Fs G.S ts × List (Leaf G) × St G)
  | 0, [], ls, L => some ((), ls, L)
  | 0, _ :: _, _, _ => none
  | _ + 1, [], ls, L => some ((), ls, L)
  | n + 1, .st s :: ts, ls, L => match packN n (G.fs s) ls L with
    | some (h, ls', L') => match packN n ts ls' L' with
      | some (hs, ls'', L'') => some ((G.bd s h, hs), ls'', L'')
      | none => none
    | none => none
  | n + 1, t :: ts, l :: ls, L => match toTV t l L with
    | some (v, L') => match castTo t v with
      | some x => match packN n ts ls L' with
        | some (hs, ls', L'') => some ((x, hs), ls', L'')
        | none => none
      | none => none
    | none => none
  | _ + 1, _ :: _, [], _ => none
/-- A temporary's value as a value of a type. -/
def svTV (t : Ty) (s : SV G) (L : St G) : Option (TV G × St G) :=
  match t, s with
  | .st k, .agg ls => match packN 99 (G.fs k) ls L with
    | some (h, [], L') => some (⟨.st k, G.bd k h⟩, L')
    | _ => none
  | .st _, _ => none
  | t, .one l => toTV t l L
  | _, _ => none

/-- Another value in one cell of a struct. -/
def putL (t : Ty) (x : G.D t) (off : Nat) (v : TV G) : Option (G.D t) :=
  match svOf (⟨t, x⟩ : TV G) with
  | some (.agg ls) => match svTV t (.agg (setAt ls off [.val v.t v.x])) ⟨[], [], 0⟩ with
    | some (y, _) => castTo t y
    | none => none
  | _ => none
def dftT (G : Sig) : (t : Ty) → G.D t
  | .int _ => (0 : Int)
  | .bool => false
  | .str => ByteArray.empty
  | .sl _ _ => []
  | .po _ => (none : Option _)
  | .st s => G.z s
/-- Types whose values lead to no memory. -/
def flatN (G : Sig) : Nat → List Ty → Bool
  | 0, _ => false
  | _ + 1, [] => true
  | n + 1, .st s :: r => match flatN G n (G.fs s) with | true => flatN G n r | false => false
  | _ + 1, .sl _ _ :: _ => false
  | _ + 1, .po _ :: _ => false
  | n + 1, _ :: r => flatN G n r
/-- A cell taken out of the state, to lie behind a row of ours: its row, if it is ours, is that row's from here on; a row that is not ours is to be empty (the number told is to be 0). -/
def absL (L : St G) (l : Leaf G) : Option (Leaf G × St G × Option Nat) :=
  match l with
  | .val (.sl e t) x => some (.val (.sl e t) ([] : List (G.D t)), L, some (show List (G.D t) from x).length)
  | .val (.int k) x => some (.val (.int k) x, L, none)
  | .val .bool x => some (.val .bool x, L, none)
  | .val .str x => some (.val .str x, L, none)
  | .kb b => some (.kb b, L, none)
  | .prop p d => some (.prop p d, L, none)
  | .nils => some (.nils, L, none)
  | .wnil => some (.wnil, L, none)
  | .wref o => match L with
    | ⟨tm, ob, nx⟩ => match get ob o with
      | some (.arr e t xs) => match flatN G 99 [t] with
        | true => some (.val (.sl e t) xs, ⟨tm, (o, .dead) :: ob, nx⟩, none)
        | false => none
      | some (.tr e t xs) => some (.val (.sl e t) xs, ⟨tm, (o, .dead) :: ob, nx⟩, none)
      | some (.frz e t xs) => some (.val (.sl e t) ([] : List (G.D t)), ⟨tm, ob, nx⟩, some xs.length)
      | _ => none
  | .aref o => match L with
    | ⟨tm, ob, nx⟩ => match get ob o with
      | some (.arr e t xs) => match flatN G 99 [t] with
        | true => some (.val (.sl e t) xs, ⟨tm, (o, .dead) :: ob, nx⟩, none)
        | false => none
      | some (.tr e t xs) => some (.val (.sl e t) xs, ⟨tm, (o, .dead) :: ob, nx⟩, none)
      | some (.frz e t xs) => some (.val (.sl e t) ([] : List (G.D t)), ⟨tm, ob, nx⟩, some xs.length)
      | _ => none
  | _ => none
def gdCons (g : Option Nat) (l : List Nat) : List Nat :=
  match g with
  | some n => n :: l
  | none => l
def absLs : List (Leaf G) → St G → Option (List (Leaf G) × St G × List Nat)
  | [], L => some ([], L, [])
  | l :: ls, L => match absL L l with
    | some (l', L1, g) => match absLs ls L1 with
      | some (ls', L2, gs) => some (l' :: ls', L2, gdCons g gs)
      | none => none
    | none => none
def gdK {R : Type} : List Nat → Option R → Option R
  | [], r => r
  | n :: l, r => if n = 0 then gdK l r else none
/-- What was taken out of a row of ours is put back. -/
def closeT (L : St G) (o : Nat) : St G :=
  match L with
  | ⟨tm, ob, nx⟩ => match get ob o with
    | some (.fo e t xs i off o2) => match get ob o2 with
      | some (.arr e' t' ys) => match flatN G 99 [t'], putL t (xs.getD i (dftT G t)) off ⟨.sl e' t', ys⟩ with
        | true, some y => ⟨tm, (o, .tr e t (xs.set i y)) :: (o2, .dead) :: ob, nx⟩
        | _, _ => ⟨tm, ob, nx⟩
      | some (.tr e' t' ys) => match putL t (xs.getD i (dftT G t)) off ⟨.sl e' t', ys⟩ with
        | some y => ⟨tm, (o, .tr e t (xs.set i y)) :: (o2, .dead) :: ob, nx⟩
        | none => ⟨tm, ob, nx⟩
      | _ => ⟨tm, ob, nx⟩
    | _ => ⟨tm, ob, nx⟩
def hasFo : List (Nat × Ob G) → Bool
  | [] => false
  | (_, .fo _ _ _ _ _ _) :: _ => true
  | _ :: r => hasFo r
def closeL : List (Nat × Ob G) → St G → St G
  | [], L => L
  | (o, _) :: r, L => closeL r (closeT L o)
/-- Whatever was taken out is put back. -/
def closeAll (L : St G) : St G :=
  match L with
  | ⟨tm, ob, nx⟩ => match hasFo ob with
    | true => closeL ob ⟨tm, ob, nx⟩
    | false => ⟨tm, ob, nx⟩

-- ------------------------------------------------------------ patterns: what is to be there at a place of the code
inductive PLeaf where
  | val (t : Ty)
  | arr (j : Nat)
  | ptr (j off : Nat)
  | nilp | nilf
  | fn (f : FuncId) (caps : List Nat)
  | any
  | warr (j : Nat)
inductive PSV where
  | one (l : PLeaf)
  | agg (ls : List PLeaf)
  | st (s : Nat)
inductive POb where
  | cells (ro : List Nat) (ls : List PLeaf)
  | arr (e : TypeId) (t : Ty)
  | ow (kp tree : Bool) (e : TypeId) (t : Ty)
structure Pat where
  tmps : List (Nat × PSV)
  objs : List POb

/-- What a matching has come to: the state, which object is which, the values met (the last first). -/
structure MS (G : Sig) where
  L : St G
  ren : List (Nat × Nat)
  out : List (TV G)

def bindO (ren : List (Nat × Nat)) (j o : Nat) : Option (List (Nat × Nat)) :=
  match get ren j with
  | some o' => match Nat.beq o' o with | true => some ren | false => none
  | none => some (ren ++ [(j, o)])

def bindL (ren : List (Nat × Nat)) : List Nat → List Nat → Option (List (Nat × Nat))
  | [], [] => some ren
  | j :: js, o :: os => match bindO ren j o with
    | some r => bindL r js os
    | none => none
  | _, _ => none

/-- An empty row, bound to a pattern's object. -/
def mNew (objs : List POb) (j : Nat) (m : MS G) : Option (MS G) :=
  match nth objs j with
  | some (.arr e t) => match bindO m.ren j m.L.nx with
    | some r => some ⟨⟨m.L.tmps, (m.L.nx, .arr e t []) :: m.L.objs, m.L.nx + 1⟩, r, m.out⟩
    | none => none
  | some (.ow _ true e t) => match bindO m.ren j m.L.nx with
    | some r => some ⟨⟨m.L.tmps, (m.L.nx, .tr e t []) :: m.L.objs, m.L.nx + 1⟩, r, m.out⟩
    | none => none
  | some (.ow _ false e t) => match bindO m.ren j m.L.nx with
    | some r => some ⟨⟨m.L.tmps, (m.L.nx, .arr e t []) :: m.L.objs, m.L.nx + 1⟩, r, m.out⟩
    | none => none
  | _ => none
def mLeaf (objs : List POb) (p : PLeaf) (l : Leaf G) (m : MS G) : Option (MS G) :=
  match p with
  | .val t => match toTV t l m.L with
    | some (v, L) => some ⟨L, m.ren, v :: m.out⟩
    | none => none
  | .arr j => match l with
    | .aref o => match bindO m.ren j o with | some r => some ⟨m.L, r, m.out⟩ | none => none
    | .nils => mNew objs j m
    | _ => none
  | .warr j => match l with
    | .aref o => match bindO m.ren j o with | some r => some ⟨m.L, r, m.out⟩ | none => none
    | .wref o => match bindO m.ren j o with | some r => some ⟨m.L, r, m.out⟩ | none => none
    | .nils => mNew objs j m
    | .wnil => mNew objs j m
    | _ => none
  | .ptr j off => match l with
    | .ptr o off' => match Nat.beq off off' with
      | true => match bindO m.ren j o with | some r => some ⟨m.L, r, m.out⟩ | none => none
      | false => none
    | _ => none
  | .nilp => match l with | .nilp => some m | _ => none
  | .nilf => match l with | .nilf => some m | _ => none
  | .fn f js => match l with
    | .fn f' os => match Nat.beq f f' with
      | true => match bindL m.ren js os with | some r => some ⟨m.L, r, m.out⟩ | none => none
      | false => none
    | _ => none
  | .any => some m
def mLeaves (objs : List POb) : List PLeaf → List (Leaf G) → MS G → Option (MS G)
  | [], [], m => some m
  | p :: ps, l :: ls, m => match mLeaf objs p l m with
    | some m' => mLeaves objs ps ls m'
    | none => none
  | _, _, _ => none
def mSV (objs : List POb) (p : PSV) (d : DV G) (m : MS G) : Option (MS G) :=
  match p, d with
  | .one p, .sv (.one l) => mLeaf objs p l m
  | .agg ps, .sv (.agg ls) => mLeaves objs ps ls m
  | .st s, .sv v => match svTV (.st s) v m.L with
    | some (x, L) => some ⟨L, m.ren, x :: m.out⟩
    | none => none
  | _, _ => none
def mTmps (objs : List POb) : List (Nat × PSV) → MS G → Option (MS G)
  | [], m => some m
  | (t, p) :: r, m => match get m.L.tmps t with
    | some d => match mSV objs p d m with
      | some m' => mTmps objs r m'
      | none => none
    | none => none
/-- All of the first are among the second. -/
def subN : List Nat → List Nat → Bool
  | [], _ => true
  | a :: r, s => match hasN s a with | true => subN r s | false => false
def mObs (objs : List POb) : Nat → List POb → MS G → Option (MS G)
  | _, [], m => some m
  | j, p :: ps, m => match get m.ren j with
    | some o => match p, get m.L.objs o with
      | .cells ro pl, some (.cells ro' ls) => match subN ro' ro with
        | true => match mLeaves objs pl ls m with
          | some m' => mObs objs (j + 1) ps m'
          | none => none
        | false => none
      | .arr e t, some (.arr e' t' x) => match Ty.beq (.sl e t) (.sl e' t') with
        | true => mObs objs (j + 1) ps ⟨m.L, m.ren, ⟨.sl e' t', x⟩ :: m.out⟩
        | false => none
      | .ow _ false e t, some (.arr e' t' x) => match Ty.beq (.sl e t) (.sl e' t') with
        | true => mObs objs (j + 1) ps ⟨m.L, m.ren, ⟨.sl e' t', x⟩ :: m.out⟩
        | false => none
      | .ow _ true e t, some (.tr e' t' x) => match Ty.beq (.sl e t) (.sl e' t') with
        | true => mObs objs (j + 1) ps ⟨m.L, m.ren, ⟨.sl e' t', x⟩ :: m.out⟩
        | false => none
      | _, _ => none
    | none => none
def nodupB (n : Nat) : List (Nat × Nat) → List Nat → Bool
  | [], _ => true
  | (j, o) :: r, seen => match hasN seen o, Nat.blt j n with | false, true => nodupB n r (o :: seen) | _, _ => false
def liveB (ob : List (Nat × Ob G)) : List (Nat × Nat) → Bool
  | [] => true
  | (_, o) :: r => match get ob o with
    | some (.cells _ _) => liveB ob r
    | some (.arr _ _ _) => liveB ob r
    | some (.tr _ _ _) => liveB ob r
    | _ => false
def matchP (p : Pat) (ren : List (Nat × Nat)) (L : St G) : Option (MS G) :=
  match mTmps p.objs p.tmps ⟨L, ren, []⟩ with
  | some m => match mObs p.objs 0 p.objs m with
    | some m' => match nodupB (len p.objs) m'.ren [], liveB m'.L.objs m'.ren with | true, true => some ⟨m'.L, m'.ren, m'.out.reverse⟩ | _, _ => none
    | none => none
  | none => none

def toHLc : (ts : List Ty) → (t : Ty) → List (TV G) → Option (HLc G.S t ts)
  | [], t, vs => match vs with
    | v :: r => match r with
      | [] => castTo t v
      | _ :: _ => none
    | [] => none
  | t' :: ts, t, vs => match vs with
    | v :: r => match castTo t v with
      | some x => match toHLc ts t' r with
        | some h => some (x, h)
        | none => none
      | none => none
    | [] => none
def toHL (ts : List Ty) (vs : List (TV G)) : Option (HL G.S ts) :=
  match ts with
  | [] => match vs with | [] => some () | _ :: _ => none
  | t :: ts => toHLc ts t vs
def ofHLc : (ts : List Ty) → (t : Ty) → HLc G.S t ts → List (TV G)
  | [], t, x => [⟨t, x⟩]
  | t' :: ts, t, h => ⟨t, h.1⟩ :: ofHLc ts t' h.2
def ofHL (ts : List Ty) (h : HL G.S ts) : List (TV G) :=
  match ts, h with
  | [], _ => []
  | t :: ts, h => ofHLc ts t h

-- the state that a pattern tells, with its values put in; 'f' tells which object a pattern's object is
def iLeaf (f : Nat → Nat) (p : PLeaf) (vs : List (TV G)) : Leaf G × List (TV G) :=
  match p with
  | .val _ => match vs with | v :: r => (.val v.t v.x, r) | [] => (.junk, [])
  | .arr j => (.aref (f j), vs)
  | .ptr j off => (.ptr (f j) off, vs)
  | .nilp => (.nilp, vs)
  | .nilf => (.nilf, vs)
  | .fn g js => (.fn g (js.map f), vs)
  | .any => (.junk, vs)
  | .warr j => (.wref (f j), vs)
def iLeaves (f : Nat → Nat) : List PLeaf → List (TV G) → List (Leaf G) × List (TV G)
  | [], vs => ([], vs)
  | p :: ps, vs => match iLeaf f p vs with
    | (l, r) => match iLeaves f ps r with
      | (ls, r') => (l :: ls, r')
def iSV (f : Nat → Nat) (p : PSV) (vs : List (TV G)) : DV G × List (TV G) :=
  match p with
  | .one p => match iLeaf f p vs with | (l, r) => (.sv (.one l), r)
  | .agg ps => match iLeaves f ps vs with | (ls, r) => (.sv (.agg ls), r)
  | .st _ => match vs with | v :: r => (match svOf v with | some s => .sv s | none => .junk, r) | [] => (.junk, [])
def iTmps (f : Nat → Nat) : List (Nat × PSV) → List (TV G) → List (Nat × DV G) × List (TV G)
  | [], vs => ([], vs)
  | (t, p) :: ps, vs => match iSV f p vs with
    | (d, r) => match iTmps f ps r with
      | (ds, r') => ((t, d) :: ds, r')
def iObs (f : Nat → Nat) : Nat → List POb → List (TV G) → List (Nat × Ob G) × List (TV G)
  | _, [], vs => ([], vs)
  | j, .cells ro pl :: ps, vs => match iLeaves f pl vs with
    | (ls, r) => match iObs f (j + 1) ps r with
      | (os, r') => ((f j, .cells ro ls) :: os, r')
  | j, .arr e t :: ps, vs => match vs with
    | ⟨.sl _ t', x⟩ :: r => match iObs f (j + 1) ps r with
      | (os, r') => ((f j, .arr e t' x) :: os, r')
    | _ => match iObs f (j + 1) ps [] with
      | (os, r') => ((f j, .arr e t []) :: os, r')
  | j, .ow _ false e t :: ps, vs => match vs with
    | ⟨.sl _ t', x⟩ :: r => match iObs f (j + 1) ps r with
      | (os, r') => ((f j, .arr e t' x) :: os, r')
    | _ => match iObs f (j + 1) ps [] with
      | (os, r') => ((f j, .arr e t []) :: os, r')
  | j, .ow _ true e t :: ps, vs => match vs with
    | ⟨.sl _ t', x⟩ :: r => match iObs f (j + 1) ps r with
      | (os, r') => ((f j, .tr e t' x) :: os, r')
    | _ => match iObs f (j + 1) ps [] with
      | (os, r') => ((f j, .tr e t []) :: os, r')
def instP (p : Pat) (vs : List (TV G)) : St G :=
  match iTmps (fun j => j) p.tmps vs with
  | (tm, r) => match iObs (fun j => j) 0 p.objs r with
    | (os, _) => ⟨tm, os, len p.objs⟩
end Go.Proofs.YtmcbhnbemhfifaaDoor.RX
