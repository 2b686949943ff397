
/-
  The symbolic machine: frames, chunks of memory, and the functions that step through operations. Definitions alone.
-/
import Derived.Test.YtiegllklalplnaaGreatW1
namespace Go.Proofs.YtiegllklalplnaaGreat
open Go Go.RowKit
set_option linter.unusedVariables false
set_option linter.unusedSimpArgs false

inductive Ch where
  | row (l : List V)
  | arr (sz n : Nat) (f : Nat → List D)
  | hole (sz n : Nat) (f : Nat → List D) (i : Int) (k2 : Nat)
  | ro (sz n : Nat) (f : Nat → List D)
  | rrow (l : List V)
inductive TK where
  | sc | bo | ptr | str | ifc
  | it (k : IntKind)
  | st (l : List (Nat × Nat))
  | slc (e : Nat)
  | ar (n e : Nat)
structure TI where
  id : Nat
  sz : Nat
  by_ : Nat
  kind : TK
  zero : Value
  eqf : Bool
def shapeK : TypeDesc → TK
  | .struct fs => .st (fs.toList.map fun f => (f.offset, f.type))
  | .slice e => .slc e
  | .array n e => .ar n e
  | .bool => .bo
  | .pointer _ => .ptr
  | .string => .str
  | .int k => .it k
  | .interface _ => .ifc
  | _ => .sc
/-- a struct that is compared field by field -/
def eqPlain (P : Program) (t : TypeId) : Bool := match P.underlying t with
  | some (.struct fs) => !P.stoodInHeld t && !P.eqGuardType P.depth t && fs.all fun f => f.name != "_"
  | _ => false
def TI.ok (P : Program) (ti : TI) : Prop :=
  (P.underlying ti.id).map shapeK = some ti.kind ∧ (P.info? ti.id).map (fun i => (i.size, i.bytes)) = some (ti.sz, ti.by_) ∧ (P.info? ti.id).bind (·.zero) = some ti.zero ∧ (ti.eqf = true → eqPlain P ti.id = true)
def TOk (P : Program) : List TI → Prop
  | [] => True
  | t :: r => t.ok P ∧ TOk P r

abbrev Fr := List (Nat × SV)
abbrev GF := List (Nat × Nat × Bool × SV)
abbrev Mu := List (Nat × Ch)

def mlk {α : Type} (k : Nat) : List (Nat × α) → Option α
  | [] => none
  | (j, c) :: r => bif Nat.beq j k then some c else mlk k r
def tlk (t : Nat) : List TI → Option TI
  | [] => none
  | e :: r => bif Nat.beq e.id t then some e else tlk t r
def glk (t : Nat) : GF → Option (Nat × Bool × SV)
  | [] => none
  | (j, c) :: r => bif Nat.beq j t then some c else glk t r
/-- an entry of slot t, or that hangs on slot t, is forgotten -/
def gdrop (t : Nat) : GF → Option GF
  | [] => some []
  | (j, d, w, x) :: r => match gdrop t r with
    | some l => bif (Nat.beq j t || Nat.beq d t) then some l else some ((j, d, w, x) :: l)
    | none => none
/-- a list's cells, laid open -/
def layD (q : Tg) : List D → Option (List V)
  | [] => some []
  | x :: r => match layD q r with
    | some l => match x with
      | .v y => some (.v y :: l)
      | .sl sz n f => some (.s q sz n f :: l)
      | .pt m o => some (.rp q m o :: l)
    | none => none
def layV : List Value → Option (List V)
  | [] => some []
  | x :: r => match layV r with
    | some l => some (.v x :: l)
    | none => none
def layT (q : Tg) : List V → Option (List V)
  | [] => some []
  | x :: r => match layT q r with
    | some l => match x with
      | .s .o sz n f => some (.s q sz n f :: l)
      | .any => none
      | y => some (y :: l)
    | none => none

/-- the guards that are known to hold: slot d holds w -/
abbrev Gd := List (Nat × Bool)
def gHas (d : Nat) (w : Bool) : Gd → Bool
  | [] => false
  | (d', w') :: r => bif (Nat.beq d' d && (w' == w)) then true else gHas d w r
def ev (g : Gd) (fr : Fr) (gf : GF) : Operand → Option SV
  | .tmp t => match glk t gf with
    | some (d, w, x) => bif gHas d w g then some x else none
    | none => mlk t fr
  | .const c => some (.a (.v c))
  | .func f => some (.fn f [])
  | .global _ => none
def evs (g : Gd) (fr : Fr) (gf : GF) : List Operand → Option (List SV)
  | [] => some []
  | x :: r => match ev g fr gf x, evs g fr gf r with
    | some y, some l => some (y :: l)
    | _, _ => none

def InR (x : Int) : Prop := -9223372036854775808 ≤ x ∧ x ≤ 9223372036854775807
def andI (x y : Int) : Int := IntKind.i64.wrap ((BitVec.ofInt 64 x &&& BitVec.ofInt 64 y).toNat)
def orI (x y : Int) : Int := IntKind.i64.wrap ((BitVec.ofInt 64 x ||| BitVec.ofInt 64 y).toNat)
def xorI (x y : Int) : Int := IntKind.i64.wrap ((BitVec.ofInt 64 x ^^^ BitVec.ofInt 64 y).toNat)
def anI (x y : Int) : Int := IntKind.i64.wrap ((BitVec.ofInt 64 x &&& ~~~ (BitVec.ofInt 64 y)).toNat)
def wr64 (x : Int) : Int := IntKind.i64.wrap x

/-- what is asked: e: holds by looking; o: to be shown -/
inductive OB where
  | e (p : Prop)
  | o (p : Prop)
def OB.p : OB → Prop
  | .e p => p
  | .o p => p
abbrev Ob := List OB
def Alls : Ob → Prop
  | [] => True
  | x :: r => x.p ∧ Alls r
/-- an obligation under guards -/
inductive GO where
  | t (p : Prop)
  | g (b w : Bool) (r : GO)
def GO.p : GO → Prop
  | .t p => p
  | .g b w r => b = w → r.p
def GAlls : List GO → Prop
  | [] => True
  | x :: r => x.p ∧ GAlls r
def PAlls : List Prop → Prop
  | [] => True
  | x :: r => x ∧ PAlls r

def cmpI (o : BinOp) (x y : Int) : Option Bool :=
  match o with
  | .eql => some (x == y)
  | .neq => some (x != y)
  | .lss => some (decide (x < y))
  | .leq => some (decide (x ≤ y))
  | .gtr => some (decide (x > y))
  | .geq => some (decide (x ≥ y))
  | _ => none
/-- a number so large that a sum with it is meant to run over -/
def hugeI (y : Int) : Bool := match y with
  | .ofNat n => Nat.ble 1000000000000000000 n
  | .negSucc n => Nat.ble 1000000000000000000 n
def constI : Operand → Bool
  | .const (.int _ n) => hugeI n
  | _ => false
def shrI (k : IntKind) (x y : Int) : Value × Ob := match y with
  | .ofNat 1 => (.int k (x / 2), [])
  | .ofNat n => (.int k (x.fdiv (2 ^ (min n k.bits))), [])
  | .negSucc _ => (.int k 0, [.e False])
def bopI (h : Bool) (o : BinOp) (x y : Int) : Option (Value × Ob) :=
  match o with
  | .add => bif h then some (.int .i64 (wr64 (x + y)), []) else some (.int .i64 (x + y), [.o (InR (x + y))])
  | .sub => some (.int .i64 (x - y), [.o (InR (x - y))])
  | .mul => bif h then some (.int .i64 (wr64 (x * y)), []) else some (.int .i64 (x * y), [.o (InR (x * y))])
  | .quo => some (.int .i64 (x.tdiv y), [.o (y ≠ 0), .o (InR (x.tdiv y))])
  | .rem => some (.int .i64 (x.tmod y), [.o (y ≠ 0)])
  | .and => some (.int .i64 (andI x y), [])
  | .or => some (.int .i64 (orI x y), [])
  | .xor => some (.int .i64 (xorI x y), [])
  | .andNot => some (.int .i64 (anI x y), [])
  | .shr => some (shrI .i64 x y)
  | o => match cmpI o x y with
    | some b => some (.bool b, [])
    | none => none
def bopU (o : BinOp) (x y : Int) : Option (Value × Ob) :=
  match o with
  | .add => some (.int .u8 (IntKind.u8.wrap (x + y)), [])
  | .sub => some (.int .u8 (IntKind.u8.wrap (x - y)), [])
  | o => match cmpI o x y with
    | some b => some (.bool b, [])
    | none => none
def bopS (o : BinOp) (x y : ByteArray) : Option (Value × Ob) :=
  match o with
  | .add => some (.string (x ++ y), [.o (((x.size + y.size : Nat) : Int) ≤ 9223372036854775807)])
  | .eql => some (.bool (x == y), [])
  | .neq => some (.bool (!(x == y)), [])
  | _ => none
/-- a slice against nil: is it nil, and what is asked -/
def isNilS (mu : Mu) : V → Option (Bool × Ob)
  | .v (.slice A _ _) => some (A.isNone, [])
  | _ => none
def isNilP (mu : Mu) : V → Option Bool
  | .p k _ => match mlk k mu with
    | some (.row _) => some false
    | some (.rrow _) => some false
    | _ => none
  | .rp _ _ _ => some false
  | .pe k _ _ _ => match mlk k mu with
    | some (.arr ..) => some false
    | some (.ro ..) => some false
    | some (.hole ..) => some false
    | _ => none
  | .v (.pointer A) => some A.isNone
  | _ => none
def bop (mu : Mu) (h : Bool) (k : TK) (o : BinOp) (x y : V) : Option (Value × Ob) :=
  match x, y with
  | .v (.int .i64 a), .v (.int .i64 b) => bopI h o a b
  | .v (.int .u8 a), .v (.int .u8 b) => bopU o a b
  | .v (.int .u64 a), .v (.int _ b) => match o with
    | .shr => some (shrI .u64 a b)
    | _ => none
  | .v (.int .i64 a), .v (.int .u64 b) => match o with
    | .shr => some (shrI .i64 a b)
    | _ => none
  | .v (.string a), .v (.string b) => bopS o a b
  | .v (.bool a), .v (.bool b) => match k, o with
    | .bo, .eql => some (.bool (a == b), [])
    | .bo, .neq => some (.bool (!(a == b)), [])
    | _, _ => none
  | x, .v (.slice none _ _) => match k, o, isNilS mu x with
    | .slc _, .eql, some (b, q) => some (.bool b, q)
    | .slc _, .neq, some (b, q) => some (.bool (!b), q)
    | _, _, _ => none
  | x, .v (.pointer none) => match k, o, isNilP mu x with
    | .ptr, .eql, some b => some (.bool b, [])
    | .ptr, .neq, some b => some (.bool (!b), [])
    | _, _, _ => none
  | _, _ => none

def vcellsL : Value → List V
  | .agg cs => cs.toList.map V.v
  | x => [.v x]
def vcells : Value → Option (List V)
  | .agg cs => layV cs.toList
  | x => some [.v x]
/-- the cells of a value -/
def SV.cells : SV → Option (List V)
  | .a (.v x) => vcells x
  | .a .any => none
  | .a x => some [x]
  | .ag l => some l
  | _ => none
def SV.agL : SV → Option (List V)
  | .a (.v (.agg cs)) => layV cs.toList
  | .ag l => some l
  | _ => none
def lenEq {α : Type} : List α → Nat → Bool
  | [], 0 => true
  | _ :: r, n + 1 => lenEq r n
  | _, _ => false
def nth {α : Type} : List α → Nat → Option α
  | [], _ => none
  | x :: _, 0 => some x
  | _ :: r, n + 1 => nth r n
/-- n entries from place o on, if there are so many -/
def cut {α : Type} : List α → Nat → Nat → Option (List α)
  | _, 0, 0 => some []
  | x :: r, 0, n + 1 => match cut r 0 n with
    | some l => some (x :: l)
    | none => none
  | _ :: r, o + 1, n => cut r o n
  | [], _, _ => none
/-- the entries from place o on are replaced -/
def paste {α : Type} : List α → Nat → List α → Option (List α)
  | l, 0, [] => some l
  | _ :: r, 0, y :: ys => match paste r 0 ys with
    | some l => some (y :: l)
    | none => none
  | x :: r, o + 1, ys => match paste r o ys with
    | some l => some (x :: l)
    | none => none
  | [], _, _ => none
def svOf (ag : Bool) : List V → Option SV
  | [x] => bif ag then some (.ag [x]) else some (.a x)
  | l => bif ag then some (.ag l) else none
def TI.isAg (ti : TI) : Bool := match ti.kind with
  | .st _ => true
  | .ar _ _ => true
  | _ => false

/-- is it there? -/
def tgB (mu : Mu) : Tg → Bool
  | .k n => match mlk n mu with
    | some _ => true
    | none => false
  | _ => true
/-- what a load finds -/
def ld (ti : TI) (mu : Mu) : SV → Option (SV × Ob)
  | .a (.p k o) => match mlk k mu with
    | some (.row l) => match (cut l o ti.sz).bind (layT (.k k)) with
      | some l => match svOf ti.isAg l with
        | some x => some (x, [])
        | none => none
      | none => none
    | some (.rrow l) => match cut l o ti.sz with
      | some l => match svOf ti.isAg l with
        | some x => some (x, [])
        | none => none
      | none => none
    | _ => none
  | .a (.pe k sz i o) => match mlk k mu with
    | some (.arr sz' n f) => match (cut (f i.toNat) o ti.sz).bind (layD (.k k)) with
      | some l => match svOf ti.isAg l with
        | some x => some (x, [.e (sz = sz'), .o (0 ≤ i ∧ i < n)])
        | none => none
      | none => none
    | some (.ro sz' n f) => match (cut (f i.toNat) o ti.sz).bind (layD .r) with
      | some l => match svOf ti.isAg l with
        | some x => some (x, [.e (sz = sz'), .o (0 ≤ i ∧ i < n)])
        | none => none
      | none => none
    | _ => none
  | .a (.rp q l o) => bif tgB mu q then match (cut l o ti.sz).bind (layD q) with
    | some l => match svOf ti.isAg l with
      | some x => some (x, [])
      | none => none
    | none => none
    else none
  | _ => none

def fillParts (TT : List TI) (fs : List (Nat × Nat)) : List (Nat × SV) → List V → Option (List V)
  | [], l => some l
  | (i, x) :: r, l => match nth fs i, x.cells with
    | some (o, ft), some cs => match tlk ft TT with
      | some tf => bif (lenEq cs tf.sz) then match paste l o cs with
          | some l' => fillParts TT fs r l'
          | none => none
        else none
      | none => none
    | _, _ => none
def allF (TT : List TI) : List (Nat × Nat) → Bool
  | [] => true
  | (_, t) :: r => match tlk t TT with
    | some _ => allF TT r
    | none => false
def evParts (g : Gd) (fr : Fr) (gf : GF) : List (Nat × Operand) → Option (List (Nat × SV))
  | [] => some []
  | (i, x) :: r => match ev g fr gf x, evParts g fr gf r with
    | some y, some l => some ((i, y) :: l)
    | _, _ => none
def vsA : List SV → Option (List V)
  | [] => some []
  | .a x :: r => match vsA r with
    | some l => some (x :: l)
    | none => none
  | _ :: _ => none

/-- a slice to be read: its tag, an element's size, its length, its elements, what is asked -/
def slR (mu : Mu) : V → Option (Tg × Nat × Nat × (Nat → List D) × Ob)
  | .s q sz n f => some (q, sz, n, f, [])
  | .g k => match mlk k mu with
    | some (.arr sz n f) => some (.k k, sz, n, f, [])
    | some (.ro sz n f) => some (.r, sz, n, f, [])
    | _ => none
  | .sb k sz lo hi => match mlk k mu with
    | some (.arr sz' n f) => some (.k k, sz, (hi - lo).toNat, fun i => f (lo.toNat + i), [.e (sz = sz'), .o (0 ≤ lo ∧ lo ≤ hi ∧ hi ≤ n)])
    | _ => none
  | _ => none
/-- an array that is owned, and its length -/
def ownA (mu : Mu) : V → Option (Nat × Nat × Nat)
  | .g k => match mlk k mu with
    | some (.arr sz n _) => some (k, sz, n)
    | _ => none
  | _ => none
def bndV (g : Gd) (fr : Fr) (gf : GF) (d : Int) : Option Operand → Option Int
  | none => some d
  | some x => match ev g fr gf x with
    | some (.a (.v (.int _ i))) => some i
    | _ => none
/-- fields of two structs, one by one -/
def eqFs (TT : List TI) (l m : List V) : List (Nat × Nat) → Option Bool
  | [] => some true
  | (o, t) :: r => match tlk t TT, nth l o, nth m o, eqFs TT l m r with
    | some ⟨_, 1, _, .it k, _, _⟩, some (.v (.int k1 a)), some (.v (.int k2 b)), some z => match k, k1, k2 with
      | .i64, .i64, .i64 => some (bif (a == b) then z else false)
      | _, _, _ => none
    | some ⟨_, 1, _, .bo, _, _⟩, some (.v (.bool a)), some (.v (.bool b)), some z => some (bif (a == b) then z else false)
    | _, _, _, _ => none
def eqSt (TT : List TI) (ti : TI) (o : BinOp) (x y : SV) : Option Value :=
  match ti.kind, x.agL, y.agL with
  | .st fs, some l, some m => bif ti.eqf then match eqFs TT l m fs, o with
      | some b, .eql => some (.bool b)
      | some b, .neq => some (.bool (!b))
      | _, _ => none
    else none
  | _, _, _ => none
/-- the value of an operation that leaves the world alone, and what it asks -/
def pst (TT : List TI) (fr : Fr) (gf : GF) (mu : Mu) (g : Gd) (o : Op) : Option (SV × Ob) :=
  match o with
  | .move x => match ev g fr gf x with
    | some y => some (y, [])
    | none => none
  | .assign x => match ev g fr gf x with
    | some y => some (y, [])
    | none => none
  | .pick c x y => match ev g fr gf c, c with
    | some (.a (.v (.bool b))), .tmp ct => match ev ((ct, true) :: g) fr gf x, ev ((ct, false) :: g) fr gf y with
      | some (.a (.v (.bool p))), some (.a (.v (.bool q))) => some (.a (.v (.bool (bif b then p else q))), [])
      | _, _ => none
    | _, _ => none
  | .nilCheck x => match ev g fr gf x with
    | some (.a y) => match isNilP mu y with
      | some false => some (.a y, [])
      | _ => none
    | some (.fn f l) => some (.fn f l, [])
    | some (.fb φ) => some (.fb φ, [])
    | _ => none
  | .binOp op t x y _ => match ev g fr gf x, ev g fr gf y, tlk t TT with
    | some (.a x'), some (.a y'), some ti => match bop mu (constI y) ti.kind op x' y' with
      | some (v, q) => some (.a (.v v), q)
      | none => match eqSt TT ti op (.a x') (.a y') with
        | some v => some (.a (.v v), [])
        | none => none
    | some x', some y', some ti => match eqSt TT ti op x' y' with
      | some v => some (.a (.v v), [])
      | none => none
    | _, _, _ => none
  | .unOp op _ x => match op, ev g fr gf x with
    | .not, some (.a (.v (.bool b))) => some (.a (.v (.bool (!b))), [])
    | .neg, some (.a (.v (.int .i64 x))) => some (.a (.v (.int .i64 (0 - x))), [.o (InR (0 - x))])
    | _, _ => none
  | .fieldAddr t x f => match ev g fr gf x, tlk t TT with
    | some (.a y), some ⟨_, _, _, .st fs, _, _⟩ => match nth fs f with
      | some (d, ft) => match tlk ft TT with
        | some tf => bif (Nat.beq tf.sz 0) then none else match y, isNilP mu y with
          | .p k o, some false => some (.a (.p k (o + d)), [])
          | .pe k sz i o, some false => some (.a (.pe k sz i (o + d)), [])
          | .rp q l o, some false => some (.a (.rp q l (o + d)), [])
          | _, _ => none
        | none => none
      | none => none
    | _, _ => none
  | .field t x f => match ev g fr gf x, tlk t TT with
    | some y, some ⟨_, _, _, .st fs, _, _⟩ => match y.agL, nth fs f with
      | some l, some (d, ft) => match tlk ft TT with
        | some tf => match cut l d tf.sz with
          | some l' => match svOf tf.isAg l' with
            | some z => some (z, [])
            | none => none
          | none => none
        | none => none
      | _, _ => none
    | _, _ => none
  | .indexAddr t x i => match ev g fr gf x, ev g fr gf i, tlk t TT with
    | some (.a y), some (.a (.v (.int _ j))), some ⟨_, _, _, .slc e, _, _⟩ => match tlk e TT with
      | some te => match y with
        | .s q sz n f => some (.a (.rp q (f j.toNat) 0), [.e (sz = te.sz), .o (0 ≤ j ∧ j < n)])
        | .g k => match mlk k mu with
          | some (.arr _ n _) => some (.a (.pe k te.sz j 0), [.o (0 ≤ j ∧ j < n)])
          | some (.hole _ n _ _ _) => some (.a (.pe k te.sz j 0), [.o (0 ≤ j ∧ j < n)])
          | some (.ro _ n _) => some (.a (.pe k te.sz j 0), [.o (0 ≤ j ∧ j < n)])
          | _ => none
        | .sb k sz lo hi => match mlk k mu with
          | some (.arr _ n _) => some (.a (.pe k te.sz (lo + j) 0), [.e (sz = te.sz), .o (0 ≤ j ∧ j < hi - lo), .o (0 ≤ lo ∧ hi ≤ n)])
          | _ => none
        | _ => none
      | none => none
    | _, _, _ => none
  | .load t x => match ev g fr gf x, tlk t TT with
    | some y, some ti => ld ti mu y
    | _, _ => none
  | .extract x i => match ev g fr gf x with
    | some (.tu l) => match nth l i with
      | some v => some (v, [])
      | none => none
    | _ => none
  | .build t parts => match evParts g fr gf parts.toList, tlk t TT with
    | some ps, some ⟨_, _, _, .st fs, z, _⟩ => bif allF TT fs then match (vcells z).bind (fillParts TT fs ps) with
        | some l => some (.ag l, [])
        | none => none
      else none
    | _, _ => none
  | .makeFunc (.func f) first caps => match first.toList, evs g fr gf caps.toList with
    | [], some l => match vsA l with
      | some l => some (.fn f l, [])
      | none => none
    | _, _ => none
  | .call c => match c.callee, c.args.toList with
    | .builtin .len, [x] => match ev g fr gf x, (c.argTypes[0]?).bind (tlk · TT) with
      | some (.a (.s _ _ n _)), some ⟨_, _, _, .slc _, _, _⟩ => some (.a (.v (.int .i64 n)), [])
      | some (.a (.g k)), some ⟨_, _, _, .slc _, _, _⟩ => match mlk k mu with
        | some (.arr _ n _) => some (.a (.v (.int .i64 n)), [])
        | some (.ro _ n _) => some (.a (.v (.int .i64 n)), [])
        | some (.hole _ n _ _ _) => some (.a (.v (.int .i64 n)), [])
        | _ => none
      | some (.a (.sb k _ lo hi)), some ⟨_, _, _, .slc _, _, _⟩ => match mlk k mu with
        | some (.arr ..) => some (.a (.v (.int .i64 (hi - lo).toNat)), [])
        | _ => none
      | some (.a (.gl _ n)), some ⟨_, _, _, .slc _, _, _⟩ => some (.a (.v (.int .i64 n)), [])
      | some (.a (.v (.slice _ n _))), some ⟨_, _, _, .slc _, _, _⟩ => some (.a (.v (.int .i64 n)), [])
      | some (.a (.v (.string s))), some ⟨_, _, _, .str, _, _⟩ => some (.a (.v (.int .i64 s.size)), [])
      | _, _ => none
    | .builtin .max, [x, y] => match ev g fr gf x, ev g fr gf y with
      | some (.a (.v (.int .i64 a))), some (.a (.v (.int .i64 b))) => some (.a (.v (.int .i64 (if b > a then b else a))), [])
      | _, _ => none
    | .builtin .min, [x, y] => match ev g fr gf x, ev g fr gf y with
      | some (.a (.v (.int .i64 a))), some (.a (.v (.int .i64 b))) => some (.a (.v (.int .i64 (if b < a then b else a))), [])
      | _, _ => none
    | _, _ => none
  | .convert s d x => match ev g fr gf x, tlk s TT, tlk d TT with
    | some (.a (.v (.int _ n))), some ⟨_, _, _, .it _, _, _⟩, some ⟨_, _, _, .it .i64, _, _⟩ => some (.a (.v (.int .i64 n)), [.o (InR n)])
    | some (.a (.v (.int _ n))), some ⟨_, _, _, .it _, _, _⟩, some ⟨_, _, _, .it .u8, _, _⟩ => some (.a (.v (.int .u8 (IntKind.u8.wrap n))), [])
    | some (.a (.v (.int _ n))), some ⟨_, _, _, .it _, _, _⟩, some ⟨_, _, _, .it .u64, _, _⟩ => some (.a (.v (.int .u64 n)), [.o (0 ≤ n ∧ n ≤ 18446744073709551615)])
    | _, _, _ => none
  | .index t x i => match ev g fr gf x, ev g fr gf i, tlk t TT with
    | some (.a (.v (.string s))), some (.a (.v (.int _ j))), some ⟨_, _, _, .str, _, _⟩ => some (.a (.v (.int .u8 ((s.data.toList.getD j.toNat 0).toNat))), [.o (0 ≤ j ∧ j < s.size)])
    | _, _, _ => none
  | .slice t x lo hi none => match ev g fr gf x, tlk t TT with
    | some (.a (.v (.string s))), some ⟨_, _, _, .str, _, _⟩ => match bndV g fr gf 0 lo, bndV g fr gf s.size hi with
      | some a, some b => some (.a (.v (.string (s.extract a.toNat b.toNat))), [.o (0 ≤ a ∧ a ≤ b ∧ b ≤ s.size)])
      | _, _ => none
    | some (.a y), some ⟨_, _, _, .slc e, _, _⟩ => match ownA mu y, tlk e TT with
      | some (k, sz, n), some te => match bndV g fr gf 0 lo, bndV g fr gf n hi with
        | some l, some h => some (.a (.sb k sz l h), [.e (sz = te.sz), .o (0 ≤ l ∧ l ≤ h ∧ h ≤ n)])
        | _, _ => none
      | none, some te => match slR mu y with
        | some (q, sz, n, f, ob) => match lo with
          | none => match bndV g fr gf n hi with
            | some h => some (.a (.s q sz h.toNat f), .e (sz = te.sz) :: .o (0 ≤ h ∧ h ≤ n) :: ob)
            | none => none
          | some x => match bndV g fr gf 0 (some x), bndV g fr gf n hi with
            | some l, some h => some (.a (.s q sz (h - l).toNat (fun i => f (l.toNat + i))), .e (sz = te.sz) :: .o (0 ≤ l ∧ l ≤ h ∧ h ≤ n) :: ob)
            | _, _ => none
        | none => none
      | _, none => none
    | _, _ => none
  | _ => none

/-! ### which keys a value leans on -/
def V.usesB (k : Nat) : V → Bool
  | .g j => Nat.beq j k
  | .p j _ => Nat.beq j k
  | .pe j _ _ _ => Nat.beq j k
  | .sb j _ _ _ => Nat.beq j k
  | .gl j _ => Nat.beq j k
  | _ => false
def V.usesT (k : Nat) : V → Bool
  | .s (.k q) _ _ _ => Nat.beq q k
  | .rp (.k q) _ _ => Nat.beq q k
  | _ => false
def anyL (φ : V → Bool) : List V → Bool
  | [] => false
  | x :: r => bif φ x then true else anyL φ r
def SV.anyV (φ : V → Bool) : SV → Bool
  | .a x => φ x
  | .ag l => anyL φ l
  | .fn _ l => anyL φ l
  | .tu l => go l
  | _ => false
where go : List SV → Bool
  | [] => false
  | x :: r => bif SV.anyV φ x then true else go r
/-- what entries hold that lean so is forgotten -/
def frCut (φ : V → Bool) : Fr → Option Fr
  | [] => some []
  | (t, x) :: r => match frCut φ r with
    | some l => bif x.anyV φ then some ((t, .a .any) :: l) else some ((t, x) :: l)
    | none => none
def gfCut (φ : V → Bool) : GF → Option GF
  | [] => some []
  | (t, d, w, x) :: r => match gfCut φ r with
    | some l => bif x.anyV φ then some ((t, d, w, .a .any) :: l) else some ((t, d, w, x) :: l)
    | none => none
def frAny (φ : V → Bool) : Fr → Bool
  | [] => false
  | (_, x) :: r => bif x.anyV φ then true else frAny φ r
def gfAny (φ : V → Bool) : GF → Bool
  | [] => false
  | (_, _, _, x) :: r => bif x.anyV φ then true else gfAny φ r
def Ch.rowL : Ch → List V
  | .row l => l
  | .rrow l => l
  | .hole _ _ _ _ k => [.p k 0]
  | _ => []
/-- does another chunk's row lean so? -/
def muAny (φ : V → Bool) (k : Nat) : Mu → Bool
  | [] => false
  | (j, c) :: r => bif Nat.beq j k then muAny φ k r else bif anyL φ c.rowL then true else muAny φ k r
def hasK (k : Nat) : List Nat → Bool
  | [] => false
  | j :: r => bif Nat.beq j k then true else hasK k r
/-- chunk k is gone -/
def mdrop (k : Nat) : Mu → Option Mu
  | [] => some []
  | (j, c) :: r => match mdrop k r with
    | some l => bif Nat.beq j k then some l else some ((j, c) :: l)
    | none => none
/-- a chunk is laid anew, in its place -/
def mset (k : Nat) (c : Ch) : Mu → Option Mu
  | [] => some [(k, c)]
  | (j, d) :: r => bif Nat.beq j k then some ((k, c) :: r) else match mset k c r with
    | some l => some ((j, d) :: l)
    | none => none
end Go.Proofs.YtiegllklalplnaaGreat
