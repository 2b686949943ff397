/-
  The symbolic machine: annotated values, frames, chunks of memory, and the functions that step through operations. Definitions alone.
-/
import Derived.Test.YtiilpopeognekaaK
namespace Go.Proofs.Ytiilpopeognekaa
open Go Go.RowKit
set_option linter.unusedVariables false
set_option linter.unusedSimpArgs false

/-- A value of one cell, with what is known of where it leads. -/
inductive AV where
  | v (x : Value)
  | p (k o : Nat)
  | sl (k : Nat) (A : Option Addr) (n c : Nat)
  | pe (k : Nat) (A : Option Addr) (n : Nat) (i : Int) (sz o : Nat)
  | rs (k : Nat) (A : Option Addr) (n c : Nat)
  | re (k : Nat) (A : Option Addr) (n : Nat) (i : Int) (sz o : Nat)
inductive SV where
  | a (x : AV)
  | ag (l : List AV)
  | fn (f : Nat) (l : List AV)
  | un

abbrev BE := Nat → Addr
def elP (A : Option Addr) (i : Int) (sz o : Nat) : Value :=
  .pointer (some (((A.getD ⟨0, 0, none⟩).add (i.toNat * sz)).add o))
def AV.den (B : BE) : AV → Value
  | .v x => x
  | .p k o => .pointer (some ((B k).add o))
  | .sl _ A n c => .slice A n c
  | .pe _ A _ i sz o => elP A i sz o
  | .rs _ A n c => .slice A n c
  | .re _ A _ i sz o => elP A i sz o
def SV.den (B : BE) : SV → Value
  | .a x => x.den B
  | .ag l => .agg (l.map (AV.den B)).toArray
  | .fn f l => .func (.func f) #[] (l.map (AV.den B)).toArray
  | .un => undef

/-- an array that is only read: its address, length, capacity, an element's cells -/
structure RA where
  A : Option Addr
  n : Nat
  sz : Nat
  row : Nat → List Value
inductive Ch where
  | cells (l : List AV)
  | arr (A : Option Addr) (n c sz : Nat) (rows : Nat → List Value)
  | own (φ : PH → Prop)

inductive TK where
  | sc | bo | ptr | str
  | it (k : IntKind)
  | st (l : List (Nat × Nat))
  | slc (e : Nat)
  | ar (n e : Nat)
structure TI where
  id : Nat
  sz : Nat
  by_ : Nat
  kind : TK
  zero : Value
def shapeK : TypeDesc → TK
  | .struct fs => .st (fs.toList.map fun f => (f.offset, f.type))
  | .slice e => .slc e
  | .array n e => .ar n e
  | .bool => .bo
  | .pointer _ => .ptr
  | .string => .str
  | .int k => .it k
  | _ => .sc
def TI.ok (P : Program) (ti : TI) : Prop :=
  (P.underlying ti.id).map shapeK = some ti.kind ∧ (P.info? ti.id).map (fun i => (i.size, i.bytes)) = some (ti.sz, ti.by_) ∧ (P.info? ti.id).bind (·.zero) = some ti.zero
def TOk (P : Program) : List TI → Prop
  | [] => True
  | t :: r => t.ok P ∧ TOk P r

abbrev Fr := List (Nat × SV)
abbrev GF := List (Nat × Nat × Bool × SV)
abbrev Mu := List (Nat × Ch)
abbrev Ga := List (Nat × RA)

def mlk {α : Type} (k : Nat) : List (Nat × α) → Option α
  | [] => none
  | (j, c) :: r => bif Nat.beq j k then some c else mlk k r
def tlk (t : Nat) : List TI → Option TI
  | [] => none
  | e :: r => bif Nat.beq e.id t then some e else tlk t r
def glk (t : Nat) : GF → Option (Nat × Bool × SV)
  | [] => none
  | (j, c) :: r => bif Nat.beq j t then some c else glk t r
/-- an entry of slot t, or that hangs on slot t, is forgotten -/
def gdrop (t : Nat) : GF → Option GF
  | [] => some []
  | (j, d, w, x) :: r => match gdrop t r with
    | some l => bif (Nat.beq j t || Nat.beq d t) then some l else some ((j, d, w, x) :: l)
    | none => none
/-- a list, laid open -/
def lay {α : Type} : List α → Option (List α)
  | [] => some []
  | x :: r => match lay r with
    | some l => some (x :: l)
    | none => none
def layV : List Value → Option (List AV)
  | [] => some []
  | x :: r => match layV r with
    | some l => some (.v x :: l)
    | none => none

/-- the guards that are known to hold: slot d holds w -/
abbrev Gd := List (Nat × Bool)
def gHas (d : Nat) (w : Bool) : Gd → Bool
  | [] => false
  | (d', w') :: r => bif (Nat.beq d' d && (w' == w)) then true else gHas d w r
def ev (g : Gd) (fr : Fr) (gf : GF) : Operand → Option SV
  | .tmp t => match glk t gf with
    | some (d, w, x) => bif gHas d w g then some x else none
    | none => mlk t fr
  | .const c => some (.a (.v c))
  | .func f => some (.fn f [])
  | .global _ => none
def evs (g : Gd) (fr : Fr) (gf : GF) : List Operand → Option (List SV)
  | [] => some []
  | x :: r => match ev g fr gf x, evs g fr gf r with
    | some y, some l => some (y :: l)
    | _, _ => none

def InR (x : Int) : Prop := -9223372036854775808 ≤ x ∧ x ≤ 9223372036854775807
def andI (x y : Int) : Int := IntKind.i64.wrap ((BitVec.ofInt 64 x &&& BitVec.ofInt 64 y).toNat)
def orI (x y : Int) : Int := IntKind.i64.wrap ((BitVec.ofInt 64 x ||| BitVec.ofInt 64 y).toNat)
def anI (x y : Int) : Int := IntKind.i64.wrap ((BitVec.ofInt 64 x &&& ~~~ (BitVec.ofInt 64 y)).toNat)

/-- what is asked: e: holds by looking; o: to be shown -/
inductive OB where
  | e (p : Prop)
  | o (p : Prop)
def OB.p : OB → Prop
  | .e p => p
  | .o p => p
abbrev Ob := List OB
def Alls : Ob → Prop
  | [] => True
  | x :: r => x.p ∧ Alls r
/-- an obligation under guards -/
inductive GO where
  | t (p : Prop)
  | g (b w : Bool) (r : GO)
def GO.p : GO → Prop
  | .t p => p
  | .g b w r => b = w → r.p
def GAlls : List GO → Prop
  | [] => True
  | x :: r => x.p ∧ GAlls r
def PAlls : List Prop → Prop
  | [] => True
  | x :: r => x ∧ PAlls r

def cmpI (o : BinOp) (x y : Int) : Option Bool :=
  match o with
  | .eql => some (x == y)
  | .neq => some (x != y)
  | .lss => some (decide (x < y))
  | .leq => some (decide (x ≤ y))
  | .gtr => some (decide (x > y))
  | .geq => some (decide (x ≥ y))
  | _ => none
def bopI (o : BinOp) (x y : Int) : Option (Value × Ob) :=
  match o with
  | .add => some (.int .i64 (x + y), [.o (InR (x + y))])
  | .sub => some (.int .i64 (x - y), [.o (InR (x - y))])
  | .mul => some (.int .i64 (x * y), [.o (InR (x * y))])
  | .quo => some (.int .i64 (x.tdiv y), [.o (y ≠ 0), .o (InR (x.tdiv y))])
  | .rem => some (.int .i64 (x.tmod y), [.o (y ≠ 0)])
  | .and => some (.int .i64 (andI x y), [])
  | .or => some (.int .i64 (orI x y), [])
  | .andNot => some (.int .i64 (anI x y), [])
  | o => match cmpI o x y with
    | some b => some (.bool b, [])
    | none => none
def bopU (o : BinOp) (x y : Int) : Option (Value × Ob) :=
  match o with
  | .add => some (.int .u8 (IntKind.u8.wrap (x + y)), [])
  | .sub => some (.int .u8 (IntKind.u8.wrap (x - y)), [])
  | o => match cmpI o x y with
    | some b => some (.bool b, [])
    | none => none
def bopS (o : BinOp) (x y : ByteArray) : Option (Value × Ob) :=
  match o with
  | .add => some (.string (x ++ y), [.o (((x.size + y.size : Nat) : Int) ≤ 9223372036854775807)])
  | .eql => some (.bool (x.toList == y.toList), [])
  | .neq => some (.bool (!(x.toList == y.toList)), [])
  | _ => none
def isNilS : AV → Option Bool
  | .sl _ A _ _ => some A.isNone
  | .rs _ A _ _ => some A.isNone
  | .v (.slice A _ _) => some A.isNone
  | _ => none
def isNilP : AV → Option Bool
  | .p _ _ => some false
  | .v (.pointer A) => some A.isNone
  | _ => none
def bop (k : TK) (o : BinOp) (x y : AV) : Option (Value × Ob) :=
  match x, y with
  | .v (.int .i64 a), .v (.int .i64 b) => bopI o a b
  | .v (.int .u8 a), .v (.int .u8 b) => bopU o a b
  | .v (.string a), .v (.string b) => bopS o a b
  | .v (.bool a), .v (.bool b) => match k, o with
    | .bo, .eql => some (.bool (a == b), [])
    | .bo, .neq => some (.bool (!(a == b)), [])
    | _, _ => none
  | x, .v (.slice none _ _) => match k, o, isNilS x with
    | .slc _, .eql, some b => some (.bool b, [])
    | .slc _, .neq, some b => some (.bool (!b), [])
    | _, _, _ => none
  | x, .v (.pointer none) => match k, o, isNilP x with
    | .ptr, .eql, some b => some (.bool b, [])
    | .ptr, .neq, some b => some (.bool (!b), [])
    | _, _, _ => none
  | _, _ => none

def vcellsL : Value → List AV
  | .agg cs => cs.toList.map AV.v
  | x => [.v x]
def vcells : Value → Option (List AV)
  | .agg cs => layV cs.toList
  | x => some [.v x]
/-- the cells of a value -/
def SV.cells : SV → Option (List AV)
  | .a (.v x) => vcells x
  | .a x => some [x]
  | .ag l => some l
  | _ => none
def SV.agL : SV → Option (List AV)
  | .a (.v (.agg cs)) => layV cs.toList
  | .ag l => some l
  | _ => none
/-- may it lie in one cell? -/
def oneV : Value → Bool
  | .agg _ => false
  | .tuple _ => false
  | _ => true
def AV.one : AV → Bool
  | .v x => oneV x
  | _ => true
def allOne : List AV → Bool
  | [] => true
  | x :: r => bif x.one then allOne r else false
def lenEq {α : Type} : List α → Nat → Bool
  | [], 0 => true
  | _ :: r, n + 1 => lenEq r n
  | _, _ => false
def nth {α : Type} : List α → Nat → Option α
  | [], _ => none
  | x :: _, 0 => some x
  | _ :: r, n + 1 => nth r n
/-- n entries from place o on, if there are so many -/
def cut {α : Type} : List α → Nat → Nat → Option (List α)
  | _, 0, 0 => some []
  | x :: r, 0, n + 1 => match cut r 0 n with
    | some l => some (x :: l)
    | none => none
  | _ :: r, o + 1, n => cut r o n
  | [], _, _ => none
/-- the entries from place o on are replaced -/
def paste {α : Type} : List α → Nat → List α → Option (List α)
  | l, 0, [] => some l
  | _ :: r, 0, y :: ys => match paste r 0 ys with
    | some l => some (y :: l)
    | none => none
  | x :: r, o + 1, ys => match paste r o ys with
    | some l => some (x :: l)
    | none => none
  | [], _, _ => none
def svOf (ag : Bool) : List AV → Option SV
  | [x] => bif ag then some (.ag [x]) else some (.a x)
  | l => bif ag then some (.ag l) else none
def TI.isAg (ti : TI) : Bool := match ti.kind with
  | .st _ => true
  | .ar _ _ => true
  | _ => false

/-- what a load finds -/
def ld (ti : TI) (mu : Mu) (ga : Ga) : SV → Option (SV × Ob)
  | .a (.p k o) => match mlk k mu with
    | some (.cells l) => match cut l o ti.sz with
      | some l => match svOf ti.isAg l with
        | some x => some (x, [])
        | none => none
      | none => none
    | _ => none
  | .a (.pe k A n i sz o) => match mlk k mu with
    | some (.arr A' n' _ sz' rows) => match cut (rows i.toNat) o ti.sz with
      | some l => match (layV l).bind (svOf ti.isAg) with
        | some x => some (x, [.e (A = A'), .e (n = n'), .e (sz = sz'), .o (0 ≤ i ∧ i < n)])
        | none => none
      | none => none
    | _ => none
  | .a (.re k A n i sz o) => match mlk k ga with
    | some ⟨A', n', sz', row⟩ => match cut (row i.toNat) o ti.sz with
      | some l => match (layV l).bind (svOf ti.isAg) with
        | some x => some (x, [.e (A = A'), .e (n = n'), .e (sz = sz'), .o (0 ≤ i ∧ i < n)])
        | none => none
      | none => none
    | _ => none
  | _ => none

def fillParts (TT : List TI) (fs : List (Nat × Nat)) : List (Nat × SV) → List AV → Option (List AV)
  | [], l => some l
  | (i, x) :: r, l => match nth fs i, x.cells with
    | some (o, ft), some cs => match tlk ft TT with
      | some tf => bif (lenEq cs tf.sz) then match paste l o cs with
          | some l' => fillParts TT fs r l'
          | none => none
        else none
      | none => none
    | _, _ => none
def allF (TT : List TI) : List (Nat × Nat) → Bool
  | [] => true
  | (_, t) :: r => match tlk t TT with
    | some _ => allF TT r
    | none => false
def evParts (g : Gd) (fr : Fr) (gf : GF) : List (Nat × Operand) → Option (List (Nat × SV))
  | [] => some []
  | (i, x) :: r => match ev g fr gf x, evParts g fr gf r with
    | some y, some l => some ((i, y) :: l)
    | _, _ => none
def avs : List SV → Option (List AV)
  | [] => some []
  | .a x :: r => match avs r with
    | some l => some (x :: l)
    | none => none
  | _ :: _ => none

/-- the value of an operation that leaves the world alone, and what it asks -/
def pst (TT : List TI) (fr : Fr) (gf : GF) (mu : Mu) (ga : Ga) (g : Gd) (o : Op) : Option (SV × Ob) :=
  match o with
  | .move x => match ev g fr gf x with
    | some y => some (y, [])
    | none => none
  | .assign x => match ev g fr gf x with
    | some y => some (y, [])
    | none => none
  | .pick c x y => match ev g fr gf c, c with
    | some (.a (.v (.bool b))), .tmp ct => match ev ((ct, true) :: g) fr gf x, ev ((ct, false) :: g) fr gf y with
      | some (.a (.v (.bool p))), some (.a (.v (.bool q))) => some (.a (.v (.bool (bif b then p else q))), [])
      | _, _ => none
    | _, _ => none
  | .nilCheck x => match ev g fr gf x with
    | some (.a (.p k o)) => some (.a (.p k o), [])
    | some (.a (.pe k A n i sz o)) => some (.a (.pe k A n i sz o), [])
    | some (.a (.re k A n i sz o)) => some (.a (.re k A n i sz o), [])
    | some (.a (.v (.pointer (some p)))) => some (.a (.v (.pointer (some p))), [])
    | _ => none
  | .binOp op t x y _ => match ev g fr gf x, ev g fr gf y, tlk t TT with
    | some (.a x), some (.a y), some ti => match bop ti.kind op x y with
      | some (v, q) => some (.a (.v v), q)
      | none => none
    | _, _, _ => none
  | .unOp op _ x => match op, ev g fr gf x with
    | .not, some (.a (.v (.bool b))) => some (.a (.v (.bool (!b))), [])
    | .neg, some (.a (.v (.int .i64 x))) => some (.a (.v (.int .i64 (0 - x))), [.o (InR (0 - x))])
    | _, _ => none
  | .fieldAddr t x f => match ev g fr gf x, tlk t TT with
    | some (.a y), some ⟨_, _, _, .st fs, _⟩ => match nth fs f with
      | some (d, ft) => match tlk ft TT with
        | some tf => bif (Nat.beq tf.sz 0) then none else match y with
          | .p k o => some (.a (.p k (o + d)), [])
          | .pe k A n i sz o => some (.a (.pe k A n i sz (o + d)), [])
          | .re k A n i sz o => some (.a (.re k A n i sz (o + d)), [])
          | _ => none
        | none => none
      | none => none
    | _, _ => none
  | .field t x f => match ev g fr gf x, tlk t TT with
    | some y, some ⟨_, _, _, .st fs, _⟩ => match y.agL, nth fs f with
      | some l, some (d, ft) => match tlk ft TT with
        | some tf => match cut l d tf.sz with
          | some l' => match svOf tf.isAg l' with
            | some z => some (z, [])
            | none => none
          | none => none
        | none => none
      | _, _ => none
    | _, _ => none
  | .indexAddr t x i => match ev g fr gf x, ev g fr gf i, tlk t TT with
    | some (.a y), some (.a (.v (.int _ j))), some ⟨_, _, _, .slc e, _⟩ => match tlk e TT with
      | some te => match y with
        | .rs k A n _ => match mlk k ga with
          | some ⟨A', n', _, _⟩ => some (.a (.re k A n j te.sz 0), [.e (A = A'), .e (n = n'), .o (0 ≤ j ∧ j < n)])
          | none => none
        | .sl k A n _ => match mlk k mu with
          | some (.arr A' n' _ _ _) => some (.a (.pe k A n j te.sz 0), [.e (A = A'), .e (n = n'), .o (0 ≤ j ∧ j < n)])
          | _ => none
        | _ => none
      | none => none
    | _, _, _ => none
  | .load t x => match ev g fr gf x, tlk t TT with
    | some y, some ti => ld ti mu ga y
    | _, _ => none
  | .extract x i => match ev g fr gf x with
    | some (.a (.v (.tuple vs))) => match nth vs.toList i with
      | some v => some (.a (.v v), [])
      | none => none
    | _ => none
  | .build t parts => match evParts g fr gf parts.toList, tlk t TT with
    | some ps, some ⟨_, _, _, .st fs, z⟩ => bif allF TT fs then match (vcells z).bind (fillParts TT fs ps) with
        | some l => some (.ag l, [])
        | none => none
      else none
    | _, _ => none
  | .makeFunc (.func f) first caps => match first.toList, evs g fr gf caps.toList with
    | [], some l => match avs l with
      | some l => some (.fn f l, [])
      | none => none
    | _, _ => none
  | .call c => match c.callee, c.args.toList with
    | .builtin .len, [x] => match ev g fr gf x, (c.argTypes[0]?).bind (tlk · TT) with
      | some (.a (.rs _ _ n _)), some ⟨_, _, _, .slc _, _⟩ => some (.a (.v (.int .i64 n)), [])
      | some (.a (.sl _ _ n _)), some ⟨_, _, _, .slc _, _⟩ => some (.a (.v (.int .i64 n)), [])
      | some (.a (.v (.slice _ n _))), some ⟨_, _, _, .slc _, _⟩ => some (.a (.v (.int .i64 n)), [])
      | some (.a (.v (.string s))), some ⟨_, _, _, .str, _⟩ => some (.a (.v (.int .i64 s.size)), [])
      | _, _ => none
    | .builtin .max, [x, y] => match ev g fr gf x, ev g fr gf y with
      | some (.a (.v (.int .i64 a))), some (.a (.v (.int .i64 b))) => some (.a (.v (.int .i64 (if b > a then b else a))), [])
      | _, _ => none
    | .builtin .min, [x, y] => match ev g fr gf x, ev g fr gf y with
      | some (.a (.v (.int .i64 a))), some (.a (.v (.int .i64 b))) => some (.a (.v (.int .i64 (if b < a then b else a))), [])
      | _, _ => none
    | _, _ => none
  | .convert s d x => match ev g fr gf x, tlk s TT, tlk d TT with
    | some (.a (.v (.int _ n))), some ⟨_, _, _, .it _, _⟩, some ⟨_, _, _, .it .i64, _⟩ => some (.a (.v (.int .i64 n)), [.o (InR n)])
    | some (.a (.v (.int _ n))), some ⟨_, _, _, .it _, _⟩, some ⟨_, _, _, .it .u8, _⟩ => some (.a (.v (.int .u8 (IntKind.u8.wrap n))), [])
    | _, _, _ => none
  | .index t x i => match ev g fr gf x, ev g fr gf i, tlk t TT with
    | some (.a (.v (.string s))), some (.a (.v (.int _ j))), some ⟨_, _, _, .str, _⟩ => some (.a (.v (.int .u8 ((s.data.toList.getD j.toNat 0).toNat))), [.o (0 ≤ j ∧ j < s.size)])
    | _, _, _ => none
  | .slice t x lo hi none => match ev g fr gf x, tlk t TT with
    | some (.a (.v (.string s))), some ⟨_, _, _, .str, _⟩ => match lo, hi with
      | some l, some h => match ev g fr gf l, ev g fr gf h with
        | some (.a (.v (.int _ a))), some (.a (.v (.int _ b))) => some (.a (.v (.string (s.extract a.toNat b.toNat))), [.o (0 ≤ a ∧ a ≤ b ∧ b ≤ s.size)])
        | _, _ => none
      | some l, none => match ev g fr gf l with
        | some (.a (.v (.int _ a))) => some (.a (.v (.string (s.extract a.toNat s.size))), [.o (0 ≤ a ∧ a ≤ s.size)])
        | _ => none
      | none, some h => match ev g fr gf h with
        | some (.a (.v (.int _ b))) => some (.a (.v (.string (s.extract 0 b.toNat))), [.o (0 ≤ b ∧ b ≤ s.size)])
        | _ => none
      | _, _ => none
    | _, _ => none
  | _ => none

/-- is chunk k named? -/
def AV.names (k : Nat) : AV → Bool
  | .p j _ => Nat.beq j k
  | _ => false
def namesL (k : Nat) : List AV → Bool
  | [] => false
  | x :: r => bif x.names k then true else namesL k r
def SV.names (k : Nat) : SV → Bool
  | .a x => x.names k
  | .ag l => namesL k l
  | .fn _ l => namesL k l
  | .un => false
def frNames (k : Nat) : Fr → Bool
  | [] => false
  | (_, x) :: r => bif x.names k then true else frNames k r
def gfNames (k : Nat) : GF → Bool
  | [] => false
  | (_, _, _, x) :: r => bif x.names k then true else gfNames k r
/-- chunk k is named in another chunk, or one whose cells are no list -/
def muNames (k : Nat) : Mu → Bool
  | [] => false
  | (j, .cells l) :: r => bif Nat.beq j k then muNames k r else bif namesL k l then true else muNames k r
  | (_, .arr ..) :: r => muNames k r
  | (_, .own _) :: r => muNames k r
/-- chunk k is gone -/
def mdrop (k : Nat) : Mu → Mu
  | [] => []
  | (j, c) :: r => bif Nat.beq j k then mdrop k r else (j, c) :: mdrop k r

end Go.Proofs.Ytiilpopeognekaa
