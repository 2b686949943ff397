/-
  The program's data, as plain structures, and how they lie in memory.
-/
import Derived.Test.YtiilpopeognekaaM9
namespace Go.Proofs.Ytiilpopeognekaa
open Go Go.RowKit
set_option linter.unusedVariables false
set_option linter.unusedSimpArgs false

structure GSet where
  region : Int
  slot : Int
  value : Int
  used : Bool
  version : Int
def GSet.z : GSet := ⟨0, 0, 0, false, 0⟩
def GSet.enc (s : GSet) : List Value := [.int .i64 s.region, .int .i64 s.slot, .int .i64 s.value, .bool s.used, .int .i64 s.version]
structure GNote where
  region : Int
  slot : Int
  version : Int
  value : Int
  used : Bool
def GNote.z : GNote := ⟨0, 0, 0, 0, false⟩
def GNote.enc (s : GNote) : List Value := [.int .i64 s.region, .int .i64 s.slot, .int .i64 s.version, .int .i64 s.value, .bool s.used]
structure GCell where
  head : Int
  value : Int
def GCell.z : GCell := ⟨0, 0⟩
def GCell.enc (s : GCell) : List Value := [.int .i64 s.head, .int .i64 s.value]
structure GOp where
  kind : Int
  id : Int
  a : Int
  b : Int
  c : Int
def GOp.z : GOp := ⟨0, 0, 0, 0, 0⟩
def GOp.enc (s : GOp) : List Value := [.int .i64 s.kind, .int .i64 s.id, .int .i64 s.a, .int .i64 s.b, .int .i64 s.c]
structure GTx where
  id : Int
  home : Int
  phase : Int
  done : Int
  reads : List GNote
  sets : List GSet
  stamp : Int
structure GRec where
  kind : Int
  tx : Int
  region : Int
  sets : List GSet
structure GPlace where
  machines : List Int
structure GCopy where
  region : Int
  cells : List GCell
structure GMach where
  alive : Bool
  copies : List GCopy
  log : List GRec
  cleared : List Int
structure GClus where
  config : Int
  clock : Int
  places : List GPlace
  machines : List GMach
  txs : List GTx
  lost : Bool

/-- a kind whose cells are told by the datum -/
def Kd.flat {α : Type} (enc : α → List Value) (n : Nat) (h : ∀ x, (enc x).length = n) : Kd α where
  sz := n
  rd := fun _ x vs => vs = enc x
  own := fun _ x vs => vs = enc x
  len := by rintro _ x vs rfl; exact h x
  mono := fun e _ => e
  omono := fun e _ => e
  ord := fun e => e
theorem Kd.flat_flat {α : Type} {enc : α → List Value} {n : Nat} {h : ∀ x, (enc x).length = n} : (Kd.flat enc n h).Flat enc := ⟨Iff.rfl, Iff.rfl, h⟩
def kInt : Kd Int := Kd.flat (fun x => [.int .i64 x]) 1 fun _ => rfl
def kBool : Kd Bool := Kd.flat (fun x => [.bool x]) 1 fun _ => rfl
def kByte : Kd UInt8 := Kd.flat (fun x => [.int .u8 x.toNat]) 1 fun _ => rfl
def kSet : Kd GSet := Kd.flat GSet.enc 5 fun _ => rfl
def kNote : Kd GNote := Kd.flat GNote.enc 5 fun _ => rfl
def kCell : Kd GCell := Kd.flat GCell.enc 2 fun _ => rfl
def kOp : Kd GOp := Kd.flat GOp.enc 5 fun _ => rfl

/-- a slice of a flat kind, read: an array that the machine can read -/
theorem Kd.srd_len {α : Type} {k : Kd α} {r : PH} {v : Value} {xs : List α} (h : k.srd r v xs) : xs.length ≤ maxL := by
  obtain ⟨A, c, e, n, nl, f⟩ := h; exact nl
theorem Kd.srd_flat {α : Type} {k : Kd α} {enc : α → List Value} (hk : k.Flat enc) (d : α) {n : Nat} (hn : k.sz = n) {r : PH} {v : Value} {xs : List α} (h : k.srd r v xs) :
    ∃ A c, v = .slice A xs.length c ∧ RA.ok r ⟨A, xs.length, n, fun i => enc (xs.getD i d)⟩ := by
  subst hn
  obtain ⟨A, c, e, n, nl, f⟩ := h
  refine ⟨A, c, e, fun i hi => ?_⟩
  · obtain ⟨b, o, row, ea, hr⟩ := f (by simp at hi; omega)
    refine ⟨b, o, ea, hk.sz _, fun j hj => ?_⟩
    have hx : xs[i]? = some (xs.getD i d) := by simp at hi; simp [hi]
    obtain ⟨h1, h2⟩ := hr i _ hx
    rw [h2 j hj, hk.rd.1 h1]
def arSet (A : Option Addr) (xs : List GSet) : RA := ⟨A, xs.length, 5, fun i => GSet.enc (xs.getD i GSet.z)⟩
def arNote (A : Option Addr) (xs : List GNote) : RA := ⟨A, xs.length, 5, fun i => GNote.enc (xs.getD i GNote.z)⟩
def arCell (A : Option Addr) (xs : List GCell) : RA := ⟨A, xs.length, 2, fun i => GCell.enc (xs.getD i GCell.z)⟩
def arOp (A : Option Addr) (xs : List GOp) : RA := ⟨A, xs.length, 5, fun i => GOp.enc (xs.getD i GOp.z)⟩
def arInt (A : Option Addr) (xs : List Int) : RA := ⟨A, xs.length, 1, fun i => [.int .i64 (xs.getD i 0)]⟩
def arBool (A : Option Addr) (xs : List Bool) : RA := ⟨A, xs.length, 1, fun i => [.bool (xs.getD i false)]⟩
theorem srd_set {r : PH} {v : Value} {xs : List GSet} (h : kSet.srd r v xs) : ∃ A c, v = .slice A xs.length c ∧ RA.ok r (arSet A xs) := Kd.srd_flat Kd.flat_flat GSet.z rfl h
theorem srd_note {r : PH} {v : Value} {xs : List GNote} (h : kNote.srd r v xs) : ∃ A c, v = .slice A xs.length c ∧ RA.ok r (arNote A xs) := Kd.srd_flat Kd.flat_flat GNote.z rfl h
theorem srd_cell {r : PH} {v : Value} {xs : List GCell} (h : kCell.srd r v xs) : ∃ A c, v = .slice A xs.length c ∧ RA.ok r (arCell A xs) := Kd.srd_flat Kd.flat_flat GCell.z rfl h
theorem srd_op {r : PH} {v : Value} {xs : List GOp} (h : kOp.srd r v xs) : ∃ A c, v = .slice A xs.length c ∧ RA.ok r (arOp A xs) := Kd.srd_flat Kd.flat_flat GOp.z rfl h
theorem srd_int {r : PH} {v : Value} {xs : List Int} (h : kInt.srd r v xs) : ∃ A c, v = .slice A xs.length c ∧ RA.ok r (arInt A xs) := Kd.srd_flat Kd.flat_flat 0 rfl h
theorem srd_bool {r : PH} {v : Value} {xs : List Bool} (h : kBool.srd r v xs) : ∃ A c, v = .slice A xs.length c ∧ RA.ok r (arBool A xs) := Kd.srd_flat Kd.flat_flat false rfl h
theorem GaOk.nil (r : PH) : GaOk r [] := fun _ _ e => by cases e
theorem GaOk.cons {r : PH} {k : Nat} {g : RA} {l : Ga} (h : g.ok r) (t : GaOk r l) : GaOk r ((k, g) :: l) := fun j x e => by
  rw [mlk_cons] at e
  by_cases hj : k = j
  · rw [if_pos hj] at e; injection e with e; rw [← e]; exact h
  · rw [if_neg hj] at e; exact t j x e

/-- a call that answers a plain value and leaves what there was -/
def Ret (P : Program) (f : FuncId) (args : List Value) (w : World) (v : Value) : Prop := Calls P f args.toArray w fun e w' => e = .returned v ∧ Below w.heap.size w w'
/-- a function that only reads: from its frame -/
theorem enterQ {P : Program} {f : FuncId} {fn : Func} {c : Code} {N : Nat} (hf : P.funcs[f]? = some fn) (hb : fn.body = some c) (hN : fn.ntmps = N) {args : List Value} (svs : List SV) {w : World} {r : PH} {ga : Ga} {v : Value} (hargs : ∀ B, args = svs.map (SV.den B)) (hlen : svs.length ≤ N) (hr : Fit r w) (g : GaOk r ga)
    (h : T P N r noD w (bodyPost P fn fun e w' => e = .returned v ∧ Below w.heap.size w w') c (frOf 0 svs) [] ga []) : Ret P f args w v :=
  enter hf hb hN svs (fun _ => ⟨0, 0, none⟩) (by rw [hargs]) hlen (Mem.start hr _ _) g h
theorem Mem.ext {B : BE} {r : PH} {w0 : World} {mu : Mu} {w : World} {H : Nat → PH} (m : Mem B r noD w0 mu w H) : Below w0.heap.size w0 w := m.keep.below
theorem retQ {P : Program} {N : Nat} {r : PH} {w0 : World} {fr : Fr} {mu : Mu} {ga : Ga} {K : List KF} {fn : Func} {v : Value} (ts : List Nat) (hr : fn.results = (ts.map ResultVar.tmp).toArray) {l : List SV} (hl : allGet fr ts = some l) (h : ∀ B, resV (l.map (SV.den B)) = v) :
    T P N r noD w0 (bodyPost P fn fun e w' => e = .returned v ∧ Below w0.heap.size w0 w') .ret fr mu ga K :=
  T_ret ts hr hl fun B _ _ m => ⟨by rw [h B], m.ext⟩
end Go.Proofs.Ytiilpopeognekaa
