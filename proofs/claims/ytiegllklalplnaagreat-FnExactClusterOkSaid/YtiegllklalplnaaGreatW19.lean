
/-
  Answers, in short.
-/
import Derived.Test.YtiegllklalplnaaGreatTT
namespace Go.Proofs.YtiegllklalplnaaGreat
open Go Go.RowKit
set_option linter.unusedVariables false
set_option linter.unusedSimpArgs false

abbrev vI (n : Int) : SV := .a (.v (.int .i64 n))
abbrev vB (b : Bool) : SV := .a (.v (.bool b))
abbrev vT (s : ByteArray) : SV := .a (.v (.string s))
/-- a struct that is read -/
abbrev vR (l : List D) : SV := .ag (l.map (D.toV .r))
/-- a slice that is read -/
abbrev vL {α : Type} (sz : Nat) (enc : α → List D) (z : α) (xs : List α) : SV := .a (.s .r sz xs.length fun i => enc (xs.getD i z))
abbrev dL {α : Type} (sz : Nat) (enc : α → List D) (z : α) (xs : List α) : D := .sl sz xs.length fun i => enc (xs.getD i z)
/-- a pointer to a struct that is read -/
abbrev vP (l : List D) : SV := .a (.rp .r l 0)
section
variable {E : Env} {mu : Mu} {TT : List TI} {fr : Fr} {K : List KF}
theorem T_ans {fn : Func} {res : SV} (hT : TOk E.P TT) (ts : List (Nat × Option Nat)) (hr : fn.results = (ts.map rvOf).toArray) {x : SV} (hl : allGetC TT fr mu ts = some [x]) (hx : x = res) :
    T E (bodyPost E.P fn (RetP E (fun _ : Unit => True) (fun _ => [res]) fun _ => [])) .ret fr mu K :=
  T_ret hT () ts hr hl ⟨_, _, rfl, SV.imp_of hx, rfl⟩ trivial trivial
theorem T_ansB {fn : Func} {b b' : Bool} (hT : TOk E.P TT) (ts : List (Nat × Option Nat)) (hr : fn.results = (ts.map rvOf).toArray) (hl : allGetC TT fr mu ts = some [vB b]) (hx : b = b') :
    T E (bodyPost E.P fn (RetP E (fun _ : Unit => True) (fun _ => [vB b']) fun _ => [])) .ret fr mu K := T_ans hT ts hr hl (by rw [hx])
theorem T_ansI {fn : Func} {b b' : Int} (hT : TOk E.P TT) (ts : List (Nat × Option Nat)) (hr : fn.results = (ts.map rvOf).toArray) (hl : allGetC TT fr mu ts = some [vI b]) (hx : b = b') :
    T E (bodyPost E.P fn (RetP E (fun _ : Unit => True) (fun _ => [vI b']) fun _ => [])) .ret fr mu K := T_ans hT ts hr hl (by rw [hx])
end
end Go.Proofs.YtiegllklalplnaaGreat
