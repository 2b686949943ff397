/-
  No cell of these rows narrows 'for every input' (looked for: loops, veiled, ifaces, maps, wideKeys, modest, calm, conditions, laid).
  DERIVED. THE GIVEN ROWS OF THIS SEAT. 2 by the template 'for every input the law returns true; each argument reads behind the call as it read before'; 0 by the template 'total and deterministic' (their statements: YtamcahpdepepfaaTotals.lean).
  GIVEN WITH THE SEED: the statements are not yours to turn. If you find one false, say at which input.
  Laid BY PROGRAM, IN A SANDBOX (cutbox-rows.mjs): the forced cells as the released guide's own fill.sh prints them over the translation 16fa7927a04bfdb7… (all of the seat's roots in one cut). By AI agents, Wed Nov 11 2026. No macro, syntax, notation, axiom, sorry.
-/
import Derived.Test.YtamcahpdepepfaaChecked
import GoSem.Claim
import GoSem.ClaimJoined
import GoSem.ClaimMapViews
import Derived.JoinedTies
import Derived.KernelRfl
namespace Go.Proofs.Ytamcahpdepepfaa
/- THE CELL 'sum', in the pinned program and in every row, IS THE sha256 OF THE DUMP (.gsa) THAT YtamcahpdepepfaaProg.lean LOADS. Nothing in Lean hashes anything: it is a label: what it is worth is what the hold of that sum in a sandbox is worth. -/
noncomputable def Try.pinned : Pinned := { name := "ytamcahpdepepfaa", sum := "16fa7927a04bfdb7c7b667a2ee2d037ffee6a1e1d63a9aedd98886a5d8754b1e", checked := Try.checked }
namespace Rows
def none {H : Type} : Left H := { results := [], args := [] }

/-- 'laws.FnWanted': WHATEVER THE INPUT: true; the input reads as it did. -/
def fnWantedSpec : ChangeSpec := { name := "fnWanted", fn := fun _ => fun
  | [d] => { results := [.lit (.bool true)], args := [d] }
  | _ => none }
def fnWantedRow : OpenClaim := { program := "ytamcahpdepepfaa", sum := "16fa7927a04bfdb7c7b667a2ee2d037ffee6a1e1d63a9aedd98886a5d8754b1e", func := "loop.example/g00153/laws.FnWanted", spec := "fnWanted", unfollowed := true, recurses := true, apart := false }
def FnWantedSaid : Prop := fnWantedRow.holds Try.pinned (OpenSpec.ofChange fnWantedSpec)

/-- ITS FALSE NEIGHBOUR: 'it returns false'. Refute it at one input. -/
def fnWantedWrong : ChangeSpec := { name := "fnWanted", fn := fun _ => fun
  | [d] => { results := [.lit (.bool false)], args := [d] }
  | _ => none }
def FnWantedWrongFalsely : Prop := fnWantedRow.holds Try.pinned (OpenSpec.ofChange fnWantedWrong)

/-- 'laws.FnNoted': WHATEVER THE INPUT: true; the input reads as it did. -/
def fnNotedSpec : ChangeSpec := { name := "fnNoted", fn := fun _ => fun
  | [d] => { results := [.lit (.bool true)], args := [d] }
  | _ => none }
def fnNotedRow : OpenClaim := { program := "ytamcahpdepepfaa", sum := "16fa7927a04bfdb7c7b667a2ee2d037ffee6a1e1d63a9aedd98886a5d8754b1e", func := "loop.example/g00153/laws.FnNoted", spec := "fnNoted", inPlace := ["slices.overlaps[loop.example/g00153/impl.Note]", "slices.overlaps[loop.example/g00153/impl.Set]"], unfollowed := true, recurses := true, apart := false }
def FnNotedSaid : Prop := fnNotedRow.holds Try.pinned (OpenSpec.ofChange fnNotedSpec)

/-- ITS FALSE NEIGHBOUR: 'it returns false'. Refute it at one input. -/
def fnNotedWrong : ChangeSpec := { name := "fnNoted", fn := fun _ => fun
  | [d] => { results := [.lit (.bool false)], args := [d] }
  | _ => none }
def FnNotedWrongFalsely : Prop := fnNotedRow.holds Try.pinned (OpenSpec.ofChange fnNotedWrong)

/- THE SECOND FORM. 'bulk': how many values and letters a reading holds, each counted each time it is reached (what is shared counts as often as it is met; a slice's spare places count too). A statement '..UptoSaid' is the law's where the arguments, and the package variables that the reading takes, are together of bulk at most 1048576: NARROWER than '..Said'. Prove '..Said' where nothing that the law and all that it calls make is longer than what came in: it says more and counts as full. Else prove '..UptoSaid'. A law counts once. -/
mutual
def uptoBulk {H : Type} : DataW H → Nat
  | .lit (.string bytes) => bytes.length + 1
  | .lit _ => 1
  | .nil => 1
  | .ptr d => uptoBulk d + 1
  | .slice elems spare => uptoBulkAll elems + uptoBulkAll spare + 1
  | .agg parts => uptoBulkAll parts + 1
  | .iface _ d => uptoBulk d + 1
  | .map entries => uptoBulkEntries entries + 1
  | .held _ => 1
def uptoBulkAll {H : Type} : List (DataW H) → Nat
  | [] => 0
  | d :: r => uptoBulk d + uptoBulkAll r
def uptoBulkEntries {H : Type} : List (Lit × DataW H) → Nat
  | [] => 0
  | x :: r => uptoBulkEntry x + uptoBulkEntries r
def uptoBulkEntry {H : Type} : Lit × DataW H → Nat
  | (.string bytes, d) => bytes.length + uptoBulk d + 1
  | (_, d) => uptoBulk d + 1
 end
def uptoSmall : (H : Type) → List (DataW H) → Bool := fun _ ds => decide (uptoBulkAll ds ≤ 1048576)
def OpenSpec.upto (s : _root_.Go.ChangeSpec) : _root_.Go.OpenSpec := { _root_.Go.OpenSpec.ofChange s with cond := some uptoSmall }

/-- 'laws.FnWanted', WHERE WHAT IT READS IS OF BULK AT MOST 1048576: true; the input reads as it did. -/
def fnWantedUptoRow : OpenClaim := { program := "ytamcahpdepepfaa", sum := "16fa7927a04bfdb7c7b667a2ee2d037ffee6a1e1d63a9aedd98886a5d8754b1e", func := "loop.example/g00153/laws.FnWanted", spec := "fnWanted", unfollowed := true, recurses := true, apart := false, narrowed := true }
def FnWantedUptoSaid : Prop := fnWantedUptoRow.holds Try.pinned (OpenSpec.upto fnWantedSpec)

/-- 'laws.FnNoted', WHERE WHAT IT READS IS OF BULK AT MOST 1048576: true; the input reads as it did. -/
def fnNotedUptoRow : OpenClaim := { program := "ytamcahpdepepfaa", sum := "16fa7927a04bfdb7c7b667a2ee2d037ffee6a1e1d63a9aedd98886a5d8754b1e", func := "loop.example/g00153/laws.FnNoted", spec := "fnNoted", inPlace := ["slices.overlaps[loop.example/g00153/impl.Note]", "slices.overlaps[loop.example/g00153/impl.Set]"], unfollowed := true, recurses := true, apart := false, narrowed := true }
def FnNotedUptoSaid : Prop := fnNotedUptoRow.holds Try.pinned (OpenSpec.upto fnNotedSpec)

end Rows
end Go.Proofs.Ytamcahpdepepfaa
