/-
  No cell of these rows narrows 'for every input' (looked for: loops, veiled, ifaces, maps, wideKeys, modest, calm, conditions, laid).
  DERIVED. THE GIVEN ROWS OF THIS SEAT. 5 by the template 'for every input the law returns true; each argument reads behind the call as it read before'; 0 by the template 'total and deterministic' (their statements: YtpfcfepbhdkpdaaGreatTotals.lean).
  GIVEN WITH THE SEED: the statements are not yours to turn. If you find one false, say at which input.
  Laid BY PROGRAM, IN A SANDBOX (cutbox-rows.mjs): the forced cells as the released guide's own fill.sh prints them over the translation 5cdf672e3bbeb7ab… (all of the seat's roots in one cut). By AI agents, Wed Nov 11 2026. No macro, syntax, notation, axiom, sorry.
-/
import Derived.Test.YtpfcfepbhdkpdaaGreatChecked
import GoSem.Claim
import GoSem.ClaimJoined
import GoSem.ClaimMapViews
import Derived.JoinedTies
import Derived.KernelRfl
namespace Go.Proofs.YtpfcfepbhdkpdaaGreat
/- THE CELL 'sum', in the pinned program and in every row, IS THE sha256 OF THE DUMP (.gsa) THAT YtpfcfepbhdkpdaaGreatProg.lean LOADS. Nothing in Lean hashes anything: it is a label: what it is worth is what the hold of that sum in a sandbox is worth. -/
noncomputable def Tryz.pinned : Pinned := { name := "ytpfcfepbhdkpdaagreat", sum := "5cdf672e3bbeb7ab9ab64a0fa7bcf7c636294cc30cf47e17572d08501c3a0047", checked := Tryz.checked }
namespace Rows
def none {H : Type} : Left H := { results := [], args := [] }

/-- 'laws.FnExactCommit': WHATEVER THE INPUT: true; the input reads as it did. -/
def fnExactCommitSpec : ChangeSpec := { name := "fnExactCommit", fn := fun _ => fun
  | [d1, d2] => { results := [.lit (.bool true)], args := [d1, d2] }
  | _ => none }
def fnExactCommitRow : OpenClaim := { program := "ytpfcfepbhdkpdaagreat", sum := "5cdf672e3bbeb7ab9ab64a0fa7bcf7c636294cc30cf47e17572d08501c3a0047", func := "loop.example/g00153/laws.FnExactCommit", spec := "fnExactCommit", unfollowed := true, recurses := true, apart := false }
def FnExactCommitSaid : Prop := fnExactCommitRow.holds Tryz.pinned (OpenSpec.ofChange fnExactCommitSpec)

/-- ITS FALSE NEIGHBOUR: 'it returns false'. Refute it at one input. -/
def fnExactCommitWrong : ChangeSpec := { name := "fnExactCommit", fn := fun _ => fun
  | [d1, d2] => { results := [.lit (.bool false)], args := [d1, d2] }
  | _ => none }
def FnExactCommitWrongFalsely : Prop := fnExactCommitRow.holds Tryz.pinned (OpenSpec.ofChange fnExactCommitWrong)

/-- 'laws.FnExactRead': WHATEVER THE INPUT: true; the input reads as it did. -/
def fnExactReadSpec : ChangeSpec := { name := "fnExactRead", fn := fun _ => fun
  | [d1, d2, d3, d4] => { results := [.lit (.bool true)], args := [d1, d2, d3, d4] }
  | _ => none }
def fnExactReadRow : OpenClaim := { program := "ytpfcfepbhdkpdaagreat", sum := "5cdf672e3bbeb7ab9ab64a0fa7bcf7c636294cc30cf47e17572d08501c3a0047", func := "loop.example/g00153/laws.FnExactRead", spec := "fnExactRead", inPlace := ["slices.overlaps[loop.example/g00153/impl.Note]"], unfollowed := true, recurses := true, apart := false }
def FnExactReadSaid : Prop := fnExactReadRow.holds Tryz.pinned (OpenSpec.ofChange fnExactReadSpec)

/-- ITS FALSE NEIGHBOUR: 'it returns false'. Refute it at one input. -/
def fnExactReadWrong : ChangeSpec := { name := "fnExactRead", fn := fun _ => fun
  | [d1, d2, d3, d4] => { results := [.lit (.bool false)], args := [d1, d2, d3, d4] }
  | _ => none }
def FnExactReadWrongFalsely : Prop := fnExactReadRow.holds Tryz.pinned (OpenSpec.ofChange fnExactReadWrong)

/-- 'laws.FnExactAlloc': WHATEVER THE INPUT: true; the input reads as it did. -/
def fnExactAllocSpec : ChangeSpec := { name := "fnExactAlloc", fn := fun _ => fun
  | [d1, d2, d3] => { results := [.lit (.bool true)], args := [d1, d2, d3] }
  | _ => none }
def fnExactAllocRow : OpenClaim := { program := "ytpfcfepbhdkpdaagreat", sum := "5cdf672e3bbeb7ab9ab64a0fa7bcf7c636294cc30cf47e17572d08501c3a0047", func := "loop.example/g00153/laws.FnExactAlloc", spec := "fnExactAlloc", inPlace := ["slices.overlaps[loop.example/g00153/impl.Note]", "slices.overlaps[loop.example/g00153/impl.Set]"], unfollowed := true, recurses := true, apart := false }
def FnExactAllocSaid : Prop := fnExactAllocRow.holds Tryz.pinned (OpenSpec.ofChange fnExactAllocSpec)

/-- ITS FALSE NEIGHBOUR: 'it returns false'. Refute it at one input. -/
def fnExactAllocWrong : ChangeSpec := { name := "fnExactAlloc", fn := fun _ => fun
  | [d1, d2, d3] => { results := [.lit (.bool false)], args := [d1, d2, d3] }
  | _ => none }
def FnExactAllocWrongFalsely : Prop := fnExactAllocRow.holds Tryz.pinned (OpenSpec.ofChange fnExactAllocWrong)

/-- 'laws.FnExactDrop': WHATEVER THE INPUT: true; the input reads as it did. -/
def fnExactDropSpec : ChangeSpec := { name := "fnExactDrop", fn := fun _ => fun
  | [d1, d2, d3, d4] => { results := [.lit (.bool true)], args := [d1, d2, d3, d4] }
  | _ => none }
def fnExactDropRow : OpenClaim := { program := "ytpfcfepbhdkpdaagreat", sum := "5cdf672e3bbeb7ab9ab64a0fa7bcf7c636294cc30cf47e17572d08501c3a0047", func := "loop.example/g00153/laws.FnExactDrop", spec := "fnExactDrop", inPlace := ["slices.overlaps[loop.example/g00153/impl.Note]", "slices.overlaps[loop.example/g00153/impl.Set]"], unfollowed := true, recurses := true, apart := false }
def FnExactDropSaid : Prop := fnExactDropRow.holds Tryz.pinned (OpenSpec.ofChange fnExactDropSpec)

/-- ITS FALSE NEIGHBOUR: 'it returns false'. Refute it at one input. -/
def fnExactDropWrong : ChangeSpec := { name := "fnExactDrop", fn := fun _ => fun
  | [d1, d2, d3, d4] => { results := [.lit (.bool false)], args := [d1, d2, d3, d4] }
  | _ => none }
def FnExactDropWrongFalsely : Prop := fnExactDropRow.holds Tryz.pinned (OpenSpec.ofChange fnExactDropWrong)

/-- 'laws.FnExactWrite': WHATEVER THE INPUT: true; the input reads as it did. -/
def fnExactWriteSpec : ChangeSpec := { name := "fnExactWrite", fn := fun _ => fun
  | [d1, d2, d3, d4, d5] => { results := [.lit (.bool true)], args := [d1, d2, d3, d4, d5] }
  | _ => none }
def fnExactWriteRow : OpenClaim := { program := "ytpfcfepbhdkpdaagreat", sum := "5cdf672e3bbeb7ab9ab64a0fa7bcf7c636294cc30cf47e17572d08501c3a0047", func := "loop.example/g00153/laws.FnExactWrite", spec := "fnExactWrite", inPlace := ["slices.overlaps[loop.example/g00153/impl.Note]", "slices.overlaps[loop.example/g00153/impl.Set]"], unfollowed := true, recurses := true, apart := false }
def FnExactWriteSaid : Prop := fnExactWriteRow.holds Tryz.pinned (OpenSpec.ofChange fnExactWriteSpec)

/-- ITS FALSE NEIGHBOUR: 'it returns false'. Refute it at one input. -/
def fnExactWriteWrong : ChangeSpec := { name := "fnExactWrite", fn := fun _ => fun
  | [d1, d2, d3, d4, d5] => { results := [.lit (.bool false)], args := [d1, d2, d3, d4, d5] }
  | _ => none }
def FnExactWriteWrongFalsely : Prop := fnExactWriteRow.holds Tryz.pinned (OpenSpec.ofChange fnExactWriteWrong)

/- THE SECOND FORM. 'bulk': how many values and letters a reading holds, each counted each time it is reached (what is shared counts as often as it is met; a slice's spare places count too). A statement '..UptoSaid' is the law's where the arguments, and the package variables that the reading takes, are together of bulk at most 1048576: NARROWER than '..Said'. Prove '..Said' where nothing that the law and all that it calls make is longer than what came in: it says more and counts as full. Else prove '..UptoSaid'. A law counts once. -/
mutual
def uptoBulk {H : Type} : DataW H → Nat
  | .lit (.string bytes) => bytes.length + 1
  | .lit _ => 1
  | .nil => 1
  | .ptr d => uptoBulk d + 1
  | .slice elems spare => uptoBulkAll elems + uptoBulkAll spare + 1
  | .agg parts => uptoBulkAll parts + 1
  | .iface _ d => uptoBulk d + 1
  | .map entries => uptoBulkEntries entries + 1
  | .held _ => 1
def uptoBulkAll {H : Type} : List (DataW H) → Nat
  | [] => 0
  | d :: r => uptoBulk d + uptoBulkAll r
def uptoBulkEntries {H : Type} : List (Lit × DataW H) → Nat
  | [] => 0
  | x :: r => uptoBulkEntry x + uptoBulkEntries r
def uptoBulkEntry {H : Type} : Lit × DataW H → Nat
  | (.string bytes, d) => bytes.length + uptoBulk d + 1
  | (_, d) => uptoBulk d + 1
 end
def uptoSmall : (H : Type) → List (DataW H) → Bool := fun _ ds => decide (uptoBulkAll ds ≤ 1048576)
def OpenSpec.upto (s : _root_.Go.ChangeSpec) : _root_.Go.OpenSpec := { _root_.Go.OpenSpec.ofChange s with cond := some uptoSmall }

/-- 'laws.FnExactCommit', WHERE WHAT IT READS IS OF BULK AT MOST 1048576: true; the input reads as it did. -/
def fnExactCommitUptoRow : OpenClaim := { program := "ytpfcfepbhdkpdaagreat", sum := "5cdf672e3bbeb7ab9ab64a0fa7bcf7c636294cc30cf47e17572d08501c3a0047", func := "loop.example/g00153/laws.FnExactCommit", spec := "fnExactCommit", unfollowed := true, recurses := true, apart := false, narrowed := true }
def FnExactCommitUptoSaid : Prop := fnExactCommitUptoRow.holds Tryz.pinned (OpenSpec.upto fnExactCommitSpec)

/-- 'laws.FnExactRead', WHERE WHAT IT READS IS OF BULK AT MOST 1048576: true; the input reads as it did. -/
def fnExactReadUptoRow : OpenClaim := { program := "ytpfcfepbhdkpdaagreat", sum := "5cdf672e3bbeb7ab9ab64a0fa7bcf7c636294cc30cf47e17572d08501c3a0047", func := "loop.example/g00153/laws.FnExactRead", spec := "fnExactRead", inPlace := ["slices.overlaps[loop.example/g00153/impl.Note]"], unfollowed := true, recurses := true, apart := false, narrowed := true }
def FnExactReadUptoSaid : Prop := fnExactReadUptoRow.holds Tryz.pinned (OpenSpec.upto fnExactReadSpec)

/-- 'laws.FnExactAlloc', WHERE WHAT IT READS IS OF BULK AT MOST 1048576: true; the input reads as it did. -/
def fnExactAllocUptoRow : OpenClaim := { program := "ytpfcfepbhdkpdaagreat", sum := "5cdf672e3bbeb7ab9ab64a0fa7bcf7c636294cc30cf47e17572d08501c3a0047", func := "loop.example/g00153/laws.FnExactAlloc", spec := "fnExactAlloc", inPlace := ["slices.overlaps[loop.example/g00153/impl.Note]", "slices.overlaps[loop.example/g00153/impl.Set]"], unfollowed := true, recurses := true, apart := false, narrowed := true }
def FnExactAllocUptoSaid : Prop := fnExactAllocUptoRow.holds Tryz.pinned (OpenSpec.upto fnExactAllocSpec)

/-- 'laws.FnExactDrop', WHERE WHAT IT READS IS OF BULK AT MOST 1048576: true; the input reads as it did. -/
def fnExactDropUptoRow : OpenClaim := { program := "ytpfcfepbhdkpdaagreat", sum := "5cdf672e3bbeb7ab9ab64a0fa7bcf7c636294cc30cf47e17572d08501c3a0047", func := "loop.example/g00153/laws.FnExactDrop", spec := "fnExactDrop", inPlace := ["slices.overlaps[loop.example/g00153/impl.Note]", "slices.overlaps[loop.example/g00153/impl.Set]"], unfollowed := true, recurses := true, apart := false, narrowed := true }
def FnExactDropUptoSaid : Prop := fnExactDropUptoRow.holds Tryz.pinned (OpenSpec.upto fnExactDropSpec)

/-- 'laws.FnExactWrite', WHERE WHAT IT READS IS OF BULK AT MOST 1048576: true; the input reads as it did. -/
def fnExactWriteUptoRow : OpenClaim := { program := "ytpfcfepbhdkpdaagreat", sum := "5cdf672e3bbeb7ab9ab64a0fa7bcf7c636294cc30cf47e17572d08501c3a0047", func := "loop.example/g00153/laws.FnExactWrite", spec := "fnExactWrite", inPlace := ["slices.overlaps[loop.example/g00153/impl.Note]", "slices.overlaps[loop.example/g00153/impl.Set]"], unfollowed := true, recurses := true, apart := false, narrowed := true }
def FnExactWriteUptoSaid : Prop := fnExactWriteUptoRow.holds Tryz.pinned (OpenSpec.upto fnExactWriteSpec)

end Rows
end Go.Proofs.YtpfcfepbhdkpdaaGreat
