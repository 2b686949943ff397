/-
  No cell of these rows narrows 'for every input' (looked for: loops, veiled, ifaces, maps, wideKeys, modest, calm, conditions, laid).
  DERIVED. THE GIVEN ROWS OF THIS SEAT. 9 by the template 'for every input the law returns true; each argument reads behind the call as it read before'; 0 by the template 'total and deterministic' (their statements: YtiegllklalplnaaGreatTotals.lean).
  GIVEN WITH THE SEED: the statements are not yours to turn. If you find one false, say at which input.
  Laid BY PROGRAM, IN A SANDBOX (cutbox-rows.mjs): the forced cells as the released guide's own fill.sh prints them over the translation 1aca1b0478d16b0a… (all of the seat's roots in one cut). By AI agents, Wed Nov 11 2026. No macro, syntax, notation, axiom, sorry.
-/
import Derived.Test.YtiegllklalplnaaGreatChecked
import GoSem.Claim
import GoSem.ClaimJoined
import GoSem.ClaimMapViews
import Derived.JoinedTies
import Derived.KernelRfl
namespace Go.Proofs.YtiegllklalplnaaGreat
/- THE CELL 'sum', in the pinned program and in every row, IS THE sha256 OF THE DUMP (.gsa) THAT YtiegllklalplnaaGreatProg.lean LOADS. Nothing in Lean hashes anything: it is a label: what it is worth is what the hold of that sum in a sandbox is worth. -/
noncomputable def Tryz.pinned : Pinned := { name := "ytiegllklalplnaagreat", sum := "1aca1b0478d16b0a02eccc040d81996e587e6f3d71849eb0cb5048aae0df8db3", checked := Tryz.checked }
namespace Rows
def none {H : Type} : Left H := { results := [], args := [] }

/-- 'laws.FnExactClusterOk': WHATEVER THE INPUT: true; the input reads as it did. -/
def fnExactClusterOkSpec : ChangeSpec := { name := "fnExactClusterOk", fn := fun _ => fun
  | [d] => { results := [.lit (.bool true)], args := [d] }
  | _ => none }
def fnExactClusterOkRow : OpenClaim := { program := "ytiegllklalplnaagreat", sum := "1aca1b0478d16b0a02eccc040d81996e587e6f3d71849eb0cb5048aae0df8db3", func := "loop.example/g00153/laws.FnExactClusterOk", spec := "fnExactClusterOk", unfollowed := true, recurses := true, apart := false }
def FnExactClusterOkSaid : Prop := fnExactClusterOkRow.holds Tryz.pinned (OpenSpec.ofChange fnExactClusterOkSpec)

/-- ITS FALSE NEIGHBOUR: 'it returns false'. Refute it at one input. -/
def fnExactClusterOkWrong : ChangeSpec := { name := "fnExactClusterOk", fn := fun _ => fun
  | [d] => { results := [.lit (.bool false)], args := [d] }
  | _ => none }
def FnExactClusterOkWrongFalsely : Prop := fnExactClusterOkRow.holds Tryz.pinned (OpenSpec.ofChange fnExactClusterOkWrong)

/-- 'laws.FnExactSettled': WHATEVER THE INPUT: true; the input reads as it did. -/
def fnExactSettledSpec : ChangeSpec := { name := "fnExactSettled", fn := fun _ => fun
  | [d] => { results := [.lit (.bool true)], args := [d] }
  | _ => none }
def fnExactSettledRow : OpenClaim := { program := "ytiegllklalplnaagreat", sum := "1aca1b0478d16b0a02eccc040d81996e587e6f3d71849eb0cb5048aae0df8db3", func := "loop.example/g00153/laws.FnExactSettled", spec := "fnExactSettled", unfollowed := true, recurses := true, apart := false }
def FnExactSettledSaid : Prop := fnExactSettledRow.holds Tryz.pinned (OpenSpec.ofChange fnExactSettledSpec)

/-- ITS FALSE NEIGHBOUR: 'it returns false'. Refute it at one input. -/
def fnExactSettledWrong : ChangeSpec := { name := "fnExactSettled", fn := fun _ => fun
  | [d] => { results := [.lit (.bool false)], args := [d] }
  | _ => none }
def FnExactSettledWrongFalsely : Prop := fnExactSettledRow.holds Tryz.pinned (OpenSpec.ofChange fnExactSettledWrong)

/-- 'laws.FnExactVote': WHATEVER THE INPUT: true; the input reads as it did. -/
def fnExactVoteSpec : ChangeSpec := { name := "fnExactVote", fn := fun _ => fun
  | [d1, d2, d3] => { results := [.lit (.bool true)], args := [d1, d2, d3] }
  | _ => none }
def fnExactVoteRow : OpenClaim := { program := "ytiegllklalplnaagreat", sum := "1aca1b0478d16b0a02eccc040d81996e587e6f3d71849eb0cb5048aae0df8db3", func := "loop.example/g00153/laws.FnExactVote", spec := "fnExactVote", unfollowed := true, recurses := true, apart := false }
def FnExactVoteSaid : Prop := fnExactVoteRow.holds Tryz.pinned (OpenSpec.ofChange fnExactVoteSpec)

/-- ITS FALSE NEIGHBOUR: 'it returns false'. Refute it at one input. -/
def fnExactVoteWrong : ChangeSpec := { name := "fnExactVote", fn := fun _ => fun
  | [d1, d2, d3] => { results := [.lit (.bool false)], args := [d1, d2, d3] }
  | _ => none }
def FnExactVoteWrongFalsely : Prop := fnExactVoteRow.holds Tryz.pinned (OpenSpec.ofChange fnExactVoteWrong)

/-- 'laws.FnExactUpper': WHATEVER THE INPUT: true; the input reads as it did. -/
def fnExactUpperSpec : ChangeSpec := { name := "fnExactUpper", fn := fun _ => fun
  | [d] => { results := [.lit (.bool true)], args := [d] }
  | _ => none }
def fnExactUpperRow : OpenClaim := { program := "ytiegllklalplnaagreat", sum := "1aca1b0478d16b0a02eccc040d81996e587e6f3d71849eb0cb5048aae0df8db3", func := "loop.example/g00153/laws.FnExactUpper", spec := "fnExactUpper", unfollowed := true, recurses := true, apart := false }
def FnExactUpperSaid : Prop := fnExactUpperRow.holds Tryz.pinned (OpenSpec.ofChange fnExactUpperSpec)

/-- ITS FALSE NEIGHBOUR: 'it returns false'. Refute it at one input. -/
def fnExactUpperWrong : ChangeSpec := { name := "fnExactUpper", fn := fun _ => fun
  | [d] => { results := [.lit (.bool false)], args := [d] }
  | _ => none }
def FnExactUpperWrongFalsely : Prop := fnExactUpperRow.holds Tryz.pinned (OpenSpec.ofChange fnExactUpperWrong)

/-- 'laws.FnExactCells': WHATEVER THE INPUT: true; the input reads as it did. -/
def fnExactCellsSpec : ChangeSpec := { name := "fnExactCells", fn := fun _ => fun
  | [d1, d2] => { results := [.lit (.bool true)], args := [d1, d2] }
  | _ => none }
def fnExactCellsRow : OpenClaim := { program := "ytiegllklalplnaagreat", sum := "1aca1b0478d16b0a02eccc040d81996e587e6f3d71849eb0cb5048aae0df8db3", func := "loop.example/g00153/laws.FnExactCells", spec := "fnExactCells", unfollowed := true, recurses := true, apart := false }
def FnExactCellsSaid : Prop := fnExactCellsRow.holds Tryz.pinned (OpenSpec.ofChange fnExactCellsSpec)

/-- ITS FALSE NEIGHBOUR: 'it returns false'. Refute it at one input. -/
def fnExactCellsWrong : ChangeSpec := { name := "fnExactCells", fn := fun _ => fun
  | [d1, d2] => { results := [.lit (.bool false)], args := [d1, d2] }
  | _ => none }
def FnExactCellsWrongFalsely : Prop := fnExactCellsRow.holds Tryz.pinned (OpenSpec.ofChange fnExactCellsWrong)

/-- 'laws.FnExactStricken': WHATEVER THE INPUT: true; the input reads as it did. -/
def fnExactStrickenSpec : ChangeSpec := { name := "fnExactStricken", fn := fun _ => fun
  | [d1, d2] => { results := [.lit (.bool true)], args := [d1, d2] }
  | _ => none }
def fnExactStrickenRow : OpenClaim := { program := "ytiegllklalplnaagreat", sum := "1aca1b0478d16b0a02eccc040d81996e587e6f3d71849eb0cb5048aae0df8db3", func := "loop.example/g00153/laws.FnExactStricken", spec := "fnExactStricken", unfollowed := true, recurses := true, apart := false }
def FnExactStrickenSaid : Prop := fnExactStrickenRow.holds Tryz.pinned (OpenSpec.ofChange fnExactStrickenSpec)

/-- ITS FALSE NEIGHBOUR: 'it returns false'. Refute it at one input. -/
def fnExactStrickenWrong : ChangeSpec := { name := "fnExactStricken", fn := fun _ => fun
  | [d1, d2] => { results := [.lit (.bool false)], args := [d1, d2] }
  | _ => none }
def FnExactStrickenWrongFalsely : Prop := fnExactStrickenRow.holds Tryz.pinned (OpenSpec.ofChange fnExactStrickenWrong)

/-- 'laws.FnExactFind': WHATEVER THE INPUT: true; the input reads as it did. -/
def fnExactFindSpec : ChangeSpec := { name := "fnExactFind", fn := fun _ => fun
  | [d1, d2] => { results := [.lit (.bool true)], args := [d1, d2] }
  | _ => none }
def fnExactFindRow : OpenClaim := { program := "ytiegllklalplnaagreat", sum := "1aca1b0478d16b0a02eccc040d81996e587e6f3d71849eb0cb5048aae0df8db3", func := "loop.example/g00153/laws.FnExactFind", spec := "fnExactFind", unfollowed := true, recurses := true, apart := false }
def FnExactFindSaid : Prop := fnExactFindRow.holds Tryz.pinned (OpenSpec.ofChange fnExactFindSpec)

/-- ITS FALSE NEIGHBOUR: 'it returns false'. Refute it at one input. -/
def fnExactFindWrong : ChangeSpec := { name := "fnExactFind", fn := fun _ => fun
  | [d1, d2] => { results := [.lit (.bool false)], args := [d1, d2] }
  | _ => none }
def FnExactFindWrongFalsely : Prop := fnExactFindRow.holds Tryz.pinned (OpenSpec.ofChange fnExactFindWrong)

/-- 'laws.FnExactKill': WHATEVER THE INPUT: true; the input reads as it did. -/
def fnExactKillSpec : ChangeSpec := { name := "fnExactKill", fn := fun _ => fun
  | [d1, d2] => { results := [.lit (.bool true)], args := [d1, d2] }
  | _ => none }
def fnExactKillRow : OpenClaim := { program := "ytiegllklalplnaagreat", sum := "1aca1b0478d16b0a02eccc040d81996e587e6f3d71849eb0cb5048aae0df8db3", func := "loop.example/g00153/laws.FnExactKill", spec := "fnExactKill", unfollowed := true, recurses := true, apart := false }
def FnExactKillSaid : Prop := fnExactKillRow.holds Tryz.pinned (OpenSpec.ofChange fnExactKillSpec)

/-- ITS FALSE NEIGHBOUR: 'it returns false'. Refute it at one input. -/
def fnExactKillWrong : ChangeSpec := { name := "fnExactKill", fn := fun _ => fun
  | [d1, d2] => { results := [.lit (.bool false)], args := [d1, d2] }
  | _ => none }
def FnExactKillWrongFalsely : Prop := fnExactKillRow.holds Tryz.pinned (OpenSpec.ofChange fnExactKillWrong)

/-- 'laws.FnExactBegin': WHATEVER THE INPUT: true; the input reads as it did. -/
def fnExactBeginSpec : ChangeSpec := { name := "fnExactBegin", fn := fun _ => fun
  | [d1, d2, d3] => { results := [.lit (.bool true)], args := [d1, d2, d3] }
  | _ => none }
def fnExactBeginRow : OpenClaim := { program := "ytiegllklalplnaagreat", sum := "1aca1b0478d16b0a02eccc040d81996e587e6f3d71849eb0cb5048aae0df8db3", func := "loop.example/g00153/laws.FnExactBegin", spec := "fnExactBegin", unfollowed := true, recurses := true, apart := false }
def FnExactBeginSaid : Prop := fnExactBeginRow.holds Tryz.pinned (OpenSpec.ofChange fnExactBeginSpec)

/-- ITS FALSE NEIGHBOUR: 'it returns false'. Refute it at one input. -/
def fnExactBeginWrong : ChangeSpec := { name := "fnExactBegin", fn := fun _ => fun
  | [d1, d2, d3] => { results := [.lit (.bool false)], args := [d1, d2, d3] }
  | _ => none }
def FnExactBeginWrongFalsely : Prop := fnExactBeginRow.holds Tryz.pinned (OpenSpec.ofChange fnExactBeginWrong)

/- THE SECOND FORM. 'bulk': how many values and letters a reading holds, each counted each time it is reached (what is shared counts as often as it is met; a slice's spare places count too). A statement '..UptoSaid' is the law's where the arguments, and the package variables that the reading takes, are together of bulk at most 1048576: NARROWER than '..Said'. Prove '..Said' where nothing that the law and all that it calls make is longer than what came in: it says more and counts as full. Else prove '..UptoSaid'. A law counts once. -/
mutual
def uptoBulk {H : Type} : DataW H → Nat
  | .lit (.string bytes) => bytes.length + 1
  | .lit _ => 1
  | .nil => 1
  | .ptr d => uptoBulk d + 1
  | .slice elems spare => uptoBulkAll elems + uptoBulkAll spare + 1
  | .agg parts => uptoBulkAll parts + 1
  | .iface _ d => uptoBulk d + 1
  | .map entries => uptoBulkEntries entries + 1
  | .held _ => 1
def uptoBulkAll {H : Type} : List (DataW H) → Nat
  | [] => 0
  | d :: r => uptoBulk d + uptoBulkAll r
def uptoBulkEntries {H : Type} : List (Lit × DataW H) → Nat
  | [] => 0
  | x :: r => uptoBulkEntry x + uptoBulkEntries r
def uptoBulkEntry {H : Type} : Lit × DataW H → Nat
  | (.string bytes, d) => bytes.length + uptoBulk d + 1
  | (_, d) => uptoBulk d + 1
 end
def uptoSmall : (H : Type) → List (DataW H) → Bool := fun _ ds => decide (uptoBulkAll ds ≤ 1048576)
def OpenSpec.upto (s : _root_.Go.ChangeSpec) : _root_.Go.OpenSpec := { _root_.Go.OpenSpec.ofChange s with cond := some uptoSmall }

/-- 'laws.FnExactClusterOk', WHERE WHAT IT READS IS OF BULK AT MOST 1048576: true; the input reads as it did. -/
def fnExactClusterOkUptoRow : OpenClaim := { program := "ytiegllklalplnaagreat", sum := "1aca1b0478d16b0a02eccc040d81996e587e6f3d71849eb0cb5048aae0df8db3", func := "loop.example/g00153/laws.FnExactClusterOk", spec := "fnExactClusterOk", unfollowed := true, recurses := true, apart := false, narrowed := true }
def FnExactClusterOkUptoSaid : Prop := fnExactClusterOkUptoRow.holds Tryz.pinned (OpenSpec.upto fnExactClusterOkSpec)

/-- 'laws.FnExactSettled', WHERE WHAT IT READS IS OF BULK AT MOST 1048576: true; the input reads as it did. -/
def fnExactSettledUptoRow : OpenClaim := { program := "ytiegllklalplnaagreat", sum := "1aca1b0478d16b0a02eccc040d81996e587e6f3d71849eb0cb5048aae0df8db3", func := "loop.example/g00153/laws.FnExactSettled", spec := "fnExactSettled", unfollowed := true, recurses := true, apart := false, narrowed := true }
def FnExactSettledUptoSaid : Prop := fnExactSettledUptoRow.holds Tryz.pinned (OpenSpec.upto fnExactSettledSpec)

/-- 'laws.FnExactVote', WHERE WHAT IT READS IS OF BULK AT MOST 1048576: true; the input reads as it did. -/
def fnExactVoteUptoRow : OpenClaim := { program := "ytiegllklalplnaagreat", sum := "1aca1b0478d16b0a02eccc040d81996e587e6f3d71849eb0cb5048aae0df8db3", func := "loop.example/g00153/laws.FnExactVote", spec := "fnExactVote", unfollowed := true, recurses := true, apart := false, narrowed := true }
def FnExactVoteUptoSaid : Prop := fnExactVoteUptoRow.holds Tryz.pinned (OpenSpec.upto fnExactVoteSpec)

/-- 'laws.FnExactUpper', WHERE WHAT IT READS IS OF BULK AT MOST 1048576: true; the input reads as it did. -/
def fnExactUpperUptoRow : OpenClaim := { program := "ytiegllklalplnaagreat", sum := "1aca1b0478d16b0a02eccc040d81996e587e6f3d71849eb0cb5048aae0df8db3", func := "loop.example/g00153/laws.FnExactUpper", spec := "fnExactUpper", unfollowed := true, recurses := true, apart := false, narrowed := true }
def FnExactUpperUptoSaid : Prop := fnExactUpperUptoRow.holds Tryz.pinned (OpenSpec.upto fnExactUpperSpec)

/-- 'laws.FnExactCells', WHERE WHAT IT READS IS OF BULK AT MOST 1048576: true; the input reads as it did. -/
def fnExactCellsUptoRow : OpenClaim := { program := "ytiegllklalplnaagreat", sum := "1aca1b0478d16b0a02eccc040d81996e587e6f3d71849eb0cb5048aae0df8db3", func := "loop.example/g00153/laws.FnExactCells", spec := "fnExactCells", unfollowed := true, recurses := true, apart := false, narrowed := true }
def FnExactCellsUptoSaid : Prop := fnExactCellsUptoRow.holds Tryz.pinned (OpenSpec.upto fnExactCellsSpec)

/-- 'laws.FnExactStricken', WHERE WHAT IT READS IS OF BULK AT MOST 1048576: true; the input reads as it did. -/
def fnExactStrickenUptoRow : OpenClaim := { program := "ytiegllklalplnaagreat", sum := "1aca1b0478d16b0a02eccc040d81996e587e6f3d71849eb0cb5048aae0df8db3", func := "loop.example/g00153/laws.FnExactStricken", spec := "fnExactStricken", unfollowed := true, recurses := true, apart := false, narrowed := true }
def FnExactStrickenUptoSaid : Prop := fnExactStrickenUptoRow.holds Tryz.pinned (OpenSpec.upto fnExactStrickenSpec)

/-- 'laws.FnExactFind', WHERE WHAT IT READS IS OF BULK AT MOST 1048576: true; the input reads as it did. -/
def fnExactFindUptoRow : OpenClaim := { program := "ytiegllklalplnaagreat", sum := "1aca1b0478d16b0a02eccc040d81996e587e6f3d71849eb0cb5048aae0df8db3", func := "loop.example/g00153/laws.FnExactFind", spec := "fnExactFind", unfollowed := true, recurses := true, apart := false, narrowed := true }
def FnExactFindUptoSaid : Prop := fnExactFindUptoRow.holds Tryz.pinned (OpenSpec.upto fnExactFindSpec)

/-- 'laws.FnExactKill', WHERE WHAT IT READS IS OF BULK AT MOST 1048576: true; the input reads as it did. -/
def fnExactKillUptoRow : OpenClaim := { program := "ytiegllklalplnaagreat", sum := "1aca1b0478d16b0a02eccc040d81996e587e6f3d71849eb0cb5048aae0df8db3", func := "loop.example/g00153/laws.FnExactKill", spec := "fnExactKill", unfollowed := true, recurses := true, apart := false, narrowed := true }
def FnExactKillUptoSaid : Prop := fnExactKillUptoRow.holds Tryz.pinned (OpenSpec.upto fnExactKillSpec)

/-- 'laws.FnExactBegin', WHERE WHAT IT READS IS OF BULK AT MOST 1048576: true; the input reads as it did. -/
def fnExactBeginUptoRow : OpenClaim := { program := "ytiegllklalplnaagreat", sum := "1aca1b0478d16b0a02eccc040d81996e587e6f3d71849eb0cb5048aae0df8db3", func := "loop.example/g00153/laws.FnExactBegin", spec := "fnExactBegin", unfollowed := true, recurses := true, apart := false, narrowed := true }
def FnExactBeginUptoSaid : Prop := fnExactBeginUptoRow.holds Tryz.pinned (OpenSpec.upto fnExactBeginSpec)

end Rows
end Go.Proofs.YtiegllklalplnaaGreat
