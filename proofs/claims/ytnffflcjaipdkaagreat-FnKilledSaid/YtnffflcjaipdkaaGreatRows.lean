/-
  No cell of these rows narrows 'for every input' (looked for: loops, veiled, ifaces, maps, wideKeys, modest, calm, conditions, laid).
  DERIVED. THE GIVEN ROWS OF THIS SEAT. 7 by the template 'for every input the law returns true; each argument reads behind the call as it read before'; 0 by the template 'total and deterministic' (their statements: YtnffflcjaipdkaaGreatTotals.lean).
  GIVEN WITH THE SEED: the statements are not yours to turn. If you find one false, say at which input.
  Laid BY PROGRAM, IN A SANDBOX (cutbox-rows.mjs): the forced cells as the released guide's own fill.sh prints them over the translation ef7b3ab769e07f74… (all of the seat's roots in one cut). By AI agents, Wed Nov 11 2026. No macro, syntax, notation, axiom, sorry.
-/
import Derived.Test.YtnffflcjaipdkaaGreatChecked
import GoSem.Claim
import GoSem.ClaimJoined
import GoSem.ClaimMapViews
import Derived.JoinedTies
import Derived.KernelRfl
namespace Go.Proofs.YtnffflcjaipdkaaGreat
/- THE CELL 'sum', in the pinned program and in every row, IS THE sha256 OF THE DUMP (.gsa) THAT YtnffflcjaipdkaaGreatProg.lean LOADS. Nothing in Lean hashes anything: it is a label: what it is worth is what the hold of that sum in a sandbox is worth. -/
noncomputable def Tryz.pinned : Pinned := { name := "ytnffflcjaipdkaagreat", sum := "ef7b3ab769e07f745bef155e16b88b9d1082ba0137c29368dcba0e7c0aae690b", checked := Tryz.checked }
namespace Rows
def none {H : Type} : Left H := { results := [], args := [] }

/-- 'laws.FnKilled': WHATEVER THE INPUT: true; the input reads as it did. -/
def fnKilledSpec : ChangeSpec := { name := "fnKilled", fn := fun _ => fun
  | [d] => { results := [.lit (.bool true)], args := [d] }
  | _ => none }
def fnKilledRow : OpenClaim := { program := "ytnffflcjaipdkaagreat", sum := "ef7b3ab769e07f745bef155e16b88b9d1082ba0137c29368dcba0e7c0aae690b", func := "loop.example/g00153/laws.FnKilled", spec := "fnKilled", unfollowed := true, recurses := true, apart := false }
def FnKilledSaid : Prop := fnKilledRow.holds Tryz.pinned (OpenSpec.ofChange fnKilledSpec)

/-- ITS FALSE NEIGHBOUR: 'it returns false'. Refute it at one input. -/
def fnKilledWrong : ChangeSpec := { name := "fnKilled", fn := fun _ => fun
  | [d] => { results := [.lit (.bool false)], args := [d] }
  | _ => none }
def FnKilledWrongFalsely : Prop := fnKilledRow.holds Tryz.pinned (OpenSpec.ofChange fnKilledWrong)

/-- 'laws.FnBegun': WHATEVER THE INPUT: true; the input reads as it did. -/
def fnBegunSpec : ChangeSpec := { name := "fnBegun", fn := fun _ => fun
  | [d] => { results := [.lit (.bool true)], args := [d] }
  | _ => none }
def fnBegunRow : OpenClaim := { program := "ytnffflcjaipdkaagreat", sum := "ef7b3ab769e07f745bef155e16b88b9d1082ba0137c29368dcba0e7c0aae690b", func := "loop.example/g00153/laws.FnBegun", spec := "fnBegun", unfollowed := true, recurses := true, apart := false }
def FnBegunSaid : Prop := fnBegunRow.holds Tryz.pinned (OpenSpec.ofChange fnBegunSpec)

/-- ITS FALSE NEIGHBOUR: 'it returns false'. Refute it at one input. -/
def fnBegunWrong : ChangeSpec := { name := "fnBegun", fn := fun _ => fun
  | [d] => { results := [.lit (.bool false)], args := [d] }
  | _ => none }
def FnBegunWrongFalsely : Prop := fnBegunRow.holds Tryz.pinned (OpenSpec.ofChange fnBegunWrong)

/-- 'laws.FnVotes': WHATEVER THE INPUT: true; the input reads as it did. -/
def fnVotesSpec : ChangeSpec := { name := "fnVotes", fn := fun _ => fun
  | [d] => { results := [.lit (.bool true)], args := [d] }
  | _ => none }
def fnVotesRow : OpenClaim := { program := "ytnffflcjaipdkaagreat", sum := "ef7b3ab769e07f745bef155e16b88b9d1082ba0137c29368dcba0e7c0aae690b", func := "loop.example/g00153/laws.FnVotes", spec := "fnVotes", unfollowed := true, recurses := true, apart := false }
def FnVotesSaid : Prop := fnVotesRow.holds Tryz.pinned (OpenSpec.ofChange fnVotesSpec)

/-- ITS FALSE NEIGHBOUR: 'it returns false'. Refute it at one input. -/
def fnVotesWrong : ChangeSpec := { name := "fnVotes", fn := fun _ => fun
  | [d] => { results := [.lit (.bool false)], args := [d] }
  | _ => none }
def FnVotesWrongFalsely : Prop := fnVotesRow.holds Tryz.pinned (OpenSpec.ofChange fnVotesWrong)

/-- 'laws.FnClusters': WHATEVER THE INPUT: true; the input reads as it did. -/
def fnClustersSpec : ChangeSpec := { name := "fnClusters", fn := fun _ => fun
  | [d] => { results := [.lit (.bool true)], args := [d] }
  | _ => none }
def fnClustersRow : OpenClaim := { program := "ytnffflcjaipdkaagreat", sum := "ef7b3ab769e07f745bef155e16b88b9d1082ba0137c29368dcba0e7c0aae690b", func := "loop.example/g00153/laws.FnClusters", spec := "fnClusters", inPlace := ["slices.overlaps[loop.example/g00153/impl.Copy]"], unfollowed := true, recurses := true, apart := false }
def FnClustersSaid : Prop := fnClustersRow.holds Tryz.pinned (OpenSpec.ofChange fnClustersSpec)

/-- ITS FALSE NEIGHBOUR: 'it returns false'. Refute it at one input. -/
def fnClustersWrong : ChangeSpec := { name := "fnClusters", fn := fun _ => fun
  | [d] => { results := [.lit (.bool false)], args := [d] }
  | _ => none }
def FnClustersWrongFalsely : Prop := fnClustersRow.holds Tryz.pinned (OpenSpec.ofChange fnClustersWrong)

/-- 'laws.FnRecovered': WHATEVER THE INPUT: true; the input reads as it did. -/
def fnRecoveredSpec : ChangeSpec := { name := "fnRecovered", fn := fun _ => fun
  | [d] => { results := [.lit (.bool true)], args := [d] }
  | _ => none }
def fnRecoveredRow : OpenClaim := { program := "ytnffflcjaipdkaagreat", sum := "ef7b3ab769e07f745bef155e16b88b9d1082ba0137c29368dcba0e7c0aae690b", func := "loop.example/g00153/laws.FnRecovered", spec := "fnRecovered", inPlace := ["slices.overlaps[int64]", "slices.overlaps[loop.example/g00153/impl.Copy]"], unfollowed := true, recurses := true, apart := false }
def FnRecoveredSaid : Prop := fnRecoveredRow.holds Tryz.pinned (OpenSpec.ofChange fnRecoveredSpec)

/-- ITS FALSE NEIGHBOUR: 'it returns false'. Refute it at one input. -/
def fnRecoveredWrong : ChangeSpec := { name := "fnRecovered", fn := fun _ => fun
  | [d] => { results := [.lit (.bool false)], args := [d] }
  | _ => none }
def FnRecoveredWrongFalsely : Prop := fnRecoveredRow.holds Tryz.pinned (OpenSpec.ofChange fnRecoveredWrong)

/-- 'laws.FnStepped': WHATEVER THE INPUT: true; the input reads as it did. -/
def fnSteppedSpec : ChangeSpec := { name := "fnStepped", fn := fun _ => fun
  | [d] => { results := [.lit (.bool true)], args := [d] }
  | _ => none }
def fnSteppedRow : OpenClaim := { program := "ytnffflcjaipdkaagreat", sum := "ef7b3ab769e07f745bef155e16b88b9d1082ba0137c29368dcba0e7c0aae690b", func := "loop.example/g00153/laws.FnStepped", spec := "fnStepped", inPlace := ["slices.overlaps[int64]"], unfollowed := true, recurses := true, apart := false }
def FnSteppedSaid : Prop := fnSteppedRow.holds Tryz.pinned (OpenSpec.ofChange fnSteppedSpec)

/-- ITS FALSE NEIGHBOUR: 'it returns false'. Refute it at one input. -/
def fnSteppedWrong : ChangeSpec := { name := "fnStepped", fn := fun _ => fun
  | [d] => { results := [.lit (.bool false)], args := [d] }
  | _ => none }
def FnSteppedWrongFalsely : Prop := fnSteppedRow.holds Tryz.pinned (OpenSpec.ofChange fnSteppedWrong)

/-- 'laws.FnFinished': WHATEVER THE INPUT: true; the input reads as it did. -/
def fnFinishedSpec : ChangeSpec := { name := "fnFinished", fn := fun _ => fun
  | [d] => { results := [.lit (.bool true)], args := [d] }
  | _ => none }
def fnFinishedRow : OpenClaim := { program := "ytnffflcjaipdkaagreat", sum := "ef7b3ab769e07f745bef155e16b88b9d1082ba0137c29368dcba0e7c0aae690b", func := "loop.example/g00153/laws.FnFinished", spec := "fnFinished", inPlace := ["slices.overlaps[int64]"], unfollowed := true, recurses := true, apart := false }
def FnFinishedSaid : Prop := fnFinishedRow.holds Tryz.pinned (OpenSpec.ofChange fnFinishedSpec)

/-- ITS FALSE NEIGHBOUR: 'it returns false'. Refute it at one input. -/
def fnFinishedWrong : ChangeSpec := { name := "fnFinished", fn := fun _ => fun
  | [d] => { results := [.lit (.bool false)], args := [d] }
  | _ => none }
def FnFinishedWrongFalsely : Prop := fnFinishedRow.holds Tryz.pinned (OpenSpec.ofChange fnFinishedWrong)

/- THE SECOND FORM. 'bulk': how many values and letters a reading holds, each counted each time it is reached (what is shared counts as often as it is met; a slice's spare places count too). A statement '..UptoSaid' is the law's where the arguments, and the package variables that the reading takes, are together of bulk at most 1048576: NARROWER than '..Said'. Prove '..Said' where nothing that the law and all that it calls make is longer than what came in: it says more and counts as full. Else prove '..UptoSaid'. A law counts once. -/
mutual
def uptoBulk {H : Type} : DataW H → Nat
  | .lit (.string bytes) => bytes.length + 1
  | .lit _ => 1
  | .nil => 1
  | .ptr d => uptoBulk d + 1
  | .slice elems spare => uptoBulkAll elems + uptoBulkAll spare + 1
  | .agg parts => uptoBulkAll parts + 1
  | .iface _ d => uptoBulk d + 1
  | .map entries => uptoBulkEntries entries + 1
  | .held _ => 1
def uptoBulkAll {H : Type} : List (DataW H) → Nat
  | [] => 0
  | d :: r => uptoBulk d + uptoBulkAll r
def uptoBulkEntries {H : Type} : List (Lit × DataW H) → Nat
  | [] => 0
  | x :: r => uptoBulkEntry x + uptoBulkEntries r
def uptoBulkEntry {H : Type} : Lit × DataW H → Nat
  | (.string bytes, d) => bytes.length + uptoBulk d + 1
  | (_, d) => uptoBulk d + 1
 end
def uptoSmall : (H : Type) → List (DataW H) → Bool := fun _ ds => decide (uptoBulkAll ds ≤ 1048576)
def OpenSpec.upto (s : _root_.Go.ChangeSpec) : _root_.Go.OpenSpec := { _root_.Go.OpenSpec.ofChange s with cond := some uptoSmall }

/-- 'laws.FnKilled', WHERE WHAT IT READS IS OF BULK AT MOST 1048576: true; the input reads as it did. -/
def fnKilledUptoRow : OpenClaim := { program := "ytnffflcjaipdkaagreat", sum := "ef7b3ab769e07f745bef155e16b88b9d1082ba0137c29368dcba0e7c0aae690b", func := "loop.example/g00153/laws.FnKilled", spec := "fnKilled", unfollowed := true, recurses := true, apart := false, narrowed := true }
def FnKilledUptoSaid : Prop := fnKilledUptoRow.holds Tryz.pinned (OpenSpec.upto fnKilledSpec)

/-- 'laws.FnBegun', WHERE WHAT IT READS IS OF BULK AT MOST 1048576: true; the input reads as it did. -/
def fnBegunUptoRow : OpenClaim := { program := "ytnffflcjaipdkaagreat", sum := "ef7b3ab769e07f745bef155e16b88b9d1082ba0137c29368dcba0e7c0aae690b", func := "loop.example/g00153/laws.FnBegun", spec := "fnBegun", unfollowed := true, recurses := true, apart := false, narrowed := true }
def FnBegunUptoSaid : Prop := fnBegunUptoRow.holds Tryz.pinned (OpenSpec.upto fnBegunSpec)

/-- 'laws.FnVotes', WHERE WHAT IT READS IS OF BULK AT MOST 1048576: true; the input reads as it did. -/
def fnVotesUptoRow : OpenClaim := { program := "ytnffflcjaipdkaagreat", sum := "ef7b3ab769e07f745bef155e16b88b9d1082ba0137c29368dcba0e7c0aae690b", func := "loop.example/g00153/laws.FnVotes", spec := "fnVotes", unfollowed := true, recurses := true, apart := false, narrowed := true }
def FnVotesUptoSaid : Prop := fnVotesUptoRow.holds Tryz.pinned (OpenSpec.upto fnVotesSpec)

/-- 'laws.FnClusters', WHERE WHAT IT READS IS OF BULK AT MOST 1048576: true; the input reads as it did. -/
def fnClustersUptoRow : OpenClaim := { program := "ytnffflcjaipdkaagreat", sum := "ef7b3ab769e07f745bef155e16b88b9d1082ba0137c29368dcba0e7c0aae690b", func := "loop.example/g00153/laws.FnClusters", spec := "fnClusters", inPlace := ["slices.overlaps[loop.example/g00153/impl.Copy]"], unfollowed := true, recurses := true, apart := false, narrowed := true }
def FnClustersUptoSaid : Prop := fnClustersUptoRow.holds Tryz.pinned (OpenSpec.upto fnClustersSpec)

/-- 'laws.FnRecovered', WHERE WHAT IT READS IS OF BULK AT MOST 1048576: true; the input reads as it did. -/
def fnRecoveredUptoRow : OpenClaim := { program := "ytnffflcjaipdkaagreat", sum := "ef7b3ab769e07f745bef155e16b88b9d1082ba0137c29368dcba0e7c0aae690b", func := "loop.example/g00153/laws.FnRecovered", spec := "fnRecovered", inPlace := ["slices.overlaps[int64]", "slices.overlaps[loop.example/g00153/impl.Copy]"], unfollowed := true, recurses := true, apart := false, narrowed := true }
def FnRecoveredUptoSaid : Prop := fnRecoveredUptoRow.holds Tryz.pinned (OpenSpec.upto fnRecoveredSpec)

/-- 'laws.FnStepped', WHERE WHAT IT READS IS OF BULK AT MOST 1048576: true; the input reads as it did. -/
def fnSteppedUptoRow : OpenClaim := { program := "ytnffflcjaipdkaagreat", sum := "ef7b3ab769e07f745bef155e16b88b9d1082ba0137c29368dcba0e7c0aae690b", func := "loop.example/g00153/laws.FnStepped", spec := "fnStepped", inPlace := ["slices.overlaps[int64]"], unfollowed := true, recurses := true, apart := false, narrowed := true }
def FnSteppedUptoSaid : Prop := fnSteppedUptoRow.holds Tryz.pinned (OpenSpec.upto fnSteppedSpec)

/-- 'laws.FnFinished', WHERE WHAT IT READS IS OF BULK AT MOST 1048576: true; the input reads as it did. -/
def fnFinishedUptoRow : OpenClaim := { program := "ytnffflcjaipdkaagreat", sum := "ef7b3ab769e07f745bef155e16b88b9d1082ba0137c29368dcba0e7c0aae690b", func := "loop.example/g00153/laws.FnFinished", spec := "fnFinished", inPlace := ["slices.overlaps[int64]"], unfollowed := true, recurses := true, apart := false, narrowed := true }
def FnFinishedUptoSaid : Prop := fnFinishedUptoRow.holds Tryz.pinned (OpenSpec.upto fnFinishedSpec)

end Rows
end Go.Proofs.YtnffflcjaipdkaaGreat
