/-
  The table of types, by program.
-/
import Derived.Test.YtiegllklalplnaaWF
import Derived.Test.YtiegllklalplnaaProg
namespace Go.Proofs.Ytiegllklalplnaa
open Go Go.RowKit
set_option maxRecDepth 100000

def TT : List TI := [
  ⟨2, 1, 8, .it .i64, .int .i64 0, false⟩,
  ⟨3, 1, 8, .it .i64, .int .i64 0, false⟩,
  ⟨4, 1, 1, .bo, .bool false, false⟩,
  ⟨22, 1, 24, .slc 27, .slice none 0 0, false⟩,
  ⟨23, 1, 24, .slc 42, .slice none 0 0, false⟩,
  ⟨25, 7, 88, .st [(0, 2), (1, 2), (2, 2), (3, 2), (4, 22), (5, 23), (6, 2)], .agg #[.int .i64 0, .int .i64 0, .int .i64 0, .int .i64 0, .slice none 0 0, .slice none 0 0, .int .i64 0], false⟩,
  ⟨27, 5, 40, .st [(0, 2), (1, 2), (2, 2), (3, 2), (4, 4)], .agg #[.int .i64 0, .int .i64 0, .int .i64 0, .int .i64 0, .bool false], true⟩,
  ⟨29, 1, 24, .slc 36, .slice none 0 0, false⟩,
  ⟨30, 1, 24, .slc 44, .slice none 0 0, false⟩,
  ⟨32, 7, 88, .st [(0, 2), (1, 2), (2, 2), (3, 2), (4, 29), (5, 30), (6, 2)], .agg #[.int .i64 0, .int .i64 0, .int .i64 0, .int .i64 0, .slice none 0 0, .slice none 0 0, .int .i64 0], false⟩,
  ⟨36, 5, 40, .st [(0, 2), (1, 2), (2, 2), (3, 2), (4, 4)], .agg #[.int .i64 0, .int .i64 0, .int .i64 0, .int .i64 0, .bool false], true⟩,
  ⟨42, 5, 40, .st [(0, 2), (1, 2), (2, 2), (3, 4), (4, 2)], .agg #[.int .i64 0, .int .i64 0, .int .i64 0, .bool false, .int .i64 0], true⟩,
  ⟨44, 5, 40, .st [(0, 2), (1, 2), (2, 2), (3, 4), (4, 2)], .agg #[.int .i64 0, .int .i64 0, .int .i64 0, .bool false, .int .i64 0], true⟩,
  ⟨47, 1, 24, .slc 80, .slice none 0 0, false⟩,
  ⟨48, 1, 24, .slc 77, .slice none 0 0, false⟩,
  ⟨49, 1, 24, .slc 32, .slice none 0 0, false⟩,
  ⟨51, 6, 96, .st [(0, 2), (1, 2), (2, 47), (3, 48), (4, 49), (5, 4)], .agg #[.int .i64 0, .int .i64 0, .slice none 0 0, .slice none 0 0, .slice none 0 0, .bool false], false⟩,
  ⟨73, 1, 24, .slc 84, .slice none 0 0, false⟩,
  ⟨74, 1, 24, .slc 132, .slice none 0 0, false⟩,
  ⟨75, 1, 24, .slc 2, .slice none 0 0, false⟩,
  ⟨77, 4, 80, .st [(0, 4), (1, 73), (2, 74), (3, 75)], .agg #[.bool false, .slice none 0 0, .slice none 0 0, .slice none 0 0], false⟩,
  ⟨80, 1, 24, .st [(0, 75)], .agg #[.slice none 0 0], false⟩,
  ⟨81, 1, 24, .slc 125, .slice none 0 0, false⟩,
  ⟨84, 2, 32, .st [(0, 2), (1, 81)], .agg #[.int .i64 0, .slice none 0 0], false⟩,
  ⟨125, 2, 16, .st [(0, 2), (1, 2)], .agg #[.int .i64 0, .int .i64 0], true⟩,
  ⟨132, 4, 48, .st [(0, 2), (1, 2), (2, 2), (3, 30)], .agg #[.int .i64 0, .int .i64 0, .int .i64 0, .slice none 0 0], false⟩,
  ⟨133, 1, 24, .slc 3, .slice none 0 0, false⟩,
  ⟨134, 1, 8, .it .u64, .int .u64 0, false⟩]
theorem tiOk {ti : TI} (h1 : (Try.prog.underlying ti.id).map shapeK = some ti.kind) (h2 : (Try.prog.info? ti.id).map (fun i => (i.size, i.bytes)) = some (ti.sz, ti.by_)) (h3 : (Try.prog.info? ti.id).bind (·.zero) = some ti.zero) (h4 : (!ti.eqf || eqPlain Try.prog ti.id) = true) : ti.ok Try.prog := ⟨h1, h2, h3, fun e => by rw [e] at h4; exact h4⟩
theorem TT_ok : TOk Try.prog TT := by
  unfold TT
  repeat' first
    | exact trivial
    | refine ⟨tiOk (by kernel_rfl) (by kernel_rfl) (by kernel_rfl) (by kernel_rfl), ?_⟩
end Go.Proofs.Ytiegllklalplnaa
