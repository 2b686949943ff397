/-
  The table of types, by program.
-/
import Derived.Test.YtamcahpdepepfaaWF
import Derived.Test.YtamcahpdepepfaaProg
namespace Go.Proofs.Ytamcahpdepepfaa
open Go Go.RowKit
set_option maxRecDepth 100000

def TT : List TI := [
  ⟨2, 1, 8, .it .i64, .int .i64 0, false⟩,
  ⟨3, 1, 8, .it .i64, .int .i64 0, false⟩,
  ⟨4, 1, 1, .bo, .bool false, false⟩,
  ⟨5, 1, 1, .it .u8, .int .u8 0, false⟩,
  ⟨22, 1, 24, .slc 5, .slice none 0 0, false⟩,
  ⟨24, 1, 24, .slc 39, .slice none 0 0, false⟩,
  ⟨25, 1, 24, .slc 37, .slice none 0 0, false⟩,
  ⟨27, 7, 88, .st [(0, 2), (1, 2), (2, 2), (3, 2), (4, 24), (5, 25), (6, 2)], .agg #[.int .i64 0, .int .i64 0, .int .i64 0, .int .i64 0, .slice none 0 0, .slice none 0 0, .int .i64 0], false⟩,
  ⟨29, 1, 24, .slc 2, .slice none 0 0, false⟩,
  ⟨37, 5, 40, .st [(0, 2), (1, 2), (2, 2), (3, 4), (4, 2)], .agg #[.int .i64 0, .int .i64 0, .int .i64 0, .bool false, .int .i64 0], true⟩,
  ⟨39, 5, 40, .st [(0, 2), (1, 2), (2, 2), (3, 2), (4, 4)], .agg #[.int .i64 0, .int .i64 0, .int .i64 0, .int .i64 0, .bool false], true⟩,
  ⟨66, 1, 8, .ptr, .pointer none, false⟩,
  ⟨76, 3, 40, .st [(0, 22), (1, 3), (2, 2)], .agg #[.slice none 0 0, .int .i64 0, .int .i64 0], false⟩,
  ⟨92, 1, 8, .it .u64, .int .u64 0, false⟩,
  ⟨94, 1, 24, .slc 3, .slice none 0 0, false⟩]
theorem tiOk {ti : TI} (h1 : (Try.prog.underlying ti.id).map shapeK = some ti.kind) (h2 : (Try.prog.info? ti.id).map (fun i => (i.size, i.bytes)) = some (ti.sz, ti.by_)) (h3 : (Try.prog.info? ti.id).bind (·.zero) = some ti.zero) (h4 : (!ti.eqf || eqPlain Try.prog ti.id) = true) : ti.ok Try.prog := ⟨h1, h2, h3, fun e => by rw [e] at h4; exact h4⟩
theorem TT_ok : TOk Try.prog TT := by
  unfold TT
  repeat' first
    | exact trivial
    | refine ⟨tiOk (by kernel_rfl) (by kernel_rfl) (by kernel_rfl) (by kernel_rfl), ?_⟩
end Go.Proofs.Ytamcahpdepepfaa
