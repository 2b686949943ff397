/-
  The table of types, by program.
-/
import Derived.Test.YtiegllklalplnaaGreatWF
import Derived.Test.YtiegllklalplnaaGreatProg
namespace Go.Proofs.YtiegllklalplnaaGreat
open Go Go.RowKit
set_option maxRecDepth 100000

def TT : List TI := [
  ⟨2, 1, 8, .it .i64, .int .i64 0, false⟩,
  ⟨3, 1, 8, .it .i64, .int .i64 0, false⟩,
  ⟨4, 1, 1, .bo, .bool false, false⟩,
  ⟨22, 1, 24, .slc 122, .slice none 0 0, false⟩,
  ⟨23, 1, 24, .slc 127, .slice none 0 0, false⟩,
  ⟨24, 1, 24, .slc 132, .slice none 0 0, false⟩,
  ⟨26, 6, 96, .st [(0, 2), (1, 2), (2, 22), (3, 23), (4, 24), (5, 4)], .agg #[.int .i64 0, .int .i64 0, .slice none 0 0, .slice none 0 0, .slice none 0 0, .bool false], false⟩,
  ⟨29, 1, 24, .slc 75, .slice none 0 0, false⟩,
  ⟨30, 1, 24, .slc 73, .slice none 0 0, false⟩,
  ⟨31, 1, 24, .slc 54, .slice none 0 0, false⟩,
  ⟨33, 6, 96, .st [(0, 2), (1, 2), (2, 29), (3, 30), (4, 31), (5, 4)], .agg #[.int .i64 0, .int .i64 0, .slice none 0 0, .slice none 0 0, .slice none 0 0, .bool false], false⟩,
  ⟨39, 1, 24, .slc 2, .slice none 0 0, false⟩,
  ⟨44, 1, 24, .slc 91, .slice none 0 0, false⟩,
  ⟨51, 1, 24, .slc 79, .slice none 0 0, false⟩,
  ⟨52, 1, 24, .slc 81, .slice none 0 0, false⟩,
  ⟨54, 7, 88, .st [(0, 2), (1, 2), (2, 2), (3, 2), (4, 51), (5, 52), (6, 2)], .agg #[.int .i64 0, .int .i64 0, .int .i64 0, .int .i64 0, .slice none 0 0, .slice none 0 0, .int .i64 0], false⟩,
  ⟨70, 1, 24, .slc 89, .slice none 0 0, false⟩,
  ⟨71, 1, 24, .slc 138, .slice none 0 0, false⟩,
  ⟨73, 4, 80, .st [(0, 4), (1, 70), (2, 71), (3, 39)], .agg #[.bool false, .slice none 0 0, .slice none 0 0, .slice none 0 0], false⟩,
  ⟨75, 1, 24, .st [(0, 39)], .agg #[.slice none 0 0], false⟩,
  ⟨79, 5, 40, .st [(0, 2), (1, 2), (2, 2), (3, 2), (4, 4)], .agg #[.int .i64 0, .int .i64 0, .int .i64 0, .int .i64 0, .bool false], true⟩,
  ⟨81, 5, 40, .st [(0, 2), (1, 2), (2, 2), (3, 4), (4, 2)], .agg #[.int .i64 0, .int .i64 0, .int .i64 0, .bool false, .int .i64 0], true⟩,
  ⟨89, 2, 32, .st [(0, 2), (1, 44)], .agg #[.int .i64 0, .slice none 0 0], false⟩,
  ⟨91, 2, 16, .st [(0, 2), (1, 2)], .agg #[.int .i64 0, .int .i64 0], true⟩,
  ⟨95, 1, 8, .ptr, .pointer none, false⟩,
  ⟨122, 1, 24, .st [(0, 39)], .agg #[.slice none 0 0], false⟩,
  ⟨124, 1, 24, .slc 198, .slice none 0 0, false⟩,
  ⟨125, 1, 24, .slc 201, .slice none 0 0, false⟩,
  ⟨127, 4, 80, .st [(0, 4), (1, 124), (2, 125), (3, 39)], .agg #[.bool false, .slice none 0 0, .slice none 0 0, .slice none 0 0], false⟩,
  ⟨129, 1, 24, .slc 205, .slice none 0 0, false⟩,
  ⟨130, 1, 24, .slc 207, .slice none 0 0, false⟩,
  ⟨132, 7, 88, .st [(0, 2), (1, 2), (2, 2), (3, 2), (4, 129), (5, 130), (6, 2)], .agg #[.int .i64 0, .int .i64 0, .int .i64 0, .int .i64 0, .slice none 0 0, .slice none 0 0, .int .i64 0], false⟩,
  ⟨138, 4, 48, .st [(0, 2), (1, 2), (2, 2), (3, 52)], .agg #[.int .i64 0, .int .i64 0, .int .i64 0, .slice none 0 0], false⟩,
  ⟨150, 1, 8, .ptr, .pointer none, false⟩,
  ⟨196, 1, 24, .slc 220, .slice none 0 0, false⟩,
  ⟨198, 2, 32, .st [(0, 2), (1, 196)], .agg #[.int .i64 0, .slice none 0 0], false⟩,
  ⟨201, 4, 48, .st [(0, 2), (1, 2), (2, 2), (3, 130)], .agg #[.int .i64 0, .int .i64 0, .int .i64 0, .slice none 0 0], false⟩,
  ⟨205, 5, 40, .st [(0, 2), (1, 2), (2, 2), (3, 2), (4, 4)], .agg #[.int .i64 0, .int .i64 0, .int .i64 0, .int .i64 0, .bool false], true⟩,
  ⟨207, 5, 40, .st [(0, 2), (1, 2), (2, 2), (3, 4), (4, 2)], .agg #[.int .i64 0, .int .i64 0, .int .i64 0, .bool false, .int .i64 0], true⟩,
  ⟨217, 1, 24, .slc 3, .slice none 0 0, false⟩,
  ⟨218, 1, 8, .it .u64, .int .u64 0, false⟩,
  ⟨220, 2, 16, .st [(0, 2), (1, 2)], .agg #[.int .i64 0, .int .i64 0], true⟩]
theorem tiOk {ti : TI} (h1 : (Tryz.prog.underlying ti.id).map shapeK = some ti.kind) (h2 : (Tryz.prog.info? ti.id).map (fun i => (i.size, i.bytes)) = some (ti.sz, ti.by_)) (h3 : (Tryz.prog.info? ti.id).bind (·.zero) = some ti.zero) (h4 : (!ti.eqf || eqPlain Tryz.prog ti.id) = true) : ti.ok Tryz.prog := ⟨h1, h2, h3, fun e => by rw [e] at h4; exact h4⟩
theorem TT_ok : TOk Tryz.prog TT := by
  unfold TT
  repeat' first
    | exact trivial
    | refine ⟨tiOk (by kernel_rfl) (by kernel_rfl) (by kernel_rfl) (by kernel_rfl), ?_⟩
end Go.Proofs.YtiegllklalplnaaGreat
