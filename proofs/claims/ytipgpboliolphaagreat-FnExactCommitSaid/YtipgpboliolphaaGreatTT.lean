/-
  The table of types, by program.
-/
import Derived.Test.YtipgpboliolphaaGreatWF
import Derived.Test.YtipgpboliolphaaGreatProg
namespace Go.Proofs.YtipgpboliolphaaGreat
open Go Go.RowKit
set_option maxRecDepth 100000

def TT : List TI := [
  ⟨2, 1, 8, .it .i64, .int .i64 0, false⟩,
  ⟨3, 1, 8, .it .i64, .int .i64 0, false⟩,
  ⟨4, 1, 1, .bo, .bool false, false⟩,
  ⟨22, 1, 24, .slc 138, .slice none 0 0, false⟩,
  ⟨23, 1, 24, .slc 143, .slice none 0 0, false⟩,
  ⟨24, 1, 24, .slc 148, .slice none 0 0, false⟩,
  ⟨26, 6, 96, .st [(0, 2), (1, 2), (2, 22), (3, 23), (4, 24), (5, 4)], .agg #[.int .i64 0, .int .i64 0, .slice none 0 0, .slice none 0 0, .slice none 0 0, .bool false], false⟩,
  ⟨29, 1, 24, .slc 98, .slice none 0 0, false⟩,
  ⟨30, 1, 24, .slc 88, .slice none 0 0, false⟩,
  ⟨31, 1, 24, .slc 76, .slice none 0 0, false⟩,
  ⟨33, 6, 96, .st [(0, 2), (1, 2), (2, 29), (3, 30), (4, 31), (5, 4)], .agg #[.int .i64 0, .int .i64 0, .slice none 0 0, .slice none 0 0, .slice none 0 0, .bool false], false⟩,
  ⟨37, 1, 24, .slc 2, .slice none 0 0, false⟩,
  ⟨42, 1, 24, .slc 91, .slice none 0 0, false⟩,
  ⟨62, 1, 24, .slc 42, .slice none 0 0, false⟩,
  ⟨73, 1, 24, .slc 116, .slice none 0 0, false⟩,
  ⟨74, 1, 24, .slc 119, .slice none 0 0, false⟩,
  ⟨76, 7, 88, .st [(0, 2), (1, 2), (2, 2), (3, 2), (4, 73), (5, 74), (6, 2)], .agg #[.int .i64 0, .int .i64 0, .int .i64 0, .int .i64 0, .slice none 0 0, .slice none 0 0, .int .i64 0], false⟩,
  ⟨84, 2, 32, .st [(0, 2), (1, 42)], .agg #[.int .i64 0, .slice none 0 0], false⟩,
  ⟨85, 1, 24, .slc 84, .slice none 0 0, false⟩,
  ⟨86, 1, 24, .slc 201, .slice none 0 0, false⟩,
  ⟨88, 4, 80, .st [(0, 4), (1, 85), (2, 86), (3, 37)], .agg #[.bool false, .slice none 0 0, .slice none 0 0, .slice none 0 0], false⟩,
  ⟨91, 2, 16, .st [(0, 2), (1, 2)], .agg #[.int .i64 0, .int .i64 0], true⟩,
  ⟨98, 1, 24, .st [(0, 37)], .agg #[.slice none 0 0], false⟩,
  ⟨102, 1, 8, .ptr, .pointer none, false⟩,
  ⟨116, 5, 40, .st [(0, 2), (1, 2), (2, 2), (3, 2), (4, 4)], .agg #[.int .i64 0, .int .i64 0, .int .i64 0, .int .i64 0, .bool false], true⟩,
  ⟨119, 5, 40, .st [(0, 2), (1, 2), (2, 2), (3, 4), (4, 2)], .agg #[.int .i64 0, .int .i64 0, .int .i64 0, .bool false, .int .i64 0], true⟩,
  ⟨124, 1, 24, .slc 4, .slice none 0 0, false⟩,
  ⟨129, 1, 8, .ptr, .pointer none, false⟩,
  ⟨138, 1, 24, .st [(0, 37)], .agg #[.slice none 0 0], false⟩,
  ⟨140, 1, 24, .slc 259, .slice none 0 0, false⟩,
  ⟨141, 1, 24, .slc 262, .slice none 0 0, false⟩,
  ⟨143, 4, 80, .st [(0, 4), (1, 140), (2, 141), (3, 37)], .agg #[.bool false, .slice none 0 0, .slice none 0 0, .slice none 0 0], false⟩,
  ⟨145, 1, 24, .slc 266, .slice none 0 0, false⟩,
  ⟨146, 1, 24, .slc 268, .slice none 0 0, false⟩,
  ⟨148, 7, 88, .st [(0, 2), (1, 2), (2, 2), (3, 2), (4, 145), (5, 146), (6, 2)], .agg #[.int .i64 0, .int .i64 0, .int .i64 0, .int .i64 0, .slice none 0 0, .slice none 0 0, .int .i64 0], false⟩,
  ⟨201, 4, 48, .st [(0, 2), (1, 2), (2, 2), (3, 74)], .agg #[.int .i64 0, .int .i64 0, .int .i64 0, .slice none 0 0], false⟩,
  ⟨239, 1, 24, .slc 242, .slice none 0 0, false⟩,
  ⟨242, 3, 24, .st [(0, 2), (1, 2), (2, 4)], .agg #[.int .i64 0, .int .i64 0, .bool false], true⟩,
  ⟨257, 1, 24, .slc 298, .slice none 0 0, false⟩,
  ⟨259, 2, 32, .st [(0, 2), (1, 257)], .agg #[.int .i64 0, .slice none 0 0], false⟩,
  ⟨262, 4, 48, .st [(0, 2), (1, 2), (2, 2), (3, 146)], .agg #[.int .i64 0, .int .i64 0, .int .i64 0, .slice none 0 0], false⟩,
  ⟨266, 5, 40, .st [(0, 2), (1, 2), (2, 2), (3, 2), (4, 4)], .agg #[.int .i64 0, .int .i64 0, .int .i64 0, .int .i64 0, .bool false], true⟩,
  ⟨268, 5, 40, .st [(0, 2), (1, 2), (2, 2), (3, 4), (4, 2)], .agg #[.int .i64 0, .int .i64 0, .int .i64 0, .bool false, .int .i64 0], true⟩,
  ⟨280, 1, 8, .it .u64, .int .u64 0, false⟩,
  ⟨294, 1, 24, .slc 3, .slice none 0 0, false⟩,
  ⟨298, 2, 16, .st [(0, 2), (1, 2)], .agg #[.int .i64 0, .int .i64 0], true⟩]
theorem tiOk {ti : TI} (h1 : (Tryz.prog.underlying ti.id).map shapeK = some ti.kind) (h2 : (Tryz.prog.info? ti.id).map (fun i => (i.size, i.bytes)) = some (ti.sz, ti.by_)) (h3 : (Tryz.prog.info? ti.id).bind (·.zero) = some ti.zero) (h4 : (!ti.eqf || eqPlain Tryz.prog ti.id) = true) : ti.ok Tryz.prog := ⟨h1, h2, h3, fun e => by rw [e] at h4; exact h4⟩
theorem TT_ok : TOk Tryz.prog TT := by
  unfold TT
  repeat' first
    | exact trivial
    | refine ⟨tiOk (by kernel_rfl) (by kernel_rfl) (by kernel_rfl) (by kernel_rfl), ?_⟩
end Go.Proofs.YtipgpboliolphaaGreat
