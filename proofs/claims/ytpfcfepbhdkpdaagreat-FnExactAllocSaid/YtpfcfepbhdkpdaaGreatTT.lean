/-
  The table of types, by program.
-/
import Derived.Test.YtpfcfepbhdkpdaaGreatWF
import Derived.Test.YtpfcfepbhdkpdaaGreatProg
namespace Go.Proofs.YtpfcfepbhdkpdaaGreat
open Go Go.RowKit
set_option maxRecDepth 100000

def TT : List TI := [
  ⟨2, 1, 8, .it .i64, .int .i64 0, false⟩,
  ⟨3, 1, 8, .it .i64, .int .i64 0, false⟩,
  ⟨4, 1, 1, .bo, .bool false, false⟩,
  ⟨22, 1, 24, .slc 105, .slice none 0 0, false⟩,
  ⟨23, 1, 24, .slc 110, .slice none 0 0, false⟩,
  ⟨24, 1, 24, .slc 115, .slice none 0 0, false⟩,
  ⟨26, 6, 96, .st [(0, 2), (1, 2), (2, 22), (3, 23), (4, 24), (5, 4)], .agg #[.int .i64 0, .int .i64 0, .slice none 0 0, .slice none 0 0, .slice none 0 0, .bool false], false⟩,
  ⟨28, 1, 24, .slc 117, .slice none 0 0, false⟩,
  ⟨29, 1, 24, .slc 86, .slice none 0 0, false⟩,
  ⟨30, 1, 24, .slc 56, .slice none 0 0, false⟩,
  ⟨32, 6, 96, .st [(0, 2), (1, 2), (2, 28), (3, 29), (4, 30), (5, 4)], .agg #[.int .i64 0, .int .i64 0, .slice none 0 0, .slice none 0 0, .slice none 0 0, .bool false], false⟩,
  ⟨53, 1, 24, .slc 94, .slice none 0 0, false⟩,
  ⟨54, 1, 24, .slc 97, .slice none 0 0, false⟩,
  ⟨56, 7, 88, .st [(0, 2), (1, 2), (2, 2), (3, 2), (4, 53), (5, 54), (6, 2)], .agg #[.int .i64 0, .int .i64 0, .int .i64 0, .int .i64 0, .slice none 0 0, .slice none 0 0, .int .i64 0], false⟩,
  ⟨61, 1, 8, .ptr, .pointer none, false⟩,
  ⟨78, 1, 24, .slc 2, .slice none 0 0, false⟩,
  ⟨80, 1, 24, .slc 90, .slice none 0 0, false⟩,
  ⟨82, 2, 32, .st [(0, 2), (1, 80)], .agg #[.int .i64 0, .slice none 0 0], false⟩,
  ⟨83, 1, 24, .slc 82, .slice none 0 0, false⟩,
  ⟨84, 1, 24, .slc 159, .slice none 0 0, false⟩,
  ⟨86, 4, 80, .st [(0, 4), (1, 83), (2, 84), (3, 78)], .agg #[.bool false, .slice none 0 0, .slice none 0 0, .slice none 0 0], false⟩,
  ⟨90, 2, 16, .st [(0, 2), (1, 2)], .agg #[.int .i64 0, .int .i64 0], true⟩,
  ⟨94, 5, 40, .st [(0, 2), (1, 2), (2, 2), (3, 2), (4, 4)], .agg #[.int .i64 0, .int .i64 0, .int .i64 0, .int .i64 0, .bool false], true⟩,
  ⟨97, 5, 40, .st [(0, 2), (1, 2), (2, 2), (3, 4), (4, 2)], .agg #[.int .i64 0, .int .i64 0, .int .i64 0, .bool false, .int .i64 0], true⟩,
  ⟨105, 1, 24, .st [(0, 78)], .agg #[.slice none 0 0], false⟩,
  ⟨107, 1, 24, .slc 190, .slice none 0 0, false⟩,
  ⟨108, 1, 24, .slc 193, .slice none 0 0, false⟩,
  ⟨110, 4, 80, .st [(0, 4), (1, 107), (2, 108), (3, 78)], .agg #[.bool false, .slice none 0 0, .slice none 0 0, .slice none 0 0], false⟩,
  ⟨112, 1, 24, .slc 198, .slice none 0 0, false⟩,
  ⟨113, 1, 24, .slc 200, .slice none 0 0, false⟩,
  ⟨115, 7, 88, .st [(0, 2), (1, 2), (2, 2), (3, 2), (4, 112), (5, 113), (6, 2)], .agg #[.int .i64 0, .int .i64 0, .int .i64 0, .int .i64 0, .slice none 0 0, .slice none 0 0, .int .i64 0], false⟩,
  ⟨117, 1, 24, .st [(0, 78)], .agg #[.slice none 0 0], false⟩,
  ⟨159, 4, 48, .st [(0, 2), (1, 2), (2, 2), (3, 54)], .agg #[.int .i64 0, .int .i64 0, .int .i64 0, .slice none 0 0], false⟩,
  ⟨188, 1, 24, .slc 223, .slice none 0 0, false⟩,
  ⟨190, 2, 32, .st [(0, 2), (1, 188)], .agg #[.int .i64 0, .slice none 0 0], false⟩,
  ⟨193, 4, 48, .st [(0, 2), (1, 2), (2, 2), (3, 113)], .agg #[.int .i64 0, .int .i64 0, .int .i64 0, .slice none 0 0], false⟩,
  ⟨198, 5, 40, .st [(0, 2), (1, 2), (2, 2), (3, 2), (4, 4)], .agg #[.int .i64 0, .int .i64 0, .int .i64 0, .int .i64 0, .bool false], true⟩,
  ⟨200, 5, 40, .st [(0, 2), (1, 2), (2, 2), (3, 4), (4, 2)], .agg #[.int .i64 0, .int .i64 0, .int .i64 0, .bool false, .int .i64 0], true⟩,
  ⟨214, 1, 8, .it .u64, .int .u64 0, false⟩,
  ⟨220, 1, 24, .slc 3, .slice none 0 0, false⟩,
  ⟨223, 2, 16, .st [(0, 2), (1, 2)], .agg #[.int .i64 0, .int .i64 0], true⟩]
theorem tiOk {ti : TI} (h1 : (Tryz.prog.underlying ti.id).map shapeK = some ti.kind) (h2 : (Tryz.prog.info? ti.id).map (fun i => (i.size, i.bytes)) = some (ti.sz, ti.by_)) (h3 : (Tryz.prog.info? ti.id).bind (·.zero) = some ti.zero) (h4 : (!ti.eqf || eqPlain Tryz.prog ti.id) = true) : ti.ok Tryz.prog := ⟨h1, h2, h3, fun e => by rw [e] at h4; exact h4⟩
theorem TT_ok : TOk Tryz.prog TT := by
  unfold TT
  repeat' first
    | exact trivial
    | refine ⟨tiOk (by kernel_rfl) (by kernel_rfl) (by kernel_rfl) (by kernel_rfl), ?_⟩
end Go.Proofs.YtpfcfepbhdkpdaaGreat
