
/-
  What a transaction checks, on both sides.
-/
import Derived.Test.YtiegllklalplnaaGreatP6
import Derived.Test.YtiegllklalplnaaGreatW21
namespace Go.Proofs.YtiegllklalplnaaGreat
open Go Go.RowKit
set_option linter.unusedVariables false
set_option linter.unusedSimpArgs false
set_option maxRecDepth 4000

/-- numbers that say where an element lies, rising: less than 0 before, not behind -/
def rising {α : Type} (c : α → Int) (z : α) (xs : List α) : Prop := ∀ a b, a ≤ b → b < xs.length → c (xs.getD b z) < 0 → c (xs.getD a z) < 0
/-- where a search ends -/
def cutAt {α : Type} (c : α → Int) (z : α) (xs : List α) (i : Nat) : Prop := i ≤ xs.length ∧ (∀ a, a < i → c (xs.getD a z) < 0) ∧ ∀ a, i ≤ a → a < xs.length → ¬ c (xs.getD a z) < 0
theorem searchSet_c (xs : List GSet) (hl : xs.length ≤ 1048576) (s0 : GSet) (c : GSet → Int) (hm : rising c GSet.z xs) : Con Tryz.prog 216 [] [vL 5 cSet GSet.z xs, vR (cSet s0), fbO (fun x => [RD.ag (cSet x), RD.ag (cSet s0)]) fun x => .int .i64 (c x)] [] (cutAt c GSet.z xs)
    (fun i => [vI i, vB (bif decide ((i : Int) < xs.length) then c (xs.getD i GSet.z) == 0 else false)]) fun _ => [] := by
  refine con_enter Tryz.func216 rfl rfl rfl fun B0 r D w0 => ?_
  refine T_auto TT_ok rfl ?_
  refine T_loopA (ι := Nat × Nat) (fun y => [(9, vI y.1), (10, vI y.2)]) (fun _ => []) (fun y => y.1 ≤ y.2 ∧ y.2 ≤ xs.length ∧ (∀ a, a < y.1 → c (xs.getD a GSet.z) < 0) ∧ ∀ a, y.2 ≤ a → a < xs.length → ¬ c (xs.getD a GSet.z) < 0) (fun y => y.2 - y.1) (0, xs.length) [] [] rfl rfl ⟨Nat.zero_le _, Nat.le_refl _, fun a h => absurd h (Nat.not_lt_zero _), fun a h1 h2 => by omega⟩ (by repeat (first | exact trivial | refine And.intro ⟨_, rfl, SV.imp_refl _⟩ ?_)) (by repeat (first | exact trivial | refine And.intro ⟨_, rfl, Ch.imp_refl _⟩ ?_)) ?_
  rintro ⟨i, j⟩ ⟨h1, h2, h3, h4⟩
  dsimp only at h1 h2 h3 h4 ⊢
  refine T_auto TT_ok rfl ?_
  refine T_condD rfl (fun e => ?_) (fun e => ?_)
  · have hij : i < j := by omega
    have hh : (((i : Int) + j) / 2).toNat = (i + j) / 2 := by omega
    refine T_auto TT_ok rfl ?_
    refine T_drawA TT_ok [] rfl rfl fun B0 H0 => ?_
    refine DJ_one 6 rfl (by kernel_rfl) (OJ_F rfl rfl rfl ⟨xs.getD (((i : Int) + j) / 2).toNat GSet.z, rfl, rfl⟩ (SJ_dj ?_))
    refine DJ_on TT_ok rfl ?_
    refine DJ_endA TT_ok rfl ?_
    rw [hh]
    refine T_condD rfl (fun e2 => ?_) (fun e2 => ?_)
    · refine T_auto TT_ok rfl ?_
      refine X_inv ((i + j) / 2 + 1, j) ⟨by dsimp only; omega, h2, fun a ha => ?_, h4⟩ (by show j - ((i + j) / 2 + 1) < j - i; omega) ⟨⟨_, rfl, SV.imp_of (vI_eq (by dsimp only; omega))⟩, ⟨_, rfl, SV.imp_refl _⟩, (by repeat (first | exact trivial | refine And.intro ⟨_, rfl, SV.imp_refl _⟩ ?_))⟩ (by repeat (first | exact trivial | refine And.intro ⟨_, rfl, Ch.imp_refl _⟩ ?_))
      exact hm a ((i + j) / 2) (by dsimp only at ha; omega) (by omega) e2
    · refine T_auto TT_ok rfl ?_
      refine X_inv (i, (i + j) / 2) ⟨by dsimp only; omega, by dsimp only; omega, h3, fun a a1 a2 hc => ?_⟩ (by show (i + j) / 2 - i < j - i; omega) ⟨⟨_, rfl, SV.imp_refl _⟩, ⟨_, rfl, SV.imp_of (vI_eq (by dsimp only; omega))⟩, (by repeat (first | exact trivial | refine And.intro ⟨_, rfl, SV.imp_refl _⟩ ?_))⟩ (by repeat (first | exact trivial | refine And.intro ⟨_, rfl, Ch.imp_refl _⟩ ?_))
      exact e2 (hm ((i + j) / 2) a (by dsimp only at a1; omega) a2 hc)
  · have hij : i = j := by omega
    subst hij
    refine T_auto TT_ok rfl ?_
    refine T_drawA TT_ok [] rfl rfl fun B0 H0 => ?_
    refine DJ_one 11 rfl (by kernel_rfl) (OJ_FG rfl rfl rfl rfl rfl ⟨xs.getD i GSet.z, rfl, rfl⟩ (SJ_dj ?_))
    refine DJ_on TT_ok rfl ?_
    refine DJ_endA TT_ok rfl ?_
    refine T_ret TT_ok (i) [(6, none), (7, none)] rfl rfl ?_ ?_ ?_
    · exact SVs.imp_refl _
    · trivial
    · exact ⟨h2, h3, h4⟩
end Go.Proofs.YtiegllklalplnaaGreat
