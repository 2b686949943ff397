
/-
  The cursor over a draw's bytes.
-/
import Derived.Test.YtamcahpdepepfaaPA
import Derived.Test.YtamcahpdepepfaaWG
namespace Go.Proofs.Ytamcahpdepepfaa
open Go Go.RowKit
set_option linter.unusedVariables false
set_option linter.unusedSimpArgs false
set_option maxRecDepth 4000

theorem andI_range (x y : Int) (h1 : 0 ≤ y) (h2 : y < 9223372036854775808) : 0 ≤ andI x y ∧ andI x y ≤ y := by
  unfold andI
  have h3 : (BitVec.ofInt 64 x &&& BitVec.ofInt 64 y).toNat ≤ (BitVec.ofInt 64 y).toNat := by rw [BitVec.toNat_and]; exact Nat.and_le_right
  have e64 : ((2 ^ 64 : Nat) : Int) = 18446744073709551616 := by decide
  have h4 : ((BitVec.ofInt 64 y).toNat : Int) = y := by
    rw [BitVec.toNat_ofInt, e64, Int.emod_eq_of_lt h1 (by omega)]; omega
  have h5 : IntKind.i64.wrap (((BitVec.ofInt 64 x &&& BitVec.ofInt 64 y).toNat : Nat) : Int) = (((BitVec.ofInt 64 x &&& BitVec.ofInt 64 y).toNat : Nat) : Int) := IntWalk.i64_in _ (by omega)
  rw [h5]
  omega
/-- the cursor lies under key 700, the bytes under key 701 -/
abbrev curM (n : Nat) (β : Nat → Int) (i h : Int) : Mu := [(700, .row [.g 701, .v (.int .i64 i), .v (.int .i64 h)]), (701, .ro 1 n fun k => [.v (.int .u8 (β k))])]
abbrev curO (i h : Int) : Mu := [(700, .row [.g 701, .v (.int .i64 i), .v (.int .i64 h)])]
def byteB (β : Nat → Int) : Prop := ∀ k, 0 ≤ β k ∧ β k ≤ 255
/-- a draw -/
abbrev DrawC {α : Type} (P : Program) (f : Nat) (args : List SV) (n : Nat) (β : Nat → Int) (i h : Int) (ψ : α → Prop) (res : α → SV) : Prop :=
  Con P f [700, 701] (.a (.p 700 0) :: args) (curM n β i h) (fun y : α × Int × Int => ψ y.1 ∧ 0 ≤ y.2.1 ∧ y.2.1 ≤ n) (fun y => [res y.1]) fun y => curO y.2.1 y.2.2
theorem l1Byte_c {n : Nat} {β : Nat → Int} (hn : n ≤ 1048576) (hβ : byteB β) (i h : Int) (h1 : 0 ≤ i) (h2 : i ≤ n) : DrawC Try.prog 75 [] n β i h (fun x : Int => 0 ≤ x ∧ x ≤ 255) vI := by
  have hb := hβ i.toNat
  refine con_enter Try.func75 rfl rfl rfl fun B0 r_ D_ w0 => ?_
  refine T_auto TT_ok rfl ?_
  refine T_drawA TT_ok [] rfl rfl fun B0 H0 => ?_
  refine DJ_endA TT_ok rfl ?_
  obtain ⟨X, hX, hx⟩ : ∃ X, andI (xorI ((wr64 (wr64 (h * 6364136223846793005) + 1442695040888963407)).fdiv (2 ^ min 33 IntKind.i64.bits)) ((wr64 (wr64 (h * 6364136223846793005) + 1442695040888963407)).fdiv (2 ^ min 45 IntKind.i64.bits))) 255 = X ∧ 0 ≤ X ∧ X ≤ 255 := ⟨_, rfl, andI_range _ _ (by decide) (by decide)⟩
  rw [hX]
  refine T_drawA TT_ok [] rfl rfl fun B0 H0 => ?_
  refine DJ_endA TT_ok rfl ?_
  refine T_condD rfl (fun e => ?_) (fun e => ?_)
  · refine T_auto TT_ok rfl ?_
    refine T_drawA TT_ok [] rfl rfl fun B0 H0 => ?_
    refine DJ_endA TT_ok rfl ?_
    have hy := andI_range (X + β i.toNat) 255 (by decide) (by decide)
    refine T_ret TT_ok ((andI (X + β i.toNat) 255, i + 1, wr64 (wr64 (h * 6364136223846793005) + 1442695040888963407))) [(2, none)] rfl rfl ?_ ?_ ?_
    · exact SVs.imp_refl _
    · exact ⟨⟨_, rfl, Ch.imp_refl _⟩, trivial⟩
    · exact ⟨hy, by dsimp only; omega, by dsimp only; omega⟩
  · refine T_auto TT_ok rfl ?_
    refine T_ret TT_ok ((X, i, wr64 (wr64 (h * 6364136223846793005) + 1442695040888963407))) [(2, none)] rfl rfl ?_ ?_ ?_
    · exact SVs.imp_refl _
    · exact ⟨⟨_, rfl, Ch.imp_refl _⟩, trivial⟩
    · exact ⟨hx, h1, h2⟩
theorem l1Below_c {n : Nat} {β : Nat → Int} (hn : n ≤ 1048576) (hβ : byteB β) (i h : Int) (h1 : 0 ≤ i) (h2 : i ≤ n) (m : Int) : DrawC Try.prog 42 [vI m] n β i h (fun x : Int => 0 ≤ x ∧ (x < m ∨ m ≤ 0 ∧ x = 0)) vI := by
  refine con_enter Try.func42 rfl rfl rfl fun B0 r_ D_ w0 => ?_
  refine T_auto TT_ok rfl ?_
  refine T_condD rfl (fun e => ?_) (fun e => ?_)
  · refine T_auto TT_ok rfl ?_
    refine T_ret TT_ok ((0, i, h)) [(4, none)] rfl rfl ?_ ?_ ?_
    · exact SVs.imp_refl _
    · exact ⟨⟨_, rfl, Ch.imp_refl _⟩, trivial⟩
    · exact ⟨⟨Int.le_refl _, .inr ⟨e, rfl⟩⟩, h1, h2⟩
  refine T_auto TT_ok rfl ?_
  refine T_condD rfl (fun e2 => ?_) (fun e2 => ?_)
  · refine T_auto TT_ok rfl ?_
    refine RJ_C TT_ok (l1Byte_c hn hβ i h h1 h2) rfl rfl (SVs.imp_refl _) (fun _ => rfl) rfl rfl rfl fun y hy => ?_
    refine RJ_auto TT_ok rfl ?_
    refine T_ret TT_ok ((y.1.tmod m, y.2.1, y.2.2)) [(4, none)] rfl rfl ?_ ?_ ?_
    · exact SVs.imp_refl _
    · exact ⟨⟨_, rfl, Ch.imp_refl _⟩, trivial⟩
    · exact ⟨⟨Int.tmod_nonneg _ hy.1.1, .inl (Int.tmod_lt_of_pos _ (by omega))⟩, hy.2⟩
  refine T_auto TT_ok rfl ?_
  refine RJ_C TT_ok (l1Byte_c hn hβ i h h1 h2) rfl rfl (SVs.imp_refl _) (fun _ => rfl) rfl rfl rfl fun a ha => ?_
  refine RJ_auto TT_ok rfl ?_
  refine RJ_C TT_ok (l1Byte_c hn hβ a.2.1 a.2.2 ha.2.1 ha.2.2) rfl rfl (SVs.imp_refl _) (fun _ => rfl) rfl rfl rfl fun b hb => ?_
  refine RJ_auto TT_ok rfl ?_
  refine RJ_C TT_ok (l1Byte_c hn hβ b.2.1 b.2.2 hb.2.1 hb.2.2) rfl rfl (SVs.imp_refl _) (fun _ => rfl) rfl rfl rfl fun c hc => ?_
  refine RJ_auto TT_ok rfl ?_
  refine RJ_C TT_ok (l1Byte_c hn hβ c.2.1 c.2.2 hc.2.1 hc.2.2) rfl rfl (SVs.imp_refl _) (fun _ => rfl) rfl rfl rfl fun d hd => ?_
  have ha1 := ha.1
  have hb1 := hb.1
  have hc1 := hc.1
  have hd1 := hd.1
  refine RJ_auto TT_ok rfl ?_
  refine T_ret TT_ok (((a.1 * 16777216 + b.1 * 65536 + c.1 * 256 + d.1).tmod m, d.2.1, d.2.2)) [(4, none)] rfl rfl ?_ ?_ ?_
  · exact SVs.imp_refl _
  · exact ⟨⟨_, rfl, Ch.imp_refl _⟩, trivial⟩
  · exact ⟨⟨Int.tmod_nonneg _ (by omega), .inl (Int.tmod_lt_of_pos _ (by omega))⟩, hd.2⟩
theorem l1Once_c {n : Nat} {β : Nat → Int} (hn : n ≤ 1048576) (hβ : byteB β) (i h : Int) (h1 : 0 ≤ i) (h2 : i ≤ n) (m : Int) : DrawC Try.prog 64 [vI m] n β i h (fun _ : Bool => True) vB := by
  refine con_enter Try.func64 rfl rfl rfl fun B0 r_ D_ w0 => ?_
  refine T_auto TT_ok rfl ?_
  refine RJ_C TT_ok (l1Below_c hn hβ i h h1 h2 m) rfl rfl (SVs.imp_refl _) (fun _ => rfl) rfl rfl rfl fun y hy => ?_
  refine RJ_auto TT_ok rfl ?_
  refine T_ret TT_ok ((y.1 == 0, y.2.1, y.2.2)) [(4, none)] rfl rfl ?_ ?_ ?_
  · exact SVs.imp_refl _
  · exact ⟨⟨_, rfl, Ch.imp_refl _⟩, trivial⟩
  · exact ⟨trivial, hy.2⟩
theorem l1From_c {n : Nat} {β : Nat → Int} (hn : n ≤ 1048576) (hβ : byteB β) (i h : Int) (h1 : 0 ≤ i) (h2 : i ≤ n) (lo hi : Int) (h3 : -1000000000000 ≤ lo) (h4 : lo ≤ hi) (h5 : hi ≤ 1000000000000) : DrawC Try.prog 65 [vI lo, vI hi] n β i h (fun x : Int => lo ≤ x ∧ x ≤ hi) vI := by
  refine con_enter Try.func65 rfl rfl rfl fun B0 r_ D_ w0 => ?_
  refine T_auto TT_ok rfl ?_
  refine RJ_C TT_ok (l1Below_c hn hβ i h h1 h2 (hi - lo + 1)) rfl rfl (SVs.imp_refl _) (fun _ => rfl) rfl rfl rfl fun y hy => ?_
  have hy1 := hy.1
  refine RJ_auto TT_ok rfl ?_
  refine T_ret TT_ok ((lo + y.1, y.2.1, y.2.2)) [(6, none)] rfl rfl ?_ ?_ ?_
  · exact SVs.imp_refl _
  · exact ⟨⟨_, rfl, Ch.imp_refl _⟩, trivial⟩
  · exact ⟨by dsimp only; omega, hy.2⟩
theorem l1New_c {n : Nat} {β : Nat → Int} (hn : n ≤ 1048576) (hβ : byteB β) : Con Try.prog 30 [701] [.a (.g 701)] [(701, .ro 1 n fun k => [.v (.int .u8 (β k))])] (fun _ : Int => True) (fun _ => [.a (.p 700 0)]) fun h => curO 0 h := by
  refine con_enter Try.func30 rfl rfl rfl fun B0 r_ D_ w0 => ?_
  refine T_auto TT_ok rfl ?_
  refine T_loopA (ι := Nat × Int) (fun y => [(4, vI y.1), (3, vI y.2)]) (fun _ => []) (fun y => y.1 ≤ n ∧ 0 ≤ y.2 ∧ y.2 ≤ 1073741823) (fun y => n - y.1) (0, 101027 + n) [] [] rfl rfl ⟨Nat.zero_le _, by dsimp only; omega, by dsimp only; omega⟩ (by repeat (first | exact trivial | refine And.intro ⟨_, rfl, SV.imp_refl _⟩ ?_)) (by repeat (first | exact trivial | refine And.intro ⟨_, rfl, Ch.imp_refl _⟩ ?_)) ?_
  rintro ⟨i, x⟩ ⟨h1, h2, h3⟩
  dsimp only at h1 h2 h3 ⊢
  have hb := hβ i
  refine T_auto TT_ok rfl ?_
  refine T_condD rfl (fun e => ?_) (fun e => ?_)
  · have hb2 : 0 ≤ β ((i : Int)).toNat ∧ β ((i : Int)).toNat ≤ 255 := hβ _
    refine T_auto TT_ok rfl ?_
    exact X_inv (i + 1, _) ⟨by dsimp only; omega, andI_range _ _ (by decide) (by decide)⟩ (by dsimp only; omega) (by repeat (first | exact trivial | refine And.intro ⟨_, rfl, SV.imp_refl _⟩ ?_)) (by repeat (first | exact trivial | refine And.intro ⟨_, rfl, Ch.imp_refl _⟩ ?_))
  · refine T_auto TT_ok rfl ?_
    refine T_view (V_sw 27 700) ?_
    refine T_ret TT_ok (x) [(2, none)] rfl rfl ?_ ?_ ?_
    · exact SVs.imp_refl _
    · exact ⟨⟨_, rfl, Ch.imp_refl _⟩, trivial⟩
    · trivial
end Go.Proofs.Ytamcahpdepepfaa
