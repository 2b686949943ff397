
/-
  Draws of notes, Sets and transactions.
-/
import Derived.Test.YtamcahpdepepfaaR1
import Derived.Test.YtamcahpdepepfaaWJ
import Derived.Test.YtamcahpdepepfaaL2
namespace Go.Proofs.Ytamcahpdepepfaa
open Go Go.RowKit
set_option linter.unusedVariables false
set_option linter.unusedSimpArgs false
set_option maxRecDepth 4000

abbrev rowN (x : GNote) : List V := [.v (.int .i64 x.region), .v (.int .i64 x.slot), .v (.int .i64 x.version), .v (.int .i64 x.value), .v (.bool x.used)]
abbrev rowS (x : GSet) : List V := [.v (.int .i64 x.region), .v (.int .i64 x.slot), .v (.int .i64 x.value), .v (.bool x.used), .v (.int .i64 x.version)]
abbrev rowCur (i h : Int) : Ch := .row [.g 701, .v (.int .i64 i), .v (.int .i64 h)]

theorem l7DrawNote_c {n : Nat} {β : Nat → Int} (hn : n ≤ 1048576) (hβ : byteB β) (i h : Int) (h1 : 0 ≤ i) (h2 : i ≤ n) : DrawC Try.prog 32 [] n β i h (fun _ : GNote => True) (fun x => vR (cNote x)) := by
  refine con_enter Try.func32 rfl rfl rfl fun B0 r_ D_ w0 => ?_
  refine T_auto TT_ok rfl ?_
  refine RJ_C TT_ok (l1Below_c hn hβ i h h1 h2 3) rfl rfl (SVs.imp_refl _) (fun _ => rfl) rfl rfl rfl fun a ⟨a1, a2, a3⟩ => ?_
  refine RJ_auto TT_ok rfl ?_
  refine RJ_C TT_ok (l1Below_c hn hβ a.2.1 a.2.2 a2 a3 6) rfl rfl (SVs.imp_refl _) (fun _ => rfl) rfl rfl rfl fun b ⟨b1, b2, b3⟩ => ?_
  refine RJ_auto TT_ok rfl ?_
  refine RJ_C TT_ok (l1Below_c hn hβ b.2.1 b.2.2 b2 b3 6) rfl rfl (SVs.imp_refl _) (fun _ => rfl) rfl rfl rfl fun c ⟨c1, c2, c3⟩ => ?_
  refine RJ_auto TT_ok rfl ?_
  refine RJ_C TT_ok (l1From_c hn hβ c.2.1 c.2.2 c2 c3 (-9) 9 (by decide) (by decide) (by decide)) rfl rfl (SVs.imp_refl _) (fun _ => rfl) rfl rfl rfl fun d ⟨d1, d2, d3⟩ => ?_
  refine RJ_auto TT_ok rfl ?_
  refine RJ_C TT_ok (l1Once_c hn hβ d.2.1 d.2.2 d2 d3 2) rfl rfl (SVs.imp_refl _) (fun _ => rfl) rfl rfl rfl fun e ⟨e1, e2, e3⟩ => ?_
  refine RJ_auto TT_ok rfl ?_
  refine RJ_C TT_ok (l1Once_c hn hβ e.2.1 e.2.2 e2 e3 24) rfl rfl (SVs.imp_refl _) (fun _ => rfl) rfl rfl rfl fun f ⟨f1, f2, f3⟩ => ?_
  refine RJ_auto TT_ok rfl ?_
  refine T_joinA (ι := GNote × Int × Int) (fun _ => []) (fun y => [(3, .row (rowN y.1)), (700, rowCur y.2.1 y.2.2)]) (fun y => 0 ≤ y.2.1 ∧ y.2.1 ≤ n) [3, 700] [] rfl rfl ?_ ?_
  · refine T_cond rfl (fun _ => ?_) (fun _ => ?_)
    rotate_left
    · refine T_auto TT_ok rfl ?_
      exact X_inv (⟨a.1, b.1, c.1, d.1, e.1⟩, f.2.1, f.2.2) ⟨f2, f3⟩ Nat.zero_lt_one (by repeat (first | exact trivial | refine And.intro ⟨_, rfl, SV.imp_refl _⟩ ?_)) (by repeat (first | exact trivial | refine And.intro ⟨_, rfl, Ch.imp_refl _⟩ ?_))
    refine T_auto TT_ok rfl ?_
    refine RJ_C TT_ok (l1Below_c hn hβ f.2.1 f.2.2 f2 f3 3) rfl rfl (SVs.imp_refl _) (fun _ => rfl) rfl rfl rfl fun g ⟨g1, g2, g3⟩ => ?_
    refine RJ_auto TT_ok rfl ?_
    refine T_cond rfl (fun _ => ?_) (fun _ => ?_)
    · refine T_auto TT_ok rfl ?_
      refine RJ_bs TT_ok 50 (fun i => cInt (([-1, 5, 6] : List Int).getD i 0)) rfl rfl rfl rfl rfl rfl rfl (fun i hi => by rcases i with _ | _ | _ | i <;> first | rfl | omega) (mu1 := []) rfl rfl rfl ?_
      refine RJ_auto TT_ok rfl ?_
      refine RJ_C TT_ok (l1Below_c hn hβ g.2.1 g.2.2 g2 g3 3) rfl rfl (SVs.imp_refl _) (fun _ => rfl) rfl rfl rfl fun z ⟨z1, z2, z3⟩ => ?_
      refine RJ_auto TT_ok rfl ?_
      exact X_inv (⟨(([-1, 5, 6] : List Int).getD z.1.toNat 0), b.1, c.1, d.1, e.1⟩, z.2.1, z.2.2) ⟨z2, z3⟩ Nat.zero_lt_one (by repeat (first | exact trivial | refine And.intro ⟨_, rfl, SV.imp_refl _⟩ ?_)) (by repeat (first | exact trivial | refine And.intro ⟨_, rfl, Ch.imp_refl _⟩ ?_))
    refine T_auto TT_ok rfl ?_
    refine T_cond rfl (fun _ => ?_) (fun _ => ?_)
    · refine T_auto TT_ok rfl ?_
      refine RJ_bs TT_ok 50 (fun i => cInt (([-1, 6] : List Int).getD i 0)) rfl rfl rfl rfl rfl rfl rfl (fun i hi => by rcases i with _ | _ | i <;> first | rfl | omega) (mu1 := []) rfl rfl rfl ?_
      refine RJ_auto TT_ok rfl ?_
      refine RJ_C TT_ok (l1Below_c hn hβ g.2.1 g.2.2 g2 g3 2) rfl rfl (SVs.imp_refl _) (fun _ => rfl) rfl rfl rfl fun z ⟨z1, z2, z3⟩ => ?_
      refine RJ_auto TT_ok rfl ?_
      exact X_inv (⟨a.1, (([-1, 6] : List Int).getD z.1.toNat 0), c.1, d.1, e.1⟩, z.2.1, z.2.2) ⟨z2, z3⟩ Nat.zero_lt_one (by repeat (first | exact trivial | refine And.intro ⟨_, rfl, SV.imp_refl _⟩ ?_)) (by repeat (first | exact trivial | refine And.intro ⟨_, rfl, Ch.imp_refl _⟩ ?_))
    refine T_auto TT_ok rfl ?_
    refine T_cond rfl (fun _ => ?_) (fun _ => ?_)
    · refine T_auto TT_ok rfl ?_
      refine RJ_bs TT_ok 50 (fun i => cInt (([-1, 1000000, 1000001] : List Int).getD i 0)) rfl rfl rfl rfl rfl rfl rfl (fun i hi => by rcases i with _ | _ | _ | i <;> first | rfl | omega) (mu1 := []) rfl rfl rfl ?_
      refine RJ_auto TT_ok rfl ?_
      refine RJ_C TT_ok (l1Below_c hn hβ g.2.1 g.2.2 g2 g3 3) rfl rfl (SVs.imp_refl _) (fun _ => rfl) rfl rfl rfl fun z ⟨z1, z2, z3⟩ => ?_
      refine RJ_auto TT_ok rfl ?_
      exact X_inv (⟨a.1, b.1, (([-1, 1000000, 1000001] : List Int).getD z.1.toNat 0), d.1, e.1⟩, z.2.1, z.2.2) ⟨z2, z3⟩ Nat.zero_lt_one (by repeat (first | exact trivial | refine And.intro ⟨_, rfl, SV.imp_refl _⟩ ?_)) (by repeat (first | exact trivial | refine And.intro ⟨_, rfl, Ch.imp_refl _⟩ ?_))
    refine T_auto TT_ok rfl ?_
    exact X_inv (⟨a.1, b.1, c.1, d.1, e.1⟩, g.2.1, g.2.2) ⟨g2, g3⟩ Nat.zero_lt_one (by repeat (first | exact trivial | refine And.intro ⟨_, rfl, SV.imp_refl _⟩ ?_)) (by repeat (first | exact trivial | refine And.intro ⟨_, rfl, Ch.imp_refl _⟩ ?_))
  rintro ⟨x, i', h'⟩ ⟨g1, g2⟩
  dsimp only at g1 g2 ⊢
  refine X_go TT_ok rfl ?_
  refine T_ret TT_ok ((x, i', h')) [(2, some 39)] rfl rfl ?_ ?_ ?_
  · exact SVs.imp_refl _
  · exact ⟨⟨_, rfl, Ch.imp_refl _⟩, trivial⟩
  · exact ⟨trivial, g1, g2⟩
theorem l2DrawSet_c {n : Nat} {β : Nat → Int} (hn : n ≤ 1048576) (hβ : byteB β) (i h : Int) (h1 : 0 ≤ i) (h2 : i ≤ n) (r0 : Int) (hr : -1000000 ≤ r0 ∧ r0 ≤ 1000000) : DrawC Try.prog 41 [vI r0] n β i h (fun _ : GSet => True) (fun x => vR (cSet x)) := by
  refine con_enter Try.func41 rfl rfl rfl fun B0 r_ D_ w0 => ?_
  refine T_auto TT_ok rfl ?_
  refine RJ_C TT_ok (l1Below_c hn hβ i h h1 h2 6) rfl rfl (SVs.imp_refl _) (fun _ => rfl) rfl rfl rfl fun a ⟨a1, a2, a3⟩ => ?_
  refine RJ_auto TT_ok rfl ?_
  refine RJ_C TT_ok (l1From_c hn hβ a.2.1 a.2.2 a2 a3 (-50) 50 (by decide) (by decide) (by decide)) rfl rfl (SVs.imp_refl _) (fun _ => rfl) rfl rfl rfl fun b ⟨b1, b2, b3⟩ => ?_
  refine RJ_auto TT_ok rfl ?_
  refine RJ_C TT_ok (l1Once_c hn hβ b.2.1 b.2.2 b2 b3 2) rfl rfl (SVs.imp_refl _) (fun _ => rfl) rfl rfl rfl fun c ⟨c1, c2, c3⟩ => ?_
  refine RJ_auto TT_ok rfl ?_
  refine RJ_C TT_ok (l1Below_c hn hβ c.2.1 c.2.2 c2 c3 6) rfl rfl (SVs.imp_refl _) (fun _ => rfl) rfl rfl rfl fun d ⟨d1, d2, d3⟩ => ?_
  refine RJ_auto TT_ok rfl ?_
  refine RJ_C TT_ok (l1Once_c hn hβ d.2.1 d.2.2 d2 d3 30) rfl rfl (SVs.imp_refl _) (fun _ => rfl) rfl rfl rfl fun f ⟨f1, f2, f3⟩ => ?_
  refine RJ_auto TT_ok rfl ?_
  refine T_joinA (ι := GSet × Int × Int) (fun _ => []) (fun y => [(5, .row (rowS y.1)), (700, rowCur y.2.1 y.2.2)]) (fun y => 0 ≤ y.2.1 ∧ y.2.1 ≤ n) [5, 700] [] rfl rfl ?_ ?_
  · refine T_cond rfl (fun _ => ?_) (fun _ => ?_)
    rotate_left
    · refine T_auto TT_ok rfl ?_
      exact X_inv (⟨r0, a.1, b.1, c.1, d.1⟩, f.2.1, f.2.2) ⟨f2, f3⟩ Nat.zero_lt_one (by repeat (first | exact trivial | refine And.intro ⟨_, rfl, SV.imp_refl _⟩ ?_)) (by repeat (first | exact trivial | refine And.intro ⟨_, rfl, Ch.imp_refl _⟩ ?_))
    refine T_auto TT_ok rfl ?_
    refine RJ_C TT_ok (l1Below_c hn hβ f.2.1 f.2.2 f2 f3 4) rfl rfl (SVs.imp_refl _) (fun _ => rfl) rfl rfl rfl fun g ⟨g1, g2, g3⟩ => ?_
    refine RJ_auto TT_ok rfl ?_
    refine T_cond rfl (fun _ => ?_) (fun _ => ?_)
    · refine T_auto TT_ok rfl ?_
      refine RJ_bs TT_ok 50 (fun i => cInt (([-1, 5, 6, r0 + 1] : List Int).getD i 0)) rfl rfl rfl rfl rfl rfl rfl (fun i hi => by rcases i with _ | _ | _ | _ | i <;> first | rfl | omega) (mu1 := []) rfl rfl rfl ?_
      refine RJ_auto TT_ok rfl ?_
      refine RJ_C TT_ok (l1Below_c hn hβ g.2.1 g.2.2 g2 g3 4) rfl rfl (SVs.imp_refl _) (fun _ => rfl) rfl rfl rfl fun z ⟨z1, z2, z3⟩ => ?_
      refine RJ_auto TT_ok rfl ?_
      exact X_inv (⟨(([-1, 5, 6, r0 + 1] : List Int).getD z.1.toNat 0), a.1, b.1, c.1, d.1⟩, z.2.1, z.2.2) ⟨z2, z3⟩ Nat.zero_lt_one (by repeat (first | exact trivial | refine And.intro ⟨_, rfl, SV.imp_refl _⟩ ?_)) (by repeat (first | exact trivial | refine And.intro ⟨_, rfl, Ch.imp_refl _⟩ ?_))
    refine T_auto TT_ok rfl ?_
    refine T_cond rfl (fun _ => ?_) (fun _ => ?_)
    · refine T_auto TT_ok rfl ?_
      refine RJ_bs TT_ok 50 (fun i => cInt (([-1, 6] : List Int).getD i 0)) rfl rfl rfl rfl rfl rfl rfl (fun i hi => by rcases i with _ | _ | i <;> first | rfl | omega) (mu1 := []) rfl rfl rfl ?_
      refine RJ_auto TT_ok rfl ?_
      refine RJ_C TT_ok (l1Below_c hn hβ g.2.1 g.2.2 g2 g3 2) rfl rfl (SVs.imp_refl _) (fun _ => rfl) rfl rfl rfl fun z ⟨z1, z2, z3⟩ => ?_
      refine RJ_auto TT_ok rfl ?_
      exact X_inv (⟨r0, (([-1, 6] : List Int).getD z.1.toNat 0), b.1, c.1, d.1⟩, z.2.1, z.2.2) ⟨z2, z3⟩ Nat.zero_lt_one (by repeat (first | exact trivial | refine And.intro ⟨_, rfl, SV.imp_refl _⟩ ?_)) (by repeat (first | exact trivial | refine And.intro ⟨_, rfl, Ch.imp_refl _⟩ ?_))
    refine T_auto TT_ok rfl ?_
    refine T_cond rfl (fun _ => ?_) (fun _ => ?_)
    · refine T_auto TT_ok rfl ?_
      refine RJ_bs TT_ok 50 (fun i => cInt (([1000000000, 1000000001, -1000000001, -9223372036854775808] : List Int).getD i 0)) rfl rfl rfl rfl rfl rfl rfl (fun i hi => by rcases i with _ | _ | _ | _ | i <;> first | rfl | omega) (mu1 := []) rfl rfl rfl ?_
      refine RJ_auto TT_ok rfl ?_
      refine RJ_C TT_ok (l1Below_c hn hβ g.2.1 g.2.2 g2 g3 4) rfl rfl (SVs.imp_refl _) (fun _ => rfl) rfl rfl rfl fun z ⟨z1, z2, z3⟩ => ?_
      refine RJ_auto TT_ok rfl ?_
      exact X_inv (⟨r0, a.1, (([1000000000, 1000000001, -1000000001, -9223372036854775808] : List Int).getD z.1.toNat 0), c.1, d.1⟩, z.2.1, z.2.2) ⟨z2, z3⟩ Nat.zero_lt_one (by repeat (first | exact trivial | refine And.intro ⟨_, rfl, SV.imp_refl _⟩ ?_)) (by repeat (first | exact trivial | refine And.intro ⟨_, rfl, Ch.imp_refl _⟩ ?_))
    refine T_auto TT_ok rfl ?_
    refine T_cond rfl (fun _ => ?_) (fun _ => ?_)
    · refine T_auto TT_ok rfl ?_
      refine RJ_bs TT_ok 50 (fun i => cInt (([-1, 999999, 1000000] : List Int).getD i 0)) rfl rfl rfl rfl rfl rfl rfl (fun i hi => by rcases i with _ | _ | _ | i <;> first | rfl | omega) (mu1 := []) rfl rfl rfl ?_
      refine RJ_auto TT_ok rfl ?_
      refine RJ_C TT_ok (l1Below_c hn hβ g.2.1 g.2.2 g2 g3 3) rfl rfl (SVs.imp_refl _) (fun _ => rfl) rfl rfl rfl fun z ⟨z1, z2, z3⟩ => ?_
      refine RJ_auto TT_ok rfl ?_
      exact X_inv (⟨r0, a.1, b.1, c.1, (([-1, 999999, 1000000] : List Int).getD z.1.toNat 0)⟩, z.2.1, z.2.2) ⟨z2, z3⟩ Nat.zero_lt_one (by repeat (first | exact trivial | refine And.intro ⟨_, rfl, SV.imp_refl _⟩ ?_)) (by repeat (first | exact trivial | refine And.intro ⟨_, rfl, Ch.imp_refl _⟩ ?_))
    refine T_auto TT_ok rfl ?_
    exact X_inv (⟨r0, a.1, b.1, c.1, d.1⟩, g.2.1, g.2.2) ⟨g2, g3⟩ Nat.zero_lt_one (by repeat (first | exact trivial | refine And.intro ⟨_, rfl, SV.imp_refl _⟩ ?_)) (by repeat (first | exact trivial | refine And.intro ⟨_, rfl, Ch.imp_refl _⟩ ?_))
  rintro ⟨x, i', h'⟩ ⟨g1, g2⟩
  dsimp only at g1 g2 ⊢
  refine X_go TT_ok rfl ?_
  refine T_ret TT_ok ((x, i', h')) [(4, some 37)] rfl rfl ?_ ?_ ?_
  · exact SVs.imp_refl _
  · exact ⟨⟨_, rfl, Ch.imp_refl _⟩, trivial⟩
  · exact ⟨trivial, g1, g2⟩
def smallT (k : Nat) (t : GTx) : Prop := t.reads.length ≤ k ∧ t.sets.length ≤ k
theorem small_bd {k : Nat} {t : GTx} (h : smallT k t) (hk : k ≤ 1000) : D.bds bigN (cTx t) := bd_Tx t (by unfold wTx; unfold smallT at h; show _ ≤ 1048576; omega)
theorem small_read (t : GTx) (n : GNote) : smallT 12 (addReadM t n).1 := by
  cases h : (addReadM t n).2 with
  | true =>
    obtain ⟨h1, h2, h3, h4⟩ := addReadM_of h
    rw [h4]
    have h5 := (addRead_ok h1 h2).1.1
    exact ⟨h5.2.2.2.2.2.1, h5.2.2.2.2.2.2⟩
  | false =>
    unfold addReadM at h ⊢
    split
    · rename_i c; rw [if_pos c] at h; cases h
    · exact ⟨Nat.zero_le _, Nat.zero_le _⟩
theorem small_set (t : GTx) (s : GSet) : smallT 12 (addSetM t s).1 := by
  cases h : (addSetM t s).2 with
  | true =>
    obtain ⟨h1, h2, h3, h4⟩ := addSetM_of h
    rw [h4]
    have h5 := (addSet_ok h1 h2).1.1
    exact ⟨h5.2.2.2.2.2.1, h5.2.2.2.2.2.2⟩
  | false =>
    unfold addSetM at h ⊢
    split
    · rename_i c; rw [if_pos c] at h; cases h
    · exact ⟨Nat.zero_le _, Nat.zero_le _⟩
theorem l7Draw_c {n : Nat} {β : Nat → Int} (hn : n ≤ 1048576) (hβ : byteB β) (i h : Int) (h1 : 0 ≤ i) (h2 : i ≤ n) : Con Try.prog 31 [700, 701] [.a (.p 700 0)] (curM n β i h) (fun y : GTx × Int × Int => smallT 13 y.1 ∧ 0 ≤ y.2.1 ∧ y.2.1 ≤ n) (fun y => [agTxG y.1 901 902]) fun y => [(700, rowCur y.2.1 y.2.2), (901, arrC 5 cNote GNote.z y.1.reads), (902, arrC 5 cSet GSet.z y.1.sets)] := by
  refine con_enter Try.func31 rfl rfl rfl fun B0 r_ D_ w0 => ?_
  refine T_auto TT_ok rfl ?_
  refine RJ_C TT_ok (l1Below_c hn hβ i h h1 h2 9) rfl rfl (SVs.imp_refl _) (fun _ => rfl) rfl rfl rfl fun a ⟨a1, a2, a3⟩ => ?_
  refine RJ_auto TT_ok rfl ?_
  refine RJ_C TT_ok (l1Below_c hn hβ a.2.1 a.2.2 a2 a3 4) rfl rfl (SVs.imp_refl _) (fun _ => rfl) rfl rfl rfl fun b ⟨b1, b2, b3⟩ => ?_
  refine RJ_auto TT_ok rfl ?_
  refine RJ_C TT_ok (spec_NewTx_n (1 + a.1) b.1 (inB_iff.2 (by omega)) (inB_iff.2 (by omega))) rfl rfl (SVs.imp_refl _) (fun _ => rfl) rfl rfl rfl fun _ _ => ?_
  refine RJ_auto TT_ok rfl ?_
  refine RJ_C TT_ok (l1Below_c hn hβ b.2.1 b.2.2 b2 b3 5) rfl rfl (SVs.imp_refl _) (fun _ => rfl) rfl rfl rfl fun c ⟨c1, c2, c3⟩ => ?_
  refine RJ_auto TT_ok rfl ?_
  refine T_view (V_nilR 3 4 5 (fun i => cNote (([] : List GNote).getD i GNote.z)) rfl rfl rfl) ?_
  refine T_view (V_nilR 3 5 5 (fun i => cSet (([] : List GSet).getD i GSet.z)) rfl rfl rfl) ?_
  refine T_view (V_open 3 4 31 rfl rfl rfl rfl rfl rfl) ?_
  refine T_view (V_open 3 5 32 rfl rfl rfl rfl rfl rfl) ?_
  refine T_loopA (ι := GTx × Int × Int × Int) (fun y => [(5, vI y.2.1)]) (fun y => [(3, .row (rowT y.1 31 32)), (31, arrC 5 cNote GNote.z y.1.reads), (32, arrC 5 cSet GSet.z y.1.sets), (700, rowCur y.2.2.1 y.2.2.2)]) (fun y => smallT 12 y.1 ∧ (0 ≤ y.2.1 ∧ y.2.1 ≤ 5) ∧ 0 ≤ y.2.2.1 ∧ y.2.2.1 ≤ n) (fun y => y.2.1.toNat) (newT (1 + a.1) b.1, c.1, c.2.1, c.2.2) [3, 31, 32, 700] [31, 32] rfl rfl ⟨⟨Nat.zero_le _, Nat.zero_le _⟩, by dsimp only; omega, c2, c3⟩ (by repeat (first | exact trivial | refine And.intro ⟨_, rfl, SV.imp_refl _⟩ ?_)) (by repeat (first | exact trivial | refine And.intro ⟨_, rfl, Ch.imp_refl _⟩ ?_)) ?_
  rintro ⟨t, k, i1, i2⟩ ⟨g1, g2, g3, g4⟩
  have hb := small_bd g1 (by decide)
  dsimp only at g2 g3 g4 ⊢
  refine T_auto TT_ok rfl ?_
  refine T_condD rfl (fun e => ?_) (fun e => ?_)
  · refine T_auto TT_ok rfl ?_
    refine T_joinA (ι := GTx × Bool × Int × Int) (fun y => [(6, .a (.p 6 0)), (7, vB y.2.1)]) (fun y => [(6, .row (rowT y.1 61 62)), (61, arrC 5 cNote GNote.z y.1.reads), (62, arrC 5 cSet GSet.z y.1.sets), (700, rowCur y.2.2.1 y.2.2.2)]) (fun y => smallT 12 y.1 ∧ 0 ≤ y.2.2.1 ∧ y.2.2.1 ≤ n) [700] [] rfl rfl ?_ ?_
    · refine T_drawL TT_ok [700] [0, 1, 2, 3, 4, 5, 6, 7, 8, 9] rfl rfl fun B0 H0 => ?_
      refine DJ_two 2 7 rfl rfl (by kernel_rfl) (DJ_Cc (l7DrawNote_c hn hβ i1 i2 g3 g4) rfl rfl (SVs.imp_refl _) (fun _ => rfl) rfl rfl rfl (fun y ⟨y1, y2, y3⟩ => SJ_dj ?_)) (OJ_M TT_ok rfl rfl rfl rfl rfl rfl (SJ_dj ?_))
      · skip
        refine DJ_two 3 7 rfl rfl (by kernel_rfl) (DJ_Cc (Con.sw 901 61 (Con.sw 902 62 (spec_AddRead_m t hb y.1))) rfl rfl (SVs.imp_refl _) (fun _ => rfl) rfl rfl rfl (fun _ _ => SJ_dj ?_)) (OJ_M TT_ok rfl rfl rfl rfl rfl rfl (SJ_dj ?_))
        · refine DJ_onL TT_ok [4, 5, 6, 7, 8, 9] rfl ?_
          refine DJ_one 7 rfl (by kernel_rfl) (OJ_M TT_ok rfl rfl rfl rfl rfl rfl (SJ_dj ?_))
          refine DJ_one 8 rfl (by kernel_rfl) (OJ_M TT_ok rfl rfl rfl rfl rfl rfl (SJ_dj ?_))
          refine DJ_onL TT_ok [9] rfl ?_
          refine DJ_endA TT_ok rfl ?_
          exact X_inv ((addReadM t y.1).1, (addReadM t y.1).2, y.2.1, y.2.2) ⟨small_read t y.1, y2, y3⟩ Nat.zero_lt_one (by repeat (first | exact trivial | refine And.intro ⟨_, rfl, SV.imp_refl _⟩ ?_)) (by repeat (first | exact trivial | refine And.intro ⟨_, rfl, Ch.imp_refl _⟩ ?_))
        · skip
          refine DJ_C 3 (Con.sw 901 61 (Con.sw 902 62 (spec_AddRead_m t hb y.1))) rfl rfl rfl (SVs.imp_refl _) (fun _ => rfl) rfl rfl rfl fun _ _ => ?_
          refine DJ_onL TT_ok [4, 5, 6, 8, 9] rfl ?_
          refine DJ_one 8 rfl (by kernel_rfl) (OJ_M TT_ok rfl rfl rfl rfl rfl rfl (SJ_dj ?_))
          refine DJ_onL TT_ok [9] rfl ?_
          refine DJ_endA TT_ok rfl ?_
          exact X_inv ((addReadM t y.1).1, (addReadM t y.1).2, y.2.1, y.2.2) ⟨small_read t y.1, y2, y3⟩ Nat.zero_lt_one (by repeat (first | exact trivial | refine And.intro ⟨_, rfl, SV.imp_refl _⟩ ?_)) (by repeat (first | exact trivial | refine And.intro ⟨_, rfl, Ch.imp_refl _⟩ ?_))
      · skip
        refine DJ_C 2 (l7DrawNote_c hn hβ i1 i2 g3 g4) rfl rfl rfl (SVs.imp_refl _) (fun _ => rfl) rfl rfl rfl fun y ⟨y1, y2, y3⟩ => ?_
        refine DJ_C 3 (Con.sw 901 61 (Con.sw 902 62 (spec_AddRead_m t hb y.1))) rfl rfl rfl (SVs.imp_refl _) (fun _ => rfl) rfl rfl rfl fun _ _ => ?_
        refine DJ_onL TT_ok [4, 5, 6, 8, 9] rfl ?_
        refine DJ_one 8 rfl (by kernel_rfl) (OJ_M TT_ok rfl rfl rfl rfl rfl rfl (SJ_dj ?_))
        refine DJ_onL TT_ok [9] rfl ?_
        refine DJ_endA TT_ok rfl ?_
        exact X_inv ((addReadM t y.1).1, (addReadM t y.1).2, y.2.1, y.2.2) ⟨small_read t y.1, y2, y3⟩ Nat.zero_lt_one (by repeat (first | exact trivial | refine And.intro ⟨_, rfl, SV.imp_refl _⟩ ?_)) (by repeat (first | exact trivial | refine And.intro ⟨_, rfl, Ch.imp_refl _⟩ ?_))
    · rintro ⟨x, b, i3, i4⟩ ⟨f1, f2, f3⟩
      dsimp only at f2 f3 ⊢
      refine X_go TT_ok rfl ?_
      refine T_cond rfl (fun _ => ?_) (fun _ => ?_)
      · refine T_auto TT_ok rfl ?_
        refine X_view (V_sw 31 61) ?_
        refine X_view (V_sw 32 62) ?_
        exact X_inv (x, k - 1, i3, i4) ⟨f1, by dsimp only; omega, f2, f3⟩ (by dsimp only; omega) (by repeat (first | exact trivial | refine And.intro ⟨_, rfl, SV.imp_refl _⟩ ?_)) (by repeat (first | exact trivial | refine And.intro ⟨_, rfl, Ch.imp_refl _⟩ ?_))
      · refine T_auto TT_ok rfl ?_
        exact X_inv (t, k - 1, i3, i4) ⟨g1, by dsimp only; omega, f2, f3⟩ (by dsimp only; omega) (by repeat (first | exact trivial | refine And.intro ⟨_, rfl, SV.imp_refl _⟩ ?_)) (by repeat (first | exact trivial | refine And.intro ⟨_, rfl, Ch.imp_refl _⟩ ?_))
  refine T_auto TT_ok rfl ?_
  refine RJ_C TT_ok (l1Below_c hn hβ i1 i2 g3 g4 5) rfl rfl (SVs.imp_refl _) (fun _ => rfl) rfl rfl rfl fun c ⟨c1, c2, c3⟩ => ?_
  refine RJ_auto TT_ok rfl ?_
  clear hb
  refine T_loopA (ι := GTx × Int × Int × Int) (fun y => [(8, vI y.2.1)]) (fun y => [(3, .row (rowT y.1 31 32)), (31, arrC 5 cNote GNote.z y.1.reads), (32, arrC 5 cSet GSet.z y.1.sets), (700, rowCur y.2.2.1 y.2.2.2)]) (fun y => smallT 12 y.1 ∧ (0 ≤ y.2.1 ∧ y.2.1 ≤ 5) ∧ 0 ≤ y.2.2.1 ∧ y.2.2.1 ≤ n) (fun y => y.2.1.toNat) (t, c.1, c.2.1, c.2.2) [3, 31, 32, 700] [31, 32] rfl rfl ⟨g1, by dsimp only; omega, c2, c3⟩ (by repeat (first | exact trivial | refine And.intro ⟨_, rfl, SV.imp_refl _⟩ ?_)) (by repeat (first | exact trivial | refine And.intro ⟨_, rfl, Ch.imp_refl _⟩ ?_)) ?_
  clear g1 g2 g3 g4 e
  rintro ⟨t, k, i1, i2⟩ ⟨g1, g2, g3, g4⟩
  have hb := small_bd g1 (by decide)
  dsimp only at g2 g3 g4 ⊢
  refine T_auto TT_ok rfl ?_
  refine T_condD rfl (fun e => ?_) (fun e => ?_)
  · refine T_auto TT_ok rfl ?_
    refine T_joinA (ι := GTx × Bool × Int × Int) (fun y => [(9, .a (.p 9 0)), (10, vB y.2.1)]) (fun y => [(9, .row (rowT y.1 61 62)), (61, arrC 5 cNote GNote.z y.1.reads), (62, arrC 5 cSet GSet.z y.1.sets), (700, rowCur y.2.2.1 y.2.2.2)]) (fun y => smallT 12 y.1 ∧ 0 ≤ y.2.2.1 ∧ y.2.2.1 ≤ n) [700] [] rfl rfl ?_ ?_
    · refine T_drawL TT_ok [700] [0, 1, 2, 3, 4, 5, 6, 7, 8, 9, 10, 11] rfl rfl fun B0 H0 => ?_
      refine DJ_two 3 9 rfl rfl (by kernel_rfl) (DJ_Cc (l1Below_c hn hβ i1 i2 g3 g4 3) rfl rfl (SVs.imp_refl _) (fun _ => rfl) rfl rfl rfl (fun a ⟨a1, a2, a3⟩ => SJ_dj ?_)) (OJ_M TT_ok rfl rfl rfl rfl rfl rfl (SJ_dj ?_))
      · skip
        refine DJ_two 4 9 rfl rfl (by kernel_rfl) (DJ_Cc (l2DrawSet_c hn hβ a.2.1 a.2.2 a2 a3 a.1 (by omega)) rfl rfl (SVs.imp_refl _) (fun _ => rfl) rfl rfl rfl (fun y ⟨y1, y2, y3⟩ => SJ_dj ?_)) (OJ_M TT_ok rfl rfl rfl rfl rfl rfl (SJ_dj ?_))
        · skip
          refine DJ_two 5 9 rfl rfl (by kernel_rfl) (DJ_Cc (Con.sw 901 61 (Con.sw 902 62 (spec_AddSet_m t hb y.1))) rfl rfl (SVs.imp_refl _) (fun _ => rfl) rfl rfl rfl (fun _ _ => SJ_dj ?_)) (OJ_M TT_ok rfl rfl rfl rfl rfl rfl (SJ_dj ?_))
          · refine DJ_onL TT_ok [6, 7, 8, 9, 10, 11] rfl ?_
            refine DJ_one 9 rfl (by kernel_rfl) (OJ_M TT_ok rfl rfl rfl rfl rfl rfl (SJ_dj ?_))
            refine DJ_one 10 rfl (by kernel_rfl) (OJ_M TT_ok rfl rfl rfl rfl rfl rfl (SJ_dj ?_))
            refine DJ_onL TT_ok [11] rfl ?_
            refine DJ_endA TT_ok rfl ?_
            exact X_inv ((addSetM t y.1).1, (addSetM t y.1).2, y.2.1, y.2.2) ⟨small_set t y.1, y2, y3⟩ Nat.zero_lt_one (by repeat (first | exact trivial | refine And.intro ⟨_, rfl, SV.imp_refl _⟩ ?_)) (by repeat (first | exact trivial | refine And.intro ⟨_, rfl, Ch.imp_refl _⟩ ?_))
          · skip
            refine DJ_C 5 (Con.sw 901 61 (Con.sw 902 62 (spec_AddSet_m t hb y.1))) rfl rfl rfl (SVs.imp_refl _) (fun _ => rfl) rfl rfl rfl fun _ _ => ?_
            refine DJ_onL TT_ok [6, 7, 8, 10, 11] rfl ?_
            refine DJ_one 10 rfl (by kernel_rfl) (OJ_M TT_ok rfl rfl rfl rfl rfl rfl (SJ_dj ?_))
            refine DJ_onL TT_ok [11] rfl ?_
            refine DJ_endA TT_ok rfl ?_
            exact X_inv ((addSetM t y.1).1, (addSetM t y.1).2, y.2.1, y.2.2) ⟨small_set t y.1, y2, y3⟩ Nat.zero_lt_one (by repeat (first | exact trivial | refine And.intro ⟨_, rfl, SV.imp_refl _⟩ ?_)) (by repeat (first | exact trivial | refine And.intro ⟨_, rfl, Ch.imp_refl _⟩ ?_))
        · skip
          refine DJ_C 4 (l2DrawSet_c hn hβ a.2.1 a.2.2 a2 a3 a.1 (by omega)) rfl rfl rfl (SVs.imp_refl _) (fun _ => rfl) rfl rfl rfl fun y ⟨y1, y2, y3⟩ => ?_
          refine DJ_C 5 (Con.sw 901 61 (Con.sw 902 62 (spec_AddSet_m t hb y.1))) rfl rfl rfl (SVs.imp_refl _) (fun _ => rfl) rfl rfl rfl fun _ _ => ?_
          refine DJ_onL TT_ok [6, 7, 8, 10, 11] rfl ?_
          refine DJ_one 10 rfl (by kernel_rfl) (OJ_M TT_ok rfl rfl rfl rfl rfl rfl (SJ_dj ?_))
          refine DJ_onL TT_ok [11] rfl ?_
          refine DJ_endA TT_ok rfl ?_
          exact X_inv ((addSetM t y.1).1, (addSetM t y.1).2, y.2.1, y.2.2) ⟨small_set t y.1, y2, y3⟩ Nat.zero_lt_one (by repeat (first | exact trivial | refine And.intro ⟨_, rfl, SV.imp_refl _⟩ ?_)) (by repeat (first | exact trivial | refine And.intro ⟨_, rfl, Ch.imp_refl _⟩ ?_))
      · skip
        refine DJ_C 3 (l1Below_c hn hβ i1 i2 g3 g4 3) rfl rfl rfl (SVs.imp_refl _) (fun _ => rfl) rfl rfl rfl fun a ⟨a1, a2, a3⟩ => ?_
        refine DJ_C 4 (l2DrawSet_c hn hβ a.2.1 a.2.2 a2 a3 a.1 (by omega)) rfl rfl rfl (SVs.imp_refl _) (fun _ => rfl) rfl rfl rfl fun y ⟨y1, y2, y3⟩ => ?_
        refine DJ_C 5 (Con.sw 901 61 (Con.sw 902 62 (spec_AddSet_m t hb y.1))) rfl rfl rfl (SVs.imp_refl _) (fun _ => rfl) rfl rfl rfl fun _ _ => ?_
        refine DJ_onL TT_ok [6, 7, 8, 10, 11] rfl ?_
        refine DJ_one 10 rfl (by kernel_rfl) (OJ_M TT_ok rfl rfl rfl rfl rfl rfl (SJ_dj ?_))
        refine DJ_onL TT_ok [11] rfl ?_
        refine DJ_endA TT_ok rfl ?_
        exact X_inv ((addSetM t y.1).1, (addSetM t y.1).2, y.2.1, y.2.2) ⟨small_set t y.1, y2, y3⟩ Nat.zero_lt_one (by repeat (first | exact trivial | refine And.intro ⟨_, rfl, SV.imp_refl _⟩ ?_)) (by repeat (first | exact trivial | refine And.intro ⟨_, rfl, Ch.imp_refl _⟩ ?_))
    · rintro ⟨x, b, i3, i4⟩ ⟨f1, f2, f3⟩
      dsimp only at f2 f3 ⊢
      refine X_go TT_ok rfl ?_
      refine T_cond rfl (fun _ => ?_) (fun _ => ?_)
      · refine T_auto TT_ok rfl ?_
        refine X_view (V_sw 31 61) ?_
        refine X_view (V_sw 32 62) ?_
        exact X_inv (x, k - 1, i3, i4) ⟨f1, by dsimp only; omega, f2, f3⟩ (by dsimp only; omega) (by repeat (first | exact trivial | refine And.intro ⟨_, rfl, SV.imp_refl _⟩ ?_)) (by repeat (first | exact trivial | refine And.intro ⟨_, rfl, Ch.imp_refl _⟩ ?_))
      · refine T_auto TT_ok rfl ?_
        exact X_inv (t, k - 1, i3, i4) ⟨g1, by dsimp only; omega, f2, f3⟩ (by dsimp only; omega) (by repeat (first | exact trivial | refine And.intro ⟨_, rfl, SV.imp_refl _⟩ ?_)) (by repeat (first | exact trivial | refine And.intro ⟨_, rfl, Ch.imp_refl _⟩ ?_))
  refine T_auto TT_ok rfl ?_
  refine RJ_C TT_ok (l1Below_c hn hβ i1 i2 g3 g4 9) rfl rfl (SVs.imp_refl _) (fun _ => rfl) rfl rfl rfl fun a ⟨a1, a2, a3⟩ => ?_
  refine RJ_auto TT_ok rfl ?_
  refine RJ_C TT_ok (l1Below_c hn hβ a.2.1 a.2.2 a2 a3 4) rfl rfl (SVs.imp_refl _) (fun _ => rfl) rfl rfl rfl fun b ⟨b1, b2, b3⟩ => ?_
  refine RJ_auto TT_ok rfl ?_
  refine RJ_C TT_ok (l1Below_c hn hβ b.2.1 b.2.2 b2 b3 9) rfl rfl (SVs.imp_refl _) (fun _ => rfl) rfl rfl rfl fun c ⟨c1, c2, c3⟩ => ?_
  refine RJ_auto TT_ok rfl ?_
  refine RJ_C TT_ok (l1Once_c hn hβ c.2.1 c.2.2 c2 c3 12) rfl rfl (SVs.imp_refl _) (fun _ => rfl) rfl rfl rfl fun d ⟨d1, d2, d3⟩ => ?_
  refine RJ_auto TT_ok rfl ?_
  refine T_joinA (ι := GTx × Int × Int) (fun _ => []) (fun y => [(3, .row (rowT y.1 31 32)), (31, arrC 5 cNote GNote.z y.1.reads), (32, arrC 5 cSet GSet.z y.1.sets), (700, rowCur y.2.1 y.2.2)]) (fun y => smallT 13 y.1 ∧ 0 ≤ y.2.1 ∧ y.2.1 ≤ n) [3, 31, 32, 700] [31, 32] rfl rfl ?_ ?_
  · have gl : t.reads.length ≤ 12 ∧ t.sets.length ≤ 12 := g1
    have g13 : smallT 13 t := ⟨Nat.le_succ_of_le g1.1, Nat.le_succ_of_le g1.2⟩
    refine T_cond rfl (fun _ => ?_) (fun _ => ?_)
    rotate_left
    · refine T_auto TT_ok rfl ?_
      exact X_inv (⟨t.id, t.home, 1 + a.1, b.1, t.reads, t.sets, c.1⟩, d.2.1, d.2.2) ⟨g13, d2, d3⟩ Nat.zero_lt_one (by repeat (first | exact trivial | refine And.intro ⟨_, rfl, SV.imp_refl _⟩ ?_)) (by repeat (first | exact trivial | refine And.intro ⟨_, rfl, Ch.imp_refl _⟩ ?_))
    refine T_auto TT_ok rfl ?_
    refine RJ_C TT_ok (l1Below_c hn hβ d.2.1 d.2.2 d2 d3 6) rfl rfl (SVs.imp_refl _) (fun _ => rfl) rfl rfl rfl fun g ⟨g1, g2, g3⟩ => ?_
    refine RJ_auto TT_ok rfl ?_
    refine T_cond rfl (fun _ => ?_) (fun _ => ?_)
    · refine T_auto TT_ok rfl ?_
      refine RJ_bs TT_ok 50 (fun i => cInt (([0, 1000000, 1000001] : List Int).getD i 0)) rfl rfl rfl rfl rfl rfl rfl (fun i hi => by rcases i with _ | _ | _ | i <;> first | rfl | omega) (mu1 := []) rfl rfl rfl ?_
      refine RJ_auto TT_ok rfl ?_
      refine RJ_C TT_ok (l1Below_c hn hβ g.2.1 g.2.2 g2 g3 3) rfl rfl (SVs.imp_refl _) (fun _ => rfl) rfl rfl rfl fun z ⟨z1, z2, z3⟩ => ?_
      refine RJ_auto TT_ok rfl ?_
      exact X_inv (⟨(([0, 1000000, 1000001] : List Int).getD z.1.toNat 0), t.home, 1 + a.1, b.1, t.reads, t.sets, c.1⟩, z.2.1, z.2.2) ⟨g13, z2, z3⟩ Nat.zero_lt_one (by repeat (first | exact trivial | refine And.intro ⟨_, rfl, SV.imp_refl _⟩ ?_)) (by repeat (first | exact trivial | refine And.intro ⟨_, rfl, Ch.imp_refl _⟩ ?_))
    refine T_auto TT_ok rfl ?_
    refine T_cond rfl (fun _ => ?_) (fun _ => ?_)
    · refine T_auto TT_ok rfl ?_
      refine RJ_bs TT_ok 50 (fun i => cInt (([-1, 7, 8] : List Int).getD i 0)) rfl rfl rfl rfl rfl rfl rfl (fun i hi => by rcases i with _ | _ | _ | i <;> first | rfl | omega) (mu1 := []) rfl rfl rfl ?_
      refine RJ_auto TT_ok rfl ?_
      refine RJ_C TT_ok (l1Below_c hn hβ g.2.1 g.2.2 g2 g3 3) rfl rfl (SVs.imp_refl _) (fun _ => rfl) rfl rfl rfl fun z ⟨z1, z2, z3⟩ => ?_
      refine RJ_auto TT_ok rfl ?_
      exact X_inv (⟨t.id, (([-1, 7, 8] : List Int).getD z.1.toNat 0), 1 + a.1, b.1, t.reads, t.sets, c.1⟩, z.2.1, z.2.2) ⟨g13, z2, z3⟩ Nat.zero_lt_one (by repeat (first | exact trivial | refine And.intro ⟨_, rfl, SV.imp_refl _⟩ ?_)) (by repeat (first | exact trivial | refine And.intro ⟨_, rfl, Ch.imp_refl _⟩ ?_))
    refine T_auto TT_ok rfl ?_
    refine T_cond rfl (fun _ => ?_) (fun _ => ?_)
    · refine T_auto TT_ok rfl ?_
      refine RJ_bs TT_ok 50 (fun i => cInt (([0, 9, 10] : List Int).getD i 0)) rfl rfl rfl rfl rfl rfl rfl (fun i hi => by rcases i with _ | _ | _ | i <;> first | rfl | omega) (mu1 := []) rfl rfl rfl ?_
      refine RJ_auto TT_ok rfl ?_
      refine RJ_C TT_ok (l1Below_c hn hβ g.2.1 g.2.2 g2 g3 3) rfl rfl (SVs.imp_refl _) (fun _ => rfl) rfl rfl rfl fun z ⟨z1, z2, z3⟩ => ?_
      refine RJ_auto TT_ok rfl ?_
      exact X_inv (⟨t.id, t.home, (([0, 9, 10] : List Int).getD z.1.toNat 0), b.1, t.reads, t.sets, c.1⟩, z.2.1, z.2.2) ⟨g13, z2, z3⟩ Nat.zero_lt_one (by repeat (first | exact trivial | refine And.intro ⟨_, rfl, SV.imp_refl _⟩ ?_)) (by repeat (first | exact trivial | refine And.intro ⟨_, rfl, Ch.imp_refl _⟩ ?_))
    refine T_auto TT_ok rfl ?_
    refine T_cond rfl (fun _ => ?_) (fun _ => ?_)
    · refine T_auto TT_ok rfl ?_
      refine RJ_bs TT_ok 50 (fun i => cInt (([-1, 1000, 1001] : List Int).getD i 0)) rfl rfl rfl rfl rfl rfl rfl (fun i hi => by rcases i with _ | _ | _ | i <;> first | rfl | omega) (mu1 := []) rfl rfl rfl ?_
      refine RJ_auto TT_ok rfl ?_
      refine RJ_C TT_ok (l1Below_c hn hβ g.2.1 g.2.2 g2 g3 3) rfl rfl (SVs.imp_refl _) (fun _ => rfl) rfl rfl rfl fun z ⟨z1, z2, z3⟩ => ?_
      refine RJ_auto TT_ok rfl ?_
      exact X_inv (⟨t.id, t.home, 1 + a.1, (([-1, 1000, 1001] : List Int).getD z.1.toNat 0), t.reads, t.sets, c.1⟩, z.2.1, z.2.2) ⟨g13, z2, z3⟩ Nat.zero_lt_one (by repeat (first | exact trivial | refine And.intro ⟨_, rfl, SV.imp_refl _⟩ ?_)) (by repeat (first | exact trivial | refine And.intro ⟨_, rfl, Ch.imp_refl _⟩ ?_))
    refine T_auto TT_ok rfl ?_
    refine T_cond rfl (fun _ => ?_) (fun _ => ?_)
    · refine T_auto TT_ok rfl ?_
      refine T_drawL TT_ok [700, 31] [0, 1, 2, 3, 4, 5, 6, 7] rfl rfl fun B0 H0 => ?_
      refine DJ_C 3 (l7DrawNote_c hn hβ g.2.1 g.2.2 g2 g3) rfl rfl rfl (SVs.imp_refl _) (fun _ => rfl) rfl rfl rfl fun y ⟨y1, y2, y3⟩ => ?_
      refine DJ_one 4 rfl (by kernel_rfl) (OJ_bs TT_ok 50 (fun _ => cNote y.1) rfl rfl rfl rfl rfl rfl rfl (fun j hj => by rcases j with _ | j <;> first | rfl | omega) (mu1 := []) rfl rfl rfl (SJ_dj ?_))
      refine DJ_one 5 rfl (by kernel_rfl) (OJ_appM TT_ok 31 50 51 rfl rfl rfl rfl rfl rfl rfl rfl rfl rfl rfl rfl ⟨by show (t.reads.length + 1) * 40 ≤ _; omega, by unfold maxL; omega⟩ (SJ_dj ?_))
      refine DJ_onL TT_ok [6, 7] rfl ?_
      refine DJ_sw2 7 rfl (by kernel_rfl) (by kernel_rfl) (OJ_M TT_ok rfl rfl rfl rfl rfl rfl (SJ_sw [] fun B0 H0 => ?_))
      refine DJ_endA TT_ok rfl ?_
      refine X_view (V_sw 31 51) ?_
      exact X_inv (⟨t.id, t.home, 1 + a.1, b.1, t.reads ++ [y.1], t.sets, c.1⟩, y.2.1, y.2.2) ⟨⟨by simp; omega, g13.2⟩, y2, y3⟩ Nat.zero_lt_one (by repeat (first | exact trivial | refine And.intro ⟨_, rfl, SV.imp_refl _⟩ ?_)) ⟨⟨_, rfl, Ch.imp_refl _⟩, ⟨_, rfl, imp_app1 (x := y.1) rfl rfl⟩, (by repeat (first | exact trivial | refine And.intro ⟨_, rfl, Ch.imp_refl _⟩ ?_))⟩
    refine T_auto TT_ok rfl ?_
    refine T_cond rfl (fun _ => ?_) (fun _ => ?_)
    · refine T_auto TT_ok rfl ?_
      refine T_drawL TT_ok [700, 32] [0, 1, 2, 3, 4, 5, 6, 7] rfl rfl fun B0 H0 => ?_
      refine DJ_C 3 (l2DrawSet_c hn hβ g.2.1 g.2.2 g2 g3 1 (by decide)) rfl rfl rfl (SVs.imp_refl _) (fun _ => rfl) rfl rfl rfl fun y ⟨y1, y2, y3⟩ => ?_
      refine DJ_one 4 rfl (by kernel_rfl) (OJ_bs TT_ok 50 (fun _ => cSet y.1) rfl rfl rfl rfl rfl rfl rfl (fun j hj => by rcases j with _ | j <;> first | rfl | omega) (mu1 := []) rfl rfl rfl (SJ_dj ?_))
      refine DJ_one 5 rfl (by kernel_rfl) (OJ_appM TT_ok 32 50 51 rfl rfl rfl rfl rfl rfl rfl rfl rfl rfl rfl rfl ⟨by show (t.sets.length + 1) * 40 ≤ _; omega, by unfold maxL; omega⟩ (SJ_dj ?_))
      refine DJ_onL TT_ok [6, 7] rfl ?_
      refine DJ_sw2 7 rfl (by kernel_rfl) (by kernel_rfl) (OJ_M TT_ok rfl rfl rfl rfl rfl rfl (SJ_sw [] fun B0 H0 => ?_))
      refine DJ_endA TT_ok rfl ?_
      refine X_view (V_sw 32 51) ?_
      exact X_inv (⟨t.id, t.home, 1 + a.1, b.1, t.reads, t.sets ++ [y.1], c.1⟩, y.2.1, y.2.2) ⟨⟨g13.1, by simp; omega⟩, y2, y3⟩ Nat.zero_lt_one (by repeat (first | exact trivial | refine And.intro ⟨_, rfl, SV.imp_refl _⟩ ?_)) ⟨⟨_, rfl, Ch.imp_refl _⟩, ⟨_, rfl, Ch.imp_refl _⟩, ⟨_, rfl, imp_app1 (x := y.1) rfl rfl⟩, (by repeat (first | exact trivial | refine And.intro ⟨_, rfl, Ch.imp_refl _⟩ ?_))⟩
    refine T_auto TT_ok rfl ?_
    exact X_inv (⟨t.id, t.home, 1 + a.1, b.1, t.reads, t.sets, c.1⟩, g.2.1, g.2.2) ⟨g13, g2, g3⟩ Nat.zero_lt_one (by repeat (first | exact trivial | refine And.intro ⟨_, rfl, SV.imp_refl _⟩ ?_)) (by repeat (first | exact trivial | refine And.intro ⟨_, rfl, Ch.imp_refl _⟩ ?_))
  clear e g2 a1 b1 c1 d1
  rintro ⟨t, i3, i4⟩ ⟨f1, f2, f3⟩
  dsimp only at f2 f3 ⊢
  refine X_go TT_ok rfl ?_
  refine RJ_C TT_ok (l1Once_c hn hβ i3 i4 f2 f3 24) rfl rfl (SVs.imp_refl _) (fun _ => rfl) rfl rfl rfl fun a ⟨a1, a2, a3⟩ => ?_
  refine RJ_auto TT_ok rfl ?_
  refine T_joinA (ι := GTx × Int × Int) (fun _ => []) (fun y => [(3, .row (rowT y.1 31 32)), (31, arrC 5 cNote GNote.z y.1.reads), (32, arrC 5 cSet GSet.z y.1.sets), (700, rowCur y.2.1 y.2.2)]) (fun y => smallT 13 y.1 ∧ 0 ≤ y.2.1 ∧ y.2.1 ≤ n) [3, 31, 32, 700] [31, 32] rfl rfl ?_ ?_
  · refine T_cond rfl (fun _ => ?_) (fun _ => ?_)
    rotate_left
    · refine T_auto TT_ok rfl ?_
      exact X_inv (t, a.2.1, a.2.2) ⟨f1, a2, a3⟩ Nat.zero_lt_one (by repeat (first | exact trivial | refine And.intro ⟨_, rfl, SV.imp_refl _⟩ ?_)) (by repeat (first | exact trivial | refine And.intro ⟨_, rfl, Ch.imp_refl _⟩ ?_))
    refine T_auto TT_ok rfl ?_
    refine RJ_bs TT_ok 60 (fun i => cNote (([] : List GNote).getD i GNote.z)) rfl rfl rfl rfl rfl rfl rfl (fun i hi => absurd hi (Nat.not_lt_zero _)) (mu1 := []) rfl rfl rfl ?_
    refine RJ_auto TT_ok rfl ?_
    refine RJ_bs TT_ok 61 (fun i => cSet (([] : List GSet).getD i GSet.z)) rfl rfl rfl rfl rfl rfl rfl (fun i hi => absurd hi (Nat.not_lt_zero _)) (mu1 := []) rfl rfl rfl ?_
    refine RJ_auto TT_ok rfl ?_
    refine T_loopA (ι := GTx × Nat × Int × Int) (fun y => [(11, vI y.2.1)]) (fun y => [(3, .row (rowT y.1 60 61)), (60, arrC 5 cNote GNote.z y.1.reads), (61, arrC 5 cSet GSet.z y.1.sets), (700, rowCur y.2.2.1 y.2.2.2)]) (fun y => (y.1.reads.length = y.2.1 ∧ y.1.sets.length = y.2.1) ∧ y.2.1 ≤ 13 ∧ 0 ≤ y.2.2.1 ∧ y.2.2.1 ≤ n) (fun y => 13 - y.2.1) ({ t with reads := [], sets := [] }, 0, a.2.1, a.2.2) [3, 60, 61, 700] [60, 61] rfl rfl ⟨⟨rfl, rfl⟩, Nat.zero_le _, a2, a3⟩ (by repeat (first | exact trivial | refine And.intro ⟨_, rfl, SV.imp_refl _⟩ ?_)) (by repeat (first | exact trivial | refine And.intro ⟨_, rfl, Ch.imp_refl _⟩ ?_)) ?_
    rintro ⟨t, k, i5, i6⟩ ⟨⟨q1, q2⟩, q3, q4, q5⟩
    dsimp only at q1 q2 q3 q4 q5 ⊢
    refine T_auto TT_ok rfl ?_
    refine RJ_C TT_ok (l1Below_c hn hβ i5 i6 q4 q5 2) rfl rfl (SVs.imp_refl _) (fun _ => rfl) rfl rfl rfl fun b ⟨b1, b2, b3⟩ => ?_
    refine RJ_auto TT_ok rfl ?_
    refine T_condD rfl (fun e => ?_) (fun e => ?_)
    · have hk : k < 13 := by omega
      have hd : 0 ≤ (k : Int).tdiv 6 ∧ (k : Int).tdiv 6 ≤ 13 := by rw [Int.tdiv_eq_ediv_of_nonneg (by omega)]; omega
      refine T_auto TT_ok rfl ?_
      refine RJ_bs TT_ok 70 (fun _ => cNote ⟨(k : Int).tdiv 6, (k : Int).tmod 6, 0, 0, false⟩) rfl rfl rfl rfl rfl rfl rfl (fun j hj => by rcases j with _ | j <;> first | rfl | omega) (mu1 := []) rfl rfl rfl ?_
      refine RJ_auto TT_ok rfl ?_
      refine RJ_appM TT_ok 60 70 71 rfl rfl rfl rfl rfl rfl rfl rfl rfl rfl rfl rfl ⟨by show (t.reads.length + 1) * 40 ≤ _; omega, by unfold maxL; omega⟩ ?_
      refine RJ_auto TT_ok rfl ?_
      refine RJ_bs TT_ok 80 (fun _ => cSet ⟨(k : Int).tdiv 6, (k : Int).tmod 6, 0, false, k⟩) rfl rfl rfl rfl rfl rfl rfl (fun j hj => by rcases j with _ | j <;> first | rfl | omega) (mu1 := []) rfl rfl rfl ?_
      refine RJ_auto TT_ok rfl ?_
      refine RJ_appM TT_ok 61 80 81 rfl rfl rfl rfl rfl rfl rfl rfl rfl rfl rfl rfl ⟨by show (t.sets.length + 1) * 40 ≤ _; omega, by unfold maxL; omega⟩ ?_
      refine RJ_auto TT_ok rfl ?_
      refine X_view (V_sw 60 71) ?_
      refine X_view (V_sw 61 81) ?_
      exact X_inv ({ t with reads := t.reads ++ [⟨(k : Int).tdiv 6, (k : Int).tmod 6, 0, 0, false⟩], sets := t.sets ++ [⟨(k : Int).tdiv 6, (k : Int).tmod 6, 0, false, k⟩] }, k + 1, b.2.1, b.2.2) ⟨⟨by simp [q1], by simp [q2]⟩, by dsimp only; omega, b2, b3⟩ (by dsimp only; omega) (by repeat (first | exact trivial | refine And.intro ⟨_, rfl, SV.imp_refl _⟩ ?_)) ⟨⟨_, rfl, Ch.imp_refl _⟩, ⟨_, rfl, imp_app1 rfl rfl⟩, ⟨_, rfl, imp_app1 rfl rfl⟩, (by repeat (first | exact trivial | refine And.intro ⟨_, rfl, Ch.imp_refl _⟩ ?_))⟩
    refine T_auto TT_ok rfl ?_
    refine X_view (V_sw 60 31) ?_
    refine X_view (V_sw 61 32) ?_
    exact X_inv (t, b.2.1, b.2.2) ⟨⟨by show t.reads.length ≤ 13; omega, by show t.sets.length ≤ 13; omega⟩, b2, b3⟩ Nat.zero_lt_one (by repeat (first | exact trivial | refine And.intro ⟨_, rfl, SV.imp_refl _⟩ ?_)) (by repeat (first | exact trivial | refine And.intro ⟨_, rfl, Ch.imp_refl _⟩ ?_))
  rintro ⟨t, i5, i6⟩ ⟨q1, q2, q3⟩
  dsimp only at q2 q3 ⊢
  refine X_go TT_ok rfl ?_
  refine T_view (V_sw 31 901) ?_
  refine T_view (V_sw 32 902) ?_
  refine T_ret TT_ok ((t, i5, i6)) [(2, some 27)] rfl rfl ?_ ?_ ?_
  · exact SVs.imp_refl _
  · exact ⟨⟨_, rfl, Ch.imp_refl _⟩, ⟨_, rfl, Ch.imp_refl _⟩, ⟨_, rfl, Ch.imp_refl _⟩, trivial⟩
  · exact ⟨q1, q2, q3⟩
end Go.Proofs.Ytamcahpdepepfaa
