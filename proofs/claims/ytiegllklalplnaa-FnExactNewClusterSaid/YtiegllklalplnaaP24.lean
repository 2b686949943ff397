
/-
  A new cluster, in the program.
-/
import Derived.Test.YtiegllklalplnaaP23
namespace Go.Proofs.Ytiegllklalplnaa
open Go Go.RowKit
set_option linter.unusedVariables false
set_option linter.unusedSimpArgs false
set_option maxRecDepth 4000

theorem searchCopy_c (xs : List GCopy) (hl : xs.length ≤ 1048576) (s0 : Int) (c : GCopy → Int) (hm : rising c GCopy.z xs) : Con Try.prog 101 [] [vL 2 cCopy GCopy.z xs, vI s0, fbO (fun x => [RD.ag (cCopy x), RD.a (dI s0)]) fun x => .int .i64 (c x)] [] (cutAt c GCopy.z xs)
    (fun i => [vI i, vB (bif decide ((i : Int) < xs.length) then c (xs.getD i GCopy.z) == 0 else false)]) fun _ => [] := by
  refine con_enter Try.func101 rfl rfl rfl fun B0 r_ D_ w0 => ?_
  refine T_auto TT_ok rfl ?_
  refine T_loopA (ι := Nat × Nat) (fun y => [(9, vI y.1), (10, vI y.2)]) (fun _ => []) (fun y => y.1 ≤ y.2 ∧ y.2 ≤ xs.length ∧ (∀ a, a < y.1 → c (xs.getD a GCopy.z) < 0) ∧ ∀ a, y.2 ≤ a → a < xs.length → ¬ c (xs.getD a GCopy.z) < 0) (fun y => y.2 - y.1) (0, xs.length) [] [] rfl rfl ⟨Nat.zero_le _, Nat.le_refl _, fun a h => absurd h (Nat.not_lt_zero _), fun a h1 h2 => by omega⟩ (by repeat (first | exact trivial | refine And.intro ⟨_, rfl, SV.imp_refl _⟩ ?_)) (by repeat (first | exact trivial | refine And.intro ⟨_, rfl, Ch.imp_refl _⟩ ?_)) ?_
  rintro ⟨i, j⟩ ⟨h1, h2, h3, h4⟩
  dsimp only at h1 h2 h3 h4 ⊢
  refine T_auto TT_ok rfl ?_
  refine T_condD rfl (fun e => ?_) (fun e => ?_)
  · have hij : i < j := by omega
    have hh : (((i : Int) + j) / 2).toNat = (i + j) / 2 := by omega
    refine T_auto TT_ok rfl ?_
    refine RJ_of (OJ_F rfl rfl rfl ⟨xs.getD (((i : Int) + j) / 2).toNat GCopy.z, rfl, rfl⟩ (SJ_of ?_))
    refine RJ_auto TT_ok rfl ?_
    rw [hh]
    refine T_condD rfl (fun e2 => ?_) (fun e2 => ?_)
    · refine T_auto TT_ok rfl ?_
      refine X_inv ((i + j) / 2 + 1, j) ⟨by dsimp only; omega, h2, fun a ha => ?_, h4⟩ (by show j - ((i + j) / 2 + 1) < j - i; omega) ⟨⟨_, rfl, SV.imp_of (vI_eq (by dsimp only; omega))⟩, ⟨_, rfl, SV.imp_refl _⟩, (by repeat (first | exact trivial | refine And.intro ⟨_, rfl, SV.imp_refl _⟩ ?_))⟩ (by repeat (first | exact trivial | refine And.intro ⟨_, rfl, Ch.imp_refl _⟩ ?_))
      exact hm a ((i + j) / 2) (by dsimp only at ha; omega) (by omega) e2
    · refine T_auto TT_ok rfl ?_
      refine X_inv (i, (i + j) / 2) ⟨by dsimp only; omega, by dsimp only; omega, h3, fun a a1 a2 hc => ?_⟩ (by show (i + j) / 2 - i < j - i; omega) ⟨⟨_, rfl, SV.imp_refl _⟩, ⟨_, rfl, SV.imp_of (vI_eq (by dsimp only; omega))⟩, (by repeat (first | exact trivial | refine And.intro ⟨_, rfl, SV.imp_refl _⟩ ?_))⟩ (by repeat (first | exact trivial | refine And.intro ⟨_, rfl, Ch.imp_refl _⟩ ?_))
      exact e2 (hm ((i + j) / 2) a (by dsimp only at a1; omega) a2 hc)
  · have hij : i = j := by omega
    subst hij
    refine T_auto TT_ok rfl ?_
    refine RJ_of (OJ_FG rfl rfl rfl rfl rfl ⟨xs.getD i GCopy.z, rfl, rfl⟩ (SJ_of ?_))
    refine RJ_auto TT_ok rfl ?_
    refine T_ret TT_ok (i) [(6, none), (7, none)] rfl rfl ?_ ?_ ?_
    · exact SVs.imp_refl _
    · trivial
    · exact ⟨h2, h3, h4⟩
section
variable {E : Env} {mu : Mu} {TT : List TI} {fr : Fr}
/-- the body ends with no return -/
theorem X_ret {ι : Type} {fn : Func} {φ : ι → Prop} {res : ι → List SV} {mu' : ι → Mu} (hT : TOk E.P TT) (y : ι) (ts : List (Nat × Option Nat)) (hr : fn.results = (ts.map rvOf).toArray) {l : List SV} (hl : allGetC TT fr mu ts = some l) (h1 : SVs.imp E.P l (res y)) (h2 : WkMu mu (mu' y)) (h3 : φ y) :
    X E (bodyPost E.P fn (RetP E φ res mu')) .fin fr mu := fun B a w H f m => by
  obtain ⟨out, r1, r2⟩ := allGetC_run hT f m.mr hl
  show bodyPost E.P fn (RetP E φ res mu') .normal a w
  refine ⟨f.defers, resV out, ?_, y, B, H, out, h3, rfl, SVs.imp_ok h1 r2, m.wk h2⟩
  unfold results
  rw [hr, Sem.run_bind, Array.mapM_eq_mapM_toList, Sem.run_map, List.toList_toArray]
  erw [r1]
  have e : ∀ l : List Value, (if h : l.toArray.size = 1 then l.toArray[0] else Value.tuple l.toArray) = resV l := fun l => by
    rw [← resV_eq]; simp
  exact congrArg (Result.ok · w) (e out)
end
theorem insertCopyEnd_c (n : Nat) (f : Nat → List D) (x : GCopy) (hn : n ≤ 1048576) : Con Try.prog 104 [900, 901] [.a (.g 900), vI n, .a (.g 901)] [(900, .arr 2 n f), (901, .arr 2 1 fun _ => cCopy x)] (fun _ : Unit => True) (fun _ => [.a (.g 902)]) fun _ => [(902, .arr 2 (n + 1) (appD n f fun _ => cCopy x))] := by
  refine con_enter Try.func104 rfl rfl rfl fun B0 r_ D_ w0 => ?_
  refine T_auto TT_ok rfl ?_
  refine T_condD rfl (fun e => by cases e) (fun _ => ?_)
  refine T_auto TT_ok rfl ?_
  refine T_condE rfl (fun e => ?_) (fun e => absurd rfl e)
  refine T_auto TT_ok rfl ?_
  refine RJ_appM TT_ok 900 901 902 rfl rfl rfl rfl rfl rfl rfl rfl rfl rfl rfl rfl ⟨by show (n + 1) * 32 ≤ _; omega, by unfold maxL; omega⟩ ?_
  refine RJ_auto TT_ok rfl ?_
  refine T_ret TT_ok (()) [(6, none)] rfl rfl ?_ ?_ ?_
  · exact SVs.imp_refl _
  · exact ⟨⟨_, rfl, Ch.imp_refl _⟩, trivial⟩
  · trivial
theorem replace1_q (x : GCopy) (r : Int) : Ans Try.prog 102 [] [vR (cCopy x), vI r] [] (vI (ordI x.region r)) := by
  refine con_enter Try.func102 rfl rfl rfl fun B0 r_ D_ w0 => ?_
  refine T_auto TT_ok rfl ?_
  refine RJ_Q TT_ok (compare_q _ _) rfl rfl rfl rfl rfl ?_
  exact T_ansI TT_ok [(4, none)] rfl rfl (rfl)
theorem replaceEnd_c (al : Bool) (n2 n3 : Nat) (f2 f3 : Nat → List D) (xs : List GCopy) (hl : xs.length ≤ 1000) (r : Int) (cs : List GCell) (hc : cs.length ≤ 1048576) (h : ∀ a, a < xs.length → (xs.getD a GCopy.z).region < r) : Con Try.prog 82 [900, 901] [.a (.p 900 0), vI r, vL 2 cCell GCell.z cs] [(900, .row [.v (.bool al), .g 901, .s .o 4 n2 f2, .s .o 1 n3 f3]), (901, arrC 2 cCopy GCopy.z xs)] (fun _ : Unit => True) (fun _ => [])
    fun _ => [(900, .row [.v (.bool al), .g 904, .s .o 4 n2 f2, .s .o 1 n3 f3]), (904, arrC 2 cCopy GCopy.z (xs ++ [⟨r, cs⟩]))] := by
  have hlt : ∀ a, a < xs.length → ordI (xs.getD a GCopy.z).region r < 0 := fun a ha => by unfold ordI; rw [if_pos (h a ha)]; decide
  refine con_enter Try.func82 rfl rfl rfl fun B0 r_ D_ w0 => ?_
  refine T_auto TT_ok rfl ?_
  refine RJ_C TT_ok (searchCopy_c xs (by omega) r (fun x => ordI x.region r) (fun a b _ hb _ => hlt a (by omega))) rfl rfl (SVs.cons (SV.imp_refl _) (SVs.cons (SV.imp_refl _) (SVs.cons (imp_fb (enters_B (by kernel_rfl)) rfl fun args x ⟨s, h1, h2⟩ => by subst h1; subst h2; exact replace1_q s r) rfl))) (fun _ => rfl) rfl rfl rfl fun i hi => ?_
  have hi2 : i = xs.length := by
    rcases Nat.lt_or_ge i xs.length with h1 | h1
    · exact absurd (hlt i h1) (hi.2.2 i (Nat.le_refl _) h1)
    · have := hi.1; omega
  subst hi2
  rw [show (bif decide ((xs.length : Int) < xs.length) then ordI (xs.getD xs.length GCopy.z).region r == 0 else false) = false from by rw [decide_eq_false (by omega)]; rfl]
  refine RJ_auto TT_ok rfl ?_
  refine RJ_C TT_ok (Con.sw 900 44 (cloneCell_m cs hc)) rfl rfl (SVs.imp_refl _) (fun _ => rfl) rfl rfl rfl fun _ _ => ?_
  refine RJ_auto TT_ok rfl ?_
  refine T_cond rfl (fun e => by cases e) (fun _ => ?_)
  refine T_auto TT_ok rfl ?_
  refine T_drawL TT_ok [901, 44] [0, 1, 2, 3, 4, 5, 6, 7, 8, 9, 10, 11] rfl rfl fun B0 H0 => ?_
  refine DJ_one 7 rfl (by kernel_rfl) (OJ_bs TT_ok 37 (fun _ => cCopy ⟨r, cs⟩) rfl rfl rfl rfl rfl rfl rfl (fun j hj => by rcases j with _ | j <;> first | rfl | omega) (mu1 := [(44, .arr 0 0 fun _ => [])]) rfl rfl rfl (SJ_dj ?_))
  refine DJ_C 8 (Con.sw 902 904 (Con.sw 900 901 (Con.sw 901 37 (insertCopyEnd_c xs.length (fun j => cCopy (xs.getD j GCopy.z)) ⟨r, cs⟩ (by omega))))) rfl rfl rfl (SVs.imp_refl _) (fun _ => rfl) rfl rfl rfl fun _ _ => ?_
  refine DJ_onL TT_ok [9, 10, 11] rfl ?_
  refine DJ_sw2 11 rfl (by kernel_rfl) (by kernel_rfl) (OJ_M TT_ok rfl rfl rfl rfl rfl rfl (SJ_sw [] fun B0 H0 => ?_))
  refine DJ_end (by kernel_rfl) ?_
  refine X_ret TT_ok () [] rfl rfl ?_ ?_ ?_
  · exact SVs.imp_refl _
  · exact ⟨⟨_, rfl, Ch.imp_refl _⟩, ⟨_, rfl, imp_app1 (x := (⟨r, cs⟩ : GCopy)) rfl rfl⟩, trivial⟩
  · trivial
end Go.Proofs.Ytiegllklalplnaa
