
/-
  slices.Insert, flat.
-/
import Derived.Test.YtpfcfepbhdkpdaaGreatWI
namespace Go.Proofs.YtpfcfepbhdkpdaaGreat
open Go Go.RowKit
set_option linter.unusedVariables false
set_option linter.unusedSimpArgs false
set_option maxRecDepth 4000

def insD (i m : Nat) (g f : Nat → List D) : Nat → List D := fun j => if j < i then f j else if j < i + m then g (j - i) else f (j - m)
theorem ins_end {n m : Nat} {f g : Nat → List D} (j : Nat) : appD n f g j = insD n m g f j ∨ n + m ≤ j := by
  unfold insD
  by_cases c : j < n
  · left; rw [appD_lt c, if_pos c]
  · by_cases c2 : j < n + m
    · left; rw [appD_ge (by omega), if_neg c, if_pos c2]
    · right; omega
theorem ins_cp {n m i c1 c2 : Nat} {f f0 g : Nat → List D} (hi : i ≤ n) (h1 : c1 = m) (h2 : c2 = n - i) (h0 : ∀ j, j < i → f0 j = f j) (j : Nat) (hj : j < n + m) : cpD (i + m) c2 (fun x => f (i + x)) (cpD i c1 g f0) j = insD i m g f j := by
  subst h1; subst h2
  unfold cpD insD
  by_cases a : j < i
  · rw [if_neg (by omega), if_neg (by omega), if_pos a]; exact h0 j a
  · by_cases b : j < i + c1
    · rw [if_neg (by omega), if_pos (by omega), if_neg a, if_pos b]
    · rw [if_pos (by omega), if_neg a, if_neg b]
      show f (i + (j - (i + c1))) = f (j - c1)
      congr 1; omega
theorem ins_in {n m i c1 c2 : Nat} {f f0 f1 g : Nat → List D} (hi : i ≤ n) (h1 : c1 = m) (h2 : c2 = n - i) (h0 : ∀ j, j < n → f0 j = f j) (h3 : ∀ j, j < n - i → f1 j = f (i + j)) (j : Nat) (hj : j < n + m) : cpD i c1 g (cpD (i + m) c2 f1 f0) j = insD i m g f j := by
  subst h1; subst h2
  unfold cpD insD
  by_cases a : j < i
  · rw [if_neg (by omega), if_neg (by omega), if_pos a]; exact h0 j (by omega)
  · by_cases b : j < i + c1
    · rw [if_pos (by omega), if_neg a, if_pos b]
    · rw [if_neg (by omega), if_pos (by omega), if_neg a, if_neg b, h3 _ (by omega)]
      congr 1; omega
theorem flat_app {n : Nat} {f : Nat → List D} {junk : Nat → List Value} (hf : ∀ j, j < n → ∃ l, flatDs (f j) = some l) : ∀ j, j < n → ∃ l, flatDs (appD n f (fun x => (junk x).map D.v) j) = some l := fun j hj => by rw [appD_lt hj]; exact hf j hj
theorem insertNote_c (n m i : Nat) (f g : Nat → List D) (hn : n ≤ 1048576) (hm : m ≤ 1048576) (h0 : 0 < m) (hi : i ≤ n) (hf : ∀ j, j < n → ∃ l, flatDs (f j) = some l) (hg : ∀ j, j < m → ∃ l, flatDs (g j) = some l) :
    Con Tryz.prog 165 [900, 901] [.a (.g 900), vI i, .a (.g 901)] [(900, .arr 5 n f), (901, .arr 5 m g)] (fun _ : Unit => True) (fun _ => [.a (.g 902)]) fun _ => [(902, .arr 5 (n + m) (insD i m g f))] := by
  refine con_enter Tryz.func165 rfl rfl rfl fun B0 r_ D_ w0 => ?_
  refine T_auto TT_ok rfl ?_
  refine T_condD rfl (fun e => absurd e (by omega)) (fun _ => ?_)
  refine T_auto TT_ok rfl ?_
  refine T_condD rfl (fun e => ?_) (fun e => ?_)
  · have hin : i = n := by omega
    subst hin
    refine T_auto TT_ok rfl ?_
    refine RJ_appC TT_ok 900 902 rfl rfl rfl rfl rfl rfl rfl rfl rfl rfl rfl rfl ⟨by show (_ + _) * 40 ≤ 140737488355328; omega, by unfold maxL; omega⟩ ?_ (hone := hg)
    refine RJ_auto TT_ok rfl ?_
    refine T_ret TT_ok (()) [(6, none)] rfl rfl ?_ ?_ ?_
    · exact SVs.imp_refl _
    · exact ⟨⟨_, rfl, Ch.imp_arr fun j hj => (ins_end j).resolve_right (by omega)⟩, trivial⟩
    · trivial
  refine T_auto TT_ok rfl ?_
  refine RJ_cap 29 900 rfl rfl rfl fun cp hcp => ?_
  refine RJ_auto TT_ok rfl ?_
  refine T_condD rfl (fun e2 => ?_) (fun e2 => ?_)
  · refine T_auto TT_ok rfl ?_
    refine RJ_of (OJ_appZ TT_ok 900 902 29 rfl rfl rfl rfl rfl rfl rfl rfl rfl rfl rfl rfl ⟨by omega, by omega, by omega, by omega⟩ ⟨by show (_ + _) * 40 ≤ 140737488355328; omega, by unfold maxL; omega⟩ hf (SJ_of ?_))
    refine RJ_auto TT_ok rfl ?_
    refine RJ_of (OJ_copy TT_ok 902 rfl rfl rfl rfl rfl rfl rfl rfl rfl rfl ⟨by omega, by omega, by omega, Nat.lt_min.2 ⟨by omega, by omega⟩⟩ (fun j hj => hg j (Nat.lt_of_lt_of_le hj (Nat.min_le_left _ _))) (SJ_of ?_))
    refine RJ_auto TT_ok rfl ?_
    refine T_cap 9 902 rfl rfl fun cp2 _ => ?_
    refine T_drawL TT_ok [902] [0, 1, 2, 3, 4, 5, 6, 7, 8] rfl rfl fun B0 H0 => ?_
    refine DJ_one 8 rfl (by kernel_rfl) (OJ_copy TT_ok 902 rfl rfl rfl rfl rfl rfl rfl rfl rfl rfl ⟨by omega, by omega, by omega, Nat.lt_min.2 ⟨by omega, by omega⟩⟩ ?hone (SJ_dj ?_) (hob := ?hob))
    case hob => first | exact ⟨⟨by omega, by omega, by omega⟩, trivial⟩ | exact ⟨rfl, ⟨by omega, by omega, by omega⟩, trivial⟩
    case hone => exact fun j hj => hf _ (by have := Nat.lt_of_lt_of_le hj (Nat.min_le_left _ _); omega)
    refine DJ_endA TT_ok rfl ?_
    refine T_ret TT_ok (()) [(6, none)] rfl rfl ?_ ?_ ?_
    · exact SVs.cons imp_gl rfl
    · exact ⟨⟨_, rfl, Ch.imp_len (by omega) fun j hj => ins_cp hi (Nat.min_eq_left (by omega)) ((Nat.min_eq_left (by omega)).trans (by omega)) (fun j hj => by rw [appD_lt (by omega)]) j (by omega)⟩, trivial⟩
    · trivial
  refine T_view (V_glc 0 29 900 rfl rfl rfl rfl) ?_
  refine T_auto TT_ok rfl ?_
  refine RJ_of (OJ_re TT_ok 900 902 29 rfl rfl rfl rfl rfl rfl rfl rfl rfl rfl rfl ⟨by omega, by omega, by unfold maxL; omega⟩ fun junk hj => SJ_of ?_)
  refine RJ_auto TT_ok rfl ?_
  refine RJ_of (OJ_ov TT_ok 902 901 (ts := 53) (tr := 4) rfl Tryz.func194 rfl rfl rfl rfl rfl rfl rfl ⟨by omega, by omega, by omega, by omega⟩ (SJ_of ?_))
  refine RJ_auto TT_ok rfl ?_
  refine T_cond rfl (fun _ => ?_) (fun e => by cases e)
  refine T_auto TT_ok rfl ?_
  refine T_cap 0 902 rfl rfl fun cp2 _ => ?_
  refine T_drawL TT_ok [902] [0, 1, 2, 3, 4, 5, 6, 7, 8] rfl rfl fun B0 H0 => ?_
  refine DJ_one 8 rfl (by kernel_rfl) (OJ_copy TT_ok 902 rfl rfl rfl rfl rfl rfl rfl rfl rfl rfl ⟨by omega, by omega, by omega, Nat.lt_min.2 ⟨by omega, by omega⟩⟩ ?hone (SJ_dj ?_) (hob := ?hob))
  case hob => first | exact ⟨⟨by omega, by omega, by omega⟩, trivial⟩ | exact ⟨rfl, ⟨by omega, by omega, by omega⟩, trivial⟩
  case hone => exact fun j hj => flat_app hf _ (by have := Nat.lt_of_lt_of_le hj (Nat.min_le_right _ _); omega)
  refine DJ_endA TT_ok rfl ?_
  refine RJ_of (OJ_copy TT_ok 902 rfl rfl rfl rfl rfl rfl rfl rfl rfl rfl ⟨by omega, by omega, by omega, Nat.lt_min.2 ⟨by omega, by omega⟩⟩ (fun j hj => hg j (Nat.lt_of_lt_of_le hj (Nat.min_le_left _ _))) (SJ_of ?_))
  refine RJ_auto TT_ok rfl ?_
  refine T_ret TT_ok (()) [(6, none)] rfl rfl ?_ ?_ ?_
  · exact SVs.cons imp_gl rfl
  · exact ⟨⟨_, rfl, Ch.imp_len (by omega) fun j hj => ins_in hi (Nat.min_eq_left (by omega)) ((Nat.min_eq_right (by omega)).trans (by omega)) (fun j hj => by rw [appD_lt (by omega)]) (fun j hj => by rw [appD_lt (by omega)]; rfl) j (by omega)⟩, trivial⟩
  · trivial
theorem insertSet_c (n m i : Nat) (f g : Nat → List D) (hn : n ≤ 1048576) (hm : m ≤ 1048576) (h0 : 0 < m) (hi : i ≤ n) (hf : ∀ j, j < n → ∃ l, flatDs (f j) = some l) (hg : ∀ j, j < m → ∃ l, flatDs (g j) = some l) :
    Con Tryz.prog 169 [900, 901] [.a (.g 900), vI i, .a (.g 901)] [(900, .arr 5 n f), (901, .arr 5 m g)] (fun _ : Unit => True) (fun _ => [.a (.g 902)]) fun _ => [(902, .arr 5 (n + m) (insD i m g f))] := by
  refine con_enter Tryz.func169 rfl rfl rfl fun B0 r_ D_ w0 => ?_
  refine T_auto TT_ok rfl ?_
  refine T_condD rfl (fun e => absurd e (by omega)) (fun _ => ?_)
  refine T_auto TT_ok rfl ?_
  refine T_condD rfl (fun e => ?_) (fun e => ?_)
  · have hin : i = n := by omega
    subst hin
    refine T_auto TT_ok rfl ?_
    refine RJ_appC TT_ok 900 902 rfl rfl rfl rfl rfl rfl rfl rfl rfl rfl rfl rfl ⟨by show (_ + _) * 40 ≤ 140737488355328; omega, by unfold maxL; omega⟩ ?_ (hone := hg)
    refine RJ_auto TT_ok rfl ?_
    refine T_ret TT_ok (()) [(6, none)] rfl rfl ?_ ?_ ?_
    · exact SVs.imp_refl _
    · exact ⟨⟨_, rfl, Ch.imp_arr fun j hj => (ins_end j).resolve_right (by omega)⟩, trivial⟩
    · trivial
  refine T_auto TT_ok rfl ?_
  refine RJ_cap 29 900 rfl rfl rfl fun cp hcp => ?_
  refine RJ_auto TT_ok rfl ?_
  refine T_condD rfl (fun e2 => ?_) (fun e2 => ?_)
  · refine T_auto TT_ok rfl ?_
    refine RJ_of (OJ_appZ TT_ok 900 902 29 rfl rfl rfl rfl rfl rfl rfl rfl rfl rfl rfl rfl ⟨by omega, by omega, by omega, by omega⟩ ⟨by show (_ + _) * 40 ≤ 140737488355328; omega, by unfold maxL; omega⟩ hf (SJ_of ?_))
    refine RJ_auto TT_ok rfl ?_
    refine RJ_of (OJ_copy TT_ok 902 rfl rfl rfl rfl rfl rfl rfl rfl rfl rfl ⟨by omega, by omega, by omega, Nat.lt_min.2 ⟨by omega, by omega⟩⟩ (fun j hj => hg j (Nat.lt_of_lt_of_le hj (Nat.min_le_left _ _))) (SJ_of ?_))
    refine RJ_auto TT_ok rfl ?_
    refine T_cap 9 902 rfl rfl fun cp2 _ => ?_
    refine T_drawL TT_ok [902] [0, 1, 2, 3, 4, 5, 6, 7, 8] rfl rfl fun B0 H0 => ?_
    refine DJ_one 8 rfl (by kernel_rfl) (OJ_copy TT_ok 902 rfl rfl rfl rfl rfl rfl rfl rfl rfl rfl ⟨by omega, by omega, by omega, Nat.lt_min.2 ⟨by omega, by omega⟩⟩ ?hone (SJ_dj ?_) (hob := ?hob))
    case hob => first | exact ⟨⟨by omega, by omega, by omega⟩, trivial⟩ | exact ⟨rfl, ⟨by omega, by omega, by omega⟩, trivial⟩
    case hone => exact fun j hj => hf _ (by have := Nat.lt_of_lt_of_le hj (Nat.min_le_left _ _); omega)
    refine DJ_endA TT_ok rfl ?_
    refine T_ret TT_ok (()) [(6, none)] rfl rfl ?_ ?_ ?_
    · exact SVs.cons imp_gl rfl
    · exact ⟨⟨_, rfl, Ch.imp_len (by omega) fun j hj => ins_cp hi (Nat.min_eq_left (by omega)) ((Nat.min_eq_left (by omega)).trans (by omega)) (fun j hj => by rw [appD_lt (by omega)]) j (by omega)⟩, trivial⟩
    · trivial
  refine T_view (V_glc 0 29 900 rfl rfl rfl rfl) ?_
  refine T_auto TT_ok rfl ?_
  refine RJ_of (OJ_re TT_ok 900 902 29 rfl rfl rfl rfl rfl rfl rfl rfl rfl rfl rfl ⟨by omega, by omega, by unfold maxL; omega⟩ fun junk hj => SJ_of ?_)
  refine RJ_auto TT_ok rfl ?_
  refine RJ_of (OJ_ov TT_ok 902 901 (ts := 54) (tr := 4) rfl Tryz.func196 rfl rfl rfl rfl rfl rfl rfl ⟨by omega, by omega, by omega, by omega⟩ (SJ_of ?_))
  refine RJ_auto TT_ok rfl ?_
  refine T_cond rfl (fun _ => ?_) (fun e => by cases e)
  refine T_auto TT_ok rfl ?_
  refine T_cap 0 902 rfl rfl fun cp2 _ => ?_
  refine T_drawL TT_ok [902] [0, 1, 2, 3, 4, 5, 6, 7, 8] rfl rfl fun B0 H0 => ?_
  refine DJ_one 8 rfl (by kernel_rfl) (OJ_copy TT_ok 902 rfl rfl rfl rfl rfl rfl rfl rfl rfl rfl ⟨by omega, by omega, by omega, Nat.lt_min.2 ⟨by omega, by omega⟩⟩ ?hone (SJ_dj ?_) (hob := ?hob))
  case hob => first | exact ⟨⟨by omega, by omega, by omega⟩, trivial⟩ | exact ⟨rfl, ⟨by omega, by omega, by omega⟩, trivial⟩
  case hone => exact fun j hj => flat_app hf _ (by have := Nat.lt_of_lt_of_le hj (Nat.min_le_right _ _); omega)
  refine DJ_endA TT_ok rfl ?_
  refine RJ_of (OJ_copy TT_ok 902 rfl rfl rfl rfl rfl rfl rfl rfl rfl rfl ⟨by omega, by omega, by omega, Nat.lt_min.2 ⟨by omega, by omega⟩⟩ (fun j hj => hg j (Nat.lt_of_lt_of_le hj (Nat.min_le_left _ _))) (SJ_of ?_))
  refine RJ_auto TT_ok rfl ?_
  refine T_ret TT_ok (()) [(6, none)] rfl rfl ?_ ?_ ?_
  · exact SVs.cons imp_gl rfl
  · exact ⟨⟨_, rfl, Ch.imp_len (by omega) fun j hj => ins_in hi (Nat.min_eq_left (by omega)) ((Nat.min_eq_right (by omega)).trans (by omega)) (fun j hj => by rw [appD_lt (by omega)]) (fun j hj => by rw [appD_lt (by omega)]; rfl) j (by omega)⟩, trivial⟩
  · trivial
end Go.Proofs.YtpfcfepbhdkpdaaGreat
