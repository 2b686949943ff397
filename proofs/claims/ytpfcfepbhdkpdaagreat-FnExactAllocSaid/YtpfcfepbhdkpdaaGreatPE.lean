
/-
  What a transaction checks, on both sides.
  What a transaction checks, on both sides: the functions.
-/
import Derived.Test.YtpfcfepbhdkpdaaGreatPD
import Derived.Test.YtpfcfepbhdkpdaaGreatWG
namespace Go.Proofs.YtpfcfepbhdkpdaaGreat
open Go Go.RowKit
set_option linter.unusedVariables false
set_option linter.unusedSimpArgs false

section
set_option maxRecDepth 4000

/-- numbers that say where an element lies, rising: less than 0 before, not behind -/
def rising {α : Type} (c : α → Int) (z : α) (xs : List α) : Prop := ∀ a b, a ≤ b → b < xs.length → c (xs.getD b z) < 0 → c (xs.getD a z) < 0
/-- where a search ends -/
def cutAt {α : Type} (c : α → Int) (z : α) (xs : List α) (i : Nat) : Prop := i ≤ xs.length ∧ (∀ a, a < i → c (xs.getD a z) < 0) ∧ ∀ a, i ≤ a → a < xs.length → ¬ c (xs.getD a z) < 0
theorem searchSet_c (xs : List GSet) (hl : xs.length ≤ 1048576) (s0 : GSet) (c : GSet → Int) (hm : rising c GSet.z xs) : Con Tryz.prog 161 [] [vL 5 cSet GSet.z xs, vR (cSet s0), fbO (fun x => [RD.ag (cSet x), RD.ag (cSet s0)]) fun x => .int .i64 (c x)] [] (cutAt c GSet.z xs)
    (fun i => [vI i, vB (bif decide ((i : Int) < xs.length) then c (xs.getD i GSet.z) == 0 else false)]) fun _ => [] := by
  refine con_enter Tryz.func161 rfl rfl rfl fun B0 r_ D_ w0 => ?_
  refine T_auto TT_ok rfl ?_
  refine T_loopA (ι := Nat × Nat) (fun y => [(9, vI y.1), (10, vI y.2)]) (fun _ => []) (fun y => y.1 ≤ y.2 ∧ y.2 ≤ xs.length ∧ (∀ a, a < y.1 → c (xs.getD a GSet.z) < 0) ∧ ∀ a, y.2 ≤ a → a < xs.length → ¬ c (xs.getD a GSet.z) < 0) (fun y => y.2 - y.1) (0, xs.length) [] [] rfl rfl ⟨Nat.zero_le _, Nat.le_refl _, fun a h => absurd h (Nat.not_lt_zero _), fun a h1 h2 => by omega⟩ (by repeat (first | exact trivial | refine And.intro ⟨_, rfl, SV.imp_refl _⟩ ?_)) (by repeat (first | exact trivial | refine And.intro ⟨_, rfl, Ch.imp_refl _⟩ ?_)) ?_
  rintro ⟨i, j⟩ ⟨h1, h2, h3, h4⟩
  dsimp only at h1 h2 h3 h4 ⊢
  refine T_auto TT_ok rfl ?_
  refine T_condD rfl (fun e => ?_) (fun e => ?_)
  · have hij : i < j := by omega
    have hh : (((i : Int) + j) / 2).toNat = (i + j) / 2 := by omega
    refine T_auto TT_ok rfl ?_
    refine T_drawA TT_ok [] rfl rfl fun B0 H0 => ?_
    refine DJ_one 6 rfl (by kernel_rfl) (OJ_F rfl rfl rfl ⟨xs.getD (((i : Int) + j) / 2).toNat GSet.z, rfl, rfl⟩ (SJ_dj ?_))
    refine DJ_on TT_ok rfl ?_
    refine DJ_endA TT_ok rfl ?_
    rw [hh]
    refine T_condD rfl (fun e2 => ?_) (fun e2 => ?_)
    · refine T_auto TT_ok rfl ?_
      refine X_inv ((i + j) / 2 + 1, j) ⟨by dsimp only; omega, h2, fun a ha => ?_, h4⟩ (by show j - ((i + j) / 2 + 1) < j - i; omega) ⟨⟨_, rfl, SV.imp_of (vI_eq (by dsimp only; omega))⟩, ⟨_, rfl, SV.imp_refl _⟩, (by repeat (first | exact trivial | refine And.intro ⟨_, rfl, SV.imp_refl _⟩ ?_))⟩ (by repeat (first | exact trivial | refine And.intro ⟨_, rfl, Ch.imp_refl _⟩ ?_))
      exact hm a ((i + j) / 2) (by dsimp only at ha; omega) (by omega) e2
    · refine T_auto TT_ok rfl ?_
      refine X_inv (i, (i + j) / 2) ⟨by dsimp only; omega, by dsimp only; omega, h3, fun a a1 a2 hc => ?_⟩ (by show (i + j) / 2 - i < j - i; omega) ⟨⟨_, rfl, SV.imp_refl _⟩, ⟨_, rfl, SV.imp_of (vI_eq (by dsimp only; omega))⟩, (by repeat (first | exact trivial | refine And.intro ⟨_, rfl, SV.imp_refl _⟩ ?_))⟩ (by repeat (first | exact trivial | refine And.intro ⟨_, rfl, Ch.imp_refl _⟩ ?_))
      exact e2 (hm ((i + j) / 2) a (by dsimp only at a1; omega) a2 hc)
  · have hij : i = j := by omega
    subst hij
    refine T_auto TT_ok rfl ?_
    refine T_drawA TT_ok [] rfl rfl fun B0 H0 => ?_
    refine DJ_one 11 rfl (by kernel_rfl) (OJ_FG rfl rfl rfl rfl rfl ⟨xs.getD i GSet.z, rfl, rfl⟩ (SJ_dj ?_))
    refine DJ_on TT_ok rfl ?_
    refine DJ_endA TT_ok rfl ?_
    refine T_ret TT_ok (i) [(6, none), (7, none)] rfl rfl ?_ ?_ ?_
    · exact SVs.imp_refl _
    · trivial
    · exact ⟨h2, h3, h4⟩
end

section
set_option maxRecDepth 4000

theorem cmpC_lt {r s q t : Int} : cmpC r s q t < 0 ↔ r < q ∨ r = q ∧ s < t := by
  rw [← lessB_iff, ← cmpC_less]; simp
theorem cmpC_zero {r s q t : Int} : cmpC r s q t = 0 ↔ r = q ∧ s = t := by
  unfold cmpC orL orL orL ordI
  by_cases h1 : r < q
  · simp [h1]; omega
  · by_cases h2 : r > q
    · simp [h1, h2]; omega
    · have h3 : r = q := by omega
      subst h3
      by_cases h4 : s < t
      · simp [h4]; omega
      · by_cases h5 : s > t
        · simp [h4, h5]; omega
        · simp [h4, h5]; omega
def sortedS (xs : List GSet) : Prop := ∀ a b, a < b → b < xs.length → lessS (xs.getD a GSet.z) (xs.getD b GSet.z)
theorem sortedS_of {xs : List GSet} (h : setsOk xs xs.length) : sortedS xs := fun a b hab hb => by
  induction b with
  | zero => omega
  | succ b ih =>
    have h1 := (h (b + 1) hb).2 (by omega)
    rw [Nat.add_sub_cancel] at h1
    by_cases c : a = b
    · subst c; exact h1
    · have h2 := ih (by omega) (by omega)
      unfold lessS at h1 h2 ⊢
      omega
theorem set1_q (a b : GSet) : Ans Tryz.prog 162 [] [vR (cSet a), vR (cSet b)] [] (vI (cmpC a.region a.slot b.region b.slot)) := by
  refine con_enter Tryz.func162 rfl rfl rfl fun B0 r_ D_ w0 => ?_
  refine T_auto TT_ok rfl ?_
  refine RJ_Q TT_ok (compareCells_q _ _ _ _) rfl rfl rfl rfl rfl ?_
  exact T_ansI TT_ok [(4, none)] rfl rfl (rfl)
def cellC (r s : Int) (x : GSet) : Int := cmpC x.region x.slot r s
theorem cellC_rising {xs : List GSet} (h : sortedS xs) (r s : Int) : rising (cellC r s) GSet.z xs := fun a b hab hb hc => by
  by_cases c : a = b
  · subst c; exact hc
  · have := h a b (by omega) hb
    unfold cellC at hc ⊢
    rw [cmpC_lt] at hc ⊢
    unfold lessS at this
    omega
theorem set_c (t : GTx) (hl : t.sets.length ≤ 1048576) (r0 s0 : Int) (hs : sortedS t.sets) : Con Tryz.prog 105 [] [vP (cTx t), vI r0, vI s0] [] (cutAt (cellC r0 s0) GSet.z t.sets)
    (fun i => [vI i, vB (bif decide ((i : Int) < t.sets.length) then cellC r0 s0 (t.sets.getD i GSet.z) == 0 else false)]) fun _ => [] := by
  refine con_enter Tryz.func105 rfl rfl rfl fun B0 r_ D_ w0 => ?_
  refine T_auto TT_ok rfl ?_
  refine RJ_C TT_ok (searchSet_c t.sets hl ⟨r0, s0, 0, false, 0⟩ (cellC r0 s0) (cellC_rising hs r0 s0)) rfl rfl (SVs.cons (SV.imp_refl _) (SVs.cons (SV.imp_refl _) (SVs.cons (imp_fb (enters_B (by kernel_rfl)) rfl fun args x ⟨s, h1, h2⟩ => by subst h1; subst h2; exact set1_q s ⟨r0, s0, 0, false, 0⟩) rfl))) (fun _ => rfl) rfl rfl rfl fun i hi => ?_
  refine RJ_auto TT_ok rfl ?_
  refine T_ret TT_ok (i) [(6, none), (7, none)] rfl rfl ?_ ?_ ?_
  · exact SVs.imp_refl _
  · trivial
  · exact hi
def atCell (r s : Int) (x : GSet) : Bool := bif x.region == r then x.slot == s else false
theorem atCell_iff {r s : Int} {x : GSet} : atCell r s x = true ↔ x.region = r ∧ x.slot = s := by
  unfold atCell
  by_cases h : x.region = r <;> simp [h]
theorem found_eq {xs : List GSet} (hs : sortedS xs) {r s : Int} {i : Nat} (h : cutAt (cellC r s) GSet.z xs i) : (bif decide ((i : Int) < xs.length) then cellC r s (xs.getD i GSet.z) == 0 else false) = xs.any (atCell r s) := by
  obtain ⟨h1, h2, h3⟩ := h
  rw [Bool.eq_iff_iff, List.any_eq_true]
  constructor
  · intro e
    have hi : i < xs.length := by
      by_cases c : i < xs.length
      · exact c
      · rw [decide_eq_false (by omega)] at e; cases e
    rw [decide_eq_true (by omega)] at e
    have e : cellC r s (xs.getD i GSet.z) = 0 := by simpa using e
    refine ⟨xs.getD i GSet.z, by simp [hi], atCell_iff.2 (cmpC_zero.1 e)⟩
  · rintro ⟨x, hx, hc⟩
    obtain ⟨a, ha, rfl⟩ := List.mem_iff_getElem.1 hx
    have hxa : xs.getD a GSet.z = xs[a] := by simp [ha]
    rw [← hxa] at hc
    have hc := atCell_iff.1 hc
    have hz : cellC r s (xs.getD a GSet.z) = 0 := cmpC_zero.2 hc
    have hia : i ≤ a := by
      rcases Nat.lt_or_ge a i with h | h
      · have := h2 a h; omega
      · exact h
    have hi : i < xs.length := by omega
    rw [decide_eq_true (by omega)]
    have : cellC r s (xs.getD i GSet.z) = 0 := by
      by_cases c : i = a
      · subst c; exact hz
      · exfalso
        have h4 := hs i a (by omega) ha
        have h5 := h3 i (Nat.le_refl _) hi
        unfold cellC at h5
        rw [cmpC_lt] at h5
        unfold lessS at h4
        omega
    show (cellC r s (xs.getD i GSet.z) == 0) = true
    rw [this]; rfl
theorem l7Set_q (t : GTx) (hl : t.sets.length ≤ 1048576) (r0 s0 : Int) : Ans Tryz.prog 50 [] [vR (cTx t), vI r0, vI s0] [] (vI (idxI (atCell r0 s0) t.sets)) := by
  refine con_enter Tryz.func50 rfl rfl rfl fun B0 r_ D_ w0 => ?_
  refine T_auto TT_ok rfl ?_
  refine T_loopA (ι := Nat) (fun i => [(7, vI i)]) (fun _ => []) (fun i => i ≤ t.sets.length ∧ ∀ j, j < i → atCell r0 s0 (t.sets.getD j GSet.z) = false) (fun i => t.sets.length - i) 0 [] [] rfl rfl ⟨Nat.zero_le _, fun j hj => absurd hj (Nat.not_lt_zero _)⟩ (by repeat (first | exact trivial | refine And.intro ⟨_, rfl, SV.imp_refl _⟩ ?_)) (by repeat (first | exact trivial | refine And.intro ⟨_, rfl, Ch.imp_refl _⟩ ?_)) ?_
  intro i ⟨h1, h2⟩
  refine T_auto TT_ok rfl ?_
  refine T_condD rfl (fun e => ?_) (fun e => ?_)
  · have hi : i < t.sets.length := by omega
    refine T_auto TT_ok rfl ?_
    refine T_cond rfl (fun e2 => ?_) (fun e2 => ?_)
    · refine T_auto TT_ok rfl ?_
      exact T_ansI TT_ok [(6, none)] rfl rfl ((idxI_at hi h2 e2).symm)
    · refine T_auto TT_ok rfl ?_
      exact X_inv (i + 1) ⟨hi, before_succ h2 e2⟩ (by omega) (by repeat (first | exact trivial | refine And.intro ⟨_, rfl, SV.imp_refl _⟩ ?_)) (by repeat (first | exact trivial | refine And.intro ⟨_, rfl, Ch.imp_refl _⟩ ?_))
  · refine T_auto TT_ok rfl ?_
    exact T_ansI TT_ok [(6, none)] rfl rfl ((idxI_no fun j hj => h2 j (by omega)).symm)
def noSet (t : GTx) (n : GNote) : Bool := decide (idxI (atCell n.region n.slot) t.sets < 0)
theorem noSet_eq (t : GTx) (n : GNote) : noSet t n = !t.sets.any (atCell n.region n.slot) := by
  unfold noSet
  rcases idxI_cases (atCell n.region n.slot) GSet.z t.sets with ⟨h1, h2⟩ | ⟨i, h1, h2, h3, h4⟩
  · rw [h1]
    cases c : t.sets.any (atCell n.region n.slot) with
    | false => rfl
    | true =>
      obtain ⟨x, hx, hc⟩ := List.any_eq_true.1 c
      obtain ⟨a, ha, rfl⟩ := List.mem_iff_getElem.1 hx
      have := h2 a ha
      have hxa : t.sets.getD a GSet.z = t.sets[a] := by simp [ha]
      rw [hxa, hc] at this; cases this
  · rw [h2, decide_eq_false (by omega)]
    have : t.sets.any (atCell n.region n.slot) = true := List.any_eq_true.2 ⟨_, by simp [h1], h4⟩
    rw [this]; rfl
open Classical in
noncomputable def checksM (t : GTx) : List GNote := if TxOk t then t.reads.filter (noSet t) else []
theorem checksM_le (t : GTx) : (checksM t).length ≤ t.reads.length := by
  unfold checksM; split
  · exact List.length_filter_le _ _
  · exact Nat.zero_le _
end
end Go.Proofs.YtpfcfepbhdkpdaaGreat
