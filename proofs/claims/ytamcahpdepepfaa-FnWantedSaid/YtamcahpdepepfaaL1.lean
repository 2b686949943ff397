
/-
  What is wanted, plainly: the regions rise, their Sets are all, the checks are no Sets.
-/
import Derived.Test.YtamcahpdepepfaaL2
namespace Go.Proofs.Ytamcahpdepepfaa
open Go Go.RowKit
set_option linter.unusedVariables false
set_option linter.unusedSimpArgs false
set_option maxRecDepth 4000

theorem cm_mem {l : List Int} : ∀ {k : Nat}, k ≤ l.length → ∀ x, x ∈ cmI l k ↔ x ∈ l.take k
  | 0, _, x => by simp [cmI]
  | k + 1, hk, x => by
    have ih := cm_mem (l := l) (k := k) (by omega) x
    rw [take_succ_getD (z := 0) (by omega), cmI]
    split
    · simp only [List.mem_append, ih]
    · rename_i h
      simp only [List.mem_append, List.mem_singleton]
      rw [ih]
      constructor
      · exact .inl
      · rintro (h1 | h1)
        · exact h1
        · subst h1
          have h0 : k ≠ 0 := fun e => h (.inl e)
          have h2 : l.getD k 0 = l.getD (k - 1) 0 := by
            by_cases c : l.getD k 0 = l.getD (k - 1) 0
            · exact c
            · exact absurd (.inr c) h
          rw [h2, List.mem_iff_getElem]
          exact ⟨k - 1, by rw [List.length_take]; omega, by simp [List.getD_eq_getElem?_getD, List.getElem?_eq_getElem (show k - 1 < l.length by omega)]⟩
theorem cm_rise {l : List Int} : ∀ {k : Nat}, k ≤ l.length → (∀ j, 0 < j → j < k → l.getD (j - 1) 0 ≤ l.getD j 0) → (cmI l k).Pairwise (· < ·) ∧ (0 < k → ∀ x ∈ cmI l k, x ≤ l.getD (k - 1) 0)
  | 0, _, _ => ⟨by simp [cmI], fun h => absurd h (Nat.lt_irrefl _)⟩
  | k + 1, hk, h => by
    obtain ⟨h1, h2⟩ := cm_rise (l := l) (k := k) (by omega) fun j j1 j2 => h j j1 (by omega)
    rw [Nat.add_sub_cancel, cmI]
    by_cases c : k = 0 ∨ l.getD k 0 ≠ l.getD (k - 1) 0
    · rw [if_pos c]
      have h3 : ∀ x ∈ cmI l k, x < l.getD k 0 := fun x hx => by
        rcases Nat.eq_zero_or_pos k with e | e
        · subst e; simp [cmI] at hx
        · have a1 := h2 e x hx
          have a2 := h k e (by omega)
          have a3 : l.getD k 0 ≠ l.getD (k - 1) 0 := c.resolve_left (by omega)
          omega
      refine ⟨List.pairwise_append.2 ⟨h1, by simp, fun a ha b hb => by simp at hb; subst hb; exact h3 a ha⟩, fun _ x hx => ?_⟩
      rcases List.mem_append.1 hx with hx | hx
      · exact Int.le_of_lt (h3 x hx)
      · simp at hx; subst hx; exact Int.le_refl _
    · rw [if_neg c]
      have e : 0 < k := Nat.pos_of_ne_zero fun e => c (.inl e)
      exact ⟨h1, fun _ x hx => Int.le_trans (h2 e x hx) (h k e (by omega))⟩
theorem cnt_cons (s : GSet) (xs : List GSet) : ∀ w : List Int, sumW (fun r => (setsAt r (s :: xs)).length) w = sumW (fun r => (setsAt r xs).length) w + (w.filter fun r => s.region == r).length
  | [] => rfl
  | r :: w => by
    have ih := cnt_cons s xs w
    unfold setsAt at ih ⊢
    simp only [sumW, List.filter_cons] at ih ⊢
    rw [ih]
    by_cases c : s.region == r
    · simp [c]; omega
    · simp [c]; omega
theorem one_of {x : Int} : ∀ {w : List Int}, w.Pairwise (· < ·) → x ∈ w → (w.filter fun r => x == r).length = 1
  | [], _, h => by cases h
  | r :: w, hp, h => by
    obtain ⟨h1, h2⟩ := List.pairwise_cons.1 hp
    rw [List.filter_cons]
    by_cases c : x = r
    · subst c
      have : w.filter (fun r => x == r) = [] := List.filter_eq_nil_iff.2 fun a ha => by have := h1 a ha; simp; omega
      simp [this]
    · have hx : x ∈ w := by
        rcases List.mem_cons.1 h with e | e
        · exact absurd e c
        · exact e
      simp [c]
      simpa using one_of h2 hx
theorem cnt_all {w : List Int} (hw : w.Pairwise (· < ·)) : ∀ {xs : List GSet}, (∀ s ∈ xs, s.region ∈ w) → sumW (fun r => (setsAt r xs).length) w = xs.length
  | [], _ => by
    have : ∀ w : List Int, sumW (fun r => (setsAt r []).length) w = 0 := fun w => by induction w with
      | nil => rfl
      | cons a r ih => simp only [sumW, ih]; rfl
    rw [this]; rfl
  | s :: xs, h => by
    rw [cnt_cons, cnt_all hw fun x hx => h x (by simp [hx]), one_of hw (h s (by simp))]; rfl
/-- as many apart from each other as lie in another list -/
theorem nodup_len {α : Type} [DecidableEq α] : ∀ {l m : List α}, l.Nodup → (∀ x ∈ l, x ∈ m) → l.length ≤ m.length
  | [], _, _, _ => Nat.zero_le _
  | a :: l, m, hn, h => by
    obtain ⟨h1, h2⟩ := List.nodup_cons.1 hn
    have ha := h a (by simp)
    have h3 : l.length ≤ (m.erase a).length := nodup_len h2 fun x hx => by
      have : x ≠ a := fun e => h1 (e ▸ hx)
      exact (List.mem_erase_of_ne this).2 (h x (by simp [hx]))
    rw [List.length_erase_of_mem ha] at h3
    have := List.length_pos_of_mem ha
    rw [List.length_cons]; omega
theorem reads_le {rs : List GNote} {xs : List GSet} (hs : sortedN rs) (f : GNote → Bool) (hf : ∀ n ∈ rs, f n = false → ∃ s ∈ xs, atCell n.region n.slot s = true) : rs.length ≤ (rs.filter f).length + xs.length := by
  have hp : rs.Pairwise lessN := pair_of (z := GNote.z) hs
  have h1 : (rs.filter fun n => !f n).length ≤ xs.length := by
    have h2 : ((rs.filter fun n => !f n).map fun n => (n.region, n.slot)).Nodup := by
      refine List.Pairwise.map _ (fun a b h e => ?_) (hp.filter _)
      injection e with e1 e2
      unfold lessN at h
      omega
    have h3 := nodup_len (m := xs.map fun s => (s.region, s.slot)) h2 fun x hx => by
      obtain ⟨n, hn, rfl⟩ := List.mem_map.1 hx
      obtain ⟨hn1, hn2⟩ := List.mem_filter.1 hn
      obtain ⟨s, s1, s2⟩ := hf n hn1 (by simpa using hn2)
      unfold atCell at s2
      by_cases c : s.region = n.region
      · simp [c] at s2
        exact List.mem_map.2 ⟨s, s1, by rw [c, s2]⟩
      · simp [c] at s2
    simpa using h3
  have h4 : rs.length = (rs.filter f).length + (rs.filter fun n => !f n).length := by
    clear h1 hp hf hs
    induction rs with
    | nil => rfl
    | cons a r ih => cases e : f a <;> simp [List.filter_cons, e, ih] <;> omega
  omega
end Go.Proofs.Ytamcahpdepepfaa
