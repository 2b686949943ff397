/-
  Small lemmas on lists, for searches by index.
-/
import Derived.Test.YtiilpopeognekaaC5
namespace Go.Proofs.Ytiilpopeognekaa
open Go Go.RowKit
set_option linter.unusedVariables false
set_option linter.unusedSimpArgs false

def idxI {α : Type} (p : α → Bool) (xs : List α) : Int := match xs.findIdx? p with
  | some i => i
  | none => -1
section
variable {α : Type} {p : α → Bool} {xs : List α} {d : α}
theorem getD_at {i : Nat} (h : i < xs.length) : xs[i]? = some (xs.getD i d) := by simp [h]
theorem getD_mem {i : Nat} (h : i < xs.length) : xs.getD i d ∈ xs := List.mem_of_getElem? (getD_at h)
theorem any_at {i : Nat} (h : i < xs.length) (hp : p (xs.getD i d) = true) : xs.any p = true := List.any_eq_true.2 ⟨_, getD_mem h, hp⟩
theorem all_at {i : Nat} (h : i < xs.length) (hp : p (xs.getD i d) = false) : xs.all p = false := by
  cases e : xs.all p with
  | false => rfl
  | true => rw [List.all_eq_true.1 e _ (getD_mem h)] at hp; cases hp
theorem mem_getD {x : α} (h : x ∈ xs) (d : α) : ∃ i, i < xs.length ∧ xs.getD i d = x := by
  obtain ⟨i, hi⟩ := List.mem_iff_getElem?.1 h
  have hlt : i < xs.length := (List.getElem?_eq_some_iff.1 hi).1
  rw [getD_at (d := d) hlt] at hi
  injection hi with hi
  exact ⟨i, hlt, hi⟩
theorem any_no (h : ∀ j, j < xs.length → p (xs.getD j d) = false) : xs.any p = false := by
  cases e : xs.any p with
  | false => rfl
  | true =>
    obtain ⟨x, hx, hp⟩ := List.any_eq_true.1 e
    obtain ⟨i, hi, rfl⟩ := mem_getD hx d
    rw [h i hi] at hp; cases hp
theorem all_yes (h : ∀ j, j < xs.length → p (xs.getD j d) = true) : xs.all p = true := by
  rw [List.all_eq_true]
  intro x hx
  obtain ⟨i, hi, rfl⟩ := mem_getD hx d
  exact h i hi
theorem idx_at {i : Nat} (h : i < xs.length) (h1 : ∀ j, j < i → p (xs.getD j d) = false) (hp : p (xs.getD i d) = true) : idxI p xs = i := by
  have : xs.findIdx? p = some i := by
    rw [List.findIdx?_eq_some_iff_getElem]
    refine ⟨h, ?_, fun j hj => ?_⟩
    · have := getD_at (d := d) h
      rw [List.getElem?_eq_getElem h] at this
      injection this with this
      rw [this]; exact hp
    · have := getD_at (d := d) (show j < xs.length by omega)
      rw [List.getElem?_eq_getElem (by omega)] at this
      injection this with this
      rw [this, h1 j hj]; simp
  simp [idxI, this]
theorem idx_no (h : ∀ j, j < xs.length → p (xs.getD j d) = false) : idxI p xs = -1 := by
  have : xs.findIdx? p = none := by
    rw [List.findIdx?_eq_none_iff]
    intro x hx
    obtain ⟨i, hi, rfl⟩ := mem_getD hx d
    rw [h i hi]
  simp [idxI, this]
theorem idx_any : decide (idxI p xs ≥ 0) = xs.any p := by
  unfold idxI
  cases e : xs.findIdx? p with
  | none =>
    have := List.findIdx?_eq_none_iff.1 e
    have h : xs.any p = false := by
      rw [List.any_eq_false]; intro x hx; rw [this x hx]; simp
    rw [h]; rfl
  | some i =>
    have := List.findIdx?_eq_some_iff_getElem.1 e
    obtain ⟨h1, h2, _⟩ := this
    have h : xs.any p = true := List.any_eq_true.2 ⟨_, List.getElem_mem h1, h2⟩
    rw [h]; simp
theorem before_succ {q : Nat → Prop} {i : Nat} (h : ∀ j, j < i → q j) (hi : q i) : ∀ j, j < i + 1 → q j := fun j hj => by
  rcases Nat.lt_succ_iff_lt_or_eq.1 hj with h1 | h1
  · exact h j h1
  · rw [h1]; exact hi
end
def minI (a b : Int) : Int := if a < b then a else b
def maxI (a b : Int) : Int := if a > b then a else b
theorem int_beq_true {a b : Int} (h : (a == b) = true) : a = b := by simpa using h
end Go.Proofs.Ytiilpopeognekaa
