
/-
  The heap layer: partial heaps, what they say of a world, and how a world may change. No program in sight.
-/
import Derived.WalkKit
import Derived.KernelRfl
import Derived.Deep.LoopGhost
namespace Go.Proofs.YtiegllklalplnaaGreat
open Go Go.RowKit
set_option linter.unusedVariables false
set_option linter.unusedSimpArgs false

/-- A part of memory: block, offset, the value that lies there. -/
abbrev PH := Nat → Nat → Option Value
def PH.le (h k : PH) : Prop := ∀ b o v, h b o = some v → k b o = some v
def PH.dj (h k : PH) : Prop := ∀ b o, h b o = none ∨ k b o = none
def PH.emp : PH := fun _ _ => none
def PH.un (h k : PH) : PH := fun b o => match h b o with
  | some v => some v
  | none => k b o
/-- the part lies so in the world, and none of it is frozen -/
def Fit (h : PH) (w : World) : Prop := ∀ b o v, h b o = some v → w.cell? ⟨b, o, none⟩ = some v ∧ w.frozen? ⟨b, o, none⟩ = false

theorem PH.le_refl (h : PH) : h.le h := fun _ _ _ e => e
theorem PH.le_trans {a b c : PH} (h : a.le b) (k : b.le c) : a.le c := fun x y v e => k x y v (h x y v e)
theorem PH.emp_le (h : PH) : PH.emp.le h := fun _ _ _ e => by cases e
theorem PH.dj_symm {h k : PH} (d : h.dj k) : k.dj h := fun b o => (d b o).symm
theorem PH.dj_emp (h : PH) : h.dj PH.emp := fun _ _ => .inr rfl
theorem PH.emp_dj (h : PH) : PH.emp.dj h := fun _ _ => .inl rfl
theorem PH.dj_le {h k h' k' : PH} (d : h.dj k) (l : h'.le h) (m : k'.le k) : h'.dj k' := fun b o => by
  rcases d b o with e | e
  · left
    cases x : h' b o with
    | none => rfl
    | some v => rw [l b o v x] at e; cases e
  · right
    cases x : k' b o with
    | none => rfl
    | some v => rw [m b o v x] at e; cases e
theorem PH.le_un_left (h k : PH) : h.le (h.un k) := fun b o v e => by simp [PH.un, e]
theorem PH.le_un_right {h k : PH} (d : h.dj k) : k.le (h.un k) := fun b o v e => by
  rcases d b o with x | x
  · simp [PH.un, x, e]
  · rw [x] at e; cases e
theorem PH.un_le {h k m : PH} (a : h.le m) (b : k.le m) : (h.un k).le m := fun x y v e => by
  cases hx : h x y with
  | some u => simp [PH.un, hx] at e; subst e; exact a _ _ _ hx
  | none => simp [PH.un, hx] at e; exact b _ _ _ e
theorem PH.un_dj {h k m : PH} (a : h.dj m) (b : k.dj m) : (h.un k).dj m := fun x y => by
  rcases a x y with e | e
  · rcases b x y with f | f
    · left; simp [PH.un, e, f]
    · exact .inr f
  · exact .inr e
theorem PH.dj_un {h k m : PH} (a : m.dj h) (b : m.dj k) : m.dj (h.un k) := PH.dj_symm (PH.un_dj (PH.dj_symm a) (PH.dj_symm b))
theorem PH.un_ne {h k : PH} {b o : Nat} (e : (h.un k) b o ≠ none) : h b o ≠ none ∨ k b o ≠ none := by
  cases hx : h b o with
  | some u => exact .inl (by simp)
  | none => right; simpa [PH.un, hx] using e

theorem Fit.emp (w : World) : Fit PH.emp w := fun _ _ _ e => by cases e
theorem Fit.le {h k : PH} {w : World} (f : Fit k w) (l : h.le k) : Fit h w := fun b o v e => f b o v (l b o v e)
theorem Fit.un {h k : PH} {w : World} (f : Fit h w) (g : Fit k w) : Fit (h.un k) w := fun b o v e => by
  cases hx : h b o with
  | some u => simp [PH.un, hx] at e; subst e; exact f _ _ _ hx
  | none => simp [PH.un, hx] at e; exact g _ _ _ e
theorem Fit.lt {h : PH} {w : World} (f : Fit h w) {b o : Nat} (e : h b o ≠ none) : b < w.heap.size := by
  cases hx : h b o with
  | none => exact absurd hx e
  | some v => exact World.block_lt_of_cell? w _ (f b o v hx).1

/-! ### How a world may change -/
/-- one block: as it was, or a row of cells of the same shape in which only the places of D may have turned -/
def BKeep (D : Nat → Prop) (o o' : Option Obj) : Prop :=
  o' = o ∨ ∃ c c' T fr, o = some (.cells c T fr) ∧ o' = some (.cells c' T fr) ∧ c'.size = c.size ∧ ∀ j, ¬ D j → c'[j]? = c[j]?
structure Keep (D : Nat → Nat → Prop) (w w' : World) : Prop where
  os : w'.os = w.os
  tape : w'.tape = w.tape
  output : w'.output = w.output
  size : w.heap.size ≤ w'.heap.size
  block : ∀ b, b < w.heap.size → BKeep (D b) w.heap[b]? w'.heap[b]?

theorem BKeep.refl (D : Nat → Prop) (o : Option Obj) : BKeep D o o := .inl rfl
theorem BKeep.mono {D E : Nat → Prop} {o o' : Option Obj} (h : BKeep D o o') (l : ∀ j, D j → E j) : BKeep E o o' := by
  rcases h with h | ⟨c, c', T, fr, h1, h2, h3, h4⟩
  · exact .inl h
  · exact .inr ⟨c, c', T, fr, h1, h2, h3, fun j hj => h4 j fun x => hj (l j x)⟩
theorem BKeep.trans {D : Nat → Prop} {a b c : Option Obj} (h : BKeep D a b) (k : BKeep D b c) : BKeep D a c := by
  rcases h with rfl | ⟨x, y, T, fr, h1, h2, h3, h4⟩
  · exact k
  · rcases k with rfl | ⟨x', y', T', fr', k1, k2, k3, k4⟩
    · exact .inr ⟨x, y, T, fr, h1, h2, h3, h4⟩
    · rw [h2] at k1
      injection k1 with k1
      injection k1 with e1 e2 e3
      subst e1; subst e2; subst e3
      exact .inr ⟨x, y', T, fr, h1, k2, k3.trans h3, fun j hj => (k4 j hj).trans (h4 j hj)⟩
def noD : Nat → Nat → Prop := fun _ _ => False
theorem Keep.refl (D : Nat → Nat → Prop) (w : World) : Keep D w w := ⟨rfl, rfl, rfl, Nat.le_refl _, fun _ _ => .inl rfl⟩
theorem Keep.mono {D E : Nat → Nat → Prop} {w w' : World} (h : Keep D w w') (l : ∀ b, b < w.heap.size → ∀ j, D b j → E b j) : Keep E w w' :=
  ⟨h.os, h.tape, h.output, h.size, fun b hb => (h.block b hb).mono (l b hb)⟩
/-- two steps: what the second may turn is among what the first may, or was not there -/
theorem Keep.trans {D E : Nat → Nat → Prop} {a b c : World} (h : Keep D a b) (k : Keep E b c) (l : ∀ x y, E x y → D x y ∨ a.heap.size ≤ x) : Keep D a c :=
  ⟨k.os.trans h.os, k.tape.trans h.tape, k.output.trans h.output, Nat.le_trans h.size k.size, fun x hx => (h.block x hx).trans ((k.block x (Nat.lt_of_lt_of_le hx h.size)).mono fun j hj => (l x j hj).resolve_right (by omega))⟩
theorem Keep.of_below {w w' : World} (h : Below w.heap.size w w') (D : Nat → Nat → Prop) : Keep D w w' :=
  ⟨h.os, h.tape, h.output, h.size, fun b hb => .inl (h.block b hb)⟩
theorem Keep.below {w w' : World} (h : Keep noD w w') : Below w.heap.size w w' := by
  refine ⟨h.os, h.tape, h.output, h.size, fun b hb => ?_⟩
  rcases h.block b hb with e | ⟨c, c', T, fr, h1, h2, h3, h4⟩
  · exact e
  · have : c' = c := Array.ext_getElem? fun j => h4 j id
    rw [h1, h2, this]
theorem Keep.drew (w : World) : Keep noD w { w with drawn := w.drawn + 1 } := ⟨rfl, rfl, rfl, Nat.le_refl _, fun _ _ => .inl rfl⟩
theorem Keep.cell {D : Nat → Nat → Prop} {w w' : World} (h : Keep D w w') {b o : Nat} {v : Value} (c : w.cell? ⟨b, o, none⟩ = some v) (f : w.frozen? ⟨b, o, none⟩ = false) (n : ¬ D b o) :
    w'.cell? ⟨b, o, none⟩ = some v ∧ w'.frozen? ⟨b, o, none⟩ = false := by
  have hb := World.block_lt_of_cell? w _ c
  rcases h.block b hb with e | ⟨x, y, T, fr, h1, h2, h3, h4⟩
  · simp only [World.cell?, World.frozen?, e] at c f ⊢
    exact ⟨c, f⟩
  · simp only [World.cell?, World.frozen?, h1, h2] at c f ⊢
    refine ⟨?_, f⟩
    simp at c ⊢
    rw [h4 o n]; exact c
theorem Fit.keep {h : PH} {D : Nat → Nat → Prop} {w w' : World} (f : Fit h w) (k : Keep D w w') (n : ∀ b o, h b o ≠ none → ¬ D b o) : Fit h w' := fun b o v e =>
  k.cell (f b o v e).1 (f b o v e).2 (n b o (by rw [e]; simp))
theorem Fit.ext {h : PH} {w w' : World} (f : Fit h w) (k : Below w.heap.size w w') : Fit h w' := f.keep (Keep.of_below k noD) fun _ _ _ x => x

/-! ### New blocks and stores -/
/-- the part of memory that a new row of cells is -/
def PH.row (b : Nat) (off : Nat) (l : List Value) : PH := fun x y => if x = b ∧ off ≤ y then l[y - off]? else none
theorem PH.row_ne {b off : Nat} {l : List Value} {x y : Nat} (h : PH.row b off l x y ≠ none) : x = b := by
  unfold PH.row at h
  split at h
  · rename_i hx; exact hx.1
  · exact absurd rfl h
theorem PH.row_at {b off : Nat} {l : List Value} (j : Nat) : PH.row b off l b (off + j) = l[j]? := by simp [PH.row]
theorem alloc_cell (w : World) (c : Array Value) (T : TypeId) (o : Nat) : (w.alloc (.cells c T)).cell? ⟨w.heap.size, o, none⟩ = c[o]? := by
  show (match (w.heap.push (.cells c T))[w.heap.size]? with | some (.cells c _ _) => if (none : Option Nat).isSome then none else c[o]? | _ => none) = c[o]?
  rw [Array.getElem?_push_size]
  rfl
theorem alloc_frozen (w : World) (c : Array Value) (T : TypeId) (o : Nat) : (w.alloc (.cells c T)).frozen? ⟨w.heap.size, o, none⟩ = false := by
  show (match (w.heap.push (.cells c T))[w.heap.size]? with | some (.cells _ _ (lo, hi)) => decide (lo ≤ o) && decide (o < hi) | _ => false) = false
  rw [Array.getElem?_push_size]
  simp
theorem Fit.alloc (w : World) (c : List Value) (T : TypeId) : Fit (PH.row w.heap.size 0 c) (w.alloc (.cells c.toArray T)) := by
  intro b o v e
  have hb := PH.row_ne (by rw [e]; simp : PH.row w.heap.size 0 c b o ≠ none)
  subst hb
  have : PH.row w.heap.size 0 c w.heap.size (0 + o) = c[o]? := PH.row_at o
  rw [Nat.zero_add] at this
  rw [this] at e
  exact ⟨by rw [alloc_cell]; simpa using e, alloc_frozen _ _ _ _⟩
theorem Keep.alloc (w : World) (o : Obj) : Keep noD w (w.alloc o) := Keep.of_below ((Below.refl _ _).alloc (Nat.le_refl _) o) noD
theorem Below.ofAlloc (w : World) (o : Obj) : Below w.heap.size w (w.alloc o) := (Below.refl _ _).alloc (Nat.le_refl _) o

def PH.upd (h : PH) (b o : Nat) (v : Value) : PH := fun x y => if x = b ∧ y = o then some v else h x y
theorem PH.upd_same (h : PH) (b o : Nat) (v : Value) : h.upd b o v b o = some v := by simp [PH.upd]
theorem PH.upd_other (h : PH) {b o x y : Nat} (v : Value) (n : ¬ (x = b ∧ y = o)) : h.upd b o v x y = h x y := by simp [PH.upd, n]
theorem setCell_cell (w : World) {b o : Nat} {u : Value} (v : Value) (c : w.cell? ⟨b, o, none⟩ = some u) : (w.setCell ⟨b, o, none⟩ v).cell? ⟨b, o, none⟩ = some v := by
  have hb := World.block_lt_of_cell? w _ c
  simp only [World.cell?] at c
  simp only [World.cell?, World.setCell, Array.getElem?_modify, if_true]
  cases hx : w.heap[b]? with
  | none => simp [hx] at c
  | some x =>
    cases x <;> simp [hx] at c ⊢
    have := (Array.getElem?_eq_some_iff.1 c).1
    simp [this]
theorem setCell_keep (w : World) (b o : Nat) (v : Value) : Keep (fun x y => x = b ∧ y = o) w (w.setCell ⟨b, o, none⟩ v) := by
  refine ⟨rfl, rfl, rfl, by simp [World.setCell], fun x hx => ?_⟩
  simp only [World.setCell, Array.getElem?_modify]
  by_cases h : b = x
  · subst h
    rw [if_pos rfl]
    cases hy : w.heap[b]? with
    | none => left; rfl
    | some y =>
      cases y with
      | cells c T fr =>
        right
        exact ⟨c, c.setIfInBounds o v, T, fr, rfl, rfl, by simp, fun j hj => by
          have : o ≠ j := fun e => hj ⟨rfl, e.symm⟩
          simp [Array.getElem?_setIfInBounds_ne this]⟩
      | _ => left; rfl
  · rw [if_neg h]; left; rfl
theorem setCell_frozen (w : World) (b o : Nat) (v : Value) (x y : Nat) : (w.setCell ⟨b, o, none⟩ v).frozen? ⟨x, y, none⟩ = w.frozen? ⟨x, y, none⟩ := by
  simp only [World.frozen?, World.setCell, Array.getElem?_modify]
  by_cases h : b = x
  · subst h
    rw [if_pos rfl]
    cases hy : w.heap[b]? with
    | none => rfl
    | some z => cases z <;> rfl
  · rw [if_neg h]
theorem Fit.upd {h : PH} {w : World} (f : Fit h w) {b o : Nat} {u : Value} (e : h b o = some u) (v : Value) : Fit (h.upd b o v) (w.setCell ⟨b, o, none⟩ v) := by
  intro x y z hz
  by_cases hxy : x = b ∧ y = o
  · obtain ⟨rfl, rfl⟩ := hxy
    rw [PH.upd_same] at hz
    injection hz with hz
    subst hz
    exact ⟨setCell_cell w v (f x y u e).1, by rw [setCell_frozen]; exact (f x y u e).2⟩
  · rw [PH.upd_other _ _ hxy] at hz
    exact (setCell_keep w b o v).cell (f x y z hz).1 (f x y z hz).2 hxy

end Go.Proofs.YtiegllklalplnaaGreat
