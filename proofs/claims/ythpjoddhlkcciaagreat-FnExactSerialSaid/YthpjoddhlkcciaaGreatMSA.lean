/-
  Part A of what the claim leans on: memory, data, walks through the program, plain laws.
-/
import Derived.WalkKit
import Derived.KernelRfl
import Derived.Deep.LoopGhost
namespace Go.Proofs.YthpjoddhlkcciaaGreat
open Go Go.RowKit
set_option linter.unusedVariables false
set_option linter.unusedSimpArgs false
section
abbrev PH := Nat → Nat → Option Value
def PH.le (h k : PH) : Prop := ∀ b o v, h b o = some v → k b o = some v
def PH.dj (h k : PH) : Prop := ∀ b o, h b o = none ∨ k b o = none
def PH.emp : PH := fun _ _ => none
def PH.un (h k : PH) : PH := fun b o => match h b o with
  | some v => some v
  | none => k b o
def Fit (h : PH) (w : World) : Prop := ∀ b o v, h b o = some v → w.cell? ⟨b, o, none⟩ = some v ∧ w.frozen? ⟨b, o, none⟩ = false
theorem PH.le_refl (h : PH) : h.le h := fun _ _ _ e => e
theorem PH.le_trans {a b c : PH} (h : a.le b) (k : b.le c) : a.le c := fun x y v e => k x y v (h x y v e)
theorem PH.emp_le (h : PH) : PH.emp.le h := fun _ _ _ e => by cases e
theorem PH.dj_symm {h k : PH} (d : h.dj k) : k.dj h := fun b o => (d b o).symm
theorem PH.dj_emp (h : PH) : h.dj PH.emp := fun _ _ => .inr rfl
theorem PH.emp_dj (h : PH) : PH.emp.dj h := fun _ _ => .inl rfl
theorem PH.dj_le {h k h' k' : PH} (d : h.dj k) (l : h'.le h) (m : k'.le k) : h'.dj k' := fun b o => by
  rcases d b o with e | e
  · left
    cases x : h' b o with
    | none => rfl
    | some v => rw [l b o v x] at e; cases e
  · right
    cases x : k' b o with
    | none => rfl
    | some v => rw [m b o v x] at e; cases e
theorem PH.le_un_left (h k : PH) : h.le (h.un k) := fun b o v e => by simp [PH.un, e]
theorem PH.le_un_right {h k : PH} (d : h.dj k) : k.le (h.un k) := fun b o v e => by
  rcases d b o with x | x
  · simp [PH.un, x, e]
  · rw [x] at e; cases e
theorem PH.un_le {h k m : PH} (a : h.le m) (b : k.le m) : (h.un k).le m := fun x y v e => by
  cases hx : h x y with
  | some u => simp [PH.un, hx] at e; subst e; exact a _ _ _ hx
  | none => simp [PH.un, hx] at e; exact b _ _ _ e
theorem PH.un_dj {h k m : PH} (a : h.dj m) (b : k.dj m) : (h.un k).dj m := fun x y => by
  rcases a x y with e | e
  · rcases b x y with f | f
    · left; simp [PH.un, e, f]
    · exact .inr f
  · exact .inr e
theorem PH.dj_un {h k m : PH} (a : m.dj h) (b : m.dj k) : m.dj (h.un k) := PH.dj_symm (PH.un_dj (PH.dj_symm a) (PH.dj_symm b))
theorem PH.un_ne {h k : PH} {b o : Nat} (e : (h.un k) b o ≠ none) : h b o ≠ none ∨ k b o ≠ none := by
  cases hx : h b o with
  | some u => exact .inl (by simp)
  | none => right; simpa [PH.un, hx] using e
theorem Fit.emp (w : World) : Fit PH.emp w := fun _ _ _ e => by cases e
theorem Fit.le {h k : PH} {w : World} (f : Fit k w) (l : h.le k) : Fit h w := fun b o v e => f b o v (l b o v e)
theorem Fit.un {h k : PH} {w : World} (f : Fit h w) (g : Fit k w) : Fit (h.un k) w := fun b o v e => by
  cases hx : h b o with
  | some u => simp [PH.un, hx] at e; subst e; exact f _ _ _ hx
  | none => simp [PH.un, hx] at e; exact g _ _ _ e
theorem Fit.lt {h : PH} {w : World} (f : Fit h w) {b o : Nat} (e : h b o ≠ none) : b < w.heap.size := by
  cases hx : h b o with
  | none => exact absurd hx e
  | some v => exact World.block_lt_of_cell? w _ (f b o v hx).1
def BKeep (D : Nat → Prop) (o o' : Option Obj) : Prop :=
  o' = o ∨ ∃ c c' T fr, o = some (.cells c T fr) ∧ o' = some (.cells c' T fr) ∧ c'.size = c.size ∧ ∀ j, ¬ D j → c'[j]? = c[j]?
structure Keep (D : Nat → Nat → Prop) (w w' : World) : Prop where
  os : w'.os = w.os
  tape : w'.tape = w.tape
  output : w'.output = w.output
  size : w.heap.size ≤ w'.heap.size
  block : ∀ b, b < w.heap.size → BKeep (D b) w.heap[b]? w'.heap[b]?
theorem BKeep.refl (D : Nat → Prop) (o : Option Obj) : BKeep D o o := .inl rfl
theorem BKeep.mono {D E : Nat → Prop} {o o' : Option Obj} (h : BKeep D o o') (l : ∀ j, D j → E j) : BKeep E o o' := by
  rcases h with h | ⟨c, c', T, fr, h1, h2, h3, h4⟩
  · exact .inl h
  · exact .inr ⟨c, c', T, fr, h1, h2, h3, fun j hj => h4 j fun x => hj (l j x)⟩
theorem BKeep.trans {D : Nat → Prop} {a b c : Option Obj} (h : BKeep D a b) (k : BKeep D b c) : BKeep D a c := by
  rcases h with rfl | ⟨x, y, T, fr, h1, h2, h3, h4⟩
  · exact k
  · rcases k with rfl | ⟨x', y', T', fr', k1, k2, k3, k4⟩
    · exact .inr ⟨x, y, T, fr, h1, h2, h3, h4⟩
    · rw [h2] at k1
      injection k1 with k1
      injection k1 with e1 e2 e3
      subst e1; subst e2; subst e3
      exact .inr ⟨x, y', T, fr, h1, k2, k3.trans h3, fun j hj => (k4 j hj).trans (h4 j hj)⟩
def noD : Nat → Nat → Prop := fun _ _ => False
theorem Keep.refl (D : Nat → Nat → Prop) (w : World) : Keep D w w := ⟨rfl, rfl, rfl, Nat.le_refl _, fun _ _ => .inl rfl⟩
theorem Keep.mono {D E : Nat → Nat → Prop} {w w' : World} (h : Keep D w w') (l : ∀ b, b < w.heap.size → ∀ j, D b j → E b j) : Keep E w w' :=
  ⟨h.os, h.tape, h.output, h.size, fun b hb => (h.block b hb).mono (l b hb)⟩
theorem Keep.trans {D E : Nat → Nat → Prop} {a b c : World} (h : Keep D a b) (k : Keep E b c) (l : ∀ x y, E x y → D x y ∨ a.heap.size ≤ x) : Keep D a c :=
  ⟨k.os.trans h.os, k.tape.trans h.tape, k.output.trans h.output, Nat.le_trans h.size k.size, fun x hx => (h.block x hx).trans ((k.block x (Nat.lt_of_lt_of_le hx h.size)).mono fun j hj => (l x j hj).resolve_right (by omega))⟩
theorem Keep.of_below {w w' : World} (h : Below w.heap.size w w') (D : Nat → Nat → Prop) : Keep D w w' :=
  ⟨h.os, h.tape, h.output, h.size, fun b hb => .inl (h.block b hb)⟩
theorem Keep.below {w w' : World} (h : Keep noD w w') : Below w.heap.size w w' := by
  refine ⟨h.os, h.tape, h.output, h.size, fun b hb => ?_⟩
  rcases h.block b hb with e | ⟨c, c', T, fr, h1, h2, h3, h4⟩
  · exact e
  · have : c' = c := Array.ext_getElem? fun j => h4 j id
    rw [h1, h2, this]
theorem Keep.drew (w : World) : Keep noD w { w with drawn := w.drawn + 1 } := ⟨rfl, rfl, rfl, Nat.le_refl _, fun _ _ => .inl rfl⟩
theorem Keep.cell {D : Nat → Nat → Prop} {w w' : World} (h : Keep D w w') {b o : Nat} {v : Value} (c : w.cell? ⟨b, o, none⟩ = some v) (f : w.frozen? ⟨b, o, none⟩ = false) (n : ¬ D b o) :
    w'.cell? ⟨b, o, none⟩ = some v ∧ w'.frozen? ⟨b, o, none⟩ = false := by
  have hb := World.block_lt_of_cell? w _ c
  rcases h.block b hb with e | ⟨x, y, T, fr, h1, h2, h3, h4⟩
  · simp only [World.cell?, World.frozen?, e] at c f ⊢
    exact ⟨c, f⟩
  · simp only [World.cell?, World.frozen?, h1, h2] at c f ⊢
    refine ⟨?_, f⟩
    simp at c ⊢
    rw [h4 o n]; exact c
theorem Fit.keep {h : PH} {D : Nat → Nat → Prop} {w w' : World} (f : Fit h w) (k : Keep D w w') (n : ∀ b o, h b o ≠ none → ¬ D b o) : Fit h w' := fun b o v e =>
  k.cell (f b o v e).1 (f b o v e).2 (n b o (by rw [e]; simp))
theorem Fit.ext {h : PH} {w w' : World} (f : Fit h w) (k : Below w.heap.size w w') : Fit h w' := f.keep (Keep.of_below k noD) fun _ _ _ x => x
def PH.row (b : Nat) (off : Nat) (l : List Value) : PH := fun x y => if x = b ∧ off ≤ y then l[y - off]? else none
theorem PH.row_ne {b off : Nat} {l : List Value} {x y : Nat} (h : PH.row b off l x y ≠ none) : x = b := by
  unfold PH.row at h
  split at h
  · rename_i hx; exact hx.1
  · exact absurd rfl h
theorem PH.row_at {b off : Nat} {l : List Value} (j : Nat) : PH.row b off l b (off + j) = l[j]? := by simp [PH.row]
theorem alloc_cell (w : World) (c : Array Value) (T : TypeId) (o : Nat) : (w.alloc (.cells c T)).cell? ⟨w.heap.size, o, none⟩ = c[o]? := by
  show (match (w.heap.push (.cells c T))[w.heap.size]? with | some (.cells c _ _) => if (none : Option Nat).isSome then none else c[o]? | _ => none) = c[o]?
  rw [Array.getElem?_push_size]
  rfl
theorem alloc_frozen (w : World) (c : Array Value) (T : TypeId) (o : Nat) : (w.alloc (.cells c T)).frozen? ⟨w.heap.size, o, none⟩ = false := by
  show (match (w.heap.push (.cells c T))[w.heap.size]? with | some (.cells _ _ (lo, hi)) => decide (lo ≤ o) && decide (o < hi) | _ => false) = false
  rw [Array.getElem?_push_size]
  simp
theorem Fit.alloc (w : World) (c : List Value) (T : TypeId) : Fit (PH.row w.heap.size 0 c) (w.alloc (.cells c.toArray T)) := by
  intro b o v e
  have hb := PH.row_ne (by rw [e]; simp : PH.row w.heap.size 0 c b o ≠ none)
  subst hb
  have : PH.row w.heap.size 0 c w.heap.size (0 + o) = c[o]? := PH.row_at o
  rw [Nat.zero_add] at this
  rw [this] at e
  exact ⟨by rw [alloc_cell]; simpa using e, alloc_frozen _ _ _ _⟩
theorem Keep.alloc (w : World) (o : Obj) : Keep noD w (w.alloc o) := Keep.of_below ((Below.refl _ _).alloc (Nat.le_refl _) o) noD
theorem Below.ofAlloc (w : World) (o : Obj) : Below w.heap.size w (w.alloc o) := (Below.refl _ _).alloc (Nat.le_refl _) o
def PH.upd (h : PH) (b o : Nat) (v : Value) : PH := fun x y => if x = b ∧ y = o then some v else h x y
theorem PH.upd_same (h : PH) (b o : Nat) (v : Value) : h.upd b o v b o = some v := by simp [PH.upd]
theorem PH.upd_other (h : PH) {b o x y : Nat} (v : Value) (n : ¬ (x = b ∧ y = o)) : h.upd b o v x y = h x y := by simp [PH.upd, n]
theorem setCell_cell (w : World) {b o : Nat} {u : Value} (v : Value) (c : w.cell? ⟨b, o, none⟩ = some u) : (w.setCell ⟨b, o, none⟩ v).cell? ⟨b, o, none⟩ = some v := by
  have hb := World.block_lt_of_cell? w _ c
  simp only [World.cell?] at c
  simp only [World.cell?, World.setCell, Array.getElem?_modify, if_true]
  cases hx : w.heap[b]? with
  | none => simp [hx] at c
  | some x =>
    cases x <;> simp [hx] at c ⊢
    have := (Array.getElem?_eq_some_iff.1 c).1
    simp [this]
theorem setCell_keep (w : World) (b o : Nat) (v : Value) : Keep (fun x y => x = b ∧ y = o) w (w.setCell ⟨b, o, none⟩ v) := by
  refine ⟨rfl, rfl, rfl, by simp [World.setCell], fun x hx => ?_⟩
  simp only [World.setCell, Array.getElem?_modify]
  by_cases h : b = x
  · subst h
    rw [if_pos rfl]
    cases hy : w.heap[b]? with
    | none => left; rfl
    | some y =>
      cases y with
      | cells c T fr =>
        right
        exact ⟨c, c.setIfInBounds o v, T, fr, rfl, rfl, by simp, fun j hj => by
          have : o ≠ j := fun e => hj ⟨rfl, e.symm⟩
          simp [Array.getElem?_setIfInBounds_ne this]⟩
      | _ => left; rfl
  · rw [if_neg h]; left; rfl
theorem setCell_frozen (w : World) (b o : Nat) (v : Value) (x y : Nat) : (w.setCell ⟨b, o, none⟩ v).frozen? ⟨x, y, none⟩ = w.frozen? ⟨x, y, none⟩ := by
  simp only [World.frozen?, World.setCell, Array.getElem?_modify]
  by_cases h : b = x
  · subst h
    rw [if_pos rfl]
    cases hy : w.heap[b]? with
    | none => rfl
    | some z => cases z <;> rfl
  · rw [if_neg h]
theorem Fit.upd {h : PH} {w : World} (f : Fit h w) {b o : Nat} {u : Value} (e : h b o = some u) (v : Value) : Fit (h.upd b o v) (w.setCell ⟨b, o, none⟩ v) := by
  intro x y z hz
  by_cases hxy : x = b ∧ y = o
  · obtain ⟨rfl, rfl⟩ := hxy
    rw [PH.upd_same] at hz
    injection hz with hz
    subst hz
    exact ⟨setCell_cell w v (f x y u e).1, by rw [setCell_frozen]; exact (f x y u e).2⟩
  · rw [PH.upd_other _ _ hxy] at hz
    exact (setCell_keep w b o v).cell (f x y z hz).1 (f x y z hz).2 hxy
def EndOk (w : World) (b : Nat) : Prop := ∀ c T fr, w.heap[b]? = some (.cells c T fr) → w.frozen? ⟨b, c.size, none⟩ = false
theorem EndOk.keep {D : Nat → Nat → Prop} {w w' : World} {b : Nat} (h : EndOk w b) (k : Keep D w w') (hb : b < w.heap.size) : EndOk w' b := by
  intro c T fr e
  rcases k.block b hb with e2 | ⟨x, y, T2, fr2, h1, h2, h3, _⟩
  · rw [e2] at e
    have := h c T fr e
    simp only [World.frozen?, e2] at this ⊢
    exact this
  · rw [h2] at e
    injection e with e
    injection e with e1 e3 e4
    subst e1; subst e3; subst e4
    have := h x T2 fr2 h1
    simp only [World.frozen?, h1, h2, h3] at this ⊢
    exact this
structure FitO (h : PH) (w : World) : Prop where
  fit : Fit h w
  ends : ∀ b o, h b o ≠ none → EndOk w b
instance {h : PH} {w : World} : CoeOut (FitO h w) (Fit h w) := ⟨FitO.fit⟩
theorem FitO.emp (w : World) : FitO PH.emp w := ⟨Fit.emp w, fun _ _ e => absurd rfl e⟩
theorem PH.le_ne {h k : PH} (l : h.le k) {b o : Nat} (e : h b o ≠ none) : k b o ≠ none := by
  cases x : h b o with
  | none => exact absurd x e
  | some v => rw [l b o v x]; simp
theorem FitO.le {h k : PH} {w : World} (f : FitO k w) (l : h.le k) : FitO h w := ⟨f.fit.le l, fun b o e => f.ends b o (PH.le_ne l e)⟩
theorem FitO.un {h k : PH} {w : World} (f : FitO h w) (g : FitO k w) : FitO (h.un k) w := ⟨f.fit.un g.fit, fun b o e => (PH.un_ne e).elim (f.ends b o) (g.ends b o)⟩
theorem FitO.lt {h : PH} {w : World} (f : FitO h w) {b o : Nat} (e : h b o ≠ none) : b < w.heap.size := f.fit.lt e
theorem FitO.turn {h h' : PH} {D : Nat → Nat → Prop} {w w' : World} (f : FitO h w) (f' : Fit h' w') (k : Keep D w w') (dom : ∀ b o, h' b o ≠ none → ∃ o', h b o' ≠ none) : FitO h' w' := ⟨f', fun b o e => by
  obtain ⟨o', e'⟩ := dom b o e
  exact (f.ends b o' e').keep k (f.lt e')⟩
theorem FitO.keep {h : PH} {D : Nat → Nat → Prop} {w w' : World} (f : FitO h w) (k : Keep D w w') (n : ∀ b o, h b o ≠ none → ¬ D b o) : FitO h w' := f.turn (f.fit.keep k n) k fun _ o e => ⟨o, e⟩
theorem FitO.ext {h : PH} {w w' : World} (f : FitO h w) (k : Below w.heap.size w w') : FitO h w' := f.keep (Keep.of_below k noD) fun _ _ _ x => x
theorem EndOk.alloc (w : World) (c : Array Value) (T : TypeId) : EndOk (w.alloc (.cells c T)) w.heap.size := fun _ _ _ _ => alloc_frozen _ _ _ _
theorem FitO.alloc (w : World) (c : List Value) (T : TypeId) : FitO (PH.row w.heap.size 0 c) (w.alloc (.cells c.toArray T)) := ⟨Fit.alloc w c T, fun b o e => by
  have hb := PH.row_ne e
  subst hb
  exact EndOk.alloc _ _ _⟩
end
section
def maxL : Nat := 9223372036854775807
inductive D where
  | v (x : Value)
  | sl (sz n : Nat) (f : Nat → List D)
  | pt (l : List D) (o : Nat)
def Parts (h : PH) (b o len : Nat) (H : Nat → PH) : Prop := (∀ i, (H i).le h) ∧ (∀ i j, i ≠ j → (H i).dj (H j)) ∧ ∀ i x, o ≤ x → x < o + len → H i b x = none
mutual
def D.rd (h : PH) : D → Value → Prop
  | .v x, y => y = x
  | .sl sz n f, y => ∃ A c, y = .slice A n c ∧ n ≤ c ∧ n ≤ maxL ∧ (n = 0 ∨ ∃ b o, A = some ⟨b, o, none⟩ ∧ ∀ i, i < n → ∃ row, D.rds h (f i) row ∧ row.length = sz ∧ ∀ j, j < sz → h b (o + i * sz + j) = row[j]?)
  | .pt l o, y => ∃ b x vs, y = .pointer (some ⟨b, x + o, none⟩) ∧ D.rds h l vs ∧ ∀ j, j < vs.length → h b (x + j) = vs[j]?
def D.rds (h : PH) : List D → List Value → Prop
  | [], ys => ys = []
  | x :: r, ys => ∃ y t, ys = y :: t ∧ D.rd h x y ∧ D.rds h r t
end
mutual
def D.own (h : PH) : D → Value → Prop
  | .v x, y => y = x
  | .sl sz n f, y => ∃ A c, y = .slice A n c ∧ n ≤ c ∧ n ≤ maxL ∧ (c = 0 ∨ ∃ (b o : Nat) (row : Nat → List Value) (H : Nat → PH), A = some ⟨b, o, none⟩ ∧
      (∀ i, i < n → D.owns (H i) (f i) (row i) ∧ (row i).length = sz ∧ ∀ j, j < sz → h b (o + i * sz + j) = (row i)[j]?) ∧
      (∀ i, n ≤ i → i < c → ∀ j, j < sz → h b (o + i * sz + j) ≠ none) ∧ Parts h b o (c * sz) H)
  | .pt _ _, _ => False
def D.owns (h : PH) : List D → List Value → Prop
  | [], ys => ys = []
  | x :: r, ys => ∃ y t h1 h2, ys = y :: t ∧ h1.le h ∧ h2.le h ∧ h1.dj h2 ∧ D.own h1 x y ∧ D.owns h2 r t
end
theorem Parts.mono {h k : PH} {b o len : Nat} {H : Nat → PH} (p : Parts h b o len H) (l : h.le k) : Parts k b o len H := ⟨fun i => PH.le_trans (p.1 i) l, p.2⟩
theorem le_cell {h k : PH} (l : h.le k) {b o j sz : Nat} {row : List Value} (hl : row.length = sz) (hj : j < sz) (e : h b o = row[j]?) : k b o = row[j]? := by
  rw [List.getElem?_eq_getElem (by omega)] at e ⊢
  exact l _ _ _ e
theorem le_ne {h k : PH} (l : h.le k) {b o : Nat} (e : h b o ≠ none) : k b o ≠ none := by
  cases hx : h b o with
  | none => exact absurd hx e
  | some u => rw [l _ _ _ hx]; simp
mutual
theorem D.rd_mono {h k : PH} (l : h.le k) : ∀ (x : D) {y : Value}, D.rd h x y → D.rd k x y
  | .v x, y, e => e
  | .sl sz n f, y, e => by
    obtain ⟨A, c, e1, e2, e3, e4⟩ := e
    refine ⟨A, c, e1, e2, e3, e4.imp id fun ⟨b, o, e5, e6⟩ => ⟨b, o, e5, fun i hi => ?_⟩⟩
    obtain ⟨row, r1, r2, r3⟩ := e6 i hi
    exact ⟨row, D.rds_mono l (f i) r1, r2, fun j hj => le_cell l r2 hj (r3 j hj)⟩
  | .pt m o, y, e => by
    obtain ⟨b, x, vs, e1, e2, e3⟩ := e
    exact ⟨b, x, vs, e1, D.rds_mono l m e2, fun j hj => le_cell l rfl hj (e3 j hj)⟩
theorem D.rds_mono {h k : PH} (l : h.le k) : ∀ (x : List D) {y : List Value}, D.rds h x y → D.rds k x y
  | [], y, e => e
  | x :: r, y, e => by
    obtain ⟨a, t, e1, e2, e3⟩ := e
    exact ⟨a, t, e1, D.rd_mono l x e2, D.rds_mono l r e3⟩
end
mutual
theorem D.own_mono {h k : PH} (l : h.le k) : ∀ (x : D) {y : Value}, D.own h x y → D.own k x y
  | .v x, y, e => e
  | .sl sz n f, y, e => by
    obtain ⟨A, c, e1, e2, e3, e4⟩ := e
    refine ⟨A, c, e1, e2, e3, e4.imp id fun ⟨b, o, row, H, e5, e6, e7, e8⟩ => ⟨b, o, row, H, e5, fun i hi => ?_, fun i hi hi2 j hj => le_ne l (e7 i hi hi2 j hj), e8.mono l⟩⟩
    obtain ⟨r1, r2, r3⟩ := e6 i hi
    exact ⟨r1, r2, fun j hj => le_cell l r2 hj (r3 j hj)⟩
  | .pt m o, y, e => e.elim
theorem D.owns_mono {h k : PH} (l : h.le k) : ∀ (x : List D) {y : List Value}, D.owns h x y → D.owns k x y
  | [], y, e => e
  | x :: r, y, e => by
    obtain ⟨a, t, h1, h2, e1, e2, e3, e4, e5, e6⟩ := e
    exact ⟨a, t, h1, h2, e1, PH.le_trans e2 l, PH.le_trans e3 l, e4, e5, e6⟩
end
mutual
theorem D.own_rd {h : PH} : ∀ (x : D) {y : Value}, D.own h x y → D.rd h x y
  | .v x, y, e => e
  | .sl sz n f, y, e => by
    obtain ⟨A, c, e1, e2, e3, e4⟩ := e
    refine ⟨A, c, e1, e2, e3, ?_⟩
    rcases e4 with rfl | ⟨b, o, row, H, e5, e6, e7, e8⟩
    · exact .inl (by omega)
    · refine .inr ⟨b, o, e5, fun i hi => ?_⟩
      obtain ⟨r1, r2, r3⟩ := e6 i hi
      exact ⟨row i, D.rds_mono (e8.1 i) (f i) (D.owns_rds (f i) r1), r2, r3⟩
  | .pt m o, y, e => e.elim
theorem D.owns_rds {h : PH} : ∀ (x : List D) {y : List Value}, D.owns h x y → D.rds h x y
  | [], y, e => e
  | x :: r, y, e => by
    obtain ⟨a, t, h1, h2, e1, e2, e3, e4, e5, e6⟩ := e
    exact ⟨a, t, e1, D.rd_mono e2 x (D.own_rd x e5), D.rds_mono e3 r (D.owns_rds r e6)⟩
end
theorem D.rds_length {h : PH} : ∀ {x : List D} {y : List Value}, D.rds h x y → y.length = x.length
  | [], y, e => by have e : y = [] := e; rw [e]; rfl
  | x :: r, y, e => by
    obtain ⟨a, t, e1, e2, e3⟩ := e
    rw [e1, List.length_cons, List.length_cons, D.rds_length e3]
theorem D.owns_length {h : PH} {x : List D} {y : List Value} (e : D.owns h x y) : y.length = x.length := D.rds_length (D.owns_rds x e)
inductive Tg where
  | o | r
  | k (n : Nat)
inductive V where
  | v (x : Value)
  | s (q : Tg) (sz n : Nat) (f : Nat → List D)
  | g (k : Nat)
  | p (k o : Nat)
  | pe (k sz : Nat) (i : Int) (o : Nat)
  | sb (k sz : Nat) (lo hi : Int)
  | gl (k n c : Nat)
  | rp (q : Tg) (l : List D) (o : Nat)
  | any
abbrev BE := Nat → Value
def oneV : Value → Bool
  | .agg _ => false
  | .tuple _ => false
  | _ => true
def addP : Value → Nat → Value
  | .pointer (some a), o => .pointer (some (a.add o))
  | x, _ => x
def elP (x : Value) (sz : Nat) (i : Int) (o : Nat) : Value := match x with
  | .slice A _ _ => .pointer (some (((A.getD ⟨0, 0, none⟩).add (i.toNat * sz)).add o))
  | x => x
def sbV (x : Value) (sz lo n : Nat) : Value := match x with
  | .slice A _ c => .slice (if c = lo then A else A.map (·.add (lo * sz))) n (c - lo)
  | x => x
def D.toV (q : Tg) : D → V
  | .v x => .v x
  | .sl sz n f => .s q sz n f
  | .pt l o => .rp q l o
def Zf (r : PH) (H : Nat → PH) : Tg → PH
  | .k n => H n
  | _ => r
def V.rel (B : BE) (Z : Tg → PH) : V → Value → Prop
  | .v x, y => y = x
  | .s q sz n f, y => D.rd (Z q) (.sl sz n f) y
  | .g k, y => y = B k ∧ oneV y = true
  | .p k o, y => y = addP (B k) o ∧ oneV y = true
  | .pe k sz i o, y => y = elP (B k) sz i o ∧ oneV y = true
  | .sb k sz lo hi, y => y = sbV (B k) sz lo.toNat (hi - lo).toNat ∧ oneV y = true
  | .gl k n c, y => y = B k ∧ oneV y = true ∧ ∃ A, y = .slice A n c
  | .rp q l o, y => ∃ b x vs, y = .pointer (some ⟨b, x + o, none⟩) ∧ D.rds (Z q) l vs ∧ ∀ j, j < vs.length → Z q b (x + j) = vs[j]?
  | .any, _ => True
def V.rels (B : BE) (Z : Tg → PH) : List V → List Value → Prop
  | [], ys => ys = []
  | x :: r, ys => ∃ y t, ys = y :: t ∧ x.rel B Z y ∧ V.rels B Z r t
def V.own (B : BE) (r h : PH) : V → Value → Prop
  | .v x, y => y = x
  | .s q sz n f, y => (q = .o ∧ D.own h (.sl sz n f) y) ∨ (q = .r ∧ D.rd r (.sl sz n f) y)
  | .g k, y => y = B k ∧ oneV y = true
  | .p k o, y => y = addP (B k) o ∧ oneV y = true
  | .pe k sz i o, y => y = elP (B k) sz i o ∧ oneV y = true
  | .sb k sz lo hi, y => y = sbV (B k) sz lo.toNat (hi - lo).toNat ∧ oneV y = true
  | .gl k n c, y => y = B k ∧ oneV y = true ∧ ∃ A, y = .slice A n c
  | .rp q l o, y => q = .r ∧ D.rd r (.pt l o) y
  | .any, _ => True
def V.owns (B : BE) (r h : PH) : List V → List Value → Prop
  | [], ys => ys = []
  | x :: l, ys => ∃ y t h1 h2, ys = y :: t ∧ h1.le h ∧ h2.le h ∧ h1.dj h2 ∧ x.own B r h1 y ∧ V.owns B r h2 l t
theorem V.rel_mono {B : BE} {Z Z' : Tg → PH} (l : ∀ q, (Z q).le (Z' q)) : ∀ {x : V} {y : Value}, x.rel B Z y → x.rel B Z' y
  | .v _, _, e => e
  | .s q sz n f, _, e => D.rd_mono (l q) (.sl sz n f) e
  | .g _, _, e => e
  | .p _ _, _, e => e
  | .pe _ _ _ _, _, e => e
  | .sb _ _ _ _, _, e => e
  | .gl _ _ _, _, e => e
  | .rp q m o, y, e => by
    obtain ⟨b, x, vs, e1, e2, e3⟩ := e
    exact ⟨b, x, vs, e1, D.rds_mono (l q) m e2, fun j hj => le_cell (l q) rfl hj (e3 j hj)⟩
  | .any, _, _ => trivial
theorem V.rels_mono {B : BE} {Z Z' : Tg → PH} (l : ∀ q, (Z q).le (Z' q)) : ∀ {x : List V} {y : List Value}, V.rels B Z x y → V.rels B Z' x y
  | [], _, e => e
  | x :: r, _, e => by
    obtain ⟨a, t, e1, e2, e3⟩ := e
    exact ⟨a, t, e1, V.rel_mono l e2, V.rels_mono l e3⟩
theorem V.own_mono {B : BE} {r r' h h' : PH} (lr : r.le r') (l : h.le h') : ∀ {x : V} {y : Value}, x.own B r h y → x.own B r' h' y
  | .v _, _, e => e
  | .s q sz n f, _, e => by
    rcases e with ⟨e1, e2⟩ | ⟨e1, e2⟩
    · exact .inl ⟨e1, D.own_mono l (.sl sz n f) e2⟩
    · exact .inr ⟨e1, D.rd_mono lr (.sl sz n f) e2⟩
  | .g _, _, e => e
  | .p _ _, _, e => e
  | .pe _ _ _ _, _, e => e
  | .sb _ _ _ _, _, e => e
  | .gl _ _ _, _, e => e
  | .rp q m o, _, e => ⟨e.1, D.rd_mono lr (.pt m o) e.2⟩
  | .any, _, _ => trivial
theorem V.owns_mono {B : BE} {r r' : PH} (lr : r.le r') : ∀ {x : List V} {y : List Value} {h h' : PH}, h.le h' → V.owns B r h x y → V.owns B r' h' x y
  | [], _, _, _, _, e => e
  | x :: m, _, _, _, l, e => by
    obtain ⟨a, t, h1, h2, e1, e2, e3, e4, e5, e6⟩ := e
    exact ⟨a, t, h1, h2, e1, PH.le_trans e2 l, PH.le_trans e3 l, e4, V.own_mono lr (PH.le_refl _) e5, V.owns_mono lr (PH.le_refl _) e6⟩
theorem V.rels_length {B : BE} {Z : Tg → PH} : ∀ {x : List V} {y : List Value}, V.rels B Z x y → y.length = x.length
  | [], y, e => by have e : y = [] := e; rw [e]; rfl
  | x :: r, y, e => by
    obtain ⟨a, t, e1, e2, e3⟩ := e
    rw [e1, List.length_cons, List.length_cons, V.rels_length e3]
theorem V.owns_length {B : BE} {r : PH} : ∀ {x : List V} {y : List Value} {h : PH}, V.owns B r h x y → y.length = x.length
  | [], y, _, e => by have e : y = [] := e; rw [e]; rfl
  | x :: l, y, _, e => by
    obtain ⟨a, t, h1, h2, e1, _, _, _, _, e6⟩ := e
    rw [e1, List.length_cons, List.length_cons, V.owns_length e6]
theorem V.rels_get {B : BE} {Z : Tg → PH} : ∀ {x : List V} {y : List Value}, V.rels B Z x y → ∀ {j : Nat} {u : V}, x[j]? = some u → ∃ t, y[j]? = some t ∧ u.rel B Z t
  | [], _, _, j, u, h => by simp at h
  | x :: r, y, e, j, u, h => by
    obtain ⟨a, t, rfl, e2, e3⟩ := e
    cases j with
    | zero => simp at h; subst h; exact ⟨a, rfl, e2⟩
    | succ j => simp at h; simpa using V.rels_get e3 h
theorem V.rels_append {B : BE} {Z : Tg → PH} : ∀ {x x' : List V} {y y' : List Value}, V.rels B Z x y → V.rels B Z x' y' → V.rels B Z (x ++ x') (y ++ y')
  | [], _, _, _, e, k => by have e : _ = [] := e; subst e; exact k
  | x :: r, _, _, _, e, k => by
    obtain ⟨a, t, rfl, e2, e3⟩ := e
    exact ⟨a, t ++ _, rfl, e2, V.rels_append e3 k⟩
def V.tag (q : Tg) : V → V
  | .s .o sz n f => .s q sz n f
  | x => x
theorem V.own_rel {B : BE} {r : PH} {Z : Tg → PH} {q : Tg} {h : PH} (h0 : r.le (Z .r)) (hq : h.le (Z q)) : ∀ {x : V} {y : Value}, x.own B r h y → (x.tag q).rel B Z y
  | .v _, _, e => e
  | .s .o sz n f, _, e => by
    rcases e with ⟨_, e2⟩ | ⟨e1, _⟩
    · exact D.rd_mono hq (.sl sz n f) (D.own_rd (.sl sz n f) e2)
    · cases e1
  | .s .r sz n f, _, e => by
    rcases e with ⟨e1, _⟩ | ⟨e1, e2⟩
    · cases e1
    · exact D.rd_mono h0 (.sl sz n f) e2
  | .s (.k j) sz n f, _, e => by
    rcases e with ⟨e1, _⟩ | ⟨e1, _⟩ <;> cases e1
  | .g _, _, e => e
  | .p _ _, _, e => e
  | .pe _ _ _ _, _, e => e
  | .sb _ _ _ _, _, e => e
  | .gl _ _ _, _, e => e
  | .rp q m o, _, e => by
    obtain ⟨rfl, e⟩ := e
    exact D.rd_mono h0 (.pt m o) e
  | .any, _, _ => trivial
theorem D.rd_toV {B : BE} {Z : Tg → PH} {q : Tg} : ∀ {x : D} {y : Value}, D.rd (Z q) x y → (x.toV q).rel B Z y
  | .v _, _, e => e
  | .sl _ _ _, _, e => e
  | .pt _ _, _, e => e
theorem D.rds_toV {B : BE} {Z : Tg → PH} {q : Tg} : ∀ {x : List D} {y : List Value}, D.rds (Z q) x y → V.rels B Z (x.map (D.toV q)) y
  | [], _, e => e
  | x :: r, y, e => by
    obtain ⟨a, t, rfl, e2, e3⟩ := e
    exact ⟨a, t, rfl, D.rd_toV e2, D.rds_toV e3⟩
theorem D.owns_toV {B : BE} {r : PH} : ∀ {x : List D} {y : List Value} {h : PH}, D.owns h x y → V.owns B r h (x.map (D.toV .o)) y
  | [], _, _, e => e
  | .v x :: l, y, _, e => by
    obtain ⟨a, t, h1, h2, e1, e2, e3, e4, e5, e6⟩ := e
    exact ⟨a, t, h1, h2, e1, e2, e3, e4, e5, D.owns_toV e6⟩
  | .sl sz n f :: l, y, _, e => by
    obtain ⟨a, t, h1, h2, e1, e2, e3, e4, e5, e6⟩ := e
    exact ⟨a, t, h1, h2, e1, e2, e3, e4, .inl ⟨rfl, e5⟩, D.owns_toV e6⟩
  | .pt m o :: l, y, _, e => by
    obtain ⟨a, t, h1, h2, e1, e2, e3, e4, e5, e6⟩ := e
    exact e5.elim
inductive RD where
  | a (x : D)
  | ag (l : List D)
def RD.rel (h : PH) : RD → Value → Prop
  | .a x, y => D.rd h x y
  | .ag l, y => ∃ vs, y = .agg vs.toArray ∧ D.rds h l vs
def RD.rels (h : PH) : List RD → List Value → Prop
  | [], ys => ys = []
  | x :: r, ys => ∃ y t, ys = y :: t ∧ x.rel h y ∧ RD.rels h r t
inductive SV where
  | a (x : V)
  | ag (l : List V)
  | fn (f : Nat) (l : List V)
  | fb (φ : List RD → Value → Prop)
  | tu (l : List SV)
  | un
def FB (P : Program) (r : PH) (f : Nat) (caps : List Value) (φ : List RD → Value → Prop) : Prop :=
  (∀ args w, (callFunc f args).run P w = .ok (.enter f args) w) ∧ ∀ args x, φ args x → ∀ (w : World) (h : PH) (vals : List Value), r.le h → Fit h w → RD.rels h args vals → Calls P f (vals ++ caps).toArray w fun e w' => e = .returned x ∧ Below w.heap.size w w'
mutual
def SV.rel (P : Program) (B : BE) (Z : Tg → PH) : SV → Value → Prop
  | .a x, y => x.rel B Z y
  | .ag l, y => ∃ vs, y = .agg vs.toArray ∧ V.rels B Z l vs
  | .fn f l, y => ∃ vs, y = .func (.func f) #[] vs.toArray ∧ V.rels B Z l vs
  | .fb φ, y => ∃ f vs, y = .func (.func f) #[] vs.toArray ∧ FB P (Z .r) f vs φ
  | .tu l, y => ∃ vs, y = .tuple vs.toArray ∧ SV.rels P B Z l vs
  | .un, y => y = undef
def SV.rels (P : Program) (B : BE) (Z : Tg → PH) : List SV → List Value → Prop
  | [], ys => ys = []
  | x :: r, ys => ∃ y t, ys = y :: t ∧ SV.rel P B Z x y ∧ SV.rels P B Z r t
end
theorem FB.mono {P : Program} {r r' : PH} {f : Nat} {caps : List Value} {φ : List RD → Value → Prop} (h : FB P r f caps φ) (l : r.le r') : FB P r' f caps φ :=
  ⟨h.1, fun args x e w k vals l' => h.2 args x e w k vals (PH.le_trans l l')⟩
mutual
theorem SV.rel_mono {P : Program} {B : BE} {Z Z' : Tg → PH} (l : ∀ q, (Z q).le (Z' q)) : ∀ (x : SV) {y : Value}, SV.rel P B Z x y → SV.rel P B Z' x y
  | .a x, _, e => V.rel_mono l e
  | .ag m, _, e => by obtain ⟨vs, e1, e2⟩ := e; exact ⟨vs, e1, V.rels_mono l e2⟩
  | .fn f m, _, e => by obtain ⟨vs, e1, e2⟩ := e; exact ⟨vs, e1, V.rels_mono l e2⟩
  | .fb φ, _, e => by obtain ⟨f, vs, e1, e2⟩ := e; exact ⟨f, vs, e1, e2.mono (l .r)⟩
  | .tu m, _, e => by obtain ⟨vs, e1, e2⟩ := e; exact ⟨vs, e1, SV.rels_mono l m e2⟩
  | .un, _, e => e
theorem SV.rels_mono {P : Program} {B : BE} {Z Z' : Tg → PH} (l : ∀ q, (Z q).le (Z' q)) : ∀ (x : List SV) {y : List Value}, SV.rels P B Z x y → SV.rels P B Z' x y
  | [], _, e => e
  | x :: r, _, e => by
    obtain ⟨a, t, e1, e2, e3⟩ := e
    exact ⟨a, t, e1, SV.rel_mono l x e2, SV.rels_mono l r e3⟩
end
theorem SV.rels_length {P : Program} {B : BE} {Z : Tg → PH} : ∀ {x : List SV} {y : List Value}, SV.rels P B Z x y → y.length = x.length
  | [], y, e => by have e : y = [] := e; rw [e]; rfl
  | x :: r, y, e => by
    obtain ⟨a, t, e1, e2, e3⟩ := e
    rw [e1, List.length_cons, List.length_cons, SV.rels_length e3]
theorem SV.rels_get {P : Program} {B : BE} {Z : Tg → PH} : ∀ {x : List SV} {y : List Value}, SV.rels P B Z x y → ∀ {j : Nat} {u : SV}, x[j]? = some u → ∃ t, y[j]? = some t ∧ u.rel P B Z t
  | [], _, _, j, u, h => by simp at h
  | x :: r, y, e, j, u, h => by
    obtain ⟨a, t, rfl, e2, e3⟩ := e
    cases j with
    | zero => simp at h; subst h; exact ⟨a, rfl, e2⟩
    | succ j => simp at h; simpa using SV.rels_get e3 h
end
section
inductive Ch where
  | row (l : List V)
  | arr (sz n : Nat) (f : Nat → List D)
  | hole (sz n : Nat) (f : Nat → List D) (i : Int) (k2 : Nat)
  | ro (sz n : Nat) (f : Nat → List D)
  | rrow (l : List V)
  | rd (sz n : Nat) (f : Nat → List D)
  | rw (P : PH → Prop)
inductive TK where
  | sc | bo | ptr | str | ifc
  | it (k : IntKind)
  | st (l : List (Nat × Nat))
  | slc (e : Nat)
  | ar (n e : Nat)
structure TI where
  id : Nat
  sz : Nat
  by_ : Nat
  kind : TK
  zero : Value
  eqf : Bool
def shapeK : TypeDesc → TK
  | .struct fs => .st (fs.toList.map fun f => (f.offset, f.type))
  | .slice e => .slc e
  | .array n e => .ar n e
  | .bool => .bo
  | .pointer _ => .ptr
  | .string => .str
  | .int k => .it k
  | .interface _ => .ifc
  | _ => .sc
def eqPlain (P : Program) (t : TypeId) : Bool := match P.underlying t with
  | some (.struct fs) => !P.stoodInHeld t && !P.eqGuardType P.depth t && fs.all fun f => f.name != "_"
  | _ => false
def TI.ok (P : Program) (ti : TI) : Prop :=
  (P.underlying ti.id).map shapeK = some ti.kind ∧ (P.info? ti.id).map (fun i => (i.size, i.bytes)) = some (ti.sz, ti.by_) ∧ (P.info? ti.id).bind (·.zero) = some ti.zero ∧ (ti.eqf = true → eqPlain P ti.id = true)
def TOk (P : Program) : List TI → Prop
  | [] => True
  | t :: r => t.ok P ∧ TOk P r
abbrev Fr := List (Nat × SV)
abbrev GF := List (Nat × Nat × Bool × SV)
abbrev Mu := List (Nat × Ch)
def mlk {α : Type} (k : Nat) : List (Nat × α) → Option α
  | [] => none
  | (j, c) :: r => bif Nat.beq j k then some c else mlk k r
def tlk (t : Nat) : List TI → Option TI
  | [] => none
  | e :: r => bif Nat.beq e.id t then some e else tlk t r
def glk (t : Nat) : GF → Option (Nat × Bool × SV)
  | [] => none
  | (j, c) :: r => bif Nat.beq j t then some c else glk t r
def gdrop (t : Nat) : GF → Option GF
  | [] => some []
  | (j, d, w, x) :: r => match gdrop t r with
    | some l => bif (Nat.beq j t || Nat.beq d t) then some l else some ((j, d, w, x) :: l)
    | none => none
def layD (q : Tg) : List D → Option (List V)
  | [] => some []
  | x :: r => match layD q r with
    | some l => match x with
      | .v y => some (.v y :: l)
      | .sl sz n f => some (.s q sz n f :: l)
      | .pt m o => some (.rp q m o :: l)
    | none => none
def layV : List Value → Option (List V)
  | [] => some []
  | x :: r => match layV r with
    | some l => some (.v x :: l)
    | none => none
def layT (q : Tg) : List V → Option (List V)
  | [] => some []
  | x :: r => match layT q r with
    | some l => match x with
      | .s .o sz n f => some (.s q sz n f :: l)
      | .any => none
      | y => some (y :: l)
    | none => none
abbrev Gd := List (Nat × Bool)
def gHas (d : Nat) (w : Bool) : Gd → Bool
  | [] => false
  | (d', w') :: r => bif (Nat.beq d' d && (w' == w)) then true else gHas d w r
def ev (g : Gd) (fr : Fr) (gf : GF) : Operand → Option SV
  | .tmp t => match glk t gf with
    | some (d, w, x) => bif gHas d w g then some x else none
    | none => mlk t fr
  | .const c => some (.a (.v c))
  | .func f => some (.fn f [])
  | .global _ => none
def evs (g : Gd) (fr : Fr) (gf : GF) : List Operand → Option (List SV)
  | [] => some []
  | x :: r => match ev g fr gf x, evs g fr gf r with
    | some y, some l => some (y :: l)
    | _, _ => none
def InR (x : Int) : Prop := -9223372036854775808 ≤ x ∧ x ≤ 9223372036854775807
def andI (x y : Int) : Int := IntKind.i64.wrap ((BitVec.ofInt 64 x &&& BitVec.ofInt 64 y).toNat)
def orI (x y : Int) : Int := IntKind.i64.wrap ((BitVec.ofInt 64 x ||| BitVec.ofInt 64 y).toNat)
def xorI (x y : Int) : Int := IntKind.i64.wrap ((BitVec.ofInt 64 x ^^^ BitVec.ofInt 64 y).toNat)
def anI (x y : Int) : Int := IntKind.i64.wrap ((BitVec.ofInt 64 x &&& ~~~ (BitVec.ofInt 64 y)).toNat)
def wr64 (x : Int) : Int := IntKind.i64.wrap x
inductive OB where
  | e (p : Prop)
  | o (p : Prop)
def OB.p : OB → Prop
  | .e p => p
  | .o p => p
abbrev Ob := List OB
def Alls : Ob → Prop
  | [] => True
  | x :: r => x.p ∧ Alls r
inductive GO where
  | t (p : Prop)
  | g (b w : Bool) (r : GO)
def GO.p : GO → Prop
  | .t p => p
  | .g b w r => b = w → r.p
def GAlls : List GO → Prop
  | [] => True
  | x :: r => x.p ∧ GAlls r
def PAlls : List Prop → Prop
  | [] => True
  | x :: r => x ∧ PAlls r
def cmpI (o : BinOp) (x y : Int) : Option Bool :=
  match o with
  | .eql => some (x == y)
  | .neq => some (x != y)
  | .lss => some (decide (x < y))
  | .leq => some (decide (x ≤ y))
  | .gtr => some (decide (x > y))
  | .geq => some (decide (x ≥ y))
  | _ => none
def hugeI (y : Int) : Bool := match y with
  | .ofNat n => Nat.ble 1000000000000000000 n
  | .negSucc n => Nat.ble 1000000000000000000 n
def constI : Operand → Bool
  | .const (.int _ n) => hugeI n
  | _ => false
def shrI (k : IntKind) (x y : Int) : Value × Ob := match y with
  | .ofNat 1 => (.int k (x / 2), [])
  | .ofNat n => (.int k (x.fdiv (2 ^ (min n k.bits))), [])
  | .negSucc _ => (.int k 0, [.e False])
def bopI (h : Bool) (o : BinOp) (x y : Int) : Option (Value × Ob) :=
  match o with
  | .add => bif h then some (.int .i64 (wr64 (x + y)), []) else some (.int .i64 (x + y), [.o (InR (x + y))])
  | .sub => some (.int .i64 (x - y), [.o (InR (x - y))])
  | .mul => bif h then some (.int .i64 (wr64 (x * y)), []) else some (.int .i64 (x * y), [.o (InR (x * y))])
  | .quo => some (.int .i64 (x.tdiv y), [.o (y ≠ 0), .o (InR (x.tdiv y))])
  | .rem => some (.int .i64 (x.tmod y), [.o (y ≠ 0)])
  | .and => some (.int .i64 (andI x y), [])
  | .or => some (.int .i64 (orI x y), [])
  | .xor => some (.int .i64 (xorI x y), [])
  | .andNot => some (.int .i64 (anI x y), [])
  | .shr => some (shrI .i64 x y)
  | o => match cmpI o x y with
    | some b => some (.bool b, [])
    | none => none
def bopU (o : BinOp) (x y : Int) : Option (Value × Ob) :=
  match o with
  | .add => some (.int .u8 (IntKind.u8.wrap (x + y)), [])
  | .sub => some (.int .u8 (IntKind.u8.wrap (x - y)), [])
  | o => match cmpI o x y with
    | some b => some (.bool b, [])
    | none => none
def bopS (o : BinOp) (x y : ByteArray) : Option (Value × Ob) :=
  match o with
  | .add => some (.string (x ++ y), [.o (((x.size + y.size : Nat) : Int) ≤ 9223372036854775807)])
  | .eql => some (.bool (x == y), [])
  | .neq => some (.bool (!(x == y)), [])
  | _ => none
def isNilS (mu : Mu) : V → Option (Bool × Ob)
  | .v (.slice A _ _) => some (A.isNone, [])
  | _ => none
def isNilP (mu : Mu) : V → Option Bool
  | .p k _ => match mlk k mu with
    | some (.row _) => some false
    | some (.rrow _) => some false
    | _ => none
  | .rp _ _ _ => some false
  | .pe k _ _ _ => match mlk k mu with
    | some (.arr ..) => some false
    | some (.ro ..) => some false
    | some (.hole ..) => some false
    | _ => none
  | .v (.pointer A) => some A.isNone
  | _ => none
def bop (mu : Mu) (h : Bool) (k : TK) (o : BinOp) (x y : V) : Option (Value × Ob) :=
  match x, y with
  | .v (.int .i64 a), .v (.int .i64 b) => bopI h o a b
  | .v (.int .u8 a), .v (.int .u8 b) => bopU o a b
  | .v (.int .u64 a), .v (.int _ b) => match o with
    | .shr => some (shrI .u64 a b)
    | _ => none
  | .v (.int .i64 a), .v (.int .u64 b) => match o with
    | .shr => some (shrI .i64 a b)
    | _ => none
  | .v (.string a), .v (.string b) => bopS o a b
  | .v (.bool a), .v (.bool b) => match k, o with
    | .bo, .eql => some (.bool (a == b), [])
    | .bo, .neq => some (.bool (!(a == b)), [])
    | _, _ => none
  | x, .v (.slice none _ _) => match k, o, isNilS mu x with
    | .slc _, .eql, some (b, q) => some (.bool b, q)
    | .slc _, .neq, some (b, q) => some (.bool (!b), q)
    | _, _, _ => none
  | x, .v (.pointer none) => match k, o, isNilP mu x with
    | .ptr, .eql, some b => some (.bool b, [])
    | .ptr, .neq, some b => some (.bool (!b), [])
    | _, _, _ => none
  | _, _ => none
def vcellsL : Value → List V
  | .agg cs => cs.toList.map V.v
  | x => [.v x]
def vcells : Value → Option (List V)
  | .agg cs => layV cs.toList
  | x => some [.v x]
def SV.cells : SV → Option (List V)
  | .a (.v x) => vcells x
  | .a .any => none
  | .a x => some [x]
  | .ag l => some l
  | _ => none
def SV.agL : SV → Option (List V)
  | .a (.v (.agg cs)) => layV cs.toList
  | .ag l => some l
  | _ => none
def lenEq {α : Type} : List α → Nat → Bool
  | [], 0 => true
  | _ :: r, n + 1 => lenEq r n
  | _, _ => false
def nth {α : Type} : List α → Nat → Option α
  | [], _ => none
  | x :: _, 0 => some x
  | _ :: r, n + 1 => nth r n
def cut {α : Type} : List α → Nat → Nat → Option (List α)
  | _, 0, 0 => some []
  | x :: r, 0, n + 1 => match cut r 0 n with
    | some l => some (x :: l)
    | none => none
  | _ :: r, o + 1, n => cut r o n
  | [], _, _ => none
def paste {α : Type} : List α → Nat → List α → Option (List α)
  | l, 0, [] => some l
  | _ :: r, 0, y :: ys => match paste r 0 ys with
    | some l => some (y :: l)
    | none => none
  | x :: r, o + 1, ys => match paste r o ys with
    | some l => some (x :: l)
    | none => none
  | [], _, _ => none
def svOf (ag : Bool) : List V → Option SV
  | [x] => bif ag then some (.ag [x]) else some (.a x)
  | l => bif ag then some (.ag l) else none
def TI.isAg (ti : TI) : Bool := match ti.kind with
  | .st _ => true
  | .ar _ _ => true
  | _ => false
def tgB (mu : Mu) : Tg → Bool
  | .k n => match mlk n mu with
    | some _ => true
    | none => false
  | _ => true
def ld (ti : TI) (mu : Mu) : SV → Option (SV × Ob)
  | .a (.p k o) => match mlk k mu with
    | some (.row l) => match (cut l o ti.sz).bind (layT (.k k)) with
      | some l => match svOf ti.isAg l with
        | some x => some (x, [])
        | none => none
      | none => none
    | some (.rrow l) => match cut l o ti.sz with
      | some l => match svOf ti.isAg l with
        | some x => some (x, [])
        | none => none
      | none => none
    | _ => none
  | .a (.pe k sz i o) => match mlk k mu with
    | some (.arr sz' n f) => match (cut (f i.toNat) o ti.sz).bind (layD (.k k)) with
      | some l => match svOf ti.isAg l with
        | some x => some (x, [.e (sz = sz'), .o (0 ≤ i ∧ i < n)])
        | none => none
      | none => none
    | some (.ro sz' n f) => match (cut (f i.toNat) o ti.sz).bind (layD .r) with
      | some l => match svOf ti.isAg l with
        | some x => some (x, [.e (sz = sz'), .o (0 ≤ i ∧ i < n)])
        | none => none
      | none => none
    | _ => none
  | .a (.rp q l o) => bif tgB mu q then match (cut l o ti.sz).bind (layD q) with
    | some l => match svOf ti.isAg l with
      | some x => some (x, [])
      | none => none
    | none => none
    else none
  | _ => none
def fillParts (TT : List TI) (fs : List (Nat × Nat)) : List (Nat × SV) → List V → Option (List V)
  | [], l => some l
  | (i, x) :: r, l => match nth fs i, x.cells with
    | some (o, ft), some cs => match tlk ft TT with
      | some tf => bif (lenEq cs tf.sz) then match paste l o cs with
          | some l' => fillParts TT fs r l'
          | none => none
        else none
      | none => none
    | _, _ => none
def allF (TT : List TI) : List (Nat × Nat) → Bool
  | [] => true
  | (_, t) :: r => match tlk t TT with
    | some _ => allF TT r
    | none => false
def evParts (g : Gd) (fr : Fr) (gf : GF) : List (Nat × Operand) → Option (List (Nat × SV))
  | [] => some []
  | (i, x) :: r => match ev g fr gf x, evParts g fr gf r with
    | some y, some l => some ((i, y) :: l)
    | _, _ => none
def vsA : List SV → Option (List V)
  | [] => some []
  | .a x :: r => match vsA r with
    | some l => some (x :: l)
    | none => none
  | _ :: _ => none
def slR (mu : Mu) : V → Option (Tg × Nat × Nat × (Nat → List D) × Ob)
  | .s q sz n f => some (q, sz, n, f, [])
  | .g k => match mlk k mu with
    | some (.arr sz n f) => some (.k k, sz, n, f, [])
    | some (.ro sz n f) => some (.r, sz, n, f, [])
    | _ => none
  | .sb k sz lo hi => match mlk k mu with
    | some (.arr sz' n f) => some (.k k, sz, (hi - lo).toNat, fun i => f (lo.toNat + i), [.e (sz = sz'), .o (0 ≤ lo ∧ lo ≤ hi ∧ hi ≤ n)])
    | _ => none
  | _ => none
def ownA (mu : Mu) : V → Option (Nat × Nat × Nat)
  | .g k => match mlk k mu with
    | some (.arr sz n _) => some (k, sz, n)
    | _ => none
  | _ => none
def bndV (g : Gd) (fr : Fr) (gf : GF) (d : Int) : Option Operand → Option Int
  | none => some d
  | some x => match ev g fr gf x with
    | some (.a (.v (.int _ i))) => some i
    | _ => none
def eqFs (TT : List TI) (l m : List V) : List (Nat × Nat) → Option Bool
  | [] => some true
  | (o, t) :: r => match tlk t TT, nth l o, nth m o, eqFs TT l m r with
    | some ⟨_, 1, _, .it k, _, _⟩, some (.v (.int k1 a)), some (.v (.int k2 b)), some z => match k, k1, k2 with
      | .i64, .i64, .i64 => some (bif (a == b) then z else false)
      | _, _, _ => none
    | some ⟨_, 1, _, .bo, _, _⟩, some (.v (.bool a)), some (.v (.bool b)), some z => some (bif (a == b) then z else false)
    | _, _, _, _ => none
def eqSt (TT : List TI) (ti : TI) (o : BinOp) (x y : SV) : Option Value :=
  match ti.kind, x.agL, y.agL with
  | .st fs, some l, some m => bif ti.eqf then match eqFs TT l m fs, o with
      | some b, .eql => some (.bool b)
      | some b, .neq => some (.bool (!b))
      | _, _ => none
    else none
  | _, _, _ => none
def pst (TT : List TI) (fr : Fr) (gf : GF) (mu : Mu) (g : Gd) (o : Op) : Option (SV × Ob) :=
  match o with
  | .move x => match ev g fr gf x with
    | some y => some (y, [])
    | none => none
  | .assign x => match ev g fr gf x with
    | some y => some (y, [])
    | none => none
  | .pick c x y => match ev g fr gf c, c with
    | some (.a (.v (.bool b))), .tmp ct => match ev ((ct, true) :: g) fr gf x, ev ((ct, false) :: g) fr gf y with
      | some (.a (.v (.bool p))), some (.a (.v (.bool q))) => some (.a (.v (.bool (bif b then p else q))), [])
      | _, _ => none
    | _, _ => none
  | .nilCheck x => match ev g fr gf x with
    | some (.a y) => match isNilP mu y with
      | some false => some (.a y, [])
      | _ => none
    | some (.fn f l) => some (.fn f l, [])
    | some (.fb φ) => some (.fb φ, [])
    | _ => none
  | .binOp op t x y _ => match ev g fr gf x, ev g fr gf y, tlk t TT with
    | some (.a x'), some (.a y'), some ti => match bop mu (constI y) ti.kind op x' y' with
      | some (v, q) => some (.a (.v v), q)
      | none => match eqSt TT ti op (.a x') (.a y') with
        | some v => some (.a (.v v), [])
        | none => none
    | some x', some y', some ti => match eqSt TT ti op x' y' with
      | some v => some (.a (.v v), [])
      | none => none
    | _, _, _ => none
  | .unOp op _ x => match op, ev g fr gf x with
    | .not, some (.a (.v (.bool b))) => some (.a (.v (.bool (!b))), [])
    | .neg, some (.a (.v (.int .i64 x))) => some (.a (.v (.int .i64 (0 - x))), [.o (InR (0 - x))])
    | _, _ => none
  | .fieldAddr t x f => match ev g fr gf x, tlk t TT with
    | some (.a y), some ⟨_, _, _, .st fs, _, _⟩ => match nth fs f with
      | some (d, ft) => match tlk ft TT with
        | some tf => bif (Nat.beq tf.sz 0) then none else match y, isNilP mu y with
          | .p k o, some false => some (.a (.p k (o + d)), [])
          | .pe k sz i o, some false => some (.a (.pe k sz i (o + d)), [])
          | .rp q l o, some false => some (.a (.rp q l (o + d)), [])
          | _, _ => none
        | none => none
      | none => none
    | _, _ => none
  | .field t x f => match ev g fr gf x, tlk t TT with
    | some y, some ⟨_, _, _, .st fs, _, _⟩ => match y.agL, nth fs f with
      | some l, some (d, ft) => match tlk ft TT with
        | some tf => match cut l d tf.sz with
          | some l' => match svOf tf.isAg l' with
            | some z => some (z, [])
            | none => none
          | none => none
        | none => none
      | _, _ => none
    | _, _ => none
  | .indexAddr t x i => match ev g fr gf x, ev g fr gf i, tlk t TT with
    | some (.a y), some (.a (.v (.int _ j))), some ⟨_, _, _, .slc e, _, _⟩ => match tlk e TT with
      | some te => match y with
        | .s q sz n f => some (.a (.rp q (f j.toNat) 0), [.e (sz = te.sz), .o (0 ≤ j ∧ j < n)])
        | .g k => match mlk k mu with
          | some (.arr _ n _) => some (.a (.pe k te.sz j 0), [.o (0 ≤ j ∧ j < n)])
          | some (.hole _ n _ _ _) => some (.a (.pe k te.sz j 0), [.o (0 ≤ j ∧ j < n)])
          | some (.ro _ n _) => some (.a (.pe k te.sz j 0), [.o (0 ≤ j ∧ j < n)])
          | _ => none
        | .sb k sz lo hi => match mlk k mu with
          | some (.arr _ n _) => some (.a (.pe k te.sz (lo + j) 0), [.e (sz = te.sz), .o (0 ≤ j ∧ j < hi - lo), .o (0 ≤ lo ∧ hi ≤ n)])
          | _ => none
        | _ => none
      | none => none
    | _, _, _ => none
  | .load t x => match ev g fr gf x, tlk t TT with
    | some y, some ti => ld ti mu y
    | _, _ => none
  | .extract x i => match ev g fr gf x with
    | some (.tu l) => match nth l i with
      | some v => some (v, [])
      | none => none
    | _ => none
  | .build t parts => match evParts g fr gf parts.toList, tlk t TT with
    | some ps, some ⟨_, _, _, .st fs, z, _⟩ => bif allF TT fs then match (vcells z).bind (fillParts TT fs ps) with
        | some l => some (.ag l, [])
        | none => none
      else none
    | _, _ => none
  | .makeFunc (.func f) first caps => match first.toList, evs g fr gf caps.toList with
    | [], some l => match vsA l with
      | some l => some (.fn f l, [])
      | none => none
    | _, _ => none
  | .call c => match c.callee, c.args.toList with
    | .builtin .len, [x] => match ev g fr gf x, (c.argTypes[0]?).bind (tlk · TT) with
      | some (.a (.s _ _ n _)), some ⟨_, _, _, .slc _, _, _⟩ => some (.a (.v (.int .i64 n)), [])
      | some (.a (.g k)), some ⟨_, _, _, .slc _, _, _⟩ => match mlk k mu with
        | some (.arr _ n _) => some (.a (.v (.int .i64 n)), [])
        | some (.ro _ n _) => some (.a (.v (.int .i64 n)), [])
        | some (.hole _ n _ _ _) => some (.a (.v (.int .i64 n)), [])
        | _ => none
      | some (.a (.sb k _ lo hi)), some ⟨_, _, _, .slc _, _, _⟩ => match mlk k mu with
        | some (.arr ..) => some (.a (.v (.int .i64 (hi - lo).toNat)), [])
        | _ => none
      | some (.a (.gl _ n _)), some ⟨_, _, _, .slc _, _, _⟩ => some (.a (.v (.int .i64 n)), [])
      | some (.a (.v (.slice _ n _))), some ⟨_, _, _, .slc _, _, _⟩ => some (.a (.v (.int .i64 n)), [])
      | some (.a (.v (.string s))), some ⟨_, _, _, .str, _, _⟩ => some (.a (.v (.int .i64 s.size)), [])
      | _, _ => none
    | .builtin .cap, [x] => match ev g fr gf x, (c.argTypes[0]?).bind (tlk · TT) with
      | some (.a (.gl _ _ cp)), some ⟨_, _, _, .slc _, _, _⟩ => some (.a (.v (.int .i64 cp)), [])
      | _, _ => none
    | .builtin .max, [x, y] => match ev g fr gf x, ev g fr gf y with
      | some (.a (.v (.int .i64 a))), some (.a (.v (.int .i64 b))) => some (.a (.v (.int .i64 (if b > a then b else a))), [])
      | _, _ => none
    | .builtin .min, [x, y] => match ev g fr gf x, ev g fr gf y with
      | some (.a (.v (.int .i64 a))), some (.a (.v (.int .i64 b))) => some (.a (.v (.int .i64 (if b < a then b else a))), [])
      | _, _ => none
    | _, _ => none
  | .convert s d x => match ev g fr gf x, tlk s TT, tlk d TT with
    | some (.a (.v (.int _ n))), some ⟨_, _, _, .it _, _, _⟩, some ⟨_, _, _, .it .i64, _, _⟩ => some (.a (.v (.int .i64 n)), [.o (InR n)])
    | some (.a (.v (.int _ n))), some ⟨_, _, _, .it _, _, _⟩, some ⟨_, _, _, .it .u8, _, _⟩ => some (.a (.v (.int .u8 (IntKind.u8.wrap n))), [])
    | some (.a (.v (.int _ n))), some ⟨_, _, _, .it _, _, _⟩, some ⟨_, _, _, .it .u64, _, _⟩ => some (.a (.v (.int .u64 n)), [.o (0 ≤ n ∧ n ≤ 18446744073709551615)])
    | _, _, _ => none
  | .index t x i => match ev g fr gf x, ev g fr gf i, tlk t TT with
    | some (.a (.v (.string s))), some (.a (.v (.int _ j))), some ⟨_, _, _, .str, _, _⟩ => some (.a (.v (.int .u8 ((s.data.toList.getD j.toNat 0).toNat))), [.o (0 ≤ j ∧ j < s.size)])
    | _, _, _ => none
  | .slice t x lo hi none => match ev g fr gf x, tlk t TT with
    | some (.a (.v (.string s))), some ⟨_, _, _, .str, _, _⟩ => match bndV g fr gf 0 lo, bndV g fr gf s.size hi with
      | some a, some b => some (.a (.v (.string (s.extract a.toNat b.toNat))), [.o (0 ≤ a ∧ a ≤ b ∧ b ≤ s.size)])
      | _, _ => none
    | some (.a (.gl k n cp)), some ⟨_, _, _, .slc e, _, _⟩ => match tlk e TT, hi with
      | some te, none => match bndV g fr gf 0 lo with
        | some l => some (.a (.sb k te.sz l n), [.o (0 ≤ l ∧ l ≤ n ∧ n ≤ cp)])
        | none => none
      | _, _ => none
    | some (.a y), some ⟨_, _, _, .slc e, _, _⟩ => match ownA mu y, tlk e TT with
      | some (k, sz, n), some te => match bndV g fr gf 0 lo, bndV g fr gf n hi with
        | some l, some h => some (.a (.sb k sz l h), [.e (sz = te.sz), .o (0 ≤ l ∧ l ≤ h ∧ h ≤ n)])
        | _, _ => none
      | none, some te => match slR mu y with
        | some (q, sz, n, f, ob) => match lo with
          | none => match bndV g fr gf n hi with
            | some h => some (.a (.s q sz h.toNat f), .e (sz = te.sz) :: .o (0 ≤ h ∧ h ≤ n) :: ob)
            | none => none
          | some x => match bndV g fr gf 0 (some x), bndV g fr gf n hi with
            | some l, some h => some (.a (.s q sz (h - l).toNat (fun i => f (l.toNat + i))), .e (sz = te.sz) :: .o (0 ≤ l ∧ l ≤ h ∧ h ≤ n) :: ob)
            | _, _ => none
        | none => none
      | _, none => none
    | _, _ => none
  | _ => none
def V.usesB (k : Nat) : V → Bool
  | .g j => Nat.beq j k
  | .p j _ => Nat.beq j k
  | .pe j _ _ _ => Nat.beq j k
  | .sb j _ _ _ => Nat.beq j k
  | .gl j _ _ => Nat.beq j k
  | _ => false
def V.usesT (k : Nat) : V → Bool
  | .s (.k q) _ _ _ => Nat.beq q k
  | .rp (.k q) _ _ => Nat.beq q k
  | _ => false
def anyL (φ : V → Bool) : List V → Bool
  | [] => false
  | x :: r => bif φ x then true else anyL φ r
def SV.anyV (φ : V → Bool) : SV → Bool
  | .a x => φ x
  | .ag l => anyL φ l
  | .fn _ l => anyL φ l
  | .tu l => go l
  | _ => false
where go : List SV → Bool
  | [] => false
  | x :: r => bif SV.anyV φ x then true else go r
def frCut (φ : V → Bool) : Fr → Option Fr
  | [] => some []
  | (t, x) :: r => match frCut φ r with
    | some l => bif x.anyV φ then some ((t, .a .any) :: l) else some ((t, x) :: l)
    | none => none
def gfCut (φ : V → Bool) : GF → Option GF
  | [] => some []
  | (t, d, w, x) :: r => match gfCut φ r with
    | some l => bif x.anyV φ then some ((t, d, w, .a .any) :: l) else some ((t, d, w, x) :: l)
    | none => none
def frAny (φ : V → Bool) : Fr → Bool
  | [] => false
  | (_, x) :: r => bif x.anyV φ then true else frAny φ r
def gfAny (φ : V → Bool) : GF → Bool
  | [] => false
  | (_, _, _, x) :: r => bif x.anyV φ then true else gfAny φ r
def Ch.rowL : Ch → List V
  | .row l => l
  | .rrow l => l
  | .hole _ _ _ _ k => [.p k 0]
  | _ => []
def muAny (φ : V → Bool) (k : Nat) : Mu → Bool
  | [] => false
  | (j, c) :: r => bif Nat.beq j k then muAny φ k r else bif anyL φ c.rowL then true else muAny φ k r
def hasK (k : Nat) : List Nat → Bool
  | [] => false
  | j :: r => bif Nat.beq j k then true else hasK k r
def mdrop (k : Nat) : Mu → Option Mu
  | [] => some []
  | (j, c) :: r => match mdrop k r with
    | some l => bif Nat.beq j k then some l else some ((j, c) :: l)
    | none => none
def mset (k : Nat) (c : Ch) : Mu → Option Mu
  | [] => some [(k, c)]
  | (j, d) :: r => bif Nat.beq j k then some ((k, c) :: r) else match mset k c r with
    | some l => some ((j, d) :: l)
    | none => none
end
section
theorem mlk_mem {α : Type} {k : Nat} {l : List (Nat × α)} {c : α} (h : mlk k l = some c) : (k, c) ∈ l := by
  induction l with
  | nil => cases h
  | cons x r ih =>
    obtain ⟨j, d⟩ := x
    simp only [mlk] at h
    cases e : Nat.beq j k with
    | true => rw [e] at h; simp at h; subst h; have := Nat.eq_of_beq_eq_true e; subst this; exact List.mem_cons_self
    | false => rw [e] at h; exact List.mem_cons_of_mem _ (ih h)
theorem nth_eq {α : Type} : ∀ (l : List α) (n : Nat), nth l n = l[n]?
  | [], _ => by simp [nth]
  | _ :: _, 0 => by simp [nth]
  | _ :: r, n + 1 => by simp [nth, nth_eq r n]
theorem cut_spec {α : Type} : ∀ (l : List α) (o n : Nat) (m : List α), cut l o n = some m → m.length = n ∧ ∀ j, j < n → m[j]? = l[o + j]?
  | l, 0, 0, m, h => by
    cases l <;> (simp [cut] at h; subst h; exact ⟨rfl, fun j hj => absurd hj (by omega)⟩)
  | [], 0, n + 1, m, h => by simp [cut] at h
  | [], o + 1, n, m, h => by simp [cut] at h
  | x :: r, 0, n + 1, m, h => by
    simp only [cut] at h
    cases e : cut r 0 n with
    | none => rw [e] at h; cases h
    | some l =>
      rw [e] at h; injection h with h; subst h
      obtain ⟨h1, h2⟩ := cut_spec r 0 n l e
      refine ⟨by simp [h1], fun j hj => ?_⟩
      cases j with
      | zero => simp
      | succ j => have := h2 j (by omega); simp at this ⊢; exact this
  | x :: r, o + 1, n, m, h => by
    simp only [cut] at h
    obtain ⟨h1, h2⟩ := cut_spec r o n m h
    refine ⟨h1, fun j hj => ?_⟩
    rw [h2 j hj, show o + 1 + j = (o + j) + 1 from by omega, List.getElem?_cons_succ]
theorem paste_spec {α : Type} : ∀ (l : List α) (o : Nat) (ys m : List α), paste l o ys = some m → m.length = l.length ∧ o + ys.length ≤ l.length ∧ (∀ j, j < ys.length → m[o + j]? = ys[j]?) ∧ ∀ j, (j < o ∨ o + ys.length ≤ j) → m[j]? = l[j]?
  | l, 0, [], m, h => by cases l <;> (simp [paste] at h; subst h; exact ⟨rfl, by simp, fun j hj => absurd hj (by simp), fun _ _ => rfl⟩)
  | [], 0, y :: ys, m, h => by simp [paste] at h
  | [], o + 1, ys, m, h => by simp [paste] at h
  | x :: r, 0, y :: ys, m, h => by
    simp only [paste] at h
    cases e : paste r 0 ys with
    | none => rw [e] at h; cases h
    | some l =>
      rw [e] at h; injection h with h; subst h
      obtain ⟨h1, h2, h3, h4⟩ := paste_spec r 0 ys l e
      refine ⟨by simp [h1], by simp at h2 ⊢; omega, fun j hj => ?_, fun j hj => ?_⟩
      · cases j with
        | zero => simp
        | succ j =>
          have := h3 j (by simp at hj; omega)
          simp at this ⊢; exact this
      · cases j with
        | zero => simp at hj
        | succ j =>
          have := h4 j (by simp at hj ⊢; omega)
          simp at this ⊢; exact this
  | x :: r, o + 1, ys, m, h => by
    simp only [paste] at h
    cases e : paste r o ys with
    | none => rw [e] at h; cases h
    | some l =>
      rw [e] at h; injection h with h; subst h
      obtain ⟨h1, h2, h3, h4⟩ := paste_spec r o ys l e
      refine ⟨by simp [h1], by simp; omega, fun j hj => ?_, fun j hj => ?_⟩
      · rw [show o + 1 + j = (o + j) + 1 from by omega, List.getElem?_cons_succ]; exact h3 j hj
      · cases j with
        | zero => simp
        | succ j => have := h4 j (by omega); simp at this ⊢; exact this
theorem lenEq_spec {α : Type} : ∀ (l : List α) (n : Nat), lenEq l n = true → l.length = n
  | [], 0, _ => rfl
  | [], _ + 1, h => by simp [lenEq] at h
  | _ :: _, 0, h => by simp [lenEq] at h
  | _ :: r, n + 1, h => by simp [lenEq_spec r n h]
theorem vcells_eq (z : Value) : vcells z = some (vcellsL z) := by
  cases z <;> first
    | rfl
    | (rename_i cs; simp only [vcells, vcellsL]; generalize cs.toList = l; induction l with
        | nil => rfl
        | cons x r ih => simp [layV, ih])
theorem layV_eq : ∀ l : List Value, layV l = some (l.map V.v)
  | [] => rfl
  | x :: r => by simp [layV, layV_eq r]
theorem layD_eq (q : Tg) : ∀ l : List D, layD q l = some (l.map (D.toV q))
  | [] => rfl
  | x :: r => by cases x <;> simp [layD, layD_eq q r, D.toV]
theorem layT_spec {q : Tg} : ∀ {l m : List V}, layT q l = some m → m = l.map (V.tag q)
  | [], m, h => by simp [layT] at h; subst h; rfl
  | x :: r, m, h => by
    simp only [layT] at h
    cases e : layT q r with
    | none => rw [e] at h; cases h
    | some l =>
      rw [e] at h
      have ih := layT_spec e
      subst ih
      cases x with
      | s q' sz n f =>
        cases q' with
        | o => simp at h; subst h; rfl
        | _ => simp at h; subst h; rfl
      | any => simp at h
      | _ => simp at h; subst h; rfl
theorem Alls_append {p q : Ob} : Alls (p ++ q) ↔ Alls p ∧ Alls q := by
  induction p with
  | nil => simp [Alls]
  | cons x r ih => simp [Alls, ih, and_assoc]
def Ch.sat (B : BE) (r h : PH) (k : Nat) : Ch → Prop
  | .row l => ∃ (b o : Nat) (vs : List Value) (h' : PH), B k = .pointer (some ⟨b, o, none⟩) ∧ V.owns B r h' l vs ∧ h'.le h ∧ ∀ j, j < l.length → h b (o + j) = vs[j]? ∧ h' b (o + j) = none
  | .arr sz n f => D.own h (.sl sz n f) (B k)
  | .hole sz n f i k2 => ∃ A c, B k = .slice A n c ∧ n ≤ c ∧ n ≤ maxL ∧ (0 ≤ i ∧ i < n) ∧ B k2 = elP (B k) sz i 0 ∧ ∃ (b o : Nat) (row : Nat → List Value) (H : Nat → PH), A = some ⟨b, o, none⟩ ∧
      (∀ j, j < n → (j : Int) ≠ i → D.owns (H j) (f j) (row j) ∧ (row j).length = sz ∧ ∀ x, x < sz → h b (o + j * sz + x) = (row j)[x]?) ∧
      (∀ j, n ≤ j → j < c → ∀ x, x < sz → h b (o + j * sz + x) ≠ none) ∧ Parts h b o (c * sz) H
  | .ro sz n f => D.rd r (.sl sz n f) (B k)
  | .rrow l => ∃ (b o : Nat) (vs : List Value), B k = .pointer (some ⟨b, o, none⟩) ∧ V.rels B (Zf r fun _ => PH.emp) l vs ∧ ∀ j, j < l.length → r b (o + j) = vs[j]?
  | .rd sz n f => D.rd h (.sl sz n f) (B k)
  | .rw P => P h
theorem Zf_mono {r s : PH} {H K : Nat → PH} (l : r.le s) (m : ∀ k, (H k).le (K k)) (q : Tg) : (Zf r H q).le (Zf s K q) := by
  cases q with
  | k n => exact m n
  | _ => exact l
theorem Zf_emp (r : PH) (H : Nat → PH) (q : Tg) : (Zf r (fun _ => PH.emp) q).le (Zf r H q) := Zf_mono (PH.le_refl _) (fun _ => PH.emp_le _) q
structure Mm (B : BE) (r : PH) (mu : Mu) (w : World) (H : Nat → PH) : Prop where
  sat : ∀ k c, mlk k mu = some c → c.sat B r (H k) k
  fit : ∀ k, FitO (H k) w
  dj : ∀ j k, j ≠ k → (H j).dj (H k)
  djr : ∀ k, (H k).dj r
  fitr : Fit r w
structure Mr (B : BE) (r : PH) (mu : Mu) (w : World) (H : Nat → PH) : Prop where
  sat : ∀ k c, mlk k mu = some c → c.sat B r (H k) k
  fit : ∀ k c, mlk k mu = some c → Fit (H k) w
  fitr : Fit r w
  dj : ∀ j k, j ≠ k → (H j).dj (H k)
  djr : ∀ k, (H k).dj r
structure Ms (B : BE) (r : PH) (mu : Mu) (H : Nat → PH) : Prop where
  sat : ∀ k c, mlk k mu = some c → c.sat B r (H k) k
  dj : ∀ j k, j ≠ k → (H j).dj (H k)
  djr : ∀ k, (H k).dj r
structure Fw (r : PH) (mu : Mu) (H : Nat → PH) (w : World) : Prop where
  fit : ∀ k c, mlk k mu = some c → Fit (H k) w
  fitr : Fit r w
theorem Mr.ms {B : BE} {r : PH} {mu : Mu} {w : World} {H : Nat → PH} (m : Mr B r mu w H) : Ms B r mu H := ⟨m.sat, m.dj, m.djr⟩
theorem Mr.fw {B : BE} {r : PH} {mu : Mu} {w : World} {H : Nat → PH} (m : Mr B r mu w H) : Fw r mu H w := ⟨m.fit, m.fitr⟩
theorem Mm.mr {B : BE} {r : PH} {mu : Mu} {w : World} {H : Nat → PH} (m : Mm B r mu w H) : Mr B r mu w H := ⟨m.sat, fun k _ _ => m.fit k, m.fitr, m.dj, m.djr⟩
structure Fits (P : Program) (B : BE) (Z : Tg → PH) (N : Nat) (fr : Fr) (gf : GF) (a : Act) : Prop where
  size : a.tmps.size = N
  defers : a.defers = []
  vfr : ∀ t x, mlk t fr = some x → glk t gf = none → SV.rel P B Z x (a.tmps.getD t undef)
  vgf : ∀ t d w x, (t, d, w, x) ∈ gf → a.tmps.getD d undef = .bool w → SV.rel P B Z x (a.tmps.getD t undef)
  vgu : ∀ t d w x, (t, d, w, x) ∈ gf → a.tmps.getD d undef ≠ .bool w → a.tmps.getD t undef = undef
  vno : ∀ t d w x, (t, d, w, x) ∈ gf → mlk t fr = none
theorem glk_mem {t : Nat} : ∀ {gf : GF} {c : Nat × Bool × SV}, glk t gf = some c → (t, c) ∈ gf
  | [], _, h => by cases h
  | (j, d) :: r, c, h => by
    simp only [glk] at h
    cases e : Nat.beq j t with
    | true => rw [e] at h; simp at h; subst h; have := Nat.eq_of_beq_eq_true e; subst this; exact List.mem_cons_self
    | false => rw [e] at h; exact List.mem_cons_of_mem _ (glk_mem h)
theorem gHas_mem {d : Nat} {w : Bool} : ∀ {g : Gd}, gHas d w g = true → (d, w) ∈ g
  | [], h => by cases h
  | (d', w') :: r, h => by
    simp only [gHas] at h
    cases e : (Nat.beq d' d && (w' == w)) with
    | false => rw [e] at h; exact List.mem_cons_of_mem _ (gHas_mem h)
    | true =>
      simp only [Bool.and_eq_true, beq_iff_eq] at e
      have := Nat.eq_of_beq_eq_true e.1
      rw [this, e.2]; exact List.mem_cons_self
theorem Fits.ev {P : Program} {B : BE} {Z : Tg → PH} {N : Nat} {fr : Fr} {gf : GF} {a : Act} (f : Fits P B Z N fr gf a) {g : Gd} (hg : ∀ d w, (d, w) ∈ g → a.tmps.getD d undef = .bool w) {x : Operand} {y : SV} (h : ev g fr gf x = some y) : SV.rel P B Z y (a.eval x) := by
  cases x with
  | tmp t =>
    simp only [Go.Proofs.YthpjoddhlkcciaaGreat.ev] at h
    cases e : glk t gf with
    | none => rw [e] at h; exact f.vfr t y h e
    | some q =>
      obtain ⟨d, w, z⟩ := q
      rw [e] at h
      simp only at h
      cases e2 : gHas d w g with
      | false => rw [e2] at h; cases h
      | true =>
        rw [e2] at h; simp at h; subst h
        exact f.vgf t d w z (glk_mem e) (hg d w (gHas_mem e2))
  | const c => simp only [Go.Proofs.YthpjoddhlkcciaaGreat.ev] at h; injection h with h; subst h; rfl
  | func fn => simp only [Go.Proofs.YthpjoddhlkcciaaGreat.ev] at h; injection h with h; subst h; exact ⟨[], rfl, rfl⟩
  | global _ => cases h
theorem Fits.evs {P : Program} {B : BE} {Z : Tg → PH} {N : Nat} {fr : Fr} {gf : GF} {a : Act} (f : Fits P B Z N fr gf a) {g : Gd} (hg : ∀ d w, (d, w) ∈ g → a.tmps.getD d undef = .bool w) : ∀ {l : List Operand} {ys : List SV}, evs g fr gf l = some ys → SV.rels P B Z ys (l.map a.eval)
  | [], ys, h => by simp only [Go.Proofs.YthpjoddhlkcciaaGreat.evs] at h; injection h with h; subst h; rfl
  | x :: r, ys, h => by
    simp only [Go.Proofs.YthpjoddhlkcciaaGreat.evs] at h
    cases e : Go.Proofs.YthpjoddhlkcciaaGreat.ev g fr gf x with
    | none => rw [e] at h; cases h
    | some y =>
      cases e2 : Go.Proofs.YthpjoddhlkcciaaGreat.evs g fr gf r with
      | none => rw [e, e2] at h; cases h
      | some l =>
        rw [e, e2] at h; injection h with h; subst h
        exact ⟨_, _, rfl, f.ev hg e, f.evs hg e2⟩
theorem TOk.get {P : Program} : ∀ {TT : List TI} {t : Nat} {ti : TI}, TOk P TT → tlk t TT = some ti → ti.id = t ∧ ti.ok P
  | [], _, _, _, h => by cases h
  | x :: r, t, ti, hT, h => by
    simp only [tlk] at h
    cases e : Nat.beq x.id t with
    | true => rw [e] at h; simp at h; subst h; exact ⟨Nat.eq_of_beq_eq_true e, hT.1⟩
    | false => rw [e] at h; exact TOk.get hT.2 h
section
variable {P : Program} {w : World}
theorem run_underlying {t : TypeId} {d : TypeDesc} (h : P.underlying t = some d) : (underlying t).run P w = .ok d w := by
  simp [underlying, h]
theorem run_info {t : TypeId} {i : TypeInfo} (h : P.info? t = some i) : (typeInfo t).run P w = .ok i w := by
  simp [typeInfo, h]
theorem run_size {t : TypeId} {i : TypeInfo} (h : P.info? t = some i) : (sizeOf t).run P w = .ok i.size w := by
  simp [sizeOf, typeInfo, h]
theorem TI.ok.desc {ti : TI} (h : ti.ok P) : ∃ d, P.underlying ti.id = some d ∧ shapeK d = ti.kind := by
  have := h.1
  cases e : P.underlying ti.id with
  | none => rw [e] at this; cases this
  | some d => rw [e] at this; simp at this; exact ⟨d, rfl, this⟩
theorem TI.ok.info {ti : TI} (h : ti.ok P) : ∃ i, P.info? ti.id = some i ∧ i.size = ti.sz ∧ i.bytes = ti.by_ ∧ i.zero = some ti.zero := by
  have h1 := h.2.1
  have h2 := h.2.2.1
  cases e : P.info? ti.id with
  | none => rw [e] at h1; cases h1
  | some i => rw [e] at h1 h2; simp at h1 h2; exact ⟨i, rfl, h1.1, h1.2, h2⟩
theorem run_isAgg {ti : TI} (h : ti.ok P) : (isAgg ti.id).run P w = .ok ti.isAg w := by
  obtain ⟨d, h1, h2⟩ := h.desc
  simp only [isAgg, Sem.run_bind, run_underlying h1, Result.andThen_ok, TI.isAg, ← h2]
  cases d <;> rfl
def Lies (w : World) (a : Addr) (l : List Value) : Prop := ∀ j u, l[j]? = some u → w.cell? (a.add j) = some u
theorem run_loadFrom (a : Addr) : ∀ (n i : Nat) (acc : Array Value) (l : List Value), l.length = n → (∀ j u, l[j]? = some u → w.cell? (a.add (i + j)) = some u) →
    (loadCellsFrom a i n acc).run P w = .ok (acc ++ l.toArray) w
  | 0, i, acc, l, hl, _ => by
    have : l = [] := List.length_eq_zero_iff.1 hl
    subst this
    simp [loadCellsFrom]
  | n + 1, i, acc, l, hl, h => by
    cases l with
    | nil => simp at hl
    | cons u r =>
      have h0 := h 0 u rfl
      simp only [Nat.add_zero] at h0
      simp only [loadCellsFrom, Sem.run_bind, run_load, h0, Result.andThen_ok]
      rw [run_loadFrom a n (i + 1) (acc.push u) r (by simpa using hl) (fun j v hj => by
        have := h (j + 1) v (by simpa using hj)
        rwa [show i + (j + 1) = i + 1 + j from by omega] at this)]
      simp
theorem run_loadCells {a : Addr} {l : List Value} (h : Lies w a l) : (loadCells a l.length).run P w = .ok l.toArray w := by
  have := run_loadFrom (P := P) a l.length 0 #[] l rfl (fun j u hj => by rw [Nat.zero_add]; exact h j u hj)
  simpa [loadCells] using this
theorem run_loadVar {ti : TI} (hti : ti.ok P) {a : Addr} {l : List Value} (hl : l.length = ti.sz) (h : Lies w a l) (x : Value)
    (hx : (ti.isAg = true ∧ x = .agg l.toArray) ∨ (ti.isAg = false ∧ l = [x])) : (loadVar ti.id a).run P w = .ok x w := by
  obtain ⟨i, h1, h2, _, _⟩ := hti.info
  simp only [loadVar, Sem.run_bind, run_isAgg hti, Result.andThen_ok]
  rcases hx with ⟨e, rfl⟩ | ⟨e, rfl⟩
  · rw [e, if_pos rfl]
    simp only [Sem.run_bind, run_size h1, Result.andThen_ok, h2, ← hl, run_loadCells h, Sem.run_pure]
  · rw [e, if_neg (by simp)]
    have := h 0 x rfl
    simp only [Addr.add, if_true] at this
    simp only [run_load, this]
end
theorem add_none {a : Addr} (h : a.spot = none) (n : Nat) : a.add n = ⟨a.block, a.off + n, none⟩ := by
  unfold Addr.add
  split
  · rename_i e; subst e; cases a; simp at h; subst h; rfl
  · rfl
theorem add_mk (b o n : Nat) : (⟨b, o, none⟩ : Addr).add n = ⟨b, o + n, none⟩ := add_none rfl n
theorem svOf_spec {ag : Bool} {l : List V} {x : SV} (h : svOf ag l = some x) : (ag = true ∧ x = .ag l) ∨ (ag = false ∧ ∃ y, l = [y] ∧ x = .a y) := by
  cases ag with
  | true =>
    left; refine ⟨rfl, ?_⟩
    cases l with
    | nil => simp [svOf] at h; exact h.symm
    | cons y r => cases r <;> (simp [svOf] at h; exact h.symm)
  | false =>
    right; refine ⟨rfl, ?_⟩
    cases l with
    | nil => simp [svOf] at h
    | cons y r => cases r <;> simp [svOf] at h; exact ⟨y, rfl, h.symm⟩
section
variable {P : Program} {B : BE} {Z : Tg → PH}
theorem cut_rels : ∀ {l : List V} {vs : List Value} {o n : Nat} {m : List V}, V.rels B Z l vs → cut l o n = some m → ∃ ms, cut vs o n = some ms ∧ V.rels B Z m ms
  | l, vs, 0, 0, m, r, h => by cases l <;> cases vs <;> (simp [cut] at h ⊢; subst h; rfl)
  | [], _, 0, n + 1, m, r, h => by simp [cut] at h
  | [], _, o + 1, n, m, r, h => by simp [cut] at h
  | x :: l, vs, 0, n + 1, m, r, h => by
    obtain ⟨a, t, rfl, r2, r3⟩ := r
    simp only [cut] at h ⊢
    cases e : cut l 0 n with
    | none => rw [e] at h; cases h
    | some l' =>
      rw [e] at h; injection h with h; subst h
      obtain ⟨ms, e1, e2⟩ := cut_rels r3 e
      rw [e1]; exact ⟨_, rfl, _, _, rfl, r2, e2⟩
  | x :: l, vs, o + 1, n, m, r, h => by
    obtain ⟨a, t, rfl, r2, r3⟩ := r
    simp only [cut] at h ⊢
    exact cut_rels r3 h
theorem paste_rels : ∀ {l : List V} {vs : List Value} {o : Nat} {ys : List V} {us : List Value} {m : List V}, V.rels B Z l vs → V.rels B Z ys us → paste l o ys = some m → ∃ ms, paste vs o us = some ms ∧ V.rels B Z m ms
  | l, vs, 0, [], us, m, r, k, h => by
    have k : us = [] := k
    subst k
    have : m = l := by cases l <;> simpa [paste] using h.symm
    subst this
    exact ⟨vs, by cases vs <;> rfl, r⟩
  | [], _, 0, y :: ys, _, m, r, k, h => by simp [paste] at h
  | [], _, o + 1, ys, _, m, r, k, h => by simp [paste] at h
  | x :: l, vs, 0, y :: ys, us, m, r, k, h => by
    obtain ⟨a, t, rfl, r2, r3⟩ := r
    obtain ⟨u, us, rfl, k2, k3⟩ := k
    simp only [paste] at h ⊢
    cases e : paste l 0 ys with
    | none => rw [e] at h; cases h
    | some l' =>
      rw [e] at h; injection h with h; subst h
      obtain ⟨ms, e1, e2⟩ := paste_rels r3 k3 e
      rw [e1]; exact ⟨_, rfl, _, _, rfl, k2, e2⟩
  | x :: l, vs, o + 1, ys, us, m, r, k, h => by
    obtain ⟨a, t, rfl, r2, r3⟩ := r
    simp only [paste] at h ⊢
    cases e : paste l o ys with
    | none => rw [e] at h; cases h
    | some l' =>
      rw [e] at h; injection h with h; subst h
      obtain ⟨ms, e1, e2⟩ := paste_rels r3 k e
      rw [e1]; exact ⟨_, rfl, _, _, rfl, r2, e2⟩
theorem nth_rels {l : List V} {vs : List Value} (r : V.rels B Z l vs) {n : Nat} {x : V} (h : nth l n = some x) : ∃ y, vs[n]? = some y ∧ x.rel B Z y := by
  rw [nth_eq] at h; exact V.rels_get r h
theorem one_cells {y : Value} (h : oneV y = true) : y.cells.toList = [y] := by cases y <;> first | rfl | cases h
theorem rels_v : ∀ l : List Value, V.rels B Z (l.map V.v) l
  | [] => rfl
  | x :: r => ⟨x, r, rfl, rfl, rels_v r⟩
theorem cells_rel {x : SV} {l : List V} (h : x.cells = some l) {y : Value} (r : SV.rel P B Z x y) : V.rels B Z l y.cells.toList := by
  cases x with
  | un => simp [SV.cells] at h
  | fn f l => simp [SV.cells] at h
  | fb φ => simp [SV.cells] at h
  | tu l => simp [SV.cells] at h
  | ag l' =>
    simp [SV.cells] at h; subst h
    obtain ⟨vs, rfl, r2⟩ := r
    simpa [Value.cells] using r2
  | a u =>
    cases u with
    | v x =>
      simp [SV.cells, vcells_eq] at h; subst h
      have r : y = x := r
      subst r
      cases y <;> first
        | exact rels_v [_]
        | exact rels_v _
    | s q sz n f =>
      simp [SV.cells] at h; subst h
      obtain ⟨A, c, rfl, _⟩ := (show D.rd _ _ _ from r)
      exact ⟨_, _, rfl, r, rfl⟩
    | rp q m o =>
      simp [SV.cells] at h; subst h
      obtain ⟨b, x, vs, rfl, _⟩ := (show _ from r)
      exact ⟨_, _, rfl, r, rfl⟩
    | any => simp [SV.cells] at h
    | g k => simp [SV.cells] at h; subst h; rw [one_cells r.2]; exact ⟨_, _, rfl, r, rfl⟩
    | p k o => simp [SV.cells] at h; subst h; rw [one_cells r.2]; exact ⟨_, _, rfl, r, rfl⟩
    | pe k sz i o => simp [SV.cells] at h; subst h; rw [one_cells r.2]; exact ⟨_, _, rfl, r, rfl⟩
    | sb k sz lo hi => simp [SV.cells] at h; subst h; rw [one_cells r.2]; exact ⟨_, _, rfl, r, rfl⟩
    | gl k n c => simp [SV.cells] at h; subst h; rw [one_cells r.2.1]; exact ⟨_, _, rfl, r, rfl⟩
end
end
section
section
variable {P : Program} {w : World} {B : BE} {r : PH} {mu : Mu} {H : Nat → PH} {TT : List TI}
theorem getEl_cells {w : World} {b o : Nat} {vs : List Value} {h : PH} (hf : Fit h w) (hc : ∀ j, j < vs.length → h b (o + j) = vs[j]?) {d n : Nat} {ms : List Value} (hm : cut vs d n = some ms) : Lies w ⟨b, o + d, none⟩ ms := fun j u hj => by
  obtain ⟨c1, c2⟩ := cut_spec _ _ _ _ hm
  have hjl : j < n := by rw [← c1]; exact (List.getElem?_eq_some_iff.1 hj).1
  have h1 := c2 j hjl
  rw [hj] at h1
  have h2 : d + j < vs.length := (List.getElem?_eq_some_iff.1 h1.symm).1
  have h3 := hc _ h2
  rw [← h1] at h3
  rw [add_mk, Nat.add_assoc]
  exact (hf _ _ _ h3).1
theorem ld_fin {ti : TI} (hti : ti.ok P) {Z : Tg → PH} {l : List V} {x : SV} (hs : svOf ti.isAg l = some x) {ms : List Value} (hr : V.rels B Z l ms) (hl : ms.length = ti.sz) {a : Addr} : ∃ y, (∀ w, Lies w a ms → (loadVar ti.id a).run P w = .ok y w) ∧ SV.rel P B Z x y := by
  rcases svOf_spec hs with ⟨e, rfl⟩ | ⟨e, u, rfl, rfl⟩
  · exact ⟨.agg ms.toArray, fun w hL => run_loadVar hti hl hL _ (.inl ⟨e, rfl⟩), ms, rfl, hr⟩
  · obtain ⟨y, t, rfl, r2, r3⟩ := hr
    have r3 : t = [] := r3
    subst r3
    exact ⟨y, fun w hL => run_loadVar hti hl hL _ (.inr ⟨e, rfl⟩), r2⟩
theorem rels_tag {r h : PH} {q : Tg} {Z : Tg → PH} (h0 : r.le (Z .r)) (hq : h.le (Z q)) : ∀ {l : List V} {vs : List Value} {h' : PH}, h'.le h → V.owns B r h' l vs → V.rels B Z (l.map (V.tag q)) vs
  | [], _, _, _, e => e
  | x :: l, _, _, hle, e => by
    obtain ⟨a, t, h1, h2, rfl, e2, e3, e4, e5, e6⟩ := e
    exact ⟨a, t, rfl, V.own_rel h0 (PH.le_trans e2 (PH.le_trans hle hq)) e5, rels_tag h0 hq (PH.le_trans e3 hle) e6⟩
theorem cut_map {α β : Type} (f : α → β) : ∀ (l : List α) (o n : Nat) (m : List α), cut l o n = some m → cut (l.map f) o n = some (m.map f)
  | l, 0, 0, m, h => by cases l <;> (simp [cut] at h ⊢; exact h)
  | [], 0, n + 1, m, h => by simp [cut] at h
  | [], o + 1, n, m, h => by simp [cut] at h
  | x :: r, 0, n + 1, m, h => by
    simp only [cut, List.map_cons] at h ⊢
    cases e : cut r 0 n with
    | none => rw [e] at h; cases h
    | some l => rw [e] at h; injection h with h; subst h; rw [cut_map f r 0 n l e]; rfl
  | x :: r, o + 1, n, m, h => by
    simp only [cut, List.map_cons] at h ⊢
    exact cut_map f r o n m h
theorem elP_slice (b o n c : Nat) (i : Int) (sz j : Nat) : elP (.slice (some ⟨b, o, none⟩) n c) sz i j = .pointer (some ⟨b, o + i.toNat * sz + j, none⟩) := by
  simp [elP, add_mk]
theorem ld_ok (m : Ms B r mu H) {ti : TI} (hti : ti.ok P) {y x : SV} {q : Ob} (h : ld ti mu y = some (x, q)) (hq : Alls q) {u : Value} (hu : SV.rel P B (Zf r H) y u) :
    ∃ (a : Addr) (v : Value), u = .pointer (some a) ∧ (∀ w, Fw r mu H w → (loadVar ti.id a).run P w = .ok v w) ∧ SV.rel P B (Zf r H) x v := by
  have fin : ∀ {b o d : Nat} {l m : List V} {vs : List Value} {g : PH} {Z : Tg → PH} {x : SV}, (∀ w, Fw r mu H w → Fit g w) → (∀ j, j < vs.length → g b (o + j) = vs[j]?) → V.rels B Z l vs → cut l d ti.sz = some m → svOf ti.isAg m = some x → ∃ v, (∀ w, Fw r mu H w → (loadVar ti.id ⟨b, o + d, none⟩).run P w = .ok v w) ∧ SV.rel P B Z x v := by
    intro b o d l m vs g Z x hf hc hr hm hs
    obtain ⟨ms, e1, e2⟩ := cut_rels hr hm
    obtain ⟨v, g1, g2⟩ := ld_fin (a := ⟨b, o + d, none⟩) hti hs e2 (cut_spec _ _ _ _ e1).1
    exact ⟨v, fun w hw => g1 w (getEl_cells (hf w hw) hc e1), g2⟩
  cases y with
  | ag l => simp [ld] at h
  | fn f l => simp [ld] at h
  | fb φ => simp [ld] at h
  | tu l => simp [ld] at h
  | un => simp [ld] at h
  | a y =>
    cases y with
    | v x => simp [ld] at h
    | s q sz n f => simp [ld] at h
    | g k => simp [ld] at h
    | sb k sz lo hi => simp [ld] at h
    | gl k n c => simp [ld] at h
    | any => simp [ld] at h
    | p k o =>
      obtain ⟨hu, _⟩ := (show u = addP (B k) o ∧ _ from hu)
      simp only [ld] at h
      split at h
      · rename_i l e
        obtain ⟨b, off, vs, h', e1, e2, e3, e4⟩ := m.sat k _ e
        have hlen := V.owns_length e2
        split at h
        · rename_i l' e5
          obtain ⟨m0, e6, e7⟩ := Option.bind_eq_some_iff.1 e5
          split at h
          · rename_i x' e8
            simp at h; obtain ⟨rfl, rfl⟩ := h
            have := layT_spec e7
            subst this
            obtain ⟨v, g1, g2⟩ := fin (b := b) (o := off) (d := o) (fun w hw => hw.fit k _ e) (fun j hj => (e4 j (by omega)).1) (rels_tag (Z := Zf r H) (q := .k k) (PH.le_refl _) e3 (PH.le_refl _) e2) (cut_map _ _ _ _ _ e6) e8
            refine ⟨_, v, ?_, g1, g2⟩
            rw [hu, e1]; simp [addP, add_mk]
          · cases h
        · cases h
      · rename_i l e
        obtain ⟨b, off, vs, e1, e2, e4⟩ := m.sat k _ e
        have e2' := V.rels_mono (Zf_emp r H) e2
        have hlen := V.rels_length e2'
        split at h
        · rename_i l' e6
          split at h
          · rename_i x' e8
            simp at h; obtain ⟨rfl, rfl⟩ := h
            obtain ⟨v, g1, g2⟩ := fin (b := b) (o := off) (d := o) (fun w hw => hw.fitr) (fun j hj => e4 j (by omega)) e2' e6 e8
            refine ⟨_, v, ?_, g1, g2⟩
            rw [hu, e1]; simp [addP, add_mk]
          · cases h
        · cases h
      · cases h
    | pe k sz i o =>
      obtain ⟨hu, _⟩ := (show u = elP (B k) sz i o ∧ _ from hu)
      simp only [ld] at h
      split at h
      · rename_i sz' n f e
        split at h
        · rename_i l' e5
          obtain ⟨m0, e6, e7⟩ := Option.bind_eq_some_iff.1 e5
          rw [layD_eq] at e7
          injection e7 with e7
          subst e7
          split at h
          · rename_i x' e8
            simp at h; obtain ⟨rfl, rfl⟩ := h
            obtain ⟨rfl, ⟨q1, q2⟩, _⟩ := hq
            obtain ⟨A, c, e1, e2, e3, e4⟩ := (show D.own _ _ _ from m.sat k _ e)
            rcases e4 with rfl | ⟨b, off, row, G, rfl, g1, _, g3⟩
            · omega
            · obtain ⟨r1, r2, r3⟩ := g1 i.toNat (by omega)
              obtain ⟨v, k1, k2⟩ := fin (Z := Zf r H) (b := b) (o := off + i.toNat * sz) (d := o) (fun w hw => hw.fit k _ e) (fun j hj => r3 j (by omega)) (D.rds_toV (q := .k k) (D.rds_mono (g3.1 _) _ (D.owns_rds _ r1))) (cut_map _ _ _ _ _ e6) e8
              refine ⟨_, v, ?_, k1, k2⟩
              rw [hu, e1, elP_slice]
          · cases h
        · cases h
      · rename_i sz' n f e
        split at h
        · rename_i l' e5
          obtain ⟨m0, e6, e7⟩ := Option.bind_eq_some_iff.1 e5
          rw [layD_eq] at e7
          injection e7 with e7
          subst e7
          split at h
          · rename_i x' e8
            simp at h; obtain ⟨rfl, rfl⟩ := h
            obtain ⟨rfl, ⟨q1, q2⟩, _⟩ := hq
            obtain ⟨A, c, e1, e2, e3, e4⟩ := (show D.rd _ _ _ from m.sat k _ e)
            rcases e4 with rfl | ⟨b, off, rfl, g1⟩
            · omega
            · obtain ⟨row, r1, r2, r3⟩ := g1 i.toNat (by omega)
              obtain ⟨v, k1, k2⟩ := fin (Z := Zf r H) (b := b) (o := off + i.toNat * sz) (d := o) (fun w hw => hw.fitr) (fun j hj => r3 j (by omega)) (D.rds_toV (q := .r) r1) (cut_map _ _ _ _ _ e6) e8
              refine ⟨_, v, ?_, k1, k2⟩
              rw [hu, e1, elP_slice]
          · cases h
        · cases h
      · cases h
    | rp q l o =>
      obtain ⟨b, off, vs, rfl, e2, e3⟩ := (show _ from hu)
      simp only [ld] at h
      cases ht : tgB mu q with
      | false => rw [ht] at h; cases h
      | true =>
        have hf : ∀ w, Fw r mu H w → Fit (Zf r H q) w := fun w hw => by
          cases q with
          | o => exact hw.fitr
          | r => exact hw.fitr
          | k n =>
            simp only [tgB] at ht
            split at ht
            · rename_i c hc; exact hw.fit n c hc
            · cases ht
        rw [ht] at h
        simp only [cond_true] at h
        split at h
        · rename_i l' e5
          obtain ⟨m0, e6, e7⟩ := Option.bind_eq_some_iff.1 e5
          rw [layD_eq] at e7
          injection e7 with e7
          subst e7
          split at h
          · rename_i x' e8
            simp at h; obtain ⟨rfl, rfl⟩ := h
            obtain ⟨v, k1, k2⟩ := fin (Z := Zf r H) (b := b) (o := off) (d := o) hf e3 (D.rds_toV (q := q) e2) (cut_map _ _ _ _ _ e6) e8
            exact ⟨_, v, rfl, k1, k2⟩
          · cases h
        · cases h
end
end
section
theorem wrap_in {x : Int} (h : InR x) : IntKind.i64.wrap x = x := IntWalk.i64_in _ h
theorem eqGuard_plain {P : Program} {w : World} {op : BinOp} {t : TypeId} {x y : Operand} {a b : Value} (h : (match a, b with | .nilIface, .nilIface => false | .agg _, .agg _ => false | _, _ => true) = true) : (eqGuard op t x y a b).run P w = .ok () w := by
  unfold eqGuard
  cases op <;> first
    | rfl
    | (cases a <;> cases b <;> first | rfl | (simp at h))
section
variable {P : Program} {w : World}
theorem shrI_ok {t : TypeId} {k : IntKind} {x y : Int} (hq : Alls (shrI k x y).2) (k' : IntKind) : (binOp .shr t (.int k x) (.int k' y)).run P w = .ok (shrI k x y).1 w := by
  unfold shrI at hq ⊢
  split at hq
  · have e : min (Int.ofNat 1).toNat k.bits = 1 := by cases k <;> rfl
    have e2 : ¬ (Int.ofNat 1 < 0) := by decide
    simp only [binOp, Op.shift, if_neg e2, e, Sem.run_pure]
    congr 2
    rw [Int.fdiv_eq_ediv_of_nonneg _ (by decide)]; rfl
  · rename_i n _
    have e2 : ¬ (Int.ofNat n < 0) := by have := Int.natCast_nonneg n; simp
    simp only [binOp, Op.shift, if_neg e2, Sem.run_pure]
    rfl
  · exact hq.1.elim
theorem bopI_ok {hg : Bool} {op : BinOp} {t : TypeId} {x y : Int} {v : Value} {q : Ob} (h : bopI hg op x y = some (v, q)) (hq : Alls q) : (binOp op t (.int .i64 x) (.int .i64 y)).run P w = .ok v w := by
  cases op <;> simp [bopI, cmpI] at h
  case add =>
    cases hg with
    | true => simp at h; obtain ⟨rfl, rfl⟩ := h; simp [binOp, Op.intArith, wr64]
    | false => simp at h; obtain ⟨rfl, rfl⟩ := h; simp [binOp, Op.intArith, wrap_in hq.1]
  case sub => obtain ⟨rfl, rfl⟩ := h; simp [binOp, Op.intArith, wrap_in hq.1]
  case mul =>
    cases hg with
    | true => simp at h; obtain ⟨rfl, rfl⟩ := h; simp [binOp, Op.intArith, wr64]
    | false => simp at h; obtain ⟨rfl, rfl⟩ := h; simp [binOp, Op.intArith, wrap_in hq.1]
  case quo => obtain ⟨rfl, rfl⟩ := h; have h0 : ¬ y = 0 := hq.1; simp [binOp, Op.intDiv, wrap_in hq.2.1, h0]
  case rem => obtain ⟨rfl, rfl⟩ := h; have h0 : ¬ y = 0 := hq.1; simp [binOp, Op.intDiv, h0]
  case and => obtain ⟨rfl, rfl⟩ := h; rfl
  case or => obtain ⟨rfl, rfl⟩ := h; rfl
  case xor => obtain ⟨rfl, rfl⟩ := h; rfl
  case andNot => obtain ⟨rfl, rfl⟩ := h; rfl
  case shr =>
    have := shrI_ok (P := P) (w := w) (t := t) (k := .i64) (x := x) (y := y) (by rw [h]; exact hq) .i64
    rw [h] at this
    exact this
  all_goals (obtain ⟨rfl, rfl⟩ := h; simp [binOp, Op.intCmp])
theorem bopU_ok {op : BinOp} {t : TypeId} {x y : Int} {v : Value} {q : Ob} (h : bopU op x y = some (v, q)) : (binOp op t (.int .u8 x) (.int .u8 y)).run P w = .ok v w := by
  cases op <;> simp [bopU, cmpI] at h
  all_goals (obtain ⟨rfl, rfl⟩ := h; simp [binOp, Op.intArith, Op.intCmp])
theorem bopS_ok {op : BinOp} {t : TypeId} {x y : ByteArray} {v : Value} {q : Ob} (h : bopS op x y = some (v, q)) (hq : Alls q) : (binOp op t (.string x) (.string y)).run P w = .ok v w := by
  cases op <;> simp [bopS] at h
  case add =>
    obtain ⟨rfl, rfl⟩ := h
    have : ((x.size + y.size : Nat) : Int) ≤ 9223372036854775807 := hq.1
    simp only [binOp, Op.stringOp]
    rw [if_neg (by
      have e : IntKind.i64.max = 9223372036854775807 := by decide
      rw [e]; simpa using this)]
    rfl
  all_goals (obtain ⟨rfl, rfl⟩ := h; simp [binOp, Op.stringOp, beq_toListBytes])
theorem equalIn_b (n : Nat) {t : TypeId} (h : P.underlying t = some .bool) (a b : Bool) : (Op.equalIn (n + 1) t (.bool a) (.bool b)).run P w = .ok (a == b) w := by
  simp only [Op.equalIn, Sem.run_bind, run_underlying h, Result.andThen_ok, Sem.run_pure]
theorem equal_bool {t : TypeId} (h : P.underlying t = some .bool) (a b : Bool) : (Op.equal t (.bool a) (.bool b)).run P w = .ok (a == b) w := equalIn_b 9999 h a b
theorem equalIn_slice (n : Nat) {t e : TypeId} (h : P.underlying t = some (.slice e)) (A : Option Addr) (l c m k : Nat) : (Op.equalIn (n + 1) t (.slice A l c) (.slice none m k)).run P w = .ok A.isNone w := by
  cases A <;> simp only [Op.equalIn, Sem.run_bind, run_underlying h, Result.andThen_ok, Sem.run_pure, Option.isNone]
theorem equal_slice {t e : TypeId} (h : P.underlying t = some (.slice e)) (A : Option Addr) (n c m k : Nat) : (Op.equal t (.slice A n c) (.slice none m k)).run P w = .ok A.isNone w := equalIn_slice 9999 h A n c m k
theorem equalIn_ptr (n : Nat) {t e : TypeId} (h : P.underlying t = some (.pointer e)) (A : Option Addr) : (Op.equalIn (n + 1) t (.pointer A) (.pointer none)).run P w = .ok A.isNone w := by
  cases A <;> simp only [Op.equalIn, Sem.run_bind, run_underlying h, Result.andThen_ok, Sem.run_pure, Option.isNone]
theorem equal_ptr {t e : TypeId} (h : P.underlying t = some (.pointer e)) (A : Option Addr) : (Op.equal t (.pointer A) (.pointer none)).run P w = .ok A.isNone w := equalIn_ptr 9999 h A
theorem fit_slice {h : PH} {sz n : Nat} {f : Nat → List D} {y : Value} (e : D.rd h (.sl sz n f) y) : ∃ A c, y = .slice A n c ∧ (0 < n → A.isNone = false) := by
  obtain ⟨A, c, e1, _, _, e4⟩ := e
  refine ⟨A, c, e1, fun hn => ?_⟩
  rcases e4 with e | ⟨b, o, e, _⟩
  · omega
  · subst e; rfl
theorem own_slice {h : PH} {sz n : Nat} {f : Nat → List D} {y : Value} (e : D.own h (.sl sz n f) y) : ∃ A c, y = .slice A n c ∧ (0 < n → A.isNone = false) := fit_slice (D.own_rd _ e)
theorem isNilS_spec {B : BE} {r : PH} {mu : Mu} {H : Nat → PH} (m : Ms B r mu H) {x : V} {b : Bool} {q : Ob} (h : isNilS mu x = some (b, q)) (hq : Alls q) {u : Value} (hu : x.rel B (Zf r H) u) : ∃ A n c, u = .slice A n c ∧ b = A.isNone := by
  cases x with
  | v x =>
    have hu : u = x := hu
    subst hu
    cases u <;> simp [isNilS] at h
    obtain ⟨rfl, rfl⟩ := h
    exact ⟨_, _, _, rfl, rfl⟩
  | _ => simp [isNilS] at h
theorem isNilP_spec {B : BE} {r : PH} {mu : Mu} {H : Nat → PH} (m : Ms B r mu H) {x : V} {b : Bool} (h : isNilP mu x = some b) {u : Value} (hu : x.rel B (Zf r H) u) : ∃ A, u = .pointer A ∧ b = A.isNone := by
  cases x with
  | p k o =>
    obtain ⟨rfl, _⟩ := (show u = addP (B k) o ∧ _ from hu)
    simp only [isNilP] at h
    split at h
    · rename_i l e
      injection h with h; subst h
      obtain ⟨b, o', vs, h', e1, _⟩ := m.sat k _ e
      rw [e1]; exact ⟨_, rfl, rfl⟩
    · rename_i l e
      injection h with h; subst h
      obtain ⟨b, o', vs, e1, _⟩ := m.sat k _ e
      rw [e1]; exact ⟨_, rfl, rfl⟩
    · cases h
  | rp q l o =>
    simp [isNilP] at h; subst h
    obtain ⟨b, x, vs, rfl, _⟩ := (show _ from hu)
    exact ⟨_, rfl, rfl⟩
  | pe k sz i o =>
    obtain ⟨rfl, _⟩ := (show u = elP (B k) sz i o ∧ _ from hu)
    simp only [isNilP] at h
    split at h
    · rename_i sz n f e
      injection h with h; subst h
      obtain ⟨A, c, e1, _⟩ := own_slice (m.sat k _ e)
      rw [e1]; exact ⟨_, rfl, rfl⟩
    · rename_i sz n f e
      injection h with h; subst h
      obtain ⟨A, c, e1, _⟩ := fit_slice (m.sat k _ e)
      rw [e1]; exact ⟨_, rfl, rfl⟩
    · rename_i sz n f j k2 e
      injection h with h; subst h
      obtain ⟨A, c, e1, _⟩ := m.sat k _ e
      rw [e1]; exact ⟨_, rfl, rfl⟩
    · cases h
  | v x =>
    have hu : u = x := hu
    subst hu
    cases u <;> simp [isNilP] at h
    subst h
    exact ⟨_, rfl, rfl⟩
  | _ => simp [isNilP] at h
theorem shapeK_bo {d : TypeDesc} (h : shapeK d = .bo) : d = .bool := by cases d <;> simp [shapeK] at h; rfl
theorem shapeK_ptr {d : TypeDesc} (h : shapeK d = .ptr) : ∃ e, d = .pointer e := by cases d <;> simp [shapeK] at h; exact ⟨_, rfl⟩
theorem shapeK_str {d : TypeDesc} (h : shapeK d = .str) : d = .string := by cases d <;> simp [shapeK] at h; rfl
theorem shapeK_it {d : TypeDesc} {k : IntKind} (h : shapeK d = .it k) : d = .int k := by cases d <;> simp [shapeK] at h; subst h; rfl
theorem shapeK_slc {d : TypeDesc} {e : Nat} (h : shapeK d = .slc e) : d = .slice e := by cases d <;> simp [shapeK] at h; subst h; rfl
theorem shapeK_st {d : TypeDesc} {l : List (Nat × Nat)} (h : shapeK d = .st l) : ∃ fs : Array Field, d = .struct fs ∧ fs.toList.map (fun f => (f.offset, f.type)) = l := by cases d <;> simp [shapeK] at h; exact ⟨_, rfl, h⟩
theorem bop_ok {B : BE} {r : PH} {mu : Mu} {H : Nat → PH} (m : Ms B r mu H) {hg : Bool} {op : BinOp} {t : TypeId} {d : TypeDesc} (hd : P.underlying t = some d) {k : TK} (hk : shapeK d = k) {x y : V} {v : Value} {q : Ob} (h : bop mu hg k op x y = some (v, q)) (hq : Alls q) (ox oy : Operand) {u u' : Value} (hu : x.rel B (Zf r H) u) (hu' : y.rel B (Zf r H) u') :
    (do eqGuard op t ox oy u u'; binOp op t u u' : Sem Value).run P w = .ok v w := by
  unfold bop at h
  split at h
  · obtain rfl : u = _ := hu
    obtain rfl : u' = _ := hu'
    rw [Sem.run_bind, eqGuard_plain rfl, Result.andThen_ok]; exact bopI_ok h hq
  · obtain rfl : u = _ := hu
    obtain rfl : u' = _ := hu'
    rw [Sem.run_bind, eqGuard_plain rfl, Result.andThen_ok]; exact bopU_ok h
  · obtain rfl : u = _ := hu
    obtain rfl : u' = _ := hu'
    rw [Sem.run_bind, eqGuard_plain rfl, Result.andThen_ok]
    split at h
    · injection h with h
      have := shrI_ok (P := P) (w := w) (t := t) (k := .u64) (by rw [h]; exact hq)
      rw [h] at this
      exact this _
    · cases h
  · obtain rfl : u = _ := hu
    obtain rfl : u' = _ := hu'
    rw [Sem.run_bind, eqGuard_plain rfl, Result.andThen_ok]
    split at h
    · injection h with h
      have := shrI_ok (P := P) (w := w) (t := t) (k := .i64) (by rw [h]; exact hq)
      rw [h] at this
      exact this _
    · cases h
  · obtain rfl : u = _ := hu
    obtain rfl : u' = _ := hu'
    rw [Sem.run_bind, eqGuard_plain rfl, Result.andThen_ok]; exact bopS_ok h hq
  · rename_i a b
    obtain rfl : u = _ := hu
    obtain rfl : u' = _ := hu'
    rw [Sem.run_bind, eqGuard_plain rfl, Result.andThen_ok]
    split at h
    · obtain rfl := shapeK_bo hk; simp at h; obtain ⟨rfl, rfl⟩ := h
      simp only [binOp, Sem.run_bind, equal_bool hd, Result.andThen_ok, Sem.run_pure]
    · obtain rfl := shapeK_bo hk; simp at h; obtain ⟨rfl, rfl⟩ := h
      simp only [binOp, Sem.run_bind, equal_bool hd, Result.andThen_ok, Sem.run_pure]
    · cases h
  · obtain rfl : u' = _ := hu'
    split at h
    · rename_i hb
      obtain rfl := shapeK_slc hk; simp at h; obtain ⟨rfl, rfl⟩ := h
      obtain ⟨A, n, c, rfl, rfl⟩ := isNilS_spec m hb hq hu
      rw [Sem.run_bind, eqGuard_plain rfl, Result.andThen_ok]
      simp only [binOp, Sem.run_bind, equal_slice hd, Result.andThen_ok, Sem.run_pure]
    · rename_i hb
      obtain rfl := shapeK_slc hk; simp at h; obtain ⟨rfl, rfl⟩ := h
      obtain ⟨A, n, c, rfl, rfl⟩ := isNilS_spec m hb hq hu
      rw [Sem.run_bind, eqGuard_plain rfl, Result.andThen_ok]
      simp only [binOp, Sem.run_bind, equal_slice hd, Result.andThen_ok, Sem.run_pure]
    · cases h
  · obtain rfl : u' = _ := hu'
    split at h
    · rename_i hb
      obtain ⟨e, rfl⟩ := shapeK_ptr hk; simp at h; obtain ⟨rfl, rfl⟩ := h
      obtain ⟨A, rfl, rfl⟩ := isNilP_spec m hb hu
      rw [Sem.run_bind, eqGuard_plain rfl, Result.andThen_ok]
      simp only [binOp, Sem.run_bind, equal_ptr hd, Result.andThen_ok, Sem.run_pure]
    · rename_i hb
      obtain ⟨e, rfl⟩ := shapeK_ptr hk; simp at h; obtain ⟨rfl, rfl⟩ := h
      obtain ⟨A, rfl, rfl⟩ := isNilP_spec m hb hu
      rw [Sem.run_bind, eqGuard_plain rfl, Result.andThen_ok]
      simp only [binOp, Sem.run_bind, equal_ptr hd, Result.andThen_ok, Sem.run_pure]
    · cases h
  · cases h
end
section
variable {P : Program} {w : World}
theorem run_value {s : Sem Value} {x : Value} (h : s.run P w = .ok x w) : (do pure (.value (← s)) : Sem Next).run P w = .ok (.value x) w := by
  simp only [Sem.run_bind, h, Result.andThen_ok, Sem.run_pure]
theorem TI.ok.stc {id sz by_ : Nat} {l : List (Nat × Nat)} {z : Value} {q : Bool} (h : (TI.mk id sz by_ (.st l) z q).ok P) : ∃ fs : Array Field, P.underlying id = some (.struct fs) ∧ fs.toList.map (fun f => (f.offset, f.type)) = l := by
  obtain ⟨d, h1, h2⟩ := TI.ok.desc h
  obtain ⟨fs, rfl, e⟩ := shapeK_st h2
  exact ⟨fs, h1, e⟩
theorem field_get {fs : Array Field} {l : List (Nat × Nat)} (e : fs.toList.map (fun f => (f.offset, f.type)) = l) {n d t : Nat} (h : nth l n = some (d, t)) : ∃ f, fs[n]? = some f ∧ f.offset = d ∧ f.type = t := by
  rw [nth_eq, ← e, List.getElem?_map] at h
  cases x : fs.toList[n]? with
  | none => rw [x] at h; cases h
  | some f => rw [x] at h; simp at h; exact ⟨f, by simpa using x, h.1, h.2⟩
theorem run_fieldAt {t : TypeId} {fs : Array Field} (hu : P.underlying t = some (.struct fs)) {n : Nat} {f : Field} (hf : fs[n]? = some f) {i : TypeInfo} (hi : P.info? f.type = some i) (hn : i.size ≠ 0) (a : Addr) :
    (Instr.fieldAt t (.pointer (some a)) n).run P w = .ok (.pointer (some (a.add f.offset))) w := by
  simp only [Instr.fieldAt, Sem.run_bind, run_underlying hu, Result.andThen_ok, hf, Instr.sureAddr, Sem.run_pure, fieldPlace, run_size hi]
  rw [if_neg hn]
  simp only [Sem.run_pure, Result.andThen_ok]
theorem run_indexAt {t e : TypeId} (hu : P.underlying t = some (.slice e)) {i : TypeInfo} (hi : P.info? e = some i) (b o n c : Nat) (k : IntKind) (j : Int) (h0 : 0 ≤ j ∧ j < n) :
    (Instr.indexAt t (.slice (some ⟨b, o, none⟩) n c) (.int k j)).run P w = .ok (.pointer (some ⟨b, o + j.toNat * i.size, none⟩)) w := by
  simp only [Instr.indexAt, asIntOf, Sem.run_bind, Sem.run_pure, run_underlying hu, Result.andThen_ok]
  rw [if_pos h0]
  simp only [Sem.run_bind, run_size hi, Result.andThen_ok, Sem.run_pure, add_mk]
theorem addr_add_add (a : Addr) (m n : Nat) : (a.add m).add n = if m + n = 0 then a else { a with off := a.off + m + n, spot := none } := by
  unfold Addr.add
  by_cases h1 : m = 0 <;> by_cases h2 : n = 0 <;> simp [h1, h2]
theorem p_add (a : Addr) (o d : Nat) : a.add (o + d) = (a.add o).add d := by
  rw [addr_add_add]; unfold Addr.add
  by_cases h : o + d = 0
  · rw [if_pos h, if_pos h]
  · rw [if_neg h, if_neg h]; simp [Nat.add_assoc]
theorem addP_add (x : Value) (o d : Nat) : addP (addP x o) d = addP x (o + d) := by
  cases x with
  | pointer a => cases a with
    | none => rfl
    | some a => simp only [addP, p_add]
  | _ => rfl
theorem run_part {ti : TI} (hti : ti.ok P) (cs : Array Value) (d : Nat) (l : List Value) (hl : cut cs.toList d ti.sz = some l) (x : Value) (hx : (ti.isAg = true ∧ x = .agg l.toArray) ∨ (ti.isAg = false ∧ l = [x])) :
    (part ti.id cs d).run P w = .ok x w := by
  obtain ⟨i, h1, h2, _, _⟩ := hti.info
  obtain ⟨c1, c2⟩ := cut_spec _ _ _ _ hl
  simp only [part, Sem.run_bind, run_isAgg hti, Result.andThen_ok]
  rcases hx with ⟨e, rfl⟩ | ⟨e, rfl⟩
  · rw [e, if_pos rfl]
    simp only [Sem.run_bind, run_size h1, Result.andThen_ok, Sem.run_pure, h2]
    congr 2
    apply Array.ext_getElem?
    intro j
    by_cases hj : j < ti.sz
    · have := c2 j hj
      simp only [Array.getElem?_toList] at this
      simp only [List.getElem?_toArray, this]
      rw [Array.getElem?_extract]
      rw [if_pos]
      have hs : (l[j]?).isSome := by rw [List.getElem?_eq_getElem (by omega)]; rfl
      rw [this] at hs
      have : d + j < cs.size := by
        cases hc : cs[d + j]? with
        | none => rw [hc] at hs; cases hs
        | some u => exact (Array.getElem?_eq_some_iff.1 hc).1
      omega
    · rw [Array.getElem?_eq_none (by simp; omega), Array.getElem?_eq_none (by simp; omega)]
  · rw [e, if_neg (by simp)]
    have hz : ti.sz = 1 := by simpa using c1.symm
    have := c2 0 (by omega)
    simp at this
    simp only [← this, Sem.run_pure]
theorem foldl_set (o : Nat) : ∀ (ys : List Value) (k : Nat) (cs : Array Value), ((ys.zipIdx k).foldl (fun cs p => cs.setIfInBounds (o + p.2) p.1) cs).size = cs.size ∧
    ∀ i, ((ys.zipIdx k).foldl (fun cs p => cs.setIfInBounds (o + p.2) p.1) cs)[i]? = if o + k ≤ i ∧ i < o + k + ys.length ∧ i < cs.size then ys[i - (o + k)]? else cs[i]?
  | [], k, cs => ⟨rfl, fun i => by simp only [List.zipIdx_nil, List.foldl_nil, List.length_nil]; rw [if_neg (by omega)]⟩
  | y :: ys, k, cs => by
    simp only [List.zipIdx_cons, List.foldl_cons]
    obtain ⟨h1, h2⟩ := foldl_set o ys (k + 1) (cs.setIfInBounds (o + k) y)
    refine ⟨by rw [h1]; simp, fun i => ?_⟩
    rw [h2 i]
    simp only [Array.size_setIfInBounds, List.length_cons]
    by_cases c1 : i = o + k
    · subst c1
      rw [if_neg (by omega)]
      by_cases c2 : o + k < cs.size
      · rw [if_pos (by omega)]; simp [c2]
      · rw [if_neg (by omega)]; rw [Array.getElem?_eq_none (by simp; omega), Array.getElem?_eq_none (by omega)]
    · by_cases c2 : o + (k + 1) ≤ i ∧ i < o + (k + 1) + ys.length ∧ i < cs.size
      · rw [if_pos c2, if_pos (by omega), show i - (o + k) = (i - (o + (k + 1))) + 1 from by omega, List.getElem?_cons_succ]
      · rw [if_neg c2, if_neg (by omega)]
        exact Array.getElem?_setIfInBounds_ne (by omega)
theorem paste_fold {l ys m : List Value} {o : Nat} (h : paste l o ys = some m) : (ys.toArray.zipIdx.foldl (fun cs p => cs.setIfInBounds (o + p.2) p.1) l.toArray) = m.toArray := by
  obtain ⟨h1, h2, h3, h4⟩ := paste_spec l o ys m h
  rw [← Array.foldl_toList]
  simp only [Array.toList_zipIdx]
  obtain ⟨e1, e2⟩ := foldl_set o ys 0 l.toArray
  apply Array.ext_getElem?
  intro i
  rw [e2 i]
  simp only [List.size_toArray, Nat.add_zero, List.getElem?_toArray]
  by_cases c : o ≤ i ∧ i < o + ys.length ∧ i < l.length
  · rw [if_pos c]
    have := h3 (i - o) (by omega)
    rw [show o + (i - o) = i from by omega] at this
    exact this.symm
  · rw [if_neg c]
    by_cases c2 : i < l.length
    · exact (h4 i (by omega)).symm
    · rw [List.getElem?_eq_none (by omega), List.getElem?_eq_none (by omega)]
theorem fill_ok {TT : List TI} (hT : TOk P TT) {fs : List (Nat × Nat)} {place : Nat → Option (Nat × Nat)} (hp : ∀ i o t ti, nth fs i = some (o, t) → tlk t TT = some ti → place i = some (o, ti.sz)) {B : BE} {Z : Tg → PH} :
    ∀ (ps : List (Nat × SV)) (qs : List (Nat × Value)) (l m : List V) (vs : List Value), (qs.map (·.1) = ps.map (·.1)) → SV.rels P B Z (ps.map (·.2)) (qs.map (·.2)) → V.rels B Z l vs → fillParts TT fs ps l = some m → ∃ ms, Instr.fill place vs.toArray qs = some ms.toArray ∧ V.rels B Z m ms
  | [], qs, l, m, vs, hq, _, hl, h => by
    have : qs = [] := by simpa using hq
    subst this
    simp [fillParts] at h; subst h; exact ⟨vs, rfl, hl⟩
  | (i, x) :: r, [], l, m, vs, hq, hr, hl, h => by simp at hq
  | (i, x) :: r, (i', y) :: qs, l, m, vs, hq, hr, hl, h => by
    simp only [List.map_cons, List.cons.injEq] at hq
    obtain ⟨rfl, hq⟩ := hq
    obtain ⟨y', t', e0, hx, hr⟩ := hr
    simp only [List.map_cons, List.cons.injEq] at e0
    obtain ⟨rfl, rfl⟩ := e0
    simp only [fillParts] at h
    cases e1 : nth fs i' with
    | none => rw [e1] at h; cases h
    | some q =>
      obtain ⟨o, ft⟩ := q
      cases e2 : x.cells with
      | none => rw [e1, e2] at h; cases h
      | some cs =>
        rw [e1, e2] at h
        simp only at h
        cases e3 : tlk ft TT with
        | none => rw [e3] at h; cases h
        | some tf =>
          rw [e3] at h
          simp only at h
          cases e4 : lenEq cs tf.sz with
          | false => rw [e4] at h; cases h
          | true =>
            rw [e4] at h
            simp only [cond_true] at h
            cases e5 : paste l o cs with
            | none => rw [e5] at h; cases h
            | some l' =>
              rw [e5] at h
              have hc := cells_rel e2 hx
              have hlen := lenEq_spec _ _ e4
              have hsz : y.cells.size = tf.sz := by rw [← Array.length_toList, V.rels_length hc]; exact hlen
              obtain ⟨ms, g1, g2⟩ := paste_rels hl hc e5
              obtain ⟨p1, p2, _, _⟩ := paste_spec _ _ _ _ g1
              have hA : y.cells = y.cells.toList.toArray := by simp
              simp only [Instr.fill, hp i' o ft tf e1 e3]
              rw [if_neg (by
                simp only [hsz, ne_eq, not_true_eq_false, decide_false, Bool.false_or, decide_eq_true_eq, List.size_toArray]
                rw [← hsz, ← Array.length_toList]; omega)]
              rw [hA, paste_fold g1]
              exact fill_ok hT hp r qs l' m ms hq hr g2 h
theorem vcellsL_rel {B : BE} {Z : Tg → PH} (z : Value) : V.rels B Z (vcellsL z) z.cells.toList := by
  cases z <;> first | exact rels_v [_] | exact rels_v _
theorem run_mapM_places : ∀ (fs : List Field), (∀ f ∈ fs, ∃ i, P.info? f.type = some i) → ∃ ps : List (Nat × Nat), (∀ w, (fs.mapM fun (f : Field) => do pure (f.offset, ← sizeOf f.type) : Sem (List (Nat × Nat))).run P w = .ok ps w) ∧ ∀ (i : Nat) (f : Field), fs[i]? = some f → ∀ inf, P.info? f.type = some inf → ps[i]? = some (f.offset, inf.size)
  | [], _ => ⟨[], by simp, fun i f h => by simp at h⟩
  | f :: r, h => by
    obtain ⟨i, hi⟩ := h f List.mem_cons_self
    obtain ⟨ps, h1, h2⟩ := run_mapM_places r (fun g hg => h g (List.mem_cons_of_mem _ hg))
    refine ⟨(f.offset, i.size) :: ps, ?_, ?_⟩
    · intro w; simp only [List.mapM_cons, Sem.run_bind, run_size hi, Result.andThen_ok, Sem.run_pure, h1]
    · intro j g hj inf hinf
      cases j with
      | zero => simp at hj; subst hj; rw [hi] at hinf; injection hinf with hinf; subst hinf; rfl
      | succ j => simp at hj ⊢; exact h2 j g hj inf hinf
end
end
end Go.Proofs.YthpjoddhlkcciaaGreat
