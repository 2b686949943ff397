/-
  Kinds of data: how a datum lies in memory, to be read and to be owned. No program in sight.
-/
import Derived.Test.YtiilpopeognekaaH
namespace Go.Proofs.Ytiilpopeognekaa
open Go Go.RowKit
set_option linter.unusedVariables false
set_option linter.unusedSimpArgs false

structure Kd (α : Type) where
  sz : Nat
  rd : PH → α → List Value → Prop
  own : PH → α → List Value → Prop
  len : ∀ {h x vs}, rd h x vs → vs.length = sz
  mono : ∀ {h k x vs}, rd h x vs → h.le k → rd k x vs
  omono : ∀ {h k x vs}, own h x vs → h.le k → own k x vs
  ord : ∀ {h x vs}, own h x vs → rd h x vs

def Kd.lit {α : Type} (f : α → Value) : Kd α where
  sz := 1
  rd := fun _ x vs => vs = [f x]
  own := fun _ x vs => vs = [f x]
  len := by rintro h x vs rfl; rfl
  mono := fun e _ => e
  omono := fun e _ => e
  ord := fun e => e
def Kd.int : Kd Int := Kd.lit fun x => .int .i64 x
def Kd.bool : Kd Bool := Kd.lit fun x => .bool x
def Kd.str : Kd ByteArray := Kd.lit fun x => .string x

def Kd.pair {α β : Type} (k : Kd α) (l : Kd β) : Kd (α × β) where
  sz := k.sz + l.sz
  rd := fun h x vs => ∃ us ws, vs = us ++ ws ∧ k.rd h x.1 us ∧ l.rd h x.2 ws
  own := fun h x vs => ∃ us ws h1 h2, vs = us ++ ws ∧ h1.le h ∧ h2.le h ∧ h1.dj h2 ∧ k.own h1 x.1 us ∧ l.own h2 x.2 ws
  len := by rintro h x vs ⟨us, ws, rfl, a, b⟩; simp [k.len a, l.len b]
  mono := by rintro h k' x vs ⟨us, ws, rfl, a, b⟩ m; exact ⟨us, ws, rfl, k.mono a m, l.mono b m⟩
  omono := by rintro h k' x vs ⟨us, ws, h1, h2, rfl, a, b, d, c, e⟩ m; exact ⟨us, ws, h1, h2, rfl, PH.le_trans a m, PH.le_trans b m, d, c, e⟩
  ord := by rintro h x vs ⟨us, ws, h1, h2, rfl, a, b, d, c, e⟩; exact ⟨us, ws, rfl, k.mono (k.ord c) a, l.mono (l.ord e) b⟩

def Kd.iso {α β : Type} (k : Kd β) (f : α → β) : Kd α where
  sz := k.sz
  rd := fun h x vs => k.rd h (f x) vs
  own := fun h x vs => k.own h (f x) vs
  len := k.len
  mono := k.mono
  omono := k.omono
  ord := k.ord

/-! ### Rows of elements -/
def maxL : Nat := 9223372036854775807
section
variable {α : Type} (k : Kd α)
/-- the elements lie at ⟨b, o⟩ and on, each as the row tells -/
def Kd.rows (h : PH) (b o : Nat) (xs : List α) (row : Nat → List Value) : Prop :=
  ∀ i x, xs[i]? = some x → k.rd h x (row i) ∧ ∀ j, j < k.sz → h b (o + i * k.sz + j) = (row i)[j]?
/-- a slice value that reads as a list -/
def Kd.srd (h : PH) (v : Value) (xs : List α) : Prop :=
  ∃ A c, v = .slice A xs.length c ∧ xs.length ≤ c ∧ xs.length ≤ maxL ∧ (0 < xs.length → ∃ b o row, A = some ⟨b, o, none⟩ ∧ k.rows h b o xs row)
/-- the elements' own parts -/
def Kd.parts (h : PH) (b : Nat) (xs : List α) (row : Nat → List Value) : Prop :=
  ∃ H : Nat → PH, (∀ i x, xs[i]? = some x → k.own (H i) x (row i)) ∧ (∀ i, (H i).le h) ∧ (∀ i j, i ≠ j → (H i).dj (H j)) ∧ ∀ i o, H i b o = none
/-- a slice value that owns its row: the elements, and the room behind them -/
def Kd.sown (h : PH) (v : Value) (xs : List α) : Prop :=
  ∃ A c, v = .slice A xs.length c ∧ xs.length ≤ c ∧ xs.length ≤ maxL ∧ ((A = none ∧ c = 0) ∨ ∃ b o row, A = some ⟨b, o, none⟩ ∧
    (∀ i, i < xs.length → (row i).length = k.sz ∧ ∀ j, j < k.sz → h b (o + i * k.sz + j) = (row i)[j]?) ∧
    (∀ i, xs.length ≤ i → i < c → ∀ j, j < k.sz → h b (o + i * k.sz + j) ≠ none) ∧ k.parts h b xs row)

variable {k}
theorem Kd.srd_mono {h m : PH} {v : Value} {xs : List α} (r : k.srd h v xs) (l : h.le m) : k.srd m v xs := by
  obtain ⟨A, c, e, n, nl, f⟩ := r
  refine ⟨A, c, e, n, nl, fun hp => ?_⟩
  obtain ⟨b, o, row, ea, hr⟩ := f hp
  refine ⟨b, o, row, ea, fun i x hx => ⟨k.mono (hr i x hx).1 l, fun j hj => ?_⟩⟩
  have h1 := (hr i x hx).2 j hj
  have h2 : j < (row i).length := by rw [k.len (hr i x hx).1]; exact hj
  rw [List.getElem?_eq_getElem h2] at h1 ⊢
  exact l _ _ _ h1
theorem Kd.sown_mono {h m : PH} {v : Value} {xs : List α} (r : k.sown h v xs) (l : h.le m) : k.sown m v xs := by
  obtain ⟨A, c, e, n, nl, f⟩ := r
  refine ⟨A, c, e, n, nl, ?_⟩
  rcases f with f | ⟨b, o, row, ea, hr, hc, H, h1, h2, h3⟩
  · exact .inl f
  · refine .inr ⟨b, o, row, ea, fun i hi => ⟨(hr i hi).1, fun j hj => ?_⟩, fun i hi hc' j hj => ?_, H, h1, fun i => PH.le_trans (h2 i) l, h3⟩
    · have h1 := (hr i hi).2 j hj
      have h2 : j < (row i).length := by rw [(hr i hi).1]; exact hj
      rw [List.getElem?_eq_getElem h2] at h1 ⊢
      exact l _ _ _ h1
    · have := hc i hi hc' j hj
      cases hx : h b (o + i * k.sz + j) with
      | none => exact absurd hx this
      | some u => rw [l _ _ _ hx]; simp
theorem Kd.sown_srd {h : PH} {v : Value} {xs : List α} (r : k.sown h v xs) : k.srd h v xs := by
  obtain ⟨A, c, e, n, nl, f⟩ := r
  refine ⟨A, c, e, n, nl, fun hp => ?_⟩
  rcases f with ⟨rfl, rfl⟩ | ⟨b, o, row, ea, hr, _, H, h1, h2, _⟩
  · omega
  · refine ⟨b, o, row, ea, fun i x hx => ⟨k.mono (k.ord (h1 i x hx)) (h2 i), fun j hj => (hr i ?_).2 j hj⟩⟩
    exact (List.getElem?_eq_some_iff.1 hx).1
theorem Kd.srd_nil (h : PH) : k.srd h (.slice none 0 0) ([] : List α) := ⟨none, 0, rfl, Nat.le_refl _, Nat.zero_le _, fun hp => absurd hp (by simp)⟩
theorem Kd.sown_nil (h : PH) : k.sown h (.slice none 0 0) ([] : List α) := ⟨none, 0, rfl, Nat.le_refl _, Nat.zero_le _, .inl ⟨rfl, rfl⟩⟩
end

def Kd.slice {α : Type} (k : Kd α) : Kd (List α) where
  sz := 1
  rd := fun h xs vs => ∃ v, vs = [v] ∧ k.srd h v xs
  own := fun h xs vs => ∃ v, vs = [v] ∧ k.sown h v xs
  len := by rintro h x vs ⟨v, rfl, _⟩; rfl
  mono := by rintro h m x vs ⟨v, rfl, a⟩ l; exact ⟨v, rfl, Kd.srd_mono a l⟩
  omono := by rintro h m x vs ⟨v, rfl, a⟩ l; exact ⟨v, rfl, Kd.sown_mono a l⟩
  ord := by rintro h x vs ⟨v, rfl, a⟩; exact ⟨v, rfl, Kd.sown_srd a⟩

/-! ### Flat kinds: the cells are told by the datum alone -/
structure Kd.Flat {α : Type} (k : Kd α) (enc : α → List Value) : Prop where
  rd : ∀ {h x vs}, k.rd h x vs ↔ vs = enc x
  own : ∀ {h x vs}, k.own h x vs ↔ vs = enc x
  sz : ∀ x, (enc x).length = k.sz
theorem Kd.flat_int : Kd.int.Flat fun x => [.int .i64 x] := ⟨Iff.rfl, Iff.rfl, fun _ => rfl⟩
theorem Kd.flat_bool : Kd.bool.Flat fun x => [.bool x] := ⟨Iff.rfl, Iff.rfl, fun _ => rfl⟩
theorem Kd.flat_str : Kd.str.Flat fun x => [.string x] := ⟨Iff.rfl, Iff.rfl, fun _ => rfl⟩
theorem Kd.Flat.pair {α β : Type} {k : Kd α} {l : Kd β} {f : α → List Value} {g : β → List Value} (a : k.Flat f) (b : l.Flat g) : (k.pair l).Flat fun x => f x.1 ++ g x.2 := by
  refine ⟨fun {h x vs} => ⟨?_, ?_⟩, fun {h x vs} => ⟨?_, ?_⟩, fun x => by simp [Kd.pair, a.sz, b.sz]⟩
  · rintro ⟨us, ws, rfl, p, q⟩; rw [a.rd.1 p, b.rd.1 q]
  · rintro rfl; exact ⟨_, _, rfl, a.rd.2 rfl, b.rd.2 rfl⟩
  · rintro ⟨us, ws, h1, h2, rfl, _, _, _, p, q⟩; rw [a.own.1 p, b.own.1 q]
  · rintro rfl; exact ⟨_, _, PH.emp, PH.emp, rfl, PH.emp_le _, PH.emp_le _, PH.emp_dj _, a.own.2 rfl, b.own.2 rfl⟩
theorem Kd.Flat.iso {α β : Type} {k : Kd β} {f : β → List Value} (a : k.Flat f) (g : α → β) : (k.iso g).Flat fun x => f (g x) := ⟨a.rd, a.own, fun x => a.sz (g x)⟩

end Go.Proofs.Ytiilpopeognekaa
