/-
  What a law is handed: from the statement's reading of an argument to a kind's.
-/
import Derived.Test.YtiilpopeognekaaL
import Derived.ChangeArms
import Derived.MapPlaces
namespace Go.Proofs.Ytiilpopeognekaa
open Go Go.RowKit
set_option linter.unusedVariables false
set_option linter.unusedSimpArgs false

/-- all that lies unfrozen -/
def rofW (W : World) : PH := fun b o => match W.cell? ⟨b, o, none⟩ with
  | some v => bif W.frozen? ⟨b, o, none⟩ then none else some v
  | none => none
theorem rofW_fit (W : World) : Fit (rofW W) W := fun b o v e => by
  unfold rofW at e
  cases h : W.cell? ⟨b, o, none⟩ with
  | none => rw [h] at e; cases e
  | some u =>
    rw [h] at e
    simp only at e
    cases hf : W.frozen? ⟨b, o, none⟩ with
    | true => rw [hf] at e; cases e
    | false => rw [hf] at e; exact ⟨e, rfl⟩
theorem rofW_at {W : World} {b o : Nat} {v : Value} (h : W.cell? ⟨b, o, none⟩ = some v) (hf : W.frozen? ⟨b, o, none⟩ = false) : rofW W b o = some v := by
  unfold rofW; rw [h]; simp only; rw [hf]; rfl
def Opens (P : Program) (t : TypeId) {α : Type} (k : Kd α) : Prop :=
  ∀ {H : Type} (enc : TypeId × Value → H) (W : World) (fuel : Nat) (cs : List Value) (x : DataW H × List MemPlace),
    DataW.trod enc P W 0 (fun _ => true) true fuel t cs = some x → W.noneFrozen x.2 → ∃ y, k.rd (rofW W) y cs
section
variable {P : Program} {TT : List TI}
theorem opens_int {t : TypeId} (h : P.underlying t = some (.int .i64)) : Opens P t kInt := fun enc W fuel cs x hx _ => by
  have : ∃ y : Int, cs = [.int .i64 y] := by
    cases fuel with
    | zero => simp [DataW.trod] at hx
    | succ n =>
      unfold DataW.trod at hx
      rw [h] at hx
      split at hx <;> simp_all
  obtain ⟨y, rfl⟩ := this
  exact ⟨y, rfl⟩
theorem opens_bool {t : TypeId} (h : P.underlying t = some .bool) : Opens P t kBool := fun enc W fuel cs x hx _ => by
  have : ∃ y : Bool, cs = [.bool y] := by
    cases fuel with
    | zero => simp [DataW.trod] at hx
    | succ n =>
      unfold DataW.trod at hx
      rw [h] at hx
      split at hx <;> first | exact ⟨_, rfl⟩ | simp_all
  obtain ⟨y, rfl⟩ := this
  exact ⟨y, rfl⟩
theorem noneFrozen_sub {W : World} {ps qs : List MemPlace} (h : W.noneFrozen ps) (hs : ∀ x ∈ qs, x ∈ ps) : W.noneFrozen qs := fun b o hm => h b o (hs _ hm)
theorem spot_none {W : World} {a : Addr} {v : Value} (h : W.cell? a = some v) : a = ⟨a.block, a.off, none⟩ := by
  obtain ⟨b, o, s⟩ := a
  cases s with
  | none => rfl
  | some s =>
    simp only [World.cell?] at h
    split at h <;> simp at h
theorem add_add_none (b o i j : Nat) : ((⟨b, o, none⟩ : Addr).add i).add j = ⟨b, o + i + j, none⟩ := by
  unfold Addr.add
  by_cases hi : i = 0 <;> by_cases hj : j = 0 <;> simp [hi, hj]
theorem opens_slice {t e : TypeId} {α : Type} {k : Kd α} (ht : P.underlying t = some (.slice e)) (hk : Opens P e k) (hc : P.cellsOf e = k.sz) (hpos : 0 < k.sz) : Opens P t k.slice := fun enc W fuel cs x hx hf => by
  rcases DataW.trod_slice ht hx with ⟨rfl, rfl⟩ | ⟨a, len, cap, elems, rest, n, _, rfl, rfl, hb, hl, hm, hlen, hel, _, _⟩
  · exact ⟨[], _, rfl, Kd.srd_nil _⟩
  · rw [hc] at hel
    have each : ∀ i, i < len → ∃ y row, k.rd (rofW W) y row ∧ row.length = k.sz ∧ ∀ j, j < k.sz → W.cell? ((a.add (i * k.sz)).add j) = row[j]? := by
      intro i hi
      have h1 := hel i hi
      cases hcs : W.cells? 0 (a.add (i * k.sz)) k.sz with
      | none => rw [hcs] at h1; simp at h1; omega
      | some cs =>
        rw [hcs] at h1
        simp only [Option.bind_some] at h1
        obtain ⟨g1, g2, g3⟩ := World.cells?_some hcs
        have hlt : i < elems.length := by omega
        rw [List.getElem?_eq_getElem hlt] at h1
        obtain ⟨y, hy⟩ := hk enc W n cs _ h1 (noneFrozen_sub hf fun x hx => List.mem_append_right _ (List.mem_flatMap.2 ⟨_, List.mem_append_left _ (List.getElem_mem hlt), hx⟩))
        exact ⟨y, cs, hy, g2, g3⟩
    by_cases h0 : len = 0
    · subst h0
      exact ⟨[], _, rfl, some a, cap, rfl, by simp, Nat.zero_le _, fun hp => absurd hp (by simp)⟩
    · obtain ⟨y0, row0, _, r2, r3⟩ := each 0 (by omega)
      have ha : a = ⟨a.block, a.off, none⟩ := by
        have h := r3 0 hpos
        rw [List.getElem?_eq_getElem (by omega)] at h
        have : (a.add (0 * k.sz)).add 0 = a := by rw [Nat.zero_mul]; rfl
        rw [this] at h
        exact spot_none h
      have hadd : ∀ i j, (a.add i).add j = ⟨a.block, a.off + i + j, none⟩ := fun i j => by
        conv => lhs; rw [ha]
        exact add_add_none _ _ i j
      have hcell : ∀ i j, i < len → j < k.sz → MemPlace.cell a.block (a.off + i * k.sz + j) ∈ MemPlace.row a ((elems.length + rest.length) * P.cellsOf e) := fun i j hi hj => by
        refine MemPlace.mem_row.2 ⟨i * k.sz + j, ?_, by rw [Nat.add_assoc]⟩
        rw [hc]
        have h1 : (i + 1) * k.sz ≤ (elems.length + rest.length) * k.sz := Nat.mul_le_mul_right _ (by omega)
        rw [Nat.add_mul, Nat.one_mul] at h1
        omega
      let f : Nat → α := fun i => if h : i < len then (each i h).choose else y0
      let g : Nat → List Value := fun i => if h : i < len then (each i h).choose_spec.choose else []
      have hfg : ∀ i, i < len → k.rd (rofW W) (f i) (g i) ∧ (g i).length = k.sz ∧ ∀ j, j < k.sz → W.cell? ((a.add (i * k.sz)).add j) = (g i)[j]? := fun i hi => by
        simp only [f, g, hi, dif_pos]
        exact (each i hi).choose_spec.choose_spec
      have hml : len ≤ maxL := Nat.le_trans (Nat.le_trans hl hm) (Nat.le_of_ble_eq_true rfl)
      refine ⟨(List.range len).map f, _, rfl, some a, cap, by simp, by simpa using hl, by simpa using hml, fun _ => ⟨a.block, a.off, g, by rw [← ha], fun i y hy => ?_⟩⟩
      have hi : i < len := by
        have := (List.getElem?_eq_some_iff.1 hy).1
        simpa using this
      rw [List.getElem?_map, List.getElem?_range hi] at hy
      injection hy with hy
      subst hy
      obtain ⟨q1, q2, q3⟩ := hfg i hi
      refine ⟨q1, fun j hj => ?_⟩
      have h := q3 j hj
      rw [hadd] at h
      rw [List.getElem?_eq_getElem (by omega)] at h ⊢
      exact rofW_at h (hf _ _ (List.mem_append_left _ (hcell i j hi hj)))
/-- a struct's fields -/
theorem opens_fields (hT : TOk P TT) {t : TypeId} {sz by_ : Nat} {z : Value} {l : List (Nat × Nat)} (h1 : tlk t TT = some ⟨t, sz, by_, .st l, z⟩) {H : Type} {enc : TypeId × Value → H} {W : World} {fuel : Nat} {cs : List Value} {x : DataW H × List MemPlace}
    (hx : DataW.trod enc P W 0 (fun _ => true) true fuel t cs = some x) (hf : W.noneFrozen x.2) : cs.length = sz ∧ ∀ (i o : Nat) (ft : Nat) (tf : TI), l[i]? = some (o, ft) → tlk ft TT = some tf → ∃ (n : Nat) (y : DataW H × List MemPlace), DataW.trod enc P W 0 (fun _ => true) true n ft ((cs.drop o).take tf.sz) = some y ∧ W.noneFrozen y.2 := by
  obtain ⟨_, ok⟩ := hT.get h1
  obtain ⟨d, d1, d2⟩ := ok.desc
  obtain ⟨i, i1, i2, _⟩ := ok.info
  simp only at d1 d2 i1 i2
  obtain ⟨fs, rfl, hfs⟩ := shapeK_st d2
  obtain ⟨xs, n, _, rfl, h3, h4, h5⟩ := DataW.trod_struct d1 hx
  refine ⟨by rw [h3]; simp [Program.cellsOf, i1, i2], fun j o ft tf hj ht => ?_⟩
  rw [← hfs, List.getElem?_map] at hj
  cases hfj : fs.toList[j]? with
  | none => rw [hfj] at hj; cases hj
  | some f =>
    rw [hfj] at hj
    simp at hj
    obtain ⟨rfl, rfl⟩ := hj
    have hfj' : fs[j]? = some f := by simpa using hfj
    have h6 := h5 j f hfj'
    obtain ⟨e1, ok2⟩ := hT.get ht
    obtain ⟨i', j1, j2, _⟩ := ok2.info
    have hlt : j < xs.length := by rw [h4]; exact (Array.getElem?_eq_some_iff.1 hfj').1
    rw [List.getElem?_eq_getElem hlt] at h6
    refine ⟨n, xs[j], ?_, noneFrozen_sub hf fun y hy => List.mem_flatMap.2 ⟨_, List.getElem_mem hlt, hy⟩⟩
    rw [← h6]
    congr 2
    simp [Program.cellsOf, ← e1, j1, j2]
end
theorem trodAll_one {H : Type} {enc : TypeId × Value → H} {P : Program} {w : World} {base : Nat} {spare : Nat → Bool} {held : Bool} {t : TypeId} {v : Value} {d : DataW H} {ps : List MemPlace} (h : DataW.Trod enc P w base spare held t v d ps) : DataW.TrodAll enc P w base spare held [t] [v] [d] (ps ++ []) := ⟨ps, [], h, rfl, rfl⟩
end Go.Proofs.Ytiilpopeognekaa
