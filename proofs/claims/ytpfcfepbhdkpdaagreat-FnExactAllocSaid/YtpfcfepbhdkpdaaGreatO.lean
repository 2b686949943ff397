
/-
  What a law is handed: from the statement's reading of an argument to a kind's.
-/
import Derived.Test.YtpfcfepbhdkpdaaGreatPA
import Derived.ChangeArms
import Derived.MapPlaces
namespace Go.Proofs.YtpfcfepbhdkpdaaGreat
open Go Go.RowKit
set_option linter.unusedVariables false
set_option linter.unusedSimpArgs false

/-- all that lies unfrozen -/
def rofW (W : World) : PH := fun b o => match W.cell? ⟨b, o, none⟩ with
  | some v => bif W.frozen? ⟨b, o, none⟩ then none else some v
  | none => none
theorem rofW_fit (W : World) : Fit (rofW W) W := fun b o v e => by
  unfold rofW at e
  cases h : W.cell? ⟨b, o, none⟩ with
  | none => rw [h] at e; cases e
  | some u =>
    rw [h] at e
    simp only at e
    cases hf : W.frozen? ⟨b, o, none⟩ with
    | true => rw [hf] at e; cases e
    | false => rw [hf] at e; exact ⟨e, rfl⟩
theorem rofW_at {W : World} {b o : Nat} {v : Value} (h : W.cell? ⟨b, o, none⟩ = some v) (hf : W.frozen? ⟨b, o, none⟩ = false) : rofW W b o = some v := by
  unfold rofW; rw [h]; simp only; rw [hf]; rfl
def Opens (P : Program) (t : TypeId) {α : Type} (k : α → List D) : Prop :=
  ∀ {H : Type} (enc : TypeId × Value → H) (W : World) (fuel : Nat) (cs : List Value) (x : DataW H × List MemPlace),
    DataW.trod enc P W 0 (fun _ => true) true fuel t cs = some x → W.noneFrozen x.2 → ∃ y, D.rds (rofW W) (k y) cs
section
variable {P : Program} {TT : List TI}
theorem opens_int {t : TypeId} (h : P.underlying t = some (.int .i64)) : Opens P t cInt := fun enc W fuel cs x hx _ => by
  have : ∃ y : Int, cs = [.int .i64 y] := by
    cases fuel with
    | zero => simp [DataW.trod] at hx
    | succ n =>
      unfold DataW.trod at hx
      rw [h] at hx
      split at hx <;> simp_all
  obtain ⟨y, rfl⟩ := this
  exact ⟨y, _, _, rfl, rfl, rfl⟩
theorem opens_bool {t : TypeId} (h : P.underlying t = some .bool) : Opens P t cBool := fun enc W fuel cs x hx _ => by
  have : ∃ y : Bool, cs = [.bool y] := by
    cases fuel with
    | zero => simp [DataW.trod] at hx
    | succ n =>
      unfold DataW.trod at hx
      rw [h] at hx
      split at hx <;> first | exact ⟨_, rfl⟩ | simp_all
  obtain ⟨y, rfl⟩ := this
  exact ⟨y, _, _, rfl, rfl, rfl⟩
theorem noneFrozen_sub {W : World} {ps qs : List MemPlace} (h : W.noneFrozen ps) (hs : ∀ x ∈ qs, x ∈ ps) : W.noneFrozen qs := fun b o hm => h b o (hs _ hm)
theorem spot_none {W : World} {a : Addr} {v : Value} (h : W.cell? a = some v) : a = ⟨a.block, a.off, none⟩ := by
  obtain ⟨b, o, s⟩ := a
  cases s with
  | none => rfl
  | some s =>
    simp only [World.cell?] at h
    split at h <;> simp at h
theorem add_add_none (b o i j : Nat) : ((⟨b, o, none⟩ : Addr).add i).add j = ⟨b, o + i + j, none⟩ := by
  unfold Addr.add
  by_cases hi : i = 0 <;> by_cases hj : j = 0 <;> simp [hi, hj]
theorem opens_slice {t e : TypeId} {α : Type} {k : α → List D} (sz : Nat) (z : α) (ht : P.underlying t = some (.slice e)) (hk : Opens P e k) (hc : P.cellsOf e = sz) (hpos : 0 < sz) : Opens P t fun xs : List α => [dL sz k z xs] := fun enc W fuel cs x hx hf => by
  rcases DataW.trod_slice ht hx with ⟨rfl, rfl⟩ | ⟨a, len, cap, elems, rest, n, _, rfl, rfl, hb, hl, hm, hlen, hel, _, _⟩
  · exact ⟨[], _, _, rfl, ⟨none, 0, rfl, Nat.le_refl _, Nat.zero_le _, .inl rfl⟩, rfl⟩
  · rw [hc] at hel
    have each : ∀ i, i < len → ∃ y row, D.rds (rofW W) (k y) row ∧ row.length = sz ∧ ∀ j, j < sz → W.cell? ((a.add (i * sz)).add j) = row[j]? := by
      intro i hi
      have h1 := hel i hi
      cases hcs : W.cells? 0 (a.add (i * sz)) sz with
      | none => rw [hcs] at h1; simp at h1; omega
      | some cs =>
        rw [hcs] at h1
        simp only [Option.bind_some] at h1
        obtain ⟨g1, g2, g3⟩ := World.cells?_some hcs
        have hlt : i < elems.length := by omega
        rw [List.getElem?_eq_getElem hlt] at h1
        obtain ⟨y, hy⟩ := hk enc W n cs _ h1 (noneFrozen_sub hf fun x hx => List.mem_append_right _ (List.mem_flatMap.2 ⟨_, List.mem_append_left _ (List.getElem_mem hlt), hx⟩))
        exact ⟨y, cs, hy, g2, g3⟩
    have hml : len ≤ maxL := Nat.le_trans (Nat.le_trans hl hm) (Nat.le_of_ble_eq_true rfl)
    by_cases h0 : len = 0
    · subst h0
      exact ⟨[], _, _, rfl, ⟨some a, cap, rfl, by simp, Nat.zero_le _, .inl rfl⟩, rfl⟩
    · obtain ⟨y0, row0, _, r2, r3⟩ := each 0 (by omega)
      have ha : a = ⟨a.block, a.off, none⟩ := by
        have h := r3 0 hpos
        rw [List.getElem?_eq_getElem (by omega)] at h
        have : (a.add (0 * sz)).add 0 = a := by rw [Nat.zero_mul]; rfl
        rw [this] at h
        exact spot_none h
      have hadd : ∀ i j, (a.add i).add j = ⟨a.block, a.off + i + j, none⟩ := fun i j => by
        conv => lhs; rw [ha]
        exact add_add_none _ _ i j
      have hcell : ∀ i j, i < len → j < sz → MemPlace.cell a.block (a.off + i * sz + j) ∈ MemPlace.row a ((elems.length + rest.length) * P.cellsOf e) := fun i j hi hj => by
        refine MemPlace.mem_row.2 ⟨i * sz + j, ?_, by rw [Nat.add_assoc]⟩
        rw [hc]
        have h1 : (i + 1) * sz ≤ (elems.length + rest.length) * sz := Nat.mul_le_mul_right _ (by omega)
        rw [Nat.add_mul, Nat.one_mul] at h1
        omega
      let f : Nat → α := fun i => if h : i < len then (each i h).choose else y0
      have hf' : ∀ i (h : i < len), f i = (each i h).choose := fun i h => by simp only [f, dif_pos h]
      have hlen' : ((List.range len).map f).length = len := by simp
      refine ⟨(List.range len).map f, _, _, rfl, ⟨some a, cap, by rw [hlen'], by rw [hlen']; simpa using hl, by rw [hlen']; exact hml, .inr ⟨a.block, a.off, by rw [← ha], fun i hi => ?_⟩⟩, rfl⟩
      rw [hlen'] at hi
      obtain ⟨row, q1, q2, q3⟩ := (each i hi).choose_spec
      have hg : ((List.range len).map f).getD i z = (each i hi).choose := by simp [hi, hf' i hi]
      refine ⟨row, by show D.rds _ (k (((List.range len).map f).getD i z)) row; rw [hg]; exact q1, q2, fun j hj => ?_⟩
      have h := q3 j hj
      rw [hadd] at h
      rw [List.getElem?_eq_getElem (by omega)] at h ⊢
      exact rofW_at h (hf _ _ (List.mem_append_left _ (hcell i j hi hj)))
/-- a struct's fields -/
theorem opens_fields (hT : TOk P TT) {t : TypeId} {sz by_ : Nat} {z : Value} {ef : Bool} {l : List (Nat × Nat)} (h1 : tlk t TT = some ⟨t, sz, by_, .st l, z, ef⟩) {H : Type} {enc : TypeId × Value → H} {W : World} {fuel : Nat} {cs : List Value} {x : DataW H × List MemPlace}
    (hx : DataW.trod enc P W 0 (fun _ => true) true fuel t cs = some x) (hf : W.noneFrozen x.2) : cs.length = sz ∧ ∀ (i o : Nat) (ft : Nat) (tf : TI), l[i]? = some (o, ft) → tlk ft TT = some tf → ∃ (n : Nat) (y : DataW H × List MemPlace), DataW.trod enc P W 0 (fun _ => true) true n ft ((cs.drop o).take tf.sz) = some y ∧ W.noneFrozen y.2 := by
  obtain ⟨_, ok⟩ := hT.get h1
  obtain ⟨d, d1, d2⟩ := ok.desc
  obtain ⟨i, i1, i2, _⟩ := ok.info
  simp only at d1 d2 i1 i2
  obtain ⟨fs, rfl, hfs⟩ := shapeK_st d2
  obtain ⟨xs, n, _, rfl, h3, h4, h5⟩ := DataW.trod_struct d1 hx
  refine ⟨by rw [h3]; simp [Program.cellsOf, i1, i2], fun j o ft tf hj ht => ?_⟩
  rw [← hfs, List.getElem?_map] at hj
  cases hfj : fs.toList[j]? with
  | none => rw [hfj] at hj; cases hj
  | some f =>
    rw [hfj] at hj
    simp at hj
    obtain ⟨rfl, rfl⟩ := hj
    have hfj' : fs[j]? = some f := by simpa using hfj
    have h6 := h5 j f hfj'
    obtain ⟨e1, ok2⟩ := hT.get ht
    obtain ⟨i', j1, j2, _⟩ := ok2.info
    have hlt : j < xs.length := by rw [h4]; exact (Array.getElem?_eq_some_iff.1 hfj').1
    rw [List.getElem?_eq_getElem hlt] at h6
    refine ⟨n, xs[j], ?_, noneFrozen_sub hf fun y hy => List.mem_flatMap.2 ⟨_, List.getElem_mem hlt, hy⟩⟩
    rw [← h6]
    congr 2
    simp [Program.cellsOf, ← e1, j1, j2]
end
theorem trodAll_one {H : Type} {enc : TypeId × Value → H} {P : Program} {w : World} {base : Nat} {spare : Nat → Bool} {held : Bool} {t : TypeId} {v : Value} {d : DataW H} {ps : List MemPlace} (h : DataW.Trod enc P w base spare held t v d ps) : DataW.TrodAll enc P w base spare held [t] [v] [d] (ps ++ []) := ⟨ps, [], h, rfl, rfl⟩
theorem rds_one {h : PH} {d : D} {a : Value} (e : D.rds h [d] [a]) : D.rd h d a := by
  obtain ⟨y, t, e1, e2, _⟩ := e
  injection e1 with e1
  rw [e1]; exact e2
theorem dL_len {α : Type} {h : PH} {sz : Nat} {enc : α → List D} {z : α} {xs : List α} {y : Value} (e : D.rd h (dL sz enc z xs) y) : xs.length ≤ maxL := by
  obtain ⟨_, _, _, _, e3, _⟩ := e; exact e3
theorem len1 {α : Type} {l : List α} (h : l.length = 1) : ∃ a0, l = [a0] := by
  match l, h with
  | [a0], _ => exact ⟨a0, rfl⟩
theorem len2 {α : Type} {l : List α} (h : l.length = 2) : ∃ a0 a1, l = [a0, a1] := by
  match l, h with
  | [a0, a1], _ => exact ⟨a0, a1, rfl⟩
theorem len3 {α : Type} {l : List α} (h : l.length = 3) : ∃ a0 a1 a2, l = [a0, a1, a2] := by
  match l, h with
  | [a0, a1, a2], _ => exact ⟨a0, a1, a2, rfl⟩
theorem len4 {α : Type} {l : List α} (h : l.length = 4) : ∃ a0 a1 a2 a3, l = [a0, a1, a2, a3] := by
  match l, h with
  | [a0, a1, a2, a3], _ => exact ⟨a0, a1, a2, a3, rfl⟩
theorem len5 {α : Type} {l : List α} (h : l.length = 5) : ∃ a0 a1 a2 a3 a4, l = [a0, a1, a2, a3, a4] := by
  match l, h with
  | [a0, a1, a2, a3, a4], _ => exact ⟨a0, a1, a2, a3, a4, rfl⟩
theorem len6 {α : Type} {l : List α} (h : l.length = 6) : ∃ a0 a1 a2 a3 a4 a5, l = [a0, a1, a2, a3, a4, a5] := by
  match l, h with
  | [a0, a1, a2, a3, a4, a5], _ => exact ⟨a0, a1, a2, a3, a4, a5, rfl⟩
theorem len7 {α : Type} {l : List α} (h : l.length = 7) : ∃ a0 a1 a2 a3 a4 a5 a6, l = [a0, a1, a2, a3, a4, a5, a6] := by
  match l, h with
  | [a0, a1, a2, a3, a4, a5, a6], _ => exact ⟨a0, a1, a2, a3, a4, a5, a6, rfl⟩
theorem opens_Int : Opens Tryz.prog 2 cInt := opens_int Tryz.underlying2
theorem opens_Bool : Opens Tryz.prog 4 cBool := opens_bool Tryz.underlying4
theorem opens_Set : Opens Tryz.prog 200 cSet := fun enc W fuel cs x hx hf => by
  obtain ⟨hl, h⟩ := opens_fields TT_ok (t := 200) rfl hx hf
  obtain ⟨a0, a1, a2, a3, a4, rfl⟩ := len5 hl
  obtain ⟨n0, y0, t0, f0⟩ := h 0 _ _ _ rfl rfl
  obtain ⟨x0, e0⟩ := opens_Int enc W _ _ _ t0 f0
  obtain ⟨n1, y1, t1, f1⟩ := h 1 _ _ _ rfl rfl
  obtain ⟨x1, e1⟩ := opens_Int enc W _ _ _ t1 f1
  obtain ⟨n2, y2, t2, f2⟩ := h 2 _ _ _ rfl rfl
  obtain ⟨x2, e2⟩ := opens_Int enc W _ _ _ t2 f2
  obtain ⟨n3, y3, t3, f3⟩ := h 3 _ _ _ rfl rfl
  obtain ⟨x3, e3⟩ := opens_Bool enc W _ _ _ t3 f3
  obtain ⟨n4, y4, t4, f4⟩ := h 4 _ _ _ rfl rfl
  obtain ⟨x4, e4⟩ := opens_Int enc W _ _ _ t4 f4
  exact ⟨⟨x0, x1, x2, x3, x4⟩, ⟨a0, _, rfl, rds_one e0, ⟨a1, _, rfl, rds_one e1, ⟨a2, _, rfl, rds_one e2, ⟨a3, _, rfl, rds_one e3, ⟨a4, _, rfl, rds_one e4, rfl⟩⟩⟩⟩⟩⟩
theorem opens_Note : Opens Tryz.prog 198 cNote := fun enc W fuel cs x hx hf => by
  obtain ⟨hl, h⟩ := opens_fields TT_ok (t := 198) rfl hx hf
  obtain ⟨a0, a1, a2, a3, a4, rfl⟩ := len5 hl
  obtain ⟨n0, y0, t0, f0⟩ := h 0 _ _ _ rfl rfl
  obtain ⟨x0, e0⟩ := opens_Int enc W _ _ _ t0 f0
  obtain ⟨n1, y1, t1, f1⟩ := h 1 _ _ _ rfl rfl
  obtain ⟨x1, e1⟩ := opens_Int enc W _ _ _ t1 f1
  obtain ⟨n2, y2, t2, f2⟩ := h 2 _ _ _ rfl rfl
  obtain ⟨x2, e2⟩ := opens_Int enc W _ _ _ t2 f2
  obtain ⟨n3, y3, t3, f3⟩ := h 3 _ _ _ rfl rfl
  obtain ⟨x3, e3⟩ := opens_Int enc W _ _ _ t3 f3
  obtain ⟨n4, y4, t4, f4⟩ := h 4 _ _ _ rfl rfl
  obtain ⟨x4, e4⟩ := opens_Bool enc W _ _ _ t4 f4
  exact ⟨⟨x0, x1, x2, x3, x4⟩, ⟨a0, _, rfl, rds_one e0, ⟨a1, _, rfl, rds_one e1, ⟨a2, _, rfl, rds_one e2, ⟨a3, _, rfl, rds_one e3, ⟨a4, _, rfl, rds_one e4, rfl⟩⟩⟩⟩⟩⟩
theorem opens_Cell : Opens Tryz.prog 223 cCell := fun enc W fuel cs x hx hf => by
  obtain ⟨hl, h⟩ := opens_fields TT_ok (t := 223) rfl hx hf
  obtain ⟨a0, a1, rfl⟩ := len2 hl
  obtain ⟨n0, y0, t0, f0⟩ := h 0 _ _ _ rfl rfl
  obtain ⟨x0, e0⟩ := opens_Int enc W _ _ _ t0 f0
  obtain ⟨n1, y1, t1, f1⟩ := h 1 _ _ _ rfl rfl
  obtain ⟨x1, e1⟩ := opens_Int enc W _ _ _ t1 f1
  exact ⟨⟨x0, x1⟩, ⟨a0, _, rfl, rds_one e0, ⟨a1, _, rfl, rds_one e1, rfl⟩⟩⟩
theorem opens_Tx_4 : Opens Tryz.prog 112 (fun xs : List GNote => [dL 5 cNote GNote.z xs]) := opens_slice 5 GNote.z Tryz.underlying112 opens_Note (by kernel_rfl) (Nat.lt_of_sub_eq_succ rfl)
theorem opens_Tx_5 : Opens Tryz.prog 113 (fun xs : List GSet => [dL 5 cSet GSet.z xs]) := opens_slice 5 GSet.z Tryz.underlying113 opens_Set (by kernel_rfl) (Nat.lt_of_sub_eq_succ rfl)
theorem opens_Tx : Opens Tryz.prog 115 cTx := fun enc W fuel cs x hx hf => by
  obtain ⟨hl, h⟩ := opens_fields TT_ok (t := 115) rfl hx hf
  obtain ⟨a0, a1, a2, a3, a4, a5, a6, rfl⟩ := len7 hl
  obtain ⟨n0, y0, t0, f0⟩ := h 0 _ _ _ rfl rfl
  obtain ⟨x0, e0⟩ := opens_Int enc W _ _ _ t0 f0
  obtain ⟨n1, y1, t1, f1⟩ := h 1 _ _ _ rfl rfl
  obtain ⟨x1, e1⟩ := opens_Int enc W _ _ _ t1 f1
  obtain ⟨n2, y2, t2, f2⟩ := h 2 _ _ _ rfl rfl
  obtain ⟨x2, e2⟩ := opens_Int enc W _ _ _ t2 f2
  obtain ⟨n3, y3, t3, f3⟩ := h 3 _ _ _ rfl rfl
  obtain ⟨x3, e3⟩ := opens_Int enc W _ _ _ t3 f3
  obtain ⟨n4, y4, t4, f4⟩ := h 4 _ _ _ rfl rfl
  obtain ⟨x4, e4⟩ := opens_Tx_4 enc W _ _ _ t4 f4
  obtain ⟨n5, y5, t5, f5⟩ := h 5 _ _ _ rfl rfl
  obtain ⟨x5, e5⟩ := opens_Tx_5 enc W _ _ _ t5 f5
  obtain ⟨n6, y6, t6, f6⟩ := h 6 _ _ _ rfl rfl
  obtain ⟨x6, e6⟩ := opens_Int enc W _ _ _ t6 f6
  exact ⟨⟨x0, x1, x2, x3, x4, x5, x6⟩, ⟨a0, _, rfl, rds_one e0, ⟨a1, _, rfl, rds_one e1, ⟨a2, _, rfl, rds_one e2, ⟨a3, _, rfl, rds_one e3, ⟨a4, _, rfl, rds_one e4, ⟨a5, _, rfl, rds_one e5, ⟨a6, _, rfl, rds_one e6, rfl⟩⟩⟩⟩⟩⟩⟩⟩
theorem cTx_len {h : PH} {t : GTx} {cs : List Value} (e : D.rds h (cTx t) cs) : t.reads.length ≤ maxL ∧ t.sets.length ≤ maxL := by
  obtain ⟨_, _, _, _, _, _, _, _, _, _, _, _, _, _, _, _, _, _, _, e1, _, _, _, e2, _⟩ := e
  exact ⟨dL_len e1, dL_len e2⟩
end Go.Proofs.YtpfcfepbhdkpdaaGreat
