/-
  Kinds of composite data.
-/
import Derived.Test.YtiilpopeognekaaL
namespace Go.Proofs.Ytiilpopeognekaa
open Go Go.RowKit
set_option linter.unusedVariables false
set_option linter.unusedSimpArgs false

noncomputable def dec (p : Prop) : Bool := @decide p (Classical.propDecidable p)
theorem dec_true {p : Prop} (h : p) : dec p = true := by simp [dec, h]
theorem dec_false {p : Prop} (h : ¬p) : dec p = false := by simp [dec, h]
theorem dec_iff {p : Prop} : dec p = true ↔ p := by simp [dec]
theorem dec_not {p : Prop} : dec p = false ↔ ¬p := by simp [dec]

def kRecord : Kd GRec where
  sz := 4
  rd := fun h t vs => ∃ s1, vs = [.int .i64 t.kind, .int .i64 t.tx, .int .i64 t.region, s1] ∧ kSet.srd h s1 t.sets
  own := fun h t vs => ∃ s1 h1, vs = [.int .i64 t.kind, .int .i64 t.tx, .int .i64 t.region, s1] ∧ h1.le h ∧ kSet.sown h1 s1 t.sets
  len := by rintro h t vs ⟨s1, rfl, _⟩; rfl
  mono := by
    rintro h k t vs ⟨s1, rfl, a1⟩ l
    exact ⟨_, rfl, Kd.srd_mono a1 l⟩
  omono := by
    rintro h k t vs ⟨s1, h1, rfl, l1, r⟩ l
    exact ⟨_, _, rfl, PH.le_trans l1 l, r⟩
  ord := by
    rintro h t vs ⟨s1, h1, rfl, l1, a1⟩
    exact ⟨_, rfl, Kd.srd_mono (Kd.sown_srd a1) l1⟩
def kPlace : Kd GPlace where
  sz := 1
  rd := fun h t vs => ∃ s1, vs = [s1] ∧ kInt.srd h s1 t.machines
  own := fun h t vs => ∃ s1 h1, vs = [s1] ∧ h1.le h ∧ kInt.sown h1 s1 t.machines
  len := by rintro h t vs ⟨s1, rfl, _⟩; rfl
  mono := by
    rintro h k t vs ⟨s1, rfl, a1⟩ l
    exact ⟨_, rfl, Kd.srd_mono a1 l⟩
  omono := by
    rintro h k t vs ⟨s1, h1, rfl, l1, r⟩ l
    exact ⟨_, _, rfl, PH.le_trans l1 l, r⟩
  ord := by
    rintro h t vs ⟨s1, h1, rfl, l1, a1⟩
    exact ⟨_, rfl, Kd.srd_mono (Kd.sown_srd a1) l1⟩
def kCopy : Kd GCopy where
  sz := 2
  rd := fun h t vs => ∃ s1, vs = [.int .i64 t.region, s1] ∧ kCell.srd h s1 t.cells
  own := fun h t vs => ∃ s1 h1, vs = [.int .i64 t.region, s1] ∧ h1.le h ∧ kCell.sown h1 s1 t.cells
  len := by rintro h t vs ⟨s1, rfl, _⟩; rfl
  mono := by
    rintro h k t vs ⟨s1, rfl, a1⟩ l
    exact ⟨_, rfl, Kd.srd_mono a1 l⟩
  omono := by
    rintro h k t vs ⟨s1, h1, rfl, l1, r⟩ l
    exact ⟨_, _, rfl, PH.le_trans l1 l, r⟩
  ord := by
    rintro h t vs ⟨s1, h1, rfl, l1, a1⟩
    exact ⟨_, rfl, Kd.srd_mono (Kd.sown_srd a1) l1⟩
def kMachine : Kd GMach where
  sz := 4
  rd := fun h t vs => ∃ s1 s2 s3, vs = [.bool t.alive, s1, s2, s3] ∧ kCopy.srd h s1 t.copies ∧ kRecord.srd h s2 t.log ∧ kInt.srd h s3 t.cleared
  own := fun h t vs => ∃ s1 s2 s3 h1 h2 h3, vs = [.bool t.alive, s1, s2, s3] ∧ h1.le h ∧ h2.le h ∧ h3.le h ∧ h1.dj h2 ∧ h1.dj h3 ∧ h2.dj h3 ∧ kCopy.sown h1 s1 t.copies ∧ kRecord.sown h2 s2 t.log ∧ kInt.sown h3 s3 t.cleared
  len := by rintro h t vs ⟨s1, s2, s3, rfl, _⟩; rfl
  mono := by
    rintro h k t vs ⟨s1, s2, s3, rfl, a1, a2, a3⟩ l
    exact ⟨_, _, _, rfl, Kd.srd_mono a1 l, Kd.srd_mono a2 l, Kd.srd_mono a3 l⟩
  omono := by
    rintro h k t vs ⟨s1, s2, s3, h1, h2, h3, rfl, l1, l2, l3, r⟩ l
    exact ⟨_, _, _, _, _, _, rfl, PH.le_trans l1 l, PH.le_trans l2 l, PH.le_trans l3 l, r⟩
  ord := by
    rintro h t vs ⟨s1, s2, s3, h1, h2, h3, rfl, l1, l2, l3, _, _, _, a1, a2, a3⟩
    exact ⟨_, _, _, rfl, Kd.srd_mono (Kd.sown_srd a1) l1, Kd.srd_mono (Kd.sown_srd a2) l2, Kd.srd_mono (Kd.sown_srd a3) l3⟩
def kTx : Kd GTx where
  sz := 7
  rd := fun h t vs => ∃ s1 s2, vs = [.int .i64 t.id, .int .i64 t.home, .int .i64 t.phase, .int .i64 t.done, s1, s2, .int .i64 t.stamp] ∧ kNote.srd h s1 t.reads ∧ kSet.srd h s2 t.sets
  own := fun h t vs => ∃ s1 s2 h1 h2, vs = [.int .i64 t.id, .int .i64 t.home, .int .i64 t.phase, .int .i64 t.done, s1, s2, .int .i64 t.stamp] ∧ h1.le h ∧ h2.le h ∧ h1.dj h2 ∧ kNote.sown h1 s1 t.reads ∧ kSet.sown h2 s2 t.sets
  len := by rintro h t vs ⟨s1, s2, rfl, _⟩; rfl
  mono := by
    rintro h k t vs ⟨s1, s2, rfl, a1, a2⟩ l
    exact ⟨_, _, rfl, Kd.srd_mono a1 l, Kd.srd_mono a2 l⟩
  omono := by
    rintro h k t vs ⟨s1, s2, h1, h2, rfl, l1, l2, r⟩ l
    exact ⟨_, _, _, _, rfl, PH.le_trans l1 l, PH.le_trans l2 l, r⟩
  ord := by
    rintro h t vs ⟨s1, s2, h1, h2, rfl, l1, l2, _, a1, a2⟩
    exact ⟨_, _, rfl, Kd.srd_mono (Kd.sown_srd a1) l1, Kd.srd_mono (Kd.sown_srd a2) l2⟩
def kCluster : Kd GClus where
  sz := 6
  rd := fun h t vs => ∃ s1 s2 s3, vs = [.int .i64 t.config, .int .i64 t.clock, s1, s2, s3, .bool t.lost] ∧ kPlace.srd h s1 t.places ∧ kMachine.srd h s2 t.machines ∧ kTx.srd h s3 t.txs
  own := fun h t vs => ∃ s1 s2 s3 h1 h2 h3, vs = [.int .i64 t.config, .int .i64 t.clock, s1, s2, s3, .bool t.lost] ∧ h1.le h ∧ h2.le h ∧ h3.le h ∧ h1.dj h2 ∧ h1.dj h3 ∧ h2.dj h3 ∧ kPlace.sown h1 s1 t.places ∧ kMachine.sown h2 s2 t.machines ∧ kTx.sown h3 s3 t.txs
  len := by rintro h t vs ⟨s1, s2, s3, rfl, _⟩; rfl
  mono := by
    rintro h k t vs ⟨s1, s2, s3, rfl, a1, a2, a3⟩ l
    exact ⟨_, _, _, rfl, Kd.srd_mono a1 l, Kd.srd_mono a2 l, Kd.srd_mono a3 l⟩
  omono := by
    rintro h k t vs ⟨s1, s2, s3, h1, h2, h3, rfl, l1, l2, l3, r⟩ l
    exact ⟨_, _, _, _, _, _, rfl, PH.le_trans l1 l, PH.le_trans l2 l, PH.le_trans l3 l, r⟩
  ord := by
    rintro h t vs ⟨s1, s2, s3, h1, h2, h3, rfl, l1, l2, l3, _, _, _, a1, a2, a3⟩
    exact ⟨_, _, _, rfl, Kd.srd_mono (Kd.sown_srd a1) l1, Kd.srd_mono (Kd.sown_srd a2) l2, Kd.srd_mono (Kd.sown_srd a3) l3⟩
theorem Kd.srd_val {α : Type} {k : Kd α} {r : PH} {v : Value} {xs : List α} (h : k.srd r v xs) : ∃ A c, v = .slice A xs.length c := by
  obtain ⟨A, c, e, _⟩ := h
  exact ⟨A, c, e⟩
/-- a value that is a struct of a kind, to be read; one that owns its parts -/
def Kd.vrd {α : Type} (k : Kd α) (h : PH) (v : Value) (x : α) : Prop := ∃ vs, v = .agg vs.toArray ∧ k.rd h x vs
def Kd.vown {α : Type} (k : Kd α) (v : Value) (x : α) (h : PH) : Prop := ∃ vs, v = .agg vs.toArray ∧ k.own h x vs
theorem Kd.vown_vrd {α : Type} {k : Kd α} {h m : PH} {v : Value} {x : α} (a : k.vown v x h) (l : h.le m) : k.vrd m v x := by
  obtain ⟨vs, e, o⟩ := a
  exact ⟨vs, e, k.mono (k.ord o) l⟩
theorem Mr.vrd {B : BE} {r : PH} {mu : Mu} {w : World} {H : Nat → PH} (m : Mr B r mu w H) (key : Nat) {α : Type} {k : Kd α} {v : Value} {x : α} (hk : mlk key mu = some (.own (k.vown v x))) : k.vrd (AllP r mu H) v x :=
  Kd.vown_vrd (show k.vown v x (H key) from m.sat key _ hk) (m.leA key hk)
theorem Kd.vrd_mono {α : Type} {k : Kd α} {h m : PH} {v : Value} {x : α} (a : k.vrd h v x) (l : h.le m) : k.vrd m v x := by
  obtain ⟨vs, e, o⟩ := a
  exact ⟨vs, e, k.mono o l⟩

theorem kRecord_open {r : PH} {v : Value} {t : GRec} (h : kRecord.vrd r v t) : ∃ A1 c1, v = .agg #[.int .i64 t.kind, .int .i64 t.tx, .int .i64 t.region, .slice A1 t.sets.length c1] ∧ kSet.srd r (.slice A1 t.sets.length c1) t.sets := by
  obtain ⟨vs, rfl, s1, rfl, a1⟩ := h
  obtain ⟨A1, c1, rfl⟩ := Kd.srd_val a1
  exact ⟨_, _, rfl, a1⟩
def valRecord (t : GRec) (x : Option Addr × Nat) : Value := .agg #[.int .i64 t.kind, .int .i64 t.tx, .int .i64 t.region, .slice x.1 t.sets.length x.2]
theorem kRecord_val {t : GRec} (v : Value) (h : PH) (o : kRecord.vown v t h) : ∃ x, v = valRecord t x := by
  obtain ⟨A1, c1, e, _⟩ := kRecord_open (Kd.vown_vrd o (PH.le_refl h))
  exact ⟨(A1, c1), e⟩
theorem kPlace_open {r : PH} {v : Value} {t : GPlace} (h : kPlace.vrd r v t) : ∃ A1 c1, v = .agg #[.slice A1 t.machines.length c1] ∧ kInt.srd r (.slice A1 t.machines.length c1) t.machines := by
  obtain ⟨vs, rfl, s1, rfl, a1⟩ := h
  obtain ⟨A1, c1, rfl⟩ := Kd.srd_val a1
  exact ⟨_, _, rfl, a1⟩
def valPlace (t : GPlace) (x : Option Addr × Nat) : Value := .agg #[.slice x.1 t.machines.length x.2]
theorem kPlace_val {t : GPlace} (v : Value) (h : PH) (o : kPlace.vown v t h) : ∃ x, v = valPlace t x := by
  obtain ⟨A1, c1, e, _⟩ := kPlace_open (Kd.vown_vrd o (PH.le_refl h))
  exact ⟨(A1, c1), e⟩
theorem kCopy_open {r : PH} {v : Value} {t : GCopy} (h : kCopy.vrd r v t) : ∃ A1 c1, v = .agg #[.int .i64 t.region, .slice A1 t.cells.length c1] ∧ kCell.srd r (.slice A1 t.cells.length c1) t.cells := by
  obtain ⟨vs, rfl, s1, rfl, a1⟩ := h
  obtain ⟨A1, c1, rfl⟩ := Kd.srd_val a1
  exact ⟨_, _, rfl, a1⟩
def valCopy (t : GCopy) (x : Option Addr × Nat) : Value := .agg #[.int .i64 t.region, .slice x.1 t.cells.length x.2]
theorem kCopy_val {t : GCopy} (v : Value) (h : PH) (o : kCopy.vown v t h) : ∃ x, v = valCopy t x := by
  obtain ⟨A1, c1, e, _⟩ := kCopy_open (Kd.vown_vrd o (PH.le_refl h))
  exact ⟨(A1, c1), e⟩
theorem kMachine_open {r : PH} {v : Value} {t : GMach} (h : kMachine.vrd r v t) : ∃ A1 c1 A2 c2 A3 c3, v = .agg #[.bool t.alive, .slice A1 t.copies.length c1, .slice A2 t.log.length c2, .slice A3 t.cleared.length c3] ∧ kCopy.srd r (.slice A1 t.copies.length c1) t.copies ∧ kRecord.srd r (.slice A2 t.log.length c2) t.log ∧ kInt.srd r (.slice A3 t.cleared.length c3) t.cleared := by
  obtain ⟨vs, rfl, s1, s2, s3, rfl, a1, a2, a3⟩ := h
  obtain ⟨A1, c1, rfl⟩ := Kd.srd_val a1
  obtain ⟨A2, c2, rfl⟩ := Kd.srd_val a2
  obtain ⟨A3, c3, rfl⟩ := Kd.srd_val a3
  exact ⟨_, _, _, _, _, _, rfl, a1, a2, a3⟩
def valMachine (t : GMach) (x : (Option Addr × Nat) × (Option Addr × Nat) × (Option Addr × Nat)) : Value := .agg #[.bool t.alive, .slice x.1.1 t.copies.length x.1.2, .slice x.2.1.1 t.log.length x.2.1.2, .slice x.2.2.1 t.cleared.length x.2.2.2]
theorem kMachine_val {t : GMach} (v : Value) (h : PH) (o : kMachine.vown v t h) : ∃ x, v = valMachine t x := by
  obtain ⟨A1, c1, A2, c2, A3, c3, e, _⟩ := kMachine_open (Kd.vown_vrd o (PH.le_refl h))
  exact ⟨((A1, c1), (A2, c2), (A3, c3)), e⟩
theorem kTx_open {r : PH} {v : Value} {t : GTx} (h : kTx.vrd r v t) : ∃ A1 c1 A2 c2, v = .agg #[.int .i64 t.id, .int .i64 t.home, .int .i64 t.phase, .int .i64 t.done, .slice A1 t.reads.length c1, .slice A2 t.sets.length c2, .int .i64 t.stamp] ∧ kNote.srd r (.slice A1 t.reads.length c1) t.reads ∧ kSet.srd r (.slice A2 t.sets.length c2) t.sets := by
  obtain ⟨vs, rfl, s1, s2, rfl, a1, a2⟩ := h
  obtain ⟨A1, c1, rfl⟩ := Kd.srd_val a1
  obtain ⟨A2, c2, rfl⟩ := Kd.srd_val a2
  exact ⟨_, _, _, _, rfl, a1, a2⟩
def valTx (t : GTx) (x : (Option Addr × Nat) × (Option Addr × Nat)) : Value := .agg #[.int .i64 t.id, .int .i64 t.home, .int .i64 t.phase, .int .i64 t.done, .slice x.1.1 t.reads.length x.1.2, .slice x.2.1 t.sets.length x.2.2, .int .i64 t.stamp]
theorem kTx_val {t : GTx} (v : Value) (h : PH) (o : kTx.vown v t h) : ∃ x, v = valTx t x := by
  obtain ⟨A1, c1, A2, c2, e, _⟩ := kTx_open (Kd.vown_vrd o (PH.le_refl h))
  exact ⟨((A1, c1), (A2, c2)), e⟩
theorem kCluster_open {r : PH} {v : Value} {t : GClus} (h : kCluster.vrd r v t) : ∃ A1 c1 A2 c2 A3 c3, v = .agg #[.int .i64 t.config, .int .i64 t.clock, .slice A1 t.places.length c1, .slice A2 t.machines.length c2, .slice A3 t.txs.length c3, .bool t.lost] ∧ kPlace.srd r (.slice A1 t.places.length c1) t.places ∧ kMachine.srd r (.slice A2 t.machines.length c2) t.machines ∧ kTx.srd r (.slice A3 t.txs.length c3) t.txs := by
  obtain ⟨vs, rfl, s1, s2, s3, rfl, a1, a2, a3⟩ := h
  obtain ⟨A1, c1, rfl⟩ := Kd.srd_val a1
  obtain ⟨A2, c2, rfl⟩ := Kd.srd_val a2
  obtain ⟨A3, c3, rfl⟩ := Kd.srd_val a3
  exact ⟨_, _, _, _, _, _, rfl, a1, a2, a3⟩
def valCluster (t : GClus) (x : (Option Addr × Nat) × (Option Addr × Nat) × (Option Addr × Nat)) : Value := .agg #[.int .i64 t.config, .int .i64 t.clock, .slice x.1.1 t.places.length x.1.2, .slice x.2.1.1 t.machines.length x.2.1.2, .slice x.2.2.1 t.txs.length x.2.2.2, .bool t.lost]
theorem kCluster_val {t : GClus} (v : Value) (h : PH) (o : kCluster.vown v t h) : ∃ x, v = valCluster t x := by
  obtain ⟨A1, c1, A2, c2, A3, c3, e, _⟩ := kCluster_open (Kd.vown_vrd o (PH.le_refl h))
  exact ⟨((A1, c1), (A2, c2), (A3, c3)), e⟩
/-- a pointer to a struct of a kind, to be read -/
def Kd.prd {α : Type} (k : Kd α) (r : PH) (v : Value) (x : α) : Prop := ∃ b o row, v = .pointer (some ⟨b, o, none⟩) ∧ k.rd r x row ∧ ∀ j, j < k.sz → r b (o + j) = row[j]?
theorem Kd.prd_mono {α : Type} {k : Kd α} {r s : PH} {v : Value} {x : α} (h : k.prd r v x) (l : r.le s) : k.prd s v x := by
  obtain ⟨b, o, row, e, h1, h2⟩ := h
  refine ⟨b, o, row, e, k.mono h1 l, fun j hj => ?_⟩
  have h3 := h2 j hj
  have h4 : j < row.length := by rw [k.len h1]; exact hj
  rw [List.getElem?_eq_getElem h4] at h3 ⊢
  exact l _ _ _ h3
theorem Mr.prd {B : BE} {r : PH} {mu : Mu} {w : World} {H : Nat → PH} (m : Mr B r mu w H) (key : Nat) {l : List AV} {α : Type} {k : Kd α} {x : α} (hk : mlk key mu = some (.cells l)) (hrd : k.rd (AllP r mu H) x (l.map (AV.den B))) : k.prd (AllP r mu H) (.pointer (some ((B key).add 0))) x := by
  obtain ⟨s1, s2⟩ : (Ch.cells l).sat B key (H key) := m.sat key _ hk
  have hl : (l.map (AV.den B)).length = k.sz := k.len hrd
  rw [List.length_map] at hl
  refine ⟨(B key).block, (B key).off, _, ?_, hrd, fun j hj => ?_⟩
  · have : (B key).add 0 = ⟨(B key).block, (B key).off, none⟩ := by
      show B key = _
      cases hB : B key with
      | mk b o s => rw [hB] at s1; simp only at s1; rw [s1]
    rw [this]
  · rw [List.getElem?_map, List.getElem?_eq_getElem (by omega)]
    exact m.leA key hk _ _ _ (s2 j _ (List.getElem?_eq_getElem (by omega)))
/-- a pointer into a row that is read -/
theorem ra_prd {α : Type} {k : Kd α} {r : PH} {A : Option Addr} {n : Nat} {row : Nat → List Value} (h : RA.ok r ⟨A, n, k.sz, row⟩) {i : Nat} (hi : i < n) {x : α} (hrd : k.rd r x (row i)) : k.prd r (elP A i k.sz 0) x := by
  obtain ⟨b, o, e, e2, f⟩ := h i hi
  simp only at e
  refine ⟨b, o + i * k.sz, row i, ?_, hrd, fun j hj => f j hj⟩
  subst e
  simp only [elP, Option.getD_some, Int.toNat_natCast, add_mk, Nat.add_zero]

theorem kRecord_popen {r : PH} {v : Value} {t : GRec} (h : kRecord.prd r v t) : ∃ b o A1 c1, v = .pointer (some ⟨b, o, none⟩) ∧ RA.ok r ⟨some ⟨b, o, none⟩, 1, 4, fun _ => [.int .i64 t.kind, .int .i64 t.tx, .int .i64 t.region, .slice A1 t.sets.length c1]⟩ ∧ kSet.srd r (.slice A1 t.sets.length c1) t.sets := by
  obtain ⟨b, o, row, e, ⟨s1, rfl, a1⟩, h2⟩ := h
  obtain ⟨A1, c1, rfl⟩ := Kd.srd_val a1
  refine ⟨b, o, _, _, e, fun i hi => ⟨b, o, rfl, rfl, fun j hj => ?_⟩, a1⟩
  have : i = 0 := Nat.lt_one_iff.1 hi
  subst this
  have := h2 j hj
  simpa using this
theorem kPlace_popen {r : PH} {v : Value} {t : GPlace} (h : kPlace.prd r v t) : ∃ b o A1 c1, v = .pointer (some ⟨b, o, none⟩) ∧ RA.ok r ⟨some ⟨b, o, none⟩, 1, 1, fun _ => [.slice A1 t.machines.length c1]⟩ ∧ kInt.srd r (.slice A1 t.machines.length c1) t.machines := by
  obtain ⟨b, o, row, e, ⟨s1, rfl, a1⟩, h2⟩ := h
  obtain ⟨A1, c1, rfl⟩ := Kd.srd_val a1
  refine ⟨b, o, _, _, e, fun i hi => ⟨b, o, rfl, rfl, fun j hj => ?_⟩, a1⟩
  have : i = 0 := Nat.lt_one_iff.1 hi
  subst this
  have := h2 j hj
  simpa using this
theorem kCopy_popen {r : PH} {v : Value} {t : GCopy} (h : kCopy.prd r v t) : ∃ b o A1 c1, v = .pointer (some ⟨b, o, none⟩) ∧ RA.ok r ⟨some ⟨b, o, none⟩, 1, 2, fun _ => [.int .i64 t.region, .slice A1 t.cells.length c1]⟩ ∧ kCell.srd r (.slice A1 t.cells.length c1) t.cells := by
  obtain ⟨b, o, row, e, ⟨s1, rfl, a1⟩, h2⟩ := h
  obtain ⟨A1, c1, rfl⟩ := Kd.srd_val a1
  refine ⟨b, o, _, _, e, fun i hi => ⟨b, o, rfl, rfl, fun j hj => ?_⟩, a1⟩
  have : i = 0 := Nat.lt_one_iff.1 hi
  subst this
  have := h2 j hj
  simpa using this
theorem kMachine_popen {r : PH} {v : Value} {t : GMach} (h : kMachine.prd r v t) : ∃ b o A1 c1 A2 c2 A3 c3, v = .pointer (some ⟨b, o, none⟩) ∧ RA.ok r ⟨some ⟨b, o, none⟩, 1, 4, fun _ => [.bool t.alive, .slice A1 t.copies.length c1, .slice A2 t.log.length c2, .slice A3 t.cleared.length c3]⟩ ∧ kCopy.srd r (.slice A1 t.copies.length c1) t.copies ∧ kRecord.srd r (.slice A2 t.log.length c2) t.log ∧ kInt.srd r (.slice A3 t.cleared.length c3) t.cleared := by
  obtain ⟨b, o, row, e, ⟨s1, s2, s3, rfl, a1, a2, a3⟩, h2⟩ := h
  obtain ⟨A1, c1, rfl⟩ := Kd.srd_val a1
  obtain ⟨A2, c2, rfl⟩ := Kd.srd_val a2
  obtain ⟨A3, c3, rfl⟩ := Kd.srd_val a3
  refine ⟨b, o, _, _, _, _, _, _, e, fun i hi => ⟨b, o, rfl, rfl, fun j hj => ?_⟩, a1, a2, a3⟩
  have : i = 0 := Nat.lt_one_iff.1 hi
  subst this
  have := h2 j hj
  simpa using this
theorem kTx_popen {r : PH} {v : Value} {t : GTx} (h : kTx.prd r v t) : ∃ b o A1 c1 A2 c2, v = .pointer (some ⟨b, o, none⟩) ∧ RA.ok r ⟨some ⟨b, o, none⟩, 1, 7, fun _ => [.int .i64 t.id, .int .i64 t.home, .int .i64 t.phase, .int .i64 t.done, .slice A1 t.reads.length c1, .slice A2 t.sets.length c2, .int .i64 t.stamp]⟩ ∧ kNote.srd r (.slice A1 t.reads.length c1) t.reads ∧ kSet.srd r (.slice A2 t.sets.length c2) t.sets := by
  obtain ⟨b, o, row, e, ⟨s1, s2, rfl, a1, a2⟩, h2⟩ := h
  obtain ⟨A1, c1, rfl⟩ := Kd.srd_val a1
  obtain ⟨A2, c2, rfl⟩ := Kd.srd_val a2
  refine ⟨b, o, _, _, _, _, e, fun i hi => ⟨b, o, rfl, rfl, fun j hj => ?_⟩, a1, a2⟩
  have : i = 0 := Nat.lt_one_iff.1 hi
  subst this
  have := h2 j hj
  simpa using this
theorem kCluster_popen {r : PH} {v : Value} {t : GClus} (h : kCluster.prd r v t) : ∃ b o A1 c1 A2 c2 A3 c3, v = .pointer (some ⟨b, o, none⟩) ∧ RA.ok r ⟨some ⟨b, o, none⟩, 1, 6, fun _ => [.int .i64 t.config, .int .i64 t.clock, .slice A1 t.places.length c1, .slice A2 t.machines.length c2, .slice A3 t.txs.length c3, .bool t.lost]⟩ ∧ kPlace.srd r (.slice A1 t.places.length c1) t.places ∧ kMachine.srd r (.slice A2 t.machines.length c2) t.machines ∧ kTx.srd r (.slice A3 t.txs.length c3) t.txs := by
  obtain ⟨b, o, row, e, ⟨s1, s2, s3, rfl, a1, a2, a3⟩, h2⟩ := h
  obtain ⟨A1, c1, rfl⟩ := Kd.srd_val a1
  obtain ⟨A2, c2, rfl⟩ := Kd.srd_val a2
  obtain ⟨A3, c3, rfl⟩ := Kd.srd_val a3
  refine ⟨b, o, _, _, _, _, _, _, e, fun i hi => ⟨b, o, rfl, rfl, fun j hj => ?_⟩, a1, a2, a3⟩
  have : i = 0 := Nat.lt_one_iff.1 hi
  subst this
  have := h2 j hj
  simpa using this
end Go.Proofs.Ytiilpopeognekaa
