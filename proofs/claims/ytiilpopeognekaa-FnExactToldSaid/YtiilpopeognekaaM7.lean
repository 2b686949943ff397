/-
  The symbolic machine steps through a region in the order of the text: it is right.
-/
import Derived.Test.YtiilpopeognekaaM6
namespace Go.Proofs.Ytiilpopeognekaa
open Go Go.RowKit
set_option linter.unusedVariables false
set_option linter.unusedSimpArgs false

/-! ### stores of several cells -/
def PH.updL (h : PH) (b o : Nat) (l : List Value) : PH := fun x y => if x = b ∧ o ≤ y ∧ y < o + l.length then l[y - o]? else h x y
theorem PH.updL_in (h : PH) (b o : Nat) (l : List Value) {j : Nat} (hj : j < l.length) : h.updL b o l b (o + j) = l[j]? := by
  unfold PH.updL; rw [if_pos ⟨rfl, by omega, by omega⟩]; congr 1; omega
theorem PH.updL_out (h : PH) {b o x y : Nat} {l : List Value} (n : ¬ (x = b ∧ o ≤ y ∧ y < o + l.length)) : h.updL b o l x y = h x y := by
  unfold PH.updL; rw [if_neg n]
theorem PH.updL_ne {h : PH} {b o : Nat} {l : List Value} (hl : ∀ j, j < l.length → h b (o + j) ≠ none) {x y : Nat} (e : h.updL b o l x y ≠ none) : h x y ≠ none := by
  by_cases c : x = b ∧ o ≤ y ∧ y < o + l.length
  · obtain ⟨rfl, c1, c2⟩ := c
    have := hl (y - o) (by omega)
    rwa [show o + (y - o) = y from by omega] at this
  · rwa [PH.updL_out h c] at e
theorem oneV_cell {v : Value} (h : oneV v = true) : v.oneCell' = true := by cases v <;> first | rfl | cases h
theorem run_storeCells {P : Program} : ∀ (l : List Value) (w : World) (b o i : Nat) (h : PH), Fit h w → (∀ j, j < l.length → h b (o + i + j) ≠ none) → (∀ v ∈ l, oneV v = true) →
    ∃ w', (storeCells ⟨b, o, none⟩ l i).run P w = .ok () w' ∧ Fit (h.updL b (o + i) l) w' ∧ Keep (fun x y => x = b ∧ o + i ≤ y ∧ y < o + i + l.length) w w' ∧ w'.heap.size = w.heap.size
  | [], w, b, o, i, h, f, _, _ => by
    refine ⟨w, by simp [storeCells], ?_, Keep.refl _ _, rfl⟩
    intro x y v e
    rw [PH.updL_out] at e
    · exact f x y v e
    · simp only [List.length_nil]; omega
  | u :: l, w, b, o, i, h, f, hl, h1 => by
    have h0 := hl 0 (by simp)
    rw [Nat.add_zero] at h0
    cases e : h b (o + i) with
    | none => exact absurd e h0
    | some v0 =>
      obtain ⟨c1, c2⟩ := f _ _ _ e
      have hu : u.oneCell' = true := oneV_cell (h1 u List.mem_cons_self)
      have f1 : Fit (h.upd b (o + i) u) (w.setCell ⟨b, o + i, none⟩ u) := f.upd e u
      obtain ⟨w', r1, r2, r3, r4⟩ := run_storeCells (P := P) l (w.setCell ⟨b, o + i, none⟩ u) b o (i + 1) _ f1 (fun j hj => by
        by_cases c : o + (i + 1) + j = o + i
        · omega
        · rw [PH.upd_other _ _ (by omega)]
          have := hl (j + 1) (by simp; omega)
          rwa [show o + i + (j + 1) = o + (i + 1) + j from by omega] at this) (fun v hv => h1 v (List.mem_cons_of_mem _ hv))
      refine ⟨w', ?_, ?_, ?_, ?_⟩
      · simp only [storeCells, Sem.run_bind]
        rw [run_store P w _ u .plain hu, add_mk, c1]
        simp only [c2, Bool.false_eq_true, if_false, Result.andThen_ok, r1]
      · intro x y v hv
        refine r2 x y v ?_
        by_cases c : x = b ∧ o + i ≤ y ∧ y < o + i + (u :: l).length
        · obtain ⟨rfl, c3, c4⟩ := c
          simp only [List.length_cons] at c4
          rw [show y = o + i + (y - (o + i)) from by omega, PH.updL_in _ _ _ _ (by simp; omega)] at hv
          by_cases c5 : y = o + i
          · subst c5
            rw [PH.updL_out _ (by omega)]
            simp at hv
            rw [PH.upd_same, hv]
          · rw [show y = o + (i + 1) + (y - (o + (i + 1))) from by omega, PH.updL_in _ _ _ _ (by omega)]
            rw [show y - (o + i) = (y - (o + (i + 1))) + 1 from by omega, List.getElem?_cons_succ] at hv
            exact hv
        · rw [PH.updL_out _ c] at hv
          simp only [List.length_cons] at c
          rw [PH.updL_out _ (by omega), PH.upd_other _ _ (by omega)]
          exact hv
      · have k1 : Keep (fun x y => x = b ∧ o + i ≤ y ∧ y < o + i + (u :: l).length) w (w.setCell ⟨b, o + i, none⟩ u) := (setCell_keep w b (o + i) u).mono fun x _ y hxy => by
          obtain ⟨rfl, rfl⟩ := hxy; simp
        refine k1.trans r3 fun x y hxy => ?_
        obtain ⟨rfl, c1, c2⟩ := hxy
        exact .inl ⟨rfl, by omega, by simp only [List.length_cons]; omega⟩
      · rw [r4]; simp [World.setCell]
theorem run_storeVar {P : Program} {ti : TI} (hti : ti.ok P) {v : Value} {l : List Value} (hv : v.cells.toList = l) (hl : l.length = ti.sz) {w : World} {b o : Nat} {h : PH} (f : Fit h w) (hin : ∀ j, j < l.length → h b (o + j) ≠ none) (h1 : ∀ v ∈ l, oneV v = true) :
    ∃ w', (storeVar ti.id ⟨b, o, none⟩ v).run P w = .ok () w' ∧ Fit (h.updL b o l) w' ∧ Keep (fun x y => x = b ∧ o ≤ y ∧ y < o + l.length) w w' ∧ w'.heap.size = w.heap.size := by
  obtain ⟨i, i1, i2, _⟩ := hti.info
  obtain ⟨w', r1, r2, r3, r4⟩ := run_storeCells (P := P) l w b o 0 h f (by simpa using hin) h1
  refine ⟨w', ?_, by simpa using r2, by simpa using r3, r4⟩
  simp only [storeVar, Sem.run_bind, run_size i1, Result.andThen_ok]
  rw [if_neg (by rw [i2, ← hl, ← hv]; simp), hv]
  exact r1

/-! ### memory behind a new chunk, and behind a store -/
def BE.set (B : BE) (k : Nat) (p : Addr) : BE := fun j => if j = k then p else B j
def HF.set (H : Nat → PH) (k : Nat) (h : PH) : Nat → PH := fun j => if j = k then h else H j
theorem AV.den_set {x : AV} {k : Nat} (h : x.names k = false) (B : BE) (p : Addr) : x.den (BE.set B k p) = x.den B := by
  cases x with
  | p j o =>
    have hj : j ≠ k := Nat.ne_of_beq_eq_false h
    simp [AV.den, BE.set, hj]
  | _ => rfl
theorem namesL_spec {k : Nat} : ∀ {l : List AV}, namesL k l = false → ∀ x ∈ l, x.names k = false
  | [], _, _, h => by cases h
  | y :: r, h, x, hm => by
    simp only [namesL] at h
    cases e : y.names k with
    | true => rw [e] at h; cases h
    | false =>
      rw [e] at h
      cases hm with
      | head => exact e
      | tail _ hm => exact namesL_spec h x hm
theorem map_den_set {l : List AV} {k : Nat} (h : namesL k l = false) (B : BE) (p : Addr) : l.map (AV.den (BE.set B k p)) = l.map (AV.den B) :=
  List.map_congr_left fun x hx => AV.den_set (namesL_spec h x hx) B p
theorem SV.den_set {x : SV} {k : Nat} (h : x.names k = false) (B : BE) (p : Addr) : x.den (BE.set B k p) = x.den B := by
  cases x with
  | a y => exact AV.den_set h B p
  | ag l => simp only [SV.den, map_den_set h]
  | fn f l => simp only [SV.den, map_den_set h]
  | un => rfl
theorem frNames_spec {k : Nat} : ∀ {fr : Fr}, frNames k fr = false → ∀ t x, mlk t fr = some x → x.names k = false
  | [], _, _, _, h => by cases h
  | (j, y) :: r, h, t, x, e => by
    simp only [frNames] at h
    cases c : y.names k with
    | true => rw [c] at h; cases h
    | false =>
      rw [c] at h
      rw [mlk_cons] at e
      by_cases hj : j = t
      · rw [if_pos hj] at e; injection e with e; rw [← e]; exact c
      · rw [if_neg hj] at e; exact frNames_spec h t x e
theorem gfNames_spec {k : Nat} : ∀ {gf : GF}, gfNames k gf = false → ∀ t d w x, (t, d, w, x) ∈ gf → x.names k = false
  | [], _, _, _, _, _, h => by cases h
  | (j, d, w, y) :: r, h, t, d', w', x, e => by
    simp only [gfNames] at h
    cases c : y.names k with
    | true => rw [c] at h; cases h
    | false =>
      rw [c] at h
      cases e with
      | head => exact c
      | tail _ e => exact gfNames_spec h t d' w' x e
theorem muNames_spec {k : Nat} : ∀ {mu : Mu}, muNames k mu = false → ∀ j l, j ≠ k → (j, Ch.cells l) ∈ mu → namesL k l = false
  | [], _, _, _, _, h => by cases h
  | (i, .cells m) :: r, h, j, l, hj, e => by
    simp only [muNames] at h
    cases c : Nat.beq i k with
    | true =>
      rw [c] at h
      cases e with
      | head => exact absurd (Nat.eq_of_beq_eq_true c) hj
      | tail _ e => exact muNames_spec h j l hj e
    | false =>
      rw [c] at h
      simp only [cond_false] at h
      cases c2 : namesL k m with
      | true => rw [c2] at h; cases h
      | false =>
        rw [c2] at h
        cases e with
        | head => exact c2
        | tail _ e => exact muNames_spec h j l hj e
  | (i, .arr ..) :: r, h, j, l, hj, e => by
    simp only [muNames] at h
    cases e with
    | tail _ e => exact muNames_spec h j l hj e
  | (i, .own _) :: r, h, j, l, hj, e => by
    simp only [muNames] at h
    cases e with
    | tail _ e => exact muNames_spec h j l hj e
section
variable {P : Program} {w w0 : World} {B : BE} {r : PH} {D : Nat → Nat → Prop} {mu : Mu} {ga : Ga} {H : Nat → PH} {TT : List TI} {N : Nat} {fr : Fr} {gf : GF} {a : Act}
theorem Fits.setB (f : Fits B N fr gf a) {k : Nat} (h1 : frNames k fr = false) (h2 : gfNames k gf = false) (p : Addr) : Fits (BE.set B k p) N fr gf a :=
  ⟨f.size, f.defers, fun t x e1 e2 => by rw [SV.den_set (frNames_spec h1 t x e1)]; exact f.vfr t x e1 e2,
    fun t d w x e1 e2 => by rw [SV.den_set (gfNames_spec h2 t d w x e1)]; exact f.vgf t d w x e1 e2, f.vgu, f.vno⟩
theorem Ch.sat_set {c : Ch} {k j : Nat} (hj : j ≠ k) (hc : ∀ l, c = .cells l → namesL k l = false) {h : PH} (s : c.sat B j h) (p : Addr) : c.sat (BE.set B k p) j h := by
  cases c with
  | cells l =>
    obtain ⟨s1, s2⟩ := s
    have e : BE.set B k p j = B j := by simp [BE.set, hj]
    refine ⟨by rw [e]; exact s1, fun i x hx => ?_⟩
    rw [e, AV.den_set (namesL_spec (hc l rfl) x (List.mem_of_getElem? hx))]
    exact s2 i x hx
  | arr => exact s
  | own => exact s
theorem Mem.below {w w' : World} (m : Mem B r D w0 mu w H) (k : Below w.heap.size w w') : Mem B r D w0 mu w' H :=
  ⟨m.sat, fun i => (m.fit i).ext k, m.dj, m.djr, m.fitr.ext k, m.keep.trans (Keep.of_below k noD) fun _ _ h => h.elim, m.dom⟩
/-- a new row of cells under key k -/
theorem Mem.new (m : Mem B r D w0 mu w H) {k : Nat} (hk : muNames k mu = false) {l : List AV} (hl : namesL k l = false) (T : TypeId) :
    Mem (BE.set B k ⟨w.heap.size, 0, none⟩) r D w0 ((k, .cells l) :: mu) (w.alloc (.cells (l.map (AV.den B)).toArray T)) (HF.set H k (PH.row w.heap.size 0 (l.map (AV.den B)))) := by
  have hb : Below w.heap.size w (w.alloc (.cells (l.map (AV.den B)).toArray T)) := Below.ofAlloc _ _
  have m2 := m.below hb
  have lt : ∀ (h : PH), Fit h w → h.dj (PH.row w.heap.size 0 (l.map (AV.den B))) := by
    intro h f x y
    cases e : h x y with
    | none => exact .inl rfl
    | some v =>
      right
      cases e2 : PH.row w.heap.size 0 (l.map (AV.den B)) x y with
      | none => rfl
      | some u =>
        have h1 := f.lt (b := x) (o := y) (by rw [e]; simp)
        have h2 := PH.row_ne (by rw [e2]; simp : PH.row w.heap.size 0 (l.map (AV.den B)) x y ≠ none)
        omega
  refine ⟨fun j c e => ?_, fun j => ?_, fun i j hij => ?_, fun j => ?_, m2.fitr, m2.keep, fun j b o e => ?_⟩
  · rw [mlk_cons] at e
    by_cases hj : k = j
    · subst hj
      rw [if_pos rfl] at e
      injection e with e
      subst e
      simp only [HF.set, if_true]
      refine ⟨by simp [BE.set], fun i x hx => ?_⟩
      rw [AV.den_set (namesL_spec hl x (List.mem_of_getElem? hx))]
      simp only [BE.set, if_true]
      rw [PH.row_at, List.getElem?_map, hx]; rfl
    · rw [if_neg hj] at e
      simp only [HF.set, if_neg (Ne.symm hj)]
      exact Ch.sat_set (Ne.symm hj) (fun l' hl' => by subst hl'; exact muNames_spec hk j l' (Ne.symm hj) (mlk_mem e)) (m.sat j c e) _
  · by_cases hj : j = k
    · subst hj; simp only [HF.set, if_true]; exact Fit.alloc w _ T
    · simp only [HF.set, if_neg hj]; exact m2.fit j
  · by_cases hi : i = k <;> by_cases hj : j = k
    · exact absurd (hi.trans hj.symm) hij
    · simp only [HF.set, if_pos hi, if_neg hj]; exact PH.dj_symm (lt _ (m.fit j))
    · simp only [HF.set, if_neg hi, if_pos hj]; exact lt _ (m.fit i)
    · simp only [HF.set, if_neg hi, if_neg hj]; exact m.dj i j hij
  · by_cases hj : j = k
    · simp only [HF.set, if_pos hj]; exact PH.dj_symm (lt _ m.fitr)
    · simp only [HF.set, if_neg hj]; exact m.djr j
  · by_cases hj : j = k
    · simp only [HF.set, if_pos hj] at e
      right
      rw [PH.row_ne e]; exact m.keep.size
    · simp only [HF.set, if_neg hj] at e
      exact m.dom j b o e
/-- cells of chunk k are written -/
theorem Mem.write (m : Mem B r D w0 mu w H) {k : Nat} {c' : Ch} {w' : World} {b o : Nat} {l : List Value} (f : Fit ((H k).updL b o l) w') (kp : Keep (fun x y => x = b ∧ o ≤ y ∧ y < o + l.length) w w')
    (hin : ∀ j, j < l.length → H k b (o + j) ≠ none) (s : c'.sat B k ((H k).updL b o l)) : Mem B r D w0 ((k, c') :: mu) w' (HF.set H k ((H k).updL b o l)) := by
  have le : ∀ x y, (H k).updL b o l x y ≠ none → H k x y ≠ none := fun x y => PH.updL_ne hin
  have dj2 : ∀ h : PH, (H k).dj h → ((H k).updL b o l).dj h := by
    intro h d x y
    rcases d x y with e | e
    · left
      cases c : (H k).updL b o l x y with
      | none => rfl
      | some v => exact absurd e (le x y (by rw [c]; simp))
    · exact .inr e
  have out : ∀ h : PH, Fit h w → (H k).dj h → Fit h w' := fun h fh d => fh.keep kp fun x y e => by
    rintro ⟨rfl, c1, c2⟩
    have := hin (y - o) (by omega)
    rw [show o + (y - o) = y from by omega] at this
    rcases d x y with e2 | e2
    · exact this e2
    · exact e e2
  refine ⟨fun j c e => ?_, fun j => ?_, fun i j hij => ?_, fun j => ?_, out r m.fitr (m.djr k), ?_, fun j x y e => ?_⟩
  · rw [mlk_cons] at e
    by_cases hj : k = j
    · subst hj
      rw [if_pos rfl] at e; injection e with e; subst e
      simp only [HF.set, if_true]; exact s
    · rw [if_neg hj] at e
      simp only [HF.set, if_neg (Ne.symm hj)]
      exact m.sat j c e
  · by_cases hj : j = k
    · subst hj; simp only [HF.set, if_true]; exact f
    · simp only [HF.set, if_neg hj]; exact out _ (m.fit j) (m.dj k j (Ne.symm hj))
  · by_cases hi : i = k <;> by_cases hj : j = k
    · exact absurd (hi.trans hj.symm) hij
    · simp only [HF.set, if_pos hi, if_neg hj]; exact dj2 _ (m.dj k j (Ne.symm hj))
    · simp only [HF.set, if_neg hi, if_pos hj]; exact PH.dj_symm (dj2 _ (m.dj k i (Ne.symm hi)))
    · simp only [HF.set, if_neg hi, if_neg hj]; exact m.dj i j hij
  · by_cases hj : j = k
    · simp only [HF.set, if_pos hj]; exact dj2 _ (m.djr k)
    · simp only [HF.set, if_neg hj]; exact m.djr j
  · refine m.keep.trans kp ?_
    rintro x y ⟨rfl, c1, c2⟩
    have := hin (y - o) (by omega)
    rw [show o + (y - o) = y from by omega] at this
    exact m.dom k x y this
  · by_cases hj : j = k
    · subst hj; simp only [HF.set, if_true] at e; exact m.dom j x y (le x y e)
    · simp only [HF.set, if_neg hj] at e; exact m.dom j x y e
end
end Go.Proofs.Ytiilpopeognekaa
