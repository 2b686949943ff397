/-
  The symbolic machine is right: what a pure operation yields in a frame and a memory that fit.
-/
import Derived.Test.YtiilpopeognekaaM1
namespace Go.Proofs.Ytiilpopeognekaa
open Go Go.RowKit
set_option linter.unusedVariables false
set_option linter.unusedSimpArgs false

/-! ### small lists -/
theorem mlk_mem {α : Type} {k : Nat} {l : List (Nat × α)} {c : α} (h : mlk k l = some c) : (k, c) ∈ l := by
  induction l with
  | nil => cases h
  | cons x r ih =>
    obtain ⟨j, d⟩ := x
    simp only [mlk] at h
    cases e : Nat.beq j k with
    | true => rw [e] at h; simp at h; subst h; have := Nat.eq_of_beq_eq_true e; subst this; exact List.mem_cons_self
    | false => rw [e] at h; exact List.mem_cons_of_mem _ (ih h)
theorem nth_eq {α : Type} : ∀ (l : List α) (n : Nat), nth l n = l[n]?
  | [], _ => by simp [nth]
  | _ :: _, 0 => by simp [nth]
  | _ :: r, n + 1 => by simp [nth, nth_eq r n]
theorem cut_spec {α : Type} : ∀ (l : List α) (o n : Nat) (m : List α), cut l o n = some m → m.length = n ∧ ∀ j, j < n → m[j]? = l[o + j]?
  | l, 0, 0, m, h => by
    cases l <;> (simp [cut] at h; subst h; exact ⟨rfl, fun j hj => absurd hj (by omega)⟩)
  | [], 0, n + 1, m, h => by simp [cut] at h
  | [], o + 1, n, m, h => by simp [cut] at h
  | x :: r, 0, n + 1, m, h => by
    simp only [cut] at h
    cases e : cut r 0 n with
    | none => rw [e] at h; cases h
    | some l =>
      rw [e] at h; injection h with h; subst h
      obtain ⟨h1, h2⟩ := cut_spec r 0 n l e
      refine ⟨by simp [h1], fun j hj => ?_⟩
      cases j with
      | zero => simp
      | succ j => have := h2 j (by omega); simp at this ⊢; exact this
  | x :: r, o + 1, n, m, h => by
    simp only [cut] at h
    obtain ⟨h1, h2⟩ := cut_spec r o n m h
    refine ⟨h1, fun j hj => ?_⟩
    rw [h2 j hj, show o + 1 + j = (o + j) + 1 from by omega, List.getElem?_cons_succ]
theorem paste_spec {α : Type} : ∀ (l : List α) (o : Nat) (ys m : List α), paste l o ys = some m → m.length = l.length ∧ o + ys.length ≤ l.length ∧ (∀ j, j < ys.length → m[o + j]? = ys[j]?) ∧ ∀ j, (j < o ∨ o + ys.length ≤ j) → m[j]? = l[j]?
  | l, 0, [], m, h => by cases l <;> (simp [paste] at h; subst h; exact ⟨rfl, by simp, fun j hj => absurd hj (by simp), fun _ _ => rfl⟩)
  | [], 0, y :: ys, m, h => by simp [paste] at h
  | [], o + 1, ys, m, h => by simp [paste] at h
  | x :: r, 0, y :: ys, m, h => by
    simp only [paste] at h
    cases e : paste r 0 ys with
    | none => rw [e] at h; cases h
    | some l =>
      rw [e] at h; injection h with h; subst h
      obtain ⟨h1, h2, h3, h4⟩ := paste_spec r 0 ys l e
      refine ⟨by simp [h1], by simp at h2 ⊢; omega, fun j hj => ?_, fun j hj => ?_⟩
      · cases j with
        | zero => simp
        | succ j =>
          have := h3 j (by simp at hj; omega)
          simp at this ⊢; exact this
      · cases j with
        | zero => simp at hj
        | succ j =>
          have := h4 j (by simp at hj ⊢; omega)
          simp at this ⊢; exact this
  | x :: r, o + 1, ys, m, h => by
    simp only [paste] at h
    cases e : paste r o ys with
    | none => rw [e] at h; cases h
    | some l =>
      rw [e] at h; injection h with h; subst h
      obtain ⟨h1, h2, h3, h4⟩ := paste_spec r o ys l e
      refine ⟨by simp [h1], by simp; omega, fun j hj => ?_, fun j hj => ?_⟩
      · rw [show o + 1 + j = (o + j) + 1 from by omega, List.getElem?_cons_succ]; exact h3 j hj
      · cases j with
        | zero => simp
        | succ j => have := h4 j (by omega); simp at this ⊢; exact this
theorem lenEq_spec {α : Type} : ∀ (l : List α) (n : Nat), lenEq l n = true → l.length = n
  | [], 0, _ => rfl
  | [], _ + 1, h => by simp [lenEq] at h
  | _ :: _, 0, h => by simp [lenEq] at h
  | _ :: r, n + 1, h => by simp [lenEq_spec r n h]

/-! ### what is asked of a memory -/
theorem layV_eq : ∀ l : List Value, layV l = some (l.map AV.v)
  | [] => rfl
  | x :: r => by simp [layV, layV_eq r]
theorem lay_eq {α : Type} : ∀ l : List α, lay l = some l
  | [] => rfl
  | x :: r => by simp [lay, lay_eq r]
theorem vcells_eq (z : Value) : vcells z = some (vcellsL z) := by cases z <;> simp [vcells, vcellsL, layV_eq]
theorem Alls_append {p q : Ob} : Alls (p ++ q) ↔ Alls p ∧ Alls q := by
  induction p with
  | nil => simp [Alls]
  | cons x r ih => simp [Alls, ih, and_assoc]

/-- an array that is read lies in r -/
def RA.ok (r : PH) (g : RA) : Prop := ∀ i, i < g.n → ∃ b o, g.A = some ⟨b, o, none⟩ ∧ (g.row i).length = g.sz ∧ ∀ j, j < g.sz → r b (o + i * g.sz + j) = (g.row i)[j]?
def GaOk (r : PH) (ga : Ga) : Prop := ∀ k g, mlk k ga = some g → g.ok r
/-- what a chunk says of its part of memory -/
def Ch.sat (B : BE) (k : Nat) : Ch → PH → Prop
  | .cells l, h => (B k).spot = none ∧ ∀ j x, l[j]? = some x → h (B k).block ((B k).off + j) = some (x.den B)
  | .arr A n c sz rows, h => n ≤ c ∧ (∀ i, i < n → ∃ b o, A = some ⟨b, o, none⟩ ∧ (rows i).length = sz ∧ ∀ j, j < sz → h b (o + i * sz + j) = (rows i)[j]?) ∧
      (∀ i, n ≤ i → i < c → ∃ b o, A = some ⟨b, o, none⟩ ∧ ∀ j, j < sz → h b (o + i * sz + j) ≠ none)
  | .own φ, h => φ h
theorem RA.ok_mono {r s : PH} {g : RA} (h : g.ok r) (l : r.le s) : g.ok s := fun i hi => by
  obtain ⟨b, o, e, e2, f⟩ := h i hi
  refine ⟨b, o, e, e2, fun j hj => ?_⟩
  have h1 := f j hj
  have h2 : j < (g.row i).length := by rw [e2]; exact hj
  rw [List.getElem?_eq_getElem h2] at h1 ⊢
  exact l _ _ _ h1
theorem GaOk.mono {r s : PH} {ga : Ga} (h : GaOk r ga) (l : r.le s) : GaOk s ga := fun k g e => RA.ok_mono (h k g e) l

/-- the memory fits: the chunks lie apart from each other and from what is only read; of the old world only D may have turned -/
structure Mem (B : BE) (r : PH) (D : Nat → Nat → Prop) (w0 : World) (mu : Mu) (w : World) (H : Nat → PH) : Prop where
  sat : ∀ k c, mlk k mu = some c → c.sat B k (H k)
  fit : ∀ k, Fit (H k) w
  dj : ∀ j k, j ≠ k → (H j).dj (H k)
  djr : ∀ k, (H k).dj r
  fitr : Fit r w
  keep : Keep D w0 w
  dom : ∀ k b o, H k b o ≠ none → D b o ∨ w0.heap.size ≤ b
/-- what reading asks of a memory -/
structure Mr (B : BE) (r : PH) (mu : Mu) (w : World) (H : Nat → PH) : Prop where
  sat : ∀ k c, mlk k mu = some c → c.sat B k (H k)
  fit : ∀ k c, mlk k mu = some c → Fit (H k) w
  fitr : Fit r w
  dj : ∀ j k, j ≠ k → (H j).dj (H k)
  djr : ∀ k, (H k).dj r
theorem Mem.mr {B : BE} {r : PH} {D : Nat → Nat → Prop} {w0 : World} {mu : Mu} {w : World} {H : Nat → PH} (m : Mem B r D w0 mu w H) : Mr B r mu w H := ⟨m.sat, fun k _ _ => m.fit k, m.fitr, m.dj, m.djr⟩
/-- the frame fits -/
structure Fits (B : BE) (N : Nat) (fr : Fr) (gf : GF) (a : Act) : Prop where
  size : a.tmps.size = N
  defers : a.defers = []
  vfr : ∀ t x, mlk t fr = some x → glk t gf = none → a.tmps.getD t undef = x.den B
  vgf : ∀ t d w x, (t, d, w, x) ∈ gf → a.tmps.getD d undef = .bool w → a.tmps.getD t undef = x.den B
  vgu : ∀ t d w x, (t, d, w, x) ∈ gf → a.tmps.getD d undef ≠ .bool w → a.tmps.getD t undef = undef
  vno : ∀ t d w x, (t, d, w, x) ∈ gf → mlk t fr = none
theorem glk_mem {t : Nat} : ∀ {gf : GF} {c : Nat × Bool × SV}, glk t gf = some c → (t, c) ∈ gf
  | [], _, h => by cases h
  | (j, d) :: r, c, h => by
    simp only [glk] at h
    cases e : Nat.beq j t with
    | true => rw [e] at h; simp at h; subst h; have := Nat.eq_of_beq_eq_true e; subst this; exact List.mem_cons_self
    | false => rw [e] at h; exact List.mem_cons_of_mem _ (glk_mem h)
theorem glk_none {t : Nat} : ∀ {gf : GF}, glk t gf = none → ∀ c, (t, c) ∉ gf
  | [], _, c, hm => by cases hm
  | (j, d) :: r, h, c, hm => by
    simp only [glk] at h
    cases e : Nat.beq j t with
    | true => rw [e] at h; cases h
    | false =>
      rw [e] at h
      cases hm with
      | head => simp at e
      | tail _ hm => exact glk_none h c hm
theorem gHas_mem {d : Nat} {w : Bool} : ∀ {g : Gd}, gHas d w g = true → (d, w) ∈ g
  | [], h => by cases h
  | (d', w') :: r, h => by
    simp only [gHas] at h
    cases e : (Nat.beq d' d && (w' == w)) with
    | false => rw [e] at h; exact List.mem_cons_of_mem _ (gHas_mem h)
    | true =>
      simp only [Bool.and_eq_true, beq_iff_eq] at e
      have := Nat.eq_of_beq_eq_true e.1
      rw [this, e.2]; exact List.mem_cons_self

theorem Fits.ev {B : BE} {N : Nat} {fr : Fr} {gf : GF} {a : Act} (f : Fits B N fr gf a) {g : Gd} (hg : ∀ d w, (d, w) ∈ g → a.tmps.getD d undef = .bool w) {x : Operand} {y : SV} (h : ev g fr gf x = some y) : a.eval x = y.den B := by
  cases x with
  | tmp t =>
    simp only [Go.Proofs.Ytiilpopeognekaa.ev] at h
    cases e : glk t gf with
    | none => rw [e] at h; exact f.vfr t y h e
    | some q =>
      obtain ⟨d, w, z⟩ := q
      rw [e] at h
      simp only at h
      cases e2 : gHas d w g with
      | false => rw [e2] at h; cases h
      | true =>
        rw [e2] at h; simp at h; subst h
        exact f.vgf t d w z (glk_mem e) (hg d w (gHas_mem e2))
  | const c => simp only [Go.Proofs.Ytiilpopeognekaa.ev] at h; injection h with h; subst h; rfl
  | func fn => simp only [Go.Proofs.Ytiilpopeognekaa.ev] at h; injection h with h; subst h; rfl
  | global _ => cases h
theorem Fits.evs {B : BE} {N : Nat} {fr : Fr} {gf : GF} {a : Act} (f : Fits B N fr gf a) {g : Gd} (hg : ∀ d w, (d, w) ∈ g → a.tmps.getD d undef = .bool w) : ∀ {l : List Operand} {ys : List SV}, evs g fr gf l = some ys → l.map a.eval = ys.map (SV.den B)
  | [], ys, h => by simp only [Go.Proofs.Ytiilpopeognekaa.evs] at h; injection h with h; subst h; rfl
  | x :: r, ys, h => by
    simp only [Go.Proofs.Ytiilpopeognekaa.evs] at h
    cases e : Go.Proofs.Ytiilpopeognekaa.ev g fr gf x with
    | none => rw [e] at h; cases h
    | some y =>
      cases e2 : Go.Proofs.Ytiilpopeognekaa.evs g fr gf r with
      | none => rw [e, e2] at h; cases h
      | some l =>
        rw [e, e2] at h; injection h with h; subst h
        simp [f.ev hg e, f.evs hg e2]

/-! ### types -/
theorem TOk.get {P : Program} : ∀ {TT : List TI} {t : Nat} {ti : TI}, TOk P TT → tlk t TT = some ti → ti.id = t ∧ ti.ok P
  | [], _, _, _, h => by cases h
  | x :: r, t, ti, hT, h => by
    simp only [tlk] at h
    cases e : Nat.beq x.id t with
    | true => rw [e] at h; simp at h; subst h; exact ⟨Nat.eq_of_beq_eq_true e, hT.1⟩
    | false => rw [e] at h; exact TOk.get hT.2 h
section
variable {P : Program} {w : World}
theorem run_underlying {t : TypeId} {d : TypeDesc} (h : P.underlying t = some d) : (underlying t).run P w = .ok d w := by
  simp [underlying, h]
theorem run_info {t : TypeId} {i : TypeInfo} (h : P.info? t = some i) : (typeInfo t).run P w = .ok i w := by
  simp [typeInfo, h]
theorem run_size {t : TypeId} {i : TypeInfo} (h : P.info? t = some i) : (sizeOf t).run P w = .ok i.size w := by
  simp [sizeOf, typeInfo, h]
theorem TI.ok.desc {ti : TI} (h : ti.ok P) : ∃ d, P.underlying ti.id = some d ∧ shapeK d = ti.kind := by
  have := h.1
  cases e : P.underlying ti.id with
  | none => rw [e] at this; cases this
  | some d => rw [e] at this; simp at this; exact ⟨d, rfl, this⟩
theorem TI.ok.info {ti : TI} (h : ti.ok P) : ∃ i, P.info? ti.id = some i ∧ i.size = ti.sz ∧ i.bytes = ti.by_ ∧ i.zero = some ti.zero := by
  have h1 := h.2.1
  have h2 := h.2.2
  cases e : P.info? ti.id with
  | none => rw [e] at h1; cases h1
  | some i => rw [e] at h1 h2; simp at h1 h2; exact ⟨i, rfl, h1.1, h1.2, h2⟩
theorem run_isAgg {ti : TI} (h : ti.ok P) : (isAgg ti.id).run P w = .ok ti.isAg w := by
  obtain ⟨d, h1, h2⟩ := h.desc
  simp only [isAgg, Sem.run_bind, run_underlying h1, Result.andThen_ok, TI.isAg, ← h2]
  cases d <;> rfl

/-! ### loads and stores of cells -/
/-- the cells lie so in the world -/
def Lies (w : World) (a : Addr) (l : List Value) : Prop := ∀ j u, l[j]? = some u → w.cell? (a.add j) = some u
theorem run_loadFrom (a : Addr) : ∀ (n i : Nat) (acc : Array Value) (l : List Value), l.length = n → (∀ j u, l[j]? = some u → w.cell? (a.add (i + j)) = some u) →
    (loadCellsFrom a i n acc).run P w = .ok (acc ++ l.toArray) w
  | 0, i, acc, l, hl, _ => by
    have : l = [] := List.length_eq_zero_iff.1 hl
    subst this
    simp [loadCellsFrom]
  | n + 1, i, acc, l, hl, h => by
    cases l with
    | nil => simp at hl
    | cons u r =>
      have h0 := h 0 u rfl
      simp only [Nat.add_zero] at h0
      simp only [loadCellsFrom, Sem.run_bind, run_load, h0, Result.andThen_ok]
      rw [run_loadFrom a n (i + 1) (acc.push u) r (by simpa using hl) (fun j v hj => by
        have := h (j + 1) v (by simpa using hj)
        rwa [show i + (j + 1) = i + 1 + j from by omega] at this)]
      simp
theorem run_loadCells {a : Addr} {l : List Value} (h : Lies w a l) : (loadCells a l.length).run P w = .ok l.toArray w := by
  have := run_loadFrom (P := P) a l.length 0 #[] l rfl (fun j u hj => by rw [Nat.zero_add]; exact h j u hj)
  simpa [loadCells] using this
theorem run_loadVar {ti : TI} (hti : ti.ok P) {a : Addr} {l : List Value} (hl : l.length = ti.sz) (h : Lies w a l) (x : Value)
    (hx : (ti.isAg = true ∧ x = .agg l.toArray) ∨ (ti.isAg = false ∧ l = [x])) : (loadVar ti.id a).run P w = .ok x w := by
  obtain ⟨i, h1, h2, _, _⟩ := hti.info
  simp only [loadVar, Sem.run_bind, run_isAgg hti, Result.andThen_ok]
  rcases hx with ⟨e, rfl⟩ | ⟨e, rfl⟩
  · rw [e, if_pos rfl]
    simp only [Sem.run_bind, run_size h1, Result.andThen_ok, h2, ← hl, run_loadCells h, Sem.run_pure]
  · rw [e, if_neg (by simp)]
    have := h 0 x rfl
    simp only [Addr.add, if_true] at this
    simp only [run_load, this]
end

theorem add_none {a : Addr} (h : a.spot = none) (n : Nat) : a.add n = ⟨a.block, a.off + n, none⟩ := by
  unfold Addr.add
  split
  · rename_i e; subst e; cases a; simp at h; subst h; rfl
  · rfl
theorem add_mk (b o n : Nat) : (⟨b, o, none⟩ : Addr).add n = ⟨b, o + n, none⟩ := add_none rfl n
theorem elP_mk (b o : Nat) (i : Int) (sz j : Nat) : elP (some ⟨b, o, none⟩) i sz j = .pointer (some ⟨b, o + i.toNat * sz + j, none⟩) := by
  simp [elP, add_mk]

theorem svOf_spec {ag : Bool} {l : List AV} {x : SV} (h : svOf ag l = some x) (B : BE) : (ag = true ∧ x = .ag l) ∨ (ag = false ∧ ∃ y, l = [y] ∧ x = .a y) := by
  cases ag with
  | true =>
    left; refine ⟨rfl, ?_⟩
    cases l with
    | nil => simp [svOf] at h; exact h.symm
    | cons y r => cases r <;> (simp [svOf] at h; exact h.symm)
  | false =>
    right; refine ⟨rfl, ?_⟩
    cases l with
    | nil => simp [svOf] at h
    | cons y r => cases r <;> simp [svOf] at h; exact ⟨y, rfl, h.symm⟩
theorem cut_map {α β : Type} (f : α → β) : ∀ (l : List α) (o n : Nat) (m : List α), cut l o n = some m → cut (l.map f) o n = some (m.map f)
  | l, 0, 0, m, h => by cases l <;> (simp [cut] at h ⊢; exact h)
  | [], 0, n + 1, m, h => by simp [cut] at h
  | [], o + 1, n, m, h => by simp [cut] at h
  | x :: r, 0, n + 1, m, h => by
    simp only [cut, List.map_cons] at h ⊢
    cases e : cut r 0 n with
    | none => rw [e] at h; cases h
    | some l => rw [e] at h; injection h with h; subst h; rw [cut_map f r 0 n l e]; rfl
  | x :: r, o + 1, n, m, h => by
    simp only [cut, List.map_cons] at h ⊢
    exact cut_map f r o n m h

section
variable {P : Program} {w w0 : World} {B : BE} {r : PH} {D : Nat → Nat → Prop} {mu : Mu} {ga : Ga} {H : Nat → PH} {TT : List TI}
/-- what a load finds is what lies there -/
theorem ld_ok (hga : GaOk r ga) (m : Mr B r mu w H) {ti : TI} (hti : ti.ok P) {y x : SV} {q : Ob} (h : ld ti mu ga y = some (x, q)) (hq : Alls q) :
    ∃ a : Addr, y.den B = .pointer (some a) ∧ (loadVar ti.id a).run P w = .ok (x.den B) w := by
  have fin : ∀ (a : Addr) (l : List AV) (x : SV), l.length = ti.sz → svOf ti.isAg l = some x → Lies w a (l.map (AV.den B)) → (loadVar ti.id a).run P w = .ok (x.den B) w := by
    intro a l x hl hs hL
    refine run_loadVar hti (by simpa using hl) hL _ ?_
    rcases svOf_spec hs B with ⟨e, rfl⟩ | ⟨e, y, rfl, rfl⟩
    · exact .inl ⟨e, rfl⟩
    · exact .inr ⟨e, rfl⟩
  cases y with
  | ag l => simp [ld] at h
  | fn f l => simp [ld] at h
  | un => simp [ld] at h
  | a y =>
    cases y with
    | v x => simp [ld] at h
    | sl k A n c => simp [ld] at h
    | rs k A n c => simp [ld] at h
    | p k o =>
      simp only [ld] at h
      cases e : mlk k mu with
      | none => rw [e] at h; cases h
      | some c =>
        rw [e] at h
        cases c with
        | arr A n c sz rows => simp at h
        | own φ => simp at h
        | cells l =>
          simp only at h
          cases e2 : cut l o ti.sz with
          | none => rw [e2] at h; cases h
          | some l' =>
            rw [e2] at h
            simp only at h
            cases e3 : svOf ti.isAg l' with
            | none => rw [e3] at h; cases h
            | some z =>
              rw [e3] at h; simp at h
              obtain ⟨rfl, rfl⟩ := h
              obtain ⟨hs, hc⟩ := m.sat k _ e
              obtain ⟨c1, c2⟩ := cut_spec l o ti.sz l' e2
              refine ⟨(B k).add o, rfl, fin _ l' z c1 e3 fun j u hj => ?_⟩
              rw [List.getElem?_map] at hj
              cases hx : l'[j]? with
              | none => rw [hx] at hj; cases hj
              | some av =>
                rw [hx] at hj; simp at hj; subst hj
                have hjl : j < ti.sz := by rw [← c1]; exact (List.getElem?_eq_some_iff.1 hx).1
                have := hc (o + j) av (by rw [← c2 j hjl]; exact hx)
                rw [add_none hs, add_mk, Nat.add_assoc]
                exact (m.fit k _ e _ _ _ this).1
    | pe k A n i sz o =>
      simp only [ld] at h
      cases e : mlk k mu with
      | none => rw [e] at h; cases h
      | some c =>
        rw [e] at h
        cases c with
        | cells l => simp at h
        | own φ => simp at h
        | arr A' n' c sz' rows =>
          simp only at h
          cases e2 : cut (rows i.toNat) o ti.sz with
          | none => rw [e2] at h; cases h
          | some l' =>
            rw [e2] at h
            simp only [layV_eq, Option.bind_some] at h
            cases e3 : svOf ti.isAg (l'.map AV.v) with
            | none => rw [e3] at h; cases h
            | some z =>
              rw [e3] at h; simp at h
              obtain ⟨rfl, rfl⟩ := h
              obtain ⟨rfl, rfl, rfl, ⟨q1, q2⟩, _⟩ := hq
              obtain ⟨_, hs, _⟩ := m.sat k _ e
              obtain ⟨b, o', rfl, hlen, hc⟩ := hs i.toNat (by omega)
              obtain ⟨c1, c2⟩ := cut_spec _ o ti.sz l' e2
              refine ⟨_, elP_mk b o' i sz o, fin _ (l'.map AV.v) z (by simpa using c1) e3 fun j u hj => ?_⟩
              simp only [List.map_map] at hj
              rw [List.getElem?_map] at hj
              cases hx : l'[j]? with
              | none => rw [hx] at hj; cases hj
              | some av =>
                rw [hx] at hj; simp [AV.den] at hj; subst hj
                have hjl : j < ti.sz := by rw [← c1]; exact (List.getElem?_eq_some_iff.1 hx).1
                have h2 := c2 j hjl
                rw [hx] at h2
                have h3 : o + j < sz := by rw [← hlen]; exact (List.getElem?_eq_some_iff.1 h2.symm).1
                have := hc (o + j) h3
                rw [← h2] at this
                rw [add_mk, Nat.add_assoc]
                exact (m.fit k _ e _ _ _ this).1
    | re k A n i sz o =>
      simp only [ld] at h
      cases e : mlk k ga with
      | none => rw [e] at h; cases h
      | some c =>
        rw [e] at h
        obtain ⟨A', n', sz', row⟩ := c
        simp only at h
        cases e2 : cut (row i.toNat) o ti.sz with
        | none => rw [e2] at h; cases h
        | some l' =>
          rw [e2] at h
          simp only [layV_eq, Option.bind_some] at h
          cases e3 : svOf ti.isAg (l'.map AV.v) with
          | none => rw [e3] at h; cases h
          | some z =>
            rw [e3] at h; simp at h
            obtain ⟨rfl, rfl⟩ := h
            obtain ⟨rfl, rfl, rfl, ⟨q1, q2⟩, _⟩ := hq
            obtain ⟨b, o', e4, hlen, hc⟩ := hga k _ e i.toNat (by simp; omega)
            simp only at e4 hlen hc
            subst e4
            obtain ⟨c1, c2⟩ := cut_spec _ o ti.sz l' e2
            refine ⟨_, elP_mk b o' i sz o, fin _ (l'.map AV.v) z (by simpa using c1) e3 fun j u hj => ?_⟩
            simp only [List.map_map] at hj
            rw [List.getElem?_map] at hj
            cases hx : l'[j]? with
            | none => rw [hx] at hj; cases hj
            | some av =>
              rw [hx] at hj; simp [AV.den] at hj; subst hj
              have hjl : j < ti.sz := by rw [← c1]; exact (List.getElem?_eq_some_iff.1 hx).1
              have h2 := c2 j hjl
              rw [hx] at h2
              have h3 : o + j < sz := by rw [← hlen]; exact (List.getElem?_eq_some_iff.1 h2.symm).1
              have := hc (o + j) h3
              rw [← h2] at this
              rw [add_mk, Nat.add_assoc]
              exact (m.fitr _ _ _ this).1
end
end Go.Proofs.Ytiilpopeognekaa
