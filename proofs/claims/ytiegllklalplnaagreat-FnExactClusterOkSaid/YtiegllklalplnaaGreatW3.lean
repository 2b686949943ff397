
/-
  The symbolic machine is right: lists, types, what a memory and a frame say; loads.
-/
import Derived.Test.YtiegllklalplnaaGreatW2
namespace Go.Proofs.YtiegllklalplnaaGreat
open Go Go.RowKit
set_option linter.unusedVariables false
set_option linter.unusedSimpArgs false

example : SV.anyV (V.usesB 3) (.tu [.a (.g 3)]) = true := rfl
/-! ### small lists -/
theorem mlk_mem {α : Type} {k : Nat} {l : List (Nat × α)} {c : α} (h : mlk k l = some c) : (k, c) ∈ l := by
  induction l with
  | nil => cases h
  | cons x r ih =>
    obtain ⟨j, d⟩ := x
    simp only [mlk] at h
    cases e : Nat.beq j k with
    | true => rw [e] at h; simp at h; subst h; have := Nat.eq_of_beq_eq_true e; subst this; exact List.mem_cons_self
    | false => rw [e] at h; exact List.mem_cons_of_mem _ (ih h)
theorem nth_eq {α : Type} : ∀ (l : List α) (n : Nat), nth l n = l[n]?
  | [], _ => by simp [nth]
  | _ :: _, 0 => by simp [nth]
  | _ :: r, n + 1 => by simp [nth, nth_eq r n]
theorem cut_spec {α : Type} : ∀ (l : List α) (o n : Nat) (m : List α), cut l o n = some m → m.length = n ∧ ∀ j, j < n → m[j]? = l[o + j]?
  | l, 0, 0, m, h => by
    cases l <;> (simp [cut] at h; subst h; exact ⟨rfl, fun j hj => absurd hj (by omega)⟩)
  | [], 0, n + 1, m, h => by simp [cut] at h
  | [], o + 1, n, m, h => by simp [cut] at h
  | x :: r, 0, n + 1, m, h => by
    simp only [cut] at h
    cases e : cut r 0 n with
    | none => rw [e] at h; cases h
    | some l =>
      rw [e] at h; injection h with h; subst h
      obtain ⟨h1, h2⟩ := cut_spec r 0 n l e
      refine ⟨by simp [h1], fun j hj => ?_⟩
      cases j with
      | zero => simp
      | succ j => have := h2 j (by omega); simp at this ⊢; exact this
  | x :: r, o + 1, n, m, h => by
    simp only [cut] at h
    obtain ⟨h1, h2⟩ := cut_spec r o n m h
    refine ⟨h1, fun j hj => ?_⟩
    rw [h2 j hj, show o + 1 + j = (o + j) + 1 from by omega, List.getElem?_cons_succ]
theorem paste_spec {α : Type} : ∀ (l : List α) (o : Nat) (ys m : List α), paste l o ys = some m → m.length = l.length ∧ o + ys.length ≤ l.length ∧ (∀ j, j < ys.length → m[o + j]? = ys[j]?) ∧ ∀ j, (j < o ∨ o + ys.length ≤ j) → m[j]? = l[j]?
  | l, 0, [], m, h => by cases l <;> (simp [paste] at h; subst h; exact ⟨rfl, by simp, fun j hj => absurd hj (by simp), fun _ _ => rfl⟩)
  | [], 0, y :: ys, m, h => by simp [paste] at h
  | [], o + 1, ys, m, h => by simp [paste] at h
  | x :: r, 0, y :: ys, m, h => by
    simp only [paste] at h
    cases e : paste r 0 ys with
    | none => rw [e] at h; cases h
    | some l =>
      rw [e] at h; injection h with h; subst h
      obtain ⟨h1, h2, h3, h4⟩ := paste_spec r 0 ys l e
      refine ⟨by simp [h1], by simp at h2 ⊢; omega, fun j hj => ?_, fun j hj => ?_⟩
      · cases j with
        | zero => simp
        | succ j =>
          have := h3 j (by simp at hj; omega)
          simp at this ⊢; exact this
      · cases j with
        | zero => simp at hj
        | succ j =>
          have := h4 j (by simp at hj ⊢; omega)
          simp at this ⊢; exact this
  | x :: r, o + 1, ys, m, h => by
    simp only [paste] at h
    cases e : paste r o ys with
    | none => rw [e] at h; cases h
    | some l =>
      rw [e] at h; injection h with h; subst h
      obtain ⟨h1, h2, h3, h4⟩ := paste_spec r o ys l e
      refine ⟨by simp [h1], by simp; omega, fun j hj => ?_, fun j hj => ?_⟩
      · rw [show o + 1 + j = (o + j) + 1 from by omega, List.getElem?_cons_succ]; exact h3 j hj
      · cases j with
        | zero => simp
        | succ j => have := h4 j (by omega); simp at this ⊢; exact this
theorem lenEq_spec {α : Type} : ∀ (l : List α) (n : Nat), lenEq l n = true → l.length = n
  | [], 0, _ => rfl
  | [], _ + 1, h => by simp [lenEq] at h
  | _ :: _, 0, h => by simp [lenEq] at h
  | _ :: r, n + 1, h => by simp [lenEq_spec r n h]


theorem vcells_eq (z : Value) : vcells z = some (vcellsL z) := by
  cases z <;> first
    | rfl
    | (rename_i cs; simp only [vcells, vcellsL]; generalize cs.toList = l; induction l with
        | nil => rfl
        | cons x r ih => simp [layV, ih])
theorem layV_eq : ∀ l : List Value, layV l = some (l.map V.v)
  | [] => rfl
  | x :: r => by simp [layV, layV_eq r]
theorem layD_eq (q : Tg) : ∀ l : List D, layD q l = some (l.map (D.toV q))
  | [] => rfl
  | x :: r => by cases x <;> simp [layD, layD_eq q r, D.toV]
theorem layT_spec {q : Tg} : ∀ {l m : List V}, layT q l = some m → m = l.map (V.tag q)
  | [], m, h => by simp [layT] at h; subst h; rfl
  | x :: r, m, h => by
    simp only [layT] at h
    cases e : layT q r with
    | none => rw [e] at h; cases h
    | some l =>
      rw [e] at h
      have ih := layT_spec e
      subst ih
      cases x with
      | s q' sz n f =>
        cases q' with
        | o => simp at h; subst h; rfl
        | _ => simp at h; subst h; rfl
      | any => simp at h
      | _ => simp at h; subst h; rfl
theorem Alls_append {p q : Ob} : Alls (p ++ q) ↔ Alls p ∧ Alls q := by
  induction p with
  | nil => simp [Alls]
  | cons x r ih => simp [Alls, ih, and_assoc]
theorem hasK_iff {k : Nat} : ∀ {l : List Nat}, hasK k l = true ↔ k ∈ l
  | [] => by simp [hasK]
  | j :: r => by
    simp only [hasK]
    cases e : Nat.beq j k with
    | true => have := Nat.eq_of_beq_eq_true e; subst this; simp
    | false => have := Nat.ne_of_beq_eq_false e; simp [hasK_iff (l := r), Ne.symm this]

/-- what a chunk says of its part of memory -/
def Ch.sat (B : BE) (r h : PH) (k : Nat) : Ch → Prop
  | .row l => ∃ (b o : Nat) (vs : List Value) (h' : PH), B k = .pointer (some ⟨b, o, none⟩) ∧ V.owns B r h' l vs ∧ h'.le h ∧ ∀ j, j < l.length → h b (o + j) = vs[j]? ∧ h' b (o + j) = none
  | .arr sz n f => D.own h (.sl sz n f) (B k)
  | .hole sz n f i k2 => ∃ A c, B k = .slice A n c ∧ n ≤ c ∧ n ≤ maxL ∧ (0 ≤ i ∧ i < n) ∧ B k2 = elP (B k) sz i 0 ∧ ∃ (b o : Nat) (row : Nat → List Value) (H : Nat → PH), A = some ⟨b, o, none⟩ ∧
      (∀ j, j < n → (j : Int) ≠ i → D.owns (H j) (f j) (row j) ∧ (row j).length = sz ∧ ∀ x, x < sz → h b (o + j * sz + x) = (row j)[x]?) ∧
      (∀ j, n ≤ j → j < c → ∀ x, x < sz → h b (o + j * sz + x) ≠ none) ∧ Parts h b o (c * sz) H
  | .ro sz n f => D.rd r (.sl sz n f) (B k)
  | .rrow l => ∃ (b o : Nat) (vs : List Value), B k = .pointer (some ⟨b, o, none⟩) ∧ V.rels B (Zf r fun _ => PH.emp) l vs ∧ ∀ j, j < l.length → r b (o + j) = vs[j]?
theorem Zf_mono {r s : PH} {H K : Nat → PH} (l : r.le s) (m : ∀ k, (H k).le (K k)) (q : Tg) : (Zf r H q).le (Zf s K q) := by
  cases q with
  | k n => exact m n
  | _ => exact l
theorem Zf_emp (r : PH) (H : Nat → PH) (q : Tg) : (Zf r (fun _ => PH.emp) q).le (Zf r H q) := Zf_mono (PH.le_refl _) (fun _ => PH.emp_le _) q
/-- the memory fits: the chunks lie apart from each other and from what is only read -/
structure Mm (B : BE) (r : PH) (mu : Mu) (w : World) (H : Nat → PH) : Prop where
  sat : ∀ k c, mlk k mu = some c → c.sat B r (H k) k
  fit : ∀ k, Fit (H k) w
  dj : ∀ j k, j ≠ k → (H j).dj (H k)
  djr : ∀ k, (H k).dj r
  fitr : Fit r w
/-- what reading asks of a memory -/
structure Mr (B : BE) (r : PH) (mu : Mu) (w : World) (H : Nat → PH) : Prop where
  sat : ∀ k c, mlk k mu = some c → c.sat B r (H k) k
  fit : ∀ k c, mlk k mu = some c → Fit (H k) w
  fitr : Fit r w
  dj : ∀ j k, j ≠ k → (H j).dj (H k)
  djr : ∀ k, (H k).dj r
/-- its parts: what does not hang on the world, and what does -/
structure Ms (B : BE) (r : PH) (mu : Mu) (H : Nat → PH) : Prop where
  sat : ∀ k c, mlk k mu = some c → c.sat B r (H k) k
  dj : ∀ j k, j ≠ k → (H j).dj (H k)
  djr : ∀ k, (H k).dj r
structure Fw (r : PH) (mu : Mu) (H : Nat → PH) (w : World) : Prop where
  fit : ∀ k c, mlk k mu = some c → Fit (H k) w
  fitr : Fit r w
theorem Mr.ms {B : BE} {r : PH} {mu : Mu} {w : World} {H : Nat → PH} (m : Mr B r mu w H) : Ms B r mu H := ⟨m.sat, m.dj, m.djr⟩
theorem Mr.fw {B : BE} {r : PH} {mu : Mu} {w : World} {H : Nat → PH} (m : Mr B r mu w H) : Fw r mu H w := ⟨m.fit, m.fitr⟩
theorem Mm.mr {B : BE} {r : PH} {mu : Mu} {w : World} {H : Nat → PH} (m : Mm B r mu w H) : Mr B r mu w H := ⟨m.sat, fun k _ _ => m.fit k, m.fitr, m.dj, m.djr⟩
/-- the frame fits -/
structure Fits (P : Program) (B : BE) (Z : Tg → PH) (N : Nat) (fr : Fr) (gf : GF) (a : Act) : Prop where
  size : a.tmps.size = N
  defers : a.defers = []
  vfr : ∀ t x, mlk t fr = some x → glk t gf = none → SV.rel P B Z x (a.tmps.getD t undef)
  vgf : ∀ t d w x, (t, d, w, x) ∈ gf → a.tmps.getD d undef = .bool w → SV.rel P B Z x (a.tmps.getD t undef)
  vgu : ∀ t d w x, (t, d, w, x) ∈ gf → a.tmps.getD d undef ≠ .bool w → a.tmps.getD t undef = undef
  vno : ∀ t d w x, (t, d, w, x) ∈ gf → mlk t fr = none
theorem glk_mem {t : Nat} : ∀ {gf : GF} {c : Nat × Bool × SV}, glk t gf = some c → (t, c) ∈ gf
  | [], _, h => by cases h
  | (j, d) :: r, c, h => by
    simp only [glk] at h
    cases e : Nat.beq j t with
    | true => rw [e] at h; simp at h; subst h; have := Nat.eq_of_beq_eq_true e; subst this; exact List.mem_cons_self
    | false => rw [e] at h; exact List.mem_cons_of_mem _ (glk_mem h)
theorem glk_none {t : Nat} : ∀ {gf : GF}, glk t gf = none → ∀ c, (t, c) ∉ gf
  | [], _, c, hm => by cases hm
  | (j, d) :: r, h, c, hm => by
    simp only [glk] at h
    cases e : Nat.beq j t with
    | true => rw [e] at h; cases h
    | false =>
      rw [e] at h
      cases hm with
      | head => simp at e
      | tail _ hm => exact glk_none h c hm
theorem gHas_mem {d : Nat} {w : Bool} : ∀ {g : Gd}, gHas d w g = true → (d, w) ∈ g
  | [], h => by cases h
  | (d', w') :: r, h => by
    simp only [gHas] at h
    cases e : (Nat.beq d' d && (w' == w)) with
    | false => rw [e] at h; exact List.mem_cons_of_mem _ (gHas_mem h)
    | true =>
      simp only [Bool.and_eq_true, beq_iff_eq] at e
      have := Nat.eq_of_beq_eq_true e.1
      rw [this, e.2]; exact List.mem_cons_self


theorem Fits.ev {P : Program} {B : BE} {Z : Tg → PH} {N : Nat} {fr : Fr} {gf : GF} {a : Act} (f : Fits P B Z N fr gf a) {g : Gd} (hg : ∀ d w, (d, w) ∈ g → a.tmps.getD d undef = .bool w) {x : Operand} {y : SV} (h : ev g fr gf x = some y) : SV.rel P B Z y (a.eval x) := by
  cases x with
  | tmp t =>
    simp only [Go.Proofs.YtiegllklalplnaaGreat.ev] at h
    cases e : glk t gf with
    | none => rw [e] at h; exact f.vfr t y h e
    | some q =>
      obtain ⟨d, w, z⟩ := q
      rw [e] at h
      simp only at h
      cases e2 : gHas d w g with
      | false => rw [e2] at h; cases h
      | true =>
        rw [e2] at h; simp at h; subst h
        exact f.vgf t d w z (glk_mem e) (hg d w (gHas_mem e2))
  | const c => simp only [Go.Proofs.YtiegllklalplnaaGreat.ev] at h; injection h with h; subst h; rfl
  | func fn => simp only [Go.Proofs.YtiegllklalplnaaGreat.ev] at h; injection h with h; subst h; exact ⟨[], rfl, rfl⟩
  | global _ => cases h
theorem Fits.evs {P : Program} {B : BE} {Z : Tg → PH} {N : Nat} {fr : Fr} {gf : GF} {a : Act} (f : Fits P B Z N fr gf a) {g : Gd} (hg : ∀ d w, (d, w) ∈ g → a.tmps.getD d undef = .bool w) : ∀ {l : List Operand} {ys : List SV}, evs g fr gf l = some ys → SV.rels P B Z ys (l.map a.eval)
  | [], ys, h => by simp only [Go.Proofs.YtiegllklalplnaaGreat.evs] at h; injection h with h; subst h; rfl
  | x :: r, ys, h => by
    simp only [Go.Proofs.YtiegllklalplnaaGreat.evs] at h
    cases e : Go.Proofs.YtiegllklalplnaaGreat.ev g fr gf x with
    | none => rw [e] at h; cases h
    | some y =>
      cases e2 : Go.Proofs.YtiegllklalplnaaGreat.evs g fr gf r with
      | none => rw [e, e2] at h; cases h
      | some l =>
        rw [e, e2] at h; injection h with h; subst h
        exact ⟨_, _, rfl, f.ev hg e, f.evs hg e2⟩

/-! ### types -/
theorem TOk.get {P : Program} : ∀ {TT : List TI} {t : Nat} {ti : TI}, TOk P TT → tlk t TT = some ti → ti.id = t ∧ ti.ok P
  | [], _, _, _, h => by cases h
  | x :: r, t, ti, hT, h => by
    simp only [tlk] at h
    cases e : Nat.beq x.id t with
    | true => rw [e] at h; simp at h; subst h; exact ⟨Nat.eq_of_beq_eq_true e, hT.1⟩
    | false => rw [e] at h; exact TOk.get hT.2 h
section
variable {P : Program} {w : World}
theorem run_underlying {t : TypeId} {d : TypeDesc} (h : P.underlying t = some d) : (underlying t).run P w = .ok d w := by
  simp [underlying, h]
theorem run_info {t : TypeId} {i : TypeInfo} (h : P.info? t = some i) : (typeInfo t).run P w = .ok i w := by
  simp [typeInfo, h]
theorem run_size {t : TypeId} {i : TypeInfo} (h : P.info? t = some i) : (sizeOf t).run P w = .ok i.size w := by
  simp [sizeOf, typeInfo, h]
theorem TI.ok.desc {ti : TI} (h : ti.ok P) : ∃ d, P.underlying ti.id = some d ∧ shapeK d = ti.kind := by
  have := h.1
  cases e : P.underlying ti.id with
  | none => rw [e] at this; cases this
  | some d => rw [e] at this; simp at this; exact ⟨d, rfl, this⟩
theorem TI.ok.info {ti : TI} (h : ti.ok P) : ∃ i, P.info? ti.id = some i ∧ i.size = ti.sz ∧ i.bytes = ti.by_ ∧ i.zero = some ti.zero := by
  have h1 := h.2.1
  have h2 := h.2.2.1
  cases e : P.info? ti.id with
  | none => rw [e] at h1; cases h1
  | some i => rw [e] at h1 h2; simp at h1 h2; exact ⟨i, rfl, h1.1, h1.2, h2⟩
theorem run_isAgg {ti : TI} (h : ti.ok P) : (isAgg ti.id).run P w = .ok ti.isAg w := by
  obtain ⟨d, h1, h2⟩ := h.desc
  simp only [isAgg, Sem.run_bind, run_underlying h1, Result.andThen_ok, TI.isAg, ← h2]
  cases d <;> rfl

/-! ### loads and stores of cells -/
/-- the cells lie so in the world -/
def Lies (w : World) (a : Addr) (l : List Value) : Prop := ∀ j u, l[j]? = some u → w.cell? (a.add j) = some u
theorem run_loadFrom (a : Addr) : ∀ (n i : Nat) (acc : Array Value) (l : List Value), l.length = n → (∀ j u, l[j]? = some u → w.cell? (a.add (i + j)) = some u) →
    (loadCellsFrom a i n acc).run P w = .ok (acc ++ l.toArray) w
  | 0, i, acc, l, hl, _ => by
    have : l = [] := List.length_eq_zero_iff.1 hl
    subst this
    simp [loadCellsFrom]
  | n + 1, i, acc, l, hl, h => by
    cases l with
    | nil => simp at hl
    | cons u r =>
      have h0 := h 0 u rfl
      simp only [Nat.add_zero] at h0
      simp only [loadCellsFrom, Sem.run_bind, run_load, h0, Result.andThen_ok]
      rw [run_loadFrom a n (i + 1) (acc.push u) r (by simpa using hl) (fun j v hj => by
        have := h (j + 1) v (by simpa using hj)
        rwa [show i + (j + 1) = i + 1 + j from by omega] at this)]
      simp
theorem run_loadCells {a : Addr} {l : List Value} (h : Lies w a l) : (loadCells a l.length).run P w = .ok l.toArray w := by
  have := run_loadFrom (P := P) a l.length 0 #[] l rfl (fun j u hj => by rw [Nat.zero_add]; exact h j u hj)
  simpa [loadCells] using this
theorem run_loadVar {ti : TI} (hti : ti.ok P) {a : Addr} {l : List Value} (hl : l.length = ti.sz) (h : Lies w a l) (x : Value)
    (hx : (ti.isAg = true ∧ x = .agg l.toArray) ∨ (ti.isAg = false ∧ l = [x])) : (loadVar ti.id a).run P w = .ok x w := by
  obtain ⟨i, h1, h2, _, _⟩ := hti.info
  simp only [loadVar, Sem.run_bind, run_isAgg hti, Result.andThen_ok]
  rcases hx with ⟨e, rfl⟩ | ⟨e, rfl⟩
  · rw [e, if_pos rfl]
    simp only [Sem.run_bind, run_size h1, Result.andThen_ok, h2, ← hl, run_loadCells h, Sem.run_pure]
  · rw [e, if_neg (by simp)]
    have := h 0 x rfl
    simp only [Addr.add, if_true] at this
    simp only [run_load, this]
end

theorem add_none {a : Addr} (h : a.spot = none) (n : Nat) : a.add n = ⟨a.block, a.off + n, none⟩ := by
  unfold Addr.add
  split
  · rename_i e; subst e; cases a; simp at h; subst h; rfl
  · rfl
theorem add_mk (b o n : Nat) : (⟨b, o, none⟩ : Addr).add n = ⟨b, o + n, none⟩ := add_none rfl n

theorem svOf_spec {ag : Bool} {l : List V} {x : SV} (h : svOf ag l = some x) : (ag = true ∧ x = .ag l) ∨ (ag = false ∧ ∃ y, l = [y] ∧ x = .a y) := by
  cases ag with
  | true =>
    left; refine ⟨rfl, ?_⟩
    cases l with
    | nil => simp [svOf] at h; exact h.symm
    | cons y r => cases r <;> (simp [svOf] at h; exact h.symm)
  | false =>
    right; refine ⟨rfl, ?_⟩
    cases l with
    | nil => simp [svOf] at h
    | cons y r => cases r <;> simp [svOf] at h; exact ⟨y, rfl, h.symm⟩
section
variable {P : Program} {B : BE} {Z : Tg → PH}
theorem cut_rels : ∀ {l : List V} {vs : List Value} {o n : Nat} {m : List V}, V.rels B Z l vs → cut l o n = some m → ∃ ms, cut vs o n = some ms ∧ V.rels B Z m ms
  | l, vs, 0, 0, m, r, h => by cases l <;> cases vs <;> (simp [cut] at h ⊢; subst h; rfl)
  | [], _, 0, n + 1, m, r, h => by simp [cut] at h
  | [], _, o + 1, n, m, r, h => by simp [cut] at h
  | x :: l, vs, 0, n + 1, m, r, h => by
    obtain ⟨a, t, rfl, r2, r3⟩ := r
    simp only [cut] at h ⊢
    cases e : cut l 0 n with
    | none => rw [e] at h; cases h
    | some l' =>
      rw [e] at h; injection h with h; subst h
      obtain ⟨ms, e1, e2⟩ := cut_rels r3 e
      rw [e1]; exact ⟨_, rfl, _, _, rfl, r2, e2⟩
  | x :: l, vs, o + 1, n, m, r, h => by
    obtain ⟨a, t, rfl, r2, r3⟩ := r
    simp only [cut] at h ⊢
    exact cut_rels r3 h
theorem paste_rels : ∀ {l : List V} {vs : List Value} {o : Nat} {ys : List V} {us : List Value} {m : List V}, V.rels B Z l vs → V.rels B Z ys us → paste l o ys = some m → ∃ ms, paste vs o us = some ms ∧ V.rels B Z m ms
  | l, vs, 0, [], us, m, r, k, h => by
    have k : us = [] := k
    subst k
    have : m = l := by cases l <;> simpa [paste] using h.symm
    subst this
    exact ⟨vs, by cases vs <;> rfl, r⟩
  | [], _, 0, y :: ys, _, m, r, k, h => by simp [paste] at h
  | [], _, o + 1, ys, _, m, r, k, h => by simp [paste] at h
  | x :: l, vs, 0, y :: ys, us, m, r, k, h => by
    obtain ⟨a, t, rfl, r2, r3⟩ := r
    obtain ⟨u, us, rfl, k2, k3⟩ := k
    simp only [paste] at h ⊢
    cases e : paste l 0 ys with
    | none => rw [e] at h; cases h
    | some l' =>
      rw [e] at h; injection h with h; subst h
      obtain ⟨ms, e1, e2⟩ := paste_rels r3 k3 e
      rw [e1]; exact ⟨_, rfl, _, _, rfl, k2, e2⟩
  | x :: l, vs, o + 1, ys, us, m, r, k, h => by
    obtain ⟨a, t, rfl, r2, r3⟩ := r
    simp only [paste] at h ⊢
    cases e : paste l o ys with
    | none => rw [e] at h; cases h
    | some l' =>
      rw [e] at h; injection h with h; subst h
      obtain ⟨ms, e1, e2⟩ := paste_rels r3 k e
      rw [e1]; exact ⟨_, rfl, _, _, rfl, r2, e2⟩
theorem nth_rels {l : List V} {vs : List Value} (r : V.rels B Z l vs) {n : Nat} {x : V} (h : nth l n = some x) : ∃ y, vs[n]? = some y ∧ x.rel B Z y := by
  rw [nth_eq] at h; exact V.rels_get r h
theorem one_cells {y : Value} (h : oneV y = true) : y.cells.toList = [y] := by cases y <;> first | rfl | cases h
theorem rels_v : ∀ l : List Value, V.rels B Z (l.map V.v) l
  | [] => rfl
  | x :: r => ⟨x, r, rfl, rfl, rels_v r⟩
/-- the cells of a value, as the model takes them -/
theorem cells_rel {x : SV} {l : List V} (h : x.cells = some l) {y : Value} (r : SV.rel P B Z x y) : V.rels B Z l y.cells.toList := by
  cases x with
  | un => simp [SV.cells] at h
  | fn f l => simp [SV.cells] at h
  | fb φ => simp [SV.cells] at h
  | tu l => simp [SV.cells] at h
  | ag l' =>
    simp [SV.cells] at h; subst h
    obtain ⟨vs, rfl, r2⟩ := r
    simpa [Value.cells] using r2
  | a u =>
    cases u with
    | v x =>
      simp [SV.cells, vcells_eq] at h; subst h
      have r : y = x := r
      subst r
      cases y <;> first
        | exact rels_v [_]
        | exact rels_v _
    | s q sz n f =>
      simp [SV.cells] at h; subst h
      obtain ⟨A, c, rfl, _⟩ := (show D.rd _ _ _ from r)
      exact ⟨_, _, rfl, r, rfl⟩
    | rp q m o =>
      simp [SV.cells] at h; subst h
      obtain ⟨b, x, vs, rfl, _⟩ := (show _ from r)
      exact ⟨_, _, rfl, r, rfl⟩
    | any => simp [SV.cells] at h
    | g k => simp [SV.cells] at h; subst h; rw [one_cells r.2]; exact ⟨_, _, rfl, r, rfl⟩
    | p k o => simp [SV.cells] at h; subst h; rw [one_cells r.2]; exact ⟨_, _, rfl, r, rfl⟩
    | pe k sz i o => simp [SV.cells] at h; subst h; rw [one_cells r.2]; exact ⟨_, _, rfl, r, rfl⟩
    | sb k sz lo hi => simp [SV.cells] at h; subst h; rw [one_cells r.2]; exact ⟨_, _, rfl, r, rfl⟩
    | gl k n => simp [SV.cells] at h; subst h; rw [one_cells r.2.1]; exact ⟨_, _, rfl, r, rfl⟩
end
end Go.Proofs.YtiegllklalplnaaGreat
