
/-
  A call by its contract.
-/
import Derived.Test.YtiegllklalplnaaGreatW13
namespace Go.Proofs.YtiegllklalplnaaGreat
open Go Go.RowKit
set_option linter.unusedVariables false
set_option linter.unusedSimpArgs false

/-! ### what a callee is handed, as it sees it -/
/-- a row's cells, to be read -/
def dOf (mu : Mu) (ko : List Nat) : List V → Option (List D)
  | [] => some []
  | x :: r => match dOf mu ko r with
    | some l => match x with
      | .v y => some (.v y :: l)
      | .s .o sz n f => some (.sl sz n f :: l)
      | .s .r sz n f => some (.sl sz n f :: l)
      | .rp .r m o => some (.pt m o :: l)
      | .g k => bif hasK k ko then none else match mlk k mu with
        | some (.arr sz n f) => some (.sl sz n f :: l)
        | some (.ro sz n f) => some (.sl sz n f :: l)
        | _ => none
      | _ => none
    | none => none
def wkT (mu : Mu) (ko : List Nat) : Tg → Bool
  | .k j => bif hasK j ko then false else match mlk j mu with
    | some _ => true
    | none => false
  | _ => true
/-- names kn stay; what lies in other chunks is read -/
def wkV (mu : Mu) (ko kn : List Nat) : V → Option (V × Ob)
  | .v x => some (.v x, [])
  | .s q sz n f => bif wkT mu ko q then some (.s .r sz n f, []) else none
  | .rp q l o => bif wkT mu ko q then some (.rp .r l o, []) else none
  | .g k => bif hasK k kn then some (.g k, []) else bif hasK k ko then none else match mlk k mu with
    | some (.arr sz n f) => some (.s .r sz n f, [])
    | some (.ro sz n f) => some (.s .r sz n f, [])
    | _ => none
  | .p k o => bif hasK k kn then some (.p k o, []) else bif hasK k ko then none else match mlk k mu with
    | some (.row l) => match dOf mu ko l with
      | some m => some (.rp .r m o, [])
      | none => none
    | some (.rrow l) => match dOf mu ko l with
      | some m => some (.rp .r m o, [])
      | none => none
    | _ => none
  | .pe k sz i o => bif hasK k kn then some (.pe k sz i o, []) else bif hasK k ko then none else match mlk k mu with
    | some (.arr sz' n f) => some (.rp .r (f i.toNat) o, [.e (sz = sz'), .o (0 ≤ i ∧ i < n)])
    | some (.ro sz' n f) => some (.rp .r (f i.toNat) o, [.e (sz = sz'), .o (0 ≤ i ∧ i < n)])
    | _ => none
  | .sb k sz lo hi => bif hasK k kn then some (.sb k sz lo hi, []) else bif hasK k ko then none else match mlk k mu with
    | some (.arr sz' n f) => some (.s .r sz (hi - lo).toNat (fun i => f (lo.toNat + i)), [.e (sz = sz'), .o (0 ≤ lo ∧ lo ≤ hi ∧ hi ≤ n)])
    | _ => none
  | .gl k n => bif hasK k kn then some (.gl k n, []) else none
  | .any => none
def wkL (mu : Mu) (ko kn : List Nat) : List V → Option (List V × Ob)
  | [] => some ([], [])
  | x :: r => match wkV mu ko kn x, wkL mu ko kn r with
    | some (y, p), some (l, q) => some (y :: l, p ++ q)
    | _, _ => none
def wkS (mu : Mu) (ko kn : List Nat) : SV → Option (SV × Ob)
  | .a x => match wkV mu ko kn x with
    | some (y, q) => some (.a y, q)
    | none => none
  | .ag l => match wkL mu ko kn l with
    | some (m, q) => some (.ag m, q)
    | none => none
  | .fn f l => match wkL mu ko kn l with
    | some (m, q) => some (.fn f m, q)
    | none => none
  | .fb φ => some (.fb φ, [])
  | _ => none
def wkSL (mu : Mu) (ko kn : List Nat) : List SV → Option (List SV × Ob)
  | [] => some ([], [])
  | x :: r => match wkS mu ko kn x, wkSL mu ko kn r with
    | some (y, p), some (l, q) => some (y :: l, p ++ q)
    | _, _ => none
/-- all that there is to be read, in one: r, and the chunks that are not in ko -/
noncomputable def AllP (r : PH) (ko : List Nat) (H : Nat → PH) : PH := fun b o => match r b o with
  | some v => some v
  | none => open Classical in if h : ∃ v k, hasK k ko = false ∧ H k b o = some v then some h.choose else none
/-- the chunks in ko -/
def onlyK (ko : List Nat) (H : Nat → PH) : Nat → PH := fun k => bif hasK k ko then H k else PH.emp
section
variable {B : BE} {r : PH} {mu : Mu} {w : World} {H : Nat → PH} {ko kn : List Nat}
theorem AllP_fit (m : Mm B r mu w H) : Fit (AllP r ko H) w := fun b o v e => by
  unfold AllP at e
  cases hr : r b o with
  | some u => rw [hr] at e; injection e with e; subst e; exact m.fitr b o _ hr
  | none =>
    rw [hr] at e
    simp only at e
    split at e
    · rename_i h
      injection e with e
      obtain ⟨k, _, hk⟩ := h.choose_spec
      rw [e] at hk
      exact m.fit k b o v hk
    · cases e
theorem AllP_le (m : Mm B r mu w H) {k : Nat} (hc : hasK k ko = false) : (H k).le (AllP r ko H) := fun b o v e => by
  have hr : r b o = none := (m.djr k b o).resolve_left (by rw [e]; simp)
  have h : ∃ v k, hasK k ko = false ∧ H k b o = some v := ⟨v, k, hc, e⟩
  unfold AllP
  rw [hr]
  simp only
  rw [dif_pos h]
  obtain ⟨k', _, hk⟩ := h.choose_spec
  by_cases hkk : k' = k
  · subst hkk; rw [e] at hk; injection hk with hk; rw [hk]
  · rcases m.dj k' k hkk b o with h1 | h1
    · rw [h1] at hk; cases hk
    · rw [h1] at e; cases e
theorem AllP_r : r.le (AllP r ko H) := fun b o v e => by
  unfold AllP
  rw [e]
theorem AllP_dj (m : Mm B r mu w H) {k : Nat} (hc : hasK k ko = true) : (H k).dj (AllP r ko H) := fun b o => by
  cases e : H k b o with
  | none => exact .inl rfl
  | some u =>
    right
    have hr : r b o = none := (m.djr k b o).resolve_left (by rw [e]; simp)
    unfold AllP
    rw [hr]
    simp only
    rw [dif_neg]
    rintro ⟨v, j, hj, hv⟩
    have hne : j ≠ k := fun e => by rw [e, hc] at hj; cases hj
    rcases m.dj j k hne b o with h1 | h1
    · rw [h1] at hv; cases hv
    · rw [h1] at e; cases e
/-- what reading rests on -/
structure Wk (B : BE) (r : PH) (mu : Mu) (H : Nat → PH) (ko : List Nat) (s : PH) : Prop where
  sat : ∀ k c, mlk k mu = some c → c.sat B r (H k) k
  ler : r.le s
  le : ∀ k c, mlk k mu = some c → hasK k ko = false → (H k).le s
variable {s : PH} {Z : Tg → PH}
theorem wkT_le (W : Wk B r mu H ko s) {q : Tg} (h : wkT mu ko q = true) : (Zf r H q).le s := by
  cases q with
  | k j =>
    simp only [wkT] at h
    cases e : hasK j ko with
    | true => rw [e] at h; cases h
    | false =>
      rw [e] at h
      simp only [cond_false] at h
      split at h
      · rename_i c hc; exact W.le j c hc e
      · cases h
  | _ => exact W.ler
theorem dOf_rd (W : Wk B r mu H ko s) : ∀ {l : List V} {m : List D}, dOf mu ko l = some m → ∀ {h : PH} {vs : List Value}, V.owns B r h l vs → h.le s → D.rds s m vs
  | [], m, e, h, vs, o, _ => by simp [dOf] at e; subst e; exact o
  | x :: l, m, e, h, vs, o, hl => by
    obtain ⟨v, t, h1, h2, rfl, e2, e3, e4, e5, e6⟩ := o
    simp only [dOf] at e
    cases c : dOf mu ko l with
    | none => rw [c] at e; cases e
    | some l' =>
      rw [c] at e
      have ih := dOf_rd W c e6 (PH.le_trans e3 hl)
      cases x with
      | v y => simp at e; subst e; exact ⟨v, t, rfl, e5, ih⟩
      | s q sz n f =>
        cases q with
        | o =>
          simp at e; subst e
          rcases e5 with ⟨_, k⟩ | ⟨k, _⟩
          · exact ⟨v, t, rfl, D.rd_mono (PH.le_trans e2 hl) (.sl sz n f) (D.own_rd (.sl sz n f) k), ih⟩
          · cases k
        | r =>
          simp at e; subst e
          rcases e5 with ⟨k, _⟩ | ⟨_, k⟩
          · cases k
          · exact ⟨v, t, rfl, D.rd_mono W.ler (.sl sz n f) k, ih⟩
        | k j => simp at e
      | g k =>
        simp only at e
        obtain ⟨hv, _⟩ := (show v = B k ∧ _ from e5)
        cases hko : hasK k ko with
        | true => rw [hko] at e; cases e
        | false =>
        rw [hko] at e
        simp only [cond_false] at e
        split at e
        · rename_i sz n f hk
          simp at e; subst e
          exact ⟨v, t, rfl, by rw [hv]; exact D.rd_mono (W.le k _ hk hko) (.sl sz n f) (D.own_rd (.sl sz n f) (W.sat k _ hk)), ih⟩
        · rename_i sz n f hk
          simp at e; subst e
          exact ⟨v, t, rfl, by rw [hv]; exact D.rd_mono W.ler (.sl sz n f) (W.sat k _ hk), ih⟩
        · cases e
      | rp q l2 o =>
        cases q with
        | r =>
          simp at e; subst e
          exact ⟨v, t, rfl, D.rd_mono W.ler (.pt l2 o) e5.2, ih⟩
        | _ => simp at e
      | _ => simp at e
theorem dOf_rd2 (W : Wk B r mu H ko s) : ∀ {l : List V} {m : List D}, dOf mu ko l = some m → ∀ {vs : List Value}, V.rels B (Zf r fun _ => PH.emp) l vs → D.rds s m vs
  | [], m, e, vs, o => by simp [dOf] at e; subst e; exact o
  | x :: l, m, e, vs, o => by
    obtain ⟨v, t, rfl, e5, e6⟩ := o
    simp only [dOf] at e
    cases c : dOf mu ko l with
    | none => rw [c] at e; cases e
    | some l' =>
      rw [c] at e
      have ih := dOf_rd2 W c e6
      cases x with
      | v y => simp at e; subst e; exact ⟨v, t, rfl, e5, ih⟩
      | s q sz n f =>
        cases q with
        | o => simp at e; subst e; exact ⟨v, t, rfl, D.rd_mono W.ler (.sl sz n f) e5, ih⟩
        | r => simp at e; subst e; exact ⟨v, t, rfl, D.rd_mono W.ler (.sl sz n f) e5, ih⟩
        | k j => simp at e
      | g k =>
        simp only at e
        obtain ⟨hv, _⟩ := (show v = B k ∧ _ from e5)
        cases hko : hasK k ko with
        | true => rw [hko] at e; cases e
        | false =>
        rw [hko] at e
        simp only [cond_false] at e
        split at e
        · rename_i sz n f hk
          simp at e; subst e
          exact ⟨v, t, rfl, by rw [hv]; exact D.rd_mono (W.le k _ hk hko) (.sl sz n f) (D.own_rd (.sl sz n f) (W.sat k _ hk)), ih⟩
        · rename_i sz n f hk
          simp at e; subst e
          exact ⟨v, t, rfl, by rw [hv]; exact D.rd_mono W.ler (.sl sz n f) (W.sat k _ hk), ih⟩
        · cases e
      | rp q l2 o =>
        cases q with
        | r => simp at e; subst e; exact ⟨v, t, rfl, D.rd_mono W.ler (.pt l2 o) e5, ih⟩
        | _ => simp at e
      | _ => simp at e
theorem wkV_ok (W : Wk B r mu H ko s) {x y : V} {q : Ob} (h : wkV mu ko kn x = some (y, q)) (hq : Alls q) (hZ : Z .r = s) {v : Value} (e : x.rel B (Zf r H) v) : y.rel B Z v := by
  cases x with
  | v u => simp [wkV] at h; obtain ⟨rfl, rfl⟩ := h; exact e
  | any => simp [wkV] at h
  | s t sz n f =>
    simp only [wkV] at h
    cases c : wkT mu ko t with
    | false => rw [c] at h; cases h
    | true =>
      rw [c] at h; simp at h; obtain ⟨rfl, rfl⟩ := h
      show D.rd (Z .r) _ _
      rw [hZ]; exact D.rd_mono (wkT_le W c) (.sl sz n f) e
  | rp t l o =>
    simp only [wkV] at h
    cases c : wkT mu ko t with
    | false => rw [c] at h; cases h
    | true =>
      rw [c] at h; simp at h; obtain ⟨rfl, rfl⟩ := h
      obtain ⟨b, x, vs, e1, e2, e3⟩ := (show _ from e)
      have hl := wkT_le W c
      show ∃ b x vs, _ = _ ∧ D.rds (Z .r) l vs ∧ ∀ j, j < vs.length → Z .r b (x + j) = vs[j]?
      rw [hZ]
      exact ⟨b, x, vs, e1, D.rds_mono hl l e2, fun j hj => le_cell hl rfl hj (e3 j hj)⟩
  | g k =>
    simp only [wkV] at h
    cases c : hasK k kn with
    | true => rw [c] at h; simp at h; obtain ⟨rfl, rfl⟩ := h; exact e
    | false =>
      rw [c] at h
      cases c2 : hasK k ko with
      | true => rw [c2] at h; cases h
      | false =>
        rw [c2] at h
        simp only [cond_false] at h
        obtain ⟨hv, _⟩ := (show v = B k ∧ _ from e)
        split at h
        · rename_i sz n f hk
          simp at h; obtain ⟨rfl, rfl⟩ := h
          show D.rd (Z .r) _ _
          rw [hZ, hv]; exact D.rd_mono (W.le k _ hk c2) (.sl sz n f) (D.own_rd (.sl sz n f) (W.sat k _ hk))
        · rename_i sz n f hk
          simp at h; obtain ⟨rfl, rfl⟩ := h
          show D.rd (Z .r) _ _
          rw [hZ, hv]; exact D.rd_mono W.ler (.sl sz n f) (W.sat k _ hk)
        · cases h
  | p k o =>
    simp only [wkV] at h
    cases c : hasK k kn with
    | true => rw [c] at h; simp at h; obtain ⟨rfl, rfl⟩ := h; exact e
    | false =>
      rw [c] at h
      cases c2 : hasK k ko with
      | true => rw [c2] at h; cases h
      | false =>
        rw [c2] at h
        simp only [cond_false] at h
        obtain ⟨hv, _⟩ := (show v = addP (B k) o ∧ _ from e)
        split at h
        · rename_i l hk
          split at h
          · rename_i m hm
            simp at h; obtain ⟨rfl, rfl⟩ := h
            obtain ⟨b, off, vs, h', e1, e2, e3, e4⟩ := W.sat k _ hk
            have hl := V.owns_length e2
            show ∃ b x vs, _ = _ ∧ D.rds (Z .r) m vs ∧ ∀ j, j < vs.length → Z .r b (x + j) = vs[j]?
            rw [hZ]
            refine ⟨b, off, vs, ?_, dOf_rd W hm e2 (PH.le_trans e3 (W.le k _ hk c2)), fun j hj => le_cell (W.le k _ hk c2) rfl hj (e4 j (by omega)).1⟩
            rw [hv, e1]; simp [addP, add_mk]
          · cases h
        · rename_i l hk
          split at h
          · rename_i m hm
            simp at h; obtain ⟨rfl, rfl⟩ := h
            obtain ⟨b, off, vs, e1, e2, e4⟩ := W.sat k _ hk
            have hl := V.rels_length e2
            show ∃ b x vs, _ = _ ∧ D.rds (Z .r) m vs ∧ ∀ j, j < vs.length → Z .r b (x + j) = vs[j]?
            rw [hZ]
            refine ⟨b, off, vs, ?_, dOf_rd2 W hm e2, fun j hj => le_cell W.ler rfl hj (e4 j (by omega))⟩
            rw [hv, e1]; simp [addP, add_mk]
          · cases h
        · cases h
  | pe k sz i o =>
    simp only [wkV] at h
    cases c : hasK k kn with
    | true => rw [c] at h; simp at h; obtain ⟨rfl, rfl⟩ := h; exact e
    | false =>
      rw [c] at h
      cases c2 : hasK k ko with
      | true => rw [c2] at h; cases h
      | false =>
        rw [c2] at h
        simp only [cond_false] at h
        obtain ⟨hv, _⟩ := (show v = elP (B k) sz i o ∧ _ from e)
        split at h
        · rename_i sz' n f hk
          simp at h; obtain ⟨rfl, rfl⟩ := h
          obtain ⟨rfl, ⟨q1, q2⟩, _⟩ := hq
          obtain ⟨A, cp, e1, e2, e3, e4⟩ := (show D.rd s (.sl sz n f) (B k) from D.rd_mono (W.le k _ hk c2) (.sl sz n f) (D.own_rd (.sl sz n f) (W.sat k _ hk)))
          show ∃ b x vs, _ = _ ∧ D.rds (Z .r) (f i.toNat) vs ∧ ∀ j, j < vs.length → Z .r b (x + j) = vs[j]?
          rw [hZ]
          rcases e4 with e4 | ⟨b, off, rfl, e5⟩
          · omega
          · obtain ⟨row, r1, r2, r3⟩ := e5 i.toNat (by omega)
            exact ⟨b, off + i.toNat * sz, row, by rw [hv, e1, elP_slice], r1, fun j hj => r3 j (by omega)⟩
        · rename_i sz' n f hk
          simp at h; obtain ⟨rfl, rfl⟩ := h
          obtain ⟨rfl, ⟨q1, q2⟩, _⟩ := hq
          obtain ⟨A, cp, e1, e2, e3, e4⟩ := (show D.rd s (.sl sz n f) (B k) from D.rd_mono W.ler (.sl sz n f) (W.sat k _ hk))
          show ∃ b x vs, _ = _ ∧ D.rds (Z .r) (f i.toNat) vs ∧ ∀ j, j < vs.length → Z .r b (x + j) = vs[j]?
          rw [hZ]
          rcases e4 with e4 | ⟨b, off, rfl, e5⟩
          · omega
          · obtain ⟨row, r1, r2, r3⟩ := e5 i.toNat (by omega)
            exact ⟨b, off + i.toNat * sz, row, by rw [hv, e1, elP_slice], r1, fun j hj => r3 j (by omega)⟩
        · cases h
  | sb k sz lo hi =>
    simp only [wkV] at h
    cases c : hasK k kn with
    | true => rw [c] at h; simp at h; obtain ⟨rfl, rfl⟩ := h; exact e
    | false =>
      rw [c] at h
      cases c2 : hasK k ko with
      | true => rw [c2] at h; cases h
      | false =>
        rw [c2] at h
        simp only [cond_false] at h
        obtain ⟨hv, _⟩ := (show v = sbV (B k) sz _ _ ∧ _ from e)
        split at h
        · rename_i sz' n f hk
          simp at h; obtain ⟨rfl, rfl⟩ := h
          obtain ⟨rfl, ⟨q1, q2, q3⟩, _⟩ := hq
          have := sb_rd (D.rd_mono (W.le k _ hk c2) (.sl sz n f) (D.own_rd (.sl sz n f) (W.sat k _ hk))) q1 q2 q3
          show D.rd (Z .r) _ v
          rw [hZ, hv]; exact this
        · cases h
  | gl k n =>
    simp only [wkV] at h
    cases c : hasK k kn with
    | true => rw [c] at h; simp at h; obtain ⟨rfl, rfl⟩ := h; exact e
    | false => rw [c] at h; cases h
theorem wkL_ok (W : Wk B r mu H ko s) (hZ : Z .r = s) : ∀ {l m : List V} {q : Ob}, wkL mu ko kn l = some (m, q) → Alls q → ∀ {vs : List Value}, V.rels B (Zf r H) l vs → V.rels B Z m vs
  | [], m, q, h, _, vs, e => by simp [wkL] at h; obtain ⟨rfl, rfl⟩ := h; exact e
  | x :: l, m, q, h, hq, vs, e => by
    simp only [wkL] at h
    split at h
    · rename_i y p l' q' e1 e2
      simp at h; obtain ⟨rfl, rfl⟩ := h
      obtain ⟨h1, h2⟩ := Alls_append.1 hq
      obtain ⟨v, t, rfl, g1, g2⟩ := e
      exact ⟨v, t, rfl, wkV_ok W e1 h1 hZ g1, wkL_ok W hZ e2 h2 g2⟩
    · cases h
theorem wkS_ok {P : Program} (W : Wk B r mu H ko s) (hZ : Z .r = s) {x y : SV} {q : Ob} (h : wkS mu ko kn x = some (y, q)) (hq : Alls q) {v : Value} (e : SV.rel P B (Zf r H) x v) : SV.rel P B Z y v := by
  cases x with
  | a x =>
    simp only [wkS] at h
    split at h
    · rename_i y' q' e1
      simp at h; obtain ⟨rfl, rfl⟩ := h
      exact wkV_ok W e1 hq hZ e
    · cases h
  | ag l =>
    simp only [wkS] at h
    split at h
    · rename_i y' q' e1
      simp at h; obtain ⟨rfl, rfl⟩ := h
      obtain ⟨vs, rfl, e2⟩ := e
      exact ⟨vs, rfl, wkL_ok W hZ e1 hq e2⟩
    · cases h
  | fn f l =>
    simp only [wkS] at h
    split at h
    · rename_i y' q' e1
      simp at h; obtain ⟨rfl, rfl⟩ := h
      obtain ⟨vs, rfl, e2⟩ := e
      exact ⟨vs, rfl, wkL_ok W hZ e1 hq e2⟩
    · cases h
  | fb φ =>
    simp [wkS] at h; obtain ⟨rfl, rfl⟩ := h
    obtain ⟨f, vs, rfl, e2⟩ := e
    exact ⟨f, vs, rfl, e2.mono (by rw [hZ]; exact W.ler)⟩
  | tu l => simp [wkS] at h
  | un => simp [wkS] at h
theorem wkSL_ok {P : Program} (W : Wk B r mu H ko s) (hZ : Z .r = s) : ∀ {l m : List SV} {q : Ob}, wkSL mu ko kn l = some (m, q) → Alls q → ∀ {vs : List Value}, SV.rels P B (Zf r H) l vs → SV.rels P B Z m vs
  | [], m, q, h, _, vs, e => by simp [wkSL] at h; obtain ⟨rfl, rfl⟩ := h; exact e
  | x :: l, m, q, h, hq, vs, e => by
    simp only [wkSL] at h
    split at h
    · rename_i y p l' q' e1 e2
      simp at h; obtain ⟨rfl, rfl⟩ := h
      obtain ⟨h1, h2⟩ := Alls_append.1 hq
      obtain ⟨v, t, rfl, g1, g2⟩ := e
      exact ⟨v, t, rfl, wkS_ok W hZ e1 h1 g1, wkSL_ok W hZ e2 h2 g2⟩
    · cases h
end
end Go.Proofs.YtiegllklalplnaaGreat
