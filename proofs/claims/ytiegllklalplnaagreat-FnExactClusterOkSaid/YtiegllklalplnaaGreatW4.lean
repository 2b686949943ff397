
/-
  The symbolic machine is right: loads, comparisons, struct literals.
-/
import Derived.Test.YtiegllklalplnaaGreatW3
namespace Go.Proofs.YtiegllklalplnaaGreat
open Go Go.RowKit
set_option linter.unusedVariables false
set_option linter.unusedSimpArgs false

section
variable {P : Program} {w : World} {B : BE} {r : PH} {mu : Mu} {H : Nat → PH} {TT : List TI}
theorem getEl_cells {w : World} {b o : Nat} {vs : List Value} {h : PH} (hf : Fit h w) (hc : ∀ j, j < vs.length → h b (o + j) = vs[j]?) {d n : Nat} {ms : List Value} (hm : cut vs d n = some ms) : Lies w ⟨b, o + d, none⟩ ms := fun j u hj => by
  obtain ⟨c1, c2⟩ := cut_spec _ _ _ _ hm
  have hjl : j < n := by rw [← c1]; exact (List.getElem?_eq_some_iff.1 hj).1
  have h1 := c2 j hjl
  rw [hj] at h1
  have h2 : d + j < vs.length := (List.getElem?_eq_some_iff.1 h1.symm).1
  have h3 := hc _ h2
  rw [← h1] at h3
  rw [add_mk, Nat.add_assoc]
  exact (hf _ _ _ h3).1
theorem ld_fin {ti : TI} (hti : ti.ok P) {Z : Tg → PH} {l : List V} {x : SV} (hs : svOf ti.isAg l = some x) {ms : List Value} (hr : V.rels B Z l ms) (hl : ms.length = ti.sz) {a : Addr} : ∃ y, (∀ w, Lies w a ms → (loadVar ti.id a).run P w = .ok y w) ∧ SV.rel P B Z x y := by
  rcases svOf_spec hs with ⟨e, rfl⟩ | ⟨e, u, rfl, rfl⟩
  · exact ⟨.agg ms.toArray, fun w hL => run_loadVar hti hl hL _ (.inl ⟨e, rfl⟩), ms, rfl, hr⟩
  · obtain ⟨y, t, rfl, r2, r3⟩ := hr
    have r3 : t = [] := r3
    subst r3
    exact ⟨y, fun w hL => run_loadVar hti hl hL _ (.inr ⟨e, rfl⟩), r2⟩
theorem rels_tag {r h : PH} {q : Tg} {Z : Tg → PH} (h0 : r.le (Z .r)) (hq : h.le (Z q)) : ∀ {l : List V} {vs : List Value} {h' : PH}, h'.le h → V.owns B r h' l vs → V.rels B Z (l.map (V.tag q)) vs
  | [], _, _, _, e => e
  | x :: l, _, _, hle, e => by
    obtain ⟨a, t, h1, h2, rfl, e2, e3, e4, e5, e6⟩ := e
    exact ⟨a, t, rfl, V.own_rel h0 (PH.le_trans e2 (PH.le_trans hle hq)) e5, rels_tag h0 hq (PH.le_trans e3 hle) e6⟩
theorem cut_map {α β : Type} (f : α → β) : ∀ (l : List α) (o n : Nat) (m : List α), cut l o n = some m → cut (l.map f) o n = some (m.map f)
  | l, 0, 0, m, h => by cases l <;> (simp [cut] at h ⊢; exact h)
  | [], 0, n + 1, m, h => by simp [cut] at h
  | [], o + 1, n, m, h => by simp [cut] at h
  | x :: r, 0, n + 1, m, h => by
    simp only [cut, List.map_cons] at h ⊢
    cases e : cut r 0 n with
    | none => rw [e] at h; cases h
    | some l => rw [e] at h; injection h with h; subst h; rw [cut_map f r 0 n l e]; rfl
  | x :: r, o + 1, n, m, h => by
    simp only [cut, List.map_cons] at h ⊢
    exact cut_map f r o n m h
theorem elP_slice (b o n c : Nat) (i : Int) (sz j : Nat) : elP (.slice (some ⟨b, o, none⟩) n c) sz i j = .pointer (some ⟨b, o + i.toNat * sz + j, none⟩) := by
  simp [elP, add_mk]
theorem owns_any {B : BE} {r h : PH} {l : List V} {vs : List Value} (e : V.owns B r h l vs) : vs.length = l.length := V.owns_length e
/-- what a load finds is what lies there -/
theorem ld_ok (m : Ms B r mu H) {ti : TI} (hti : ti.ok P) {y x : SV} {q : Ob} (h : ld ti mu y = some (x, q)) (hq : Alls q) {u : Value} (hu : SV.rel P B (Zf r H) y u) :
    ∃ (a : Addr) (v : Value), u = .pointer (some a) ∧ (∀ w, Fw r mu H w → (loadVar ti.id a).run P w = .ok v w) ∧ SV.rel P B (Zf r H) x v := by
  have fin : ∀ {b o d : Nat} {l m : List V} {vs : List Value} {g : PH} {Z : Tg → PH} {x : SV}, (∀ w, Fw r mu H w → Fit g w) → (∀ j, j < vs.length → g b (o + j) = vs[j]?) → V.rels B Z l vs → cut l d ti.sz = some m → svOf ti.isAg m = some x → ∃ v, (∀ w, Fw r mu H w → (loadVar ti.id ⟨b, o + d, none⟩).run P w = .ok v w) ∧ SV.rel P B Z x v := by
    intro b o d l m vs g Z x hf hc hr hm hs
    obtain ⟨ms, e1, e2⟩ := cut_rels hr hm
    obtain ⟨v, g1, g2⟩ := ld_fin (a := ⟨b, o + d, none⟩) hti hs e2 (cut_spec _ _ _ _ e1).1
    exact ⟨v, fun w hw => g1 w (getEl_cells (hf w hw) hc e1), g2⟩
  cases y with
  | ag l => simp [ld] at h
  | fn f l => simp [ld] at h
  | fb φ => simp [ld] at h
  | tu l => simp [ld] at h
  | un => simp [ld] at h
  | a y =>
    cases y with
    | v x => simp [ld] at h
    | s q sz n f => simp [ld] at h
    | g k => simp [ld] at h
    | sb k sz lo hi => simp [ld] at h
    | gl k n => simp [ld] at h
    | any => simp [ld] at h
    | p k o =>
      obtain ⟨hu, _⟩ := (show u = addP (B k) o ∧ _ from hu)
      simp only [ld] at h
      split at h
      · rename_i l e
        obtain ⟨b, off, vs, h', e1, e2, e3, e4⟩ := m.sat k _ e
        have hlen := V.owns_length e2
        split at h
        · rename_i l' e5
          obtain ⟨m0, e6, e7⟩ := Option.bind_eq_some_iff.1 e5
          split at h
          · rename_i x' e8
            simp at h; obtain ⟨rfl, rfl⟩ := h
            have := layT_spec e7
            subst this
            obtain ⟨v, g1, g2⟩ := fin (b := b) (o := off) (d := o) (fun w hw => hw.fit k _ e) (fun j hj => (e4 j (by omega)).1) (rels_tag (Z := Zf r H) (q := .k k) (PH.le_refl _) e3 (PH.le_refl _) e2) (cut_map _ _ _ _ _ e6) e8
            refine ⟨_, v, ?_, g1, g2⟩
            rw [hu, e1]; simp [addP, add_mk]
          · cases h
        · cases h
      · rename_i l e
        obtain ⟨b, off, vs, e1, e2, e4⟩ := m.sat k _ e
        have e2' := V.rels_mono (Zf_emp r H) e2
        have hlen := V.rels_length e2'
        split at h
        · rename_i l' e6
          split at h
          · rename_i x' e8
            simp at h; obtain ⟨rfl, rfl⟩ := h
            obtain ⟨v, g1, g2⟩ := fin (b := b) (o := off) (d := o) (fun w hw => hw.fitr) (fun j hj => e4 j (by omega)) e2' e6 e8
            refine ⟨_, v, ?_, g1, g2⟩
            rw [hu, e1]; simp [addP, add_mk]
          · cases h
        · cases h
      · cases h
    | pe k sz i o =>
      obtain ⟨hu, _⟩ := (show u = elP (B k) sz i o ∧ _ from hu)
      simp only [ld] at h
      split at h
      · rename_i sz' n f e
        split at h
        · rename_i l' e5
          obtain ⟨m0, e6, e7⟩ := Option.bind_eq_some_iff.1 e5
          rw [layD_eq] at e7
          injection e7 with e7
          subst e7
          split at h
          · rename_i x' e8
            simp at h; obtain ⟨rfl, rfl⟩ := h
            obtain ⟨rfl, ⟨q1, q2⟩, _⟩ := hq
            obtain ⟨A, c, e1, e2, e3, e4⟩ := (show D.own _ _ _ from m.sat k _ e)
            rcases e4 with rfl | ⟨b, off, row, G, rfl, g1, _, g3⟩
            · omega
            · obtain ⟨r1, r2, r3⟩ := g1 i.toNat (by omega)
              obtain ⟨v, k1, k2⟩ := fin (Z := Zf r H) (b := b) (o := off + i.toNat * sz) (d := o) (fun w hw => hw.fit k _ e) (fun j hj => r3 j (by omega)) (D.rds_toV (q := .k k) (D.rds_mono (g3.1 _) _ (D.owns_rds _ r1))) (cut_map _ _ _ _ _ e6) e8
              refine ⟨_, v, ?_, k1, k2⟩
              rw [hu, e1, elP_slice]
          · cases h
        · cases h
      · rename_i sz' n f e
        split at h
        · rename_i l' e5
          obtain ⟨m0, e6, e7⟩ := Option.bind_eq_some_iff.1 e5
          rw [layD_eq] at e7
          injection e7 with e7
          subst e7
          split at h
          · rename_i x' e8
            simp at h; obtain ⟨rfl, rfl⟩ := h
            obtain ⟨rfl, ⟨q1, q2⟩, _⟩ := hq
            obtain ⟨A, c, e1, e2, e3, e4⟩ := (show D.rd _ _ _ from m.sat k _ e)
            rcases e4 with rfl | ⟨b, off, rfl, g1⟩
            · omega
            · obtain ⟨row, r1, r2, r3⟩ := g1 i.toNat (by omega)
              obtain ⟨v, k1, k2⟩ := fin (Z := Zf r H) (b := b) (o := off + i.toNat * sz) (d := o) (fun w hw => hw.fitr) (fun j hj => r3 j (by omega)) (D.rds_toV (q := .r) r1) (cut_map _ _ _ _ _ e6) e8
              refine ⟨_, v, ?_, k1, k2⟩
              rw [hu, e1, elP_slice]
          · cases h
        · cases h
      · cases h
    | rp q l o =>
      obtain ⟨b, off, vs, rfl, e2, e3⟩ := (show _ from hu)
      simp only [ld] at h
      cases ht : tgB mu q with
      | false => rw [ht] at h; cases h
      | true =>
        have hf : ∀ w, Fw r mu H w → Fit (Zf r H q) w := fun w hw => by
          cases q with
          | o => exact hw.fitr
          | r => exact hw.fitr
          | k n =>
            simp only [tgB] at ht
            split at ht
            · rename_i c hc; exact hw.fit n c hc
            · cases ht
        rw [ht] at h
        simp only [cond_true] at h
        split at h
        · rename_i l' e5
          obtain ⟨m0, e6, e7⟩ := Option.bind_eq_some_iff.1 e5
          rw [layD_eq] at e7
          injection e7 with e7
          subst e7
          split at h
          · rename_i x' e8
            simp at h; obtain ⟨rfl, rfl⟩ := h
            obtain ⟨v, k1, k2⟩ := fin (Z := Zf r H) (b := b) (o := off) (d := o) hf e3 (D.rds_toV (q := q) e2) (cut_map _ _ _ _ _ e6) e8
            exact ⟨_, v, rfl, k1, k2⟩
          · cases h
        · cases h
end
end Go.Proofs.YtiegllklalplnaaGreat
