
/-
  A chunk is laid new or anew: the memory and the frames behind it.
-/
import Derived.Test.YtiegllklalplnaaGreatW8
namespace Go.Proofs.YtiegllklalplnaaGreat
open Go Go.RowKit
set_option linter.unusedVariables false
set_option linter.unusedSimpArgs false

def BE.set (B : BE) (k : Nat) (v : Value) : BE := fun j => if j = k then v else B j
def HF.set (H : Nat → PH) (k : Nat) (h : PH) : Nat → PH := fun j => if j = k then h else H j
theorem BE.set_self (B : BE) (k : Nat) : BE.set B k (B k) = B := by
  funext j; unfold BE.set; split
  · rename_i e; rw [e]
  · rfl
theorem BE.set_eq (B : BE) (k : Nat) (v : Value) : BE.set B k v k = v := by simp [BE.set]
theorem BE.set_ne (B : BE) {k j : Nat} (v : Value) (h : j ≠ k) : BE.set B k v j = B j := by simp [BE.set, h]
theorem HF.set_eq (H : Nat → PH) (k : Nat) (h : PH) : HF.set H k h k = h := by simp [HF.set]
theorem HF.set_ne (H : Nat → PH) {k j : Nat} (h : PH) (n : j ≠ k) : HF.set H k h j = H j := by simp [HF.set, n]
theorem beq_ne {j k : Nat} (h : Nat.beq j k = false) : j ≠ k := Nat.ne_of_beq_eq_false h
theorem V.rel_setB {B : BE} {Z : Tg → PH} {k : Nat} (v : Value) : ∀ {x : V} {y : Value}, x.usesB k = false → x.rel B Z y → x.rel (BE.set B k v) Z y
  | .v _, _, _, e => e
  | .s _ _ _ _, _, _, e => e
  | .g j, _, h, e => by
    have hj : j ≠ k := beq_ne h
    show _ = BE.set B k v j ∧ _
    rw [BE.set_ne B v hj]; exact e
  | .p j o, _, h, e => by
    have hj : j ≠ k := beq_ne h
    show _ = addP (BE.set B k v j) o ∧ _
    rw [BE.set_ne B v hj]; exact e
  | .pe j sz i o, _, h, e => by
    have hj : j ≠ k := beq_ne h
    show _ = elP (BE.set B k v j) sz i o ∧ _
    rw [BE.set_ne B v hj]; exact e
  | .sb j sz lo hi, _, h, e => by
    have hj : j ≠ k := beq_ne h
    show _ = sbV (BE.set B k v j) sz _ _ ∧ _
    rw [BE.set_ne B v hj]; exact e
  | .gl j n, _, h, e => by
    have hj : j ≠ k := beq_ne h
    show _ = BE.set B k v j ∧ _
    rw [BE.set_ne B v hj]; exact e
  | .rp _ _ _, _, _, e => e
  | .any, _, _, e => e
theorem V.own_setB {B : BE} {r h : PH} {k : Nat} (v : Value) : ∀ {x : V} {y : Value}, x.usesB k = false → x.own B r h y → x.own (BE.set B k v) r h y
  | .v _, _, _, e => e
  | .s _ _ _ _, _, _, e => e
  | .g j, _, h, e => by
    have hj : j ≠ k := beq_ne h
    show _ = BE.set B k v j ∧ _
    rw [BE.set_ne B v hj]; exact e
  | .p j o, _, h, e => by
    have hj : j ≠ k := beq_ne h
    show _ = addP (BE.set B k v j) o ∧ _
    rw [BE.set_ne B v hj]; exact e
  | .pe j sz i o, _, h, e => by
    have hj : j ≠ k := beq_ne h
    show _ = elP (BE.set B k v j) sz i o ∧ _
    rw [BE.set_ne B v hj]; exact e
  | .sb j sz lo hi, _, h, e => by
    have hj : j ≠ k := beq_ne h
    show _ = sbV (BE.set B k v j) sz _ _ ∧ _
    rw [BE.set_ne B v hj]; exact e
  | .gl j n, _, h, e => by
    have hj : j ≠ k := beq_ne h
    show _ = BE.set B k v j ∧ _
    rw [BE.set_ne B v hj]; exact e
  | .rp _ _ _, _, _, e => e
  | .any, _, _, e => e
theorem anyL_cons {φ : V → Bool} {x : V} {r : List V} (h : anyL φ (x :: r) = false) : φ x = false ∧ anyL φ r = false := by
  simp only [anyL] at h
  cases e : φ x with
  | true => rw [e] at h; cases h
  | false => rw [e] at h; exact ⟨rfl, h⟩
theorem V.rels_congr {B B' : BE} {Z Z' : Tg → PH} {φ : V → Bool} (hc : ∀ (x : V) (y : Value), φ x = false → x.rel B Z y → x.rel B' Z' y) : ∀ {l : List V} {y : List Value}, anyL φ l = false → V.rels B Z l y → V.rels B' Z' l y
  | [], _, _, e => e
  | x :: r, _, h, e => by
    obtain ⟨a, t, e1, e2, e3⟩ := e
    obtain ⟨h1, h2⟩ := anyL_cons h
    exact ⟨a, t, e1, hc x a h1 e2, V.rels_congr hc h2 e3⟩
theorem V.owns_congr {B B' : BE} {r : PH} {φ : V → Bool} (hc : ∀ (x : V) (h : PH) (y : Value), φ x = false → x.own B r h y → x.own B' r h y) : ∀ {l : List V} {y : List Value} {h : PH}, anyL φ l = false → V.owns B r h l y → V.owns B' r h l y
  | [], _, _, _, e => e
  | x :: l, _, _, h, e => by
    obtain ⟨a, t, g1, g2, e1, e2, e3, e4, e5, e6⟩ := e
    obtain ⟨h1, h2⟩ := anyL_cons h
    exact ⟨a, t, g1, g2, e1, e2, e3, e4, hc x g1 a h1 e5, V.owns_congr hc h2 e6⟩
mutual
theorem SV.rel_congr {P : Program} {B B' : BE} {Z Z' : Tg → PH} {φ : V → Bool} (hr : (Z .r).le (Z' .r)) (hc : ∀ (x : V) (y : Value), φ x = false → x.rel B Z y → x.rel B' Z' y) : ∀ (s : SV) {y : Value}, s.anyV φ = false → SV.rel P B Z s y → SV.rel P B' Z' s y
  | .a x, y, h, e => hc x y h e
  | .ag l, _, h, e => by obtain ⟨vs, e1, e2⟩ := e; exact ⟨vs, e1, V.rels_congr hc h e2⟩
  | .fn f l, _, h, e => by obtain ⟨vs, e1, e2⟩ := e; exact ⟨vs, e1, V.rels_congr hc h e2⟩
  | .fb _, _, _, e => by obtain ⟨f, vs, e1, e2⟩ := e; exact ⟨f, vs, e1, e2.mono hr⟩
  | .tu l, _, h, e => by obtain ⟨vs, e1, e2⟩ := e; exact ⟨vs, e1, SV.rels_congr hr hc l h e2⟩
  | .un, _, _, e => e
theorem SV.rels_congr {P : Program} {B B' : BE} {Z Z' : Tg → PH} {φ : V → Bool} (hr : (Z .r).le (Z' .r)) (hc : ∀ (x : V) (y : Value), φ x = false → x.rel B Z y → x.rel B' Z' y) : ∀ (s : List SV) {y : List Value}, SV.anyV.go φ s = false → SV.rels P B Z s y → SV.rels P B' Z' s y
  | [], _, _, e => e
  | x :: r, _, h, e => by
    obtain ⟨a, t, e1, e2, e3⟩ := e
    simp only [SV.anyV.go] at h
    cases c : x.anyV φ with
    | true => rw [c] at h; cases h
    | false => rw [c] at h; exact ⟨a, t, e1, SV.rel_congr hr hc x c e2, SV.rels_congr hr hc r h e3⟩
end
/-- entries that lean so are out -/
theorem frAny_get {φ : V → Bool} : ∀ {fr : Fr}, frAny φ fr = false → ∀ t x, mlk t fr = some x → x.anyV φ = false
  | [], _, _, _, h => by cases h
  | (j, y) :: r, h, t, x, e => by
    simp only [frAny] at h
    cases c : y.anyV φ with
    | true => rw [c] at h; cases h
    | false =>
      rw [c] at h
      rw [mlk_cons] at e
      by_cases hj : j = t
      · rw [if_pos hj] at e; injection e with e; rw [← e]; exact c
      · rw [if_neg hj] at e; exact frAny_get h t x e
theorem gfAny_get {φ : V → Bool} : ∀ {gf : GF}, gfAny φ gf = false → ∀ t d w x, (t, d, w, x) ∈ gf → x.anyV φ = false
  | [], _, _, _, _, _, h => by cases h
  | (j, d, w, y) :: r, h, t, d', w', x, e => by
    simp only [gfAny] at h
    cases c : y.anyV φ with
    | true => rw [c] at h; cases h
    | false =>
      rw [c] at h
      cases e with
      | head => exact c
      | tail _ e => exact gfAny_get h t d' w' x e
theorem muAny_get {φ : V → Bool} {k : Nat} : ∀ {mu : Mu}, muAny φ k mu = false → ∀ j c, j ≠ k → mlk j mu = some c → anyL φ c.rowL = false
  | [], _, _, _, _, h => by cases h
  | (i, d) :: r, h, j, c, hj, e => by
    simp only [muAny] at h
    rw [mlk_cons] at e
    cases c1 : Nat.beq i k with
    | true =>
      rw [c1] at h
      have hi := Nat.eq_of_beq_eq_true c1
      rw [if_neg (by omega)] at e
      exact muAny_get h j c hj e
    | false =>
      rw [c1] at h
      simp only [cond_false] at h
      cases c2 : anyL φ d.rowL with
      | true => rw [c2] at h; cases h
      | false =>
        rw [c2] at h
        by_cases hi : i = j
        · rw [if_pos hi] at e; injection e with e; rw [← e]; exact c2
        · rw [if_neg hi] at e; exact muAny_get h j c hj e
theorem frCut_lk {φ : V → Bool} : ∀ {fr l : Fr}, frCut φ fr = some l → ∀ t, (mlk t l = none ∧ mlk t fr = none) ∨ ∃ x y, mlk t l = some x ∧ mlk t fr = some y ∧ (x = .a .any ∨ x = y ∧ x.anyV φ = false)
  | [], l, h, t => by simp [frCut] at h; subst h; exact .inl ⟨rfl, rfl⟩
  | (j, y) :: r, l, h, t => by
    simp only [frCut] at h
    cases c : frCut φ r with
    | none => rw [c] at h; cases h
    | some l' =>
      rw [c] at h
      simp only at h
      have ih := frCut_lk c t
      cases c2 : y.anyV φ with
      | true =>
        rw [c2] at h; simp at h; subst h
        rw [mlk_cons, mlk_cons]
        by_cases hj : j = t
        · rw [if_pos hj, if_pos hj]; exact .inr ⟨_, _, rfl, rfl, .inl rfl⟩
        · rw [if_neg hj, if_neg hj]; exact ih
      | false =>
        rw [c2] at h; simp at h; subst h
        rw [mlk_cons, mlk_cons]
        by_cases hj : j = t
        · rw [if_pos hj, if_pos hj]; exact .inr ⟨_, _, rfl, rfl, .inr ⟨rfl, c2⟩⟩
        · rw [if_neg hj, if_neg hj]; exact ih
theorem gfCut_mem {φ : V → Bool} : ∀ {gf l : GF}, gfCut φ gf = some l → ∀ t d w x, (t, d, w, x) ∈ l → ∃ y, (t, d, w, y) ∈ gf ∧ (x = .a .any ∨ x = y ∧ x.anyV φ = false)
  | [], l, h, _, _, _, _, e => by simp [gfCut] at h; subst h; cases e
  | (j, d', w', y) :: r, l, h, t, d, w, x, e => by
    simp only [gfCut] at h
    cases c : gfCut φ r with
    | none => rw [c] at h; cases h
    | some l' =>
      rw [c] at h
      simp only at h
      have tl : (t, d, w, x) ∈ l' → ∃ z, (t, d, w, z) ∈ (j, d', w', y) :: r ∧ (x = .a .any ∨ x = z ∧ x.anyV φ = false) := fun e => by
        obtain ⟨z, h1, h2⟩ := gfCut_mem c t d w x e
        exact ⟨z, List.mem_cons_of_mem _ h1, h2⟩
      cases c2 : y.anyV φ with
      | true =>
        rw [c2] at h; simp at h; subst h
        cases e with
        | head => exact ⟨y, List.mem_cons_self, .inl rfl⟩
        | tail _ e => exact tl e
      | false =>
        rw [c2] at h; simp at h; subst h
        cases e with
        | head => exact ⟨y, List.mem_cons_self, .inr ⟨rfl, c2⟩⟩
        | tail _ e => exact tl e
theorem gfCut_glk {φ : V → Bool} : ∀ {gf l : GF}, gfCut φ gf = some l → ∀ t, glk t l = none → glk t gf = none
  | [], l, h, t, _ => rfl
  | (j, d', w', y) :: r, l, h, t, e => by
    simp only [gfCut] at h
    cases c : gfCut φ r with
    | none => rw [c] at h; cases h
    | some l' =>
      rw [c] at h
      simp only at h
      have : ∃ z, l = (j, d', w', z) :: l' := by
        cases c2 : y.anyV φ with
        | true => rw [c2] at h; simp at h; exact ⟨_, h.symm⟩
        | false => rw [c2] at h; simp at h; exact ⟨_, h.symm⟩
      obtain ⟨z, rfl⟩ := this
      simp only [glk] at e ⊢
      cases c3 : Nat.beq j t with
      | true => rw [c3] at e; cases e
      | false => rw [c3] at e; exact gfCut_glk c t e
section
variable {E : Env} {B : BE} {mu mu' : Mu} {w w' : World} {H : Nat → PH} {fr fr' : Fr} {gf gf' : GF} {a : Act}
theorem Fits.cut {P : Program} {B B' : BE} {Z Z' : Tg → PH} {N : Nat} {φ : V → Bool} (f : Fits P B Z N fr gf a) (hf : frCut φ fr = some fr') (hg : gfCut φ gf = some gf') (hr : (Z .r).le (Z' .r)) (hc : ∀ (x : V) (y : Value), φ x = false → x.rel B Z y → x.rel B' Z' y) : Fits P B' Z' N fr' gf' a := by
  refine ⟨f.size, f.defers, fun t x e1 e2 => ?_, fun t d w x e1 e2 => ?_, fun t d w x e1 e2 => ?_, fun t d w x e1 => ?_⟩
  · rcases frCut_lk hf t with ⟨h1, _⟩ | ⟨x', y, h1, h2, h3⟩
    · rw [h1] at e1; cases e1
    · rw [h1] at e1; injection e1 with e1; subst e1
      rcases h3 with rfl | ⟨rfl, h3⟩
      · trivial
      · exact SV.rel_congr hr hc x' h3 (f.vfr t x' h2 (gfCut_glk hg t e2))
  · obtain ⟨y, h1, h2⟩ := gfCut_mem hg t d w x e1
    rcases h2 with rfl | ⟨rfl, h2⟩
    · trivial
    · exact SV.rel_congr hr hc x h2 (f.vgf t d w x h1 e2)
  · obtain ⟨y, h1, h2⟩ := gfCut_mem hg t d w x e1
    exact f.vgu t d w y h1 e2
  · obtain ⟨y, h1, h2⟩ := gfCut_mem hg t d w x e1
    rcases frCut_lk hf t with ⟨h3, _⟩ | ⟨x', z, h3, h4, _⟩
    · exact h3
    · rw [f.vno t d w y h1] at h4; cases h4
theorem Fits.keep {P : Program} {B B' : BE} {Z Z' : Tg → PH} {N : Nat} {φ : V → Bool} (f : Fits P B Z N fr gf a) (hf : frAny φ fr = false) (hg : gfAny φ gf = false) (hr : (Z .r).le (Z' .r)) (hc : ∀ (x : V) (y : Value), φ x = false → x.rel B Z y → x.rel B' Z' y) : Fits P B' Z' N fr gf a :=
  ⟨f.size, f.defers, fun t x e1 e2 => SV.rel_congr hr hc x (frAny_get hf t x e1) (f.vfr t x e1 e2), fun t d w x e1 e2 => SV.rel_congr hr hc x (gfAny_get hg t d w x e1) (f.vgf t d w x e1 e2), f.vgu, f.vno⟩
theorem V.rel_setH {B : BE} {r : PH} {H : Nat → PH} {k : Nat} (h : PH) {x : V} {y : Value} (n : x.usesT k = false) (e : x.rel B (Zf r H) y) : x.rel B (Zf r (HF.set H k h)) y := by
  have key : ∀ q : Tg, (match q with | .k j => Nat.beq j k | _ => false) = false → Zf r (HF.set H k h) q = Zf r H q := fun q hq => by
    cases q with
    | k j => show HF.set H k h j = H j; exact HF.set_ne H h (beq_ne hq)
    | _ => rfl
  cases x with
  | s q sz n' f =>
    show D.rd (Zf r (HF.set H k h) q) _ _
    rw [key q (by cases q <;> first | exact n | rfl)]; exact e
  | rp q l o =>
    show ∃ b x vs, _ = _ ∧ D.rds (Zf r (HF.set H k h) q) l vs ∧ _
    rw [key q (by cases q <;> first | exact n | rfl)]; exact e
  | _ => exact e
theorem mset_spec {k : Nat} {c : Ch} : ∀ {mu mu' : Mu}, mset k c mu = some mu' → ∀ j, mlk j mu' = if j = k then some c else mlk j mu
  | [], mu', h, j => by
    simp [mset] at h; subst h
    rw [mlk_cons]
    by_cases hj : k = j
    · rw [if_pos hj, if_pos hj.symm]
    · rw [if_neg hj, if_neg (Ne.symm hj)]
  | (i, d) :: r, mu', h, j => by
    simp only [mset] at h
    cases c1 : Nat.beq i k with
    | true =>
      rw [c1] at h; simp at h; subst h
      have := Nat.eq_of_beq_eq_true c1
      subst this
      rw [mlk_cons, mlk_cons]
      by_cases hj : i = j
      · rw [if_pos hj, if_pos hj.symm]
      · rw [if_neg hj, if_neg (Ne.symm hj), if_neg hj]
    | false =>
      rw [c1] at h
      simp only [cond_false] at h
      cases e : mset k c r with
      | none => rw [e] at h; cases h
      | some l =>
        rw [e] at h; injection h with h; subst h
        rw [mlk_cons, mlk_cons, mset_spec e j]
        have := beq_ne c1
        by_cases hj : i = j
        · rw [if_pos hj, if_pos hj, if_neg (by omega)]
        · rw [if_neg hj, if_neg hj]
theorem Ch.sat_setB {c : Ch} {r h : PH} {k j : Nat} (v : Value) (hj : j ≠ k) (hc : anyL (V.usesB k) c.rowL = false) (s : c.sat B r h j) : c.sat (BE.set B k v) r h j := by
  cases c with
  | row l =>
    obtain ⟨b, o, vs, h', e1, e2, e3⟩ := s
    exact ⟨b, o, vs, h', by rw [BE.set_ne B v hj]; exact e1, V.owns_congr (φ := V.usesB k) (fun x h y => V.own_setB v) hc e2, e3⟩
  | rrow l =>
    obtain ⟨b, o, vs, e1, e2, e3⟩ := s
    exact ⟨b, o, vs, by rw [BE.set_ne B v hj]; exact e1, V.rels_congr (φ := V.usesB k) (fun x y => V.rel_setB v) hc e2, e3⟩
  | arr sz n f => show D.own _ _ (BE.set B k v j); rw [BE.set_ne B v hj]; exact s
  | ro sz n f => show D.rd _ _ (BE.set B k v j); rw [BE.set_ne B v hj]; exact s
  | hole sz n f i k2 =>
    obtain ⟨A, c, e1, e2, e3, e4, e5, e6⟩ := s
    have h2 : k2 ≠ k := beq_ne (anyL_cons (φ := V.usesB k) hc).1
    exact ⟨A, c, by rw [BE.set_ne B v hj]; exact e1, e2, e3, e4, by rw [BE.set_ne B v hj, BE.set_ne B v h2]; exact e5, e6⟩
theorem Mm.below (m : Mm B E.r mu w H) (k : Below w.heap.size w w') : Mm B E.r mu w' H := ⟨m.sat, fun i => (m.fit i).ext k, m.dj, m.djr, m.fitr.ext k⟩
theorem Mem.below (m : Mem E B mu w H) (k : Below w.heap.size w w') : Mem E B mu w' H :=
  ⟨m.mm.below k, m.keep.trans (Keep.of_below k noD) fun _ _ h => h.elim, m.dom, m.anch⟩
/-- a chunk is laid new or anew -/
theorem Mem.put (m : Mem E B mu w H) {k : Nat} {c : Ch} (hmu : mset k c mu = some mu') {v : Value} (hU : v = B k ∨ (muAny (V.usesB k) k mu = false ∧ hasK k E.A.ks = false)) {h' : PH} (s : c.sat (BE.set B k v) E.r h' k) (f : Fit h' w') (kp : Keep (fun b o => H k b o ≠ none) w w') (hn : ∀ b o, h' b o ≠ none → H k b o ≠ none ∨ w.heap.size ≤ b) :
    Mem E (BE.set B k v) mu' w' (HF.set H k h') := by
  have out : ∀ g : PH, Fit g w → (H k).dj g → Fit g w' := fun g fg d => fg.keep kp fun x y e h2 => by
    rcases d x y with e2 | e2
    · exact h2 e2
    · exact e e2
  have dj2 : ∀ g : PH, Fit g w → (H k).dj g → h'.dj g := fun g fg d x y => by
    cases e : g x y with
    | none => exact .inr rfl
    | some u =>
      left
      cases e2 : h' x y with
      | none => rfl
      | some u2 =>
        rcases hn x y (by rw [e2]; simp) with h3 | h3
        · rcases d x y with h4 | h4
          · exact absurd h4 h3
          · rw [e] at h4; cases h4
        · have := fg.lt (b := x) (o := y) (by rw [e]; simp)
          omega
  refine ⟨⟨fun j d e => ?_, fun j => ?_, fun i j hij => ?_, fun j => ?_, out _ m.mm.fitr (m.mm.djr k)⟩, ?_, fun j x y e => ?_, fun j hj => ?_⟩
  · rw [mset_spec hmu j] at e
    by_cases hj : j = k
    · subst hj; rw [if_pos rfl] at e; injection e with e; subst e; rw [HF.set_eq]; exact s
    · rw [if_neg hj] at e
      rw [HF.set_ne H h' hj]
      rcases hU with rfl | ⟨h1, _⟩
      · rw [BE.set_self]; exact m.mm.sat j d e
      · exact Ch.sat_setB v hj (muAny_get h1 j d hj e) (m.mm.sat j d e)
  · by_cases hj : j = k
    · subst hj; rw [HF.set_eq]; exact f
    · rw [HF.set_ne H h' hj]; exact out _ (m.mm.fit j) (m.mm.dj k j (Ne.symm hj))
  · by_cases hi : i = k <;> by_cases hj : j = k
    · exact absurd (hi.trans hj.symm) hij
    · subst hi; rw [HF.set_eq, HF.set_ne H h' hj]; exact dj2 _ (m.mm.fit j) (m.mm.dj _ j (Ne.symm hj))
    · subst hj; rw [HF.set_eq, HF.set_ne H h' hi]; exact PH.dj_symm (dj2 _ (m.mm.fit i) (m.mm.dj _ i (Ne.symm hi)))
    · rw [HF.set_ne H h' hi, HF.set_ne H h' hj]; exact m.mm.dj i j hij
  · by_cases hj : j = k
    · subst hj; rw [HF.set_eq]; exact dj2 _ m.mm.fitr (m.mm.djr _)
    · rw [HF.set_ne H h' hj]; exact m.mm.djr j
  · exact m.keep.trans kp fun x y e => m.dom k x y e
  · by_cases hj : j = k
    · subst hj; rw [HF.set_eq] at e
      rcases hn x y e with h3 | h3
      · exact m.dom _ x y h3
      · exact .inr (Nat.le_trans m.keep.size h3)
    · rw [HF.set_ne H h' hj] at e; exact m.dom j x y e
  · rcases hU with rfl | ⟨_, h2⟩
    · rw [BE.set_self]; exact m.anch j hj
    · have : j ≠ k := fun e => by rw [e, h2] at hj; cases hj
      rw [BE.set_ne B v this]; exact m.anch j hj
/-- the frames, where a chunk is laid anew -/
theorem FitsE.anew (f : FitsE E B H fr gf a) {k : Nat} (h' : PH) (hf : frCut (V.usesT k) fr = some fr') (hg : gfCut (V.usesT k) gf = some gf') : FitsE E (BE.set B k (B k)) (HF.set H k h') fr' gf' a :=
  Fits.cut f hf hg (PH.le_refl _) fun x y hx e => by rw [BE.set_self]; exact V.rel_setH h' hx e
/-- the frames, where a chunk is new -/
theorem uses_out {k : Nat} {x : V} (h : x.uses k = false) : x.usesB k = false ∧ x.usesT k = false := by
  unfold V.uses at h
  cases e : x.usesB k with
  | true => rw [e] at h; cases h
  | false => rw [e] at h; exact ⟨rfl, h⟩
theorem FitsE.new (f : FitsE E B H fr gf a) {k : Nat} (v : Value) (h' : PH) (hf : frAny (V.uses k) fr = false) (hg : gfAny (V.uses k) gf = false) : FitsE E (BE.set B k v) (HF.set H k h') fr gf a :=
  Fits.keep f hf hg (PH.le_refl _) fun x y hx e => V.rel_setB v (uses_out hx).1 (V.rel_setH h' (uses_out hx).2 e)
theorem anyL_mono {φ ψ : V → Bool} (h : ∀ x, φ x = false → ψ x = false) : ∀ {l : List V}, anyL φ l = false → anyL ψ l = false
  | [], _ => rfl
  | x :: r, e => by
    obtain ⟨h1, h2⟩ := anyL_cons e
    simp only [anyL, h x h1, cond_false]; exact anyL_mono h h2
theorem muAny_mono {φ ψ : V → Bool} (h : ∀ x, φ x = false → ψ x = false) {k : Nat} : ∀ {mu : Mu}, muAny φ k mu = false → muAny ψ k mu = false
  | [], _ => rfl
  | (j, c) :: r, e => by
    simp only [muAny] at e ⊢
    cases c1 : Nat.beq j k with
    | true => rw [c1] at e; exact muAny_mono h e
    | false =>
      rw [c1] at e
      simp only [cond_false] at e ⊢
      cases c2 : anyL φ c.rowL with
      | true => rw [c2] at e; cases e
      | false => rw [c2] at e; rw [anyL_mono h c2]; exact muAny_mono h e
theorem unnamed_spec {k : Nat} {ks : List Nat} (h : unnamed k fr gf mu ks = true) : frAny (V.uses k) fr = false ∧ gfAny (V.uses k) gf = false ∧ muAny (V.uses k) k mu = false ∧ hasK k ks = false := by
  unfold unnamed at h
  cases c1 : frAny (V.uses k) fr with
  | true => rw [c1] at h; cases h
  | false =>
    rw [c1] at h
    cases c2 : gfAny (V.uses k) gf with
    | true => rw [c2] at h; cases h
    | false =>
      rw [c2] at h
      cases c3 : muAny (V.uses k) k mu with
      | true => rw [c3] at h; cases h
      | false => rw [c3] at h; exact ⟨rfl, rfl, rfl, by simpa using h⟩
end
end Go.Proofs.YtiegllklalplnaaGreat
