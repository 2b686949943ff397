
/-
  Keys are renamed; what a callee is handed.
-/
import Derived.Test.YtiegllklalplnaaGreatW12
namespace Go.Proofs.YtiegllklalplnaaGreat
open Go Go.RowKit
set_option linter.unusedVariables false
set_option linter.unusedSimpArgs false

def swN (a b k : Nat) : Nat := bif Nat.beq k a then b else bif Nat.beq k b then a else k
def Tg.sw (a b : Nat) : Tg → Tg
  | .k n => .k (swN a b n)
  | q => q
def V.sw (a b : Nat) : V → V
  | .s q sz n f => .s (q.sw a b) sz n f
  | .g k => .g (swN a b k)
  | .p k o => .p (swN a b k) o
  | .pe k sz i o => .pe (swN a b k) sz i o
  | .sb k sz lo hi => .sb (swN a b k) sz lo hi
  | .gl k n => .gl (swN a b k) n
  | .rp q l o => .rp (q.sw a b) l o
  | x => x
def swL (a b : Nat) : List V → List V
  | [] => []
  | x :: r => x.sw a b :: swL a b r
mutual
def SV.sw (a b : Nat) : SV → SV
  | .a x => .a (x.sw a b)
  | .ag l => .ag (swL a b l)
  | .fn f l => .fn f (swL a b l)
  | .tu l => .tu (swSL a b l)
  | x => x
def swSL (a b : Nat) : List SV → List SV
  | [] => []
  | x :: r => x.sw a b :: swSL a b r
end
def Ch.sw (a b : Nat) : Ch → Ch
  | .row l => .row (swL a b l)
  | .rrow l => .rrow (swL a b l)
  | .hole sz n f i k2 => .hole sz n f i (swN a b k2)
  | c => c
def swMu (a b : Nat) : Mu → Mu
  | [] => []
  | (k, c) :: r => (swN a b k, c.sw a b) :: swMu a b r
def swKs (a b : Nat) : List Nat → List Nat
  | [] => []
  | k :: r => swN a b k :: swKs a b r
theorem swN_eq (a b k : Nat) : swN a b k = if k = a then b else if k = b then a else k := by
  unfold swN
  by_cases h1 : k = a
  · subst h1; simp [Nat.beq_refl]
  · rw [if_neg h1, show Nat.beq k a = false from by
      cases e : Nat.beq k a with
      | false => rfl
      | true => exact absurd (Nat.eq_of_beq_eq_true e) h1]
    by_cases h2 : k = b
    · subst h2; simp [Nat.beq_refl]
    · rw [if_neg h2, show Nat.beq k b = false from by
        cases e : Nat.beq k b with
        | false => rfl
        | true => exact absurd (Nat.eq_of_beq_eq_true e) h2]
      rfl
theorem swN_swN (a b k : Nat) : swN a b (swN a b k) = k := by
  rw [swN_eq, swN_eq]
  by_cases h1 : k = a
  · subst h1
    rw [if_pos rfl]
    by_cases h2 : b = k
    · rw [if_pos h2]; exact h2
    · rw [if_neg h2, if_pos rfl]
  · rw [if_neg h1]
    by_cases h2 : k = b
    · subst h2; rw [if_pos rfl, if_pos rfl]
    · rw [if_neg h2, if_neg h1, if_neg h2]
theorem swN_inj {a b j k : Nat} (h : swN a b j = swN a b k) : j = k := by rw [← swN_swN a b j, h, swN_swN]
section
variable {a b : Nat}
theorem Zf_sw (r : PH) (H : Nat → PH) : ∀ q : Tg, Zf r H (q.sw a b) = Zf r (fun k => H (swN a b k)) q
  | .o => rfl
  | .r => rfl
  | .k _ => rfl
theorem V.rel_sw {B : BE} {r : PH} {H : Nat → PH} {y : Value} : ∀ {x : V}, (x.sw a b).rel B (Zf r H) y ↔ x.rel (fun k => B (swN a b k)) (Zf r fun k => H (swN a b k)) y
  | .v _ => Iff.rfl
  | .s q sz n f => by show D.rd (Zf r H (q.sw a b)) _ _ ↔ _; rw [Zf_sw]; rfl
  | .g _ => Iff.rfl
  | .p _ _ => Iff.rfl
  | .pe _ _ _ _ => Iff.rfl
  | .sb _ _ _ _ => Iff.rfl
  | .gl _ _ => Iff.rfl
  | .rp q l o => by
    show (∃ c x vs, _ = _ ∧ D.rds (Zf r H (q.sw a b)) l vs ∧ ∀ j, j < vs.length → Zf r H (q.sw a b) c (x + j) = vs[j]?) ↔ _
    rw [Zf_sw]; rfl
  | .any => Iff.rfl
theorem V.rels_sw {B : BE} {r : PH} {H : Nat → PH} : ∀ {l : List V} {y : List Value}, V.rels B (Zf r H) (swL a b l) y ↔ V.rels (fun k => B (swN a b k)) (Zf r fun k => H (swN a b k)) l y
  | [], _ => Iff.rfl
  | x :: r', y => by
    constructor
    · rintro ⟨v, t, rfl, h1, h2⟩; exact ⟨v, t, rfl, V.rel_sw.1 h1, V.rels_sw.1 h2⟩
    · rintro ⟨v, t, rfl, h1, h2⟩; exact ⟨v, t, rfl, V.rel_sw.2 h1, V.rels_sw.2 h2⟩
mutual
theorem SV.rel_sw {P : Program} {B : BE} {r : PH} {H : Nat → PH} : ∀ (x : SV) {y : Value}, (x.sw a b).rel P B (Zf r H) y ↔ x.rel P (fun k => B (swN a b k)) (Zf r fun k => H (swN a b k)) y
  | .a x, _ => V.rel_sw
  | .ag l, y => by
    constructor
    · rintro ⟨vs, rfl, h⟩; exact ⟨vs, rfl, V.rels_sw.1 h⟩
    · rintro ⟨vs, rfl, h⟩; exact ⟨vs, rfl, V.rels_sw.2 h⟩
  | .fn f l, y => by
    constructor
    · rintro ⟨vs, rfl, h⟩; exact ⟨vs, rfl, V.rels_sw.1 h⟩
    · rintro ⟨vs, rfl, h⟩; exact ⟨vs, rfl, V.rels_sw.2 h⟩
  | .fb φ, _ => Iff.rfl
  | .tu l, y => by
    constructor
    · rintro ⟨vs, rfl, h⟩; exact ⟨vs, rfl, (SV.rels_sw l).1 h⟩
    · rintro ⟨vs, rfl, h⟩; exact ⟨vs, rfl, (SV.rels_sw l).2 h⟩
  | .un, _ => Iff.rfl
theorem SV.rels_sw {P : Program} {B : BE} {r : PH} {H : Nat → PH} : ∀ (l : List SV) {y : List Value}, SV.rels P B (Zf r H) (swSL a b l) y ↔ SV.rels P (fun k => B (swN a b k)) (Zf r fun k => H (swN a b k)) l y
  | [], _ => Iff.rfl
  | x :: r', y => by
    constructor
    · rintro ⟨v, t, rfl, h1, h2⟩; exact ⟨v, t, rfl, (SV.rel_sw x).1 h1, (SV.rels_sw r').1 h2⟩
    · rintro ⟨v, t, rfl, h1, h2⟩; exact ⟨v, t, rfl, (SV.rel_sw x).2 h1, (SV.rels_sw r').2 h2⟩
end
theorem V.own_sw {B : BE} {r h : PH} {y : Value} : ∀ {x : V}, (x.sw a b).own B r h y ↔ x.own (fun k => B (swN a b k)) r h y
  | .v _ => Iff.rfl
  | .s q sz n f => by cases q <;> (show (_ ∧ _ ∨ _ ∧ _) ↔ (_ ∧ _ ∨ _ ∧ _)) <;> simp [Tg.sw]
  | .g _ => Iff.rfl
  | .p _ _ => Iff.rfl
  | .pe _ _ _ _ => Iff.rfl
  | .sb _ _ _ _ => Iff.rfl
  | .gl _ _ => Iff.rfl
  | .rp q l o => by cases q <;> (show (_ ∧ _) ↔ (_ ∧ _)) <;> simp [Tg.sw]
  | .any => Iff.rfl
theorem V.owns_sw {B : BE} {r : PH} : ∀ {l : List V} {y : List Value} {h : PH}, V.owns B r h (swL a b l) y ↔ V.owns (fun k => B (swN a b k)) r h l y
  | [], _, _ => Iff.rfl
  | x :: r', y, h => by
    constructor
    · rintro ⟨v, t, h1, h2, rfl, e2, e3, e4, e5, e6⟩; exact ⟨v, t, h1, h2, rfl, e2, e3, e4, V.own_sw.1 e5, V.owns_sw.1 e6⟩
    · rintro ⟨v, t, h1, h2, rfl, e2, e3, e4, e5, e6⟩; exact ⟨v, t, h1, h2, rfl, e2, e3, e4, V.own_sw.2 e5, V.owns_sw.2 e6⟩
theorem swL_length : ∀ l : List V, (swL a b l).length = l.length
  | [] => rfl
  | _ :: r => by simp [swL, swL_length r]
theorem Ch.sat_sw {B : BE} {r h : PH} {k : Nat} : ∀ {c : Ch}, (c.sw a b).sat B r h (swN a b k) ↔ c.sat (fun k => B (swN a b k)) r h k
  | .row l => by
    constructor
    · rintro ⟨c, o, vs, h', e1, e2, e3, e4⟩; exact ⟨c, o, vs, h', e1, V.owns_sw.1 e2, e3, fun j hj => e4 j (by rw [swL_length]; exact hj)⟩
    · rintro ⟨c, o, vs, h', e1, e2, e3, e4⟩; exact ⟨c, o, vs, h', e1, V.owns_sw.2 e2, e3, fun j hj => e4 j (by rw [swL_length] at hj; exact hj)⟩
  | .rrow l => by
    constructor
    · rintro ⟨c, o, vs, e1, e2, e4⟩; exact ⟨c, o, vs, e1, V.rels_sw.1 e2, fun j hj => e4 j (by rw [swL_length]; exact hj)⟩
    · rintro ⟨c, o, vs, e1, e2, e4⟩; exact ⟨c, o, vs, e1, V.rels_sw.2 e2, fun j hj => e4 j (by rw [swL_length] at hj; exact hj)⟩
  | .arr _ _ _ => Iff.rfl
  | .hole _ _ _ _ _ => Iff.rfl
  | .ro _ _ _ => Iff.rfl
theorem mlk_sw : ∀ (mu : Mu) (k : Nat), mlk (swN a b k) (swMu a b mu) = (mlk k mu).map (Ch.sw a b)
  | [], _ => rfl
  | (j, c) :: r, k => by
    simp only [swMu]
    rw [mlk_cons, mlk_cons]
    by_cases h : j = k
    · subst h; rw [if_pos rfl, if_pos rfl]; rfl
    · rw [if_neg h, if_neg fun e => h (swN_inj e), mlk_sw r k]
theorem own_sw (c : Ch) : (c.sw a b).own? = c.own? := by cases c <;> rfl
theorem hasK_cons (k j : Nat) (r : List Nat) : hasK k (j :: r) = true ↔ j = k ∨ hasK k r = true := by
  simp only [hasK]
  cases e : Nat.beq j k with
  | true => have := Nat.eq_of_beq_eq_true e; simp [this]
  | false => have := Nat.ne_of_beq_eq_false e; simp [this]
theorem hasK_sw : ∀ {l : List Nat} {k : Nat}, hasK (swN a b k) (swKs a b l) = hasK k l
  | [], _ => rfl
  | j :: r, k => by
    rw [Bool.eq_iff_iff]
    simp only [swKs]
    rw [hasK_cons, hasK_cons, hasK_sw (l := r)]
    exact ⟨fun h => h.imp_left fun e => swN_inj e, fun h => h.imp_left fun e => by rw [e]⟩
theorem keysO_sw : ∀ mu : Mu, keysO (swMu a b mu) = swKs a b (keysO mu)
  | [] => rfl
  | (k, c) :: r => by
    simp only [swMu, keysO, own_sw, keysO_sw r]
    cases c.own? <;> rfl
theorem Mm.sw {B : BE} {r : PH} {mu : Mu} {w : World} {H : Nat → PH} (m : Mm B r (swMu a b mu) w H) : Mm (fun k => B (swN a b k)) r mu w fun k => H (swN a b k) := by
  refine ⟨fun k c e => ?_, fun k => m.fit _, fun j k h => m.dj _ _ fun e => h (swN_inj e), fun k => m.djr _, m.fitr⟩
  have := m.sat (swN a b k) (c.sw a b) (by rw [mlk_sw, e]; rfl)
  exact Ch.sat_sw.1 this
theorem Mm.unsw {B : BE} {r : PH} {mu : Mu} {w : World} {H : Nat → PH} (m : Mm B r mu w H) : Mm (fun k => B (swN a b k)) r (swMu a b mu) w fun k => H (swN a b k) := by
  refine ⟨fun k c e => ?_, fun k => m.fit _, fun j k h => m.dj _ _ fun e => h (swN_inj e), fun k => m.djr _, m.fitr⟩
  have h1 := mlk_sw (a := a) (b := b) mu (swN a b k)
  rw [swN_swN, e] at h1
  cases e2 : mlk (swN a b k) mu with
  | none => rw [e2] at h1; cases h1
  | some d =>
    rw [e2] at h1
    injection h1 with h1
    subst h1
    have h2 := m.sat _ d e2
    have h3 := (Ch.sat_sw (a := a) (b := b) (B := fun k => B (swN a b k)) (r := r) (h := H (swN a b k)) (k := swN a b k) (c := d)).2 (by simpa only [swN_swN] using h2)
    rwa [swN_swN] at h3
theorem Con.sw (a b : Nat) {ι : Type} {P : Program} {f : Nat} {ks : List Nat} {args : List SV} {mu : Mu} {φ : ι → Prop} {res : ι → List SV} {mu' : ι → Mu} (C : Con P f ks args mu φ res mu') :
    Con P f (swKs a b ks) (swSL a b args) (swMu a b mu) φ (fun y => swSL a b (res y)) fun y => swMu a b (mu' y) := by
  intro B r w H vals m hemp hargs
  have hown : ∀ c o, ownD mu (fun k => H (swN a b k)) c o ↔ ownD (swMu a b mu) H c o := fun c o => by
    constructor
    · rintro ⟨k, h1, h2⟩; exact ⟨swN a b k, by rw [keysO_sw, hasK_sw]; exact h1, h2⟩
    · rintro ⟨k, h1, h2⟩
      refine ⟨swN a b k, ?_, by simpa only [swN_swN] using h2⟩
      rw [keysO_sw] at h1
      rw [← hasK_sw (a := a) (b := b), swN_swN]; exact h1
  refine (C _ r w _ vals m.sw (fun k hk => hemp _ (by rw [keysO_sw, hasK_sw]; exact hk)) ((SV.rels_sw args).1 hargs)).mono fun e w' ⟨y, B', H', out, h1, h2, h3, h4, h5, h6, h7⟩ => ?_
  refine ⟨y, fun k => B' (swN a b k), fun k => H' (swN a b k), out, h1, h2, ?_, h4.unsw, fun k hk => ?_, h6.mono fun c _ o h => (hown c o).1 h, fun k c o h => (h7 _ c o h).imp_left (hown c o).1⟩
  · refine (SV.rels_sw (res y)).2 ?_
    simpa only [swN_swN] using h3
  · have := h5 (swN a b k) (by rw [← hasK_sw (a := a) (b := b), swN_swN]; exact hk)
    simpa only [swN_swN] using this
end
end Go.Proofs.YtiegllklalplnaaGreat
