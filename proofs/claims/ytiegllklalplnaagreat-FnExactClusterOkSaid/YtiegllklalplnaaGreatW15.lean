
/-
  A call by its contract, as one operation.
-/
import Derived.Test.YtiegllklalplnaaGreatW14
namespace Go.Proofs.YtiegllklalplnaaGreat
open Go Go.RowKit
set_option linter.unusedVariables false
set_option linter.unusedSimpArgs false

def appK : List Nat → List Nat → List Nat
  | [], l => l
  | x :: r, l => x :: appK r l
def appM : Mu → Mu → Mu
  | [], l => l
  | x :: r, l => x :: appM r l
def mdropKs (ks : List Nat) : Mu → Option Mu
  | [] => some []
  | (j, c) :: r => match mdropKs ks r with
    | some l => bif hasK j ks then some l else some ((j, c) :: l)
    | none => none
def V.usesTs (ks : List Nat) : V → Bool
  | .s (.k q) _ _ _ => hasK q ks
  | .rp (.k q) _ _ => hasK q ks
  | _ => false
def cutKs (ko : List Nat) (fr : Fr) (gf : GF) : Option (Fr × GF) := match ko with
  | [] => some (fr, gf)
  | _ :: _ => match frCut (V.usesTs ko) fr, gfCut (V.usesTs ko) gf with
    | some fr', some gf' => some (fr', gf')
    | _, _ => none
/-- leans on these keys alone, and borrows nothing -/
def V.inK (ks : List Nat) : V → Bool
  | .v _ => true
  | .g k => hasK k ks
  | .p k _ => hasK k ks
  | .pe k _ _ _ => hasK k ks
  | .sb k _ _ _ => hasK k ks
  | .gl k _ => hasK k ks
  | .any => true
  | _ => false
def V.inKo (ks : List Nat) : V → Bool
  | .s .o _ _ _ => true
  | x => x.inK ks
def allL (φ : V → Bool) : List V → Bool
  | [] => true
  | x :: r => bif φ x then allL φ r else false
mutual
def SV.inK (ks : List Nat) : SV → Bool
  | .a x => x.inK ks
  | .ag l => allL (V.inK ks) l
  | .tu l => SV.inKL ks l
  | _ => false
def SV.inKL (ks : List Nat) : List SV → Bool
  | [] => true
  | x :: r => bif x.inK ks then SV.inKL ks r else false
end
def muIn (ks : List Nat) : Mu → Bool
  | [] => true
  | (_, c) :: r => bif c.own? then bif allL (V.inKo ks) c.rowL then muIn ks r else false else false
def freshB (ks : List Nat) (fr : Fr) (gf : GF) (mu : Mu) (aks : List Nat) : List Nat → Bool
  | [] => true
  | k :: r => bif hasK k ks then freshB ks fr gf mu aks r else bif unnamed k fr gf mu aks then freshB ks fr gf mu aks r else false
def apartB (l : List Nat) : List Nat → Bool
  | [] => true
  | k :: r => bif hasK k l then false else apartB l r
def resS : List SV → SV
  | [x] => x
  | l => .tu l
/-- what the callee is handed of the memory -/
def WkIn (mu : Mu) : Mu → Prop
  | [] => True
  | (k, c) :: r => (∃ d, mlk k mu = some d ∧ match c with
      | .ro sz n f => ∀ B r h s j, Ch.sat B r h j d → r.le s → h.le s → D.rd s (.sl sz n f) (B j)
      | .rrow l => ∀ B r h s j, Ch.sat B r h j d → r.le s → h.le s → Ch.sat B s PH.emp j (.rrow l)
      | c => d.imp c) ∧ WkIn mu r
theorem ro_arr {sz n : Nat} {f : Nat → List D} : ∀ B r h s j, Ch.sat B r h j (.arr sz n f) → r.le s → h.le s → D.rd s (.sl sz n f) (B j) := fun _ _ _ _ _ e _ l => D.rd_mono l (.sl sz n f) (D.own_rd (.sl sz n f) e)
theorem ro_ro {sz n : Nat} {f : Nat → List D} : ∀ B r h s j, Ch.sat B r h j (.ro sz n f) → r.le s → h.le s → D.rd s (.sl sz n f) (B j) := fun _ _ _ _ _ e l _ => D.rd_mono l (.sl sz n f) e
theorem mlk_appM (k : Nat) : ∀ (l m : Mu), mlk k (appM l m) = (mlk k l).or (mlk k m)
  | [], m => rfl
  | (j, c) :: r, m => by
    simp only [appM]
    rw [mlk_cons, mlk_cons]
    by_cases h : j = k
    · rw [if_pos h, if_pos h]; rfl
    · rw [if_neg h, if_neg h]; exact mlk_appM k r m
theorem mdropKs_spec {ks : List Nat} : ∀ {mu l : Mu}, mdropKs ks mu = some l → ∀ k, mlk k l = if hasK k ks then none else mlk k mu
  | [], l, h, k => by simp [mdropKs] at h; subst h; simp [mlk]
  | (j, c) :: r, l, h, k => by
    simp only [mdropKs] at h
    cases e : mdropKs ks r with
    | none => rw [e] at h; cases h
    | some l' =>
      rw [e] at h
      simp only at h
      have ih := mdropKs_spec e k
      cases c1 : hasK j ks with
      | true =>
        rw [c1] at h; simp at h; subst h
        rw [mlk_cons, ih]
        by_cases hj : j = k
        · subst hj; rw [c1]; rfl
        · rw [if_neg hj]
      | false =>
        rw [c1] at h; simp at h; subst h
        rw [mlk_cons, mlk_cons, ih]
        by_cases hj : j = k
        · subst hj; rw [if_pos rfl, c1]; simp
        · rw [if_neg hj, if_neg hj]
theorem allL_cons {φ : V → Bool} {x : V} {r : List V} (h : allL φ (x :: r) = true) : φ x = true ∧ allL φ r = true := by
  simp only [allL] at h
  cases e : φ x with
  | false => rw [e] at h; cases h
  | true => rw [e] at h; exact ⟨rfl, h⟩
theorem V.inK_rel {ks : List Nat} {B B' : BE} {Z Z' : Tg → PH} (hB : ∀ k, hasK k ks = true → B' k = B k) {x : V} {y : Value} (h : x.inK ks = true) (e : x.rel B Z y) : x.rel B' Z' y := by
  cases x with
  | v u => exact e
  | g k => show _ = B' k ∧ _; rw [hB k h]; exact e
  | p k o => show _ = addP (B' k) o ∧ _; rw [hB k h]; exact e
  | pe k sz i o => show _ = elP (B' k) sz i o ∧ _; rw [hB k h]; exact e
  | sb k sz lo hi => show _ = sbV (B' k) sz _ _ ∧ _; rw [hB k h]; exact e
  | gl k n => show _ = B' k ∧ _; rw [hB k h]; exact e
  | any => trivial
  | _ => cases h
theorem V.inKo_own {ks : List Nat} {B B' : BE} {r r' h : PH} (hB : ∀ k, hasK k ks = true → B' k = B k) {x : V} {y : Value} (hx : x.inKo ks = true) (e : x.own B r h y) : x.own B' r' h y := by
  cases x with
  | v u => exact e
  | g k => show _ = B' k ∧ _; rw [hB k hx]; exact e
  | p k o => show _ = addP (B' k) o ∧ _; rw [hB k hx]; exact e
  | pe k sz i o => show _ = elP (B' k) sz i o ∧ _; rw [hB k hx]; exact e
  | sb k sz lo hi => show _ = sbV (B' k) sz _ _ ∧ _; rw [hB k hx]; exact e
  | gl k n => show _ = B' k ∧ _; rw [hB k hx]; exact e
  | any => trivial
  | s q sz n f =>
    cases q with
    | o => exact .inl ⟨rfl, (e.resolve_right fun h => by cases h.1).2⟩
    | _ => cases hx
  | rp _ _ _ => cases hx
theorem V.inK_rels {ks : List Nat} {B B' : BE} {Z Z' : Tg → PH} (hB : ∀ k, hasK k ks = true → B' k = B k) : ∀ {l : List V} {y : List Value}, allL (V.inK ks) l = true → V.rels B Z l y → V.rels B' Z' l y
  | [], _, _, e => e
  | x :: r, _, h, e => by
    obtain ⟨a, t, e1, e2, e3⟩ := e
    obtain ⟨h1, h2⟩ := allL_cons h
    exact ⟨a, t, e1, V.inK_rel hB h1 e2, V.inK_rels hB h2 e3⟩
theorem inKo_owns {ks : List Nat} {B B' : BE} {r r' : PH} (hB : ∀ k, hasK k ks = true → B' k = B k) : ∀ {l : List V} {y : List Value} {h : PH}, allL (V.inKo ks) l = true → V.owns B r h l y → V.owns B' r' h l y
  | [], _, _, _, e => e
  | x :: l, _, _, h, e => by
    obtain ⟨a, t, g1, g2, e1, e2, e3, e4, e5, e6⟩ := e
    obtain ⟨h1, h2⟩ := allL_cons h
    exact ⟨a, t, g1, g2, e1, e2, e3, e4, V.inKo_own hB h1 e5, inKo_owns hB h2 e6⟩
mutual
theorem SV.inK_rel {P : Program} {ks : List Nat} {B B' : BE} {Z Z' : Tg → PH} (hB : ∀ k, hasK k ks = true → B' k = B k) : ∀ (x : SV) {y : Value}, x.inK ks = true → SV.rel P B Z x y → SV.rel P B' Z' x y
  | .a _, _, h, e => V.inK_rel hB h e
  | .ag l, _, h, e => by obtain ⟨vs, e1, e2⟩ := e; exact ⟨vs, e1, V.inK_rels hB h e2⟩
  | .tu l, _, h, e => by obtain ⟨vs, e1, e2⟩ := e; exact ⟨vs, e1, SV.inK_rels hB l h e2⟩
  | .fn _ _, _, h, _ => by cases h
  | .fb _, _, h, _ => by cases h
  | .un, _, h, _ => by cases h
theorem SV.inK_rels {P : Program} {ks : List Nat} {B B' : BE} {Z Z' : Tg → PH} (hB : ∀ k, hasK k ks = true → B' k = B k) : ∀ (l : List SV) {y : List Value}, SV.inKL ks l = true → SV.rels P B Z l y → SV.rels P B' Z' l y
  | [], _, _, e => e
  | x :: r, _, h, e => by
    obtain ⟨a, t, e1, e2, e3⟩ := e
    simp only [SV.inKL] at h
    cases c : x.inK ks with
    | false => rw [c] at h; cases h
    | true => rw [c] at h; exact ⟨a, t, e1, SV.inK_rel hB x c e2, SV.inK_rels hB r h e3⟩
end
theorem Ch.inKo_sat {ks : List Nat} {B B' : BE} {r r' h : PH} {k : Nat} (hB : ∀ k, hasK k ks = true → B' k = B k) (hk : B' k = B k) {c : Ch} (ho : c.own? = true) (hr : allL (V.inKo ks) c.rowL = true) (s : c.sat B r h k) : c.sat B' r' h k := by
  cases c with
  | row l =>
    obtain ⟨b, o, vs, h', e1, e2, e3⟩ := s
    exact ⟨b, o, vs, h', by rw [hk]; exact e1, inKo_owns hB hr e2, e3⟩
  | arr sz n f => show D.own _ _ (B' k); rw [hk]; exact s
  | hole sz n f i k2 =>
    obtain ⟨A, c, e1, e2, e3, e4, e5, e6⟩ := s
    exact ⟨A, c, by rw [hk]; exact e1, e2, e3, e4, by rw [hk, hB k2 (allL_cons (φ := V.inKo ks) hr).1]; exact e5, e6⟩
  | ro _ _ _ => cases ho
  | rrow _ => cases ho
theorem muIn_get {ks : List Nat} : ∀ {mu : Mu}, muIn ks mu = true → ∀ k c, mlk k mu = some c → c.own? = true ∧ allL (V.inKo ks) c.rowL = true
  | [], _, _, _, h => by cases h
  | (j, d) :: r, h, k, c, e => by
    simp only [muIn] at h
    cases c1 : d.own? with
    | false => rw [c1] at h; cases h
    | true =>
      rw [c1] at h
      cases c2 : allL (V.inKo ks) d.rowL with
      | false => rw [c2] at h; cases h
      | true =>
        rw [c2] at h
        rw [mlk_cons] at e
        by_cases hj : j = k
        · rw [if_pos hj] at e; injection e with e; subst e; exact ⟨c1, c2⟩
        · rw [if_neg hj] at e; exact muIn_get h k c e
theorem freshB_get {ks : List Nat} {fr : Fr} {gf : GF} {mu : Mu} {aks : List Nat} : ∀ {nk : List Nat}, freshB ks fr gf mu aks nk = true → ∀ k, hasK k nk = true → hasK k ks = false → unnamed k fr gf mu aks = true
  | [], _, _, h, _ => by cases h
  | j :: r, h, k, e, n => by
    simp only [freshB] at h
    cases c1 : hasK j ks with
    | true =>
      rw [c1] at h
      rcases (hasK_cons k j r).1 e with h1 | h1
      · subst h1; rw [c1] at n; cases n
      · exact freshB_get h k h1 n
    | false =>
      rw [c1] at h
      cases c2 : unnamed j fr gf mu aks with
      | false => rw [c2] at h; cases h
      | true =>
        rw [c2] at h
        rcases (hasK_cons k j r).1 e with h1 | h1
        · subst h1; exact c2
        · exact freshB_get h k h1 n
theorem apartB_get {l : List Nat} : ∀ {m : List Nat}, apartB l m = true → ∀ k, hasK k m = true → hasK k l = false
  | [], _, _, h => by cases h
  | j :: r, h, k, e => by
    simp only [apartB] at h
    cases c1 : hasK j l with
    | true => rw [c1] at h; cases h
    | false =>
      rw [c1] at h
      rcases (hasK_cons k j r).1 e with h1 | h1
      · subst h1; exact c1
      · exact apartB_get h k h1
theorem hasK_app {k : Nat} : ∀ {l m : List Nat}, hasK k (appK l m) = true ↔ hasK k l = true ∨ hasK k m = true
  | [], m => by simp [appK, hasK]
  | j :: r, m => by
    simp only [appK]
    rw [hasK_cons, hasK_cons, hasK_app (l := r), or_assoc]
theorem keysOf_has {k : Nat} : ∀ {mu : Mu} {c : Ch}, mlk k mu = some c → hasK k (keysOf mu) = true
  | [], _, h => by cases h
  | (j, d) :: r, c, e => by
    rw [mlk_cons] at e
    simp only [keysOf]
    by_cases hj : j = k
    · exact (hasK_cons k j _).2 (.inl hj)
    · rw [if_neg hj] at e; exact (hasK_cons k j _).2 (.inr (keysOf_has e))
theorem keysO_has {k : Nat} : ∀ {mu : Mu} {c : Ch}, (k, c) ∈ mu → c.own? = true → hasK k (keysO mu) = true
  | [], _, h, _ => by cases h
  | (j, d) :: r, c, e, o => by
    simp only [keysO]
    cases e with
    | head => rw [o]; exact (hasK_cons k k _).2 (.inl rfl)
    | tail _ e =>
      have := keysO_has e o
      cases d.own? with
      | false => exact this
      | true => exact (hasK_cons k j _).2 (.inr this)
theorem resS_rel {P : Program} {B : BE} {Z : Tg → PH} : ∀ {l : List SV} {vs : List Value}, SV.rels P B Z l vs → SV.rel P B Z (resS l) (resV vs)
  | [], vs, e => by have e : vs = [] := e; subst e; exact ⟨[], rfl, rfl⟩
  | [x], vs, e => by
    obtain ⟨a, t, rfl, e2, e3⟩ := e
    have e3 : t = [] := e3
    subst e3
    exact e2
  | x :: y :: r, vs, e => by
    have e' := e
    obtain ⟨a, t, rfl, e2, b, u, rfl, e4, e5⟩ := e
    exact ⟨_, rfl, e'⟩
end Go.Proofs.YtiegllklalplnaaGreat
