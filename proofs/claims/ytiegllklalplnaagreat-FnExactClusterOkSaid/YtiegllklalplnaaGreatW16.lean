
/-
  A call by its contract, as one operation: the rule.
-/
import Derived.Test.YtiegllklalplnaaGreatW15
namespace Go.Proofs.YtiegllklalplnaaGreat
open Go Go.RowKit
set_option linter.unusedVariables false
set_option linter.unusedSimpArgs false

/-- the call that an operation is, its guard, and the frame behind it -/
def callC (N : Nat) (all : List Oper) (fr : Fr) (gf : GF) (o : Oper) : Option (Nat × List SV × Option (Nat × Nat × Bool) × Nat × GF) :=
  match o.dst with
  | none => none
  | some t => match gdrop t gf with
    | none => none
    | some gf' => match o.guard with
      | none => match callsOf [] fr gf o.op with
        | some (n, svs) => bif Nat.blt t N then some (n, svs, none, t, gf') else none
        | none => none
      | some (j, b) => match gSlot all j, mlk t fr with
        | some d, none => match callsOf (acts 6 gf d b) fr gf o.op with
          | some (n, svs) => bif (Nat.blt t N && !(Nat.beq t d)) then some (n, svs, some (j, d, b), t, gf') else none
          | none => none
        | _, _ => none
def frQ (fr : Fr) (g : Option (Nat × Nat × Bool)) (t : Nat) (v : SV) : Fr := match g with
  | none => (t, v) :: fr
  | some _ => fr
def gfQ (gf' : GF) (g : Option (Nat × Nat × Bool)) (t : Nat) (v : SV) : GF := match g with
  | none => gf'
  | some (_, d, b) => (t, d, b, v) :: gf'
/-- a guarded operation that is known to come up -/
def litG (fr : Fr) (gf : GF) (g : Option (Nat × Nat × Bool)) : Prop := match g with
  | none => True
  | some (_, d, b) => glk d gf = none ∧ mlk d fr = some (.a (.v (.bool b)))
/-- what is only read is not owned beside -/
def roB (ko : List Nat) : Mu → Bool
  | [] => true
  | (k, c) :: r => bif c.own? then roB ko r else bif hasK k ko then false else roB ko r
theorem roB_get {ko : List Nat} : ∀ {mu : Mu}, roB ko mu = true → ∀ k c, mlk k mu = some c → c.own? = false → hasK k ko = false
  | [], _, _, _, h, _ => by cases h
  | (j, d) :: r, h, k, c, e, o => by
    simp only [roB] at h
    rw [mlk_cons] at e
    by_cases hj : j = k
    · rw [if_pos hj] at e; injection e with e; subst e; subst hj
      rw [o] at h
      cases c1 : hasK j ko with
      | false => rfl
      | true => rw [c1] at h; cases h
    · rw [if_neg hj] at e
      refine roB_get ?_ k c e o
      cases c1 : d.own? with
      | true => rw [c1] at h; exact h
      | false =>
        rw [c1] at h
        cases c2 : hasK j ko with
        | true => rw [c2] at h; cases h
        | false => rw [c2] at h; exact h
section
variable {E : Env} {B : BE} {mu mu' : Mu} {w : World} {H : Nat → PH} {TT : List TI} {fr fr' : Fr} {gf gf' : GF} {a : Act} {all rest : List Oper} {Q : Exit → Act → World → Prop} {o : Oper} {J : Act → World → Prop} {G : AG}
theorem callC_none {n : Nat} {svs : List SV} {t : Nat} {N : Nat} (h : callC N all fr gf o = some (n, svs, none, t, gf')) : o.guard = none ∧ o.dst = some t ∧ Nat.blt t N = true ∧ callsOf [] fr gf o.op = some (n, svs) ∧ gdrop t gf = some gf' := by
  unfold callC at h
  split at h
  · cases h
  · rename_i t' hd
    split at h
    · cases h
    · rename_i g hg
      split at h
      · rename_i hgd
        split at h
        · rename_i n' s' hc
          cases hb : Nat.blt t' N with
          | false => rw [hb] at h; cases h
          | true =>
            rw [hb] at h
            simp only [cond_true, Option.some.injEq, Prod.mk.injEq] at h
            obtain ⟨rfl, rfl, _, rfl, rfl⟩ := h
            exact ⟨hgd, hd, hb, hc, hg⟩
        · cases h
      · rename_i j' b' hgd
        split at h
        · rename_i d' hs hm
          split at h
          · rename_i n' s' hc
            cases hb : (Nat.blt t' N && !(Nat.beq t' d')) with
            | false => rw [hb] at h; cases h
            | true => rw [hb] at h; simp at h
          · cases h
        · cases h
theorem callC_some {n : Nat} {svs : List SV} {t j d : Nat} {b : Bool} {N : Nat} (h : callC N all fr gf o = some (n, svs, some (j, d, b), t, gf')) : o.guard = some (j, b) ∧ gSlot all j = some d ∧ o.dst = some t ∧ (Nat.blt t N && !(Nat.beq t d)) = true ∧ mlk t fr = none ∧ callsOf (acts 6 gf d b) fr gf o.op = some (n, svs) ∧ gdrop t gf = some gf' := by
  unfold callC at h
  split at h
  · cases h
  · rename_i t' hd
    split at h
    · cases h
    · rename_i g hg
      split at h
      · split at h
        · rename_i n' s' hc
          cases hb : Nat.blt t' N with
          | false => rw [hb] at h; cases h
          | true => rw [hb] at h; simp at h
        · cases h
      · rename_i j' b' hgd
        split at h
        · rename_i d' hs hm
          split at h
          · rename_i n' s' hc
            cases hb : (Nat.blt t' N && !(Nat.beq t' d')) with
            | false => rw [hb] at h; cases h
            | true =>
              rw [hb] at h
              simp only [cond_true, Option.some.injEq, Prod.mk.injEq] at h
              obtain ⟨rfl, rfl, ⟨rfl, rfl, rfl⟩, rfl, rfl⟩ := h
              exact ⟨hgd, hs, hd, hb, hm, hc, hg⟩
          · cases h
        · cases h
/-- the memory that the callee is handed -/
theorem Mm.hand (m : Mm B E.r mu w H) {mu1 : Mu} (hro : roB (keysO mu1) mu1 = true) (hin : WkIn mu mu1) : Mm B (AllP E.r (keysO mu1) H) mu1 w (onlyK (keysO mu1) H) := by
  have get : ∀ {l : Mu} {k : Nat} {c : Ch}, WkIn mu l → mlk k l = some c → ∃ d, mlk k mu = some d ∧ (match c with
      | .ro sz n f => ∀ B r h s j, Ch.sat B r h j d → r.le s → h.le s → D.rd s (.sl sz n f) (B j)
      | .rrow l => ∀ B r h s j, Ch.sat B r h j d → r.le s → h.le s → Ch.sat B s PH.emp j (.rrow l)
      | c => d.imp c) := fun {l} => by
    induction l with
    | nil => intro k c _ h; cases h
    | cons x r ih =>
      intro k c hl h
      obtain ⟨j, d⟩ := x
      rw [mlk_cons] at h
      by_cases hj : j = k
      · rw [if_pos hj] at h; injection h with h; subst h; subst hj; exact hl.1
      · rw [if_neg hj] at h; exact ih hl.2 h
  have okey : ∀ {l : Mu} {k : Nat} {c : Ch}, mlk k l = some c → c.own? = true → hasK k (keysO l) = true := fun h o => keysO_has (mlk_mem h) o
  have fit : ∀ k, Fit (onlyK (keysO mu1) H k) w := fun k => by
    unfold onlyK
    cases hasK k (keysO mu1) with
    | true => exact m.fit k
    | false => exact Fit.emp w
  refine ⟨fun k c e => ?_, fit, fun j k h => ?_, fun k => ?_, AllP_fit m⟩
  · obtain ⟨d, h1, h2⟩ := get hin e
    have hs := m.sat k d h1
    have own : ∀ c : Ch, c.own? = true → mlk k mu1 = some c → d.imp c → c.sat B (AllP E.r (keysO mu1) H) (onlyK (keysO mu1) H k) k := fun c ho hk hi => by
      have h3 := hi _ _ _ _ hs
      have h4 : onlyK (keysO mu1) H k = H k := by unfold onlyK; rw [okey hk ho]; rfl
      rw [h4]
      cases c with
      | row l =>
        obtain ⟨b, o, vs, h', e1, e2, e3⟩ := h3
        exact ⟨b, o, vs, h', e1, V.owns_mono AllP_r (PH.le_refl _) e2, e3⟩
      | arr => exact h3
      | hole => exact h3
      | ro => cases ho
      | rrow => cases ho
    cases c with
    | ro sz n f =>
      have hko := roB_get hro k _ e rfl
      exact h2 _ _ _ _ _ hs AllP_r (AllP_le m hko)
    | rrow l =>
      have hko := roB_get hro k _ e rfl
      obtain ⟨b, o, vs, e1, e2, e3⟩ := h2 _ _ _ _ _ hs AllP_r (AllP_le m hko)
      exact ⟨b, o, vs, e1, e2, e3⟩
    | row l => exact own _ rfl e h2
    | arr sz n f => exact own _ rfl e h2
    | hole sz n f i k2 => exact own _ rfl e h2
  · unfold onlyK
    cases hasK j (keysO mu1) with
    | false => exact PH.emp_dj _
    | true => cases hasK k (keysO mu1) with
      | false => exact PH.dj_emp _
      | true => exact m.dj j k h
  · unfold onlyK
    cases hk : hasK k (keysO mu1) with
    | false => exact PH.emp_dj _
    | true => exact AllP_dj m hk
/-- the memory behind the call -/
theorem Mem.back (m : Mem E B mu w H) {mu1 mu1' mu2 md : Mu} {ks nk : List Nat} {B' : BE} {H' : Nat → PH} {w' : World}
    (hko : ∀ k, hasK k (keysO mu1) = true → hasK k ks = true) (hnk : keysOf mu1' = nk) (hin : muIn (appK ks nk) mu1' = true) (hfr : ∀ k, hasK k nk = true → hasK k ks = false → muAny (V.uses k) k mu = false ∧ hasK k E.A.ks = false)
    (hmd : mdropKs (appK (keysO mu1) nk) mu = some md) (hmu2 : appM mu1' md = mu2)
    (m' : Mm B' (AllP E.r (keysO mu1) H) mu1' w' H') (hB : ∀ k, hasK k ks = true → B' k = B k) (kp : Keep (ownD mu1 (onlyK (keysO mu1) H)) w w') (hn : ∀ k b o, H' k b o ≠ none → ownD mu1 (onlyK (keysO mu1) H) b o ∨ w.heap.size ≤ b) :
    Mem E (fun k => bif hasK k nk then B' k else B k) mu2 w' (fun k => bif hasK k nk then H' k else bif hasK k (keysO mu1) then PH.emp else H k) := by
  have hB2 : ∀ k, hasK k (appK ks nk) = true → (bif hasK k nk then B' k else B k) = B' k := fun k hk => by
    cases h : hasK k nk with
    | true => rfl
    | false =>
      rcases hasK_app.1 hk with h1 | h1
      · exact (hB k h1).symm
      · rw [h] at h1; cases h1
  have ownk : ∀ b o, ownD mu1 (onlyK (keysO mu1) H) b o → ∃ k, hasK k (keysO mu1) = true ∧ H k b o ≠ none := fun b o ⟨k, h1, h2⟩ => ⟨k, h1, by unfold onlyK at h2; rw [h1] at h2; exact h2⟩
  have out : ∀ g : PH, Fit g w → (∀ k, hasK k (keysO mu1) = true → (H k).dj g) → Fit g w' := fun g fg d => fg.keep kp fun b o e h2 => by
    obtain ⟨k, h1, h3⟩ := ownk b o h2
    rcases d k h1 b o with e2 | e2
    · exact h3 e2
    · exact e e2
  have djg : ∀ k (g : PH), Fit g w → (∀ j, hasK j (keysO mu1) = true → (H j).dj g) → (H' k).dj g := fun k g fg d b o => by
    cases e : g b o with
    | none => exact .inr rfl
    | some u =>
      left
      cases e2 : H' k b o with
      | none => rfl
      | some u2 =>
        rcases hn k b o (by rw [e2]; simp) with h3 | h3
        · obtain ⟨j, h4, h5⟩ := ownk b o h3
          rcases d j h4 b o with h6 | h6
          · exact absurd h6 h5
          · rw [e] at h6; cases h6
        · have := fg.lt (b := b) (o := o) (by rw [e]; simp)
          omega
  have djo : ∀ {i : Nat}, hasK i (keysO mu1) = false → ∀ j, hasK j (keysO mu1) = true → (H j).dj (H i) := fun {i} hi j hj => m.mm.dj j i fun e => by rw [e, hi] at hj; cases hj
  refine ⟨⟨fun k c e => ?_, fun k => ?_, fun i j hij => ?_, fun k => ?_, out _ m.mm.fitr fun k _ => m.mm.djr k⟩, ?_, fun k b o e => ?_, fun k hk => ?_⟩
  · subst hmu2
    rw [mlk_appM] at e
    cases c1 : mlk k mu1' with
    | some c' =>
      rw [c1] at e
      injection e with e
      subst e
      have hkn : hasK k nk = true := by rw [← hnk]; exact keysOf_has c1
      obtain ⟨g1, g2⟩ := muIn_get hin k _ c1
      simp only [hkn, cond_true]
      exact Ch.inKo_sat hB2 (by simp only [hkn, cond_true]) g1 g2 (m'.sat k _ c1)
    | none =>
      rw [c1] at e
      rw [mdropKs_spec hmd k] at e
      simp only [Option.none_or] at e
      split at e
      · cases e
      · rename_i hk
        have h1 : hasK k (keysO mu1) = false := by
          cases h : hasK k (keysO mu1) with
          | false => rfl
          | true => exact absurd (hasK_app.2 (.inl h)) hk
        have h2 : hasK k nk = false := by
          cases h : hasK k nk with
          | false => rfl
          | true => exact absurd (hasK_app.2 (.inr h)) hk
        simp only [h1, h2, cond_false]
        have hs := m.mm.sat k c e
        have hB3 : ∀ j, hasK j nk = true → hasK j ks = true → B' j = B j := fun j _ h => hB j h
        have row : ∀ φ : V → Bool, (∀ x, φ x = true ↔ ∃ j, hasK j nk = true ∧ hasK j ks = false ∧ x.usesB j = true) → anyL φ c.rowL = false := fun φ hφ => by
          have : ∀ l : List V, (∀ j, hasK j nk = true → hasK j ks = false → anyL (V.uses j) l = false) → anyL φ l = false := fun l => by
            induction l with
            | nil => intro _; rfl
            | cons x r ih =>
              intro h
              have hx : φ x = false := by
                cases hc : φ x with
                | false => rfl
                | true =>
                  obtain ⟨j, j1, j2, j3⟩ := (hφ x).1 hc
                  have := (uses_out (anyL_cons (h j j1 j2)).1).1
                  rw [this] at j3; cases j3
              simp only [anyL, hx, cond_false]
              exact ih fun j j1 j2 => (anyL_cons (h j j1 j2)).2
          refine this _ fun j j1 j2 => muAny_get (hfr j j1 j2).1 k c (fun e => ?_) e
          rw [e, j1] at h2; cases h2
        have hex : ∃ φ : V → Bool, ∀ x, φ x = true ↔ ∃ j, hasK j nk = true ∧ hasK j ks = false ∧ x.usesB j = true := by
          classical
          exact ⟨fun x => decide (∃ j, hasK j nk = true ∧ hasK j ks = false ∧ x.usesB j = true), fun x => by simp⟩
        obtain ⟨φ, hφ⟩ := hex
        have hrow := row φ hφ
        have agree : ∀ j, (hasK j nk = true ∧ hasK j ks = false) ∨ (bif hasK j nk then B' j else B j) = B j := fun j => by
          cases h3 : hasK j nk with
          | false => exact .inr rfl
          | true => cases h4 : hasK j ks with
            | false => exact .inl ⟨rfl, rfl⟩
            | true => exact .inr (hB j h4)
        have hb : ∀ {x : V} {j : Nat}, φ x = false → x.usesB j = true → (bif hasK j nk then B' j else B j) = B j := fun {x j} hx hj => by
          rcases agree j with h5 | h5
          · have := (hφ x).2 ⟨j, h5.1, h5.2, hj⟩
            rw [hx] at this; cases this
          · exact h5
        have beq (j : Nat) : Nat.beq j j = true := Nat.beq_refl j
        cases c with
        | row l =>
          obtain ⟨b, o, vs, h', e1, e2, e3⟩ := hs
          refine ⟨b, o, vs, h', by simp only [h2, cond_false]; exact e1, V.owns_congr (φ := φ) (fun x h y hx e => ?_) hrow e2, e3⟩
          cases x with
          | g j => exact ⟨by dsimp only; rw [hb hx (beq j)]; exact e.1, e.2⟩
          | p j o' => exact ⟨by dsimp only; rw [hb hx (beq j)]; exact e.1, e.2⟩
          | pe j sz i o' => exact ⟨by dsimp only; rw [hb hx (beq j)]; exact e.1, e.2⟩
          | sb j sz lo hi => exact ⟨by dsimp only; rw [hb hx (beq j)]; exact e.1, e.2⟩
          | gl j n => exact ⟨by dsimp only; rw [hb hx (beq j)]; exact e.1, e.2⟩
          | _ => exact e
        | rrow l =>
          obtain ⟨b, o, vs, e1, e2, e3⟩ := hs
          refine ⟨b, o, vs, by simp only [h2, cond_false]; exact e1, V.rels_congr (φ := φ) (fun x y hx e => ?_) hrow e2, e3⟩
          cases x with
          | g j => exact ⟨by dsimp only; rw [hb hx (beq j)]; exact e.1, e.2⟩
          | p j o' => exact ⟨by dsimp only; rw [hb hx (beq j)]; exact e.1, e.2⟩
          | pe j sz i o' => exact ⟨by dsimp only; rw [hb hx (beq j)]; exact e.1, e.2⟩
          | sb j sz lo hi => exact ⟨by dsimp only; rw [hb hx (beq j)]; exact e.1, e.2⟩
          | gl j n => exact ⟨by dsimp only; rw [hb hx (beq j)]; exact e.1, e.2⟩
          | _ => exact e
        | arr sz n f => show D.own _ _ (bif hasK k nk then B' k else B k); rw [h2]; exact hs
        | ro sz n f => show D.rd _ _ (bif hasK k nk then B' k else B k); rw [h2]; exact hs
        | hole sz n f i k2 =>
          obtain ⟨A, c, e1, e2, e3, e4, e5, e6⟩ := hs
          have hx := (anyL_cons (φ := φ) hrow).1
          exact ⟨A, c, by simp only [h2, cond_false]; exact e1, e2, e3, e4, by simp only [h2, cond_false]; rw [hb hx (beq k2)]; exact e5, e6⟩
  · cases h2 : hasK k nk with
    | true => exact m'.fit k
    | false =>
      cases h1 : hasK k (keysO mu1) with
      | true => exact Fit.emp w'
      | false => exact out _ (m.mm.fit k) (djo h1)
  · cases a1 : hasK i nk with
    | true =>
      cases a2 : hasK j nk with
      | true => exact m'.dj i j hij
      | false => cases a3 : hasK j (keysO mu1) with
        | true => exact PH.dj_emp _
        | false => exact djg i _ (m.mm.fit j) (djo a3)
    | false => cases a4 : hasK i (keysO mu1) with
      | true => exact PH.emp_dj _
      | false => cases a2 : hasK j nk with
        | true => exact PH.dj_symm (djg j _ (m.mm.fit i) (djo a4))
        | false => cases a3 : hasK j (keysO mu1) with
          | true => exact PH.dj_emp _
          | false => exact m.mm.dj i j hij
  · cases a1 : hasK k nk with
    | true => exact djg k _ m.mm.fitr fun j _ => m.mm.djr j
    | false => cases a3 : hasK k (keysO mu1) with
      | true => exact PH.emp_dj _
      | false => exact m.mm.djr k
  · exact m.keep.trans kp fun b o h => by
      obtain ⟨k, h1, h3⟩ := ownk b o h
      exact m.dom k b o h3
  · cases a1 : hasK k nk with
    | true =>
      rw [a1] at e
      rcases hn k b o e with h3 | h3
      · obtain ⟨j, h4, h5⟩ := ownk b o h3
        exact m.dom j b o h5
      · exact .inr (Nat.le_trans m.keep.size h3)
    | false =>
      rw [a1] at e
      cases a3 : hasK k (keysO mu1) with
      | true => rw [a3] at e; exact absurd rfl e
      | false => rw [a3] at e; exact m.dom k b o e
  · cases a1 : hasK k nk with
    | false => exact m.anch k hk
    | true =>
      cases a2 : hasK k ks with
      | true => rw [show (bif true then B' k else B k) = B' k from rfl, hB k a2]; exact m.anch k hk
      | false =>
        have := (hfr k a1 a2).2
        rw [hk] at this; cases this
/-- frames behind a call -/
theorem FitsE.back (f : FitsE E B H fr gf a) {ko nk ks : List Nat} {B' : BE} {H' : Nat → PH} (hko : ∀ k, hasK k ko = true → hasK k ks = true) (hB : ∀ k, hasK k ks = true → B' k = B k) (hfr : ∀ k, hasK k nk = true → hasK k ks = false → frAny (V.uses k) fr = false ∧ gfAny (V.uses k) gf = false) (hnko : ∀ k, hasK k nk = true → hasK k ks = true → hasK k ko = true) (hcut : cutKs ko fr gf = some (fr', gf')) :
    FitsE E (fun k => bif hasK k nk then B' k else B k) (fun k => bif hasK k nk then H' k else bif hasK k ko then PH.emp else H k) fr' gf' a := by
  have hex : ∃ φ : V → Bool, ∀ x, φ x = true ↔ ∃ j, hasK j nk = true ∧ hasK j ks = false ∧ x.uses j = true := by
    classical
    exact ⟨fun x => decide (∃ j, hasK j nk = true ∧ hasK j ks = false ∧ x.uses j = true), fun x => by simp⟩
  obtain ⟨φ, hφ⟩ := hex
  have outx : ∀ {x : V}, φ x = false → ∀ j, hasK j nk = true → hasK j ks = false → x.uses j = false := fun {x} hx j h1 h2 => by
    cases h : x.uses j with
    | false => rfl
    | true => rw [(hφ x).2 ⟨j, h1, h2, h⟩] at hx; cases hx
  have all : ∀ x : V, (∀ j, hasK j nk = true → hasK j ks = false → x.uses j = false) → φ x = false := fun x h => by
    cases c : φ x with
    | false => rfl
    | true =>
      obtain ⟨j, h1, h2, h3⟩ := (hφ x).1 c
      rw [h j h1 h2] at h3; cases h3
  have allL : ∀ l : List V, (∀ j, hasK j nk = true → hasK j ks = false → anyL (V.uses j) l = false) → anyL φ l = false := fun l => by
    induction l with
    | nil => intro _; rfl
    | cons x r ih =>
      intro h
      simp only [anyL, all x fun j h1 h2 => (anyL_cons (h j h1 h2)).1, cond_false]
      exact ih fun j h1 h2 => (anyL_cons (h j h1 h2)).2
  have allS : ∀ x : SV, (∀ j, hasK j nk = true → hasK j ks = false → x.anyV (V.uses j) = false) → x.anyV φ = false := by
    intro x
    refine SV.rec (motive_1 := fun x => (∀ j, hasK j nk = true → hasK j ks = false → x.anyV (V.uses j) = false) → x.anyV φ = false) (motive_2 := fun l => (∀ j, hasK j nk = true → hasK j ks = false → SV.anyV.go (V.uses j) l = false) → SV.anyV.go φ l = false) ?_ ?_ ?_ ?_ ?_ ?_ ?_ ?_ x
    · exact fun x h => all x h
    · exact fun l h => allL l h
    · exact fun f l h => allL l h
    · exact fun _ _ => rfl
    · exact fun l ih h => ih h
    · exact fun _ => rfl
    · exact fun _ => rfl
    · intro x l h1 h2 h
      have g : ∀ j, hasK j nk = true → hasK j ks = false → x.anyV (V.uses j) = false ∧ SV.anyV.go (V.uses j) l = false := fun j h3 h4 => by
        have := h j h3 h4
        simp only [SV.anyV.go] at this
        cases c : x.anyV (V.uses j) with
        | true => rw [c] at this; cases this
        | false => rw [c] at this; exact ⟨rfl, this⟩
      simp only [SV.anyV.go, h1 fun j h3 h4 => (g j h3 h4).1, cond_false]
      exact h2 fun j h3 h4 => (g j h3 h4).2
  have hfa : frAny φ fr = false := by
    have : ∀ l : Fr, (∀ j, hasK j nk = true → hasK j ks = false → frAny (V.uses j) l = false) → frAny φ l = false := fun l => by
      induction l with
      | nil => intro _; rfl
      | cons x r ih =>
        intro h
        have g : ∀ j, hasK j nk = true → hasK j ks = false → x.2.anyV (V.uses j) = false ∧ frAny (V.uses j) r = false := fun j h3 h4 => by
          have := h j h3 h4
          simp only [frAny] at this
          cases c : x.2.anyV (V.uses j) with
          | true => rw [c] at this; cases this
          | false => rw [c] at this; exact ⟨rfl, this⟩
        simp only [frAny, allS x.2 fun j h3 h4 => (g j h3 h4).1, cond_false]
        exact ih fun j h3 h4 => (g j h3 h4).2
    exact this fr fun j h1 h2 => (hfr j h1 h2).1
  have hga : gfAny φ gf = false := by
    have : ∀ l : GF, (∀ j, hasK j nk = true → hasK j ks = false → gfAny (V.uses j) l = false) → gfAny φ l = false := fun l => by
      induction l with
      | nil => intro _; rfl
      | cons x r ih =>
        intro h
        obtain ⟨t, d, w, x⟩ := x
        have g : ∀ j, hasK j nk = true → hasK j ks = false → x.anyV (V.uses j) = false ∧ gfAny (V.uses j) r = false := fun j h3 h4 => by
          have := h j h3 h4
          simp only [gfAny] at this
          cases c : x.anyV (V.uses j) with
          | true => rw [c] at this; cases this
          | false => rw [c] at this; exact ⟨rfl, this⟩
        simp only [gfAny, allS x fun j h3 h4 => (g j h3 h4).1, cond_false]
        exact ih fun j h3 h4 => (g j h3 h4).2
    exact this gf fun j h1 h2 => (hfr j h1 h2).2
  have beq (j : Nat) : Nat.beq j j = true := Nat.beq_refl j
  have uB : ∀ {x : V} {j : Nat}, x.usesB j = true → x.uses j = true := fun {x j} h => by unfold V.uses; rw [h]; rfl
  have uT : ∀ {x : V} {j : Nat}, x.usesT j = true → x.uses j = true := fun {x j} h => by unfold V.uses; rw [h]; cases x.usesB j <;> rfl
  have hb : ∀ {x : V} {j : Nat}, φ x = false → x.usesB j = true → (bif hasK j nk then B' j else B j) = B j := fun {x j} hx hj => by
    cases h3 : hasK j nk with
    | false => rfl
    | true => cases h4 : hasK j ks with
      | true => exact hB j h4
      | false => have := outx hx j h3 h4; rw [uB hj] at this; cases this
  have f1 : Fits E.P (fun k => bif hasK k nk then B' k else B k) (Zf E.r fun k => bif (hasK k nk && !hasK k ks) then H' k else H k) E.N fr gf a := Fits.keep f hfa hga (PH.le_refl _) fun x y hx e => by
    have hz : ∀ q : Tg, (∀ j, q = .k j → x.usesT j = true) → Zf E.r (fun k => bif (hasK k nk && !hasK k ks) then H' k else H k) q = Zf E.r H q := fun q hq => by
      cases q with
      | k j =>
        show (bif (hasK j nk && !hasK j ks) then H' j else H j) = H j
        cases h3 : hasK j nk with
        | false => rfl
        | true => cases h4 : hasK j ks with
          | true => rfl
          | false => have := outx hx j h3 h4; rw [uT (hq j rfl)] at this; cases this
      | _ => rfl
    cases x with
    | g j => exact ⟨by dsimp only; rw [hb hx (beq j)]; exact e.1, e.2⟩
    | p j o' => exact ⟨by dsimp only; rw [hb hx (beq j)]; exact e.1, e.2⟩
    | pe j sz i o' => exact ⟨by dsimp only; rw [hb hx (beq j)]; exact e.1, e.2⟩
    | sb j sz lo hi => exact ⟨by dsimp only; rw [hb hx (beq j)]; exact e.1, e.2⟩
    | gl j n => exact ⟨by dsimp only; rw [hb hx (beq j)]; exact e.1, e.2⟩
    | s q sz n f => show D.rd (Zf E.r _ q) _ _; rw [hz q fun j hj => by subst hj; exact beq j]; exact e
    | rp q l o => show ∃ b x vs, _ = _ ∧ D.rds (Zf E.r _ q) l vs ∧ _; rw [hz q fun j hj => by subst hj; exact beq j]; exact e
    | _ => exact e
  have key : ∀ (x : V) (y : Value), V.usesTs ko x = false → x.rel (fun k => bif hasK k nk then B' k else B k) (Zf E.r fun k => bif (hasK k nk && !hasK k ks) then H' k else H k) y → x.rel (fun k => bif hasK k nk then B' k else B k) (Zf E.r fun k => bif hasK k nk then H' k else bif hasK k ko then PH.emp else H k) y := fun x y hx e => by
    have hz : ∀ q : Tg, (∀ j, q = .k j → hasK j ko = false) → Zf E.r (fun k => bif hasK k nk then H' k else bif hasK k ko then PH.emp else H k) q = Zf E.r (fun k => bif (hasK k nk && !hasK k ks) then H' k else H k) q := fun q hq => by
      cases q with
      | k j =>
        show (bif hasK j nk then H' j else bif hasK j ko then PH.emp else H j) = (bif (hasK j nk && !hasK j ks) then H' j else H j)
        have h1 := hq j rfl
        cases h3 : hasK j nk with
        | false => rw [h1]; rfl
        | true => cases h4 : hasK j ks with
          | false => rfl
          | true => have := hnko j h3 h4; rw [h1] at this; cases this
      | _ => rfl
    cases x with
    | s q sz n f => show D.rd (Zf E.r _ q) _ _; rw [hz q fun j hj => by subst hj; exact hx]; exact e
    | rp q l o => show ∃ b x vs, _ = _ ∧ D.rds (Zf E.r _ q) l vs ∧ _; rw [hz q fun j hj => by subst hj; exact hx]; exact e
    | _ => exact e
  cases ko with
  | nil =>
    simp only [cutKs, Option.some.injEq, Prod.mk.injEq] at hcut
    obtain ⟨rfl, rfl⟩ := hcut
    have nofr : ∀ x : V, V.usesTs [] x = false := fun x => by
      cases x with
      | s q _ _ _ => cases q <;> rfl
      | rp q _ _ => cases q <;> rfl
      | _ => rfl
    have nL : ∀ l : List V, anyL (V.usesTs []) l = false := fun l => by
      induction l with
      | nil => rfl
      | cons x r ih => simp only [anyL, nofr x, cond_false, ih]
    have nS : ∀ x : SV, x.anyV (V.usesTs []) = false := fun x => by
      refine SV.rec (motive_1 := fun x => x.anyV (V.usesTs []) = false) (motive_2 := fun l => SV.anyV.go (V.usesTs []) l = false) ?_ ?_ ?_ ?_ ?_ ?_ ?_ ?_ x
      · exact fun x => nofr x
      · exact fun l => nL l
      · exact fun f l => nL l
      · exact fun _ => rfl
      · exact fun l ih => ih
      · rfl
      · rfl
      · intro x l h1 h2
        simp only [SV.anyV.go, h1, cond_false]; exact h2
    have nF : ∀ l : Fr, frAny (V.usesTs []) l = false := fun l => by
      induction l with
      | nil => rfl
      | cons x r ih => simp only [frAny, nS x.2, cond_false, ih]
    have nG : ∀ l : GF, gfAny (V.usesTs []) l = false := fun l => by
      induction l with
      | nil => rfl
      | cons x r ih => obtain ⟨t, d, w, x⟩ := x; simp only [gfAny, nS x, cond_false, ih]
    exact Fits.keep f1 (nF _) (nG _) (PH.le_refl _) key
  | cons k0 ko =>
    simp only [cutKs] at hcut
    split at hcut
    · rename_i fr2 gf2 h1 h2
      simp only [Option.some.injEq, Prod.mk.injEq] at hcut
      obtain ⟨rfl, rfl⟩ := hcut
      exact Fits.cut f1 h1 h2 (PH.le_refl _) key
    · cases hcut
def subB (l m : List Nat) : Bool := match l with
  | [] => true
  | k :: r => bif hasK k m then subB r m else false
theorem subB_get : ∀ {l m : List Nat}, subB l m = true → ∀ k, hasK k l = true → hasK k m = true
  | [], _, _, _, h => by cases h
  | j :: r, m, h, k, e => by
    simp only [subB] at h
    cases c : hasK j m with
    | false => rw [c] at h; cases h
    | true =>
      rw [c] at h
      rcases (hasK_cons k j r).1 e with h1 | h1
      · subst h1; exact c
      · exact subB_get h k h1
/-- keys of nk that are in ks are owned -/
def backB (ko ks : List Nat) : List Nat → Bool
  | [] => true
  | k :: r => bif hasK k ks then bif hasK k ko then backB ko ks r else false else backB ko ks r
theorem backB_get {ko ks : List Nat} : ∀ {l : List Nat}, backB ko ks l = true → ∀ k, hasK k l = true → hasK k ks = true → hasK k ko = true
  | [], _, _, h, _ => by cases h
  | j :: r, h, k, e, n => by
    simp only [backB] at h
    rcases (hasK_cons k j r).1 e with h1 | h1
    · subst h1
      rw [n] at h
      cases c : hasK j ko with
      | true => rfl
      | false => rw [c] at h; cases h
    · refine backB_get ?_ k h1 n
      cases c : hasK j ks with
      | false => rw [c] at h; exact h
      | true =>
        rw [c] at h
        cases c2 : hasK j ko with
        | false => rw [c2] at h; cases h
        | true => rw [c2] at h; exact h
/-- the call's keys in order -/
def keysB (ks nk : List Nat) (mu1 : Mu) (fr : Fr) (gf : GF) (mu : Mu) (aks gks : List Nat) : Bool :=
  roB (keysO mu1) mu1 && subB (keysO mu1) ks && freshB ks fr gf mu aks nk && backB (keysO mu1) ks nk && apartB gks nk && apartB gks (keysO mu1)
/-- what a call, or an operation like one, has come to -/
structure Ret1 {ι : Type} (P : Program) (ks : List Nat) (B : BE) (s : PH) (mu1 : Mu) (w : World) (H1 : Nat → PH) (φ : ι → Prop) (res : ι → SV) (mu1' : ι → Mu) (y : ι) (v : Value) (w' : World) (B' : BE) (H' : Nat → PH) : Prop where
  ok : φ y
  rel : SV.rel P B' (Zf s H') (res y) v
  mm : Mm B' s (mu1' y) w' H'
  same : ∀ k, hasK k ks = true → B' k = B k
  keep : Keep (ownD mu1 H1) w w'
  dom : ∀ k b o, H' k b o ≠ none → ownD mu1 H1 b o ∨ w.heap.size ≤ b
theorem back_J {ι : Type} {ks nk : List Nat} {mu1 : Mu} {φ : ι → Prop} {res : ι → SV} {mu1' : ι → Mu} {t : Nat} {md : Mu} (hgd' : gdrop t gf = some gf') (ht : t < E.N) (f : FitsE E B H fr gf a) (m : Mem E B mu w H) (gg : G.ok B H)
    (hnk : ∀ y, keysOf (mu1' y) = nk) (hkeys : keysB ks nk mu1 fr gf mu E.A.ks G.ks = true) (hout : ∀ y, ((res y).inK (appK ks nk) && muIn (appK ks nk) (mu1' y)) = true)
    (hmd : mdropKs (appK (keysO mu1) nk) mu = some md) {fr' : Fr} {gf2 : GF} (hcut : cutKs (keysO mu1) fr gf' = some (fr', gf2))
    (k : ∀ y, φ y → SJ G J E ((t, res y) :: fr') gf2 (appM (mu1' y) md)) {y : ι} {v : Value} {w' : World} {B' : BE} {H' : Nat → PH} (C : Ret1 E.P ks B (AllP E.r (keysO mu1) H) mu1 w (onlyK (keysO mu1) H) φ res mu1' y v w' B' H') : J (a.put (some t) v) w' := by
  simp only [keysB, Bool.and_eq_true] at hkeys
  obtain ⟨⟨⟨⟨⟨k1, k2⟩, k3⟩, k4⟩, k5⟩, k6⟩ := hkeys
  obtain ⟨c1, c3, c4, c5, c6, c7⟩ := C
  have hout' := hout y
  simp only [Bool.and_eq_true] at hout'
  have hfr : ∀ k, hasK k nk = true → hasK k ks = false → unnamed k fr gf mu E.A.ks = true := fun k h1 h2 => freshB_get k3 k h1 h2
  have hm2 := m.back (mu1' := mu1' y) (mu2 := appM (mu1' y) md) (subB_get k2) (hnk y) hout'.2 (fun k h1 h2 => ⟨(unnamed_spec (hfr k h1 h2)).2.2.1, (unnamed_spec (hfr k h1 h2)).2.2.2⟩) hmd rfl c4 c5 c6 c7
  have hf0 : FitsE E B H fr gf' a := by
    refine ⟨f.size, f.defers, fun t' x e1 e2 => ?_, fun t' d w x e1 e2 => f.vgf t' d w x (gdrop_mem hgd' e1).1 e2, fun t' d w x e1 e2 => f.vgu t' d w x (gdrop_mem hgd' e1).1 e2, fun t' d w x e1 => f.vno t' d w x (gdrop_mem hgd' e1).1⟩
    refine f.vfr t' x e1 ?_
    cases c : glk t' gf with
    | none => rfl
    | some q => rw [f.vno t' q.1 q.2.1 q.2.2 (glk_mem c)] at e1; cases e1
  have hgf' : ∀ k, gfAny (V.uses k) gf = false → gfAny (V.uses k) gf' = false := fun k h => by
    have : ∀ {l l' : GF}, gdrop t l = some l' → gfAny (V.uses k) l = false → gfAny (V.uses k) l' = false := fun {l} => by
      induction l with
      | nil => intro l' h1 _; simp [gdrop] at h1; subst h1; rfl
      | cons x r ih =>
        intro l' h1 h2
        obtain ⟨j, d, w, x⟩ := x
        simp only [gdrop] at h1
        simp only [gfAny] at h2
        cases c : gdrop t r with
        | none => rw [c] at h1; cases h1
        | some r' =>
          rw [c] at h1
          simp only at h1
          cases c2 : x.anyV (V.uses k) with
          | true => rw [c2] at h2; cases h2
          | false =>
            rw [c2] at h2
            cases c3 : (Nat.beq j t || Nat.beq d t) with
            | true => rw [c3] at h1; simp at h1; subst h1; exact ih c h2
            | false => rw [c3] at h1; simp at h1; subst h1; simp only [gfAny, c2, cond_false]; exact ih c h2
    exact this hgd' h
  have hf2 := FitsE.back (H' := H') hf0 (subB_get k2) c5 (fun k h1 h2 => ⟨(unnamed_spec (hfr k h1 h2)).1, hgf' k (unnamed_spec (hfr k h1 h2)).2.1⟩) (backB_get k4) hcut
  have hB2 : ∀ k, hasK k (appK ks nk) = true → (bif hasK k nk then B' k else B k) = B' k := fun k hk => by
    cases h : hasK k nk with
    | true => rfl
    | false =>
      rcases hasK_app.1 hk with h1 | h1
      · exact (c5 k h1).symm
      · rw [h] at h1; cases h1
  have hgd2 : ∃ l, gdrop t gf2 = some l := by
    have : ∀ l : GF, ∃ l', gdrop t l = some l' := fun l => by
      induction l with
      | nil => exact ⟨_, rfl⟩
      | cons x r ih =>
        obtain ⟨j, d, w, x⟩ := x
        obtain ⟨l', h⟩ := ih
        simp only [gdrop, h]
        cases (Nat.beq j t || Nat.beq d t) <;> exact ⟨_, rfl⟩
    exact this gf2
  have hgd3 : gdrop t gf2 = some gf2 := by
    have nomem : ∀ {l : GF}, (∀ e ∈ l, e.1 ≠ t ∧ e.2.1 ≠ t) → gdrop t l = some l := fun {l} => by
      induction l with
      | nil => intro _; rfl
      | cons x r ih =>
        intro h
        obtain ⟨j, d, w, x⟩ := x
        have h0 := h _ List.mem_cons_self
        simp only [gdrop, ih fun e he => h e (List.mem_cons_of_mem _ he)]
        have e1 : Nat.beq j t = false := by
          cases c : Nat.beq j t with
          | false => rfl
          | true => exact absurd (Nat.eq_of_beq_eq_true c) h0.1
        have e2 : Nat.beq d t = false := by
          cases c : Nat.beq d t with
          | false => rfl
          | true => exact absurd (Nat.eq_of_beq_eq_true c) h0.2
        simp [e1, e2]
    refine nomem fun e he => ?_
    have hg0 : ∀ e ∈ gf', e.1 ≠ t ∧ e.2.1 ≠ t := fun e he => (gdrop_mem hgd' he).2
    cases hko : keysO mu1 with
    | nil =>
      rw [hko] at hcut
      simp only [cutKs, Option.some.injEq, Prod.mk.injEq] at hcut
      rw [← hcut.2] at he
      exact hg0 e he
    | cons k0 ko =>
      rw [hko] at hcut
      simp only [cutKs] at hcut
      split at hcut
      · rename_i fr3 gf3 h1 h2
        simp only [Option.some.injEq, Prod.mk.injEq] at hcut
        rw [← hcut.2] at he
        obtain ⟨j, d, w, x⟩ := e
        obtain ⟨y, h3, _⟩ := gfCut_mem h2 j d w x he
        have h4 := hg0 (j, d, w, y) h3
        exact h4
      · cases hcut
  refine k y c1 _ _ w' _ (Fits.put hf2 ht (SV.inK_rel (fun k hk => hB2 k hk) (res y) hout'.1 c3) hgd3) hm2 fun j hj => ?_
  have h1 : hasK j nk = false := by
    cases c : hasK j nk with
    | false => rfl
    | true => have := apartB_get k5 j c; rw [hj] at this; cases this
  have h2 : hasK j (keysO mu1) = false := by
    cases c : hasK j (keysO mu1) with
    | false => rfl
    | true => have := apartB_get k6 j c; rw [hj] at this; cases this
  simp only [h1, h2, cond_false]
  exact gg j hj
theorem resS_inK {ks : List Nat} : ∀ {l : List SV}, SV.inKL ks l = true → (resS l).inK ks = true
  | [], _ => rfl
  | [x], h => by
    simp only [SV.inKL] at h
    cases c : x.inK ks with
    | true => exact c
    | false => rw [c] at h; cases h
  | _ :: _ :: _, h => h
theorem OJ_C {ι : Type} {f : Nat} {ks nk : List Nat} {args : List SV} {mu1 : Mu} {φ : ι → Prop} {res : ι → List SV} {mu1' : ι → Mu} (C : Con E.P f ks args mu1 φ res mu1') {svs args' : List SV} {g : Option (Nat × Nat × Bool)} {t : Nat} {q : Ob} {es : List Prop} {gs : List GO} {md : Mu}
    (hc : callC E.N all fr gf o = some (f, svs, g, t, gf')) (hg : litG fr gf g) (hen : Enters E.P f)
    (hw : wkSL mu (keysO mu1) ks svs = some (args', q)) (ha : SVs.imp E.P args' args) (hs : splitO fr gf [] q [] [] = some (es, gs)) (he : PAlls es) (ho : GAlls gs) (hin : WkIn mu mu1)
    (hnk : ∀ y, keysOf (mu1' y) = nk) (hkeys : keysB ks nk mu1 fr gf mu E.A.ks G.ks = true) (hout : ∀ y, (SV.inKL (appK ks nk) (res y) && muIn (appK ks nk) (mu1' y)) = true)
    (hmd : mdropKs (appK (keysO mu1) nk) mu = some md) {fr' : Fr} {gf2 : GF} (hcut : cutKs (keysO mu1) fr gf' = some (fr', gf2))
    (k : ∀ y, φ y → SJ G J E ((t, resS (res y)) :: fr') gf2 (appM (mu1' y) md)) : OJ G E all Q J o fr gf mu := fun B a w H f m gg => by
  have hk2 := hkeys
  simp only [keysB, Bool.and_eq_true] at hk2
  have k1 := hk2.1.1.1.1.1
  have main : ∀ {gd : Gd}, (∀ d w, (d, w) ∈ gd → a.tmps.getD d undef = .bool w) → callsOf gd fr gf o.op = some (_, svs) → o.dst = some t → t < E.N → gdrop t gf = some gf' → Region.wanted o (yielded all.toArray a.tmps) = true → One E.P all.toArray Q o J a w := fun {gd} hgd hcall hd ht hgd' hwant => by
    obtain ⟨vals, r1, r2⟩ := callsOf_run (w := w) f hgd hcall hen
    have hh := m.mm.hand k1 hin
    have W : Wk B E.r mu H (keysO mu1) (AllP E.r (keysO mu1) H) := ⟨m.mm.sat, AllP_r, fun k c _ h => AllP_le m.mm h⟩
    have hvals := SVs.imp_ok ha (wkSL_ok (Z := Zf (AllP E.r (keysO mu1) H) (onlyK (keysO mu1) H)) W rfl hw (splitO_ok f (fun _ _ hm => by cases hm) hs he ho) r2)
    refine one_call hwant r1 ((C B _ w _ vals hh (fun k hk => by unfold onlyK; rw [hk]; rfl) hvals).mono fun e w' ⟨y, B', H', out, c1, c2, c3, c4, c5, c6, c7⟩ => ⟨resV out, c2, ?_⟩)
    rw [hd]
    exact back_J hgd' ht f m gg hnk hkeys (fun y => by
      have := hout y
      simp only [Bool.and_eq_true] at this ⊢
      exact ⟨resS_inK this.1, this.2⟩) hmd hcut k ⟨c1, resS_rel c3, c4, c5, c6, c7⟩
  match g, hc, hg with
  | none, hc, _ =>
    obtain ⟨h1, h2, h3, h4, h5⟩ := callC_none hc
    exact main (gd := []) (fun _ _ hm => by cases hm) h4 h2 (by simpa [Nat.blt_eq] using h3) h5 (wanted_none h1)
  | some (j, d, b), hc, hg =>
    obtain ⟨h1, h2, h3, h4, h5, h6, h7⟩ := callC_some hc
    simp only [Bool.and_eq_true, Bool.not_eq_true'] at h4
    have hb : a.tmps.getD d undef = .bool b := f.vfr d _ hg.2 hg.1
    exact main (acts_ok f 6 d b hb) h6 h3 (by simpa [Nat.blt_eq] using h4.1) h7 ((wanted_some h1 (gslot_ops h2)).2 hb)
end
end Go.Proofs.YtiegllklalplnaaGreat
