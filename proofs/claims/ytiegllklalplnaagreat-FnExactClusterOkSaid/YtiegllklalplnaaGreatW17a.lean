
/-
  Views: the same memory, told otherwise; loops whose frames keep what is not turned.
-/
import Derived.Test.YtiegllklalplnaaGreatW17
namespace Go.Proofs.YtiegllklalplnaaGreat
open Go Go.RowKit
set_option linter.unusedVariables false
set_option linter.unusedSimpArgs false

/-- the same world and slots, told otherwise -/
def View (E : Env) (fr : Fr) (gf : GF) (mu : Mu) (fr' : Fr) (gf' : GF) (mu' : Mu) : Prop :=
  ∀ B w H a, FitsE E B H fr gf a → Mem E B mu w H → ∃ B' H', FitsE E B' H' fr' gf' a ∧ Mem E B' mu' w H'
def PH.sub (h p : PH) : PH := fun b o => match p b o with
  | some _ => none
  | none => h b o
theorem PH.sub_le (h p : PH) : (h.sub p).le h := fun b o v e => by
  unfold PH.sub at e
  split at e
  · cases e
  · exact e
theorem PH.sub_mono {h k : PH} (l : h.le k) (p : PH) : (h.sub p).le (k.sub p) := fun b o v e => by
  unfold PH.sub at e ⊢
  cases c : p b o with
  | some u => rw [c] at e; cases e
  | none => rw [c] at e; exact l b o v e
theorem PH.sub_dj (h p : PH) : (h.sub p).dj p := fun b o => by
  unfold PH.sub
  cases p b o with
  | none => exact .inr rfl
  | some v => exact .inl rfl
theorem PH.le_sub {h p k : PH} (l : k.le h) (d : k.dj p) : k.le (h.sub p) := fun b o v e => by
  unfold PH.sub
  rcases d b o with h1 | h1
  · rw [h1] at e; cases e
  · rw [h1]; exact l b o v e
section
variable {E : Env} {B : BE} {mu mu' : Mu} {w : World} {H : Nat → PH} {TT : List TI} {fr fr' : Fr} {gf gf' : GF} {a : Act} {all rest : List Oper} {Q : Exit → Act → World → Prop} {o : Oper} {J : Act → World → Prop} {G : AG} {R : Exit → Act → World → Prop} {K : List KF}
theorem T_view {c : Code} (v : View E fr [] mu fr' [] mu') (h : T E R c fr' mu' K) : T E R c fr mu K := fun B a w H f m => by
  obtain ⟨B', H', f', m'⟩ := v B w H a f m
  exact h B' a w H' f' m'
theorem RJ_view (v : View E fr gf mu fr' gf' mu') (h : RJ E all Q rest fr' gf' mu') : RJ E all Q rest fr gf mu := fun B a w H f m => by
  obtain ⟨B', H', f', m'⟩ := v B w H a f m
  exact h B' a w H' f' m'
theorem X_view {x : Nx} (v : View E fr [] mu fr' [] mu') (h : X E R x fr' mu') : X E R x fr mu := fun B a w H f m => by
  obtain ⟨B', H', f', m'⟩ := v B w H a f m
  exact h B' a w H' f' m'
/-! ### a row's slice is told as a chunk of its own -/
/-- cell j of a row holds an owned slice: key k2 stands for it from now on -/
def openR (k2 : Nat) : List V → Nat → Option (List V × Nat × Nat × (Nat → List D))
  | .s .o sz n f :: r, 0 => some (.g k2 :: r, sz, n, f)
  | x :: r, j + 1 => match openR k2 r j with
    | some (l, sz, n, f) => some (x :: l, sz, n, f)
    | none => none
  | _, _ => none
theorem openR_ok {r : PH} {k2 : Nat} : ∀ {l : List V} {j : Nat} {l' : List V} {sz n : Nat} {f : Nat → List D}, openR k2 l j = some (l', sz, n, f) → ∀ {h : PH} {vs : List Value}, V.owns B r h l vs →
    ∃ v p, p.le h ∧ D.own p (.sl sz n f) v ∧ (∀ B' : BE, (∀ i, anyL (V.usesB i) l = true → B' i = B i) → B' k2 = v → V.owns B' r (h.sub p) l' vs)
  | [], j, _, _, _, _, e, _, _, _ => by cases j <;> simp [openR] at e
  | x :: l, 0, l', sz, n, f, e, h, vs, o => by
    cases x with
    | s q sz' n' f' =>
      cases q with
      | o =>
        simp [openR] at e
        obtain ⟨rfl, rfl, rfl, rfl⟩ := e
        obtain ⟨v, t, h1, h2, rfl, e2, e3, e4, e5, e6⟩ := o
        rcases e5 with ⟨_, e5⟩ | ⟨e5, _⟩
        · refine ⟨v, h1, e2, e5, fun B' hB hk => ⟨v, t, PH.emp, h2, rfl, PH.emp_le _, PH.le_sub e3 (PH.dj_symm e4), PH.emp_dj _, ⟨hk.symm, ?_⟩, ?_⟩⟩
          · obtain ⟨A, c, rfl, _⟩ := e5; rfl
          · have : ∀ {l : List V} {t : List Value} {h : PH}, (∀ i, anyL (V.usesB i) l = true → B' i = B i) → V.owns B r h l t → V.owns B' r h l t := fun {l} => by
              induction l with
              | nil => intro t h _ e; exact e
              | cons x l ih =>
                rintro t h hB ⟨v, t', g1, g2, rfl, k2, k3, k4, k5, k6⟩
                refine ⟨v, t', g1, g2, rfl, k2, k3, k4, ?_, ih (fun i hi => hB i (by simp only [anyL, hi]; cases V.usesB i x <;> rfl)) k6⟩
                have hx : ∀ i, V.usesB i x = true → B' i = B i := fun i hi => hB i (by simp only [anyL, hi]; rfl)
                cases x with
                | g j => exact ⟨by rw [hx j (Nat.beq_refl j)]; exact k5.1, k5.2⟩
                | p j o => exact ⟨by rw [hx j (Nat.beq_refl j)]; exact k5.1, k5.2⟩
                | pe j sz i o => exact ⟨by rw [hx j (Nat.beq_refl j)]; exact k5.1, k5.2⟩
                | sb j sz lo hi => exact ⟨by rw [hx j (Nat.beq_refl j)]; exact k5.1, k5.2⟩
                | gl j n => exact ⟨by rw [hx j (Nat.beq_refl j)]; exact k5.1, k5.2⟩
                | _ => exact k5
            exact this (fun i hi => hB i (by simp only [anyL, hi]; rfl)) e6
        · cases e5
      | _ => simp [openR] at e
    | _ => simp [openR] at e
  | x :: l, j + 1, l', sz, n, f, e, h, vs, o => by
    simp only [openR] at e
    split at e
    · rename_i l2 sz2 n2 f2 e1
      simp at e
      obtain ⟨rfl, rfl, rfl, rfl⟩ := e
      obtain ⟨v, t, h1, h2, rfl, e2, e3, e4, e5, e6⟩ := o
      obtain ⟨u, p, g1, g2, g3⟩ := openR_ok e1 e6
      refine ⟨u, p, PH.le_trans g1 e3, g2, fun B' hB hk => ⟨v, t, h1, h2.sub p, rfl, PH.le_sub e2 (PH.dj_le e4 (PH.le_refl _) g1), ?_, PH.dj_le e4 (PH.le_refl _) (PH.sub_le _ _), ?_, g3 B' (fun i hi => hB i (by simp only [anyL, hi]; cases V.usesB i x <;> rfl)) hk⟩⟩
      · exact PH.sub_mono e3 p
      · have hx : ∀ i, V.usesB i x = true → B' i = B i := fun i hi => hB i (by simp only [anyL, hi]; rfl)
        cases x with
        | g j => exact ⟨by rw [hx j (Nat.beq_refl j)]; exact e5.1, e5.2⟩
        | p j o => exact ⟨by rw [hx j (Nat.beq_refl j)]; exact e5.1, e5.2⟩
        | pe j sz i o => exact ⟨by rw [hx j (Nat.beq_refl j)]; exact e5.1, e5.2⟩
        | sb j sz lo hi => exact ⟨by rw [hx j (Nat.beq_refl j)]; exact e5.1, e5.2⟩
        | gl j n => exact ⟨by rw [hx j (Nat.beq_refl j)]; exact e5.1, e5.2⟩
        | _ => exact e5
    · cases e
theorem openR_uses {k2 : Nat} : ∀ {l : List V} {j : Nat} {l' : List V} {sz n : Nat} {f : Nat → List D}, openR k2 l j = some (l', sz, n, f) → l'.length = l.length
  | [], j, _, _, _, _, e => by cases j <;> simp [openR] at e
  | x :: l, 0, l', sz, n, f, e => by
    cases x with
    | s q sz' n' f' =>
      cases q with
      | o => simp [openR] at e; obtain ⟨rfl, rfl, rfl, rfl⟩ := e; rfl
      | _ => simp [openR] at e
    | _ => simp [openR] at e
  | x :: l, j + 1, l', sz, n, f, e => by
    simp only [openR] at e
    split at e
    · rename_i l2 sz2 n2 f2 e1
      simp at e
      obtain ⟨rfl, rfl, rfl, rfl⟩ := e
      simp [openR_uses e1]
    · cases e
/-- two chunks are laid at once, out of one -/
theorem Mem.split (m : Mem E B mu w H) {k k2 : Nat} {c c2 : Ch} {mu1 : Mu} (hne : k2 ≠ k) (hmu : mset k c mu = some mu1) (hmu2 : mset k2 c2 mu1 = some mu') {v : Value} (hU : muAny (V.usesB k2) k2 mu = false ∧ hasK k2 E.A.ks = false) {h1 h2 : PH} (l1 : h1.le (H k)) (l2 : h2.le (H k)) (hd : h1.dj h2)
    (s1 : c.sat (BE.set B k2 v) E.r h1 k) (s2 : c2.sat (BE.set B k2 v) E.r h2 k2) : Mem E (BE.set B k2 v) mu' w (HF.set (HF.set H k h1) k2 h2) := by
  have hH : ∀ j, j ≠ k2 → j ≠ k → HF.set (HF.set H k h1) k2 h2 j = H j := fun j a b => by rw [HF.set_ne _ _ a, HF.set_ne _ _ b]
  have hk : HF.set (HF.set H k h1) k2 h2 k = h1 := by rw [HF.set_ne _ _ (Ne.symm hne), HF.set_eq]
  have hk2 : HF.set (HF.set H k h1) k2 h2 k2 = h2 := HF.set_eq _ _ _
  have le : ∀ j, j ≠ k2 → (HF.set (HF.set H k h1) k2 h2 j).le (H j) := fun j a => by
    by_cases b : j = k
    · subst b; rw [hk]; exact l1
    · rw [hH j a b]; exact PH.le_refl _
  refine ⟨⟨fun j d e => ?_, fun j => ?_, fun i j hij => ?_, fun j => ?_, m.mm.fitr⟩, m.keep, fun j b o e => ?_, fun j hj => ?_⟩
  · rw [mset_spec hmu2 j, mset_spec hmu j] at e
    by_cases a1 : j = k2
    · subst a1; rw [if_pos rfl] at e; injection e with e; subst e; rw [hk2]; exact s2
    · rw [if_neg a1] at e
      by_cases a2 : j = k
      · subst a2; rw [if_pos rfl] at e; injection e with e; subst e; rw [hk]; exact s1
      · rw [if_neg a2] at e
        rw [hH j a1 a2]
        exact Ch.sat_setB v a1 (muAny_get hU.1 j d a1 e) (m.mm.sat j d e)
  · by_cases a1 : j = k2
    · subst a1; rw [hk2]; exact (m.mm.fit k).le l2
    · exact (m.mm.fit j).le (le j a1)
  · by_cases a1 : i = k2 <;> by_cases a2 : j = k2
    · exact absurd (a1.trans a2.symm) hij
    · subst a1; rw [hk2]
      by_cases a3 : j = k
      · subst a3; rw [hk]; exact PH.dj_symm hd
      · rw [hH j a2 a3]; exact PH.dj_le (m.mm.dj k j (Ne.symm a3)) l2 (PH.le_refl _)
    · subst a2; rw [hk2]
      by_cases a3 : i = k
      · subst a3; rw [hk]; exact hd
      · rw [hH i a1 a3]; exact PH.dj_symm (PH.dj_le (m.mm.dj k i (Ne.symm a3)) l2 (PH.le_refl _))
    · exact PH.dj_le (m.mm.dj i j hij) (le i a1) (le j a2)
  · by_cases a1 : j = k2
    · subst a1; rw [hk2]; exact PH.dj_le (m.mm.djr k) l2 (PH.le_refl _)
    · exact PH.dj_le (m.mm.djr j) (le j a1) (PH.le_refl _)
  · by_cases a1 : j = k2
    · subst a1; rw [hk2] at e; exact m.dom k b o (le_ne l2 e)
    · exact m.dom j b o (le_ne (le j a1) e)
  · have : j ≠ k2 := fun e => by rw [e, hU.2] at hj; cases hj
    rw [BE.set_ne B v this]; exact m.anch j hj
theorem FitsE.split (f : FitsE E B H fr gf a) {k k2 : Nat} {v : Value} {h1 h2 : PH} (hf : frAny (V.uses k2) fr = false) (hg : gfAny (V.uses k2) gf = false) (c1 : frCut (V.usesT k) fr = some fr') (c2 : gfCut (V.usesT k) gf = some gf') : FitsE E (BE.set B k2 v) (HF.set (HF.set H k h1) k2 h2) fr' gf' a := by
  have f1 := FitsE.anew f h1 c1 c2
  rw [BE.set_self] at f1
  refine FitsE.new f1 v h2 ?_ ?_
  · have : ∀ {l l' : Fr}, frCut (V.usesT k) l = some l' → frAny (V.uses k2) l = false → frAny (V.uses k2) l' = false := fun {l} => by
      induction l with
      | nil => intro l' e _; simp [frCut] at e; subst e; rfl
      | cons x r ih =>
        intro l' e h
        obtain ⟨t, x⟩ := x
        simp only [frCut] at e
        simp only [frAny] at h
        cases c : frCut (V.usesT k) r with
        | none => rw [c] at e; cases e
        | some r' =>
          rw [c] at e
          simp only at e
          cases c3 : x.anyV (V.uses k2) with
          | true => rw [c3] at h; cases h
          | false =>
            rw [c3] at h
            cases c4 : x.anyV (V.usesT k) with
            | true => rw [c4] at e; simp at e; subst e; simp only [frAny]; exact ih c h
            | false => rw [c4] at e; simp at e; subst e; simp only [frAny, c3, cond_false]; exact ih c h
    exact this c1 hf
  · have : ∀ {l l' : GF}, gfCut (V.usesT k) l = some l' → gfAny (V.uses k2) l = false → gfAny (V.uses k2) l' = false := fun {l} => by
      induction l with
      | nil => intro l' e _; simp [gfCut] at e; subst e; rfl
      | cons x r ih =>
        intro l' e h
        obtain ⟨t, d, w, x⟩ := x
        simp only [gfCut] at e
        simp only [gfAny] at h
        cases c : gfCut (V.usesT k) r with
        | none => rw [c] at e; cases e
        | some r' =>
          rw [c] at e
          simp only at e
          cases c3 : x.anyV (V.uses k2) with
          | true => rw [c3] at h; cases h
          | false =>
            rw [c3] at h
            cases c4 : x.anyV (V.usesT k) with
            | true => rw [c4] at e; simp at e; subst e; simp only [gfAny]; exact ih c h
            | false => rw [c4] at e; simp at e; subst e; simp only [gfAny, c3, cond_false]; exact ih c h
    exact this c2 hg
/-- chunk k's cell j is told as chunk k2 -/
theorem V_open (k j k2 : Nat) {l l' : List V} {sz n : Nat} {f : Nat → List D} {mu1 : Mu} (hk : mlk k mu = some (.row l)) (ho : openR k2 l j = some (l', sz, n, f)) (hmu : mset k (.row l') mu = some mu1) (hmu2 : mset k2 (.arr sz n f) mu1 = some mu') (c1 : frCut (V.usesT k) fr = some fr') (c2 : gfCut (V.usesT k) gf = some gf') (hu : (unnamed k2 fr gf mu E.A.ks && !anyL (V.usesB k2) l && !Nat.beq k2 k) = true := by exact rfl) : View E fr gf mu fr' gf' mu' := fun B w H a ff m => by
  simp only [Bool.and_eq_true, Bool.not_eq_true'] at hu
  obtain ⟨⟨u1, u2⟩, u3⟩ := hu
  obtain ⟨g1, g2, g3, g4⟩ := unnamed_spec u1
  have hne : k2 ≠ k := beq_ne u3
  obtain ⟨b, off, vs, h', e1, e2, e3, e4⟩ := m.mm.sat k _ hk
  obtain ⟨v, p, p1, p2, p3⟩ := openR_ok ho e2
  have hlen := openR_uses ho
  have hB : ∀ i, anyL (V.usesB i) l = true → BE.set B k2 v i = B i := fun i hi => by
    by_cases h : i = k2
    · subst h; rw [u2] at hi; cases hi
    · exact BE.set_ne B v h
  have hm := m.split (h1 := (H k).sub p) (h2 := p) (v := v) hne hmu hmu2 ⟨muAny_mono (fun x hx => (uses_out hx).1) g3, g4⟩ (PH.sub_le _ _) (PH.le_trans p1 e3) (PH.sub_dj _ _) ?_ ?_
  · exact ⟨_, _, FitsE.split ff g1 g2 c1 c2, hm⟩
  · refine ⟨b, off, vs, h'.sub p, by rw [BE.set_ne B v (Ne.symm hne)]; exact e1, p3 _ hB (BE.set_eq B k2 v), PH.sub_mono e3 p, fun j hj => ?_⟩
    rw [hlen] at hj
    obtain ⟨q1, q2⟩ := e4 j hj
    have hp : p b (off + j) = none := by
      cases c : p b (off + j) with
      | none => rfl
      | some u => rw [p1 _ _ _ c] at q2; cases q2
    exact ⟨by unfold PH.sub; rw [hp]; exact q1, by unfold PH.sub; rw [hp]; exact q2⟩
  · show D.own p _ (BE.set B k2 v k2)
    rw [BE.set_eq]; exact p2
end
end Go.Proofs.YtiegllklalplnaaGreat
