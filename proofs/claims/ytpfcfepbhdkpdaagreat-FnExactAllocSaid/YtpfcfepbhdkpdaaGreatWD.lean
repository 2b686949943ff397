
/-
  Calls that only answer; calls, and on.
  Views: the same memory, told otherwise; loops whose frames keep what is not turned.
  Views, continued: a chunk goes back into its row; an element is told as a row of its own; keys are exchanged.
-/
import Derived.Test.YtpfcfepbhdkpdaaGreatWC
namespace Go.Proofs.YtpfcfepbhdkpdaaGreat
open Go Go.RowKit
set_option linter.unusedVariables false
set_option linter.unusedSimpArgs false

section
/-- a call that answers, and changes nothing -/
abbrev Ans (P : Program) (f : Nat) (ks : List Nat) (args : List SV) (mu : Mu) (res : SV) : Prop := Con P f ks args mu (fun _ : Unit => True) (fun _ => [res]) fun _ => []
theorem Keep.none {D : Nat → Nat → Prop} {w w' : World} (h : Keep D w w') (n : ∀ b o, ¬ D b o) : Below w.heap.size w w' := (h.mono fun b _ o hd => (n b o hd).elim : Keep noD w w').below
section
variable {E : Env} {B : BE} {mu mu' : Mu} {w : World} {H : Nat → PH} {TT : List TI} {fr fr' : Fr} {gf gf' : GF} {a : Act} {all rest : List Oper} {Q : Exit → Act → World → Prop} {o : Oper} {J : Act → World → Prop} {G : AG} {R : Exit → Act → World → Prop} {K : List KF}
theorem Con.ask {P : Program} {f : Nat} {ks : List Nat} {args : List SV} {mu1 : Mu} {res : SV} (C : Ans P f ks args mu1 res) (hko : keysO mu1 = []) (hres : res.inK ks = true) {B : BE} {s : PH} {w : World} {vals : List Value} (hf : Fit s w) (hs : ∀ k c, mlk k mu1 = some c → c.sat B s PH.emp k) (ha : SV.rels P B (Zf s fun _ => PH.emp) args vals) :
    Calls P f vals.toArray w fun e w' => ∃ v, e = .returned v ∧ (∀ Z, SV.rel P B Z res v) ∧ Below w.heap.size w w' := by
  refine (C B s w (fun _ => PH.emp) vals ⟨hs, fun _ => FitO.emp w, fun _ _ _ => PH.emp_dj _, fun _ => PH.emp_dj _, hf⟩ (fun _ _ => rfl) ha).mono ?_
  rintro e w' ⟨y, B', H', out, _, h2, h3, _, h5, h6, _⟩
  obtain ⟨v, t, rfl, h7, h8⟩ := h3
  have h8 : t = [] := h8
  subst h8
  exact ⟨v, h2, fun Z => SV.inK_rel (fun k hk => (h5 k hk).symm) res hres h7, Keep.none h6 fun b o ⟨k, h, _⟩ => by rw [hko] at h; cases h⟩
/-- what is read from memory: r and the chunks of mu, in one -/
noncomputable def ReadP (r : PH) (mu : Mu) (H : Nat → PH) : PH := fun b o => match r b o with
  | some v => some v
  | none => open Classical in if h : ∃ v k, (∃ c, mlk k mu = some c) ∧ H k b o = some v then some h.choose else none
theorem ReadP_fit {r : PH} (m : Mr B r mu w H) : Fit (ReadP r mu H) w := fun b o v e => by
  unfold ReadP at e
  cases hr : r b o with
  | some u => rw [hr] at e; injection e with e; subst e; exact m.fitr b o _ hr
  | none =>
    rw [hr] at e
    simp only at e
    split at e
    · rename_i h
      injection e with e
      obtain ⟨k, ⟨c, hc⟩, hk⟩ := h.choose_spec
      rw [e] at hk
      exact m.fit k c hc b o v hk
    · cases e
theorem ReadP_le {r : PH} (m : Mr B r mu w H) {k : Nat} {c : Ch} (hc : mlk k mu = some c) : (H k).le (ReadP r mu H) := fun b o v e => by
  have hr : r b o = none := (m.djr k b o).resolve_left (by rw [e]; simp)
  have h : ∃ v k, (∃ c, mlk k mu = some c) ∧ H k b o = some v := ⟨v, k, ⟨c, hc⟩, e⟩
  unfold ReadP
  rw [hr]
  simp only
  rw [dif_pos h]
  obtain ⟨k', _, hk⟩ := h.choose_spec
  by_cases hkk : k' = k
  · subst hkk; rw [e] at hk; injection hk with hk; rw [hk]
  · rcases m.dj k' k hkk b o with h1 | h1
    · rw [h1] at hk; cases hk
    · rw [h1] at e; cases e
theorem ReadP_r {r : PH} : r.le (ReadP r mu H) := fun b o v e => by
  unfold ReadP
  rw [e]
/-- the memory that an answering callee is handed -/
theorem Mr.hand {r : PH} (m : Mr B r mu w H) : ∀ {mu1 : Mu}, keysO mu1 = [] → WkIn mu mu1 → ∀ k c, mlk k mu1 = some c → c.sat B (ReadP r mu H) PH.emp k
  | [], _, _, k, c, h => by cases h
  | (j, d) :: l, ho, hin, k, c, h => by
    rw [mlk_cons] at h
    have hd : d.own? = false ∧ keysO l = [] := by
      simp only [keysO] at ho
      cases e : d.own? with
      | true => rw [e] at ho; cases ho
      | false => rw [e] at ho; exact ⟨rfl, ho⟩
    by_cases hj : j = k
    · rw [if_pos hj] at h
      injection h with h; subst h; subst hj
      obtain ⟨⟨c0, h1, h2⟩, _⟩ := hin
      have hs := m.sat j c0 h1
      cases d with
      | ro sz n f => exact h2 _ _ _ _ _ hs ReadP_r (ReadP_le m h1)
      | rrow l => exact h2 _ _ _ _ _ hs ReadP_r (ReadP_le m h1)
      | _ => cases hd.1
    · rw [if_neg hj] at h
      exact m.hand hd.2 hin.2 k c h
/-- the call, in every world in which the memory lies so -/
theorem ans_run {P : Program} {r : PH} {f : Nat} {ks : List Nat} {args : List SV} {mu1 : Mu} {res : SV} (C : Ans P f ks args mu1 res) (hko : keysO mu1 = []) (hres : res.inK ks = true) (m : Mr B r mu w H) {svs args' : List SV} {q : Ob} (hw : wkSL mu [] ks svs = some (args', q)) (ha : SVs.imp P args' args) (hq : Alls q) (hin : WkIn mu mu1) {vals : List Value} (hv : SV.rels P B (Zf r H) svs vals) :
    Calls P f vals.toArray w fun e w' => ∃ v, e = .returned v ∧ (∀ Z, SV.rel P B Z res v) ∧ Below w.heap.size w w' := by
  have W : Wk B r mu H [] (ReadP r mu H) := ⟨m.sat, ReadP_r, fun k c hc _ => ReadP_le m hc⟩
  exact C.ask hko hres (ReadP_fit m) (m.hand hko hin) (SVs.imp_ok ha (wkSL_ok (Z := Zf (ReadP r mu H) fun _ => PH.emp) W rfl hw hq hv))
theorem OJ_Q {f : Nat} {ks : List Nat} {args : List SV} {mu1 : Mu} {res : SV} (C : Ans E.P f ks args mu1 res) {svs args' : List SV} {g : Option (Nat × Nat × Bool)} {t : Nat} {q : Ob} {gd : Gd} {es : List Prop} {gs : List GO}
    (hc : callC E.N all fr gf o = some (f, svs, g, t, gf')) (hgd : gd = match g with | none => [] | some (_, d, b) => acts 6 gf d b) (hen : Enters E.P f) (hko : keysO mu1 = []) (hres : res.inK ks = true)
    (hw : wkSL mu [] ks svs = some (args', q)) (ha : SVs.imp E.P args' args) (hs : splitO fr gf gd q [] [] = some (es, gs)) (he : PAlls es) (ho : GAlls gs) (hin : WkIn mu mu1)
    (k : SJ G J E (frQ fr g t res) (gfQ gf' g t res) mu) : OJ G E all Q J o fr gf mu := fun B a w H f m gg => by
  match g, hc, hgd with
  | none, hc, hgd =>
    subst hgd
    obtain ⟨h1, h2, h3, h4, h5⟩ := callC_none hc
    obtain ⟨vals, r1, r2⟩ := callsOf_run (w := w) f (fun _ _ hm => by cases hm) h4 hen
    refine one_call (wanted_none h1) r1 ((ans_run C hko hres m.mr hw ha (splitO_ok f (fun _ _ hm => by cases hm) hs he ho) hin r2).mono fun e w' ⟨v, c1, c2, c3⟩ => ⟨v, c1, ?_⟩)
    rw [h2]
    exact k B _ w' H (Fits.put f (by simpa [Nat.blt_eq] using h3) (c2 _) h5) (m.below c3) gg
  | some (j, d, b), hc, hgd =>
    subst hgd
    obtain ⟨h1, h2, h3, h4, h5, h6, h7⟩ := callC_some hc
    simp only [Bool.and_eq_true, Bool.not_eq_true'] at h4
    have htd : t ≠ d := Nat.ne_of_beq_eq_false h4.2
    have htN : t < E.N := by simpa [Nat.blt_eq] using h4.1
    have hwt := wanted_some (ops := all.toArray) (a := a) h1 (gslot_ops h2)
    by_cases hyes : a.tmps.getD d undef = .bool b
    · have hacts := acts_ok f 6 d b hyes
      obtain ⟨vals, r1, r2⟩ := callsOf_run (w := w) f hacts h6 hen
      refine one_call (hwt.2 hyes) r1 ((ans_run C hko hres m.mr hw ha (splitO_ok f hacts hs he ho) hin r2).mono fun e w' ⟨v, c1, c2, c3⟩ => ⟨v, c1, ?_⟩)
      rw [h3]
      exact k B _ w' H (Fits.putG f htN htd h5 h7 (.inl ⟨hyes, c2 _⟩)) (m.below c3) gg
    · refine one_off (by
        cases e : Region.wanted o (yielded all.toArray a.tmps) with
        | false => rfl
        | true => exact absurd (hwt.1 e) hyes) ?_
      rw [h3]
      exact k B _ w H (Fits.putG f htN htd h5 h7 (.inr ⟨hyes, rfl⟩)) m gg
/-- a call that answers, and on -/
theorem RJ_Q (hT : TOk E.P TT) {f : Nat} {ks : List Nat} {args : List SV} {mu1 : Mu} {res : SV} (C : Ans E.P f ks args mu1 res) {svs args' : List SV} {g : Option (Nat × Nat × Bool)} {t : Nat} {q : Ob} {es0 : List Prop} {gs0 : List GO} {js : JS} {es : List Prop} {gs : List GO}
    (hc : callC E.N all fr gf o = some (f, svs, g, t, gf')) (hw : wkSL mu [] ks svs = some (args', q)) (ha : args' = args) (hs : splitO fr gf (match g with | none => [] | some (_, d, b) => acts 6 gf d b) q [] [] = some (es0, gs0))
    (hau : goR TT E.N E.A.ks (auto TT E.N E.A.ks 400) all rest (frQ fr g t res) (gfQ gf' g t res) mu K es0 gs0 = some (js, es, gs)) (k : js.ok E R)
    (hko : keysO mu1 = [] := by exact rfl) (hres : res.inK ks = true := by exact rfl) (hin : WkIn mu mu1 := by repeat (first | exact trivial | refine And.intro ⟨_, rfl, ro_arr⟩ ?_ | refine And.intro ⟨_, rfl, ro_ro⟩ ?_ | refine And.intro ⟨_, rfl, ro_row⟩ ?_ | refine And.intro ⟨_, rfl, Ch.imp_refl _⟩ ?_)) (hen : Enters E.P f := by exact enters_B (by kernel_rfl)) (he : PAlls es := by repeat (first | exact trivial | refine And.intro rfl ?_)) (ho : GAlls gs := by first | exact trivial | ((simp only [GAlls, GO.p, InR]; (repeat' (first | exact trivial | refine And.intro ?_ ?_ | refine fun _ => ?_)) <;> first | omega | (simp only [decide_eq_true_eq, decide_eq_false_iff_not, Int.toNat_natCast] at *; omega) | (simp at *; omega)))) :
    RJ E all (KQ E.P R K) (o :: rest) fr gf mu := by
  obtain ⟨h1, h2⟩ := goR_ok hT (auto_ok hT 400) hau ⟨he, ho⟩
  subst ha
  exact RJ_of (OJ_Q C hc rfl hen hko hres hw (SVs.imp_refl _) hs h1.1 h1.2 hin (SJ_of (h2 k)))
/-- the same, obligations left open -/
theorem RJ_QO (hT : TOk E.P TT) {f : Nat} {ks : List Nat} {args : List SV} {mu1 : Mu} {res : SV} (C : Ans E.P f ks args mu1 res) {svs args' : List SV} {g : Option (Nat × Nat × Bool)} {t : Nat} {q : Ob} {es0 : List Prop} {gs0 : List GO} {js : JS} {es : List Prop} {gs : List GO}
    (hc : callC E.N all fr gf o = some (f, svs, g, t, gf')) (hw : wkSL mu [] ks svs = some (args', q)) (ha : SVs.imp E.P args' args) (hs : splitO fr gf (match g with | none => [] | some (_, d, b) => acts 6 gf d b) q [] [] = some (es0, gs0))
    (hau : goR TT E.N E.A.ks (auto TT E.N E.A.ks 400) all rest (frQ fr g t res) (gfQ gf' g t res) mu K es0 gs0 = some (js, es, gs)) (ho : GAlls gs) (k : js.ok E R)
    (hko : keysO mu1 = [] := by exact rfl) (hres : res.inK ks = true := by exact rfl) (hin : WkIn mu mu1 := by repeat (first | exact trivial | refine And.intro ⟨_, rfl, ro_arr⟩ ?_ | refine And.intro ⟨_, rfl, ro_ro⟩ ?_ | refine And.intro ⟨_, rfl, ro_row⟩ ?_ | refine And.intro ⟨_, rfl, Ch.imp_refl _⟩ ?_)) (hen : Enters E.P f := by exact enters_B (by kernel_rfl)) (he : PAlls es := by repeat (first | exact trivial | refine And.intro rfl ?_)) :
    RJ E all (KQ E.P R K) (o :: rest) fr gf mu := by
  obtain ⟨h1, h2⟩ := goR_ok hT (auto_ok hT 400) hau ⟨he, ho⟩
  exact RJ_of (OJ_Q C hc rfl hen hko hres hw ha hs h1.1 h1.2 hin (SJ_of (h2 k)))
/-- any call, and on -/
theorem RJ_C (hT : TOk E.P TT) {ι : Type} {f : Nat} {ks nk : List Nat} {args : List SV} {mu1 : Mu} {φ : ι → Prop} {res : ι → List SV} {mu1' : ι → Mu} (C : Con E.P f ks args mu1 φ res mu1') {svs args' : List SV} {g : Option (Nat × Nat × Bool)} {t : Nat} {q : Ob} {es : List Prop} {gs : List GO} {md : Mu}
    (hc : callC E.N all fr gf o = some (f, svs, g, t, gf')) (hw : wkSL mu (keysO mu1) ks svs = some (args', q)) (ha : SVs.imp E.P args' args) (hnk : ∀ y, keysOf (mu1' y) = nk) (hs : splitO fr gf [] q [] [] = some (es, gs)) (hmd : mdropKs (appK (keysO mu1) nk) mu = some md) {fr' : Fr} {gf2 : GF} (hcut : cutKs (keysO mu1) fr gf' = some (fr', gf2))
    (k : ∀ y, φ y → RJ E all (KQ E.P R K) rest ((t, resS (res y)) :: fr') gf2 (appM (mu1' y) md))
    (hin : WkIn mu mu1 := by repeat (first | exact trivial | refine And.intro ⟨_, rfl, ro_arr⟩ ?_ | refine And.intro ⟨_, rfl, ro_ro⟩ ?_ | refine And.intro ⟨_, rfl, ro_row⟩ ?_ | refine And.intro ⟨_, rfl, Ch.imp_refl _⟩ ?_)) (hg : litG fr gf g := by first | exact trivial | exact ⟨rfl, rfl⟩) (hkeys : keysB ks nk mu1 fr gf mu E.A.ks [] = true := by exact rfl) (hout : ∀ y, (SV.inKL (appK ks nk) (res y) && muIn (appK ks nk) (mu1' y)) = true := by exact fun _ => rfl) (hen : Enters E.P f := by exact enters_B (by kernel_rfl)) (he : PAlls es := by repeat (first | exact trivial | refine And.intro rfl ?_)) (ho : GAlls gs := by first | exact trivial | ((simp only [GAlls, GO.p, InR]; (repeat' (first | exact trivial | refine And.intro ?_ ?_ | refine fun _ => ?_)) <;> first | omega | (simp only [decide_eq_true_eq, decide_eq_false_iff_not, Int.toNat_natCast] at *; omega) | (simp at *; omega)))) :
    RJ E all (KQ E.P R K) (o :: rest) fr gf mu :=
  RJ_of (OJ_C (G := AG.nil) C hc hg hen hw ha hs he ho hin hnk hkeys hout hmd hcut fun y hy => SJ_of (k y hy))
end
end

section
/-- the same world and slots, told otherwise -/
def View (E : Env) (fr : Fr) (gf : GF) (mu : Mu) (fr' : Fr) (gf' : GF) (mu' : Mu) : Prop :=
  ∀ B w H a, FitsE E B H fr gf a → Mem E B mu w H → ∃ B' H', FitsE E B' H' fr' gf' a ∧ Mem E B' mu' w H'
def PH.sub (h p : PH) : PH := fun b o => match p b o with
  | some _ => none
  | none => h b o
theorem PH.sub_le (h p : PH) : (h.sub p).le h := fun b o v e => by
  unfold PH.sub at e
  split at e
  · cases e
  · exact e
theorem PH.sub_mono {h k : PH} (l : h.le k) (p : PH) : (h.sub p).le (k.sub p) := fun b o v e => by
  unfold PH.sub at e ⊢
  cases c : p b o with
  | some u => rw [c] at e; cases e
  | none => rw [c] at e; exact l b o v e
theorem PH.sub_dj (h p : PH) : (h.sub p).dj p := fun b o => by
  unfold PH.sub
  cases p b o with
  | none => exact .inr rfl
  | some v => exact .inl rfl
theorem PH.le_sub {h p k : PH} (l : k.le h) (d : k.dj p) : k.le (h.sub p) := fun b o v e => by
  unfold PH.sub
  rcases d b o with h1 | h1
  · rw [h1] at e; cases e
  · rw [h1]; exact l b o v e
section
variable {E : Env} {B : BE} {mu mu' : Mu} {w : World} {H : Nat → PH} {TT : List TI} {fr fr' : Fr} {gf gf' : GF} {a : Act} {all rest : List Oper} {Q : Exit → Act → World → Prop} {o : Oper} {J : Act → World → Prop} {G : AG} {R : Exit → Act → World → Prop} {K : List KF}
theorem T_view {c : Code} (v : View E fr [] mu fr' [] mu') (h : T E R c fr' mu' K) : T E R c fr mu K := fun B a w H f m => by
  obtain ⟨B', H', f', m'⟩ := v B w H a f m
  exact h B' a w H' f' m'
theorem RJ_view (v : View E fr gf mu fr' gf' mu') (h : RJ E all Q rest fr' gf' mu') : RJ E all Q rest fr gf mu := fun B a w H f m => by
  obtain ⟨B', H', f', m'⟩ := v B w H a f m
  exact h B' a w H' f' m'
theorem X_view {x : Nx} (v : View E fr [] mu fr' [] mu') (h : X E R x fr' mu') : X E R x fr mu := fun B a w H f m => by
  obtain ⟨B', H', f', m'⟩ := v B w H a f m
  exact h B' a w H' f' m'
/-! ### a row's slice is told as a chunk of its own -/
/-- cell j of a row holds an owned slice: key k2 stands for it from now on -/
def openR (k2 : Nat) : List V → Nat → Option (List V × Nat × Nat × (Nat → List D))
  | .s .o sz n f :: r, 0 => some (.g k2 :: r, sz, n, f)
  | x :: r, j + 1 => match openR k2 r j with
    | some (l, sz, n, f) => some (x :: l, sz, n, f)
    | none => none
  | _, _ => none
theorem openR_ok {r : PH} {k2 : Nat} : ∀ {l : List V} {j : Nat} {l' : List V} {sz n : Nat} {f : Nat → List D}, openR k2 l j = some (l', sz, n, f) → ∀ {h : PH} {vs : List Value}, V.owns B r h l vs →
    ∃ v p, p.le h ∧ D.own p (.sl sz n f) v ∧ (∀ B' : BE, (∀ i, anyL (V.usesB i) l = true → B' i = B i) → B' k2 = v → V.owns B' r (h.sub p) l' vs)
  | [], j, _, _, _, _, e, _, _, _ => by cases j <;> simp [openR] at e
  | x :: l, 0, l', sz, n, f, e, h, vs, o => by
    cases x with
    | s q sz' n' f' =>
      cases q with
      | o =>
        simp [openR] at e
        obtain ⟨rfl, rfl, rfl, rfl⟩ := e
        obtain ⟨v, t, h1, h2, rfl, e2, e3, e4, e5, e6⟩ := o
        rcases e5 with ⟨_, e5⟩ | ⟨e5, _⟩
        · refine ⟨v, h1, e2, e5, fun B' hB hk => ⟨v, t, PH.emp, h2, rfl, PH.emp_le _, PH.le_sub e3 (PH.dj_symm e4), PH.emp_dj _, ⟨hk.symm, ?_⟩, ?_⟩⟩
          · obtain ⟨A, c, rfl, _⟩ := e5; rfl
          · have : ∀ {l : List V} {t : List Value} {h : PH}, (∀ i, anyL (V.usesB i) l = true → B' i = B i) → V.owns B r h l t → V.owns B' r h l t := fun {l} => by
              induction l with
              | nil => intro t h _ e; exact e
              | cons x l ih =>
                rintro t h hB ⟨v, t', g1, g2, rfl, k2, k3, k4, k5, k6⟩
                refine ⟨v, t', g1, g2, rfl, k2, k3, k4, ?_, ih (fun i hi => hB i (by simp only [anyL, hi]; cases V.usesB i x <;> rfl)) k6⟩
                have hx : ∀ i, V.usesB i x = true → B' i = B i := fun i hi => hB i (by simp only [anyL, hi]; rfl)
                cases x with
                | g j => exact ⟨by rw [hx j (Nat.beq_refl j)]; exact k5.1, k5.2⟩
                | p j o => exact ⟨by rw [hx j (Nat.beq_refl j)]; exact k5.1, k5.2⟩
                | pe j sz i o => exact ⟨by rw [hx j (Nat.beq_refl j)]; exact k5.1, k5.2⟩
                | sb j sz lo hi => exact ⟨by rw [hx j (Nat.beq_refl j)]; exact k5.1, k5.2⟩
                | gl j n c => exact ⟨by rw [hx j (Nat.beq_refl j)]; exact k5.1, k5.2⟩
                | _ => exact k5
            exact this (fun i hi => hB i (by simp only [anyL, hi]; rfl)) e6
        · cases e5
      | _ => simp [openR] at e
    | _ => simp [openR] at e
  | x :: l, j + 1, l', sz, n, f, e, h, vs, o => by
    simp only [openR] at e
    split at e
    · rename_i l2 sz2 n2 f2 e1
      simp at e
      obtain ⟨rfl, rfl, rfl, rfl⟩ := e
      obtain ⟨v, t, h1, h2, rfl, e2, e3, e4, e5, e6⟩ := o
      obtain ⟨u, p, g1, g2, g3⟩ := openR_ok e1 e6
      refine ⟨u, p, PH.le_trans g1 e3, g2, fun B' hB hk => ⟨v, t, h1, h2.sub p, rfl, PH.le_sub e2 (PH.dj_le e4 (PH.le_refl _) g1), ?_, PH.dj_le e4 (PH.le_refl _) (PH.sub_le _ _), ?_, g3 B' (fun i hi => hB i (by simp only [anyL, hi]; cases V.usesB i x <;> rfl)) hk⟩⟩
      · exact PH.sub_mono e3 p
      · have hx : ∀ i, V.usesB i x = true → B' i = B i := fun i hi => hB i (by simp only [anyL, hi]; rfl)
        cases x with
        | g j => exact ⟨by rw [hx j (Nat.beq_refl j)]; exact e5.1, e5.2⟩
        | p j o => exact ⟨by rw [hx j (Nat.beq_refl j)]; exact e5.1, e5.2⟩
        | pe j sz i o => exact ⟨by rw [hx j (Nat.beq_refl j)]; exact e5.1, e5.2⟩
        | sb j sz lo hi => exact ⟨by rw [hx j (Nat.beq_refl j)]; exact e5.1, e5.2⟩
        | gl j n c => exact ⟨by rw [hx j (Nat.beq_refl j)]; exact e5.1, e5.2⟩
        | _ => exact e5
    · cases e
theorem openR_uses {k2 : Nat} : ∀ {l : List V} {j : Nat} {l' : List V} {sz n : Nat} {f : Nat → List D}, openR k2 l j = some (l', sz, n, f) → l'.length = l.length
  | [], j, _, _, _, _, e => by cases j <;> simp [openR] at e
  | x :: l, 0, l', sz, n, f, e => by
    cases x with
    | s q sz' n' f' =>
      cases q with
      | o => simp [openR] at e; obtain ⟨rfl, rfl, rfl, rfl⟩ := e; rfl
      | _ => simp [openR] at e
    | _ => simp [openR] at e
  | x :: l, j + 1, l', sz, n, f, e => by
    simp only [openR] at e
    split at e
    · rename_i l2 sz2 n2 f2 e1
      simp at e
      obtain ⟨rfl, rfl, rfl, rfl⟩ := e
      simp [openR_uses e1]
    · cases e
/-- two chunks are laid at once, out of one -/
theorem Mem.split (m : Mem E B mu w H) {k k2 : Nat} {c c2 : Ch} {mu1 : Mu} (hne : k2 ≠ k) (hmu : mset k c mu = some mu1) (hmu2 : mset k2 c2 mu1 = some mu') {v : Value} (hU : muAny (V.usesB k2) k2 mu = false ∧ hasK k2 E.A.ks = false) {h1 h2 : PH} (l1 : h1.le (H k)) (l2 : h2.le (H k)) (hd : h1.dj h2)
    (s1 : c.sat (BE.set B k2 v) E.r h1 k) (s2 : c2.sat (BE.set B k2 v) E.r h2 k2) : Mem E (BE.set B k2 v) mu' w (HF.set (HF.set H k h1) k2 h2) := by
  have hH : ∀ j, j ≠ k2 → j ≠ k → HF.set (HF.set H k h1) k2 h2 j = H j := fun j a b => by rw [HF.set_ne _ _ a, HF.set_ne _ _ b]
  have hk : HF.set (HF.set H k h1) k2 h2 k = h1 := by rw [HF.set_ne _ _ (Ne.symm hne), HF.set_eq]
  have hk2 : HF.set (HF.set H k h1) k2 h2 k2 = h2 := HF.set_eq _ _ _
  have le : ∀ j, j ≠ k2 → (HF.set (HF.set H k h1) k2 h2 j).le (H j) := fun j a => by
    by_cases b : j = k
    · subst b; rw [hk]; exact l1
    · rw [hH j a b]; exact PH.le_refl _
  refine ⟨⟨fun j d e => ?_, fun j => ?_, fun i j hij => ?_, fun j => ?_, m.mm.fitr⟩, m.keep, fun j b o e => ?_, fun j hj => ?_⟩
  · rw [mset_spec hmu2 j, mset_spec hmu j] at e
    by_cases a1 : j = k2
    · subst a1; rw [if_pos rfl] at e; injection e with e; subst e; rw [hk2]; exact s2
    · rw [if_neg a1] at e
      by_cases a2 : j = k
      · subst a2; rw [if_pos rfl] at e; injection e with e; subst e; rw [hk]; exact s1
      · rw [if_neg a2] at e
        rw [hH j a1 a2]
        exact Ch.sat_setB v a1 (muAny_get hU.1 j d a1 e) (m.mm.sat j d e)
  · by_cases a1 : j = k2
    · subst a1; rw [hk2]; exact (m.mm.fit k).le l2
    · exact (m.mm.fit j).le (le j a1)
  · by_cases a1 : i = k2 <;> by_cases a2 : j = k2
    · exact absurd (a1.trans a2.symm) hij
    · subst a1; rw [hk2]
      by_cases a3 : j = k
      · subst a3; rw [hk]; exact PH.dj_symm hd
      · rw [hH j a2 a3]; exact PH.dj_le (m.mm.dj k j (Ne.symm a3)) l2 (PH.le_refl _)
    · subst a2; rw [hk2]
      by_cases a3 : i = k
      · subst a3; rw [hk]; exact hd
      · rw [hH i a1 a3]; exact PH.dj_symm (PH.dj_le (m.mm.dj k i (Ne.symm a3)) l2 (PH.le_refl _))
    · exact PH.dj_le (m.mm.dj i j hij) (le i a1) (le j a2)
  · by_cases a1 : j = k2
    · subst a1; rw [hk2]; exact PH.dj_le (m.mm.djr k) l2 (PH.le_refl _)
    · exact PH.dj_le (m.mm.djr j) (le j a1) (PH.le_refl _)
  · by_cases a1 : j = k2
    · subst a1; rw [hk2] at e; exact m.dom k b o (le_ne l2 e)
    · exact m.dom j b o (le_ne (le j a1) e)
  · have : j ≠ k2 := fun e => by rw [e, hU.2] at hj; cases hj
    rw [BE.set_ne B v this]; exact m.anch j hj
theorem FitsE.split (f : FitsE E B H fr gf a) {k k2 : Nat} {v : Value} {h1 h2 : PH} (hf : frAny (V.uses k2) fr = false) (hg : gfAny (V.uses k2) gf = false) (c1 : frCut (V.usesT k) fr = some fr') (c2 : gfCut (V.usesT k) gf = some gf') : FitsE E (BE.set B k2 v) (HF.set (HF.set H k h1) k2 h2) fr' gf' a := by
  have f1 := FitsE.anew f h1 c1 c2
  rw [BE.set_self] at f1
  refine FitsE.new f1 v h2 ?_ ?_
  · have : ∀ {l l' : Fr}, frCut (V.usesT k) l = some l' → frAny (V.uses k2) l = false → frAny (V.uses k2) l' = false := fun {l} => by
      induction l with
      | nil => intro l' e _; simp [frCut] at e; subst e; rfl
      | cons x r ih =>
        intro l' e h
        obtain ⟨t, x⟩ := x
        simp only [frCut] at e
        simp only [frAny] at h
        cases c : frCut (V.usesT k) r with
        | none => rw [c] at e; cases e
        | some r' =>
          rw [c] at e
          simp only at e
          cases c3 : x.anyV (V.uses k2) with
          | true => rw [c3] at h; cases h
          | false =>
            rw [c3] at h
            cases c4 : x.anyV (V.usesT k) with
            | true => rw [c4] at e; simp at e; subst e; simp only [frAny]; exact ih c h
            | false => rw [c4] at e; simp at e; subst e; simp only [frAny, c3, cond_false]; exact ih c h
    exact this c1 hf
  · have : ∀ {l l' : GF}, gfCut (V.usesT k) l = some l' → gfAny (V.uses k2) l = false → gfAny (V.uses k2) l' = false := fun {l} => by
      induction l with
      | nil => intro l' e _; simp [gfCut] at e; subst e; rfl
      | cons x r ih =>
        intro l' e h
        obtain ⟨t, d, w, x⟩ := x
        simp only [gfCut] at e
        simp only [gfAny] at h
        cases c : gfCut (V.usesT k) r with
        | none => rw [c] at e; cases e
        | some r' =>
          rw [c] at e
          simp only at e
          cases c3 : x.anyV (V.uses k2) with
          | true => rw [c3] at h; cases h
          | false =>
            rw [c3] at h
            cases c4 : x.anyV (V.usesT k) with
            | true => rw [c4] at e; simp at e; subst e; simp only [gfAny]; exact ih c h
            | false => rw [c4] at e; simp at e; subst e; simp only [gfAny, c3, cond_false]; exact ih c h
    exact this c2 hg
/-- chunk k's cell j is told as chunk k2 -/
theorem V_open (k j k2 : Nat) {l l' : List V} {sz n : Nat} {f : Nat → List D} {mu1 : Mu} (hk : mlk k mu = some (.row l)) (ho : openR k2 l j = some (l', sz, n, f)) (hmu : mset k (.row l') mu = some mu1) (hmu2 : mset k2 (.arr sz n f) mu1 = some mu') (c1 : frCut (V.usesT k) fr = some fr') (c2 : gfCut (V.usesT k) gf = some gf') (hu : (unnamed k2 fr gf mu E.A.ks && !anyL (V.usesB k2) l && !Nat.beq k2 k) = true := by exact rfl) : View E fr gf mu fr' gf' mu' := fun B w H a ff m => by
  simp only [Bool.and_eq_true, Bool.not_eq_true'] at hu
  obtain ⟨⟨u1, u2⟩, u3⟩ := hu
  obtain ⟨g1, g2, g3, g4⟩ := unnamed_spec u1
  have hne : k2 ≠ k := beq_ne u3
  obtain ⟨b, off, vs, h', e1, e2, e3, e4⟩ := m.mm.sat k _ hk
  obtain ⟨v, p, p1, p2, p3⟩ := openR_ok ho e2
  have hlen := openR_uses ho
  have hB : ∀ i, anyL (V.usesB i) l = true → BE.set B k2 v i = B i := fun i hi => by
    by_cases h : i = k2
    · subst h; rw [u2] at hi; cases hi
    · exact BE.set_ne B v h
  have hm := m.split (h1 := (H k).sub p) (h2 := p) (v := v) hne hmu hmu2 ⟨muAny_mono (fun x hx => (uses_out hx).1) g3, g4⟩ (PH.sub_le _ _) (PH.le_trans p1 e3) (PH.sub_dj _ _) ?_ ?_
  · exact ⟨_, _, FitsE.split ff g1 g2 c1 c2, hm⟩
  · refine ⟨b, off, vs, h'.sub p, by rw [BE.set_ne B v (Ne.symm hne)]; exact e1, p3 _ hB (BE.set_eq B k2 v), PH.sub_mono e3 p, fun j hj => ?_⟩
    rw [hlen] at hj
    obtain ⟨q1, q2⟩ := e4 j hj
    have hp : p b (off + j) = none := by
      cases c : p b (off + j) with
      | none => rfl
      | some u => rw [p1 _ _ _ c] at q2; cases q2
    exact ⟨by unfold PH.sub; rw [hp]; exact q1, by unfold PH.sub; rw [hp]; exact q2⟩
  · show D.own p _ (BE.set B k2 v k2)
    rw [BE.set_eq]; exact p2
end
end

section
def foldR (k2 sz n : Nat) (f : Nat → List D) : List V → Nat → Option (List V)
  | .g k :: r, 0 => bif Nat.beq k k2 then some (.s .o sz n f :: r) else none
  | x :: r, j + 1 => match foldR k2 sz n f r j with
    | some l => some (x :: l)
    | none => none
  | _, _ => none
def unV : List V → Option (List D)
  | [] => some []
  | .v x :: r => match unV r with
    | some l => some (.v x :: l)
    | none => none
  | .s .o sz n f :: r => match unV r with
    | some l => some (.sl sz n f :: l)
    | none => none
  | _ :: _ => none
theorem unV_ok {B : BE} {r : PH} : ∀ {l : List V} {m : List D}, unV l = some m → ∀ {h : PH} {vs : List Value}, V.owns B r h l vs → D.owns h m vs
  | [], m, e, h, vs, o => by simp [unV] at e; subst e; exact o
  | x :: l, m, e, h, vs, o => by
    obtain ⟨v, t, h1, h2, rfl, e2, e3, e4, e5, e6⟩ := o
    cases x with
    | v y =>
      simp only [unV] at e
      cases c : unV l with
      | none => rw [c] at e; cases e
      | some m' => rw [c] at e; injection e with e; subst e; exact ⟨v, t, h1, h2, rfl, e2, e3, e4, e5, unV_ok c e6⟩
    | s q sz n f =>
      cases q with
      | o =>
        simp only [unV] at e
        cases c : unV l with
        | none => rw [c] at e; cases e
        | some m' =>
          rw [c] at e; injection e with e; subst e
          exact ⟨v, t, h1, h2, rfl, e2, e3, e4, (e5.resolve_right fun h => by cases h.1).2, unV_ok c e6⟩
      | _ => simp [unV] at e
    | _ => simp [unV] at e
def swFr (a b : Nat) : Fr → Fr
  | [] => []
  | (t, x) :: r => (t, x.sw a b) :: swFr a b r
section
variable {E : Env} {B : BE} {mu mu' : Mu} {w : World} {H : Nat → PH} {TT : List TI} {fr fr' : Fr} {gf gf' : GF} {a : Act} {all rest : List Oper} {Q : Exit → Act → World → Prop} {o : Oper} {J : Act → World → Prop} {G : AG} {R : Exit → Act → World → Prop} {K : List KF}
theorem foldR_ok {r : PH} {k2 sz n : Nat} {f : Nat → List D} {q : PH} (hq : D.own q (.sl sz n f) (B k2)) : ∀ {l : List V} {j : Nat} {l' : List V}, foldR k2 sz n f l j = some l' → ∀ {h : PH} {vs : List Value}, V.owns B r h l vs → h.dj q → V.owns B r (h.un q) l' vs
  | [], j, _, e, _, _, _, _ => by cases j <;> simp [foldR] at e
  | x :: l, 0, l', e, h, vs, o, hd => by
    cases x with
    | g k =>
      simp only [foldR] at e
      cases c : Nat.beq k k2 with
      | false => rw [c] at e; cases e
      | true =>
        rw [c] at e; simp at e; subst e
        have := Nat.eq_of_beq_eq_true c
        subst this
        obtain ⟨v, t, h1, h2, rfl, e2, e3, e4, e5, e6⟩ := o
        refine ⟨v, t, q, h2, rfl, PH.le_un_right hd, PH.le_trans e3 (PH.le_un_left _ _), PH.dj_symm (PH.dj_le hd e3 (PH.le_refl _)), .inl ⟨rfl, ?_⟩, e6⟩
        rw [e5.1]; exact hq
    | _ => simp [foldR] at e
  | x :: l, j + 1, l', e, h, vs, o, hd => by
    simp only [foldR] at e
    cases c : foldR k2 sz n f l j with
    | none => rw [c] at e; cases e
    | some m =>
      rw [c] at e; injection e with e; subst e
      obtain ⟨v, t, h1, h2, rfl, e2, e3, e4, e5, e6⟩ := o
      have ih := foldR_ok hq c e6 (PH.dj_le hd e3 (PH.le_refl _))
      refine ⟨v, t, h1, h2.un q, rfl, PH.le_trans e2 (PH.le_un_left _ _), PH.un_le (PH.le_trans e3 (PH.le_un_left _ _)) (PH.le_un_right hd), PH.dj_un e4 (PH.dj_le hd e2 (PH.le_refl _)), e5, ih⟩
theorem foldR_len {k2 sz n : Nat} {f : Nat → List D} : ∀ {l : List V} {j : Nat} {l' : List V}, foldR k2 sz n f l j = some l' → l'.length = l.length
  | [], j, _, e => by cases j <;> simp [foldR] at e
  | x :: l, 0, l', e => by
    cases x with
    | g k =>
      simp only [foldR] at e
      cases c : Nat.beq k k2 with
      | false => rw [c] at e; cases e
      | true => rw [c] at e; simp at e; subst e; rfl
    | _ => simp [foldR] at e
  | x :: l, j + 1, l', e => by
    simp only [foldR] at e
    cases c : foldR k2 sz n f l j with
    | none => rw [c] at e; cases e
    | some m => rw [c] at e; injection e with e; subst e; simp [foldR_len c]
theorem mdrop_spec {k : Nat} : ∀ {mu l : Mu}, mdrop k mu = some l → ∀ j, mlk j l = if j = k then none else mlk j mu
  | [], l, h, j => by simp [mdrop] at h; subst h; simp [mlk]
  | (i, c) :: r, l, h, j => by
    simp only [mdrop] at h
    cases e : mdrop k r with
    | none => rw [e] at h; cases h
    | some l' =>
      rw [e] at h
      simp only at h
      have ih := mdrop_spec e j
      cases c1 : Nat.beq i k with
      | true =>
        rw [c1] at h; simp at h; subst h
        have := Nat.eq_of_beq_eq_true c1
        subst this
        rw [mlk_cons, ih]
        by_cases hj : i = j
        · subst hj; rw [if_pos rfl, if_pos rfl]
        · rw [if_neg hj]
      | false =>
        rw [c1] at h; simp at h; subst h
        have := beq_ne c1
        rw [mlk_cons, mlk_cons, ih]
        by_cases hj : i = j
        · rw [if_pos hj, if_pos hj, if_neg (by omega)]
        · rw [if_neg hj, if_neg hj]
/-- two chunks are laid into one -/
theorem Mem.join (m : Mem E B mu w H) {k k2 : Nat} {c : Ch} {mu1 : Mu} (hne : k2 ≠ k) (hmu : mset k c mu = some mu1) (hmu2 : mdrop k2 mu1 = some mu') (s : c.sat B E.r ((H k).un (H k2)) k) : Mem E B mu' w (HF.set (HF.set H k ((H k).un (H k2))) k2 PH.emp) := by
  have hH : ∀ j, j ≠ k2 → j ≠ k → HF.set (HF.set H k ((H k).un (H k2))) k2 PH.emp j = H j := fun j a b => by rw [HF.set_ne _ _ a, HF.set_ne _ _ b]
  have hk : HF.set (HF.set H k ((H k).un (H k2))) k2 PH.emp k = (H k).un (H k2) := by rw [HF.set_ne _ _ (Ne.symm hne), HF.set_eq]
  have hk2 : HF.set (HF.set H k ((H k).un (H k2))) k2 PH.emp k2 = PH.emp := HF.set_eq _ _ _
  refine ⟨⟨fun j d e => ?_, fun j => ?_, fun i j hij => ?_, fun j => ?_, m.mm.fitr⟩, m.keep, fun j b o e => ?_, m.anch⟩
  · rw [mdrop_spec hmu2 j, mset_spec hmu j] at e
    by_cases a1 : j = k2
    · rw [if_pos a1] at e; cases e
    · rw [if_neg a1] at e
      by_cases a2 : j = k
      · subst a2; rw [if_pos rfl] at e; injection e with e; subst e; rw [hk]; exact s
      · rw [if_neg a2] at e
        rw [hH j a1 a2]
        exact m.mm.sat j d e
  · by_cases a1 : j = k2
    · subst a1; rw [hk2]; exact FitO.emp w
    · by_cases a2 : j = k
      · subst a2; rw [hk]; exact (m.mm.fit _).un (m.mm.fit _)
      · rw [hH j a1 a2]; exact m.mm.fit j
  · by_cases a1 : i = k2
    · subst a1; rw [hk2]; exact PH.emp_dj _
    · by_cases a2 : j = k2
      · subst a2; rw [hk2]; exact PH.dj_emp _
      · by_cases a3 : i = k
        · subst a3; rw [hk, hH j a2 (Ne.symm hij)]; exact PH.un_dj (m.mm.dj _ j hij) (m.mm.dj _ j (Ne.symm a2))
        · by_cases a4 : j = k
          · subst a4; rw [hk, hH i a1 a3]; exact PH.dj_symm (PH.un_dj (m.mm.dj _ i (Ne.symm hij)) (m.mm.dj _ i (Ne.symm a1)))
          · rw [hH i a1 a3, hH j a2 a4]; exact m.mm.dj i j hij
  · by_cases a1 : j = k2
    · subst a1; rw [hk2]; exact PH.emp_dj _
    · by_cases a2 : j = k
      · subst a2; rw [hk]; exact PH.un_dj (m.mm.djr _) (m.mm.djr _)
      · rw [hH j a1 a2]; exact m.mm.djr j
  · by_cases a1 : j = k2
    · subst a1; rw [hk2] at e; exact absurd rfl e
    · by_cases a2 : j = k
      · subst a2; rw [hk] at e
        rcases PH.un_ne e with h | h
        · exact m.dom _ b o h
        · exact m.dom _ b o h
      · rw [hH j a1 a2] at e; exact m.dom j b o e
theorem FitsE.join (f : FitsE E B H fr gf a) (m : Mem E B mu w H) {k k2 : Nat} (hne : k2 ≠ k) (c1 : frCut (V.usesT k2) fr = some fr') (c2 : gfCut (V.usesT k2) gf = some gf') : FitsE E B (HF.set (HF.set H k ((H k).un (H k2))) k2 PH.emp) fr' gf' a := by
  have f1 : FitsE E B (HF.set H k ((H k).un (H k2))) fr gf a := by
    have hz : ∀ q, (Zf E.r H q).le (Zf E.r (HF.set H k ((H k).un (H k2))) q) := fun q => by
      cases q with
      | k j =>
        show (H j).le (HF.set H k ((H k).un (H k2)) j)
        by_cases h : j = k
        · subst h; rw [HF.set_eq]; exact PH.le_un_left _ _
        · rw [HF.set_ne _ _ h]; exact PH.le_refl _
      | _ => exact PH.le_refl _
    exact ⟨f.size, f.defers, fun t x e1 e2 => SV.rel_mono hz x (f.vfr t x e1 e2), fun t d w x e1 e2 => SV.rel_mono hz x (f.vgf t d w x e1 e2), f.vgu, f.vno⟩
  have := FitsE.anew f1 (k := k2) PH.emp c1 c2
  rwa [BE.set_self] at this
/-- chunk k2 goes back into cell j of row k -/
theorem V_fold (k j k2 : Nat) {l l' : List V} {sz n : Nat} {f : Nat → List D} {mu1 : Mu} (hk : mlk k mu = some (.row l)) (hk2 : mlk k2 mu = some (.arr sz n f)) (ho : foldR k2 sz n f l j = some l') (hmu : mset k (.row l') mu = some mu1) (hmu2 : mdrop k2 mu1 = some mu') (c1 : frCut (V.usesT k2) fr = some fr') (c2 : gfCut (V.usesT k2) gf = some gf') (hu : Nat.beq k2 k = false := by exact rfl) : View E fr gf mu fr' gf' mu' := fun B w H a ff m => by
  have hne := beq_ne hu
  refine ⟨B, _, FitsE.join ff m hne c1 c2, m.join hne hmu hmu2 ?_⟩
  obtain ⟨b, off, vs, h', e1, e2, e3, e4⟩ := m.mm.sat k _ hk
  have hd : (H k).dj (H k2) := m.mm.dj k k2 (Ne.symm hne)
  refine ⟨b, off, vs, h'.un (H k2), e1, foldR_ok (m.mm.sat k2 _ hk2) ho e2 (PH.dj_le hd e3 (PH.le_refl _)), PH.un_le (PH.le_trans e3 (PH.le_un_left _ _)) (PH.le_un_right hd), fun i hi => ?_⟩
  rw [foldR_len ho] at hi
  obtain ⟨q1, q2⟩ := e4 i hi
  have hlt : i < vs.length := by rw [V.owns_length e2]; exact hi
  have hn2 : H k2 b (off + i) = none := (hd b (off + i)).resolve_left (by rw [q1, List.getElem?_eq_getElem hlt]; simp)
  refine ⟨?_, ?_⟩
  · unfold PH.un; rw [q1, List.getElem?_eq_getElem hlt]
  · unfold PH.un; rw [q2]; exact hn2
/-- element i of array k is told as row k2 -/
theorem V_carve (k : Nat) (i : Int) (k2 : Nat) {l : List V} {sz n : Nat} {f : Nat → List D} {mu1 : Mu} (hk : mlk k mu = some (.arr sz n f)) (hl : layD .o (f i.toNat) = some l) (hmu : mset k (.hole sz n f i k2) mu = some mu1) (hmu2 : mset k2 (.row l) mu1 = some mu') (c1 : frCut (V.usesT k) fr = some fr') (c2 : gfCut (V.usesT k) gf = some gf') (hi : 0 ≤ i ∧ i < n) (hu : (unnamed k2 fr gf mu E.A.ks && !Nat.beq k2 k) = true := by exact rfl) : View E fr gf mu fr' gf' mu' := fun B w H a ff m => by
  simp only [Bool.and_eq_true, Bool.not_eq_true'] at hu
  obtain ⟨u1, u3⟩ := hu
  obtain ⟨g1, g2, g3, g4⟩ := unnamed_spec u1
  have hne : k2 ≠ k := beq_ne u3
  obtain ⟨A, c, e1, e2, e3, e4⟩ := (show D.own _ _ _ from m.mm.sat k _ hk)
  rcases e4 with e4 | ⟨b, o, row, G, rfl, q1, q2, q3⟩
  · omega
  · obtain ⟨r1, r2, r3⟩ := q1 i.toNat (by omega)
    have hmul : ∀ j : Nat, j < i.toNat → j * sz + sz ≤ i.toNat * sz := fun j hj => by
      have := Nat.mul_le_mul_right sz (show j + 1 ≤ i.toNat from hj)
      rwa [Nat.add_mul, Nat.one_mul] at this
    have hmul2 : ∀ j : Nat, i.toNat < j → i.toNat * sz + sz ≤ j * sz := fun j hj => by
      have := Nat.mul_le_mul_right sz (show i.toNat + 1 ≤ j from hj)
      rwa [Nat.add_mul, Nat.one_mul] at this
    have hcap : ∀ j : Nat, j < c → j * sz + sz ≤ c * sz := fun j hj => by
      have := Nat.mul_le_mul_right sz (show j + 1 ≤ c from hj)
      rwa [Nat.add_mul, Nat.one_mul] at this
    let h2 : PH := fun x y => if x = b ∧ o + i.toNat * sz ≤ y ∧ y < o + i.toNat * sz + sz then H k x y else G i.toNat x y
    have l2 : h2.le (H k) := fun x y v e => by
      simp only [h2] at e
      split at e
      · exact e
      · exact q3.1 _ x y v e
    have h2o : ∀ y, o ≤ y → y < o + c * sz → ¬ (o + i.toNat * sz ≤ y ∧ y < o + i.toNat * sz + sz) → h2 b y = none := fun y y1 y2 hy => by
      simp only [h2]
      rw [if_neg (fun h => hy h.2)]
      exact q3.2.2 _ _ y1 y2
    have G2 : ∀ j, j ≠ i.toNat → (G j).dj h2 := fun j hj x y => by
      simp only [h2]
      split
      · rename_i h; left; rw [h.1]; exact q3.2.2 j y (by omega) (by have := hcap i.toNat (by omega); omega)
      · exact q3.2.1 j _ hj x y
    have keepC : ∀ y, o ≤ y → y < o + c * sz → ¬ (o + i.toNat * sz ≤ y ∧ y < o + i.toNat * sz + sz) → (H k).sub h2 b y = H k b y := fun y y1 y2 hy => by unfold PH.sub; rw [h2o y y1 y2 hy]
    have hv : elP (.slice (some ⟨b, o, none⟩) n c) sz i 0 = .pointer (some ⟨b, o + i.toNat * sz, none⟩) := by rw [elP_slice]; rfl
    have hm := m.split (h1 := (H k).sub h2) (h2 := h2) (v := .pointer (some ⟨b, o + i.toNat * sz, none⟩)) hne hmu hmu2 ⟨muAny_mono (fun x hx => (uses_out hx).1) g3, g4⟩ (PH.sub_le _ _) l2 (PH.sub_dj _ _) ?_ ?_
    · exact ⟨_, _, FitsE.split ff g1 g2 c1 c2, hm⟩
    · refine ⟨some ⟨b, o, none⟩, c, by rw [BE.set_ne B _ (Ne.symm hne)]; exact e1, e2, e3, hi, by rw [BE.set_eq, BE.set_ne B _ (Ne.symm hne), e1, hv], b, o, row, fun j => if j = i.toNat then PH.emp else G j, rfl, fun j hj hji => ?_, fun j hj hj2 x hx => ?_, fun j => ?_, fun x y hxy => ?_, fun j x => ?_⟩
      · have hji' : j ≠ i.toNat := fun e => hji (by rw [e]; exact Int.toNat_of_nonneg hi.1)
        obtain ⟨s1, s2, s3⟩ := q1 j hj
        refine ⟨by dsimp only; rw [if_neg hji']; exact s1, s2, fun x hx => ?_⟩
        have := hcap j (by omega)
        rw [keepC _ (by omega) (by omega) (by
          rcases Nat.lt_or_gt_of_ne hji' with h | h
          · have := hmul j h; omega
          · have := hmul2 j h; omega)]
        exact s3 x hx
      · have := hcap j (by omega)
        rw [keepC _ (by omega) (by omega) (by have := hmul2 j (by omega); omega)]
        exact q2 j hj hj2 x hx
      · dsimp only
        by_cases hj : j = i.toNat
        · rw [if_pos hj]; exact PH.emp_le _
        · rw [if_neg hj]; exact PH.le_sub (q3.1 j) (G2 j hj)
      · dsimp only
        by_cases h1 : x = i.toNat
        · rw [if_pos h1]; exact PH.emp_dj _
        · rw [if_neg h1]
          by_cases h2 : y = i.toNat
          · rw [if_pos h2]; exact PH.dj_emp _
          · rw [if_neg h2]; exact q3.2.1 x y hxy
      · intro y1 y2
        dsimp only
        by_cases hj : j = i.toNat
        · rw [if_pos hj]; rfl
        · rw [if_neg hj]; exact q3.2.2 j x y1 y2
    · rw [layD_eq] at hl
      injection hl with hl
      subst hl
      refine ⟨b, o + i.toNat * sz, row i.toNat, G i.toNat, BE.set_eq _ _ _, D.owns_toV r1, fun x y v e => ?_, fun j hj => ?_⟩
      · simp only [h2]
        rw [if_neg]
        · exact e
        · rintro ⟨rfl, y1, y2⟩
          have := hcap i.toNat (by omega)
          rw [q3.2.2 i.toNat y (by omega) (by omega)] at e; cases e
      · have hl := D.owns_length r1
        rw [List.length_map, ← hl, r2] at hj
        refine ⟨?_, q3.2.2 _ _ (by omega) (by have := hcap i.toNat (by omega); omega)⟩
        simp only [h2]
        rw [if_pos ⟨trivial, by omega, by omega⟩]
        exact r3 j hj
/-- row k2 goes back into array k -/
theorem V_uncarve (k k2 : Nat) {l : List V} {ds : List D} {sz n : Nat} {f : Nat → List D} {i : Int} {mu1 : Mu} (hk : mlk k mu = some (.hole sz n f i k2)) (hk2 : mlk k2 mu = some (.row l)) (hl : unV l = some ds) (hmu : mset k (.arr sz n (fun j => bif Nat.beq j i.toNat then ds else f j)) mu = some mu1) (hmu2 : mdrop k2 mu1 = some mu') (c1 : frCut (V.usesT k2) fr = some fr') (c2 : gfCut (V.usesT k2) gf = some gf') (hsz : lenEq ds sz = true := by exact rfl) (hu : Nat.beq k2 k = false := by exact rfl) : View E fr gf mu fr' gf' mu' := fun B w H a ff m => by
  have hne := beq_ne hu
  refine ⟨B, _, FitsE.join ff m hne c1 c2, m.join hne hmu hmu2 ?_⟩
  have hd : (H k).dj (H k2) := m.mm.dj k k2 (Ne.symm hne)
  obtain ⟨A, c, e1, e2, e3, hi, e5, b, o, row, G, rfl, q1, q2, q3⟩ := m.mm.sat k _ hk
  obtain ⟨b2, off, vs, h', p1, p2, p3, p4⟩ := m.mm.sat k2 _ hk2
  have hv : elP (.slice (some ⟨b, o, none⟩) n c) sz i 0 = .pointer (some ⟨b, o + i.toNat * sz, none⟩) := by rw [elP_slice]; rfl
  rw [e1, hv, p1] at e5
  injection e5 with e5
  injection e5 with e5
  injection e5 with e6 e7
  subst e6; subst e7
  have ho := unV_ok hl p2
  have hdl := lenEq_spec _ _ hsz
  have hvl := D.owns_length ho
  have hll := V.owns_length p2
  have lk : (H k).le ((H k).un (H k2)) := PH.le_un_left _ _
  have lk2 : (H k2).le ((H k).un (H k2)) := PH.le_un_right hd
  have hcap : ∀ j : Nat, j < c → j * sz + sz ≤ c * sz := fun j hj => by
    have := Nat.mul_le_mul_right sz (show j + 1 ≤ c from hj)
    rwa [Nat.add_mul, Nat.one_mul] at this
  -- the row's parts lie outside the array's cells
  have hout : ∀ y, o ≤ y → y < o + c * sz → h' b2 y = none := fun y y1 y2 => by
    cases e : h' b2 y with
    | none => rfl
    | some u =>
      exfalso
      have h0 : 0 < sz := by
        rcases Nat.eq_zero_or_pos sz with h | h
        · subst h; simp at y2; omega
        · exact h
      have hq : (y - o) / sz < c := Nat.div_lt_of_lt_mul (by rw [Nat.mul_comm]; omega)
      have hm : (y - o) % sz < sz := Nat.mod_lt _ h0
      have hy : y = o + (y - o) / sz * sz + (y - o) % sz := by
        have := Nat.div_add_mod (y - o) sz
        rw [Nat.mul_comm] at this
        omega
      by_cases hji : (y - o) / sz = i.toNat
      · have := (p4 ((y - o) % sz) (by omega)).2
        rw [← hji, ← hy, e] at this
        cases this
      · have hne2 : H k b2 y ≠ none := by
          by_cases hjn : (y - o) / sz < n
          · obtain ⟨_, s2, s3⟩ := q1 _ hjn (fun e => hji (by omega))
            have := s3 _ hm
            rw [← hy] at this
            rw [this, List.getElem?_eq_getElem (by omega)]; simp
          · have := q2 _ (by omega) hq _ hm
            rwa [← hy] at this
        rcases hd b2 y with h | h
        · exact hne2 h
        · rw [p3 _ _ _ e] at h; cases h
  show D.own _ _ (B k)
  refine ⟨some ⟨b2, o, none⟩, c, e1, e2, e3, .inr ⟨b2, o, fun j => if j = i.toNat then vs else row j, fun j => if j = i.toNat then h' else (G j).sub h', rfl, fun j hj => ?_, fun j hj hj2 x hx => le_ne lk (q2 j hj hj2 x hx), fun j => ?_, fun x y hxy => ?_, fun j x y1 y2 => ?_⟩⟩
  · by_cases hji : j = i.toNat
    · subst hji
      simp only [Nat.beq_refl, cond_true, if_true]
      exact ⟨ho, by omega, fun x hx => le_cell lk2 rfl (by omega) (p4 x (by omega)).1⟩
    · have hb : Nat.beq j i.toNat = false := by
        cases e : Nat.beq j i.toNat with
        | false => rfl
        | true => exact absurd (Nat.eq_of_beq_eq_true e) hji
      simp only [hb, cond_false, if_neg hji]
      obtain ⟨s1, s2, s3⟩ := q1 j hj (fun e => hji (by omega))
      refine ⟨D.owns_mono (PH.le_sub (PH.le_refl _) (PH.dj_le hd (q3.1 j) p3)) _ s1, s2, fun x hx => le_cell lk s2 hx (s3 x hx)⟩
  · dsimp only
    by_cases hji : j = i.toNat
    · rw [if_pos hji]; exact PH.le_trans p3 lk2
    · rw [if_neg hji]; exact PH.le_trans (PH.sub_le _ _) (PH.le_trans (q3.1 j) lk)
  · dsimp only
    by_cases h1 : x = i.toNat
    · rw [if_pos h1, if_neg (fun e => hxy (h1.trans e.symm))]; exact PH.dj_symm (PH.sub_dj _ _)
    · rw [if_neg h1]
      by_cases h2 : y = i.toNat
      · rw [if_pos h2]; exact PH.sub_dj _ _
      · rw [if_neg h2]; exact PH.dj_le (q3.2.1 x y hxy) (PH.sub_le _ _) (PH.sub_le _ _)
  · dsimp only
    by_cases hji : j = i.toNat
    · rw [if_pos hji]; exact hout x y1 y2
    · rw [if_neg hji]
      unfold PH.sub
      cases h' b2 x with
      | some _ => rfl
      | none => exact q3.2.2 j x y1 y2
theorem elP_addP {A : Option Addr} {n c sz : Nat} {i : Int} {o : Nat} : elP (.slice A n c) sz i o = addP (elP (.slice A n c) sz i 0) o := by
  rfl
/-- a pointer to the element is a pointer to its row -/
theorem V_pe (t : Nat) {k k2 sz n : Nat} {f : Nat → List D} {i : Int} {o : Nat} (ht : mlk t fr = some (.a (.pe k sz i o))) (hg : glk t gf = none) (hk : mlk k mu = some (.hole sz n f i k2)) : View E fr gf mu ((t, .a (.p k2 o)) :: fr) gf mu := fun B w H a ff m => by
  refine ⟨B, H, ⟨ff.size, ff.defers, fun t' x e1 e2 => ?_, ff.vgf, ff.vgu, fun t' d w x e1 => ?_⟩, m⟩
  · rw [mlk_cons] at e1
    by_cases h : t = t'
    · subst h
      rw [if_pos rfl] at e1
      injection e1 with e1
      subst e1
      obtain ⟨h1, h2⟩ := (show _ = elP (B k) sz i o ∧ _ from ff.vfr t _ ht e2)
      obtain ⟨A, c, g1, _, _, _, g5, _⟩ := m.mm.sat k _ hk
      refine ⟨?_, h2⟩
      rw [h1, g5, g1]; exact elP_addP
    · rw [if_neg h] at e1; exact ff.vfr t' x e1 e2
  · rw [mlk_cons]
    by_cases h : t = t'
    · subst h
      have := ff.vno t d w x e1
      rw [ht] at this; cases this
    · rw [if_neg h]; exact ff.vno t' d w x e1
/-- and back -/
theorem V_ep (t : Nat) {k k2 sz n : Nat} {f : Nat → List D} {i : Int} {o : Nat} (ht : mlk t fr = some (.a (.p k2 o))) (hg : glk t gf = none) (hk : mlk k mu = some (.hole sz n f i k2)) : View E fr gf mu ((t, .a (.pe k sz i o)) :: fr) gf mu := fun B w H a ff m => by
  refine ⟨B, H, ⟨ff.size, ff.defers, fun t' x e1 e2 => ?_, ff.vgf, ff.vgu, fun t' d w x e1 => ?_⟩, m⟩
  · rw [mlk_cons] at e1
    by_cases h : t = t'
    · subst h
      rw [if_pos rfl] at e1
      injection e1 with e1
      subst e1
      obtain ⟨h1, h2⟩ := (show _ = addP (B k2) o ∧ _ from ff.vfr t _ ht e2)
      obtain ⟨A, c, g1, _, _, _, g5, _⟩ := m.mm.sat k _ hk
      refine ⟨?_, h2⟩
      rw [h1, g5, g1]; exact elP_addP.symm
    · rw [if_neg h] at e1; exact ff.vfr t' x e1 e2
  · rw [mlk_cons]
    by_cases h : t = t'
    · subst h
      have := ff.vno t d w x e1
      rw [ht] at this; cases this
    · rw [if_neg h]; exact ff.vno t' d w x e1
theorem mlk_swFr (x y t : Nat) : ∀ fr : Fr, mlk t (swFr x y fr) = (mlk t fr).map (SV.sw x y)
  | [] => rfl
  | (j, v) :: r => by
    simp only [swFr]
    rw [mlk_cons, mlk_cons]
    by_cases h : j = t
    · rw [if_pos h, if_pos h]; rfl
    · rw [if_neg h, if_neg h]; exact mlk_swFr x y t r
/-- two keys are exchanged -/
theorem V_sw (x y : Nat) (hu : (!hasK x E.A.ks && !hasK y E.A.ks) = true := by exact rfl) : View E fr [] mu (swFr x y fr) [] (swMu x y mu) := fun B w H a ff m => by
  simp only [Bool.and_eq_true, Bool.not_eq_true'] at hu
  refine ⟨fun k => B (swN x y k), fun k => H (swN x y k), ⟨ff.size, ff.defers, fun t v e1 e2 => ?_, fun _ _ _ _ h => (by cases h), fun _ _ _ _ h => (by cases h), fun _ _ _ _ h => (by cases h)⟩, m.mm.unsw, m.keep, fun k b o e => m.dom _ b o e, fun k hk => ?_⟩
  · rw [mlk_swFr] at e1
    cases c : mlk t fr with
    | none => rw [c] at e1; cases e1
    | some u =>
      rw [c] at e1
      injection e1 with e1
      subst e1
      have h := ff.vfr t u c rfl
      refine (SV.rel_sw u).2 ?_
      simpa only [swN_swN] using h
  · have h1 : k ≠ x := fun e => by rw [e, hu.1] at hk; cases hk
    have h2 : k ≠ y := fun e => by rw [e, hu.2] at hk; cases hk
    have : swN x y k = k := by rw [swN_eq, if_neg h1, if_neg h2]
    rw [this]; exact m.anch k hk
end

/-! ### loops whose frames keep what is not turned -/
def modO : List Oper → List Nat → List Nat
  | [], l => l
  | o :: r, l => match o.dst with
    | some t => modO r (t :: l)
    | none => modO r l
def modC : Code → List Nat → List Nat
  | .region _ ops _, l => modO ops.toList l
  | .seq a b, l => modC a (modC b l)
  | .cond _ a b, l => modC a (modC b l)
  | .block _ b, l => modC b l
  | .loop b, l => modC b l
  | .scope b, l => modC b l
  | _, l => l
def V.usesBs (ks : List Nat) : V → Bool
  | .g j => hasK j ks
  | .p j _ => hasK j ks
  | .pe j _ _ _ => hasK j ks
  | .sb j _ _ _ => hasK j ks
  | .gl j _ _ => hasK j ks
  | _ => false
/-- borrows from ks, or names one of kd -/
def leanV (ks kd : List Nat) (x : V) : Bool := bif x.usesTs ks then true else x.usesBs kd
/-- entries of slots that are not in ms, each once, that lean on no chunk of ks, and name none of kd -/
def keepF (ms ks kd : List Nat) : Fr → List Nat → Option Fr
  | [], _ => some []
  | (t, x) :: r, sn => bif hasK t sn then keepF ms ks kd r sn else match keepF ms ks kd r (t :: sn) with
    | some l => bif hasK t ms then some l else bif x.anyV (leanV ks kd) then some l else some ((t, x) :: l)
    | none => none
def appF : Fr → Fr → Fr
  | [], l => l
  | x :: r, l => x :: appF r l
section
variable {E : Env} {B : BE} {mu mu' : Mu} {w : World} {H : Nat → PH} {TT : List TI} {fr fr' : Fr} {gf gf' : GF} {a : Act} {all rest : List Oper} {Q : Exit → Act → World → Prop} {o : Oper} {J : Act → World → Prop} {G : AG} {R : Exit → Act → World → Prop} {K : List KF}
theorem keepF_get {ms ks kd : List Nat} : ∀ {fr : Fr} {sn : List Nat} {l : Fr}, keepF ms ks kd fr sn = some l → ∀ t x, mlk t l = some x → hasK t sn = false ∧ mlk t fr = some x
  | [], sn, l, h, t, x, e => by simp [keepF] at h; subst h; cases e
  | (j, y) :: r, sn, l, h, t, x, e => by
    simp only [keepF] at h
    rw [mlk_cons]
    cases c1 : hasK j sn with
    | true =>
      rw [c1] at h
      obtain ⟨h1, h2⟩ := keepF_get h t x e
      refine ⟨h1, ?_⟩
      by_cases hj : j = t
      · subst hj; rw [c1] at h1; cases h1
      · rw [if_neg hj]; exact h2
    | false =>
      rw [c1] at h
      simp only [cond_false] at h
      cases c2 : keepF ms ks kd r (j :: sn) with
      | none => rw [c2] at h; cases h
      | some l' =>
        rw [c2] at h
        simp only at h
        have tl : mlk t l' = some x → hasK t sn = false ∧ (if j = t then some y else mlk t r) = some x := fun e => by
          obtain ⟨h1, h2⟩ := keepF_get c2 t x e
          have h3 : ¬ (j = t ∨ hasK t sn = true) := fun h => by rw [(hasK_cons t j sn).2 h] at h1; cases h1
          refine ⟨?_, by rw [if_neg fun e => h3 (.inl e)]; exact h2⟩
          cases c : hasK t sn with
          | false => rfl
          | true => exact absurd (.inr c) h3
        cases c3 : hasK j ms with
        | true => rw [c3] at h; simp at h; subst h; exact tl e
        | false =>
          rw [c3] at h
          simp only [cond_false] at h
          cases c4 : y.anyV (leanV ks kd) with
          | true => rw [c4] at h; simp at h; subst h; exact tl e
          | false =>
            rw [c4] at h; simp at h; subst h
            rw [mlk_cons] at e
            by_cases hj : j = t
            · subst hj
              rw [if_pos rfl] at e ⊢
              exact ⟨c1, e⟩
            · rw [if_neg hj] at e; exact tl e
theorem WkFr.of_get {P : Program} {fr : Fr} : ∀ {l : Fr}, (∀ t x, (t, x) ∈ l → ∃ y, mlk t fr = some y ∧ y.imp P x) → WkFr P fr l
  | [], _ => trivial
  | (t, x) :: r, h => ⟨h t x List.mem_cons_self, WkFr.of_get fun t x e => h t x (List.mem_cons_of_mem _ e)⟩
theorem mlk_appF (t : Nat) : ∀ (l m : Fr), mlk t (appF l m) = (mlk t l).or (mlk t m)
  | [], m => rfl
  | (j, c) :: r, m => by
    simp only [appF]
    rw [mlk_cons, mlk_cons]
    by_cases h : j = t
    · rw [if_pos h, if_pos h]; rfl
    · rw [if_neg h, if_neg h]; exact mlk_appF t r m
theorem Fits.wk2 {P : Program} {Z : Tg → PH} {N : Nat} (f : Fits P B Z N fr [] a) (h : ∀ t x, mlk t fr' = some x → ∃ y, mlk t fr = some y ∧ y.imp P x) : Fits P B Z N fr' [] a :=
  ⟨f.size, f.defers, fun t x e _ => by
    obtain ⟨y, h1, h2⟩ := h t x e
    exact h2 _ _ _ (f.vfr t y h1 rfl), fun _ _ _ _ h => (by cases h), fun _ _ _ _ h => (by cases h), fun _ _ _ _ h => (by cases h)⟩
theorem Mem.wk2 (m : Mem E B mu w H) (h : ∀ k c, mlk k mu' = some c → ∃ d, mlk k mu = some d ∧ d.imp c) : Mem E B mu' w H :=
  ⟨⟨fun k c e => by
    obtain ⟨d, d1, d2⟩ := h k c e
    exact d2 _ _ _ _ (m.mm.sat k d d1), m.mm.fit, m.mm.dj, m.mm.djr, m.mm.fitr⟩, m.keep, m.dom, m.anch⟩
/-- a loop: what is told of each round; the rest of frame and memory stays -/
theorem T_loopA {ι : Type} {c : Code} (u : ι → Fr) (um : ι → Mu) (φ : ι → Prop) (m : ι → Nat) (x : ι) (kc kd : List Nat) {fk : Fr} {mk : Mu} (hkf : keepF (modC c []) kc kd fr [] = some fk) (hkm : mdropKs kc mu = some mk) (h0 : φ x) (hf : WkFr E.P fr (u x)) (hm : WkMu mu (um x))
    (body : ∀ y, φ y → T E R c (appF (u y) fk) (appM (um y) mk) (.loop (Inv E (fun y => appF (u y) fk) (fun y => appM (um y) mk) φ m (m y)) :: K)) : T E R (.loop c) fr mu K := fun B a w H f me => by
  have f' : FitsE E B H (appF (u x) fk) [] a := Fits.wk2 f fun t v e => by
    rw [mlk_appF] at e
    cases c1 : mlk t (u x) with
    | some v' => rw [c1] at e; injection e with e; subst e; exact hf.get t _ c1
    | none => rw [c1] at e; simp at e; exact ⟨v, (keepF_get hkf t v e).2, SV.imp_refl _⟩
  have me' : Mem E B (appM (um x) mk) w H := Mem.wk2 me fun k d e => by
    rw [mlk_appM] at e
    cases c1 : mlk k (um x) with
    | some v' => rw [c1] at e; injection e with e; subst e; exact hm.get k _ c1
    | none =>
      rw [c1] at e; simp at e
      rw [mdropKs_spec hkm k] at e
      split at e
      · cases e
      · exact ⟨d, e, Ch.imp_refl _⟩
  refine wp_loop_ghost (fun n a w => ∃ y, φ y ∧ m y = n ∧ FM E (appF (u y) fk) (appM (um y) mk) a w) (m x) ⟨x, h0, rfl, B, H, f', me'⟩ ?_
  rintro n a w ⟨y, hy, rfl, B, H, f, me⟩
  refine wp_mono (body y hy B a w H f me) ?_
  intro e a' w' q
  cases e with
  | normal =>
    obtain ⟨z, z1, z2, z3⟩ := q
    exact ⟨m z, z2, z, z1, rfl, z3⟩
  | exit id => exact q
  | goto l => exact q
  | ret => exact q
  | panic ch => exact q
  | outgrown => exact q
/-! ### closures -/
def capB : List V → Bool
  | [] => true
  | .v _ :: r => capB r
  | .s .r _ _ _ :: r => capB r
  | .rp .r _ _ :: r => capB r
  | _ :: _ => false
theorem cap_up {Z : Tg → PH} {B' : BE} {h : PH} (hl : (Z .r).le h) : ∀ {l : List V} {vs : List Value}, capB l = true → V.rels B Z l vs → V.rels B' (Zf h fun _ => PH.emp) l vs
  | [], _, _, e => e
  | x :: r, _, hc, e => by
    obtain ⟨v, t, e1, e2, e3⟩ := e
    cases x with
    | v y => exact ⟨v, t, e1, e2, cap_up hl hc e3⟩
    | s q sz n f =>
      cases q with
      | r => exact ⟨v, t, e1, D.rd_mono hl (.sl sz n f) e2, cap_up hl hc e3⟩
      | _ => cases hc
    | rp q l o =>
      cases q with
      | r =>
        obtain ⟨b, y, vs, g1, g2, g3⟩ := e2
        exact ⟨v, t, e1, ⟨b, y, vs, g1, D.rds_mono hl l g2, fun j hj => le_cell hl rfl hj (g3 j hj)⟩, cap_up hl hc e3⟩
      | _ => cases hc
    | _ => cases hc
def RD.sv : RD → SV
  | .a x => .a (x.toV .r)
  | .ag l => .ag (l.map (D.toV .r))
theorem RD.rel_sv {P : Program} {Z : Tg → PH} {x : RD} {v : Value} (e : x.rel (Z .r) v) : SV.rel P B Z x.sv v := by
  cases x with
  | a x => exact D.rd_toV (q := .r) e
  | ag l => obtain ⟨vs, e1, e2⟩ := e; exact ⟨vs, e1, D.rds_toV (q := .r) e2⟩
theorem RD.rels_sv {P : Program} {Z : Tg → PH} : ∀ {l : List RD} {vs : List Value}, RD.rels (Z .r) l vs → SV.rels P B Z (l.map RD.sv) vs
  | [], _, e => e
  | x :: r, _, e => by
    obtain ⟨a, t, e1, e2, e3⟩ := e
    exact ⟨a, t, e1, RD.rel_sv e2, RD.rels_sv e3⟩
/-- a closure whose code answers so -/
theorem imp_fb {P : Program} {f : Nat} {caps : List V} {φ : List RD → Value → Prop} (hen : Enters P f) (hc : capB caps = true) (h : ∀ args x, φ args x → Ans P f [] (args.map RD.sv ++ caps.map SV.a) [] (.a (.v x))) : (SV.fn f caps).imp P (.fb φ) := fun B Z v e => by
  obtain ⟨vs, rfl, e2⟩ := e
  refine ⟨f, vs, rfl, hen, fun args x hx w s vals hl hf ha => ?_⟩
  have := Con.ask (h args x hx) rfl rfl (B := B) hf (fun k c e => by cases e) (rels_append (RD.rels_sv (Z := Zf s fun _ => PH.emp) ha) (rels_sva (cap_up hl hc e2)))
  exact this.mono fun e w' ⟨v, h1, h2, h3⟩ => ⟨by rw [h1]; exact congrArg _ (h2 (Zf s fun _ => PH.emp)), h3⟩
theorem SVs.cons {P : Program} {x y : SV} {l m : List SV} (h : x.imp P y) (k : SVs.imp P l m) : SVs.imp P (x :: l) (y :: m) := ⟨y, m, rfl, h, k⟩
/-- a function value's call -/
def fbOf (g : Gd) (fr : Fr) (gf : GF) (o : Op) : Option ((List RD → Value → Prop) × List SV) :=
  match o with
  | .call c => match c.callee with
    | .value x => match ev g fr gf x, evs g fr gf c.args.toList with
      | some (.fb φ), some l => some (φ, l)
      | _, _ => none
    | _ => none
  | _ => none
def rdV : V → Option D
  | .v x => some (.v x)
  | .s .r sz n f => some (.sl sz n f)
  | .rp .r m o => some (.pt m o)
  | _ => none
def rdL : List V → Option (List D)
  | [] => some []
  | x :: r => match rdV x, rdL r with
    | some y, some l => some (y :: l)
    | _, _ => none
def rdS : SV → Option RD
  | .a x => match rdV x with
    | some y => some (.a y)
    | none => none
  | .ag l => match rdL l with
    | some m => some (.ag m)
    | none => none
  | _ => none
def rdSs : List SV → Option (List RD)
  | [] => some []
  | x :: r => match rdS x, rdSs r with
    | some y, some l => some (y :: l)
    | _, _ => none
theorem rdV_ok {Z : Tg → PH} {x : V} {y : D} (h : rdV x = some y) {v : Value} (e : x.rel B Z v) : D.rd (Z .r) y v := by
  cases x with
  | v u => simp [rdV] at h; subst h; exact e
  | s q sz n f =>
    cases q with
    | r => simp [rdV] at h; subst h; exact e
    | _ => simp [rdV] at h
  | rp q l o =>
    cases q with
    | r => simp [rdV] at h; subst h; exact e
    | _ => simp [rdV] at h
  | _ => simp [rdV] at h
theorem rdL_ok {Z : Tg → PH} : ∀ {l : List V} {m : List D}, rdL l = some m → ∀ {vs : List Value}, V.rels B Z l vs → D.rds (Z .r) m vs
  | [], m, h, vs, e => by simp [rdL] at h; subst h; exact e
  | x :: r, m, h, vs, e => by
    simp only [rdL] at h
    split at h
    · rename_i y l e1 e2
      injection h with h; subst h
      obtain ⟨v, t, rfl, g1, g2⟩ := e
      exact ⟨v, t, rfl, rdV_ok e1 g1, rdL_ok e2 g2⟩
    · cases h
theorem rdS_ok {P : Program} {Z : Tg → PH} {x : SV} {y : RD} (h : rdS x = some y) {v : Value} (e : SV.rel P B Z x v) : y.rel (Z .r) v := by
  cases x with
  | a x =>
    simp only [rdS] at h
    split at h
    · rename_i y' e1; injection h with h; subst h; exact rdV_ok e1 e
    · cases h
  | ag l =>
    simp only [rdS] at h
    split at h
    · rename_i y' e1; injection h with h; subst h
      obtain ⟨vs, h1, h2⟩ := e
      exact ⟨vs, h1, rdL_ok e1 h2⟩
    · cases h
  | _ => simp [rdS] at h
theorem rdSs_ok {P : Program} {Z : Tg → PH} : ∀ {l : List SV} {m : List RD}, rdSs l = some m → ∀ {vs : List Value}, SV.rels P B Z l vs → RD.rels (Z .r) m vs
  | [], m, h, vs, e => by simp [rdSs] at h; subst h; exact e
  | x :: r, m, h, vs, e => by
    simp only [rdSs] at h
    split at h
    · rename_i y l e1 e2
      injection h with h; subst h
      obtain ⟨v, t, rfl, g1, g2⟩ := e
      exact ⟨v, t, rfl, rdS_ok e1 g1, rdSs_ok e2 g2⟩
    · cases h
/-- a function value is called: it answers -/
theorem OJ_F {φ : List RD → Value → Prop} {args : List SV} {rds : List RD} {t : Nat} {x : Value} (hc : fbOf [] fr gf o.op = some (φ, args)) (hr : rdSs args = some rds) (hgd : gdrop t gf = some gf') (hx : φ rds x)
    (k : SJ G J E ((t, .a (.v x)) :: fr) gf' mu) (hg : o.guard = none := by exact rfl) (hd : o.dst = some t := by exact rfl) (ht : Nat.blt t E.N = true := by exact rfl) : OJ G E all Q J o fr gf mu := fun B a w H f m gg => by
  obtain ⟨dst, op, type, pos, after, guard⟩ := o
  simp only at hc hg hd
  subst hg; subst hd
  unfold fbOf at hc
  split at hc
  · rename_i c
    obtain ⟨callee, cargs, ats⟩ := c
    simp only at hc
    split at hc
    · rename_i y hy
      split at hc
      · rename_i φ' l e1 e2
        simp only [Option.some.injEq, Prod.mk.injEq] at hc
        obtain ⟨rfl, rfl⟩ := hc
        obtain ⟨fn, cv, h1, h3, h4⟩ := (show ∃ f vs, _ from f.ev (g := []) (fun _ _ hm => by cases hm) e1)
        have h2 := f.evs (g := []) (fun _ _ hm => by cases hm) e2
        have ha : cargs.map a.eval = (cargs.toList.map a.eval).toArray := Array.ext' (by rw [Array.toList_map])
        refine one_call (n := fn) (args := (cargs.toList.map a.eval ++ cv).toArray) (wanted_none rfl) ?_ ((h4 rds x hx w E.r _ (PH.le_refl _) m.mm.fitr (rdSs_ok hr h2)).mono fun e w' ⟨g1, g2⟩ => ⟨x, g1, ?_⟩)
        · simp only [execOp, resolve, h1, Deferred.ofValue, Sem.run_bind, Sem.run_pure, Result.andThen_ok, invoke, ha, Array.empty_append]
          rw [h3]
          congr 2
          simp
        · exact k B _ w' H (Fits.put f (by simpa [Nat.blt_eq] using ht) (show SV.rel E.P B (Zf E.r H) (.a (.v x)) x from rfl) hgd) (m.below g2) gg
      · cases hc
    · cases hc
  · cases hc
theorem RJ_F {φ : List RD → Value → Prop} {args : List SV} {rds : List RD} {t : Nat} {x : Value} (hc : fbOf [] fr gf o.op = some (φ, args)) (hr : rdSs args = some rds) (hgd : gdrop t gf = some gf') (hx : φ rds x)
    (k : RJ E all Q rest ((t, .a (.v x)) :: fr) gf' mu) (hg : o.guard = none := by exact rfl) (hd : o.dst = some t := by exact rfl) (ht : Nat.blt t E.N = true := by exact rfl) : RJ E all Q (o :: rest) fr gf mu :=
  RJ_of (OJ_F hc hr hgd hx (SJ_of k) hg hd ht)
/-- a call that answers, where a closure is handed on -/
theorem RJ_QF (hT : TOk E.P TT) {f : Nat} {ks : List Nat} {args : List SV} {mu1 : Mu} {res : SV} (C : Ans E.P f ks args mu1 res) {svs args' : List SV} {g : Option (Nat × Nat × Bool)} {t : Nat} {q : Ob} {es0 : List Prop} {gs0 : List GO} {js : JS} {es : List Prop} {gs : List GO}
    (hc : callC E.N all fr gf o = some (f, svs, g, t, gf')) (hw : wkSL mu [] ks svs = some (args', q)) (ha : SVs.imp E.P args' args) (hs : splitO fr gf (match g with | none => [] | some (_, d, b) => acts 6 gf d b) q [] [] = some (es0, gs0))
    (hau : goR TT E.N E.A.ks (auto TT E.N E.A.ks 400) all rest (frQ fr g t res) (gfQ gf' g t res) mu K es0 gs0 = some (js, es, gs)) (k : js.ok E R)
    (hko : keysO mu1 = [] := by exact rfl) (hres : res.inK ks = true := by exact rfl) (hin : WkIn mu mu1 := by repeat (first | exact trivial | refine And.intro ⟨_, rfl, ro_arr⟩ ?_ | refine And.intro ⟨_, rfl, ro_ro⟩ ?_ | refine And.intro ⟨_, rfl, ro_row⟩ ?_ | refine And.intro ⟨_, rfl, Ch.imp_refl _⟩ ?_)) (hen : Enters E.P f := by exact enters_B (by kernel_rfl)) (he : PAlls es := by repeat (first | exact trivial | refine And.intro rfl ?_)) (ho : GAlls gs := by first | exact trivial | ((simp only [GAlls, GO.p, InR]; (repeat' (first | exact trivial | refine And.intro ?_ ?_ | refine fun _ => ?_)) <;> first | omega | (simp only [decide_eq_true_eq, decide_eq_false_iff_not, Int.toNat_natCast] at *; omega) | (simp at *; omega)))) :
    RJ E all (KQ E.P R K) (o :: rest) fr gf mu := by
  obtain ⟨h1, h2⟩ := goR_ok hT (auto_ok hT 400) hau ⟨he, ho⟩
  exact RJ_of (OJ_Q C hc rfl hen hko hres hw ha hs h1.1 h1.2 hin (SJ_of (h2 k)))
end
end
end Go.Proofs.YtpfcfepbhdkpdaaGreat
