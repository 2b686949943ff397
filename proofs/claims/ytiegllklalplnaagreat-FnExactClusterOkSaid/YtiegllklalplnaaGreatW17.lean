
/-
  Calls that only answer; calls, and on.
-/
import Derived.Test.YtiegllklalplnaaGreatW16
namespace Go.Proofs.YtiegllklalplnaaGreat
open Go Go.RowKit
set_option linter.unusedVariables false
set_option linter.unusedSimpArgs false

/-- a call that answers, and changes nothing -/
abbrev Ans (P : Program) (f : Nat) (ks : List Nat) (args : List SV) (mu : Mu) (res : SV) : Prop := Con P f ks args mu (fun _ : Unit => True) (fun _ => [res]) fun _ => []
theorem Keep.none {D : Nat → Nat → Prop} {w w' : World} (h : Keep D w w') (n : ∀ b o, ¬ D b o) : Below w.heap.size w w' := (h.mono fun b _ o hd => (n b o hd).elim : Keep noD w w').below
section
variable {E : Env} {B : BE} {mu mu' : Mu} {w : World} {H : Nat → PH} {TT : List TI} {fr fr' : Fr} {gf gf' : GF} {a : Act} {all rest : List Oper} {Q : Exit → Act → World → Prop} {o : Oper} {J : Act → World → Prop} {G : AG} {R : Exit → Act → World → Prop} {K : List KF}
theorem Con.ask {P : Program} {f : Nat} {ks : List Nat} {args : List SV} {mu1 : Mu} {res : SV} (C : Ans P f ks args mu1 res) (hko : keysO mu1 = []) (hres : res.inK ks = true) {B : BE} {s : PH} {w : World} {vals : List Value} (hf : Fit s w) (hs : ∀ k c, mlk k mu1 = some c → c.sat B s PH.emp k) (ha : SV.rels P B (Zf s fun _ => PH.emp) args vals) :
    Calls P f vals.toArray w fun e w' => ∃ v, e = .returned v ∧ (∀ Z, SV.rel P B Z res v) ∧ Below w.heap.size w w' := by
  refine (C B s w (fun _ => PH.emp) vals ⟨hs, fun _ => Fit.emp w, fun _ _ _ => PH.emp_dj _, fun _ => PH.emp_dj _, hf⟩ (fun _ _ => rfl) ha).mono ?_
  rintro e w' ⟨y, B', H', out, _, h2, h3, _, h5, h6, _⟩
  obtain ⟨v, t, rfl, h7, h8⟩ := h3
  have h8 : t = [] := h8
  subst h8
  exact ⟨v, h2, fun Z => SV.inK_rel (fun k hk => (h5 k hk).symm) res hres h7, Keep.none h6 fun b o ⟨k, h, _⟩ => by rw [hko] at h; cases h⟩
/-- what is read from memory: r and the chunks of mu, in one -/
noncomputable def ReadP (r : PH) (mu : Mu) (H : Nat → PH) : PH := fun b o => match r b o with
  | some v => some v
  | none => open Classical in if h : ∃ v k, (∃ c, mlk k mu = some c) ∧ H k b o = some v then some h.choose else none
theorem ReadP_fit {r : PH} (m : Mr B r mu w H) : Fit (ReadP r mu H) w := fun b o v e => by
  unfold ReadP at e
  cases hr : r b o with
  | some u => rw [hr] at e; injection e with e; subst e; exact m.fitr b o _ hr
  | none =>
    rw [hr] at e
    simp only at e
    split at e
    · rename_i h
      injection e with e
      obtain ⟨k, ⟨c, hc⟩, hk⟩ := h.choose_spec
      rw [e] at hk
      exact m.fit k c hc b o v hk
    · cases e
theorem ReadP_le {r : PH} (m : Mr B r mu w H) {k : Nat} {c : Ch} (hc : mlk k mu = some c) : (H k).le (ReadP r mu H) := fun b o v e => by
  have hr : r b o = none := (m.djr k b o).resolve_left (by rw [e]; simp)
  have h : ∃ v k, (∃ c, mlk k mu = some c) ∧ H k b o = some v := ⟨v, k, ⟨c, hc⟩, e⟩
  unfold ReadP
  rw [hr]
  simp only
  rw [dif_pos h]
  obtain ⟨k', _, hk⟩ := h.choose_spec
  by_cases hkk : k' = k
  · subst hkk; rw [e] at hk; injection hk with hk; rw [hk]
  · rcases m.dj k' k hkk b o with h1 | h1
    · rw [h1] at hk; cases hk
    · rw [h1] at e; cases e
theorem ReadP_r {r : PH} : r.le (ReadP r mu H) := fun b o v e => by
  unfold ReadP
  rw [e]
/-- the memory that an answering callee is handed -/
theorem Mr.hand {r : PH} (m : Mr B r mu w H) : ∀ {mu1 : Mu}, keysO mu1 = [] → WkIn mu mu1 → ∀ k c, mlk k mu1 = some c → c.sat B (ReadP r mu H) PH.emp k
  | [], _, _, k, c, h => by cases h
  | (j, d) :: l, ho, hin, k, c, h => by
    rw [mlk_cons] at h
    have hd : d.own? = false ∧ keysO l = [] := by
      simp only [keysO] at ho
      cases e : d.own? with
      | true => rw [e] at ho; cases ho
      | false => rw [e] at ho; exact ⟨rfl, ho⟩
    by_cases hj : j = k
    · rw [if_pos hj] at h
      injection h with h; subst h; subst hj
      obtain ⟨⟨c0, h1, h2⟩, _⟩ := hin
      have hs := m.sat j c0 h1
      cases d with
      | ro sz n f => exact h2 _ _ _ _ _ hs ReadP_r (ReadP_le m h1)
      | rrow l => exact h2 _ _ _ _ _ hs ReadP_r (ReadP_le m h1)
      | _ => cases hd.1
    · rw [if_neg hj] at h
      exact m.hand hd.2 hin.2 k c h
/-- the call, in every world in which the memory lies so -/
theorem ans_run {P : Program} {r : PH} {f : Nat} {ks : List Nat} {args : List SV} {mu1 : Mu} {res : SV} (C : Ans P f ks args mu1 res) (hko : keysO mu1 = []) (hres : res.inK ks = true) (m : Mr B r mu w H) {svs args' : List SV} {q : Ob} (hw : wkSL mu [] ks svs = some (args', q)) (ha : SVs.imp P args' args) (hq : Alls q) (hin : WkIn mu mu1) {vals : List Value} (hv : SV.rels P B (Zf r H) svs vals) :
    Calls P f vals.toArray w fun e w' => ∃ v, e = .returned v ∧ (∀ Z, SV.rel P B Z res v) ∧ Below w.heap.size w w' := by
  have W : Wk B r mu H [] (ReadP r mu H) := ⟨m.sat, ReadP_r, fun k c hc _ => ReadP_le m hc⟩
  exact C.ask hko hres (ReadP_fit m) (m.hand hko hin) (SVs.imp_ok ha (wkSL_ok (Z := Zf (ReadP r mu H) fun _ => PH.emp) W rfl hw hq hv))
theorem OJ_Q {f : Nat} {ks : List Nat} {args : List SV} {mu1 : Mu} {res : SV} (C : Ans E.P f ks args mu1 res) {svs args' : List SV} {g : Option (Nat × Nat × Bool)} {t : Nat} {q : Ob} {gd : Gd} {es : List Prop} {gs : List GO}
    (hc : callC E.N all fr gf o = some (f, svs, g, t, gf')) (hgd : gd = match g with | none => [] | some (_, d, b) => acts 6 gf d b) (hen : Enters E.P f) (hko : keysO mu1 = []) (hres : res.inK ks = true)
    (hw : wkSL mu [] ks svs = some (args', q)) (ha : SVs.imp E.P args' args) (hs : splitO fr gf gd q [] [] = some (es, gs)) (he : PAlls es) (ho : GAlls gs) (hin : WkIn mu mu1)
    (k : SJ G J E (frQ fr g t res) (gfQ gf' g t res) mu) : OJ G E all Q J o fr gf mu := fun B a w H f m gg => by
  match g, hc, hgd with
  | none, hc, hgd =>
    subst hgd
    obtain ⟨h1, h2, h3, h4, h5⟩ := callC_none hc
    obtain ⟨vals, r1, r2⟩ := callsOf_run (w := w) f (fun _ _ hm => by cases hm) h4 hen
    refine one_call (wanted_none h1) r1 ((ans_run C hko hres m.mr hw ha (splitO_ok f (fun _ _ hm => by cases hm) hs he ho) hin r2).mono fun e w' ⟨v, c1, c2, c3⟩ => ⟨v, c1, ?_⟩)
    rw [h2]
    exact k B _ w' H (Fits.put f (by simpa [Nat.blt_eq] using h3) (c2 _) h5) (m.below c3) gg
  | some (j, d, b), hc, hgd =>
    subst hgd
    obtain ⟨h1, h2, h3, h4, h5, h6, h7⟩ := callC_some hc
    simp only [Bool.and_eq_true, Bool.not_eq_true'] at h4
    have htd : t ≠ d := Nat.ne_of_beq_eq_false h4.2
    have htN : t < E.N := by simpa [Nat.blt_eq] using h4.1
    have hwt := wanted_some (ops := all.toArray) (a := a) h1 (gslot_ops h2)
    by_cases hyes : a.tmps.getD d undef = .bool b
    · have hacts := acts_ok f 6 d b hyes
      obtain ⟨vals, r1, r2⟩ := callsOf_run (w := w) f hacts h6 hen
      refine one_call (hwt.2 hyes) r1 ((ans_run C hko hres m.mr hw ha (splitO_ok f hacts hs he ho) hin r2).mono fun e w' ⟨v, c1, c2, c3⟩ => ⟨v, c1, ?_⟩)
      rw [h3]
      exact k B _ w' H (Fits.putG f htN htd h5 h7 (.inl ⟨hyes, c2 _⟩)) (m.below c3) gg
    · refine one_off (by
        cases e : Region.wanted o (yielded all.toArray a.tmps) with
        | false => rfl
        | true => exact absurd (hwt.1 e) hyes) ?_
      rw [h3]
      exact k B _ w H (Fits.putG f htN htd h5 h7 (.inr ⟨hyes, rfl⟩)) m gg
/-- a call that answers, and on -/
theorem RJ_Q (hT : TOk E.P TT) {f : Nat} {ks : List Nat} {args : List SV} {mu1 : Mu} {res : SV} (C : Ans E.P f ks args mu1 res) {svs args' : List SV} {g : Option (Nat × Nat × Bool)} {t : Nat} {q : Ob} {es0 : List Prop} {gs0 : List GO} {js : JS} {es : List Prop} {gs : List GO}
    (hc : callC E.N all fr gf o = some (f, svs, g, t, gf')) (hw : wkSL mu [] ks svs = some (args', q)) (ha : args' = args) (hs : splitO fr gf (match g with | none => [] | some (_, d, b) => acts 6 gf d b) q [] [] = some (es0, gs0))
    (hau : goR TT E.N E.A.ks (auto TT E.N E.A.ks 400) all rest (frQ fr g t res) (gfQ gf' g t res) mu K es0 gs0 = some (js, es, gs)) (k : js.ok E R)
    (hko : keysO mu1 = [] := by exact rfl) (hres : res.inK ks = true := by exact rfl) (hin : WkIn mu mu1 := by repeat (first | exact trivial | refine And.intro ⟨_, rfl, ro_arr⟩ ?_ | refine And.intro ⟨_, rfl, ro_ro⟩ ?_ | refine And.intro ⟨_, rfl, Ch.imp_refl _⟩ ?_)) (hen : Enters E.P f := by exact enters_B (by kernel_rfl)) (he : PAlls es := by repeat (first | exact trivial | refine And.intro rfl ?_)) (ho : GAlls gs := by first | exact trivial | ((simp only [GAlls, GO.p, InR]; (repeat' (first | exact trivial | refine And.intro ?_ ?_ | refine fun _ => ?_)) <;> first | omega | (simp only [decide_eq_true_eq, decide_eq_false_iff_not, Int.toNat_natCast] at *; omega) | (simp at *; omega)))) :
    RJ E all (KQ E.P R K) (o :: rest) fr gf mu := by
  obtain ⟨h1, h2⟩ := goR_ok hT (auto_ok hT 400) hau ⟨he, ho⟩
  subst ha
  exact RJ_of (OJ_Q C hc rfl hen hko hres hw (SVs.imp_refl _) hs h1.1 h1.2 hin (SJ_of (h2 k)))
/-- the same, obligations left open -/
theorem RJ_QO (hT : TOk E.P TT) {f : Nat} {ks : List Nat} {args : List SV} {mu1 : Mu} {res : SV} (C : Ans E.P f ks args mu1 res) {svs args' : List SV} {g : Option (Nat × Nat × Bool)} {t : Nat} {q : Ob} {es0 : List Prop} {gs0 : List GO} {js : JS} {es : List Prop} {gs : List GO}
    (hc : callC E.N all fr gf o = some (f, svs, g, t, gf')) (hw : wkSL mu [] ks svs = some (args', q)) (ha : SVs.imp E.P args' args) (hs : splitO fr gf (match g with | none => [] | some (_, d, b) => acts 6 gf d b) q [] [] = some (es0, gs0))
    (hau : goR TT E.N E.A.ks (auto TT E.N E.A.ks 400) all rest (frQ fr g t res) (gfQ gf' g t res) mu K es0 gs0 = some (js, es, gs)) (ho : GAlls gs) (k : js.ok E R)
    (hko : keysO mu1 = [] := by exact rfl) (hres : res.inK ks = true := by exact rfl) (hin : WkIn mu mu1 := by repeat (first | exact trivial | refine And.intro ⟨_, rfl, ro_arr⟩ ?_ | refine And.intro ⟨_, rfl, ro_ro⟩ ?_ | refine And.intro ⟨_, rfl, Ch.imp_refl _⟩ ?_)) (hen : Enters E.P f := by exact enters_B (by kernel_rfl)) (he : PAlls es := by repeat (first | exact trivial | refine And.intro rfl ?_)) :
    RJ E all (KQ E.P R K) (o :: rest) fr gf mu := by
  obtain ⟨h1, h2⟩ := goR_ok hT (auto_ok hT 400) hau ⟨he, ho⟩
  exact RJ_of (OJ_Q C hc rfl hen hko hres hw ha hs h1.1 h1.2 hin (SJ_of (h2 k)))
/-- any call, and on -/
theorem RJ_C (hT : TOk E.P TT) {ι : Type} {f : Nat} {ks nk : List Nat} {args : List SV} {mu1 : Mu} {φ : ι → Prop} {res : ι → List SV} {mu1' : ι → Mu} (C : Con E.P f ks args mu1 φ res mu1') {svs args' : List SV} {g : Option (Nat × Nat × Bool)} {t : Nat} {q : Ob} {es : List Prop} {gs : List GO} {md : Mu}
    (hc : callC E.N all fr gf o = some (f, svs, g, t, gf')) (hw : wkSL mu (keysO mu1) ks svs = some (args', q)) (ha : SVs.imp E.P args' args) (hnk : ∀ y, keysOf (mu1' y) = nk) (hs : splitO fr gf [] q [] [] = some (es, gs)) (hmd : mdropKs (appK (keysO mu1) nk) mu = some md) {fr' : Fr} {gf2 : GF} (hcut : cutKs (keysO mu1) fr gf' = some (fr', gf2))
    (k : ∀ y, φ y → RJ E all (KQ E.P R K) rest ((t, resS (res y)) :: fr') gf2 (appM (mu1' y) md))
    (hin : WkIn mu mu1 := by repeat (first | exact trivial | refine And.intro ⟨_, rfl, ro_arr⟩ ?_ | refine And.intro ⟨_, rfl, ro_ro⟩ ?_ | refine And.intro ⟨_, rfl, Ch.imp_refl _⟩ ?_)) (hg : litG fr gf g := by first | exact trivial | exact ⟨rfl, rfl⟩) (hkeys : keysB ks nk mu1 fr gf mu E.A.ks [] = true := by exact rfl) (hout : ∀ y, (SV.inKL (appK ks nk) (res y) && muIn (appK ks nk) (mu1' y)) = true := by exact fun _ => rfl) (hen : Enters E.P f := by exact enters_B (by kernel_rfl)) (he : PAlls es := by repeat (first | exact trivial | refine And.intro rfl ?_)) (ho : GAlls gs := by first | exact trivial | ((simp only [GAlls, GO.p, InR]; (repeat' (first | exact trivial | refine And.intro ?_ ?_ | refine fun _ => ?_)) <;> first | omega | (simp only [decide_eq_true_eq, decide_eq_false_iff_not, Int.toNat_natCast] at *; omega) | (simp at *; omega)))) :
    RJ E all (KQ E.P R K) (o :: rest) fr gf mu :=
  RJ_of (OJ_C (G := AG.nil) C hc hg hen hw ha hs he ho hin hnk hkeys hout hmd hcut fun y hy => SJ_of (k y hy))
end
end Go.Proofs.YtiegllklalplnaaGreat
