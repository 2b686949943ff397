
/-
  Contracts told more weakly; arrays whose elements are told otherwise.
-/
import Derived.Test.YtiegllklalplnaaGreatW21
namespace Go.Proofs.YtiegllklalplnaaGreat
open Go Go.RowKit
set_option linter.unusedVariables false
set_option linter.unusedSimpArgs false

theorem Con.wkA {ι : Type} {P : Program} {f : Nat} {ks : List Nat} {args args' : List SV} {mu : Mu} {φ : ι → Prop} {res : ι → List SV} {mu' : ι → Mu} (C : Con P f ks args mu φ res mu') (h : SVs.imp P args' args) : Con P f ks args' mu φ res mu' :=
  fun B r w H vals m he ha => C B r w H vals m he (SVs.imp_ok h ha)
theorem Mm.wk {B : BE} {r : PH} {mu mu' : Mu} {w : World} {H : Nat → PH} (m : Mm B r mu w H) (h : WkMu mu mu') : Mm B r mu' w H := ⟨fun k c e => by
  obtain ⟨d, h1, h2⟩ := h.get k c e
  exact h2 _ _ _ _ (m.sat k d h1), m.fit, m.dj, m.djr, m.fitr⟩
theorem Con.wkM {ι : Type} {P : Program} {f : Nat} {ks : List Nat} {args : List SV} {mu : Mu} {φ : ι → Prop} {res : ι → List SV} {mu' mu'' : ι → Mu} (C : Con P f ks args mu φ res mu') (h : ∀ y, φ y → WkMu (mu' y) (mu'' y)) : Con P f ks args mu φ res mu'' :=
  fun B r w H vals m he ha => (C B r w H vals m he ha).mono fun e w' ⟨y, B', H', out, h1, h2, h3, h4, h5⟩ => ⟨y, B', H', out, h1, h2, h3, h4.wk (h y h1), h5⟩
theorem Con.wkR {ι : Type} {P : Program} {f : Nat} {ks : List Nat} {args : List SV} {mu : Mu} {φ : ι → Prop} {res res' : ι → List SV} {mu' : ι → Mu} (C : Con P f ks args mu φ res mu') (h : ∀ y, φ y → SVs.imp P (res y) (res' y)) : Con P f ks args mu φ res' mu' :=
  fun B r w H vals m he ha => (C B r w H vals m he ha).mono fun e w' ⟨y, B', H', out, h1, h2, h3, h4⟩ => ⟨y, B', H', out, h1, h2, SVs.imp_ok (h y h1) h3, h4⟩
theorem SV.imp.trans {P : Program} {x y z : SV} (h : x.imp P y) (k : y.imp P z) : x.imp P z := fun _ _ _ e => k _ _ _ (h _ _ _ e)
/-- cells owned as l are owned as m -/
def OwnI (l m : List D) : Prop := ∀ h vs, D.owns h l vs → D.owns h m vs
theorem OwnI.e : OwnI [] [] := fun _ _ e => e
theorem OwnI.refl (l : List D) : OwnI l l := fun _ _ e => e
theorem OwnI.c {x : D} {l m : List D} (k : OwnI l m) : OwnI (x :: l) (x :: m) := fun h vs ⟨y, t, h1, h2, e1, e2, e3, e4, e5, e6⟩ => ⟨y, t, h1, h2, e1, e2, e3, e4, e5, k _ _ e6⟩
theorem own_nil {h : PH} {sz : Nat} {f : Nat → List D} : D.own h (.sl sz 0 f) (.slice none 0 0) := ⟨none, 0, rfl, Nat.le_refl _, Nat.zero_le _, .inl rfl⟩
theorem OwnI.n {sz : Nat} {f : Nat → List D} {l m : List D} (k : OwnI l m) : OwnI (.v (.slice none 0 0) :: l) (.sl sz 0 f :: m) := fun h vs ⟨y, t, h1, h2, e1, e2, e3, e4, e5, e6⟩ => ⟨y, t, h1, h2, e1, e2, e3, e4, by
  have e5 : y = .slice none 0 0 := e5
  subst e5; exact own_nil, k _ _ e6⟩
theorem OwnI.of {l m : List D} (e : l = m) : OwnI l m := by subst e; exact OwnI.refl l
theorem Ch.imp_own {sz n m : Nat} {f g : Nat → List D} (hn : n = m) (k : ∀ i, i < n → OwnI (f i) (g i)) : (Ch.arr sz n f).imp (.arr sz m g) := by
  subst hn
  intro B r h j s
  obtain ⟨A, c, e1, e2, e3, e4⟩ := (show D.own _ _ _ from s)
  refine ⟨A, c, e1, e2, e3, e4.imp id fun ⟨b, o, rw0, H, e5, e6, e7, e8⟩ => ⟨b, o, rw0, H, e5, fun i hi => ?_, e7, e8⟩⟩
  obtain ⟨r1, r2, r3⟩ := e6 i hi
  exact ⟨k i hi _ _ r1, r2, r3⟩
/-- a function value that answers q on what S holds of -/
abbrev fbP {α : Type} (S : α → Prop) (rd : α → List RD) (q : α → Value) : SV := .fb fun args v => ∃ x, S x ∧ args = rd x ∧ v = q x
section
variable {E : Env} {B : BE} {mu mu' : Mu} {w : World} {H : Nat → PH} {TT : List TI} {fr fr' : Fr} {gf gf' : GF} {a : Act} {all rest : List Oper} {Q : Exit → Act → World → Prop} {o : Oper} {J : Act → World → Prop} {G : AG} {R : Exit → Act → World → Prop} {K : List KF}
/-- it leans on nothing but what is read -/
def V.rO : V → Bool
  | .v _ => true
  | .s .r _ _ _ => true
  | .rp .r _ _ => true
  | _ => false
def SV.rO : SV → Bool
  | .a x => x.rO
  | .ag l => allL V.rO l
  | .tu l => go l
  | _ => false
where go : List SV → Bool
  | [] => true
  | x :: r => SV.rO x && go r
theorem V.rO_rel {B B' : BE} {s : PH} {H H' : Nat → PH} : ∀ {x : V} {y : Value}, x.rO = true → x.rel B (Zf s H) y → x.rel B' (Zf s H') y
  | .v _, _, _, e => e
  | .s .r _ _ _, _, _, e => e
  | .rp .r _ _, _, _, e => e
theorem V.rO_rels {B B' : BE} {s : PH} {H H' : Nat → PH} : ∀ {l : List V} {y : List Value}, allL V.rO l = true → V.rels B (Zf s H) l y → V.rels B' (Zf s H') l y
  | [], _, _, e => e
  | x :: r, y, h, e => by
    obtain ⟨h1, h2⟩ := allL_cons h
    obtain ⟨a, t, e1, e2, e3⟩ := e
    exact ⟨a, t, e1, V.rO_rel h1 e2, V.rO_rels h2 e3⟩
mutual
theorem SV.rO_rel {P : Program} {B B' : BE} {s : PH} {H H' : Nat → PH} : ∀ (x : SV) {y : Value}, x.rO = true → SV.rel P B (Zf s H) x y → SV.rel P B' (Zf s H') x y
  | .a x, _, h, e => V.rO_rel h e
  | .ag l, _, h, e => by obtain ⟨vs, e1, e2⟩ := e; exact ⟨vs, e1, V.rO_rels h e2⟩
  | .tu l, _, h, e => by obtain ⟨vs, e1, e2⟩ := e; exact ⟨vs, e1, SV.rO_rels l h e2⟩
  | .fn _ _, _, h, _ => by cases h
  | .fb _, _, h, _ => by cases h
  | .un, _, h, _ => by cases h
theorem SV.rO_rels {P : Program} {B B' : BE} {s : PH} {H H' : Nat → PH} : ∀ (l : List SV) {y : List Value}, SV.rO.go l = true → SV.rels P B (Zf s H) l y → SV.rels P B' (Zf s H') l y
  | [], _, _, e => e
  | x :: r, y, h, e => by
    simp only [SV.rO.go, Bool.and_eq_true] at h
    obtain ⟨a, t, e1, e2, e3⟩ := e
    exact ⟨a, t, e1, SV.rO_rel x h.1 e2, SV.rO_rels r h.2 e3⟩
end
theorem Con.askR {P : Program} {f : Nat} {args : List SV} {res : SV} (C : Ans P f [] args [] res) (hres : res.rO = true) {B : BE} {s : PH} {w : World} {vals : List Value} (hf : Fit s w) (ha : SV.rels P B (Zf s fun _ => PH.emp) args vals) :
    Calls P f vals.toArray w fun e w' => ∃ v, e = .returned v ∧ (∀ B' H', SV.rel P B' (Zf s H') res v) ∧ Below w.heap.size w w' := by
  refine (C B s w (fun _ => PH.emp) vals ⟨(fun k c e => by cases e), fun _ => Fit.emp w, fun _ _ _ => PH.emp_dj _, fun _ => PH.emp_dj _, hf⟩ (fun _ _ => rfl) ha).mono ?_
  rintro e w' ⟨y, B1, H1, out, _, h2, h3, _, h5, h6, _⟩
  obtain ⟨v, t, rfl, h7, h8⟩ := h3
  have h8 : t = [] := h8
  subst h8
  exact ⟨v, h2, fun B' H' => SV.rO_rel res hres h7, Keep.none h6 fun b o ⟨k, h, _⟩ => by cases h⟩
theorem ans_runR {P : Program} {r : PH} {f : Nat} {args : List SV} {res : SV} (C : Ans P f [] args [] res) (hres : res.rO = true) (hf : Fit r w) {svs args' : List SV} {q : Ob} (hw : wkSL [] [] [] svs = some (args', q)) (ha : SVs.imp P args' args) (hq : Alls q) {vals : List Value} (hv : SV.rels P B (Zf r H) svs vals) :
    Calls P f vals.toArray w fun e w' => ∃ v, e = .returned v ∧ (∀ B' H', SV.rel P B' (Zf r H') res v) ∧ Below w.heap.size w w' := by
  have W : Wk B r [] H [] r := ⟨(fun k c e => by cases e), PH.le_refl _, (fun k c e => by cases e)⟩
  exact C.askR hres hf (SVs.imp_ok ha (wkSL_ok (Z := Zf r fun _ => PH.emp) W rfl hw hq hv))
/-- a query whose answer lies in what is read: all that it is handed lies there, too -/
theorem OJ_QR {f : Nat} {args : List SV} {res : SV} (C : Ans E.P f [] args [] res) {svs args' : List SV} {g : Option (Nat × Nat × Bool)} {t : Nat} {q : Ob} {gd : Gd} {es : List Prop} {gs : List GO}
    (hc : callC E.N all fr gf o = some (f, svs, g, t, gf')) (hgd : gd = match g with | none => [] | some (_, d, b) => acts 6 gf d b) (hen : Enters E.P f) (hres : res.rO = true)
    (hw : wkSL [] [] [] svs = some (args', q)) (ha : SVs.imp E.P args' args) (hs : splitO fr gf gd q [] [] = some (es, gs)) (he : PAlls es) (ho : GAlls gs)
    (k : SJ G J E (frQ fr g t res) (gfQ gf' g t res) mu) : OJ G E all Q J o fr gf mu := fun B a w H f m gg => by
  match g, hc, hgd with
  | none, hc, hgd =>
    subst hgd
    obtain ⟨h1, h2, h3, h4, h5⟩ := callC_none hc
    obtain ⟨vals, r1, r2⟩ := callsOf_run (w := w) f (fun _ _ hm => by cases hm) h4 hen
    refine one_call (wanted_none h1) r1 ((ans_runR C hres m.mr.fitr hw ha (splitO_ok f (fun _ _ hm => by cases hm) hs he ho) r2).mono fun e w' ⟨v, c1, c2, c3⟩ => ⟨v, c1, ?_⟩)
    rw [h2]
    exact k B _ w' H (Fits.put f (by simpa [Nat.blt_eq] using h3) (c2 _ _) h5) (m.below c3) gg
  | some (j, d, b), hc, hgd =>
    subst hgd
    obtain ⟨h1, h2, h3, h4, h5, h6, h7⟩ := callC_some hc
    simp only [Bool.and_eq_true, Bool.not_eq_true'] at h4
    have htd : t ≠ d := Nat.ne_of_beq_eq_false h4.2
    have htN : t < E.N := by simpa [Nat.blt_eq] using h4.1
    have hwt := wanted_some (ops := all.toArray) (a := a) h1 (gslot_ops h2)
    by_cases hyes : a.tmps.getD d undef = .bool b
    · have hacts := acts_ok f 6 d b hyes
      obtain ⟨vals, r1, r2⟩ := callsOf_run (w := w) f hacts h6 hen
      refine one_call (hwt.2 hyes) r1 ((ans_runR C hres m.mr.fitr hw ha (splitO_ok f hacts hs he ho) r2).mono fun e w' ⟨v, c1, c2, c3⟩ => ⟨v, c1, ?_⟩)
      rw [h3]
      exact k B _ w' H (Fits.putG f htN htd h5 h7 (.inl ⟨hyes, c2 _ _⟩)) (m.below c3) gg
    · refine one_off (by
        cases e : Region.wanted o (yielded all.toArray a.tmps) with
        | false => rfl
        | true => exact absurd (hwt.1 e) hyes) ?_
      rw [h3]
      exact k B _ w H (Fits.putG f htN htd h5 h7 (.inr ⟨hyes, rfl⟩)) m gg
theorem RJ_QR (hT : TOk E.P TT) {f : Nat} {args : List SV} {res : SV} (C : Ans E.P f [] args [] res) {svs args' : List SV} {g : Option (Nat × Nat × Bool)} {t : Nat} {q : Ob} {es0 : List Prop} {gs0 : List GO} {js : JS} {es : List Prop} {gs : List GO}
    (hc : callC E.N all fr gf o = some (f, svs, g, t, gf')) (hw : wkSL [] [] [] svs = some (args', q)) (ha : SVs.imp E.P args' args) (hs : splitO fr gf (match g with | none => [] | some (_, d, b) => acts 6 gf d b) q [] [] = some (es0, gs0))
    (hau : goR TT E.N E.A.ks (auto TT E.N E.A.ks 400) all rest (frQ fr g t res) (gfQ gf' g t res) mu K es0 gs0 = some (js, es, gs)) (k : js.ok E R)
    (hres : res.rO = true := by exact rfl) (hen : Enters E.P f := by exact enters_B (by kernel_rfl)) (he : PAlls es := by repeat (first | exact trivial | refine And.intro rfl ?_)) (ho : GAlls gs := by first | exact trivial | ((simp only [GAlls, GO.p, InR]; (repeat' (first | exact trivial | refine And.intro ?_ ?_ | refine fun _ => ?_)) <;> first | omega | (simp only [decide_eq_true_eq, decide_eq_false_iff_not, Int.toNat_natCast] at *; omega) | (simp at *; omega)))) :
    RJ E all (KQ E.P R K) (o :: rest) fr gf mu := by
  obtain ⟨h1, h2⟩ := goR_ok hT (auto_ok hT 400) hau ⟨he, ho⟩
  exact RJ_of (OJ_QR C hc rfl hen hres hw ha hs h1.1 h1.2 (SJ_of (h2 k)))
/-- a call that only answers, where a closure is handed on, in a region that draws -/
theorem DJ_QF (hT : TOk E.P TT) {n : Nat} {tk is' tk' : List Nat} {f : Nat} {ks : List Nat} {args : List SV} {mu1 : Mu} {res : SV} (C : Ans E.P f ks args mu1 res) {svs args' : List SV} {g : Option (Nat × Nat × Bool)} {t : Nat} {q : Ob} {es0 es : List Prop} {gs0 gs : List GO} (hi : nth all tk.length = some o)
    (hc : callC E.N all fr gf o = some (f, svs, g, t, gf')) (hw : wkSL (muR G.ks mu) [] ks svs = some (args', q)) (hae : SVs.imp E.P args' args) (hs : splitO fr gf (match g with | none => [] | some (_, d, b) => acts 6 gf d b) q [] [] = some (es0, gs0)) {gf3 : GF}
    (ha : drun TT E.N all (muR G.ks mu) (iota (tk.length + 1) n) (frQ fr g t res) (gfQ gf' g t res) (tk.length :: tk) es0 gs0 = some (is', fr', gf3, tk', es, gs)) (k : DJ G E all (KQ E.P R K) is'.length tk' fr' gf3 mu)
    {x : Value} (hx : exV res = some x := by exact rfl) (hR : PQ R := by exact pq_body _ _) (hb : (takeB all.toArray tk tk.length && tookB all.toArray (iota (tk.length + 1) n) is' (tk.length :: tk)) = true := by kernel_rfl)
    (hko : keysO mu1 = [] := by exact rfl) (hres : res.inK ks = true := by exact rfl) (hin : WkIn (muR G.ks mu) mu1 := by repeat (first | exact trivial | refine And.intro ⟨_, rfl, ro_arr⟩ ?_ | refine And.intro ⟨_, rfl, ro_ro⟩ ?_ | refine And.intro ⟨_, rfl, Ch.imp_refl _⟩ ?_)) (hen : Enters E.P f := by exact enters_B (by kernel_rfl)) (he : PAlls es := by repeat (first | exact trivial | refine And.intro rfl ?_)) (ho : GAlls gs := by first | exact trivial | ((simp only [GAlls, GO.p, InR]; (repeat' (first | exact trivial | refine And.intro ?_ ?_ | refine fun _ => ?_)) <;> first | omega | (simp only [decide_eq_true_eq, decide_eq_false_iff_not, Int.toNat_natCast] at *; omega) | (simp at *; omega)))) : DJ G E all (KQ E.P R K) (n + 1) tk fr gf mu := by
  simp only [Bool.and_eq_true] at hb
  obtain ⟨h3, h2⟩ := (drun_took (G := G) (K := K) hT hR _ _ _ _ _ _ ha).2 hb.2 ⟨he, ho⟩
  have h2 := h2 k
  rw [iota_length] at h2
  exact DJ_q hR _ C hx hi hb.1 hc rfl hen hko hres hw hae hs h3.1 h3.2 hin h2
/-- under a guard: a slice that has an element is not nil -/
theorem RJ_nilG (hT : TOk E.P TT) {t0 ty : Nat} {x y : Operand} {yt : TypeId} {j d : Nat} {b : Bool} {sx : V} {q : Tg} {sz n : Nat} {f : Nat → List D} {ob : Ob} {n0 c0 : Nat} {id sz1 by1 e : Nat} {z : Value} {ef : Bool}
    (hop : o.op = .binOp .eql ty x y yt) (hg : o.guard = some (j, b)) (hsl : gSlot all j = some d) (hx : ev (acts 6 gf d b) fr gf x = some (.a sx)) (hy : ev (acts 6 gf d b) fr gf y = some (.a (.v (.slice none n0 c0)))) (h1 : tlk ty TT = some ⟨id, sz1, by1, .slc e, z, ef⟩) (hs : slR mu sx = some (q, sz, n, f, ob)) (hn : mlk t0 fr = none) (hgd : gdrop t0 gf = some gf') (hpos : 0 < n)
    (k : RJ E all (KQ E.P R K) rest fr ((t0, d, b, .a (.v (.bool false))) :: gf') mu) (hob : Alls ob := by repeat (first | exact trivial | refine And.intro rfl ?_)) (hd : o.dst = some t0 := by exact rfl) (ht : (Nat.blt t0 E.N && !(Nat.beq t0 d)) = true := by exact rfl) : RJ E all (KQ E.P R K) (o :: rest) fr gf mu := by
  refine RJ_of fun B a w H ff mm _ => ?_
  obtain ⟨t1, t2⟩ := hT.get h1
  obtain ⟨dd, d1, d2⟩ := t2.desc
  simp only at t1 d1 d2
  subst t1
  obtain rfl := shapeK_slc d2
  simp only [Bool.and_eq_true, Bool.not_eq_true'] at ht
  have htd : t0 ≠ d := Nat.ne_of_beq_eq_false ht.2
  have htN : t0 < E.N := by simpa [Nat.blt_eq] using ht.1
  have hw := wanted_some (ops := all.toArray) (a := a) hg (gslot_ops hsl)
  by_cases hyes : a.tmps.getD d undef = .bool b
  · have hacts := acts_ok ff 6 d b hyes
    have hr := slR_spec mm.mr.ms hs hob (show sx.rel B (Zf E.r H) (a.eval x) from ff.ev hacts hx)
    have ey : a.eval y = _ := ff.ev hacts hy
    obtain ⟨A, c, ex, e0⟩ := fit_slice hr
    refine one_val (hw.2 hyes) (v := .bool false) (w' := w) ?_ ?_
    · obtain ⟨dst, op', type, pos, after, guard⟩ := o
      simp only at hop
      subst hop
      simp only [execOp, ex, ey]
      refine run_value ?_
      show (do eqGuard .eql _ x y _ _; binOp .eql _ _ _ : Sem Value).run E.P w = _
      rw [Sem.run_bind, eqGuard_plain rfl, Result.andThen_ok]
      have hA : A.isNone = false := e0 hpos
      simp only [binOp, Sem.run_bind, equal_slice d1, Result.andThen_ok, Sem.run_pure, hA]
    · rw [hd]
      exact k B _ w H (Fits.putG ff htN htd hn hgd (.inl ⟨hyes, (show SV.rel _ _ _ (.a (.v _)) _ from rfl)⟩)) mm
  · refine one_off (by
      cases e : Region.wanted o (yielded all.toArray a.tmps) with
      | false => rfl
      | true => exact absurd (hw.1 e) hyes) ?_
    rw [hd]
    exact k B _ w H (Fits.putG ff htN htd hn hgd (.inr ⟨hyes, rfl⟩)) mm
end
end Go.Proofs.YtiegllklalplnaaGreat
