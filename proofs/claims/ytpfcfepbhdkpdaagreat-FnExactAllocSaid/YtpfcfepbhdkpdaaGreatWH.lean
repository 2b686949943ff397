
/-
  Boxes and stores in regions that draw their order.
-/
import Derived.Test.YtpfcfepbhdkpdaaGreatWG
namespace Go.Proofs.YtpfcfepbhdkpdaaGreat
open Go Go.RowKit
set_option linter.unusedVariables false
set_option linter.unusedSimpArgs false

def putM (N : Nat) (xo : Option SV) (d : Option Nat) (fr : Fr) (gf : GF) : Option (Fr × GF) := match xo, d with
  | some x, some t => match gdrop t gf with
    | some gf' => bif Nat.blt t N then some ((t, x) :: fr, gf') else none
    | none => none
  | none, none => some (fr, gf)
  | _, _ => none
section
variable {E : Env} {B : BE} {mu mu' : Mu} {w : World} {H : Nat → PH} {TT : List TI} {fr fr' : Fr} {gf gf' : GF} {a : Act} {all rest : List Oper} {Q : Exit → Act → World → Prop} {o : Oper} {J : Act → World → Prop} {G : AG}
/-- a box, an allocation, a store -/
theorem OJ_M (hT : TOk E.P TT) {xo : Option SV} {nw : Bool} {k : Nat} {c : Ch} {q : Ob} {es : List Prop} {gs : List GO} {fr0 : Fr} {gf0 : GF} (h : mst TT E.A.ks fr gf mu o.dst o.op = some (xo, nw, k, c, q)) (hs : splitO fr gf [] q [] [] = some (es, gs)) (hmu : mset k c mu = some mu') (hcut : cutF nw k fr gf = some (fr0, gf0))
    (hput : putM E.N xo o.dst fr0 gf0 = some (fr', gf')) (hG : hasK k G.ks = false) (kk : SJ G J E fr' gf' mu') (hg : o.guard = none := by exact rfl) (he : PAlls es := by repeat (first | exact trivial | refine And.intro rfl ?_)) (ho : GAlls gs := by first | exact trivial | ((simp only [GAlls, GO.p, InR]; (repeat' (first | exact trivial | refine And.intro ?_ ?_ | refine fun _ => ?_)) <;> first | omega | (simp only [decide_eq_true_eq, decide_eq_false_iff_not, Int.toNat_natCast] at *; omega) | (simp at *; omega)))) : OJ G E all Q J o fr gf mu := fun B a w H f m gg => by
  obtain ⟨nx, w', B', H', r1, r2, r3, r4, r5, r6⟩ := mst_ok hT f m h (splitO_ok f (fun _ _ hm => by cases hm) hs he ho) hmu hcut
  have gg' : G.ok B' H' := fun j hj => by
    have hjk : j ≠ k := fun e => by subst e; rw [hG] at hj; cases hj
    obtain ⟨e1, e2⟩ := r6 j hjk
    obtain ⟨e3, e4⟩ := gg j hj
    exact ⟨e1.trans e3, e2.trans e4⟩
  unfold putM at hput
  split at hput
  · rename_i x t hd
    split at hput
    · rename_i gf2 hgd
      cases hbt : Nat.blt t E.N with
      | false => rw [hbt] at hput; cases hput
      | true =>
        rw [hbt] at hput
        simp only [cond_true, Option.some.injEq, Prod.mk.injEq] at hput
        obtain ⟨rfl, rfl⟩ := hput
        obtain ⟨v, e1, e2⟩ := r2 _ rfl
        subst e1
        refine one_val (wanted_none hg) r1 ?_
        rw [hd]
        exact kk B' _ w' H' (Fits.put r5 (by simpa [Nat.blt_eq] using hbt) e2 hgd) r4 gg'
    · cases hput
  · rename_i hd
    simp only [Option.some.injEq, Prod.mk.injEq] at hput
    obtain ⟨rfl, rfl⟩ := hput
    have := r3 rfl
    subst this
    refine one_unit (wanted_none hg) r1 ?_
    rw [hd]
    exact kk B' _ w' H' r5 r4 gg'
  · cases hput
end
section
variable {E : Env} {mu : Mu} {TT : List TI} {fr : Fr} {gf gf' : GF} {all rest : List Oper} {Q : Exit → Act → World → Prop} {o : Oper}
/-- an operation whose guard is known not to hold: what is told of its slot does not matter -/
theorem RJ_skip {t j d : Nat} {b x : Bool} (v : SV) (hg : o.guard = some (j, b)) (hsl : gSlot all j = some d) (hx : mlk d fr = some (.a (.v (.bool x)))) (hgx : glk d gf = none) (hne : x = !b) (hn : mlk t fr = none) (hgd : gdrop t gf = some gf')
    (k : RJ E all Q rest fr ((t, d, b, v) :: gf') mu) (hd : o.dst = some t := by exact rfl) (ht : (Nat.blt t E.N && !(Nat.beq t d)) = true := by exact rfl) : RJ E all Q (o :: rest) fr gf mu := by
  refine RJ_of fun B a w H ff mm _ => ?_
  simp only [Bool.and_eq_true, Bool.not_eq_true'] at ht
  have htd : t ≠ d := Nat.ne_of_beq_eq_false ht.2
  have htN : t < E.N := by simpa [Nat.blt_eq] using ht.1
  have hv : a.tmps.getD d undef = .bool x := ff.vfr d _ hx hgx
  have hyes : a.tmps.getD d undef ≠ .bool b := by rw [hv, hne]; cases b <;> simp
  have hw := wanted_some (ops := all.toArray) (a := a) hg (gslot_ops hsl)
  refine one_off (by
    cases e : Region.wanted o (yielded all.toArray a.tmps) with
    | false => rfl
    | true => exact absurd (hw.1 e) hyes) ?_
  rw [hd]
  exact k B _ w H (Fits.putG ff htN htd hn hgd (.inr ⟨hyes, rfl⟩)) mm
end
section
variable {E : Env} {mu : Mu} {TT : List TI} {fr : Fr} {gf gf' : GF} {all : List Oper} {R : Exit → Act → World → Prop} {K : List KF} {G : AG}
/-- the same, in a region that draws -/
theorem DJ_skip (i : Nat) {n : Nat} {tk : List Nat} {o : Oper} {t j d : Nat} {b x : Bool} (v : SV) (hi : nth all i = some o) (hg : o.guard = some (j, b)) (hsl : gSlot all j = some d) (hx : mlk d fr = some (.a (.v (.bool x)))) (hgx : glk d gf = none) (hne : x = !b) (hn : mlk t fr = none) (hgd : gdrop t gf = some gf')
    (k : DJ G E all (KQ E.P R K) n (i :: tk) fr ((t, d, b, v) :: gf') mu) (hd : o.dst = some t := by exact rfl) (ht : (Nat.blt t E.N && !(Nat.beq t d)) = true := by exact rfl) (hB : takeB all.toArray tk i = true := by kernel_rfl) (hR : PQ R := by exact pq_body _ _) : DJ G E all (KQ E.P R K) (n + 1) tk fr gf mu :=
  DJ_first hR i hi hB (fun B a w H f m gg => by
    simp only [Bool.and_eq_true, Bool.not_eq_true'] at ht
    have htd : t ≠ d := Nat.ne_of_beq_eq_false ht.2
    have htN : t < E.N := by simpa [Nat.blt_eq] using ht.1
    have hv : a.tmps.getD d undef = .bool x := f.vfr d _ hx hgx
    have hyes : a.tmps.getD d undef ≠ .bool b := by rw [hv, hne]; cases b <;> simp
    have hw := wanted_some (ops := all.toArray) (a := a) hg (gslot_ops hsl)
    refine ⟨undef, .inr ⟨?_, rfl⟩, ?_⟩
    · cases e : Region.wanted o (yielded all.toArray a.tmps) with
      | false => rfl
      | true => exact absurd (hw.1 e) hyes
    · rw [hd]; exact Fits.putG f htN htd hn hgd (.inr ⟨hyes, rfl⟩)) k
end
section
variable {E : Env} {mu mu0 : Mu} {TT : List TI} {fr fr0 : Fr} {gf : GF} {all : List Oper} {R : Exit → Act → World → Prop} {K : List KF} {G : AG}
/-- what stands behind a region is shown first -/
theorem T_cut (fr0 : Fr) (mu0 : Mu) {c : Code} (h : X E R (nxN K) fr0 mu0) (k : X E R (nxN K) fr0 mu0 → T E R c fr mu K) : T E R c fr mu K := k h
theorem X_go (hT : TOk E.P TT) {x : Nx} {js : JS} {es : List Prop} {gs : List GO} (ha : goNx (auto TT E.N E.A.ks 400) x fr mu [] [] = some (js, es, gs)) (k : js.ok E R) (he : PAlls es := by repeat (first | exact trivial | refine And.intro rfl ?_)) (ho : GAlls gs := by first | exact trivial | ((simp only [GAlls, GO.p, InR]; (repeat' (first | exact trivial | refine And.intro ?_ ?_ | refine fun _ => ?_)) <;> first | omega | (simp only [decide_eq_true_eq, decide_eq_false_iff_not, Int.toNat_natCast] at *; omega) | (simp at *; omega)))) : X E R x fr mu :=
  (goNx_ok (auto_ok hT 400) ha ⟨he, ho⟩).2 k
theorem DJ_endK {n : Nat} {tk : List Nat} (key : X E R (nxN K) fr0 mu0) (hf : WkFr E.P fr fr0) (hm : WkMu mu mu0) (hr : (Region.ready .any all.toArray (mk all.toArray.size tk)).isEmpty = true := by kernel_rfl) : DJ G E all (KQ E.P R K) n tk fr gf mu :=
  DJ_end hr fun B a w H f m => key B a w H (f.wk hf) (m.wk hm)
end
section
variable {E : Env} {B : BE} {mu mu' : Mu} {w : World} {H : Nat → PH} {TT : List TI} {fr fr' : Fr} {gf gf' : GF} {a : Act} {all rest : List Oper} {Q : Exit → Act → World → Prop} {o : Oper} {J : Act → World → Prop} {G : AG} {R : Exit → Act → World → Prop} {K : List KF}
/-- a region that draws: soft operations are taken in an order of one's own -/
theorem T_drawL (hT : TOk E.P TT) (ex : List Nat) (is : List Nat) {id : Nat} {l : List Oper} {ks is' tk' : List Nat} {es : List Prop} {gs : List GO} (hks : keysX ex mu = ks) (ha : drun TT E.N l (muR ks mu) is fr [] [] [] [] = some (is', fr', gf', tk', es, gs))
    (k : ∀ B0 H0, DJ ⟨ks, B0, H0⟩ E l (KQ E.P R K) is'.length tk' fr' gf' mu) (hlen : is.length = l.length := by exact rfl) (hR : PQ R := by exact pq_body _ _) (hm : E.P.follows .mixedOrders = true := by kernel_rfl) (hb : tookB l.toArray is is' [] = true := by kernel_rfl)
    (he : PAlls es := by repeat (first | exact trivial | refine And.intro rfl ?_)) (ho : GAlls gs := by first | exact trivial | ((simp only [GAlls, GO.p, InR]; (repeat' (first | exact trivial | refine And.intro ?_ ?_ | refine fun _ => ?_)) <;> first | omega | (simp only [decide_eq_true_eq, decide_eq_false_iff_not, Int.toNat_natCast] at *; omega) | (simp at *; omega)))) : T E R (.region id l.toArray true) fr mu K :=
  T_draw ex l.length hm (by simp) hks fun B0 H0 => by
    have := (drun_took (G := ⟨ks, B0, H0⟩) (K := K) hT hR _ _ _ _ _ _ ha).2 hb ⟨he, ho⟩
    rw [← hlen]
    exact this.2 (k B0 H0)
theorem DJ_onL (hT : TOk E.P TT) (is : List Nat) {tk is' tk' : List Nat} {es : List Prop} {gs : List GO} (ha : drun TT E.N all (muR G.ks mu) is fr gf tk [] [] = some (is', fr', gf', tk', es, gs)) (k : DJ G E all (KQ E.P R K) is'.length tk' fr' gf' mu) (hR : PQ R := by exact pq_body _ _) (hb : tookB all.toArray is is' tk = true := by kernel_rfl)
    (he : PAlls es := by repeat (first | exact trivial | refine And.intro rfl ?_)) (ho : GAlls gs := by first | exact trivial | ((simp only [GAlls, GO.p, InR]; (repeat' (first | exact trivial | refine And.intro ?_ ?_ | refine fun _ => ?_)) <;> first | omega | (simp only [decide_eq_true_eq, decide_eq_false_iff_not, Int.toNat_natCast] at *; omega) | (simp at *; omega)))) : DJ G E all (KQ E.P R K) is.length tk fr gf mu :=
  ((drun_took (G := G) (K := K) hT hR _ _ _ _ _ _ ha).2 hb ⟨he, ho⟩).2 k
/-- a call that only answers, by its number -/
theorem DJ_Qi (i : Nat) {n : Nat} {tk : List Nat} {f : Nat} {ks : List Nat} {args : List SV} {mu1 : Mu} {res : SV} (C : Ans E.P f ks args mu1 res) {svs args' : List SV} {g : Option (Nat × Nat × Bool)} {t : Nat} {q : Ob} {es : List Prop} {gs : List GO} (hi : nth all i = some o)
    (hc : callC E.N all fr gf o = some (f, svs, g, t, gf')) (hw : wkSL (muR G.ks mu) [] ks svs = some (args', q)) (hae : SVs.imp E.P args' args) (hs : splitO fr gf (match g with | none => [] | some (_, d, b) => acts 6 gf d b) q [] [] = some (es, gs))
    (k : DJ G E all (KQ E.P R K) n (i :: tk) (frQ fr g t res) (gfQ gf' g t res) mu)
    {x : Value} (hx : exV res = some x := by exact rfl) (hR : PQ R := by exact pq_body _ _) (hb : takeB all.toArray tk i = true := by kernel_rfl)
    (hko : keysO mu1 = [] := by exact rfl) (hres : res.inK ks = true := by exact rfl) (hin : WkIn (muR G.ks mu) mu1 := by repeat (first | exact trivial | refine And.intro ⟨_, rfl, ro_arr⟩ ?_ | refine And.intro ⟨_, rfl, ro_ro⟩ ?_ | refine And.intro ⟨_, rfl, ro_row⟩ ?_ | refine And.intro ⟨_, rfl, Ch.imp_refl _⟩ ?_)) (hen : Enters E.P f := by exact enters_B (by kernel_rfl)) (he : PAlls es := by repeat (first | exact trivial | refine And.intro rfl ?_)) (ho : GAlls gs := by first | exact trivial | ((simp only [GAlls, GO.p, InR]; (repeat' (first | exact trivial | refine And.intro ?_ ?_ | refine fun _ => ?_)) <;> first | omega | (simp only [decide_eq_true_eq, decide_eq_false_iff_not, Int.toNat_natCast] at *; omega) | (simp at *; omega)))) : DJ G E all (KQ E.P R K) (n + 1) tk fr gf mu :=
  DJ_q hR i C hx hi hb hc rfl hen hko hres hw hae hs he ho hin k
end
section
variable {E : Env} {mu : Mu} {fr : Fr} {gf : GF} {all : List Oper} {G : AG}
/-- an operation that all others come ahead of or behind: what lies still is told anew behind it -/
theorem DJ_sw2 (i : Nat) {n : Nat} {tk : List Nat} {o : Oper} {Q : Exit → Act → World → Prop} (hi : nth all i = some o) (hB : oneB all.toArray tk i = true) (hC : cmpB all.toArray i = true) (h : OJ AG.nil E all Q (fun a' w' => ∃ G' : AG, Sr G' E.r w' ∧ Lw E.P all.toArray Q (Sr G' E.r) n (mk all.toArray.size (i :: tk)) a' w') o fr gf mu) : DJ G E all Q (n + 1) tk fr gf mu := fun B a w H f m gg w2 hb => by
  have hr := oneB_spec hB
  have hi' : all.toArray[i]? = some o := by rw [nth_eq] at hi; simpa using hi
  refine ⟨fun h0 => (by rw [hr] at h0; cases h0), fun j hj => ?_⟩
  rw [hr] at hj
  obtain rfl := List.mem_singleton.1 hj
  have h1 := One.mono (fun a' w' (h : ∃ G' : AG, Sr G' E.r w' ∧ Lw E.P all.toArray Q (Sr G' E.r) n (mk all.toArray.size (j :: tk)) a' w') => (let ⟨_, h1, h2⟩ := h; ⟨_, .inr hC, h1, h2⟩ : ∃ S', (S' = Sr G E.r ∨ cmpB all.toArray j = true) ∧ S' w' ∧ Lw E.P all.toArray Q S' n (mk all.toArray.size (j :: tk)) a' w')) (h B a w2 H f (m.below hb) (AG.nil_ok B H))
  unfold One at h1
  unfold wpOp
  rw [hi', mk_set]
  exact h1
theorem SJ_sw (ks' : List Nat) {n : Nat} {tk : List Nat} {Q : Exit → Act → World → Prop} (h : ∀ B0 H0, DJ ⟨ks', B0, H0⟩ E all Q n tk fr gf mu) : SJ AG.nil (fun a' w' => ∃ G' : AG, Sr G' E.r w' ∧ Lw E.P all.toArray Q (Sr G' E.r) n (mk all.toArray.size tk) a' w') E fr gf mu := fun B a w H f m _ =>
  ⟨⟨ks', B, H⟩, m.sr fun _ _ => ⟨rfl, rfl⟩, h B H B a w H f m fun _ _ => ⟨rfl, rfl⟩⟩
end
end Go.Proofs.YtpfcfepbhdkpdaaGreat
