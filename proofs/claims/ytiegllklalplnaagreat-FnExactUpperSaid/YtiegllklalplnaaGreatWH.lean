
/-
  Boxes and stores in regions that draw their order.
-/
import Derived.Test.YtiegllklalplnaaGreatWG
namespace Go.Proofs.YtiegllklalplnaaGreat
open Go Go.RowKit
set_option linter.unusedVariables false
set_option linter.unusedSimpArgs false

def putM (N : Nat) (xo : Option SV) (d : Option Nat) (fr : Fr) (gf : GF) : Option (Fr × GF) := match xo, d with
  | some x, some t => match gdrop t gf with
    | some gf' => bif Nat.blt t N then some ((t, x) :: fr, gf') else none
    | none => none
  | none, none => some (fr, gf)
  | _, _ => none
section
variable {E : Env} {B : BE} {mu mu' : Mu} {w : World} {H : Nat → PH} {TT : List TI} {fr fr' : Fr} {gf gf' : GF} {a : Act} {all rest : List Oper} {Q : Exit → Act → World → Prop} {o : Oper} {J : Act → World → Prop} {G : AG}
/-- a box, an allocation, a store -/
theorem OJ_M (hT : TOk E.P TT) {xo : Option SV} {nw : Bool} {k : Nat} {c : Ch} {q : Ob} {es : List Prop} {gs : List GO} {fr0 : Fr} {gf0 : GF} (h : mst TT E.A.ks fr gf mu o.dst o.op = some (xo, nw, k, c, q)) (hs : splitO fr gf [] q [] [] = some (es, gs)) (hmu : mset k c mu = some mu') (hcut : cutF nw k fr gf = some (fr0, gf0))
    (hput : putM E.N xo o.dst fr0 gf0 = some (fr', gf')) (hG : hasK k G.ks = false) (kk : SJ G J E fr' gf' mu') (hg : o.guard = none := by exact rfl) (he : PAlls es := by repeat (first | exact trivial | refine And.intro rfl ?_)) (ho : GAlls gs := by first | exact trivial | ((simp only [GAlls, GO.p, InR]; (repeat' (first | exact trivial | refine And.intro ?_ ?_ | refine fun _ => ?_)) <;> first | omega | (simp only [decide_eq_true_eq, decide_eq_false_iff_not, Int.toNat_natCast] at *; omega) | (simp at *; omega)))) : OJ G E all Q J o fr gf mu := fun B a w H f m gg => by
  obtain ⟨nx, w', B', H', r1, r2, r3, r4, r5, r6⟩ := mst_ok hT f m h (splitO_ok f (fun _ _ hm => by cases hm) hs he ho) hmu hcut
  have gg' : G.ok B' H' := fun j hj => by
    have hjk : j ≠ k := fun e => by subst e; rw [hG] at hj; cases hj
    obtain ⟨e1, e2⟩ := r6 j hjk
    obtain ⟨e3, e4⟩ := gg j hj
    exact ⟨e1.trans e3, e2.trans e4⟩
  unfold putM at hput
  split at hput
  · rename_i x t hd
    split at hput
    · rename_i gf2 hgd
      cases hbt : Nat.blt t E.N with
      | false => rw [hbt] at hput; cases hput
      | true =>
        rw [hbt] at hput
        simp only [cond_true, Option.some.injEq, Prod.mk.injEq] at hput
        obtain ⟨rfl, rfl⟩ := hput
        obtain ⟨v, e1, e2⟩ := r2 _ rfl
        subst e1
        refine one_val (wanted_none hg) r1 ?_
        rw [hd]
        exact kk B' _ w' H' (Fits.put r5 (by simpa [Nat.blt_eq] using hbt) e2 hgd) r4 gg'
    · cases hput
  · rename_i hd
    simp only [Option.some.injEq, Prod.mk.injEq] at hput
    obtain ⟨rfl, rfl⟩ := hput
    have := r3 rfl
    subst this
    refine one_unit (wanted_none hg) r1 ?_
    rw [hd]
    exact kk B' _ w' H' r5 r4 gg'
  · cases hput
end
section
variable {E : Env} {mu : Mu} {TT : List TI} {fr : Fr} {gf gf' : GF} {all rest : List Oper} {Q : Exit → Act → World → Prop} {o : Oper}
/-- an operation whose guard is known not to hold: what is told of its slot does not matter -/
theorem RJ_skip {t j d : Nat} {b x : Bool} (v : SV) (hg : o.guard = some (j, b)) (hsl : gSlot all j = some d) (hx : mlk d fr = some (.a (.v (.bool x)))) (hgx : glk d gf = none) (hne : x = !b) (hn : mlk t fr = none) (hgd : gdrop t gf = some gf')
    (k : RJ E all Q rest fr ((t, d, b, v) :: gf') mu) (hd : o.dst = some t := by exact rfl) (ht : (Nat.blt t E.N && !(Nat.beq t d)) = true := by exact rfl) : RJ E all Q (o :: rest) fr gf mu := by
  refine RJ_of fun B a w H ff mm _ => ?_
  simp only [Bool.and_eq_true, Bool.not_eq_true'] at ht
  have htd : t ≠ d := Nat.ne_of_beq_eq_false ht.2
  have htN : t < E.N := by simpa [Nat.blt_eq] using ht.1
  have hv : a.tmps.getD d undef = .bool x := ff.vfr d _ hx hgx
  have hyes : a.tmps.getD d undef ≠ .bool b := by rw [hv, hne]; cases b <;> simp
  have hw := wanted_some (ops := all.toArray) (a := a) hg (gslot_ops hsl)
  refine one_off (by
    cases e : Region.wanted o (yielded all.toArray a.tmps) with
    | false => rfl
    | true => exact absurd (hw.1 e) hyes) ?_
  rw [hd]
  exact k B _ w H (Fits.putG ff htN htd hn hgd (.inr ⟨hyes, rfl⟩)) mm
end
section
variable {E : Env} {mu : Mu} {TT : List TI} {fr : Fr} {gf gf' : GF} {all : List Oper} {R : Exit → Act → World → Prop} {K : List KF} {G : AG}
/-- the same, in a region that draws -/
theorem DJ_skip (i : Nat) {n : Nat} {tk : List Nat} {o : Oper} {t j d : Nat} {b x : Bool} (v : SV) (hi : nth all i = some o) (hg : o.guard = some (j, b)) (hsl : gSlot all j = some d) (hx : mlk d fr = some (.a (.v (.bool x)))) (hgx : glk d gf = none) (hne : x = !b) (hn : mlk t fr = none) (hgd : gdrop t gf = some gf')
    (k : DJ G E all (KQ E.P R K) n (i :: tk) fr ((t, d, b, v) :: gf') mu) (hd : o.dst = some t := by exact rfl) (ht : (Nat.blt t E.N && !(Nat.beq t d)) = true := by exact rfl) (hB : takeB all.toArray tk i = true := by kernel_rfl) (hR : PQ R := by exact pq_body _ _) : DJ G E all (KQ E.P R K) (n + 1) tk fr gf mu :=
  DJ_first hR i hi hB (fun B a w H f m gg => by
    simp only [Bool.and_eq_true, Bool.not_eq_true'] at ht
    have htd : t ≠ d := Nat.ne_of_beq_eq_false ht.2
    have htN : t < E.N := by simpa [Nat.blt_eq] using ht.1
    have hv : a.tmps.getD d undef = .bool x := f.vfr d _ hx hgx
    have hyes : a.tmps.getD d undef ≠ .bool b := by rw [hv, hne]; cases b <;> simp
    have hw := wanted_some (ops := all.toArray) (a := a) hg (gslot_ops hsl)
    refine ⟨undef, .inr ⟨?_, rfl⟩, ?_⟩
    · cases e : Region.wanted o (yielded all.toArray a.tmps) with
      | false => rfl
      | true => exact absurd (hw.1 e) hyes
    · rw [hd]; exact Fits.putG f htN htd hn hgd (.inr ⟨hyes, rfl⟩)) k
end
end Go.Proofs.YtiegllklalplnaaGreat
