
/-
  Joins: a piece of code, told of by one family of frames and memories behind it, whatever its branches.
-/
import Derived.Test.YtpfcfepbhdkpdaaGreatWI
namespace Go.Proofs.YtpfcfepbhdkpdaaGreat
open Go Go.RowKit
set_option linter.unusedVariables false
set_option linter.unusedSimpArgs false

section
variable {E : Env} {mu : Mu} {fr : Fr} {R : Exit → Act → World → Prop} {K : List KF}
theorem T_joinA {ι : Type} {c : Code} (u : ι → Fr) (um : ι → Mu) (φ : ι → Prop) (kc kd : List Nat) {fk : Fr} {mk : Mu} (hkf : keepF (modC c []) kc kd fr [] = some fk) (hkm : mdropKs kc mu = some mk)
    (body : T E R c fr mu (.loop (Inv E (fun y => appF (u y) fk) (fun y => appM (um y) mk) φ (fun _ => 0) 1) :: K)) (h : ∀ y, φ y → X E R (nxN K) (appF (u y) fk) (appM (um y) mk)) : T E R c fr mu K := fun B a w H f me => by
  refine wp_mono (body B a w H f me) ?_
  intro e a' w' q
  cases e with
  | normal =>
    obtain ⟨z, z1, z2, B', H', z3, z4⟩ := q
    exact nxN_ok (h z z1 B' a' w' H' z3 z4)
  | exit id => exact q
  | goto l => exact q
  | ret => exact q
  | panic ch => exact q
  | outgrown => exact q
end
section
variable {E : Env} {mu mu' : Mu} {fr fr' : Fr} {gf gf' : GF} {all : List Oper} {G : AG} {Q : Exit → Act → World → Prop}
/-- the same slots told otherwise, no name turned -/
def View0 (E : Env) (fr : Fr) (gf : GF) (mu : Mu) (fr' : Fr) (gf' : GF) : Prop := ∀ B w H a, FitsE E B H fr gf a → Mem E B mu w H → FitsE E B H fr' gf' a
theorem DJ_v0 {n : Nat} {tk : List Nat} (v : View0 E fr gf mu fr' gf') (h : DJ G E all Q n tk fr' gf' mu) : DJ G E all Q n tk fr gf mu := fun B a w H f m gg => h B a w H (v B w H a f m) m gg
theorem V_pe0 (t : Nat) {k k2 sz n : Nat} {f : Nat → List D} {i : Int} {o : Nat} (ht : mlk t fr = some (.a (.pe k sz i o))) (hg : glk t gf = none) (hk : mlk k mu = some (.hole sz n f i k2)) : View0 E fr gf mu ((t, .a (.p k2 o)) :: fr) gf := fun B w H a ff m => by
  refine ⟨ff.size, ff.defers, fun t' x e1 e2 => ?_, ff.vgf, ff.vgu, fun t' d w x e1 => ?_⟩
  · rw [mlk_cons] at e1
    by_cases h : t = t'
    · subst h
      rw [if_pos rfl] at e1
      injection e1 with e1
      subst e1
      obtain ⟨h1, h2⟩ := (show _ = elP (B k) sz i o ∧ _ from ff.vfr t _ ht e2)
      obtain ⟨A, c, g1, _, _, _, g5, _⟩ := m.mm.sat k _ hk
      refine ⟨?_, h2⟩
      rw [h1, g5, g1]; exact elP_addP
    · rw [if_neg h] at e1; exact ff.vfr t' x e1 e2
  · rw [mlk_cons]
    by_cases h : t = t'
    · subst h
      have := ff.vno t d w x e1
      rw [ht] at this; cases this
    · rw [if_neg h]; exact ff.vno t' d w x e1
end
end Go.Proofs.YtpfcfepbhdkpdaaGreat
