/-
  A function value called under a guard; helpers.
-/
import Derived.Test.YtiilpopeognekaaW20
namespace Go.Proofs.Ytiilpopeognekaa
open Go Go.RowKit
set_option linter.unusedVariables false
set_option linter.unusedSimpArgs false
section
variable {E : Env} {mu mu' : Mu} {TT : List TI} {fr fr' : Fr} {gf gf' : GF} {all rest : List Oper} {Q : Exit → Act → World → Prop} {o : Oper} {J : Act → World → Prop} {G : AG}
theorem OJ_FG {φ : List RD → Value → Prop} {args : List SV} {rds : List RD} {t j d : Nat} {b : Bool} {x : Value} (hg : o.guard = some (j, b)) (hsl : gSlot all j = some d) (hc : fbOf (acts 6 gf d b) fr gf o.op = some (φ, args)) (hr : rdSs args = some rds) (hgd : gdrop t gf = some gf') (hx : φ rds x)
    (k : SJ G J E fr ((t, d, b, .a (.v x)) :: gf') mu) (hd : o.dst = some t := by exact rfl) (hn : mlk t fr = none := by exact rfl) (ht : (Nat.blt t E.N && !(Nat.beq t d)) = true := by exact rfl) : OJ G E all Q J o fr gf mu := fun B a w H f m gg => by
  simp only [Bool.and_eq_true, Bool.not_eq_true'] at ht
  have htd : t ≠ d := Nat.ne_of_beq_eq_false ht.2
  have htN : t < E.N := by simpa [Nat.blt_eq] using ht.1
  have hwt := wanted_some (ops := all.toArray) (a := a) hg (gslot_ops hsl)
  by_cases hyes : a.tmps.getD d undef = .bool b
  · have hacts := acts_ok f 6 d b hyes
    have hw := hwt.2 hyes
    obtain ⟨dst, op, type, pos, after, guard⟩ := o
    simp only at hc hd
    subst hd
    unfold fbOf at hc
    split at hc
    · rename_i c
      obtain ⟨callee, cargs, ats⟩ := c
      simp only at hc
      split at hc
      · rename_i y hy
        split at hc
        · rename_i φ' l e1 e2
          simp only [Option.some.injEq, Prod.mk.injEq] at hc
          obtain ⟨rfl, rfl⟩ := hc
          obtain ⟨fn, cv, h1, h3, h4⟩ := (show ∃ f vs, _ from f.ev hacts e1)
          have h2 := f.evs hacts e2
          have ha : cargs.map a.eval = (cargs.toList.map a.eval).toArray := Array.ext' (by rw [Array.toList_map])
          refine one_call (n := fn) (args := (cargs.toList.map a.eval ++ cv).toArray) hw ?_ ((h4 rds x hx w E.r _ (PH.le_refl _) m.mm.fitr (rdSs_ok hr h2)).mono fun e w' ⟨g1, g2⟩ => ⟨x, g1, ?_⟩)
          · simp only [execOp, resolve, h1, Deferred.ofValue, Sem.run_bind, Sem.run_pure, Result.andThen_ok, invoke, ha, Array.empty_append]
            rw [h3]
            congr 2
            simp
          · exact k B _ w' H (Fits.putG f htN htd hn hgd (.inl ⟨hyes, show SV.rel E.P B (Zf E.r H) (.a (.v x)) x from rfl⟩)) (m.below g2) gg
        · cases hc
      · cases hc
    · cases hc
  · refine one_off (by
      cases e : Region.wanted o (yielded all.toArray a.tmps) with
      | false => rfl
      | true => exact absurd (hwt.1 e) hyes) ?_
    rw [hd]
    exact k B _ w H (Fits.putG f htN htd hn hgd (.inr ⟨hyes, rfl⟩)) m gg
end
end Go.Proofs.Ytiilpopeognekaa
