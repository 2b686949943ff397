
/-
  A function value called under a guard; helpers.
-/
import Derived.Test.YtiegllklalplnaaGreatW20
namespace Go.Proofs.YtiegllklalplnaaGreat
open Go Go.RowKit
set_option linter.unusedVariables false
set_option linter.unusedSimpArgs false
section
variable {E : Env} {mu mu' : Mu} {TT : List TI} {fr fr' : Fr} {gf gf' : GF} {all rest : List Oper} {Q : Exit → Act → World → Prop} {o : Oper} {J : Act → World → Prop} {G : AG}
theorem OJ_FG {φ : List RD → Value → Prop} {args : List SV} {rds : List RD} {t j d : Nat} {b : Bool} {x : Value} (hg : o.guard = some (j, b)) (hsl : gSlot all j = some d) (hc : fbOf (acts 6 gf d b) fr gf o.op = some (φ, args)) (hr : rdSs args = some rds) (hgd : gdrop t gf = some gf') (hx : φ rds x)
    (k : SJ G J E fr ((t, d, b, .a (.v x)) :: gf') mu) (hd : o.dst = some t := by exact rfl) (hn : mlk t fr = none := by exact rfl) (ht : (Nat.blt t E.N && !(Nat.beq t d)) = true := by exact rfl) : OJ G E all Q J o fr gf mu := fun B a w H f m gg => by
  simp only [Bool.and_eq_true, Bool.not_eq_true'] at ht
  have htd : t ≠ d := Nat.ne_of_beq_eq_false ht.2
  have htN : t < E.N := by simpa [Nat.blt_eq] using ht.1
  have hwt := wanted_some (ops := all.toArray) (a := a) hg (gslot_ops hsl)
  by_cases hyes : a.tmps.getD d undef = .bool b
  · have hacts := acts_ok f 6 d b hyes
    have hw := hwt.2 hyes
    obtain ⟨dst, op, type, pos, after, guard⟩ := o
    simp only at hc hd
    subst hd
    unfold fbOf at hc
    split at hc
    · rename_i c
      obtain ⟨callee, cargs, ats⟩ := c
      simp only at hc
      split at hc
      · rename_i y hy
        split at hc
        · rename_i φ' l e1 e2
          simp only [Option.some.injEq, Prod.mk.injEq] at hc
          obtain ⟨rfl, rfl⟩ := hc
          obtain ⟨fn, cv, h1, h3, h4⟩ := (show ∃ f vs, _ from f.ev hacts e1)
          have h2 := f.evs hacts e2
          have ha : cargs.map a.eval = (cargs.toList.map a.eval).toArray := Array.ext' (by rw [Array.toList_map])
          refine one_call (n := fn) (args := (cargs.toList.map a.eval ++ cv).toArray) hw ?_ ((h4 rds x hx w E.r _ (PH.le_refl _) m.mm.fitr (rdSs_ok hr h2)).mono fun e w' ⟨g1, g2⟩ => ⟨x, g1, ?_⟩)
          · simp only [execOp, resolve, h1, Deferred.ofValue, Sem.run_bind, Sem.run_pure, Result.andThen_ok, invoke, ha, Array.empty_append]
            rw [h3]
            congr 2
            simp
          · exact k B _ w' H (Fits.putG f htN htd hn hgd (.inl ⟨hyes, show SV.rel E.P B (Zf E.r H) (.a (.v x)) x from rfl⟩)) (m.below g2) gg
        · cases hc
      · cases hc
    · cases hc
  · refine one_off (by
      cases e : Region.wanted o (yielded all.toArray a.tmps) with
      | false => rfl
      | true => exact absurd (hwt.1 e) hyes) ?_
    rw [hd]
    exact k B _ w H (Fits.putG f htN htd hn hgd (.inr ⟨hyes, rfl⟩)) m gg
/-- slot t holds a slice that is read: it goes by a key from now on -/
theorem V_name (t k' : Nat) {sz n : Nat} {f : Nat → List D} (hx : mlk t fr = some (.a (.s .r sz n f))) (hg : glk t gf = none) (hmu : mset k' (.ro sz n f) mu = some mu') (hu : unnamed k' fr gf mu E.A.ks = true := by exact rfl) : View E fr gf mu ((t, .a (.g k')) :: fr) gf mu' := fun B w H a ff m => by
  obtain ⟨u1, u2, u3, u4⟩ := unnamed_spec hu
  have e1 : D.rd E.r (.sl sz n f) (a.tmps.getD t undef) := ff.vfr t _ hx hg
  have m2 := m.put (v := a.tmps.getD t undef) (h' := H k') (w' := w) hmu (.inr ⟨muAny_mono (fun x hx => (uses_out hx).1) u3, u4⟩) (by show D.rd _ _ (BE.set B k' _ k'); rw [BE.set_eq]; exact e1) (m.mm.fit k') (Keep.refl _ _) fun b o h => .inl h
  have f2 := FitsE.new (B := B) (H := H) ff (k := k') (a.tmps.getD t undef) (H k') u1 u2
  refine ⟨_, _, ⟨f2.size, f2.defers, fun t' x e2 e3 => ?_, f2.vgf, f2.vgu, fun t' d w x e2 => ?_⟩, m2⟩
  · rw [mlk_cons] at e2
    by_cases h : t = t'
    · subst h
      rw [if_pos rfl] at e2
      injection e2 with e2
      subst e2
      obtain ⟨A, c, e4, _⟩ := e1
      exact ⟨(BE.set_eq B k' _).symm, by rw [e4]; rfl⟩
    · rw [if_neg h] at e2; exact f2.vfr t' x e2 e3
  · rw [mlk_cons]
    have h1 := f2.vno t' d w x e2
    have h2 : t ≠ t' := fun h => by subst h; rw [hx] at h1; cases h1
    rw [if_neg h2]; exact h1
def V.isNil : V → Bool
  | .v (.slice none 0 0) => true
  | _ => false
theorem V.isNil_eq {x : V} (h : x.isNil = true) : x = .v (.slice none 0 0) := by
  unfold V.isNil at h
  split at h
  · rfl
  · cases h
/-- a row's nil slice is told as an array of no elements -/
def nilR (sz : Nat) (f : Nat → List D) : List V → Nat → Option (List V)
  | [], _ => none
  | x :: r, 0 => bif x.isNil then some (.s .o sz 0 f :: r) else none
  | x :: r, j + 1 => match nilR sz f r j with
    | some l => some (x :: l)
    | none => none
theorem nilR_ok {B : BE} {r : PH} {sz : Nat} {f : Nat → List D} : ∀ {l : List V} {j : Nat} {l' : List V}, nilR sz f l j = some l' → l'.length = l.length ∧ ∀ {h : PH} {vs : List Value}, V.owns B r h l vs → V.owns B r h l' vs
  | [], j, _, e => by simp [nilR] at e
  | x :: l, 0, l', e => by
    simp only [nilR] at e
    cases c : x.isNil with
    | false => rw [c] at e; cases e
    | true =>
      rw [c] at e
      injection e with e
      subst e
      refine ⟨rfl, fun {h vs} o => ?_⟩
      obtain ⟨v, t, h1, h2, rfl, e2, e3, e4, e5, e6⟩ := o
      rw [V.isNil_eq c] at e5
      have e5 : v = .slice none 0 0 := e5
      subst e5
      exact ⟨_, t, h1, h2, rfl, e2, e3, e4, .inl ⟨rfl, none, 0, rfl, Nat.le_refl _, Nat.zero_le _, .inl rfl⟩, e6⟩
  | x :: l, j + 1, l', e => by
    simp only [nilR] at e
    split at e
    · rename_i l2 e1
      injection e with e
      subst e
      obtain ⟨k1, k2⟩ := nilR_ok (B := B) (r := r) e1
      refine ⟨by rw [List.length_cons, List.length_cons, k1], fun {h vs} o => ?_⟩
      obtain ⟨v, t, h1, h2, rfl, e2, e3, e4, e5, e6⟩ := o
      exact ⟨v, t, h1, h2, rfl, e2, e3, e4, e5, k2 e6⟩
    · cases e
theorem V_nilR (k j sz : Nat) (f : Nat → List D) {l l' : List V} (hk : mlk k mu = some (.row l)) (hn : nilR sz f l j = some l') (hmu : mset k (.row l') mu = some mu') : View E fr gf mu fr gf mu' :=
  V_imp k hk (fun B r h k s => by
    obtain ⟨b, o, vs, h', e1, e2, e3, e4⟩ := s
    exact ⟨b, o, vs, h', e1, (nilR_ok hn).2 e2, e3, fun j hj => e4 j (by rw [← (nilR_ok (B := B) (r := r) hn).1]; exact hj)⟩) hmu
/-- slot t names own array k: its length comes along -/
theorem V_gl (t k : Nat) {sz n : Nat} {f : Nat → List D} (hx : mlk t fr = some (.a (.g k))) (hg : glk t gf = none) (hk : mlk k mu = some (.arr sz n f)) : View E fr gf mu ((t, .a (.gl k n)) :: fr) gf mu := fun B w H a ff m => by
  have e1 : a.tmps.getD t undef = B k ∧ oneV (a.tmps.getD t undef) = true := ff.vfr t _ hx hg
  obtain ⟨A, c, e2, _⟩ := own_slice (show D.own (H k) (.sl sz n f) (B k) from m.mm.sat k _ hk)
  refine ⟨B, H, ⟨ff.size, ff.defers, fun t' x e3 e4 => ?_, ff.vgf, ff.vgu, fun t' d w x e3 => ?_⟩, m⟩
  · rw [mlk_cons] at e3
    by_cases h : t = t'
    · subst h
      rw [if_pos rfl] at e3
      injection e3 with e3
      subst e3
      exact ⟨e1.1, e1.2, A, c, e1.1.trans e2⟩
    · rw [if_neg h] at e3; exact ff.vfr t' x e3 e4
  · rw [mlk_cons]
    have h1 := ff.vno t' d w x e3
    have h2 : t ≠ t' := fun h => by subst h; rw [hx] at h1; cases h1
    rw [if_neg h2]; exact h1
theorem imp_gl {P : Program} {k n : Nat} : (SV.a (.gl k n)).imp P (.a (.g k)) := fun _ _ _ e => ⟨e.1, e.2.1⟩
end
end Go.Proofs.YtiegllklalplnaaGreat
