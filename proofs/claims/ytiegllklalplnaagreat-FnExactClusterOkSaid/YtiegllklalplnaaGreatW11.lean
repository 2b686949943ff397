
/-
  Regions, branches, blocks, loops: the rules by which a function's body is walked; the machine runs on by itself.
-/
import Derived.Test.YtiegllklalplnaaGreatW10
namespace Go.Proofs.YtiegllklalplnaaGreat
open Go Go.RowKit
set_option linter.unusedVariables false
set_option linter.unusedSimpArgs false

section
variable {P : Program} {ops : Array Oper} {Q : Exit → Act → World → Prop} {a : Act} {w w' : World} {rest : List Oper} {o : Oper}
theorem wpl_val (hw : Region.wanted o (yielded ops a.tmps) = true) {v : Value} (hr : (execOp a.eval o).run P w = .ok (.value v) w') (h : wpList P ops Q rest (a.put o.dst v) w') : wpList P ops Q (o :: rest) a w := by
  unfold wpList
  rw [if_pos hw]
  exact .inl (by unfold Oper.wp; rw [hr]; exact h)
theorem wpl_unit (hw : Region.wanted o (yielded ops a.tmps) = true) (hr : (execOp a.eval o).run P w = .ok .skip w') (h : wpList P ops Q rest (a.put o.dst undef) w') : wpList P ops Q (o :: rest) a w := by
  unfold wpList
  rw [if_pos hw]
  exact .inl (by unfold Oper.wp; rw [hr]; exact h)
theorem wpl_off (hw : Region.wanted o (yielded ops a.tmps) = false) (h : wpList P ops Q rest (a.put o.dst undef) w) : wpList P ops Q (o :: rest) a w := by
  unfold wpList
  rw [if_neg (by rw [hw]; simp)]
  exact h
theorem wanted_none (h : o.guard = none) : Region.wanted o (yielded ops a.tmps) = true := by simp [Region.wanted, h]
theorem wanted_some {j d : Nat} {b : Bool} (h : o.guard = some (j, b)) (hd : (ops[j]?).bind (·.dst) = some d) : Region.wanted o (yielded ops a.tmps) = true ↔ a.tmps.getD d undef = .bool b := by
  simp only [Region.wanted, h, yielded, hd, Option.bind_some]
  rw [Array.getD_eq_getD_getElem?]
  cases e : a.tmps[d]? with
  | none => simp [undef]
  | some v => cases v <;> simp
end


/-! ### what a region comes to -/
/-- the rest of a region, from every frame and memory that fit -/
def RJ (E : Env) (all : List Oper) (Q : Exit → Act → World → Prop) (rest : List Oper) (fr : Fr) (gf : GF) (mu : Mu) : Prop :=
  ∀ B a w H, FitsE E B H fr gf a → Mem E B mu w H → wpList E.P all.toArray Q rest a w
section
variable {E : Env} {B : BE} {mu mu' : Mu} {w : World} {H : Nat → PH} {TT : List TI} {fr fr' : Fr} {gf gf' : GF} {a : Act} {all : List Oper} {Q : Exit → Act → World → Prop}
theorem gslot_ops {j d : Nat} (hs : gSlot all j = some d) : (all.toArray[j]?).bind (·.dst) = some d := by
  unfold gSlot at hs
  rw [nth_eq] at hs
  simp only [List.getElem?_toArray]
  cases e : all[j]? with
  | none => rw [e] at hs; cases hs
  | some o' => rw [e] at hs; exact hs
theorem run_ok (hT : TOk E.P TT) : ∀ (rest : List Oper) (fr : Fr) (gf : GF) (mu : Mu) (es : List Prop) (gs : List GO) {rest' : List Oper} {fr' : Fr} {gf' : GF} {mu' : Mu} {es' : List Prop} {gs' : List GO}, run TT E.N E.A.ks all rest fr gf mu es gs = some (rest', fr', gf', mu', es', gs') → PAlls es' ∧ GAlls gs' →
    (PAlls es ∧ GAlls gs) ∧ (RJ E all Q rest' fr' gf' mu' → RJ E all Q rest fr gf mu)
  | [], fr, gf, mu, es, gs, rest', fr', gf', mu', es', gs', h, ho => by
    simp only [run, Option.some.injEq, Prod.mk.injEq] at h
    obtain ⟨rfl, rfl, rfl, rfl, rfl, rfl⟩ := h
    exact ⟨ho, id⟩
  | o :: rest, fr, gf, mu, es, gs, rest', fr', gf', mu', es', gs', h, ho => by
    have stop : some (o :: rest, fr, gf, mu, es, gs) = some (rest', fr', gf', mu', es', gs') → (PAlls es ∧ GAlls gs) ∧ (RJ E all Q rest' fr' gf' mu' → RJ E all Q (o :: rest) fr gf mu) := fun h => by
      simp only [Option.some.injEq, Prod.mk.injEq] at h
      obtain ⟨rfl, rfl, rfl, rfl, rfl, rfl⟩ := h
      exact ⟨ho, id⟩
    simp only [run] at h
    split at h
    · rename_i hg
      split at h
      · rename_i x q t hp hd
        split at h
        · rename_i es2 gs2 gf2 hs hgd
          cases hbt : Nat.blt t E.N with
          | false => rw [hbt] at h; cases h
          | true =>
            rw [hbt] at h
            simp only [cond_true] at h
            obtain ⟨h1, h2⟩ := run_ok hT rest _ _ _ _ _ h ho
            refine ⟨splitO_mono hs h1, fun k B a w H f m => ?_⟩
            obtain ⟨v, r1, r2⟩ := pst_ok hT f m.mr.ms (g := []) (fun _ _ hm => by cases hm) hp (splitO_ok f (fun _ _ hm => by cases hm) hs h1.1 h1.2)
            refine wpl_val (wanted_none hg) (r1 w m.mr.fw) ?_
            rw [hd]
            exact h2 k B _ w H (f.put (by simpa [Nat.blt_eq] using hbt) r2 hgd) m
        · cases h
      · rename_i hno
        split at h
        · rename_i x nw k c q hm
          split at h
          · rename_i es2 gs2 mu2 fr2 gf2 hs hmu hcut
            split at h
            · rename_i x' t hd
              split at h
              · rename_i gf3 hgd
                cases hbt : Nat.blt t E.N with
                | false => rw [hbt] at h; cases h
                | true =>
                  rw [hbt] at h
                  simp only [cond_true] at h
                  obtain ⟨h1, h2⟩ := run_ok hT rest _ _ _ _ _ h ho
                  refine ⟨splitO_mono hs h1, fun kk B a w H f m => ?_⟩
                  obtain ⟨nx, w', B', H', r1, r2, r3, r4, r5, _⟩ := mst_ok hT f m hm (splitO_ok f (fun _ _ hm => by cases hm) hs h1.1 h1.2) hmu hcut
                  obtain ⟨v, e1, e2⟩ := r2 _ rfl
                  subst e1
                  refine wpl_val (wanted_none hg) r1 ?_
                  rw [hd]
                  exact h2 kk B' _ w' H' (r5.put (by simpa [Nat.blt_eq] using hbt) e2 hgd) r4
              · cases h
            · rename_i hx hd
              obtain ⟨h1, h2⟩ := run_ok hT rest _ _ _ _ _ h ho
              refine ⟨splitO_mono hs h1, fun kk B a w H f m => ?_⟩
              obtain ⟨nx, w', B', H', r1, r2, r3, r4, r5, _⟩ := mst_ok hT f m hm (splitO_ok f (fun _ _ hm => by cases hm) hs h1.1 h1.2) hmu hcut
              have := r3 rfl
              subst this
              refine wpl_unit (wanted_none hg) r1 ?_
              rw [hd]
              exact h2 kk B' _ w' H' r5 r4
            · cases h
          · cases h
        · exact stop h
    · rename_i j wv hg
      split at h
      · rename_i d hsl
        split at h
        · rename_i x q t hp hd
          split at h
          · rename_i hn
            split at h
            · rename_i es2 gs2 gf2 hs hgd
              cases hbt : (Nat.blt t E.N && !(Nat.beq t d)) with
              | false => rw [hbt] at h; cases h
              | true =>
                rw [hbt] at h
                simp only [cond_true] at h
                simp only [Bool.and_eq_true, Bool.not_eq_true'] at hbt
                have htd : t ≠ d := Nat.ne_of_beq_eq_false hbt.2
                have htN : t < E.N := by simpa [Nat.blt_eq] using hbt.1
                obtain ⟨h1, h2⟩ := run_ok hT rest _ _ _ _ _ h ho
                refine ⟨splitO_mono hs h1, fun k B a w H f m => ?_⟩
                have hw := wanted_some (ops := all.toArray) (a := a) hg (gslot_ops hsl)
                by_cases hyes : a.tmps.getD d undef = .bool wv
                · have hacts := acts_ok f 6 d wv hyes
                  obtain ⟨v, r1, r2⟩ := pst_ok hT f m.mr.ms hacts hp (splitO_ok f hacts hs h1.1 h1.2)
                  refine wpl_val (hw.2 hyes) (r1 w m.mr.fw) ?_
                  rw [hd]
                  exact h2 k B _ w H (f.putG htN htd hn hgd (.inl ⟨hyes, r2⟩)) m
                · refine wpl_off (by
                    cases e : Region.wanted o (yielded all.toArray a.tmps) with
                    | false => rfl
                    | true => exact absurd (hw.1 e) hyes) ?_
                  rw [hd]
                  exact h2 k B _ w H (f.putG htN htd hn hgd (.inr ⟨hyes, rfl⟩)) m
            · cases h
          · cases h
        · exact stop h
      · cases h
end
/-! ### what stands behind a piece of code -/
inductive KF where
  | seq (c : Code)
  | blk (id : Nat)
  | loop (I : Act → World → Prop)
def KQ (P : Program) (R : Exit → Act → World → Prop) : List KF → Exit → Act → World → Prop
  | [] => R
  | .seq c :: K => Exit.then (fun a w => c.wp P (KQ P R K) a w) (KQ P R K)
  | .blk id :: K => Exit.inBlock id (KQ P R K)
  | .loop I :: K => Exit.then I (KQ P R K)
inductive Nx where
  | code (c : Code) (K : List KF)
  | inv (I : Act → World → Prop)
  | fin
def nxN : List KF → Nx
  | [] => .fin
  | .seq c :: K => .code c K
  | .blk _ :: K => nxN K
  | .loop I :: _ => .inv I
def nxE (id : Nat) : List KF → Option Nx
  | [] => none
  | .seq _ :: K => nxE id K
  | .blk j :: K => bif Nat.beq id j then some (nxN K) else nxE id K
  | .loop _ :: K => nxE id K
def Nx.holds (P : Program) (R : Exit → Act → World → Prop) (e : Exit) (a : Act) (w : World) : Nx → Prop
  | .code c K => c.wp P (KQ P R K) a w
  | .inv I => I a w
  | .fin => R e a w
section
variable {P : Program} {a : Act} {w : World} {R : Exit → Act → World → Prop} {K : List KF}
theorem nxN_ok : ∀ {K : List KF}, (nxN K).holds P R .normal a w → KQ P R K .normal a w
  | [], h => h
  | .seq c :: K, h => h
  | .blk id :: K, h => nxN_ok (K := K) h
  | .loop I :: K, h => h
theorem nxE_ok {id : Nat} : ∀ {K : List KF} {x : Nx}, nxE id K = some x → x.holds P R .normal a w → KQ P R K (.exit id) a w
  | [], x, h, _ => by cases h
  | .seq c :: K, x, h, hx => nxE_ok (K := K) h hx
  | .loop c :: K, x, h, hx => nxE_ok (K := K) h hx
  | .blk j :: K, x, h, hx => by
    simp only [nxE] at h
    simp only [KQ, Exit.inBlock]
    cases e : Nat.beq id j with
    | true =>
      rw [e] at h
      simp at h
      subst h
      rw [if_pos (Nat.eq_of_beq_eq_true e)]
      exact nxN_ok hx
    | false =>
      rw [e] at h
      rw [if_neg (Nat.ne_of_beq_eq_false e)]
      exact nxE_ok (K := K) h hx
theorem ret_ok : ∀ {K : List KF}, R .ret a w → KQ P R K .ret a w
  | [], h => h
  | .seq c :: K, h => ret_ok (K := K) h
  | .blk id :: K, h => ret_ok (K := K) h
  | .loop I :: K, h => ret_ok (K := K) h

end
/-- a piece of code, from every frame and memory that fit -/
def T (E : Env) (R : Exit → Act → World → Prop) (c : Code) (fr : Fr) (mu : Mu) (K : List KF) : Prop :=
  ∀ B a w H, FitsE E B H fr [] a → Mem E B mu w H → c.wp E.P (KQ E.P R K) a w
/-- what stands behind, from every frame and memory that fit -/
def X (E : Env) (R : Exit → Act → World → Prop) (x : Nx) (fr : Fr) (mu : Mu) : Prop :=
  ∀ B a w H, FitsE E B H fr [] a → Mem E B mu w H → x.holds E.P R .normal a w
section
variable {E : Env} {B : BE} {mu mu' : Mu} {w : World} {H : Nat → PH} {TT : List TI} {fr fr' : Fr} {gf gf' : GF} {a : Act} {all rest : List Oper} {Q : Exit → Act → World → Prop} {R : Exit → Act → World → Prop} {K : List KF}
theorem T_seq {c d : Code} (h : T E R c fr mu (.seq d :: K)) : T E R (.seq c d) fr mu K := fun B a w H f m => wp_seq (h B a w H f m)
theorem T_block {id : Nat} {c : Code} (h : T E R c fr mu (.blk id :: K)) : T E R (.block id c) fr mu K := fun B a w H f m => wp_block (h B a w H f m)
theorem T_skip (h : X E R (nxN K) fr mu) : T E R .skip fr mu K := fun B a w H f m => wp_skip (nxN_ok (h B a w H f m))
theorem T_label {l : Nat} (h : X E R (nxN K) fr mu) : T E R (.label l) fr mu K := fun B a w H f m => wp_label (nxN_ok (h B a w H f m))
theorem T_exit {id : Nat} {x : Nx} (hx : nxE id K = some x) (h : X E R x fr mu) : T E R (.exit id) fr mu K := fun B a w H f m => wp_exit (nxE_ok hx (h B a w H f m))
theorem T_cond {c : Operand} {x y : Code} {b : Bool} (hc : ev [] fr [] c = some (.a (.v (.bool b)))) (h1 : b = true → T E R x fr mu K) (h2 : b = false → T E R y fr mu K) : T E R (.cond c x y) fr mu K := fun B a w H f m => by
  have e : a.eval c = .bool b := f.ev (g := []) (fun _ _ hm => by cases hm) hc
  exact wp_cond_split e (fun e => h1 e B a w H f m) (fun e => h2 e B a w H f m)
theorem T_condD {c : Operand} {x y : Code} {p : Prop} [Decidable p] (hc : ev [] fr [] c = some (.a (.v (.bool (decide p))))) (h1 : p → T E R x fr mu K) (h2 : ¬p → T E R y fr mu K) : T E R (.cond c x y) fr mu K :=
  T_cond hc (fun e => h1 (of_decide_eq_true e)) fun e => h2 (of_decide_eq_false e)
theorem T_condE {c : Operand} {x y : Code} {u v : Int} (hc : ev [] fr [] c = some (.a (.v (.bool (u == v))))) (h1 : u = v → T E R x fr mu K) (h2 : u ≠ v → T E R y fr mu K) : T E R (.cond c x y) fr mu K :=
  T_cond hc (fun e => h1 (by simpa using e)) fun e => h2 (by simpa using e)
theorem T_condN {c : Operand} {x y : Code} {u v : Int} (hc : ev [] fr [] c = some (.a (.v (.bool (u != v))))) (h1 : u ≠ v → T E R x fr mu K) (h2 : u = v → T E R y fr mu K) : T E R (.cond c x y) fr mu K :=
  T_cond hc (fun e => h1 (by simpa using e)) fun e => h2 (by simpa using e)
theorem T_condX {c : Operand} {x y : Code} {b : Bool} (hc : ev [] fr [] c = some (.a (.v (.bool (!b))))) (h1 : b = false → T E R x fr mu K) (h2 : b = true → T E R y fr mu K) : T E R (.cond c x y) fr mu K :=
  T_cond hc (fun e => h1 (by simpa using e)) fun e => h2 (by simpa using e)
theorem T_region {id : Nat} {l : List Oper} (h : RJ E l (KQ E.P R K) l fr [] mu) : T E R (.region id l.toArray false) fr mu K := fun B a w H f m => wp_region_lit (h B a w H f m)
theorem Fits.ungf {P : Program} {Z : Tg → PH} {N : Nat} (f : Fits P B Z N fr gf a) : Fits P B Z N fr [] a := by
  refine ⟨f.size, f.defers, fun t x e _ => ?_, fun _ _ _ _ h => (by cases h), fun _ _ _ _ h => (by cases h), fun _ _ _ _ h => (by cases h)⟩
  refine f.vfr t x e ?_
  cases c : glk t gf with
  | none => rfl
  | some q => rw [f.vno t q.1 q.2.1 q.2.2 (glk_mem c)] at e; cases e
theorem RJ_end (h : X E R (nxN K) fr mu) : RJ E all (KQ E.P R K) [] fr gf mu := fun B a w H f m => wpList_nil (nxN_ok (h B a w H f.ungf m))

/-! ### running on -/
/-- where a run stands still: at code, inside a region, at a loop's end -/
inductive JS where
  | t (c : Code) (fr : Fr) (mu : Mu) (K : List KF)
  | r (all rest : List Oper) (fr : Fr) (gf : GF) (mu : Mu) (K : List KF)
  | x (I : Act → World → Prop) (fr : Fr) (mu : Mu)
def JS.ok (E : Env) (R : Exit → Act → World → Prop) : JS → Prop
  | .t c fr mu K => T E R c fr mu K
  | .r all rest fr gf mu K => RJ E all (KQ E.P R K) rest fr gf mu
  | .x I fr mu => X E R (.inv I) fr mu
def goNx (f : Code → Fr → Mu → List KF → List Prop → List GO → Option (JS × List Prop × List GO)) (x : Nx) (fr : Fr) (mu : Mu) (es : List Prop) (gs : List GO) : Option (JS × List Prop × List GO) :=
  match x with
  | .code c K => f c fr mu K es gs
  | .inv I => some (.x I fr mu, es, gs)
  | .fin => none
def goR (TT : List TI) (N : Nat) (ks : List Nat) (f : Code → Fr → Mu → List KF → List Prop → List GO → Option (JS × List Prop × List GO)) (all rest : List Oper) (fr : Fr) (gf : GF) (mu : Mu) (K : List KF) (es : List Prop) (gs : List GO) : Option (JS × List Prop × List GO) :=
  match run TT N ks all rest fr gf mu es gs with
  | some ([], fr', _, mu', es', gs') => goNx f (nxN K) fr' mu' es' gs'
  | some (o :: rest', fr', gf', mu', es', gs') => some (.r all (o :: rest') fr' gf' mu' K, es', gs')
  | none => none
def auto (TT : List TI) (N : Nat) (ks : List Nat) : Nat → Code → Fr → Mu → List KF → List Prop → List GO → Option (JS × List Prop × List GO)
  | 0, c, fr, mu, K, es, gs => some (.t c fr mu K, es, gs)
  | n + 1, c, fr, mu, K, es, gs => match c with
    | .seq a b => auto TT N ks n a fr mu (.seq b :: K) es gs
    | .block id b => auto TT N ks n b fr mu (.blk id :: K) es gs
    | .skip => goNx (auto TT N ks n) (nxN K) fr mu es gs
    | .label _ => goNx (auto TT N ks n) (nxN K) fr mu es gs
    | .exit id => match nxE id K with
      | some x => goNx (auto TT N ks n) x fr mu es gs
      | none => none
    | .region _ ops false => goR TT N ks (auto TT N ks n) ops.toList ops.toList fr [] mu K es gs
    | c => some (.t c fr mu K, es, gs)
theorem goNx_ok {f : Code → Fr → Mu → List KF → List Prop → List GO → Option (JS × List Prop × List GO)} (hf : ∀ c fr mu K es gs js es' gs', f c fr mu K es gs = some (js, es', gs') → PAlls es' ∧ GAlls gs' → (PAlls es ∧ GAlls gs) ∧ (js.ok E R → T E R c fr mu K))
    {x : Nx} {es es' : List Prop} {gs gs' : List GO} {js : JS} (h : goNx f x fr mu es gs = some (js, es', gs')) (ho : PAlls es' ∧ GAlls gs') : (PAlls es ∧ GAlls gs) ∧ (js.ok E R → X E R x fr mu) := by
  cases x with
  | code c K => exact hf _ _ _ _ _ _ _ _ _ h ho
  | inv I =>
    simp only [goNx, Option.some.injEq, Prod.mk.injEq] at h
    obtain ⟨rfl, rfl, rfl⟩ := h
    exact ⟨ho, id⟩
  | fin => cases h
theorem goR_ok (hT : TOk E.P TT) {f : Code → Fr → Mu → List KF → List Prop → List GO → Option (JS × List Prop × List GO)} (hf : ∀ c fr mu K es gs js es' gs', f c fr mu K es gs = some (js, es', gs') → PAlls es' ∧ GAlls gs' → (PAlls es ∧ GAlls gs) ∧ (js.ok E R → T E R c fr mu K))
    {es es' : List Prop} {gs gs' : List GO} {js : JS} (h : goR TT E.N E.A.ks f all rest fr gf mu K es gs = some (js, es', gs')) (ho : PAlls es' ∧ GAlls gs') : (PAlls es ∧ GAlls gs) ∧ (js.ok E R → RJ E all (KQ E.P R K) rest fr gf mu) := by
  unfold goR at h
  split at h
  · rename_i fr2 gf2 mu2 es2 gs2 hr
    obtain ⟨h1, h2⟩ := goNx_ok hf h ho
    obtain ⟨h3, h4⟩ := run_ok (Q := KQ E.P R K) hT _ _ _ _ _ _ hr h1
    exact ⟨h3, fun k => h4 (RJ_end (h2 k))⟩
  · rename_i o rest2 fr2 gf2 mu2 es2 gs2 hr
    simp only [Option.some.injEq, Prod.mk.injEq] at h
    obtain ⟨rfl, rfl, rfl⟩ := h
    obtain ⟨h3, h4⟩ := run_ok (Q := KQ E.P R K) hT _ _ _ _ _ _ hr ho
    exact ⟨h3, h4⟩
  · cases h
theorem auto_ok (hT : TOk E.P TT) : ∀ (n : Nat) (c : Code) (fr : Fr) (mu : Mu) (K : List KF) (es : List Prop) (gs : List GO) (js : JS) (es' : List Prop) (gs' : List GO), auto TT E.N E.A.ks n c fr mu K es gs = some (js, es', gs') → PAlls es' ∧ GAlls gs' → (PAlls es ∧ GAlls gs) ∧ (js.ok E R → T E R c fr mu K)
  | 0, c, fr, mu, K, es, gs, js, es', gs', h, ho => by
    simp only [auto, Option.some.injEq, Prod.mk.injEq] at h
    obtain ⟨rfl, rfl, rfl⟩ := h
    exact ⟨ho, id⟩
  | n + 1, c, fr, mu, K, es, gs, js, es', gs', h, ho => by
    have ih := auto_ok hT n
    have stop : some (JS.t c fr mu K, es, gs) = some (js, es', gs') → (PAlls es ∧ GAlls gs) ∧ (js.ok E R → T E R c fr mu K) := fun h => by
      simp only [Option.some.injEq, Prod.mk.injEq] at h
      obtain ⟨rfl, rfl, rfl⟩ := h
      exact ⟨ho, id⟩
    cases c with
    | seq x y =>
      obtain ⟨h1, h2⟩ := ih _ _ _ _ _ _ _ _ _ h ho
      exact ⟨h1, fun k => T_seq (h2 k)⟩
    | block id b =>
      obtain ⟨h1, h2⟩ := ih _ _ _ _ _ _ _ _ _ h ho
      exact ⟨h1, fun k => T_block (h2 k)⟩
    | skip =>
      obtain ⟨h1, h2⟩ := goNx_ok ih h ho
      exact ⟨h1, fun k => T_skip (h2 k)⟩
    | label l =>
      obtain ⟨h1, h2⟩ := goNx_ok ih h ho
      exact ⟨h1, fun k => T_label (h2 k)⟩
    | exit id =>
      simp only [auto] at h
      split at h
      · rename_i x hx
        obtain ⟨h1, h2⟩ := goNx_ok ih h ho
        exact ⟨h1, fun k => T_exit hx (h2 k)⟩
      · cases h
    | region id ops d =>
      cases d with
      | true => exact stop h
      | false =>
        obtain ⟨h1, h2⟩ := goR_ok hT ih h ho
        refine ⟨h1, fun k => ?_⟩
        have := T_region (id := id) (h2 k)
        simpa using this
    | _ => exact stop h
theorem T_auto (hT : TOk E.P TT) {c : Code} {js : JS} {es : List Prop} {gs : List GO} (h : auto TT E.N E.A.ks 400 c fr mu K [] [] = some (js, es, gs)) (k : js.ok E R) (he : PAlls es := by repeat (first | exact trivial | refine And.intro rfl ?_)) (ho : GAlls gs := by first | exact trivial | ((simp only [GAlls, GO.p, InR]; (repeat' (first | exact trivial | refine And.intro ?_ ?_ | refine fun _ => ?_)) <;> first | omega | (simp only [decide_eq_true_eq, decide_eq_false_iff_not, Int.toNat_natCast] at *; omega)))) : T E R c fr mu K :=
  (auto_ok hT _ _ _ _ _ _ _ _ _ _ h ⟨he, ho⟩).2 k
theorem RJ_auto (hT : TOk E.P TT) {js : JS} {es : List Prop} {gs : List GO} (h : goR TT E.N E.A.ks (auto TT E.N E.A.ks 400) all rest fr gf mu K [] [] = some (js, es, gs)) (k : js.ok E R) (he : PAlls es := by repeat (first | exact trivial | refine And.intro rfl ?_)) (ho : GAlls gs := by first | exact trivial | ((simp only [GAlls, GO.p, InR]; (repeat' (first | exact trivial | refine And.intro ?_ ?_ | refine fun _ => ?_)) <;> first | omega | (simp only [decide_eq_true_eq, decide_eq_false_iff_not, Int.toNat_natCast] at *; omega)))) : RJ E all (KQ E.P R K) rest fr gf mu :=
  (goR_ok hT (auto_ok hT 400) h ⟨he, ho⟩).2 k
/-- the same, obligations left open -/
theorem T_autoO (hT : TOk E.P TT) {c : Code} {js : JS} {es : List Prop} {gs : List GO} (h : auto TT E.N E.A.ks 400 c fr mu K [] [] = some (js, es, gs)) (ho : GAlls gs) (k : js.ok E R) (he : PAlls es := by repeat (first | exact trivial | refine And.intro rfl ?_)) : T E R c fr mu K :=
  (auto_ok hT _ _ _ _ _ _ _ _ _ _ h ⟨he, ho⟩).2 k
theorem RJ_autoO (hT : TOk E.P TT) {js : JS} {es : List Prop} {gs : List GO} (h : goR TT E.N E.A.ks (auto TT E.N E.A.ks 400) all rest fr gf mu K [] [] = some (js, es, gs)) (ho : GAlls gs) (k : js.ok E R) (he : PAlls es := by repeat (first | exact trivial | refine And.intro rfl ?_)) : RJ E all (KQ E.P R K) rest fr gf mu :=
  (goR_ok hT (auto_ok hT 400) h ⟨he, ho⟩).2 k

/-! ### weakening -/
def SV.imp (P : Program) (x y : SV) : Prop := ∀ B Z v, SV.rel P B Z x v → SV.rel P B Z y v
theorem SV.imp_refl {P : Program} (x : SV) : x.imp P x := fun _ _ _ h => h
theorem SV.imp_of {P : Program} {x y : SV} (h : x = y) : x.imp P y := by subst h; exact SV.imp_refl x
def Ch.imp (c d : Ch) : Prop := ∀ B r h k, c.sat B r h k → d.sat B r h k
theorem Ch.imp_refl (c : Ch) : c.imp c := fun _ _ _ _ h => h
theorem Ch.imp_of {x y : Ch} (h : x = y) : x.imp y := by subst h; exact Ch.imp_refl x
theorem D.own_congr {h : PH} {sz n : Nat} {f g : Nat → List D} (e : ∀ i, i < n → f i = g i) {y : Value} (k : D.own h (.sl sz n f) y) : D.own h (.sl sz n g) y := by
  obtain ⟨A, c, e1, e2, e3, e4⟩ := k
  refine ⟨A, c, e1, e2, e3, e4.imp id fun ⟨b, o, row, H, e5, e6, e7⟩ => ⟨b, o, row, H, e5, fun i hi => ?_, e7⟩⟩
  rw [← e i hi]; exact e6 i hi
theorem D.rd_congr {h : PH} {sz n : Nat} {f g : Nat → List D} (e : ∀ i, i < n → f i = g i) {y : Value} (k : D.rd h (.sl sz n f) y) : D.rd h (.sl sz n g) y := by
  obtain ⟨A, c, e1, e2, e3, e4⟩ := k
  refine ⟨A, c, e1, e2, e3, e4.imp id fun ⟨b, o, e5, e6⟩ => ⟨b, o, e5, fun i hi => ?_⟩⟩
  rw [← e i hi]; exact e6 i hi
theorem Ch.imp_arr {sz n : Nat} {f g : Nat → List D} (e : ∀ i, i < n → f i = g i) : (Ch.arr sz n f).imp (.arr sz n g) := fun _ _ _ _ s => D.own_congr e s
theorem SV.imp_s {P : Program} {q : Tg} {sz n : Nat} {f g : Nat → List D} (e : ∀ i, i < n → f i = g i) : (SV.a (.s q sz n f)).imp P (.a (.s q sz n g)) := fun _ _ _ s => D.rd_congr e s
def WkFr (P : Program) (fr : Fr) : Fr → Prop
  | [] => True
  | (t, x) :: r => (∃ y, mlk t fr = some y ∧ y.imp P x) ∧ WkFr P fr r
def WkMu (mu : Mu) : Mu → Prop
  | [] => True
  | (k, c) :: r => (∃ d, mlk k mu = some d ∧ d.imp c) ∧ WkMu mu r
theorem WkFr.get {P : Program} : ∀ {l : Fr}, WkFr P fr l → ∀ t x, mlk t l = some x → ∃ y, mlk t fr = some y ∧ y.imp P x
  | [], _, _, _, h => by cases h
  | (j, y) :: r, h, t, x, e => by
    rw [mlk_cons] at e
    by_cases hj : j = t
    · rw [if_pos hj] at e; injection e with e; rw [← e, ← hj]; exact h.1
    · rw [if_neg hj] at e; exact WkFr.get h.2 t x e
theorem WkMu.get : ∀ {l : Mu}, WkMu mu l → ∀ k c, mlk k l = some c → ∃ d, mlk k mu = some d ∧ d.imp c
  | [], _, _, _, h => by cases h
  | (j, y) :: r, h, k, c, e => by
    rw [mlk_cons] at e
    by_cases hj : j = k
    · rw [if_pos hj] at e; injection e with e; rw [← e, ← hj]; exact h.1
    · rw [if_neg hj] at e; exact WkMu.get h.2 k c e
theorem Fits.wk {P : Program} {Z : Tg → PH} {N : Nat} (f : Fits P B Z N fr [] a) (h : WkFr P fr fr') : Fits P B Z N fr' [] a :=
  ⟨f.size, f.defers, fun t x e _ => by
    obtain ⟨y, h1, h2⟩ := h.get t x e
    exact h2 _ _ _ (f.vfr t y h1 rfl), fun _ _ _ _ h => (by cases h), fun _ _ _ _ h => (by cases h), fun _ _ _ _ h => (by cases h)⟩
theorem Mem.wk (m : Mem E B mu w H) (h : WkMu mu mu') : Mem E B mu' w H :=
  ⟨⟨fun k c e => by
    obtain ⟨d, d1, d2⟩ := h.get k c e
    exact d2 _ _ _ _ (m.mm.sat k d d1), m.mm.fit, m.mm.dj, m.mm.djr, m.mm.fitr⟩, m.keep, m.dom, m.anch⟩
theorem T_wk {c : Code} (h1 : WkFr E.P fr fr') (h2 : WkMu mu mu') (h : T E R c fr' mu' K) : T E R c fr mu K := fun B a w H f m => h B a w H (f.wk h1) (m.wk h2)

/-! ### loops -/
def FM (E : Env) (fr : Fr) (mu : Mu) (a : Act) (w : World) : Prop := ∃ B H, FitsE E B H fr [] a ∧ Mem E B mu w H
/-- what a round must come to -/
def Inv {ι : Type} (E : Env) (F : ι → Fr) (M : ι → Mu) (φ : ι → Prop) (m : ι → Nat) (n : Nat) (a : Act) (w : World) : Prop := ∃ y, φ y ∧ m y < n ∧ FM E (F y) (M y) a w
theorem T_loop {ι : Type} {c : Code} (F : ι → Fr) (M : ι → Mu) (φ : ι → Prop) (m : ι → Nat) (x : ι) (h0 : φ x) (hf : WkFr E.P fr (F x)) (hm : WkMu mu (M x))
    (body : ∀ y, φ y → T E R c (F y) (M y) (.loop (Inv E F M φ m (m y)) :: K)) : T E R (.loop c) fr mu K := fun B a w H f me => by
  refine wp_loop_ghost (fun n a w => ∃ y, φ y ∧ m y = n ∧ FM E (F y) (M y) a w) (m x) ⟨x, h0, rfl, B, H, f.wk hf, me.wk hm⟩ ?_
  rintro n a w ⟨y, hy, rfl, B, H, f, me⟩
  refine wp_mono (body y hy B a w H f me) ?_
  intro e a' w' q
  cases e with
  | normal =>
    obtain ⟨z, z1, z2, z3⟩ := q
    exact ⟨m z, z2, z, z1, rfl, z3⟩
  | exit id => exact q
  | goto l => exact q
  | ret => exact q
  | panic ch => exact q
  | outgrown => exact q
theorem X_inv {ι : Type} {F : ι → Fr} {M : ι → Mu} {φ : ι → Prop} {m : ι → Nat} {n : Nat} (y : ι) (h1 : φ y) (h2 : m y < n) (hf : WkFr E.P fr (F y)) (hm : WkMu mu (M y)) : X E R (.inv (Inv E F M φ m n)) fr mu :=
  fun B a w H f me => ⟨y, h1, h2, B, H, f.wk hf, me.wk hm⟩
end
end Go.Proofs.YtiegllklalplnaaGreat
