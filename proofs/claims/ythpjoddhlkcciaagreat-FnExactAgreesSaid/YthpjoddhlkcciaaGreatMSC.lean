/-
  Part C of what the claim leans on: memory, data, walks through the program, plain laws.
-/
import Derived.Test.YthpjoddhlkcciaaGreatMSB
namespace Go.Proofs.YthpjoddhlkcciaaGreat
open Go Go.RowKit
set_option linter.unusedVariables false
set_option linter.unusedSimpArgs false
section
section
variable {P : Program} {ops : Array Oper} {Q : Exit → Act → World → Prop} {a : Act} {w w' : World} {rest : List Oper} {o : Oper}
theorem wpl_val (hw : Region.wanted o (yielded ops a.tmps) = true) {v : Value} (hr : (execOp a.eval o).run P w = .ok (.value v) w') (h : wpList P ops Q rest (a.put o.dst v) w') : wpList P ops Q (o :: rest) a w := by
  unfold wpList
  rw [if_pos hw]
  exact .inl (by unfold Oper.wp; rw [hr]; exact h)
theorem wpl_unit (hw : Region.wanted o (yielded ops a.tmps) = true) (hr : (execOp a.eval o).run P w = .ok .skip w') (h : wpList P ops Q rest (a.put o.dst undef) w') : wpList P ops Q (o :: rest) a w := by
  unfold wpList
  rw [if_pos hw]
  exact .inl (by unfold Oper.wp; rw [hr]; exact h)
theorem wpl_off (hw : Region.wanted o (yielded ops a.tmps) = false) (h : wpList P ops Q rest (a.put o.dst undef) w) : wpList P ops Q (o :: rest) a w := by
  unfold wpList
  rw [if_neg (by rw [hw]; simp)]
  exact h
theorem wanted_none (h : o.guard = none) : Region.wanted o (yielded ops a.tmps) = true := by simp [Region.wanted, h]
theorem wanted_some {j d : Nat} {b : Bool} (h : o.guard = some (j, b)) (hd : (ops[j]?).bind (·.dst) = some d) : Region.wanted o (yielded ops a.tmps) = true ↔ a.tmps.getD d undef = .bool b := by
  simp only [Region.wanted, h, yielded, hd, Option.bind_some]
  rw [Array.getD_eq_getD_getElem?]
  cases e : a.tmps[d]? with
  | none => simp [undef]
  | some v => cases v <;> simp
end
def RJ (E : Env) (all : List Oper) (Q : Exit → Act → World → Prop) (rest : List Oper) (fr : Fr) (gf : GF) (mu : Mu) : Prop :=
  ∀ B a w H, FitsE E B H fr gf a → Mem E B mu w H → wpList E.P all.toArray Q rest a w
section
variable {E : Env} {B : BE} {mu mu' : Mu} {w : World} {H : Nat → PH} {TT : List TI} {fr fr' : Fr} {gf gf' : GF} {a : Act} {all : List Oper} {Q : Exit → Act → World → Prop}
theorem gslot_ops {j d : Nat} (hs : gSlot all j = some d) : (all.toArray[j]?).bind (·.dst) = some d := by
  unfold gSlot at hs
  rw [nth_eq] at hs
  simp only [List.getElem?_toArray]
  cases e : all[j]? with
  | none => rw [e] at hs; cases hs
  | some o' => rw [e] at hs; exact hs
theorem run_ok (hT : TOk E.P TT) : ∀ (rest : List Oper) (fr : Fr) (gf : GF) (mu : Mu) (es : List Prop) (gs : List GO) {rest' : List Oper} {fr' : Fr} {gf' : GF} {mu' : Mu} {es' : List Prop} {gs' : List GO}, run TT E.N E.A.ks all rest fr gf mu es gs = some (rest', fr', gf', mu', es', gs') → PAlls es' ∧ GAlls gs' →
    (PAlls es ∧ GAlls gs) ∧ (RJ E all Q rest' fr' gf' mu' → RJ E all Q rest fr gf mu)
  | [], fr, gf, mu, es, gs, rest', fr', gf', mu', es', gs', h, ho => by
    simp only [run, Option.some.injEq, Prod.mk.injEq] at h
    obtain ⟨rfl, rfl, rfl, rfl, rfl, rfl⟩ := h
    exact ⟨ho, id⟩
  | o :: rest, fr, gf, mu, es, gs, rest', fr', gf', mu', es', gs', h, ho => by
    have stop : some (o :: rest, fr, gf, mu, es, gs) = some (rest', fr', gf', mu', es', gs') → (PAlls es ∧ GAlls gs) ∧ (RJ E all Q rest' fr' gf' mu' → RJ E all Q (o :: rest) fr gf mu) := fun h => by
      simp only [Option.some.injEq, Prod.mk.injEq] at h
      obtain ⟨rfl, rfl, rfl, rfl, rfl, rfl⟩ := h
      exact ⟨ho, id⟩
    simp only [run] at h
    split at h
    · rename_i hg
      split at h
      · rename_i x q t hp hd
        split at h
        · rename_i es2 gs2 gf2 hs hgd
          cases hbt : Nat.blt t E.N with
          | false => rw [hbt] at h; cases h
          | true =>
            rw [hbt] at h
            simp only [cond_true] at h
            obtain ⟨h1, h2⟩ := run_ok hT rest _ _ _ _ _ h ho
            refine ⟨splitO_mono hs h1, fun k B a w H f m => ?_⟩
            obtain ⟨v, r1, r2⟩ := pst_ok hT f m.mr.ms (g := []) (fun _ _ hm => by cases hm) hp (splitO_ok f (fun _ _ hm => by cases hm) hs h1.1 h1.2)
            refine wpl_val (wanted_none hg) (r1 w m.mr.fw) ?_
            rw [hd]
            exact h2 k B _ w H (f.put (by simpa [Nat.blt_eq] using hbt) r2 hgd) m
        · cases h
      · rename_i hno
        split at h
        · rename_i x nw k c q hm
          split at h
          · rename_i es2 gs2 mu2 fr2 gf2 hs hmu hcut
            split at h
            · rename_i x' t hd
              split at h
              · rename_i gf3 hgd
                cases hbt : Nat.blt t E.N with
                | false => rw [hbt] at h; cases h
                | true =>
                  rw [hbt] at h
                  simp only [cond_true] at h
                  obtain ⟨h1, h2⟩ := run_ok hT rest _ _ _ _ _ h ho
                  refine ⟨splitO_mono hs h1, fun kk B a w H f m => ?_⟩
                  obtain ⟨nx, w', B', H', r1, r2, r3, r4, r5, _⟩ := mst_ok hT f m hm (splitO_ok f (fun _ _ hm => by cases hm) hs h1.1 h1.2) hmu hcut
                  obtain ⟨v, e1, e2⟩ := r2 _ rfl
                  subst e1
                  refine wpl_val (wanted_none hg) r1 ?_
                  rw [hd]
                  exact h2 kk B' _ w' H' (r5.put (by simpa [Nat.blt_eq] using hbt) e2 hgd) r4
              · cases h
            · rename_i hx hd
              obtain ⟨h1, h2⟩ := run_ok hT rest _ _ _ _ _ h ho
              refine ⟨splitO_mono hs h1, fun kk B a w H f m => ?_⟩
              obtain ⟨nx, w', B', H', r1, r2, r3, r4, r5, _⟩ := mst_ok hT f m hm (splitO_ok f (fun _ _ hm => by cases hm) hs h1.1 h1.2) hmu hcut
              have := r3 rfl
              subst this
              refine wpl_unit (wanted_none hg) r1 ?_
              rw [hd]
              exact h2 kk B' _ w' H' r5 r4
            · cases h
          · cases h
        · exact stop h
    · rename_i j wv hg
      split at h
      · rename_i d hsl
        split at h
        · rename_i x q t hp hd
          split at h
          · rename_i hn
            split at h
            · rename_i es2 gs2 gf2 hs hgd
              cases hbt : (Nat.blt t E.N && !(Nat.beq t d)) with
              | false => rw [hbt] at h; cases h
              | true =>
                rw [hbt] at h
                simp only [cond_true] at h
                simp only [Bool.and_eq_true, Bool.not_eq_true'] at hbt
                have htd : t ≠ d := Nat.ne_of_beq_eq_false hbt.2
                have htN : t < E.N := by simpa [Nat.blt_eq] using hbt.1
                obtain ⟨h1, h2⟩ := run_ok hT rest _ _ _ _ _ h ho
                refine ⟨splitO_mono hs h1, fun k B a w H f m => ?_⟩
                have hw := wanted_some (ops := all.toArray) (a := a) hg (gslot_ops hsl)
                by_cases hyes : a.tmps.getD d undef = .bool wv
                · have hacts := acts_ok f 6 d wv hyes
                  obtain ⟨v, r1, r2⟩ := pst_ok hT f m.mr.ms hacts hp (splitO_ok f hacts hs h1.1 h1.2)
                  refine wpl_val (hw.2 hyes) (r1 w m.mr.fw) ?_
                  rw [hd]
                  exact h2 k B _ w H (f.putG htN htd hn hgd (.inl ⟨hyes, r2⟩)) m
                · refine wpl_off (by
                    cases e : Region.wanted o (yielded all.toArray a.tmps) with
                    | false => rfl
                    | true => exact absurd (hw.1 e) hyes) ?_
                  rw [hd]
                  exact h2 k B _ w H (f.putG htN htd hn hgd (.inr ⟨hyes, rfl⟩)) m
            · cases h
          · cases h
        · exact stop h
      · cases h
end
inductive KF where
  | seq (c : Code)
  | blk (id : Nat)
  | loop (I : Act → World → Prop)
def KQ (P : Program) (R : Exit → Act → World → Prop) : List KF → Exit → Act → World → Prop
  | [] => R
  | .seq c :: K => Exit.then (fun a w => c.wp P (KQ P R K) a w) (KQ P R K)
  | .blk id :: K => Exit.inBlock id (KQ P R K)
  | .loop I :: K => Exit.then I (KQ P R K)
inductive Nx where
  | code (c : Code) (K : List KF)
  | inv (I : Act → World → Prop)
  | fin
def nxN : List KF → Nx
  | [] => .fin
  | .seq c :: K => .code c K
  | .blk _ :: K => nxN K
  | .loop I :: _ => .inv I
def nxE (id : Nat) : List KF → Option Nx
  | [] => none
  | .seq _ :: K => nxE id K
  | .blk j :: K => bif Nat.beq id j then some (nxN K) else nxE id K
  | .loop _ :: K => nxE id K
def Nx.holds (P : Program) (R : Exit → Act → World → Prop) (e : Exit) (a : Act) (w : World) : Nx → Prop
  | .code c K => c.wp P (KQ P R K) a w
  | .inv I => I a w
  | .fin => R e a w
section
variable {P : Program} {a : Act} {w : World} {R : Exit → Act → World → Prop} {K : List KF}
theorem nxN_ok : ∀ {K : List KF}, (nxN K).holds P R .normal a w → KQ P R K .normal a w
  | [], h => h
  | .seq c :: K, h => h
  | .blk id :: K, h => nxN_ok (K := K) h
  | .loop I :: K, h => h
theorem nxE_ok {id : Nat} : ∀ {K : List KF} {x : Nx}, nxE id K = some x → x.holds P R .normal a w → KQ P R K (.exit id) a w
  | [], x, h, _ => by cases h
  | .seq c :: K, x, h, hx => nxE_ok (K := K) h hx
  | .loop c :: K, x, h, hx => nxE_ok (K := K) h hx
  | .blk j :: K, x, h, hx => by
    simp only [nxE] at h
    simp only [KQ, Exit.inBlock]
    cases e : Nat.beq id j with
    | true =>
      rw [e] at h
      simp at h
      subst h
      rw [if_pos (Nat.eq_of_beq_eq_true e)]
      exact nxN_ok hx
    | false =>
      rw [e] at h
      rw [if_neg (Nat.ne_of_beq_eq_false e)]
      exact nxE_ok (K := K) h hx
theorem ret_ok : ∀ {K : List KF}, R .ret a w → KQ P R K .ret a w
  | [], h => h
  | .seq c :: K, h => ret_ok (K := K) h
  | .blk id :: K, h => ret_ok (K := K) h
  | .loop I :: K, h => ret_ok (K := K) h
end
def T (E : Env) (R : Exit → Act → World → Prop) (c : Code) (fr : Fr) (mu : Mu) (K : List KF) : Prop :=
  ∀ B a w H, FitsE E B H fr [] a → Mem E B mu w H → c.wp E.P (KQ E.P R K) a w
def X (E : Env) (R : Exit → Act → World → Prop) (x : Nx) (fr : Fr) (mu : Mu) : Prop :=
  ∀ B a w H, FitsE E B H fr [] a → Mem E B mu w H → x.holds E.P R .normal a w
section
variable {E : Env} {B : BE} {mu mu' : Mu} {w : World} {H : Nat → PH} {TT : List TI} {fr fr' : Fr} {gf gf' : GF} {a : Act} {all rest : List Oper} {Q : Exit → Act → World → Prop} {R : Exit → Act → World → Prop} {K : List KF}
theorem T_seq {c d : Code} (h : T E R c fr mu (.seq d :: K)) : T E R (.seq c d) fr mu K := fun B a w H f m => wp_seq (h B a w H f m)
theorem T_block {id : Nat} {c : Code} (h : T E R c fr mu (.blk id :: K)) : T E R (.block id c) fr mu K := fun B a w H f m => wp_block (h B a w H f m)
theorem T_skip (h : X E R (nxN K) fr mu) : T E R .skip fr mu K := fun B a w H f m => wp_skip (nxN_ok (h B a w H f m))
theorem T_label {l : Nat} (h : X E R (nxN K) fr mu) : T E R (.label l) fr mu K := fun B a w H f m => wp_label (nxN_ok (h B a w H f m))
theorem T_exit {id : Nat} {x : Nx} (hx : nxE id K = some x) (h : X E R x fr mu) : T E R (.exit id) fr mu K := fun B a w H f m => wp_exit (nxE_ok hx (h B a w H f m))
theorem T_cond {c : Operand} {x y : Code} {b : Bool} (hc : ev [] fr [] c = some (.a (.v (.bool b)))) (h1 : b = true → T E R x fr mu K) (h2 : b = false → T E R y fr mu K) : T E R (.cond c x y) fr mu K := fun B a w H f m => by
  have e : a.eval c = .bool b := f.ev (g := []) (fun _ _ hm => by cases hm) hc
  exact wp_cond_split e (fun e => h1 e B a w H f m) (fun e => h2 e B a w H f m)
theorem T_condD {c : Operand} {x y : Code} {p : Prop} [Decidable p] (hc : ev [] fr [] c = some (.a (.v (.bool (decide p))))) (h1 : p → T E R x fr mu K) (h2 : ¬p → T E R y fr mu K) : T E R (.cond c x y) fr mu K :=
  T_cond hc (fun e => h1 (of_decide_eq_true e)) fun e => h2 (of_decide_eq_false e)
theorem T_condE {c : Operand} {x y : Code} {u v : Int} (hc : ev [] fr [] c = some (.a (.v (.bool (u == v))))) (h1 : u = v → T E R x fr mu K) (h2 : u ≠ v → T E R y fr mu K) : T E R (.cond c x y) fr mu K :=
  T_cond hc (fun e => h1 (by simpa using e)) fun e => h2 (by simpa using e)
theorem T_condN {c : Operand} {x y : Code} {u v : Int} (hc : ev [] fr [] c = some (.a (.v (.bool (u != v))))) (h1 : u ≠ v → T E R x fr mu K) (h2 : u = v → T E R y fr mu K) : T E R (.cond c x y) fr mu K :=
  T_cond hc (fun e => h1 (by simpa using e)) fun e => h2 (by simpa using e)
theorem T_condX {c : Operand} {x y : Code} {b : Bool} (hc : ev [] fr [] c = some (.a (.v (.bool (!b))))) (h1 : b = false → T E R x fr mu K) (h2 : b = true → T E R y fr mu K) : T E R (.cond c x y) fr mu K :=
  T_cond hc (fun e => h1 (by simpa using e)) fun e => h2 (by simpa using e)
theorem T_region {id : Nat} {l : List Oper} (h : RJ E l (KQ E.P R K) l fr [] mu) : T E R (.region id l.toArray false) fr mu K := fun B a w H f m => wp_region_lit (h B a w H f m)
theorem Fits.ungf {P : Program} {Z : Tg → PH} {N : Nat} (f : Fits P B Z N fr gf a) : Fits P B Z N fr [] a := by
  refine ⟨f.size, f.defers, fun t x e _ => ?_, fun _ _ _ _ h => (by cases h), fun _ _ _ _ h => (by cases h), fun _ _ _ _ h => (by cases h)⟩
  refine f.vfr t x e ?_
  cases c : glk t gf with
  | none => rfl
  | some q => rw [f.vno t q.1 q.2.1 q.2.2 (glk_mem c)] at e; cases e
theorem RJ_end (h : X E R (nxN K) fr mu) : RJ E all (KQ E.P R K) [] fr gf mu := fun B a w H f m => wpList_nil (nxN_ok (h B a w H f.ungf m))
inductive JS where
  | t (c : Code) (fr : Fr) (mu : Mu) (K : List KF)
  | r (all rest : List Oper) (fr : Fr) (gf : GF) (mu : Mu) (K : List KF)
  | x (I : Act → World → Prop) (fr : Fr) (mu : Mu)
def JS.ok (E : Env) (R : Exit → Act → World → Prop) : JS → Prop
  | .t c fr mu K => T E R c fr mu K
  | .r all rest fr gf mu K => RJ E all (KQ E.P R K) rest fr gf mu
  | .x I fr mu => X E R (.inv I) fr mu
def goNx (f : Code → Fr → Mu → List KF → List Prop → List GO → Option (JS × List Prop × List GO)) (x : Nx) (fr : Fr) (mu : Mu) (es : List Prop) (gs : List GO) : Option (JS × List Prop × List GO) :=
  match x with
  | .code c K => f c fr mu K es gs
  | .inv I => some (.x I fr mu, es, gs)
  | .fin => none
def goR (TT : List TI) (N : Nat) (ks : List Nat) (f : Code → Fr → Mu → List KF → List Prop → List GO → Option (JS × List Prop × List GO)) (all rest : List Oper) (fr : Fr) (gf : GF) (mu : Mu) (K : List KF) (es : List Prop) (gs : List GO) : Option (JS × List Prop × List GO) :=
  match run TT N ks all rest fr gf mu es gs with
  | some ([], fr', _, mu', es', gs') => goNx f (nxN K) fr' mu' es' gs'
  | some (o :: rest', fr', gf', mu', es', gs') => some (.r all (o :: rest') fr' gf' mu' K, es', gs')
  | none => none
def auto (TT : List TI) (N : Nat) (ks : List Nat) : Nat → Code → Fr → Mu → List KF → List Prop → List GO → Option (JS × List Prop × List GO)
  | 0, c, fr, mu, K, es, gs => some (.t c fr mu K, es, gs)
  | n + 1, c, fr, mu, K, es, gs => match c with
    | .seq a b => auto TT N ks n a fr mu (.seq b :: K) es gs
    | .block id b => auto TT N ks n b fr mu (.blk id :: K) es gs
    | .skip => goNx (auto TT N ks n) (nxN K) fr mu es gs
    | .label _ => goNx (auto TT N ks n) (nxN K) fr mu es gs
    | .exit id => match nxE id K with
      | some x => goNx (auto TT N ks n) x fr mu es gs
      | none => none
    | .region _ ops false => goR TT N ks (auto TT N ks n) ops.toList ops.toList fr [] mu K es gs
    | c => some (.t c fr mu K, es, gs)
theorem goNx_ok {f : Code → Fr → Mu → List KF → List Prop → List GO → Option (JS × List Prop × List GO)} (hf : ∀ c fr mu K es gs js es' gs', f c fr mu K es gs = some (js, es', gs') → PAlls es' ∧ GAlls gs' → (PAlls es ∧ GAlls gs) ∧ (js.ok E R → T E R c fr mu K))
    {x : Nx} {es es' : List Prop} {gs gs' : List GO} {js : JS} (h : goNx f x fr mu es gs = some (js, es', gs')) (ho : PAlls es' ∧ GAlls gs') : (PAlls es ∧ GAlls gs) ∧ (js.ok E R → X E R x fr mu) := by
  cases x with
  | code c K => exact hf _ _ _ _ _ _ _ _ _ h ho
  | inv I =>
    simp only [goNx, Option.some.injEq, Prod.mk.injEq] at h
    obtain ⟨rfl, rfl, rfl⟩ := h
    exact ⟨ho, id⟩
  | fin => cases h
theorem goR_ok (hT : TOk E.P TT) {f : Code → Fr → Mu → List KF → List Prop → List GO → Option (JS × List Prop × List GO)} (hf : ∀ c fr mu K es gs js es' gs', f c fr mu K es gs = some (js, es', gs') → PAlls es' ∧ GAlls gs' → (PAlls es ∧ GAlls gs) ∧ (js.ok E R → T E R c fr mu K))
    {es es' : List Prop} {gs gs' : List GO} {js : JS} (h : goR TT E.N E.A.ks f all rest fr gf mu K es gs = some (js, es', gs')) (ho : PAlls es' ∧ GAlls gs') : (PAlls es ∧ GAlls gs) ∧ (js.ok E R → RJ E all (KQ E.P R K) rest fr gf mu) := by
  unfold goR at h
  split at h
  · rename_i fr2 gf2 mu2 es2 gs2 hr
    obtain ⟨h1, h2⟩ := goNx_ok hf h ho
    obtain ⟨h3, h4⟩ := run_ok (Q := KQ E.P R K) hT _ _ _ _ _ _ hr h1
    exact ⟨h3, fun k => h4 (RJ_end (h2 k))⟩
  · rename_i o rest2 fr2 gf2 mu2 es2 gs2 hr
    simp only [Option.some.injEq, Prod.mk.injEq] at h
    obtain ⟨rfl, rfl, rfl⟩ := h
    obtain ⟨h3, h4⟩ := run_ok (Q := KQ E.P R K) hT _ _ _ _ _ _ hr ho
    exact ⟨h3, h4⟩
  · cases h
theorem auto_ok (hT : TOk E.P TT) : ∀ (n : Nat) (c : Code) (fr : Fr) (mu : Mu) (K : List KF) (es : List Prop) (gs : List GO) (js : JS) (es' : List Prop) (gs' : List GO), auto TT E.N E.A.ks n c fr mu K es gs = some (js, es', gs') → PAlls es' ∧ GAlls gs' → (PAlls es ∧ GAlls gs) ∧ (js.ok E R → T E R c fr mu K)
  | 0, c, fr, mu, K, es, gs, js, es', gs', h, ho => by
    simp only [auto, Option.some.injEq, Prod.mk.injEq] at h
    obtain ⟨rfl, rfl, rfl⟩ := h
    exact ⟨ho, id⟩
  | n + 1, c, fr, mu, K, es, gs, js, es', gs', h, ho => by
    have ih := auto_ok hT n
    have stop : some (JS.t c fr mu K, es, gs) = some (js, es', gs') → (PAlls es ∧ GAlls gs) ∧ (js.ok E R → T E R c fr mu K) := fun h => by
      simp only [Option.some.injEq, Prod.mk.injEq] at h
      obtain ⟨rfl, rfl, rfl⟩ := h
      exact ⟨ho, id⟩
    cases c with
    | seq x y =>
      obtain ⟨h1, h2⟩ := ih _ _ _ _ _ _ _ _ _ h ho
      exact ⟨h1, fun k => T_seq (h2 k)⟩
    | block id b =>
      obtain ⟨h1, h2⟩ := ih _ _ _ _ _ _ _ _ _ h ho
      exact ⟨h1, fun k => T_block (h2 k)⟩
    | skip =>
      obtain ⟨h1, h2⟩ := goNx_ok ih h ho
      exact ⟨h1, fun k => T_skip (h2 k)⟩
    | label l =>
      obtain ⟨h1, h2⟩ := goNx_ok ih h ho
      exact ⟨h1, fun k => T_label (h2 k)⟩
    | exit id =>
      simp only [auto] at h
      split at h
      · rename_i x hx
        obtain ⟨h1, h2⟩ := goNx_ok ih h ho
        exact ⟨h1, fun k => T_exit hx (h2 k)⟩
      · cases h
    | region id ops d =>
      cases d with
      | true => exact stop h
      | false =>
        obtain ⟨h1, h2⟩ := goR_ok hT ih h ho
        refine ⟨h1, fun k => ?_⟩
        have := T_region (id := id) (h2 k)
        simpa using this
    | _ => exact stop h
theorem T_auto (hT : TOk E.P TT) {c : Code} {js : JS} {es : List Prop} {gs : List GO} (h : auto TT E.N E.A.ks 400 c fr mu K [] [] = some (js, es, gs)) (k : js.ok E R) (he : PAlls es := by repeat (first | exact trivial | refine And.intro rfl ?_)) (ho : GAlls gs := by first | exact trivial | ((simp only [GAlls, GO.p, InR]; (repeat' (first | exact trivial | refine And.intro ?_ ?_ | refine fun _ => ?_)) <;> first | omega | (simp only [decide_eq_true_eq, decide_eq_false_iff_not, Int.toNat_natCast] at *; omega) | (simp at *; omega)))) : T E R c fr mu K :=
  (auto_ok hT _ _ _ _ _ _ _ _ _ _ h ⟨he, ho⟩).2 k
theorem RJ_auto (hT : TOk E.P TT) {js : JS} {es : List Prop} {gs : List GO} (h : goR TT E.N E.A.ks (auto TT E.N E.A.ks 400) all rest fr gf mu K [] [] = some (js, es, gs)) (k : js.ok E R) (he : PAlls es := by repeat (first | exact trivial | refine And.intro rfl ?_)) (ho : GAlls gs := by first | exact trivial | ((simp only [GAlls, GO.p, InR]; (repeat' (first | exact trivial | refine And.intro ?_ ?_ | refine fun _ => ?_)) <;> first | omega | (simp only [decide_eq_true_eq, decide_eq_false_iff_not, Int.toNat_natCast] at *; omega) | (simp at *; omega)))) : RJ E all (KQ E.P R K) rest fr gf mu :=
  (goR_ok hT (auto_ok hT 400) h ⟨he, ho⟩).2 k
def SV.imp (P : Program) (x y : SV) : Prop := ∀ B Z v, SV.rel P B Z x v → SV.rel P B Z y v
theorem SV.imp_refl {P : Program} (x : SV) : x.imp P x := fun _ _ _ h => h
theorem SV.imp_of {P : Program} {x y : SV} (h : x = y) : x.imp P y := by subst h; exact SV.imp_refl x
def Ch.imp (c d : Ch) : Prop := ∀ B r h k, c.sat B r h k → d.sat B r h k
theorem Ch.imp_refl (c : Ch) : c.imp c := fun _ _ _ _ h => h
theorem Ch.imp_of {x y : Ch} (h : x = y) : x.imp y := by subst h; exact Ch.imp_refl x
theorem D.own_congr {h : PH} {sz n : Nat} {f g : Nat → List D} (e : ∀ i, i < n → f i = g i) {y : Value} (k : D.own h (.sl sz n f) y) : D.own h (.sl sz n g) y := by
  obtain ⟨A, c, e1, e2, e3, e4⟩ := k
  refine ⟨A, c, e1, e2, e3, e4.imp id fun ⟨b, o, row, H, e5, e6, e7⟩ => ⟨b, o, row, H, e5, fun i hi => ?_, e7⟩⟩
  rw [← e i hi]; exact e6 i hi
theorem D.rd_congr {h : PH} {sz n : Nat} {f g : Nat → List D} (e : ∀ i, i < n → f i = g i) {y : Value} (k : D.rd h (.sl sz n f) y) : D.rd h (.sl sz n g) y := by
  obtain ⟨A, c, e1, e2, e3, e4⟩ := k
  refine ⟨A, c, e1, e2, e3, e4.imp id fun ⟨b, o, e5, e6⟩ => ⟨b, o, e5, fun i hi => ?_⟩⟩
  rw [← e i hi]; exact e6 i hi
theorem Ch.imp_arr {sz n : Nat} {f g : Nat → List D} (e : ∀ i, i < n → f i = g i) : (Ch.arr sz n f).imp (.arr sz n g) := fun _ _ _ _ s => D.own_congr e s
theorem SV.imp_s {P : Program} {q : Tg} {sz n : Nat} {f g : Nat → List D} (e : ∀ i, i < n → f i = g i) : (SV.a (.s q sz n f)).imp P (.a (.s q sz n g)) := fun _ _ _ s => D.rd_congr e s
def WkFr (P : Program) (fr : Fr) : Fr → Prop
  | [] => True
  | (t, x) :: r => (∃ y, mlk t fr = some y ∧ y.imp P x) ∧ WkFr P fr r
def WkMu (mu : Mu) : Mu → Prop
  | [] => True
  | (k, c) :: r => (∃ d, mlk k mu = some d ∧ d.imp c) ∧ WkMu mu r
theorem WkFr.get {P : Program} : ∀ {l : Fr}, WkFr P fr l → ∀ t x, mlk t l = some x → ∃ y, mlk t fr = some y ∧ y.imp P x
  | [], _, _, _, h => by cases h
  | (j, y) :: r, h, t, x, e => by
    rw [mlk_cons] at e
    by_cases hj : j = t
    · rw [if_pos hj] at e; injection e with e; rw [← e, ← hj]; exact h.1
    · rw [if_neg hj] at e; exact WkFr.get h.2 t x e
theorem WkMu.get : ∀ {l : Mu}, WkMu mu l → ∀ k c, mlk k l = some c → ∃ d, mlk k mu = some d ∧ d.imp c
  | [], _, _, _, h => by cases h
  | (j, y) :: r, h, k, c, e => by
    rw [mlk_cons] at e
    by_cases hj : j = k
    · rw [if_pos hj] at e; injection e with e; rw [← e, ← hj]; exact h.1
    · rw [if_neg hj] at e; exact WkMu.get h.2 k c e
theorem Fits.wk {P : Program} {Z : Tg → PH} {N : Nat} (f : Fits P B Z N fr [] a) (h : WkFr P fr fr') : Fits P B Z N fr' [] a :=
  ⟨f.size, f.defers, fun t x e _ => by
    obtain ⟨y, h1, h2⟩ := h.get t x e
    exact h2 _ _ _ (f.vfr t y h1 rfl), fun _ _ _ _ h => (by cases h), fun _ _ _ _ h => (by cases h), fun _ _ _ _ h => (by cases h)⟩
theorem Mem.wk (m : Mem E B mu w H) (h : WkMu mu mu') : Mem E B mu' w H :=
  ⟨⟨fun k c e => by
    obtain ⟨d, d1, d2⟩ := h.get k c e
    exact d2 _ _ _ _ (m.mm.sat k d d1), m.mm.fit, m.mm.dj, m.mm.djr, m.mm.fitr⟩, m.keep, m.dom, m.anch⟩
def FM (E : Env) (fr : Fr) (mu : Mu) (a : Act) (w : World) : Prop := ∃ B H, FitsE E B H fr [] a ∧ Mem E B mu w H
def Inv {ι : Type} (E : Env) (F : ι → Fr) (M : ι → Mu) (φ : ι → Prop) (m : ι → Nat) (n : Nat) (a : Act) (w : World) : Prop := ∃ y, φ y ∧ m y < n ∧ FM E (F y) (M y) a w
theorem X_inv {ι : Type} {F : ι → Fr} {M : ι → Mu} {φ : ι → Prop} {m : ι → Nat} {n : Nat} (y : ι) (h1 : φ y) (h2 : m y < n) (hf : WkFr E.P fr (F y)) (hm : WkMu mu (M y)) : X E R (.inv (Inv E F M φ m n)) fr mu :=
  fun B a w H f me => ⟨y, h1, h2, B, H, f.wk hf, me.wk hm⟩
end
end
section
def resV : List Value → Value
  | [v] => v
  | l => .tuple l.toArray
theorem resV_eq : ∀ m : List Value, (if h : m.length = 1 then m[0] else .tuple m.toArray) = resV m
  | [] => rfl
  | [_] => rfl
  | _ :: _ :: _ => rfl
def keysOf : Mu → List Nat
  | [] => []
  | (k, _) :: r => k :: keysOf r
def Ch.own? : Ch → Bool
  | .ro .. => false
  | .rrow _ => false
  | _ => true
def keysO : Mu → List Nat
  | [] => []
  | (k, c) :: r => bif c.own? then k :: keysO r else keysO r
def ownD (mu : Mu) (H : Nat → PH) (b o : Nat) : Prop := ∃ k, hasK k (keysO mu) = true ∧ H k b o ≠ none
def Con {ι : Type} (P : Program) (f : Nat) (ks : List Nat) (args : List SV) (mu : Mu) (φ : ι → Prop) (res : ι → List SV) (mu' : ι → Mu) : Prop :=
  ∀ (B : BE) (r : PH) (w : World) (H : Nat → PH) (vals : List Value), Mm B r mu w H → (∀ k, hasK k (keysO mu) = false → H k = PH.emp) → SV.rels P B (Zf r H) args vals →
    Calls P f vals.toArray w fun e w' => ∃ y B' H' out, φ y ∧ e = .returned (resV out) ∧ SV.rels P B' (Zf r H') (res y) out ∧ Mm B' r (mu' y) w' H' ∧ (∀ k, hasK k ks = true → B' k = B k) ∧ Keep (ownD mu H) w w' ∧ ∀ k b o, H' k b o ≠ none → ownD mu H b o ∨ w.heap.size ≤ b
def RetP {ι : Type} (E : Env) (φ : ι → Prop) (res : ι → List SV) (mu' : ι → Mu) (e : Ending) (w' : World) : Prop :=
  ∃ y B' H' out, φ y ∧ e = .returned (resV out) ∧ SV.rels E.P B' (Zf E.r H') (res y) out ∧ Mem E B' (mu' y) w' H'
def frOf : Nat → List SV → Fr
  | _, [] => []
  | i, x :: r => (i, x) :: frOf (i + 1) r
theorem frOf_get : ∀ (l : List SV) (i t : Nat) (x : SV), mlk t (frOf i l) = some x → i ≤ t ∧ l[t - i]? = some x
  | [], _, _, _, h => by cases h
  | y :: l, i, t, x, h => by
    simp only [frOf] at h
    rw [mlk_cons] at h
    by_cases e : i = t
    · subst e; rw [if_pos rfl] at h; injection h with h; subst h; simp
    · rw [if_neg e] at h
      obtain ⟨h1, h2⟩ := frOf_get l (i + 1) t x h
      refine ⟨by omega, ?_⟩
      rw [show t - i = (t - (i + 1)) + 1 from by omega, List.getElem?_cons_succ]
      exact h2
section
variable {E : Env} {B : BE} {mu mu' : Mu} {w : World} {H : Nat → PH} {TT : List TI} {fr fr' : Fr} {gf gf' : GF} {a : Act} {all rest : List Oper} {Q : Exit → Act → World → Prop} {R : Exit → Act → World → Prop} {K : List KF}
theorem con_enter {ι : Type} {P : Program} {f : FuncId} {fn : Func} {c : Code} {N : Nat} {ks : List Nat} {args : List SV} {φ : ι → Prop} {res : ι → List SV} {mu' : ι → Mu} (hf : P.funcs[f]? = some fn) (hb : fn.body = some c) (hN : fn.ntmps = N) (hlen : Nat.ble args.length N = true)
    (h : ∀ (B0 : BE) (r : PH) (D : Nat → Nat → Prop) (w0 : World), T ⟨P, ⟨ks, B0⟩, N, r, D, w0⟩ (bodyPost P fn (RetP ⟨P, ⟨ks, B0⟩, N, r, D, w0⟩ φ res mu')) c (frOf 0 args) mu []) : Con P f ks args mu φ res mu' := by
  intro B r w H vals m hemp hargs
  have hl := SV.rels_length hargs
  have hlen' : args.length ≤ N := Nat.le_of_ble_eq_true hlen
  have key : Calls P f vals.toArray w (RetP ⟨P, ⟨ks, B⟩, N, r, ownD mu H, w⟩ φ res mu') := by
    refine calls_of_wp hf hb ?_
    refine h B r (ownD mu H) w B _ w H ⟨?_, rfl, fun t x e _ => ?_, fun _ _ _ _ h => (by cases h), fun _ _ _ _ h => (by cases h), fun _ _ _ _ h => (by cases h)⟩ ⟨m, Keep.refl _ _, fun k b o e => ?_, fun _ _ => rfl⟩
    · simp [hN]; omega
    · obtain ⟨_, h2⟩ := frOf_get args 0 t x e
      simp only [Nat.sub_zero] at h2
      obtain ⟨v, h3, h4⟩ := SV.rels_get hargs h2
      have hlt : t < vals.length := (List.getElem?_eq_some_iff.1 h3).1
      rw [Array.getD_eq_getD_getElem?, Array.getElem?_append_left (by simpa using hlt)]
      simpa [h3] using h4
    · refine .inl ⟨k, ?_, e⟩
      cases hk : hasK k (keysO mu) with
      | true => rfl
      | false => rw [hemp k hk] at e; exact absurd rfl e
  refine key.mono fun e w' ⟨y, B', H', out, h1, h2, h3, m'⟩ => ⟨y, B', H', out, h1, h2, h3, m'.mm, m'.anch, m'.keep, m'.dom⟩
def rvOf : Nat × Option Nat → ResultVar
  | (t, none) => .tmp t
  | (t, some ty) => .cell t ty
def allGetC (TT : List TI) (fr : Fr) (mu : Mu) : List (Nat × Option Nat) → Option (List SV)
  | [] => some []
  | (t, none) :: r => match mlk t fr, allGetC TT fr mu r with
    | some x, some l => some (x :: l)
    | _, _ => none
  | (t, some ty) :: r => match mlk t fr, tlk ty TT with
    | some y, some ti => match ld ti mu y, allGetC TT fr mu r with
      | some (x, []), some l => some (x :: l)
      | _, _ => none
    | _, _ => none
theorem allGetC_run (hT : TOk E.P TT) (f : FitsE E B H fr [] a) (m : Mr B E.r mu w H) : ∀ {ts : List (Nat × Option Nat)} {l : List SV}, allGetC TT fr mu ts = some l →
    ∃ out, ((ts.map rvOf).mapM (fun
      | .tmp t => pure (a.tmps.getD t undef)
      | .cell c t => do loadVar t (← asAddr (a.tmps.getD c undef)) : ResultVar → Sem Value)).run E.P w = .ok out w ∧ SV.rels E.P B (Zf E.r H) l out
  | [], l, h => by simp [allGetC] at h; subst h; exact ⟨[], by simp, rfl⟩
  | (t, none) :: ts, l, h => by
    simp only [allGetC] at h
    split at h
    · rename_i x l' e1 e2
      injection h with h; subst h
      obtain ⟨out, h1, h2⟩ := allGetC_run hT f m e2
      refine ⟨a.tmps.getD t undef :: out, ?_, _, _, rfl, f.vfr t x e1 rfl, h2⟩
      simp only [List.map_cons, rvOf, List.mapM_cons, Sem.run_bind, Sem.run_pure, Result.andThen_ok, h1]
    · cases h
  | (t, some ty) :: ts, l, h => by
    simp only [allGetC] at h
    split at h
    · rename_i y ti e1 e2
      split at h
      · rename_i x l' e3 e4
        injection h with h; subst h
        obtain ⟨out, h1, h2⟩ := allGetC_run hT f m e4
        obtain ⟨i1, i2⟩ := hT.get e2
        obtain ⟨A, v, d1, d2, d3⟩ := ld_ok m.ms i2 e3 trivial (f.vfr t y e1 rfl)
        subst i1
        have h0 : asAddr (.pointer (some A)) = pure A := rfl
        refine ⟨v :: out, ?_, _, _, rfl, d3, h2⟩
        simp only [List.map_cons, rvOf, List.mapM_cons, Sem.run_bind, d1, h0, Sem.run_pure, Result.andThen_ok, d2 w m.fw, h1]
      · cases h
    · cases h
def SVs.imp (P : Program) : List SV → List SV → Prop
  | [], l => l = []
  | x :: r, l => ∃ y t, l = y :: t ∧ x.imp P y ∧ SVs.imp P r t
theorem SVs.imp_refl {P : Program} : ∀ l : List SV, SVs.imp P l l
  | [] => rfl
  | x :: r => ⟨x, r, rfl, SV.imp_refl x, SVs.imp_refl r⟩
theorem SVs.imp_ok {P : Program} {Z : Tg → PH} : ∀ {l m : List SV} {vs : List Value}, SVs.imp P l m → SV.rels P B Z l vs → SV.rels P B Z m vs
  | [], m, vs, h, e => by have h : m = [] := h; subst h; exact e
  | x :: r, m, vs, h, e => by
    obtain ⟨y, t, rfl, h2, h3⟩ := h
    obtain ⟨v, us, rfl, e2, e3⟩ := e
    exact ⟨v, us, rfl, h2 _ _ _ e2, SVs.imp_ok h3 e3⟩
theorem T_ret {ι : Type} {fn : Func} {φ : ι → Prop} {res : ι → List SV} {mu' : ι → Mu} (hT : TOk E.P TT) (y : ι) (ts : List (Nat × Option Nat)) (hr : fn.results = (ts.map rvOf).toArray) {l : List SV} (hl : allGetC TT fr mu ts = some l) (h1 : SVs.imp E.P l (res y)) (h2 : WkMu mu (mu' y)) (h3 : φ y) :
    T E (bodyPost E.P fn (RetP E φ res mu')) .ret fr mu K := fun B a w H f m => by
  obtain ⟨out, r1, r2⟩ := allGetC_run hT f m.mr hl
  refine wp_ret (ret_ok ⟨f.defers, resV out, ?_, y, B, H, out, h3, rfl, SVs.imp_ok h1 r2, m.wk h2⟩)
  unfold results
  rw [hr, Sem.run_bind, Array.mapM_eq_mapM_toList, Sem.run_map, List.toList_toArray]
  erw [r1]
  have e : ∀ l : List Value, (if h : l.toArray.size = 1 then l.toArray[0] else Value.tuple l.toArray) = resV l := fun l => by
    rw [← resV_eq]; simp
  exact congrArg (Result.ok · w) (e out)
end
def Enters (P : Program) (f : FuncId) : Prop := ∀ args w, (callFunc f args).run P w = .ok (.enter f args) w
theorem enters_of {P : Program} {f : FuncId} {fn : Func} (hf : P.funcs[f]? = some fn) (hname : (fn.name == "runtime.NumGoroutine") = false) (hb : fn.body.isSome = true) : Enters P f := by
  intro args w
  have h1 : fn.name ≠ "runtime.NumGoroutine" := by simpa using hname
  obtain ⟨c, hc⟩ := Option.isSome_iff_exists.1 hb
  simp [callFunc, hf, h1, hc]
def entersB (P : Program) (f : Nat) : Bool := match P.funcs[f]? with
  | some fn => !(fn.name == "runtime.NumGoroutine") && fn.body.isSome
  | none => false
theorem enters_B {P : Program} {f : FuncId} (h : entersB P f = true) : Enters P f := by
  unfold entersB at h
  split at h
  · rename_i fn hf
    simp only [Bool.and_eq_true, Bool.not_eq_true'] at h
    exact enters_of hf h.1 h.2
  · cases h
def callsOf (g : Gd) (fr : Fr) (gf : GF) (o : Op) : Option (Nat × List SV) :=
  match o with
  | .call c => match c.callee with
    | .value x => match ev g fr gf x, evs g fr gf c.args.toList with
      | some (.fn f caps), some l => some (f, l ++ caps.map SV.a)
      | _, _ => none
    | _ => none
  | _ => none
theorem rels_append {P : Program} {B : BE} {Z : Tg → PH} : ∀ {l m : List SV} {vs us : List Value}, SV.rels P B Z l vs → SV.rels P B Z m us → SV.rels P B Z (l ++ m) (vs ++ us)
  | [], _, _, _, e, k => by have e : _ = [] := e; subst e; exact k
  | x :: r, _, _, _, e, k => by
    obtain ⟨a, t, rfl, e2, e3⟩ := e
    exact ⟨a, _, rfl, e2, rels_append e3 k⟩
theorem rels_sva {P : Program} {B : BE} {Z : Tg → PH} : ∀ {l : List V} {vs : List Value}, V.rels B Z l vs → SV.rels P B Z (l.map SV.a) vs
  | [], _, e => e
  | x :: r, _, e => by
    obtain ⟨a, t, rfl, e2, e3⟩ := e
    exact ⟨a, t, rfl, e2, rels_sva e3⟩
section
variable {E : Env} {B : BE} {mu mu' : Mu} {w : World} {H : Nat → PH} {TT : List TI} {fr fr' : Fr} {gf gf' : GF} {a : Act} {all rest : List Oper} {Q : Exit → Act → World → Prop} {o : Oper} {J : Act → World → Prop}
theorem callsOf_run (f : FitsE E B H fr gf a) {g : Gd} (hg : ∀ d w, (d, w) ∈ g → a.tmps.getD d undef = .bool w) {n : Nat} {svs : List SV} (h : callsOf g fr gf o.op = some (n, svs)) (he : Enters E.P n) :
    ∃ vals : List Value, (execOp a.eval o).run E.P w = .ok (.enter n vals.toArray) w ∧ SV.rels E.P B (Zf E.r H) svs vals := by
  obtain ⟨dst, op, type, pos, after, guard⟩ := o
  simp only at h
  unfold callsOf at h
  split at h
  · rename_i c
    obtain ⟨callee, args, ats⟩ := c
    simp only at h
    split at h
    · rename_i x hx
      split at h
      · rename_i n' caps l e1 e2
        simp only [Option.some.injEq, Prod.mk.injEq] at h
        obtain ⟨rfl, rfl⟩ := h
        obtain ⟨cv, h1, h3⟩ := (show ∃ vs, _ from f.ev hg e1)
        have h2 := f.evs hg e2
        refine ⟨args.toList.map a.eval ++ cv, ?_, rels_append h2 (rels_sva h3)⟩
        have ha : args.map a.eval = (args.toList.map a.eval).toArray := Array.ext' (by rw [Array.toList_map])
        simp only [execOp, resolve, h1, Deferred.ofValue, Sem.run_bind, Sem.run_pure, Result.andThen_ok, invoke, ha, Array.empty_append]
        rw [he]
        congr 2
        simp
      · cases h
    · cases h
  · cases h
def One (P : Program) (ops : Array Oper) (Q : Exit → Act → World → Prop) (o : Oper) (J : Act → World → Prop) (a : Act) (w : World) : Prop :=
  if Region.wanted o (yielded ops a.tmps) then o.wp P a w J Q ∨ (o.asks P a w ∧ LetsOut Q) else J (a.put o.dst undef) w
theorem one_val (hw : Region.wanted o (yielded all.toArray a.tmps) = true) {v : Value} {w' : World} (hr : (execOp a.eval o).run E.P w = .ok (.value v) w') (h : J (a.put o.dst v) w') : One E.P all.toArray Q o J a w := by
  unfold One
  rw [if_pos hw]
  exact .inl (by unfold Oper.wp; rw [hr]; exact h)
theorem one_unit (hw : Region.wanted o (yielded all.toArray a.tmps) = true) {w' : World} (hr : (execOp a.eval o).run E.P w = .ok .skip w') (h : J (a.put o.dst undef) w') : One E.P all.toArray Q o J a w := by
  unfold One
  rw [if_pos hw]
  exact .inl (by unfold Oper.wp; rw [hr]; exact h)
theorem one_off (hw : Region.wanted o (yielded all.toArray a.tmps) = false) (h : J (a.put o.dst undef) w) : One E.P all.toArray Q o J a w := by
  unfold One
  rw [if_neg (by rw [hw]; simp)]
  exact h
theorem one_call (hw : Region.wanted o (yielded all.toArray a.tmps) = true) {n : Nat} {args : Array Value} (hr : (execOp a.eval o).run E.P w = .ok (.enter n args) w) (h : Calls E.P n args w fun e w' => ∃ v, e = .returned v ∧ J (a.put o.dst v) w') : One E.P all.toArray Q o J a w := by
  unfold One
  rw [if_pos hw]
  refine .inl ?_
  unfold Oper.wp
  rw [hr]
  exact h.mono fun e w' ⟨v, e1, h1⟩ => by subst e1; exact h1
structure AG where
  ks : List Nat
  B : BE
  H : Nat → PH
def AG.ok (G : AG) (B : BE) (H : Nat → PH) : Prop := ∀ k, hasK k G.ks = true → B k = G.B k ∧ H k = G.H k
def AG.nil : AG := ⟨[], fun _ => undef, fun _ => PH.emp⟩
theorem AG.nil_ok (B : BE) (H : Nat → PH) : AG.nil.ok B H := fun _ h => by cases h
def SJ (G : AG) (J : Act → World → Prop) (E : Env) (fr : Fr) (gf : GF) (mu : Mu) : Prop :=
  ∀ B a w H, FitsE E B H fr gf a → Mem E B mu w H → G.ok B H → J a w
def OJ (G : AG) (E : Env) (all : List Oper) (Q : Exit → Act → World → Prop) (J : Act → World → Prop) (o : Oper) (fr : Fr) (gf : GF) (mu : Mu) : Prop :=
  SJ G (One E.P all.toArray Q o J) E fr gf mu
variable {G : AG}
theorem RJ_of (h : OJ AG.nil E all Q (wpList E.P all.toArray Q rest) o fr gf mu) : RJ E all Q (o :: rest) fr gf mu := fun B a w H f m => by
  have h1 := h B a w H f m (AG.nil_ok B H)
  unfold One at h1
  unfold wpList
  exact h1
theorem SJ_of (k : RJ E all Q rest fr gf mu) : SJ G (wpList E.P all.toArray Q rest) E fr gf mu := fun B a w H f m _ => k B a w H f m
end
end
section
def swN (a b k : Nat) : Nat := bif Nat.beq k a then b else bif Nat.beq k b then a else k
def Tg.sw (a b : Nat) : Tg → Tg
  | .k n => .k (swN a b n)
  | q => q
def V.sw (a b : Nat) : V → V
  | .s q sz n f => .s (q.sw a b) sz n f
  | .g k => .g (swN a b k)
  | .p k o => .p (swN a b k) o
  | .pe k sz i o => .pe (swN a b k) sz i o
  | .sb k sz lo hi => .sb (swN a b k) sz lo hi
  | .gl k n c => .gl (swN a b k) n c
  | .rp q l o => .rp (q.sw a b) l o
  | x => x
def swL (a b : Nat) : List V → List V
  | [] => []
  | x :: r => x.sw a b :: swL a b r
mutual
def SV.sw (a b : Nat) : SV → SV
  | .a x => .a (x.sw a b)
  | .ag l => .ag (swL a b l)
  | .fn f l => .fn f (swL a b l)
  | .tu l => .tu (swSL a b l)
  | x => x
def swSL (a b : Nat) : List SV → List SV
  | [] => []
  | x :: r => x.sw a b :: swSL a b r
end
def Ch.sw (a b : Nat) : Ch → Ch
  | .row l => .row (swL a b l)
  | .rrow l => .rrow (swL a b l)
  | .hole sz n f i k2 => .hole sz n f i (swN a b k2)
  | c => c
def swMu (a b : Nat) : Mu → Mu
  | [] => []
  | (k, c) :: r => (swN a b k, c.sw a b) :: swMu a b r
def swKs (a b : Nat) : List Nat → List Nat
  | [] => []
  | k :: r => swN a b k :: swKs a b r
theorem swN_eq (a b k : Nat) : swN a b k = if k = a then b else if k = b then a else k := by
  unfold swN
  by_cases h1 : k = a
  · subst h1; simp [Nat.beq_refl]
  · rw [if_neg h1, show Nat.beq k a = false from by
      cases e : Nat.beq k a with
      | false => rfl
      | true => exact absurd (Nat.eq_of_beq_eq_true e) h1]
    by_cases h2 : k = b
    · subst h2; simp [Nat.beq_refl]
    · rw [if_neg h2, show Nat.beq k b = false from by
        cases e : Nat.beq k b with
        | false => rfl
        | true => exact absurd (Nat.eq_of_beq_eq_true e) h2]
      rfl
theorem swN_swN (a b k : Nat) : swN a b (swN a b k) = k := by
  rw [swN_eq, swN_eq]
  by_cases h1 : k = a
  · subst h1
    rw [if_pos rfl]
    by_cases h2 : b = k
    · rw [if_pos h2]; exact h2
    · rw [if_neg h2, if_pos rfl]
  · rw [if_neg h1]
    by_cases h2 : k = b
    · subst h2; rw [if_pos rfl, if_pos rfl]
    · rw [if_neg h2, if_neg h1, if_neg h2]
theorem swN_inj {a b j k : Nat} (h : swN a b j = swN a b k) : j = k := by rw [← swN_swN a b j, h, swN_swN]
section
variable {a b : Nat}
theorem Zf_sw (r : PH) (H : Nat → PH) : ∀ q : Tg, Zf r H (q.sw a b) = Zf r (fun k => H (swN a b k)) q
  | .o => rfl
  | .r => rfl
  | .k _ => rfl
theorem V.rel_sw {B : BE} {r : PH} {H : Nat → PH} {y : Value} : ∀ {x : V}, (x.sw a b).rel B (Zf r H) y ↔ x.rel (fun k => B (swN a b k)) (Zf r fun k => H (swN a b k)) y
  | .v _ => Iff.rfl
  | .s q sz n f => by show D.rd (Zf r H (q.sw a b)) _ _ ↔ _; rw [Zf_sw]; rfl
  | .g _ => Iff.rfl
  | .p _ _ => Iff.rfl
  | .pe _ _ _ _ => Iff.rfl
  | .sb _ _ _ _ => Iff.rfl
  | .gl _ _ _ => Iff.rfl
  | .rp q l o => by
    show (∃ c x vs, _ = _ ∧ D.rds (Zf r H (q.sw a b)) l vs ∧ ∀ j, j < vs.length → Zf r H (q.sw a b) c (x + j) = vs[j]?) ↔ _
    rw [Zf_sw]; rfl
  | .any => Iff.rfl
theorem V.rels_sw {B : BE} {r : PH} {H : Nat → PH} : ∀ {l : List V} {y : List Value}, V.rels B (Zf r H) (swL a b l) y ↔ V.rels (fun k => B (swN a b k)) (Zf r fun k => H (swN a b k)) l y
  | [], _ => Iff.rfl
  | x :: r', y => by
    constructor
    · rintro ⟨v, t, rfl, h1, h2⟩; exact ⟨v, t, rfl, V.rel_sw.1 h1, V.rels_sw.1 h2⟩
    · rintro ⟨v, t, rfl, h1, h2⟩; exact ⟨v, t, rfl, V.rel_sw.2 h1, V.rels_sw.2 h2⟩
mutual
theorem SV.rel_sw {P : Program} {B : BE} {r : PH} {H : Nat → PH} : ∀ (x : SV) {y : Value}, (x.sw a b).rel P B (Zf r H) y ↔ x.rel P (fun k => B (swN a b k)) (Zf r fun k => H (swN a b k)) y
  | .a x, _ => V.rel_sw
  | .ag l, y => by
    constructor
    · rintro ⟨vs, rfl, h⟩; exact ⟨vs, rfl, V.rels_sw.1 h⟩
    · rintro ⟨vs, rfl, h⟩; exact ⟨vs, rfl, V.rels_sw.2 h⟩
  | .fn f l, y => by
    constructor
    · rintro ⟨vs, rfl, h⟩; exact ⟨vs, rfl, V.rels_sw.1 h⟩
    · rintro ⟨vs, rfl, h⟩; exact ⟨vs, rfl, V.rels_sw.2 h⟩
  | .fb φ, _ => Iff.rfl
  | .tu l, y => by
    constructor
    · rintro ⟨vs, rfl, h⟩; exact ⟨vs, rfl, (SV.rels_sw l).1 h⟩
    · rintro ⟨vs, rfl, h⟩; exact ⟨vs, rfl, (SV.rels_sw l).2 h⟩
  | .un, _ => Iff.rfl
theorem SV.rels_sw {P : Program} {B : BE} {r : PH} {H : Nat → PH} : ∀ (l : List SV) {y : List Value}, SV.rels P B (Zf r H) (swSL a b l) y ↔ SV.rels P (fun k => B (swN a b k)) (Zf r fun k => H (swN a b k)) l y
  | [], _ => Iff.rfl
  | x :: r', y => by
    constructor
    · rintro ⟨v, t, rfl, h1, h2⟩; exact ⟨v, t, rfl, (SV.rel_sw x).1 h1, (SV.rels_sw r').1 h2⟩
    · rintro ⟨v, t, rfl, h1, h2⟩; exact ⟨v, t, rfl, (SV.rel_sw x).2 h1, (SV.rels_sw r').2 h2⟩
end
theorem V.own_sw {B : BE} {r h : PH} {y : Value} : ∀ {x : V}, (x.sw a b).own B r h y ↔ x.own (fun k => B (swN a b k)) r h y
  | .v _ => Iff.rfl
  | .s q sz n f => by cases q <;> (show (_ ∧ _ ∨ _ ∧ _) ↔ (_ ∧ _ ∨ _ ∧ _)) <;> simp [Tg.sw]
  | .g _ => Iff.rfl
  | .p _ _ => Iff.rfl
  | .pe _ _ _ _ => Iff.rfl
  | .sb _ _ _ _ => Iff.rfl
  | .gl _ _ _ => Iff.rfl
  | .rp q l o => by cases q <;> (show (_ ∧ _) ↔ (_ ∧ _)) <;> simp [Tg.sw]
  | .any => Iff.rfl
theorem V.owns_sw {B : BE} {r : PH} : ∀ {l : List V} {y : List Value} {h : PH}, V.owns B r h (swL a b l) y ↔ V.owns (fun k => B (swN a b k)) r h l y
  | [], _, _ => Iff.rfl
  | x :: r', y, h => by
    constructor
    · rintro ⟨v, t, h1, h2, rfl, e2, e3, e4, e5, e6⟩; exact ⟨v, t, h1, h2, rfl, e2, e3, e4, V.own_sw.1 e5, V.owns_sw.1 e6⟩
    · rintro ⟨v, t, h1, h2, rfl, e2, e3, e4, e5, e6⟩; exact ⟨v, t, h1, h2, rfl, e2, e3, e4, V.own_sw.2 e5, V.owns_sw.2 e6⟩
theorem swL_length : ∀ l : List V, (swL a b l).length = l.length
  | [] => rfl
  | _ :: r => by simp [swL, swL_length r]
theorem Ch.sat_sw {B : BE} {r h : PH} {k : Nat} : ∀ {c : Ch}, (c.sw a b).sat B r h (swN a b k) ↔ c.sat (fun k => B (swN a b k)) r h k
  | .row l => by
    constructor
    · rintro ⟨c, o, vs, h', e1, e2, e3, e4⟩; exact ⟨c, o, vs, h', e1, V.owns_sw.1 e2, e3, fun j hj => e4 j (by rw [swL_length]; exact hj)⟩
    · rintro ⟨c, o, vs, h', e1, e2, e3, e4⟩; exact ⟨c, o, vs, h', e1, V.owns_sw.2 e2, e3, fun j hj => e4 j (by rw [swL_length] at hj; exact hj)⟩
  | .rrow l => by
    constructor
    · rintro ⟨c, o, vs, e1, e2, e4⟩; exact ⟨c, o, vs, e1, V.rels_sw.1 e2, fun j hj => e4 j (by rw [swL_length]; exact hj)⟩
    · rintro ⟨c, o, vs, e1, e2, e4⟩; exact ⟨c, o, vs, e1, V.rels_sw.2 e2, fun j hj => e4 j (by rw [swL_length] at hj; exact hj)⟩
  | .arr _ _ _ => Iff.rfl
  | .hole _ _ _ _ _ => Iff.rfl
  | .ro _ _ _ => Iff.rfl
  | .rd _ _ _ => Iff.rfl
  | .rw _ => Iff.rfl
theorem mlk_sw : ∀ (mu : Mu) (k : Nat), mlk (swN a b k) (swMu a b mu) = (mlk k mu).map (Ch.sw a b)
  | [], _ => rfl
  | (j, c) :: r, k => by
    simp only [swMu]
    rw [mlk_cons, mlk_cons]
    by_cases h : j = k
    · subst h; rw [if_pos rfl, if_pos rfl]; rfl
    · rw [if_neg h, if_neg fun e => h (swN_inj e), mlk_sw r k]
theorem own_sw (c : Ch) : (c.sw a b).own? = c.own? := by cases c <;> rfl
theorem hasK_cons (k j : Nat) (r : List Nat) : hasK k (j :: r) = true ↔ j = k ∨ hasK k r = true := by
  simp only [hasK]
  cases e : Nat.beq j k with
  | true => have := Nat.eq_of_beq_eq_true e; simp [this]
  | false => have := Nat.ne_of_beq_eq_false e; simp [this]
theorem hasK_sw : ∀ {l : List Nat} {k : Nat}, hasK (swN a b k) (swKs a b l) = hasK k l
  | [], _ => rfl
  | j :: r, k => by
    rw [Bool.eq_iff_iff]
    simp only [swKs]
    rw [hasK_cons, hasK_cons, hasK_sw (l := r)]
    exact ⟨fun h => h.imp_left fun e => swN_inj e, fun h => h.imp_left fun e => by rw [e]⟩
theorem keysO_sw : ∀ mu : Mu, keysO (swMu a b mu) = swKs a b (keysO mu)
  | [] => rfl
  | (k, c) :: r => by
    simp only [swMu, keysO, own_sw, keysO_sw r]
    cases c.own? <;> rfl
theorem Mm.sw {B : BE} {r : PH} {mu : Mu} {w : World} {H : Nat → PH} (m : Mm B r (swMu a b mu) w H) : Mm (fun k => B (swN a b k)) r mu w fun k => H (swN a b k) := by
  refine ⟨fun k c e => ?_, fun k => m.fit _, fun j k h => m.dj _ _ fun e => h (swN_inj e), fun k => m.djr _, m.fitr⟩
  have := m.sat (swN a b k) (c.sw a b) (by rw [mlk_sw, e]; rfl)
  exact Ch.sat_sw.1 this
theorem Mm.unsw {B : BE} {r : PH} {mu : Mu} {w : World} {H : Nat → PH} (m : Mm B r mu w H) : Mm (fun k => B (swN a b k)) r (swMu a b mu) w fun k => H (swN a b k) := by
  refine ⟨fun k c e => ?_, fun k => m.fit _, fun j k h => m.dj _ _ fun e => h (swN_inj e), fun k => m.djr _, m.fitr⟩
  have h1 := mlk_sw (a := a) (b := b) mu (swN a b k)
  rw [swN_swN, e] at h1
  cases e2 : mlk (swN a b k) mu with
  | none => rw [e2] at h1; cases h1
  | some d =>
    rw [e2] at h1
    injection h1 with h1
    subst h1
    have h2 := m.sat _ d e2
    have h3 := (Ch.sat_sw (a := a) (b := b) (B := fun k => B (swN a b k)) (r := r) (h := H (swN a b k)) (k := swN a b k) (c := d)).2 (by simpa only [swN_swN] using h2)
    rwa [swN_swN] at h3
theorem Con.sw (a b : Nat) {ι : Type} {P : Program} {f : Nat} {ks : List Nat} {args : List SV} {mu : Mu} {φ : ι → Prop} {res : ι → List SV} {mu' : ι → Mu} (C : Con P f ks args mu φ res mu') :
    Con P f (swKs a b ks) (swSL a b args) (swMu a b mu) φ (fun y => swSL a b (res y)) fun y => swMu a b (mu' y) := by
  intro B r w H vals m hemp hargs
  have hown : ∀ c o, ownD mu (fun k => H (swN a b k)) c o ↔ ownD (swMu a b mu) H c o := fun c o => by
    constructor
    · rintro ⟨k, h1, h2⟩; exact ⟨swN a b k, by rw [keysO_sw, hasK_sw]; exact h1, h2⟩
    · rintro ⟨k, h1, h2⟩
      refine ⟨swN a b k, ?_, by simpa only [swN_swN] using h2⟩
      rw [keysO_sw] at h1
      rw [← hasK_sw (a := a) (b := b), swN_swN]; exact h1
  refine (C _ r w _ vals m.sw (fun k hk => hemp _ (by rw [keysO_sw, hasK_sw]; exact hk)) ((SV.rels_sw args).1 hargs)).mono fun e w' ⟨y, B', H', out, h1, h2, h3, h4, h5, h6, h7⟩ => ?_
  refine ⟨y, fun k => B' (swN a b k), fun k => H' (swN a b k), out, h1, h2, ?_, h4.unsw, fun k hk => ?_, h6.mono fun c _ o h => (hown c o).1 h, fun k c o h => (h7 _ c o h).imp_left (hown c o).1⟩
  · refine (SV.rels_sw (res y)).2 ?_
    simpa only [swN_swN] using h3
  · have := h5 (swN a b k) (by rw [← hasK_sw (a := a) (b := b), swN_swN]; exact hk)
    simpa only [swN_swN] using this
end
end
section
def dOf (mu : Mu) (ko : List Nat) : List V → Option (List D)
  | [] => some []
  | x :: r => match dOf mu ko r with
    | some l => match x with
      | .v y => some (.v y :: l)
      | .s .o sz n f => some (.sl sz n f :: l)
      | .s .r sz n f => some (.sl sz n f :: l)
      | .rp .r m o => some (.pt m o :: l)
      | .g k => bif hasK k ko then none else match mlk k mu with
        | some (.arr sz n f) => some (.sl sz n f :: l)
        | some (.ro sz n f) => some (.sl sz n f :: l)
        | some (.rd sz n f) => some (.sl sz n f :: l)
        | _ => none
      | _ => none
    | none => none
def wkT (mu : Mu) (ko : List Nat) : Tg → Bool
  | .k j => bif hasK j ko then false else match mlk j mu with
    | some _ => true
    | none => false
  | _ => true
def wkV (mu : Mu) (ko kn : List Nat) : V → Option (V × Ob)
  | .v x => some (.v x, [])
  | .s q sz n f => bif wkT mu ko q then some (.s .r sz n f, []) else none
  | .rp q l o => bif wkT mu ko q then some (.rp .r l o, []) else none
  | .g k => bif hasK k kn then some (.g k, []) else bif hasK k ko then none else match mlk k mu with
    | some (.arr sz n f) => some (.s .r sz n f, [])
    | some (.ro sz n f) => some (.s .r sz n f, [])
    | some (.rd sz n f) => some (.s .r sz n f, [])
    | _ => none
  | .p k o => bif hasK k kn then some (.p k o, []) else bif hasK k ko then none else match mlk k mu with
    | some (.row l) => match dOf mu ko l with
      | some m => some (.rp .r m o, [])
      | none => none
    | some (.rrow l) => match dOf mu ko l with
      | some m => some (.rp .r m o, [])
      | none => none
    | _ => none
  | .pe k sz i o => bif hasK k kn then some (.pe k sz i o, []) else bif hasK k ko then none else match mlk k mu with
    | some (.arr sz' n f) => some (.rp .r (f i.toNat) o, [.e (sz = sz'), .o (0 ≤ i ∧ i < n)])
    | some (.ro sz' n f) => some (.rp .r (f i.toNat) o, [.e (sz = sz'), .o (0 ≤ i ∧ i < n)])
    | _ => none
  | .sb k sz lo hi => bif hasK k kn then some (.sb k sz lo hi, []) else bif hasK k ko then none else match mlk k mu with
    | some (.arr sz' n f) => some (.s .r sz (hi - lo).toNat (fun i => f (lo.toNat + i)), [.e (sz = sz'), .o (0 ≤ lo ∧ lo ≤ hi ∧ hi ≤ n)])
    | _ => none
  | .gl k n c => bif hasK k kn then some (.gl k n c, []) else none
  | .any => none
def wkL (mu : Mu) (ko kn : List Nat) : List V → Option (List V × Ob)
  | [] => some ([], [])
  | x :: r => match wkV mu ko kn x, wkL mu ko kn r with
    | some (y, p), some (l, q) => some (y :: l, p ++ q)
    | _, _ => none
def wkS (mu : Mu) (ko kn : List Nat) : SV → Option (SV × Ob)
  | .a x => match wkV mu ko kn x with
    | some (y, q) => some (.a y, q)
    | none => none
  | .ag l => match wkL mu ko kn l with
    | some (m, q) => some (.ag m, q)
    | none => none
  | .fn f l => match wkL mu ko kn l with
    | some (m, q) => some (.fn f m, q)
    | none => none
  | .fb φ => some (.fb φ, [])
  | _ => none
def wkSL (mu : Mu) (ko kn : List Nat) : List SV → Option (List SV × Ob)
  | [] => some ([], [])
  | x :: r => match wkS mu ko kn x, wkSL mu ko kn r with
    | some (y, p), some (l, q) => some (y :: l, p ++ q)
    | _, _ => none
noncomputable def AllP (r : PH) (ko : List Nat) (H : Nat → PH) : PH := fun b o => match r b o with
  | some v => some v
  | none => open Classical in if h : ∃ v k, hasK k ko = false ∧ H k b o = some v then some h.choose else none
def onlyK (ko : List Nat) (H : Nat → PH) : Nat → PH := fun k => bif hasK k ko then H k else PH.emp
section
variable {B : BE} {r : PH} {mu : Mu} {w : World} {H : Nat → PH} {ko kn : List Nat}
theorem AllP_fit (m : Mm B r mu w H) : Fit (AllP r ko H) w := fun b o v e => by
  unfold AllP at e
  cases hr : r b o with
  | some u => rw [hr] at e; injection e with e; subst e; exact m.fitr b o _ hr
  | none =>
    rw [hr] at e
    simp only at e
    split at e
    · rename_i h
      injection e with e
      obtain ⟨k, _, hk⟩ := h.choose_spec
      rw [e] at hk
      exact (m.fit k).fit b o v hk
    · cases e
theorem AllP_le (m : Mm B r mu w H) {k : Nat} (hc : hasK k ko = false) : (H k).le (AllP r ko H) := fun b o v e => by
  have hr : r b o = none := (m.djr k b o).resolve_left (by rw [e]; simp)
  have h : ∃ v k, hasK k ko = false ∧ H k b o = some v := ⟨v, k, hc, e⟩
  unfold AllP
  rw [hr]
  simp only
  rw [dif_pos h]
  obtain ⟨k', _, hk⟩ := h.choose_spec
  by_cases hkk : k' = k
  · subst hkk; rw [e] at hk; injection hk with hk; rw [hk]
  · rcases m.dj k' k hkk b o with h1 | h1
    · rw [h1] at hk; cases hk
    · rw [h1] at e; cases e
theorem AllP_r : r.le (AllP r ko H) := fun b o v e => by
  unfold AllP
  rw [e]
theorem AllP_dj (m : Mm B r mu w H) {k : Nat} (hc : hasK k ko = true) : (H k).dj (AllP r ko H) := fun b o => by
  cases e : H k b o with
  | none => exact .inl rfl
  | some u =>
    right
    have hr : r b o = none := (m.djr k b o).resolve_left (by rw [e]; simp)
    unfold AllP
    rw [hr]
    simp only
    rw [dif_neg]
    rintro ⟨v, j, hj, hv⟩
    have hne : j ≠ k := fun e => by rw [e, hc] at hj; cases hj
    rcases m.dj j k hne b o with h1 | h1
    · rw [h1] at hv; cases hv
    · rw [h1] at e; cases e
structure Wk (B : BE) (r : PH) (mu : Mu) (H : Nat → PH) (ko : List Nat) (s : PH) : Prop where
  sat : ∀ k c, mlk k mu = some c → c.sat B r (H k) k
  ler : r.le s
  le : ∀ k c, mlk k mu = some c → hasK k ko = false → (H k).le s
variable {s : PH} {Z : Tg → PH}
theorem wkT_le (W : Wk B r mu H ko s) {q : Tg} (h : wkT mu ko q = true) : (Zf r H q).le s := by
  cases q with
  | k j =>
    simp only [wkT] at h
    cases e : hasK j ko with
    | true => rw [e] at h; cases h
    | false =>
      rw [e] at h
      simp only [cond_false] at h
      split at h
      · rename_i c hc; exact W.le j c hc e
      · cases h
  | _ => exact W.ler
theorem dOf_rd (W : Wk B r mu H ko s) : ∀ {l : List V} {m : List D}, dOf mu ko l = some m → ∀ {h : PH} {vs : List Value}, V.owns B r h l vs → h.le s → D.rds s m vs
  | [], m, e, h, vs, o, _ => by simp [dOf] at e; subst e; exact o
  | x :: l, m, e, h, vs, o, hl => by
    obtain ⟨v, t, h1, h2, rfl, e2, e3, e4, e5, e6⟩ := o
    simp only [dOf] at e
    cases c : dOf mu ko l with
    | none => rw [c] at e; cases e
    | some l' =>
      rw [c] at e
      have ih := dOf_rd W c e6 (PH.le_trans e3 hl)
      cases x with
      | v y => simp at e; subst e; exact ⟨v, t, rfl, e5, ih⟩
      | s q sz n f =>
        cases q with
        | o =>
          simp at e; subst e
          rcases e5 with ⟨_, k⟩ | ⟨k, _⟩
          · exact ⟨v, t, rfl, D.rd_mono (PH.le_trans e2 hl) (.sl sz n f) (D.own_rd (.sl sz n f) k), ih⟩
          · cases k
        | r =>
          simp at e; subst e
          rcases e5 with ⟨k, _⟩ | ⟨_, k⟩
          · cases k
          · exact ⟨v, t, rfl, D.rd_mono W.ler (.sl sz n f) k, ih⟩
        | k j => simp at e
      | g k =>
        simp only at e
        obtain ⟨hv, _⟩ := (show v = B k ∧ _ from e5)
        cases hko : hasK k ko with
        | true => rw [hko] at e; cases e
        | false =>
        rw [hko] at e
        simp only [cond_false] at e
        split at e
        · rename_i sz n f hk
          simp at e; subst e
          exact ⟨v, t, rfl, by rw [hv]; exact D.rd_mono (W.le k _ hk hko) (.sl sz n f) (D.own_rd (.sl sz n f) (W.sat k _ hk)), ih⟩
        · rename_i sz n f hk
          simp at e; subst e
          exact ⟨v, t, rfl, by rw [hv]; exact D.rd_mono W.ler (.sl sz n f) (W.sat k _ hk), ih⟩
        · rename_i sz n f hk
          simp at e; subst e
          exact ⟨v, t, rfl, by rw [hv]; exact D.rd_mono (W.le k _ hk hko) (.sl sz n f) (W.sat k _ hk), ih⟩
        · cases e
      | rp q l2 o =>
        cases q with
        | r =>
          simp at e; subst e
          exact ⟨v, t, rfl, D.rd_mono W.ler (.pt l2 o) e5.2, ih⟩
        | _ => simp at e
      | _ => simp at e
theorem dOf_rd2 (W : Wk B r mu H ko s) : ∀ {l : List V} {m : List D}, dOf mu ko l = some m → ∀ {vs : List Value}, V.rels B (Zf r fun _ => PH.emp) l vs → D.rds s m vs
  | [], m, e, vs, o => by simp [dOf] at e; subst e; exact o
  | x :: l, m, e, vs, o => by
    obtain ⟨v, t, rfl, e5, e6⟩ := o
    simp only [dOf] at e
    cases c : dOf mu ko l with
    | none => rw [c] at e; cases e
    | some l' =>
      rw [c] at e
      have ih := dOf_rd2 W c e6
      cases x with
      | v y => simp at e; subst e; exact ⟨v, t, rfl, e5, ih⟩
      | s q sz n f =>
        cases q with
        | o => simp at e; subst e; exact ⟨v, t, rfl, D.rd_mono W.ler (.sl sz n f) e5, ih⟩
        | r => simp at e; subst e; exact ⟨v, t, rfl, D.rd_mono W.ler (.sl sz n f) e5, ih⟩
        | k j => simp at e
      | g k =>
        simp only at e
        obtain ⟨hv, _⟩ := (show v = B k ∧ _ from e5)
        cases hko : hasK k ko with
        | true => rw [hko] at e; cases e
        | false =>
        rw [hko] at e
        simp only [cond_false] at e
        split at e
        · rename_i sz n f hk
          simp at e; subst e
          exact ⟨v, t, rfl, by rw [hv]; exact D.rd_mono (W.le k _ hk hko) (.sl sz n f) (D.own_rd (.sl sz n f) (W.sat k _ hk)), ih⟩
        · rename_i sz n f hk
          simp at e; subst e
          exact ⟨v, t, rfl, by rw [hv]; exact D.rd_mono W.ler (.sl sz n f) (W.sat k _ hk), ih⟩
        · rename_i sz n f hk
          simp at e; subst e
          exact ⟨v, t, rfl, by rw [hv]; exact D.rd_mono (W.le k _ hk hko) (.sl sz n f) (W.sat k _ hk), ih⟩
        · cases e
      | rp q l2 o =>
        cases q with
        | r => simp at e; subst e; exact ⟨v, t, rfl, D.rd_mono W.ler (.pt l2 o) e5, ih⟩
        | _ => simp at e
      | _ => simp at e
theorem wkV_ok (W : Wk B r mu H ko s) {x y : V} {q : Ob} (h : wkV mu ko kn x = some (y, q)) (hq : Alls q) (hZ : Z .r = s) {v : Value} (e : x.rel B (Zf r H) v) : y.rel B Z v := by
  cases x with
  | v u => simp [wkV] at h; obtain ⟨rfl, rfl⟩ := h; exact e
  | any => simp [wkV] at h
  | s t sz n f =>
    simp only [wkV] at h
    cases c : wkT mu ko t with
    | false => rw [c] at h; cases h
    | true =>
      rw [c] at h; simp at h; obtain ⟨rfl, rfl⟩ := h
      show D.rd (Z .r) _ _
      rw [hZ]; exact D.rd_mono (wkT_le W c) (.sl sz n f) e
  | rp t l o =>
    simp only [wkV] at h
    cases c : wkT mu ko t with
    | false => rw [c] at h; cases h
    | true =>
      rw [c] at h; simp at h; obtain ⟨rfl, rfl⟩ := h
      obtain ⟨b, x, vs, e1, e2, e3⟩ := (show _ from e)
      have hl := wkT_le W c
      show ∃ b x vs, _ = _ ∧ D.rds (Z .r) l vs ∧ ∀ j, j < vs.length → Z .r b (x + j) = vs[j]?
      rw [hZ]
      exact ⟨b, x, vs, e1, D.rds_mono hl l e2, fun j hj => le_cell hl rfl hj (e3 j hj)⟩
  | g k =>
    simp only [wkV] at h
    cases c : hasK k kn with
    | true => rw [c] at h; simp at h; obtain ⟨rfl, rfl⟩ := h; exact e
    | false =>
      rw [c] at h
      cases c2 : hasK k ko with
      | true => rw [c2] at h; cases h
      | false =>
        rw [c2] at h
        simp only [cond_false] at h
        obtain ⟨hv, _⟩ := (show v = B k ∧ _ from e)
        split at h
        · rename_i sz n f hk
          simp at h; obtain ⟨rfl, rfl⟩ := h
          show D.rd (Z .r) _ _
          rw [hZ, hv]; exact D.rd_mono (W.le k _ hk c2) (.sl sz n f) (D.own_rd (.sl sz n f) (W.sat k _ hk))
        · rename_i sz n f hk
          simp at h; obtain ⟨rfl, rfl⟩ := h
          show D.rd (Z .r) _ _
          rw [hZ, hv]; exact D.rd_mono W.ler (.sl sz n f) (W.sat k _ hk)
        · rename_i sz n f hk
          simp at h; obtain ⟨rfl, rfl⟩ := h
          show D.rd (Z .r) _ _
          rw [hZ, hv]; exact D.rd_mono (W.le k _ hk c2) (.sl sz n f) (W.sat k _ hk)
        · cases h
  | p k o =>
    simp only [wkV] at h
    cases c : hasK k kn with
    | true => rw [c] at h; simp at h; obtain ⟨rfl, rfl⟩ := h; exact e
    | false =>
      rw [c] at h
      cases c2 : hasK k ko with
      | true => rw [c2] at h; cases h
      | false =>
        rw [c2] at h
        simp only [cond_false] at h
        obtain ⟨hv, _⟩ := (show v = addP (B k) o ∧ _ from e)
        split at h
        · rename_i l hk
          split at h
          · rename_i m hm
            simp at h; obtain ⟨rfl, rfl⟩ := h
            obtain ⟨b, off, vs, h', e1, e2, e3, e4⟩ := W.sat k _ hk
            have hl := V.owns_length e2
            show ∃ b x vs, _ = _ ∧ D.rds (Z .r) m vs ∧ ∀ j, j < vs.length → Z .r b (x + j) = vs[j]?
            rw [hZ]
            refine ⟨b, off, vs, ?_, dOf_rd W hm e2 (PH.le_trans e3 (W.le k _ hk c2)), fun j hj => le_cell (W.le k _ hk c2) rfl hj (e4 j (by omega)).1⟩
            rw [hv, e1]; simp [addP, add_mk]
          · cases h
        · rename_i l hk
          split at h
          · rename_i m hm
            simp at h; obtain ⟨rfl, rfl⟩ := h
            obtain ⟨b, off, vs, e1, e2, e4⟩ := W.sat k _ hk
            have hl := V.rels_length e2
            show ∃ b x vs, _ = _ ∧ D.rds (Z .r) m vs ∧ ∀ j, j < vs.length → Z .r b (x + j) = vs[j]?
            rw [hZ]
            refine ⟨b, off, vs, ?_, dOf_rd2 W hm e2, fun j hj => le_cell W.ler rfl hj (e4 j (by omega))⟩
            rw [hv, e1]; simp [addP, add_mk]
          · cases h
        · cases h
  | pe k sz i o =>
    simp only [wkV] at h
    cases c : hasK k kn with
    | true => rw [c] at h; simp at h; obtain ⟨rfl, rfl⟩ := h; exact e
    | false =>
      rw [c] at h
      cases c2 : hasK k ko with
      | true => rw [c2] at h; cases h
      | false =>
        rw [c2] at h
        simp only [cond_false] at h
        obtain ⟨hv, _⟩ := (show v = elP (B k) sz i o ∧ _ from e)
        split at h
        · rename_i sz' n f hk
          simp at h; obtain ⟨rfl, rfl⟩ := h
          obtain ⟨rfl, ⟨q1, q2⟩, _⟩ := hq
          obtain ⟨A, cp, e1, e2, e3, e4⟩ := (show D.rd s (.sl sz n f) (B k) from D.rd_mono (W.le k _ hk c2) (.sl sz n f) (D.own_rd (.sl sz n f) (W.sat k _ hk)))
          show ∃ b x vs, _ = _ ∧ D.rds (Z .r) (f i.toNat) vs ∧ ∀ j, j < vs.length → Z .r b (x + j) = vs[j]?
          rw [hZ]
          rcases e4 with e4 | ⟨b, off, rfl, e5⟩
          · omega
          · obtain ⟨row, r1, r2, r3⟩ := e5 i.toNat (by omega)
            exact ⟨b, off + i.toNat * sz, row, by rw [hv, e1, elP_slice], r1, fun j hj => r3 j (by omega)⟩
        · rename_i sz' n f hk
          simp at h; obtain ⟨rfl, rfl⟩ := h
          obtain ⟨rfl, ⟨q1, q2⟩, _⟩ := hq
          obtain ⟨A, cp, e1, e2, e3, e4⟩ := (show D.rd s (.sl sz n f) (B k) from D.rd_mono W.ler (.sl sz n f) (W.sat k _ hk))
          show ∃ b x vs, _ = _ ∧ D.rds (Z .r) (f i.toNat) vs ∧ ∀ j, j < vs.length → Z .r b (x + j) = vs[j]?
          rw [hZ]
          rcases e4 with e4 | ⟨b, off, rfl, e5⟩
          · omega
          · obtain ⟨row, r1, r2, r3⟩ := e5 i.toNat (by omega)
            exact ⟨b, off + i.toNat * sz, row, by rw [hv, e1, elP_slice], r1, fun j hj => r3 j (by omega)⟩
        · cases h
  | sb k sz lo hi =>
    simp only [wkV] at h
    cases c : hasK k kn with
    | true => rw [c] at h; simp at h; obtain ⟨rfl, rfl⟩ := h; exact e
    | false =>
      rw [c] at h
      cases c2 : hasK k ko with
      | true => rw [c2] at h; cases h
      | false =>
        rw [c2] at h
        simp only [cond_false] at h
        obtain ⟨hv, _⟩ := (show v = sbV (B k) sz _ _ ∧ _ from e)
        split at h
        · rename_i sz' n f hk
          simp at h; obtain ⟨rfl, rfl⟩ := h
          obtain ⟨rfl, ⟨q1, q2, q3⟩, _⟩ := hq
          have := sb_rd (D.rd_mono (W.le k _ hk c2) (.sl sz n f) (D.own_rd (.sl sz n f) (W.sat k _ hk))) q1 q2 q3
          show D.rd (Z .r) _ v
          rw [hZ, hv]; exact this
        · cases h
  | gl k n c0 =>
    simp only [wkV] at h
    cases c : hasK k kn with
    | true => rw [c] at h; simp at h; obtain ⟨rfl, rfl⟩ := h; exact e
    | false => rw [c] at h; cases h
theorem wkL_ok (W : Wk B r mu H ko s) (hZ : Z .r = s) : ∀ {l m : List V} {q : Ob}, wkL mu ko kn l = some (m, q) → Alls q → ∀ {vs : List Value}, V.rels B (Zf r H) l vs → V.rels B Z m vs
  | [], m, q, h, _, vs, e => by simp [wkL] at h; obtain ⟨rfl, rfl⟩ := h; exact e
  | x :: l, m, q, h, hq, vs, e => by
    simp only [wkL] at h
    split at h
    · rename_i y p l' q' e1 e2
      simp at h; obtain ⟨rfl, rfl⟩ := h
      obtain ⟨h1, h2⟩ := Alls_append.1 hq
      obtain ⟨v, t, rfl, g1, g2⟩ := e
      exact ⟨v, t, rfl, wkV_ok W e1 h1 hZ g1, wkL_ok W hZ e2 h2 g2⟩
    · cases h
theorem wkS_ok {P : Program} (W : Wk B r mu H ko s) (hZ : Z .r = s) {x y : SV} {q : Ob} (h : wkS mu ko kn x = some (y, q)) (hq : Alls q) {v : Value} (e : SV.rel P B (Zf r H) x v) : SV.rel P B Z y v := by
  cases x with
  | a x =>
    simp only [wkS] at h
    split at h
    · rename_i y' q' e1
      simp at h; obtain ⟨rfl, rfl⟩ := h
      exact wkV_ok W e1 hq hZ e
    · cases h
  | ag l =>
    simp only [wkS] at h
    split at h
    · rename_i y' q' e1
      simp at h; obtain ⟨rfl, rfl⟩ := h
      obtain ⟨vs, rfl, e2⟩ := e
      exact ⟨vs, rfl, wkL_ok W hZ e1 hq e2⟩
    · cases h
  | fn f l =>
    simp only [wkS] at h
    split at h
    · rename_i y' q' e1
      simp at h; obtain ⟨rfl, rfl⟩ := h
      obtain ⟨vs, rfl, e2⟩ := e
      exact ⟨vs, rfl, wkL_ok W hZ e1 hq e2⟩
    · cases h
  | fb φ =>
    simp [wkS] at h; obtain ⟨rfl, rfl⟩ := h
    obtain ⟨f, vs, rfl, e2⟩ := e
    exact ⟨f, vs, rfl, e2.mono (by rw [hZ]; exact W.ler)⟩
  | tu l => simp [wkS] at h
  | un => simp [wkS] at h
theorem wkSL_ok {P : Program} (W : Wk B r mu H ko s) (hZ : Z .r = s) : ∀ {l m : List SV} {q : Ob}, wkSL mu ko kn l = some (m, q) → Alls q → ∀ {vs : List Value}, SV.rels P B (Zf r H) l vs → SV.rels P B Z m vs
  | [], m, q, h, _, vs, e => by simp [wkSL] at h; obtain ⟨rfl, rfl⟩ := h; exact e
  | x :: l, m, q, h, hq, vs, e => by
    simp only [wkSL] at h
    split at h
    · rename_i y p l' q' e1 e2
      simp at h; obtain ⟨rfl, rfl⟩ := h
      obtain ⟨h1, h2⟩ := Alls_append.1 hq
      obtain ⟨v, t, rfl, g1, g2⟩ := e
      exact ⟨v, t, rfl, wkS_ok W hZ e1 h1 g1, wkSL_ok W hZ e2 h2 g2⟩
    · cases h
end
end
section
def appK : List Nat → List Nat → List Nat
  | [], l => l
  | x :: r, l => x :: appK r l
def appM : Mu → Mu → Mu
  | [], l => l
  | x :: r, l => x :: appM r l
def mdropKs (ks : List Nat) : Mu → Option Mu
  | [] => some []
  | (j, c) :: r => match mdropKs ks r with
    | some l => bif hasK j ks then some l else some ((j, c) :: l)
    | none => none
def V.usesTs (ks : List Nat) : V → Bool
  | .s (.k q) _ _ _ => hasK q ks
  | .rp (.k q) _ _ => hasK q ks
  | _ => false
def cutKs (ko : List Nat) (fr : Fr) (gf : GF) : Option (Fr × GF) := match ko with
  | [] => some (fr, gf)
  | _ :: _ => match frCut (V.usesTs ko) fr, gfCut (V.usesTs ko) gf with
    | some fr', some gf' => some (fr', gf')
    | _, _ => none
def V.inK (ks : List Nat) : V → Bool
  | .v _ => true
  | .g k => hasK k ks
  | .p k _ => hasK k ks
  | .pe k _ _ _ => hasK k ks
  | .sb k _ _ _ => hasK k ks
  | .gl k _ _ => hasK k ks
  | .any => true
  | _ => false
def V.inKo (ks : List Nat) : V → Bool
  | .s .o _ _ _ => true
  | x => x.inK ks
def allL (φ : V → Bool) : List V → Bool
  | [] => true
  | x :: r => bif φ x then allL φ r else false
mutual
def SV.inK (ks : List Nat) : SV → Bool
  | .a x => x.inK ks
  | .ag l => allL (V.inK ks) l
  | .tu l => SV.inKL ks l
  | _ => false
def SV.inKL (ks : List Nat) : List SV → Bool
  | [] => true
  | x :: r => bif x.inK ks then SV.inKL ks r else false
end
def muIn (ks : List Nat) : Mu → Bool
  | [] => true
  | (_, c) :: r => bif c.own? then bif allL (V.inKo ks) c.rowL then muIn ks r else false else false
def freshB (ks : List Nat) (fr : Fr) (gf : GF) (mu : Mu) (aks : List Nat) : List Nat → Bool
  | [] => true
  | k :: r => bif hasK k ks then freshB ks fr gf mu aks r else bif unnamed k fr gf mu aks then freshB ks fr gf mu aks r else false
def apartB (l : List Nat) : List Nat → Bool
  | [] => true
  | k :: r => bif hasK k l then false else apartB l r
def resS : List SV → SV
  | [x] => x
  | l => .tu l
def WkIn (mu : Mu) : Mu → Prop
  | [] => True
  | (k, c) :: r => (∃ d, mlk k mu = some d ∧ match c with
      | .ro sz n f => ∀ B r h s j, Ch.sat B r h j d → r.le s → h.le s → D.rd s (.sl sz n f) (B j)
      | .rrow l => ∀ B r h s j, Ch.sat B r h j d → r.le s → h.le s → Ch.sat B s PH.emp j (.rrow l)
      | c => d.imp c) ∧ WkIn mu r
theorem ro_arr {sz n : Nat} {f : Nat → List D} : ∀ B r h s j, Ch.sat B r h j (.arr sz n f) → r.le s → h.le s → D.rd s (.sl sz n f) (B j) := fun _ _ _ _ _ e _ l => D.rd_mono l (.sl sz n f) (D.own_rd (.sl sz n f) e)
theorem ro_ro {sz n : Nat} {f : Nat → List D} : ∀ B r h s j, Ch.sat B r h j (.ro sz n f) → r.le s → h.le s → D.rd s (.sl sz n f) (B j) := fun _ _ _ _ _ e l _ => D.rd_mono l (.sl sz n f) e
theorem V.own_relS {B : BE} {r h s : PH} (lr : r.le s) (lh : h.le s) : ∀ {x : V} {y : Value}, x.own B r h y → x.rel B (Zf s fun _ => PH.emp) y
  | .v _, _, e => e
  | .s q sz n f, _, e => by
    rcases e with ⟨rfl, e2⟩ | ⟨rfl, e2⟩
    · exact D.rd_mono lh (.sl sz n f) (D.own_rd (.sl sz n f) e2)
    · exact D.rd_mono lr (.sl sz n f) e2
  | .g _, _, e => e
  | .p _ _, _, e => e
  | .pe _ _ _ _, _, e => e
  | .sb _ _ _ _, _, e => e
  | .gl _ _ _, _, e => e
  | .rp q m o, _, e => by
    obtain ⟨rfl, e⟩ := e
    exact D.rd_mono lr (.pt m o) e
  | .any, _, _ => trivial
theorem V.owns_relS {B : BE} {r s : PH} (lr : r.le s) : ∀ {l : List V} {y : List Value} {h : PH}, h.le s → V.owns B r h l y → V.rels B (Zf s fun _ => PH.emp) l y
  | [], _, _, _, e => e
  | x :: l, _, _, lh, e => by
    obtain ⟨a, t, h1, h2, e1, e2, e3, e4, e5, e6⟩ := e
    exact ⟨a, t, e1, V.own_relS lr (PH.le_trans e2 lh) e5, V.owns_relS lr (PH.le_trans e3 lh) e6⟩
theorem ro_row {l : List V} : ∀ B r h s j, Ch.sat B r h j (.row l) → r.le s → h.le s → Ch.sat B s PH.emp j (.rrow l) := fun B r h s j ⟨b, o, vs, h', e1, e2, e3, e4⟩ lr lh =>
  ⟨b, o, vs, e1, V.owns_relS lr (PH.le_trans e3 lh) e2, fun i hi => le_cell lh (V.owns_length e2) hi (e4 i hi).1⟩
theorem mlk_appM (k : Nat) : ∀ (l m : Mu), mlk k (appM l m) = (mlk k l).or (mlk k m)
  | [], m => rfl
  | (j, c) :: r, m => by
    simp only [appM]
    rw [mlk_cons, mlk_cons]
    by_cases h : j = k
    · rw [if_pos h, if_pos h]; rfl
    · rw [if_neg h, if_neg h]; exact mlk_appM k r m
theorem mdropKs_spec {ks : List Nat} : ∀ {mu l : Mu}, mdropKs ks mu = some l → ∀ k, mlk k l = if hasK k ks then none else mlk k mu
  | [], l, h, k => by simp [mdropKs] at h; subst h; simp [mlk]
  | (j, c) :: r, l, h, k => by
    simp only [mdropKs] at h
    cases e : mdropKs ks r with
    | none => rw [e] at h; cases h
    | some l' =>
      rw [e] at h
      simp only at h
      have ih := mdropKs_spec e k
      cases c1 : hasK j ks with
      | true =>
        rw [c1] at h; simp at h; subst h
        rw [mlk_cons, ih]
        by_cases hj : j = k
        · subst hj; rw [c1]; rfl
        · rw [if_neg hj]
      | false =>
        rw [c1] at h; simp at h; subst h
        rw [mlk_cons, mlk_cons, ih]
        by_cases hj : j = k
        · subst hj; rw [if_pos rfl, c1]; simp
        · rw [if_neg hj, if_neg hj]
theorem allL_cons {φ : V → Bool} {x : V} {r : List V} (h : allL φ (x :: r) = true) : φ x = true ∧ allL φ r = true := by
  simp only [allL] at h
  cases e : φ x with
  | false => rw [e] at h; cases h
  | true => rw [e] at h; exact ⟨rfl, h⟩
theorem V.inK_rel {ks : List Nat} {B B' : BE} {Z Z' : Tg → PH} (hB : ∀ k, hasK k ks = true → B' k = B k) {x : V} {y : Value} (h : x.inK ks = true) (e : x.rel B Z y) : x.rel B' Z' y := by
  cases x with
  | v u => exact e
  | g k => show _ = B' k ∧ _; rw [hB k h]; exact e
  | p k o => show _ = addP (B' k) o ∧ _; rw [hB k h]; exact e
  | pe k sz i o => show _ = elP (B' k) sz i o ∧ _; rw [hB k h]; exact e
  | sb k sz lo hi => show _ = sbV (B' k) sz _ _ ∧ _; rw [hB k h]; exact e
  | gl k n c => show _ = B' k ∧ _; rw [hB k h]; exact e
  | any => trivial
  | _ => cases h
theorem V.inKo_own {ks : List Nat} {B B' : BE} {r r' h : PH} (hB : ∀ k, hasK k ks = true → B' k = B k) {x : V} {y : Value} (hx : x.inKo ks = true) (e : x.own B r h y) : x.own B' r' h y := by
  cases x with
  | v u => exact e
  | g k => show _ = B' k ∧ _; rw [hB k hx]; exact e
  | p k o => show _ = addP (B' k) o ∧ _; rw [hB k hx]; exact e
  | pe k sz i o => show _ = elP (B' k) sz i o ∧ _; rw [hB k hx]; exact e
  | sb k sz lo hi => show _ = sbV (B' k) sz _ _ ∧ _; rw [hB k hx]; exact e
  | gl k n c => show _ = B' k ∧ _; rw [hB k hx]; exact e
  | any => trivial
  | s q sz n f =>
    cases q with
    | o => exact .inl ⟨rfl, (e.resolve_right fun h => by cases h.1).2⟩
    | _ => cases hx
  | rp _ _ _ => cases hx
theorem V.inK_rels {ks : List Nat} {B B' : BE} {Z Z' : Tg → PH} (hB : ∀ k, hasK k ks = true → B' k = B k) : ∀ {l : List V} {y : List Value}, allL (V.inK ks) l = true → V.rels B Z l y → V.rels B' Z' l y
  | [], _, _, e => e
  | x :: r, _, h, e => by
    obtain ⟨a, t, e1, e2, e3⟩ := e
    obtain ⟨h1, h2⟩ := allL_cons h
    exact ⟨a, t, e1, V.inK_rel hB h1 e2, V.inK_rels hB h2 e3⟩
theorem inKo_owns {ks : List Nat} {B B' : BE} {r r' : PH} (hB : ∀ k, hasK k ks = true → B' k = B k) : ∀ {l : List V} {y : List Value} {h : PH}, allL (V.inKo ks) l = true → V.owns B r h l y → V.owns B' r' h l y
  | [], _, _, _, e => e
  | x :: l, _, _, h, e => by
    obtain ⟨a, t, g1, g2, e1, e2, e3, e4, e5, e6⟩ := e
    obtain ⟨h1, h2⟩ := allL_cons h
    exact ⟨a, t, g1, g2, e1, e2, e3, e4, V.inKo_own hB h1 e5, inKo_owns hB h2 e6⟩
mutual
theorem SV.inK_rel {P : Program} {ks : List Nat} {B B' : BE} {Z Z' : Tg → PH} (hB : ∀ k, hasK k ks = true → B' k = B k) : ∀ (x : SV) {y : Value}, x.inK ks = true → SV.rel P B Z x y → SV.rel P B' Z' x y
  | .a _, _, h, e => V.inK_rel hB h e
  | .ag l, _, h, e => by obtain ⟨vs, e1, e2⟩ := e; exact ⟨vs, e1, V.inK_rels hB h e2⟩
  | .tu l, _, h, e => by obtain ⟨vs, e1, e2⟩ := e; exact ⟨vs, e1, SV.inK_rels hB l h e2⟩
  | .fn _ _, _, h, _ => by cases h
  | .fb _, _, h, _ => by cases h
  | .un, _, h, _ => by cases h
theorem SV.inK_rels {P : Program} {ks : List Nat} {B B' : BE} {Z Z' : Tg → PH} (hB : ∀ k, hasK k ks = true → B' k = B k) : ∀ (l : List SV) {y : List Value}, SV.inKL ks l = true → SV.rels P B Z l y → SV.rels P B' Z' l y
  | [], _, _, e => e
  | x :: r, _, h, e => by
    obtain ⟨a, t, e1, e2, e3⟩ := e
    simp only [SV.inKL] at h
    cases c : x.inK ks with
    | false => rw [c] at h; cases h
    | true => rw [c] at h; exact ⟨a, t, e1, SV.inK_rel hB x c e2, SV.inK_rels hB r h e3⟩
end
theorem Ch.inKo_sat {ks : List Nat} {B B' : BE} {r r' h : PH} {k : Nat} (hB : ∀ k, hasK k ks = true → B' k = B k) (hk : B' k = B k) {c : Ch} (ho : c.own? = true) (hr : allL (V.inKo ks) c.rowL = true) (s : c.sat B r h k) : c.sat B' r' h k := by
  cases c with
  | row l =>
    obtain ⟨b, o, vs, h', e1, e2, e3⟩ := s
    exact ⟨b, o, vs, h', by rw [hk]; exact e1, inKo_owns hB hr e2, e3⟩
  | arr sz n f => show D.own _ _ (B' k); rw [hk]; exact s
  | hole sz n f i k2 =>
    obtain ⟨A, c, e1, e2, e3, e4, e5, e6⟩ := s
    exact ⟨A, c, by rw [hk]; exact e1, e2, e3, e4, by rw [hk, hB k2 (allL_cons (φ := V.inKo ks) hr).1]; exact e5, e6⟩
  | ro _ _ _ => cases ho
  | rrow _ => cases ho
  | rd sz n f => show D.rd _ _ (B' k); rw [hk]; exact s
  | rw P => exact s
theorem muIn_get {ks : List Nat} : ∀ {mu : Mu}, muIn ks mu = true → ∀ k c, mlk k mu = some c → c.own? = true ∧ allL (V.inKo ks) c.rowL = true
  | [], _, _, _, h => by cases h
  | (j, d) :: r, h, k, c, e => by
    simp only [muIn] at h
    cases c1 : d.own? with
    | false => rw [c1] at h; cases h
    | true =>
      rw [c1] at h
      cases c2 : allL (V.inKo ks) d.rowL with
      | false => rw [c2] at h; cases h
      | true =>
        rw [c2] at h
        rw [mlk_cons] at e
        by_cases hj : j = k
        · rw [if_pos hj] at e; injection e with e; subst e; exact ⟨c1, c2⟩
        · rw [if_neg hj] at e; exact muIn_get h k c e
theorem freshB_get {ks : List Nat} {fr : Fr} {gf : GF} {mu : Mu} {aks : List Nat} : ∀ {nk : List Nat}, freshB ks fr gf mu aks nk = true → ∀ k, hasK k nk = true → hasK k ks = false → unnamed k fr gf mu aks = true
  | [], _, _, h, _ => by cases h
  | j :: r, h, k, e, n => by
    simp only [freshB] at h
    cases c1 : hasK j ks with
    | true =>
      rw [c1] at h
      rcases (hasK_cons k j r).1 e with h1 | h1
      · subst h1; rw [c1] at n; cases n
      · exact freshB_get h k h1 n
    | false =>
      rw [c1] at h
      cases c2 : unnamed j fr gf mu aks with
      | false => rw [c2] at h; cases h
      | true =>
        rw [c2] at h
        rcases (hasK_cons k j r).1 e with h1 | h1
        · subst h1; exact c2
        · exact freshB_get h k h1 n
theorem apartB_get {l : List Nat} : ∀ {m : List Nat}, apartB l m = true → ∀ k, hasK k m = true → hasK k l = false
  | [], _, _, h => by cases h
  | j :: r, h, k, e => by
    simp only [apartB] at h
    cases c1 : hasK j l with
    | true => rw [c1] at h; cases h
    | false =>
      rw [c1] at h
      rcases (hasK_cons k j r).1 e with h1 | h1
      · subst h1; exact c1
      · exact apartB_get h k h1
theorem hasK_app {k : Nat} : ∀ {l m : List Nat}, hasK k (appK l m) = true ↔ hasK k l = true ∨ hasK k m = true
  | [], m => by simp [appK, hasK]
  | j :: r, m => by
    simp only [appK]
    rw [hasK_cons, hasK_cons, hasK_app (l := r), or_assoc]
theorem keysOf_has {k : Nat} : ∀ {mu : Mu} {c : Ch}, mlk k mu = some c → hasK k (keysOf mu) = true
  | [], _, h => by cases h
  | (j, d) :: r, c, e => by
    rw [mlk_cons] at e
    simp only [keysOf]
    by_cases hj : j = k
    · exact (hasK_cons k j _).2 (.inl hj)
    · rw [if_neg hj] at e; exact (hasK_cons k j _).2 (.inr (keysOf_has e))
theorem keysO_has {k : Nat} : ∀ {mu : Mu} {c : Ch}, (k, c) ∈ mu → c.own? = true → hasK k (keysO mu) = true
  | [], _, h, _ => by cases h
  | (j, d) :: r, c, e, o => by
    simp only [keysO]
    cases e with
    | head => rw [o]; exact (hasK_cons k k _).2 (.inl rfl)
    | tail _ e =>
      have := keysO_has e o
      cases d.own? with
      | false => exact this
      | true => exact (hasK_cons k j _).2 (.inr this)
theorem resS_rel {P : Program} {B : BE} {Z : Tg → PH} : ∀ {l : List SV} {vs : List Value}, SV.rels P B Z l vs → SV.rel P B Z (resS l) (resV vs)
  | [], vs, e => by have e : vs = [] := e; subst e; exact ⟨[], rfl, rfl⟩
  | [x], vs, e => by
    obtain ⟨a, t, rfl, e2, e3⟩ := e
    have e3 : t = [] := e3
    subst e3
    exact e2
  | x :: y :: r, vs, e => by
    have e' := e
    obtain ⟨a, t, rfl, e2, b, u, rfl, e4, e5⟩ := e
    exact ⟨_, rfl, e'⟩
end
section
def callC (N : Nat) (all : List Oper) (fr : Fr) (gf : GF) (o : Oper) : Option (Nat × List SV × Option (Nat × Nat × Bool) × Nat × GF) :=
  match o.dst with
  | none => none
  | some t => match gdrop t gf with
    | none => none
    | some gf' => match o.guard with
      | none => match callsOf [] fr gf o.op with
        | some (n, svs) => bif Nat.blt t N then some (n, svs, none, t, gf') else none
        | none => none
      | some (j, b) => match gSlot all j, mlk t fr with
        | some d, none => match callsOf (acts 6 gf d b) fr gf o.op with
          | some (n, svs) => bif (Nat.blt t N && !(Nat.beq t d)) then some (n, svs, some (j, d, b), t, gf') else none
          | none => none
        | _, _ => none
def frQ (fr : Fr) (g : Option (Nat × Nat × Bool)) (t : Nat) (v : SV) : Fr := match g with
  | none => (t, v) :: fr
  | some _ => fr
def gfQ (gf' : GF) (g : Option (Nat × Nat × Bool)) (t : Nat) (v : SV) : GF := match g with
  | none => gf'
  | some (_, d, b) => (t, d, b, v) :: gf'
def litG (fr : Fr) (gf : GF) (g : Option (Nat × Nat × Bool)) : Prop := match g with
  | none => True
  | some (_, d, b) => glk d gf = none ∧ mlk d fr = some (.a (.v (.bool b)))
def roB (ko : List Nat) : Mu → Bool
  | [] => true
  | (k, c) :: r => bif c.own? then roB ko r else bif hasK k ko then false else roB ko r
theorem roB_get {ko : List Nat} : ∀ {mu : Mu}, roB ko mu = true → ∀ k c, mlk k mu = some c → c.own? = false → hasK k ko = false
  | [], _, _, _, h, _ => by cases h
  | (j, d) :: r, h, k, c, e, o => by
    simp only [roB] at h
    rw [mlk_cons] at e
    by_cases hj : j = k
    · rw [if_pos hj] at e; injection e with e; subst e; subst hj
      rw [o] at h
      cases c1 : hasK j ko with
      | false => rfl
      | true => rw [c1] at h; cases h
    · rw [if_neg hj] at e
      refine roB_get ?_ k c e o
      cases c1 : d.own? with
      | true => rw [c1] at h; exact h
      | false =>
        rw [c1] at h
        cases c2 : hasK j ko with
        | true => rw [c2] at h; cases h
        | false => rw [c2] at h; exact h
section
variable {E : Env} {B : BE} {mu mu' : Mu} {w : World} {H : Nat → PH} {TT : List TI} {fr fr' : Fr} {gf gf' : GF} {a : Act} {all rest : List Oper} {Q : Exit → Act → World → Prop} {o : Oper} {J : Act → World → Prop} {G : AG}
theorem callC_none {n : Nat} {svs : List SV} {t : Nat} {N : Nat} (h : callC N all fr gf o = some (n, svs, none, t, gf')) : o.guard = none ∧ o.dst = some t ∧ Nat.blt t N = true ∧ callsOf [] fr gf o.op = some (n, svs) ∧ gdrop t gf = some gf' := by
  unfold callC at h
  split at h
  · cases h
  · rename_i t' hd
    split at h
    · cases h
    · rename_i g hg
      split at h
      · rename_i hgd
        split at h
        · rename_i n' s' hc
          cases hb : Nat.blt t' N with
          | false => rw [hb] at h; cases h
          | true =>
            rw [hb] at h
            simp only [cond_true, Option.some.injEq, Prod.mk.injEq] at h
            obtain ⟨rfl, rfl, _, rfl, rfl⟩ := h
            exact ⟨hgd, hd, hb, hc, hg⟩
        · cases h
      · rename_i j' b' hgd
        split at h
        · rename_i d' hs hm
          split at h
          · rename_i n' s' hc
            cases hb : (Nat.blt t' N && !(Nat.beq t' d')) with
            | false => rw [hb] at h; cases h
            | true => rw [hb] at h; simp at h
          · cases h
        · cases h
theorem callC_some {n : Nat} {svs : List SV} {t j d : Nat} {b : Bool} {N : Nat} (h : callC N all fr gf o = some (n, svs, some (j, d, b), t, gf')) : o.guard = some (j, b) ∧ gSlot all j = some d ∧ o.dst = some t ∧ (Nat.blt t N && !(Nat.beq t d)) = true ∧ mlk t fr = none ∧ callsOf (acts 6 gf d b) fr gf o.op = some (n, svs) ∧ gdrop t gf = some gf' := by
  unfold callC at h
  split at h
  · cases h
  · rename_i t' hd
    split at h
    · cases h
    · rename_i g hg
      split at h
      · split at h
        · rename_i n' s' hc
          cases hb : Nat.blt t' N with
          | false => rw [hb] at h; cases h
          | true => rw [hb] at h; simp at h
        · cases h
      · rename_i j' b' hgd
        split at h
        · rename_i d' hs hm
          split at h
          · rename_i n' s' hc
            cases hb : (Nat.blt t' N && !(Nat.beq t' d')) with
            | false => rw [hb] at h; cases h
            | true =>
              rw [hb] at h
              simp only [cond_true, Option.some.injEq, Prod.mk.injEq] at h
              obtain ⟨rfl, rfl, ⟨rfl, rfl, rfl⟩, rfl, rfl⟩ := h
              exact ⟨hgd, hs, hd, hb, hm, hc, hg⟩
          · cases h
        · cases h
theorem Mm.hand (m : Mm B E.r mu w H) {mu1 : Mu} (hro : roB (keysO mu1) mu1 = true) (hin : WkIn mu mu1) : Mm B (AllP E.r (keysO mu1) H) mu1 w (onlyK (keysO mu1) H) := by
  have get : ∀ {l : Mu} {k : Nat} {c : Ch}, WkIn mu l → mlk k l = some c → ∃ d, mlk k mu = some d ∧ (match c with
      | .ro sz n f => ∀ B r h s j, Ch.sat B r h j d → r.le s → h.le s → D.rd s (.sl sz n f) (B j)
      | .rrow l => ∀ B r h s j, Ch.sat B r h j d → r.le s → h.le s → Ch.sat B s PH.emp j (.rrow l)
      | c => d.imp c) := fun {l} => by
    induction l with
    | nil => intro k c _ h; cases h
    | cons x r ih =>
      intro k c hl h
      obtain ⟨j, d⟩ := x
      rw [mlk_cons] at h
      by_cases hj : j = k
      · rw [if_pos hj] at h; injection h with h; subst h; subst hj; exact hl.1
      · rw [if_neg hj] at h; exact ih hl.2 h
  have okey : ∀ {l : Mu} {k : Nat} {c : Ch}, mlk k l = some c → c.own? = true → hasK k (keysO l) = true := fun h o => keysO_has (mlk_mem h) o
  have fit : ∀ k, FitO (onlyK (keysO mu1) H k) w := fun k => by
    unfold onlyK
    cases hasK k (keysO mu1) with
    | true => exact m.fit k
    | false => exact FitO.emp w
  refine ⟨fun k c e => ?_, fit, fun j k h => ?_, fun k => ?_, AllP_fit m⟩
  · obtain ⟨d, h1, h2⟩ := get hin e
    have hs := m.sat k d h1
    have own : ∀ c : Ch, c.own? = true → mlk k mu1 = some c → d.imp c → c.sat B (AllP E.r (keysO mu1) H) (onlyK (keysO mu1) H k) k := fun c ho hk hi => by
      have h3 := hi _ _ _ _ hs
      have h4 : onlyK (keysO mu1) H k = H k := by unfold onlyK; rw [okey hk ho]; rfl
      rw [h4]
      cases c with
      | row l =>
        obtain ⟨b, o, vs, h', e1, e2, e3⟩ := h3
        exact ⟨b, o, vs, h', e1, V.owns_mono AllP_r (PH.le_refl _) e2, e3⟩
      | arr => exact h3
      | hole => exact h3
      | ro => cases ho
      | rrow => cases ho
      | rd => exact h3
      | rw => exact h3
    cases c with
    | ro sz n f =>
      have hko := roB_get hro k _ e rfl
      exact h2 _ _ _ _ _ hs AllP_r (AllP_le m hko)
    | rrow l =>
      have hko := roB_get hro k _ e rfl
      obtain ⟨b, o, vs, e1, e2, e3⟩ := h2 _ _ _ _ _ hs AllP_r (AllP_le m hko)
      exact ⟨b, o, vs, e1, e2, e3⟩
    | row l => exact own _ rfl e h2
    | arr sz n f => exact own _ rfl e h2
    | hole sz n f i k2 => exact own _ rfl e h2
    | rd sz n f => exact own _ rfl e h2
    | rw P => exact own _ rfl e h2
  · unfold onlyK
    cases hasK j (keysO mu1) with
    | false => exact PH.emp_dj _
    | true => cases hasK k (keysO mu1) with
      | false => exact PH.dj_emp _
      | true => exact m.dj j k h
  · unfold onlyK
    cases hk : hasK k (keysO mu1) with
    | false => exact PH.emp_dj _
    | true => exact AllP_dj m hk
theorem Mem.back (m : Mem E B mu w H) {mu1 mu1' mu2 md : Mu} {ks nk : List Nat} {B' : BE} {H' : Nat → PH} {w' : World}
    (hko : ∀ k, hasK k (keysO mu1) = true → hasK k ks = true) (hnk : keysOf mu1' = nk) (hin : muIn (appK ks nk) mu1' = true) (hfr : ∀ k, hasK k nk = true → hasK k ks = false → muAny (V.uses k) k mu = false ∧ hasK k E.A.ks = false)
    (hmd : mdropKs (appK (keysO mu1) nk) mu = some md) (hmu2 : appM mu1' md = mu2)
    (m' : Mm B' (AllP E.r (keysO mu1) H) mu1' w' H') (hB : ∀ k, hasK k ks = true → B' k = B k) (kp : Keep (ownD mu1 (onlyK (keysO mu1) H)) w w') (hn : ∀ k b o, H' k b o ≠ none → ownD mu1 (onlyK (keysO mu1) H) b o ∨ w.heap.size ≤ b) :
    Mem E (fun k => bif hasK k nk then B' k else B k) mu2 w' (fun k => bif hasK k nk then H' k else bif hasK k (keysO mu1) then PH.emp else H k) := by
  have hB2 : ∀ k, hasK k (appK ks nk) = true → (bif hasK k nk then B' k else B k) = B' k := fun k hk => by
    cases h : hasK k nk with
    | true => rfl
    | false =>
      rcases hasK_app.1 hk with h1 | h1
      · exact (hB k h1).symm
      · rw [h] at h1; cases h1
  have ownk : ∀ b o, ownD mu1 (onlyK (keysO mu1) H) b o → ∃ k, hasK k (keysO mu1) = true ∧ H k b o ≠ none := fun b o ⟨k, h1, h2⟩ => ⟨k, h1, by unfold onlyK at h2; rw [h1] at h2; exact h2⟩
  have out : ∀ g : PH, Fit g w → (∀ k, hasK k (keysO mu1) = true → (H k).dj g) → Fit g w' := fun g fg d => fg.keep kp fun b o e h2 => by
    obtain ⟨k, h1, h3⟩ := ownk b o h2
    rcases d k h1 b o with e2 | e2
    · exact h3 e2
    · exact e e2
  have outO : ∀ g : PH, FitO g w → (∀ k, hasK k (keysO mu1) = true → (H k).dj g) → FitO g w' := fun g fg d => fg.keep kp fun b o e h2 => by
    obtain ⟨k, h1, h3⟩ := ownk b o h2
    rcases d k h1 b o with e2 | e2
    · exact h3 e2
    · exact e e2
  have djg : ∀ k (g : PH), Fit g w → (∀ j, hasK j (keysO mu1) = true → (H j).dj g) → (H' k).dj g := fun k g fg d b o => by
    cases e : g b o with
    | none => exact .inr rfl
    | some u =>
      left
      cases e2 : H' k b o with
      | none => rfl
      | some u2 =>
        rcases hn k b o (by rw [e2]; simp) with h3 | h3
        · obtain ⟨j, h4, h5⟩ := ownk b o h3
          rcases d j h4 b o with h6 | h6
          · exact absurd h6 h5
          · rw [e] at h6; cases h6
        · have := fg.lt (b := b) (o := o) (by rw [e]; simp)
          omega
  have djo : ∀ {i : Nat}, hasK i (keysO mu1) = false → ∀ j, hasK j (keysO mu1) = true → (H j).dj (H i) := fun {i} hi j hj => m.mm.dj j i fun e => by rw [e, hi] at hj; cases hj
  refine ⟨⟨fun k c e => ?_, fun k => ?_, fun i j hij => ?_, fun k => ?_, out _ m.mm.fitr fun k _ => m.mm.djr k⟩, ?_, fun k b o e => ?_, fun k hk => ?_⟩
  · subst hmu2
    rw [mlk_appM] at e
    cases c1 : mlk k mu1' with
    | some c' =>
      rw [c1] at e
      injection e with e
      subst e
      have hkn : hasK k nk = true := by rw [← hnk]; exact keysOf_has c1
      obtain ⟨g1, g2⟩ := muIn_get hin k _ c1
      simp only [hkn, cond_true]
      exact Ch.inKo_sat hB2 (by simp only [hkn, cond_true]) g1 g2 (m'.sat k _ c1)
    | none =>
      rw [c1] at e
      rw [mdropKs_spec hmd k] at e
      simp only [Option.none_or] at e
      split at e
      · cases e
      · rename_i hk
        have h1 : hasK k (keysO mu1) = false := by
          cases h : hasK k (keysO mu1) with
          | false => rfl
          | true => exact absurd (hasK_app.2 (.inl h)) hk
        have h2 : hasK k nk = false := by
          cases h : hasK k nk with
          | false => rfl
          | true => exact absurd (hasK_app.2 (.inr h)) hk
        simp only [h1, h2, cond_false]
        have hs := m.mm.sat k c e
        have hB3 : ∀ j, hasK j nk = true → hasK j ks = true → B' j = B j := fun j _ h => hB j h
        have row : ∀ φ : V → Bool, (∀ x, φ x = true ↔ ∃ j, hasK j nk = true ∧ hasK j ks = false ∧ x.usesB j = true) → anyL φ c.rowL = false := fun φ hφ => by
          have : ∀ l : List V, (∀ j, hasK j nk = true → hasK j ks = false → anyL (V.uses j) l = false) → anyL φ l = false := fun l => by
            induction l with
            | nil => intro _; rfl
            | cons x r ih =>
              intro h
              have hx : φ x = false := by
                cases hc : φ x with
                | false => rfl
                | true =>
                  obtain ⟨j, j1, j2, j3⟩ := (hφ x).1 hc
                  have := (uses_out (anyL_cons (h j j1 j2)).1).1
                  rw [this] at j3; cases j3
              simp only [anyL, hx, cond_false]
              exact ih fun j j1 j2 => (anyL_cons (h j j1 j2)).2
          refine this _ fun j j1 j2 => muAny_get (hfr j j1 j2).1 k c (fun e => ?_) e
          rw [e, j1] at h2; cases h2
        have hex : ∃ φ : V → Bool, ∀ x, φ x = true ↔ ∃ j, hasK j nk = true ∧ hasK j ks = false ∧ x.usesB j = true := by
          classical
          exact ⟨fun x => decide (∃ j, hasK j nk = true ∧ hasK j ks = false ∧ x.usesB j = true), fun x => by simp⟩
        obtain ⟨φ, hφ⟩ := hex
        have hrow := row φ hφ
        have agree : ∀ j, (hasK j nk = true ∧ hasK j ks = false) ∨ (bif hasK j nk then B' j else B j) = B j := fun j => by
          cases h3 : hasK j nk with
          | false => exact .inr rfl
          | true => cases h4 : hasK j ks with
            | false => exact .inl ⟨rfl, rfl⟩
            | true => exact .inr (hB j h4)
        have hb : ∀ {x : V} {j : Nat}, φ x = false → x.usesB j = true → (bif hasK j nk then B' j else B j) = B j := fun {x j} hx hj => by
          rcases agree j with h5 | h5
          · have := (hφ x).2 ⟨j, h5.1, h5.2, hj⟩
            rw [hx] at this; cases this
          · exact h5
        have beq (j : Nat) : Nat.beq j j = true := Nat.beq_refl j
        cases c with
        | row l =>
          obtain ⟨b, o, vs, h', e1, e2, e3⟩ := hs
          refine ⟨b, o, vs, h', by simp only [h2, cond_false]; exact e1, V.owns_congr (φ := φ) (fun x h y hx e => ?_) hrow e2, e3⟩
          cases x with
          | g j => exact ⟨by dsimp only; rw [hb hx (beq j)]; exact e.1, e.2⟩
          | p j o' => exact ⟨by dsimp only; rw [hb hx (beq j)]; exact e.1, e.2⟩
          | pe j sz i o' => exact ⟨by dsimp only; rw [hb hx (beq j)]; exact e.1, e.2⟩
          | sb j sz lo hi => exact ⟨by dsimp only; rw [hb hx (beq j)]; exact e.1, e.2⟩
          | gl j n c => exact ⟨by dsimp only; rw [hb hx (beq j)]; exact e.1, e.2⟩
          | _ => exact e
        | rrow l =>
          obtain ⟨b, o, vs, e1, e2, e3⟩ := hs
          refine ⟨b, o, vs, by simp only [h2, cond_false]; exact e1, V.rels_congr (φ := φ) (fun x y hx e => ?_) hrow e2, e3⟩
          cases x with
          | g j => exact ⟨by dsimp only; rw [hb hx (beq j)]; exact e.1, e.2⟩
          | p j o' => exact ⟨by dsimp only; rw [hb hx (beq j)]; exact e.1, e.2⟩
          | pe j sz i o' => exact ⟨by dsimp only; rw [hb hx (beq j)]; exact e.1, e.2⟩
          | sb j sz lo hi => exact ⟨by dsimp only; rw [hb hx (beq j)]; exact e.1, e.2⟩
          | gl j n c => exact ⟨by dsimp only; rw [hb hx (beq j)]; exact e.1, e.2⟩
          | _ => exact e
        | arr sz n f => show D.own _ _ (bif hasK k nk then B' k else B k); rw [h2]; exact hs
        | ro sz n f => show D.rd _ _ (bif hasK k nk then B' k else B k); rw [h2]; exact hs
        | rd sz n f => show D.rd _ _ (bif hasK k nk then B' k else B k); rw [h2]; exact hs
        | rw P => exact hs
        | hole sz n f i k2 =>
          obtain ⟨A, c, e1, e2, e3, e4, e5, e6⟩ := hs
          have hx := (anyL_cons (φ := φ) hrow).1
          exact ⟨A, c, by simp only [h2, cond_false]; exact e1, e2, e3, e4, by simp only [h2, cond_false]; rw [hb hx (beq k2)]; exact e5, e6⟩
  · cases h2 : hasK k nk with
    | true => exact m'.fit k
    | false =>
      cases h1 : hasK k (keysO mu1) with
      | true => exact FitO.emp w'
      | false => exact outO _ (m.mm.fit k) (djo h1)
  · cases a1 : hasK i nk with
    | true =>
      cases a2 : hasK j nk with
      | true => exact m'.dj i j hij
      | false => cases a3 : hasK j (keysO mu1) with
        | true => exact PH.dj_emp _
        | false => exact djg i _ (m.mm.fit j).fit (djo a3)
    | false => cases a4 : hasK i (keysO mu1) with
      | true => exact PH.emp_dj _
      | false => cases a2 : hasK j nk with
        | true => exact PH.dj_symm (djg j _ (m.mm.fit i).fit (djo a4))
        | false => cases a3 : hasK j (keysO mu1) with
          | true => exact PH.dj_emp _
          | false => exact m.mm.dj i j hij
  · cases a1 : hasK k nk with
    | true => exact djg k _ m.mm.fitr fun j _ => m.mm.djr j
    | false => cases a3 : hasK k (keysO mu1) with
      | true => exact PH.emp_dj _
      | false => exact m.mm.djr k
  · exact m.keep.trans kp fun b o h => by
      obtain ⟨k, h1, h3⟩ := ownk b o h
      exact m.dom k b o h3
  · cases a1 : hasK k nk with
    | true =>
      rw [a1] at e
      rcases hn k b o e with h3 | h3
      · obtain ⟨j, h4, h5⟩ := ownk b o h3
        exact m.dom j b o h5
      · exact .inr (Nat.le_trans m.keep.size h3)
    | false =>
      rw [a1] at e
      cases a3 : hasK k (keysO mu1) with
      | true => rw [a3] at e; exact absurd rfl e
      | false => rw [a3] at e; exact m.dom k b o e
  · cases a1 : hasK k nk with
    | false => exact m.anch k hk
    | true =>
      cases a2 : hasK k ks with
      | true => rw [show (bif true then B' k else B k) = B' k from rfl, hB k a2]; exact m.anch k hk
      | false =>
        have := (hfr k a1 a2).2
        rw [hk] at this; cases this
theorem FitsE.back (f : FitsE E B H fr gf a) {ko nk ks : List Nat} {B' : BE} {H' : Nat → PH} (hko : ∀ k, hasK k ko = true → hasK k ks = true) (hB : ∀ k, hasK k ks = true → B' k = B k) (hfr : ∀ k, hasK k nk = true → hasK k ks = false → frAny (V.uses k) fr = false ∧ gfAny (V.uses k) gf = false) (hnko : ∀ k, hasK k nk = true → hasK k ks = true → hasK k ko = true) (hcut : cutKs ko fr gf = some (fr', gf')) :
    FitsE E (fun k => bif hasK k nk then B' k else B k) (fun k => bif hasK k nk then H' k else bif hasK k ko then PH.emp else H k) fr' gf' a := by
  have hex : ∃ φ : V → Bool, ∀ x, φ x = true ↔ ∃ j, hasK j nk = true ∧ hasK j ks = false ∧ x.uses j = true := by
    classical
    exact ⟨fun x => decide (∃ j, hasK j nk = true ∧ hasK j ks = false ∧ x.uses j = true), fun x => by simp⟩
  obtain ⟨φ, hφ⟩ := hex
  have outx : ∀ {x : V}, φ x = false → ∀ j, hasK j nk = true → hasK j ks = false → x.uses j = false := fun {x} hx j h1 h2 => by
    cases h : x.uses j with
    | false => rfl
    | true => rw [(hφ x).2 ⟨j, h1, h2, h⟩] at hx; cases hx
  have all : ∀ x : V, (∀ j, hasK j nk = true → hasK j ks = false → x.uses j = false) → φ x = false := fun x h => by
    cases c : φ x with
    | false => rfl
    | true =>
      obtain ⟨j, h1, h2, h3⟩ := (hφ x).1 c
      rw [h j h1 h2] at h3; cases h3
  have allL : ∀ l : List V, (∀ j, hasK j nk = true → hasK j ks = false → anyL (V.uses j) l = false) → anyL φ l = false := fun l => by
    induction l with
    | nil => intro _; rfl
    | cons x r ih =>
      intro h
      simp only [anyL, all x fun j h1 h2 => (anyL_cons (h j h1 h2)).1, cond_false]
      exact ih fun j h1 h2 => (anyL_cons (h j h1 h2)).2
  have allS : ∀ x : SV, (∀ j, hasK j nk = true → hasK j ks = false → x.anyV (V.uses j) = false) → x.anyV φ = false := by
    intro x
    refine SV.rec (motive_1 := fun x => (∀ j, hasK j nk = true → hasK j ks = false → x.anyV (V.uses j) = false) → x.anyV φ = false) (motive_2 := fun l => (∀ j, hasK j nk = true → hasK j ks = false → SV.anyV.go (V.uses j) l = false) → SV.anyV.go φ l = false) ?_ ?_ ?_ ?_ ?_ ?_ ?_ ?_ x
    · exact fun x h => all x h
    · exact fun l h => allL l h
    · exact fun f l h => allL l h
    · exact fun _ _ => rfl
    · exact fun l ih h => ih h
    · exact fun _ => rfl
    · exact fun _ => rfl
    · intro x l h1 h2 h
      have g : ∀ j, hasK j nk = true → hasK j ks = false → x.anyV (V.uses j) = false ∧ SV.anyV.go (V.uses j) l = false := fun j h3 h4 => by
        have := h j h3 h4
        simp only [SV.anyV.go] at this
        cases c : x.anyV (V.uses j) with
        | true => rw [c] at this; cases this
        | false => rw [c] at this; exact ⟨rfl, this⟩
      simp only [SV.anyV.go, h1 fun j h3 h4 => (g j h3 h4).1, cond_false]
      exact h2 fun j h3 h4 => (g j h3 h4).2
  have hfa : frAny φ fr = false := by
    have : ∀ l : Fr, (∀ j, hasK j nk = true → hasK j ks = false → frAny (V.uses j) l = false) → frAny φ l = false := fun l => by
      induction l with
      | nil => intro _; rfl
      | cons x r ih =>
        intro h
        have g : ∀ j, hasK j nk = true → hasK j ks = false → x.2.anyV (V.uses j) = false ∧ frAny (V.uses j) r = false := fun j h3 h4 => by
          have := h j h3 h4
          simp only [frAny] at this
          cases c : x.2.anyV (V.uses j) with
          | true => rw [c] at this; cases this
          | false => rw [c] at this; exact ⟨rfl, this⟩
        simp only [frAny, allS x.2 fun j h3 h4 => (g j h3 h4).1, cond_false]
        exact ih fun j h3 h4 => (g j h3 h4).2
    exact this fr fun j h1 h2 => (hfr j h1 h2).1
  have hga : gfAny φ gf = false := by
    have : ∀ l : GF, (∀ j, hasK j nk = true → hasK j ks = false → gfAny (V.uses j) l = false) → gfAny φ l = false := fun l => by
      induction l with
      | nil => intro _; rfl
      | cons x r ih =>
        intro h
        obtain ⟨t, d, w, x⟩ := x
        have g : ∀ j, hasK j nk = true → hasK j ks = false → x.anyV (V.uses j) = false ∧ gfAny (V.uses j) r = false := fun j h3 h4 => by
          have := h j h3 h4
          simp only [gfAny] at this
          cases c : x.anyV (V.uses j) with
          | true => rw [c] at this; cases this
          | false => rw [c] at this; exact ⟨rfl, this⟩
        simp only [gfAny, allS x fun j h3 h4 => (g j h3 h4).1, cond_false]
        exact ih fun j h3 h4 => (g j h3 h4).2
    exact this gf fun j h1 h2 => (hfr j h1 h2).2
  have beq (j : Nat) : Nat.beq j j = true := Nat.beq_refl j
  have uB : ∀ {x : V} {j : Nat}, x.usesB j = true → x.uses j = true := fun {x j} h => by unfold V.uses; rw [h]; rfl
  have uT : ∀ {x : V} {j : Nat}, x.usesT j = true → x.uses j = true := fun {x j} h => by unfold V.uses; rw [h]; cases x.usesB j <;> rfl
  have hb : ∀ {x : V} {j : Nat}, φ x = false → x.usesB j = true → (bif hasK j nk then B' j else B j) = B j := fun {x j} hx hj => by
    cases h3 : hasK j nk with
    | false => rfl
    | true => cases h4 : hasK j ks with
      | true => exact hB j h4
      | false => have := outx hx j h3 h4; rw [uB hj] at this; cases this
  have f1 : Fits E.P (fun k => bif hasK k nk then B' k else B k) (Zf E.r fun k => bif (hasK k nk && !hasK k ks) then H' k else H k) E.N fr gf a := Fits.keep f hfa hga (PH.le_refl _) fun x y hx e => by
    have hz : ∀ q : Tg, (∀ j, q = .k j → x.usesT j = true) → Zf E.r (fun k => bif (hasK k nk && !hasK k ks) then H' k else H k) q = Zf E.r H q := fun q hq => by
      cases q with
      | k j =>
        show (bif (hasK j nk && !hasK j ks) then H' j else H j) = H j
        cases h3 : hasK j nk with
        | false => rfl
        | true => cases h4 : hasK j ks with
          | true => rfl
          | false => have := outx hx j h3 h4; rw [uT (hq j rfl)] at this; cases this
      | _ => rfl
    cases x with
    | g j => exact ⟨by dsimp only; rw [hb hx (beq j)]; exact e.1, e.2⟩
    | p j o' => exact ⟨by dsimp only; rw [hb hx (beq j)]; exact e.1, e.2⟩
    | pe j sz i o' => exact ⟨by dsimp only; rw [hb hx (beq j)]; exact e.1, e.2⟩
    | sb j sz lo hi => exact ⟨by dsimp only; rw [hb hx (beq j)]; exact e.1, e.2⟩
    | gl j n c => exact ⟨by dsimp only; rw [hb hx (beq j)]; exact e.1, e.2⟩
    | s q sz n f => show D.rd (Zf E.r _ q) _ _; rw [hz q fun j hj => by subst hj; exact beq j]; exact e
    | rp q l o => show ∃ b x vs, _ = _ ∧ D.rds (Zf E.r _ q) l vs ∧ _; rw [hz q fun j hj => by subst hj; exact beq j]; exact e
    | _ => exact e
  have key : ∀ (x : V) (y : Value), V.usesTs ko x = false → x.rel (fun k => bif hasK k nk then B' k else B k) (Zf E.r fun k => bif (hasK k nk && !hasK k ks) then H' k else H k) y → x.rel (fun k => bif hasK k nk then B' k else B k) (Zf E.r fun k => bif hasK k nk then H' k else bif hasK k ko then PH.emp else H k) y := fun x y hx e => by
    have hz : ∀ q : Tg, (∀ j, q = .k j → hasK j ko = false) → Zf E.r (fun k => bif hasK k nk then H' k else bif hasK k ko then PH.emp else H k) q = Zf E.r (fun k => bif (hasK k nk && !hasK k ks) then H' k else H k) q := fun q hq => by
      cases q with
      | k j =>
        show (bif hasK j nk then H' j else bif hasK j ko then PH.emp else H j) = (bif (hasK j nk && !hasK j ks) then H' j else H j)
        have h1 := hq j rfl
        cases h3 : hasK j nk with
        | false => rw [h1]; rfl
        | true => cases h4 : hasK j ks with
          | false => rfl
          | true => have := hnko j h3 h4; rw [h1] at this; cases this
      | _ => rfl
    cases x with
    | s q sz n f => show D.rd (Zf E.r _ q) _ _; rw [hz q fun j hj => by subst hj; exact hx]; exact e
    | rp q l o => show ∃ b x vs, _ = _ ∧ D.rds (Zf E.r _ q) l vs ∧ _; rw [hz q fun j hj => by subst hj; exact hx]; exact e
    | _ => exact e
  cases ko with
  | nil =>
    simp only [cutKs, Option.some.injEq, Prod.mk.injEq] at hcut
    obtain ⟨rfl, rfl⟩ := hcut
    have nofr : ∀ x : V, V.usesTs [] x = false := fun x => by
      cases x with
      | s q _ _ _ => cases q <;> rfl
      | rp q _ _ => cases q <;> rfl
      | _ => rfl
    have nL : ∀ l : List V, anyL (V.usesTs []) l = false := fun l => by
      induction l with
      | nil => rfl
      | cons x r ih => simp only [anyL, nofr x, cond_false, ih]
    have nS : ∀ x : SV, x.anyV (V.usesTs []) = false := fun x => by
      refine SV.rec (motive_1 := fun x => x.anyV (V.usesTs []) = false) (motive_2 := fun l => SV.anyV.go (V.usesTs []) l = false) ?_ ?_ ?_ ?_ ?_ ?_ ?_ ?_ x
      · exact fun x => nofr x
      · exact fun l => nL l
      · exact fun f l => nL l
      · exact fun _ => rfl
      · exact fun l ih => ih
      · rfl
      · rfl
      · intro x l h1 h2
        simp only [SV.anyV.go, h1, cond_false]; exact h2
    have nF : ∀ l : Fr, frAny (V.usesTs []) l = false := fun l => by
      induction l with
      | nil => rfl
      | cons x r ih => simp only [frAny, nS x.2, cond_false, ih]
    have nG : ∀ l : GF, gfAny (V.usesTs []) l = false := fun l => by
      induction l with
      | nil => rfl
      | cons x r ih => obtain ⟨t, d, w, x⟩ := x; simp only [gfAny, nS x, cond_false, ih]
    exact Fits.keep f1 (nF _) (nG _) (PH.le_refl _) key
  | cons k0 ko =>
    simp only [cutKs] at hcut
    split at hcut
    · rename_i fr2 gf2 h1 h2
      simp only [Option.some.injEq, Prod.mk.injEq] at hcut
      obtain ⟨rfl, rfl⟩ := hcut
      exact Fits.cut f1 h1 h2 (PH.le_refl _) key
    · cases hcut
def subB (l m : List Nat) : Bool := match l with
  | [] => true
  | k :: r => bif hasK k m then subB r m else false
theorem subB_get : ∀ {l m : List Nat}, subB l m = true → ∀ k, hasK k l = true → hasK k m = true
  | [], _, _, _, h => by cases h
  | j :: r, m, h, k, e => by
    simp only [subB] at h
    cases c : hasK j m with
    | false => rw [c] at h; cases h
    | true =>
      rw [c] at h
      rcases (hasK_cons k j r).1 e with h1 | h1
      · subst h1; exact c
      · exact subB_get h k h1
def backB (ko ks : List Nat) : List Nat → Bool
  | [] => true
  | k :: r => bif hasK k ks then bif hasK k ko then backB ko ks r else false else backB ko ks r
theorem backB_get {ko ks : List Nat} : ∀ {l : List Nat}, backB ko ks l = true → ∀ k, hasK k l = true → hasK k ks = true → hasK k ko = true
  | [], _, _, h, _ => by cases h
  | j :: r, h, k, e, n => by
    simp only [backB] at h
    rcases (hasK_cons k j r).1 e with h1 | h1
    · subst h1
      rw [n] at h
      cases c : hasK j ko with
      | true => rfl
      | false => rw [c] at h; cases h
    · refine backB_get ?_ k h1 n
      cases c : hasK j ks with
      | false => rw [c] at h; exact h
      | true =>
        rw [c] at h
        cases c2 : hasK j ko with
        | false => rw [c2] at h; cases h
        | true => rw [c2] at h; exact h
def keysB (ks nk : List Nat) (mu1 : Mu) (fr : Fr) (gf : GF) (mu : Mu) (aks gks : List Nat) : Bool :=
  roB (keysO mu1) mu1 && subB (keysO mu1) ks && freshB ks fr gf mu aks nk && backB (keysO mu1) ks nk && apartB gks nk && apartB gks (keysO mu1)
structure Ret1 {ι : Type} (P : Program) (ks : List Nat) (B : BE) (s : PH) (mu1 : Mu) (w : World) (H1 : Nat → PH) (φ : ι → Prop) (res : ι → SV) (mu1' : ι → Mu) (y : ι) (v : Value) (w' : World) (B' : BE) (H' : Nat → PH) : Prop where
  ok : φ y
  rel : SV.rel P B' (Zf s H') (res y) v
  mm : Mm B' s (mu1' y) w' H'
  same : ∀ k, hasK k ks = true → B' k = B k
  keep : Keep (ownD mu1 H1) w w'
  dom : ∀ k b o, H' k b o ≠ none → ownD mu1 H1 b o ∨ w.heap.size ≤ b
theorem back_J {ι : Type} {ks nk : List Nat} {mu1 : Mu} {φ : ι → Prop} {res : ι → SV} {mu1' : ι → Mu} {t : Nat} {md : Mu} (hgd' : gdrop t gf = some gf') (ht : t < E.N) (f : FitsE E B H fr gf a) (m : Mem E B mu w H) (gg : G.ok B H)
    (hnk : ∀ y, keysOf (mu1' y) = nk) (hkeys : keysB ks nk mu1 fr gf mu E.A.ks G.ks = true) (hout : ∀ y, ((res y).inK (appK ks nk) && muIn (appK ks nk) (mu1' y)) = true)
    (hmd : mdropKs (appK (keysO mu1) nk) mu = some md) {fr' : Fr} {gf2 : GF} (hcut : cutKs (keysO mu1) fr gf' = some (fr', gf2))
    (k : ∀ y, φ y → SJ G J E ((t, res y) :: fr') gf2 (appM (mu1' y) md)) {y : ι} {v : Value} {w' : World} {B' : BE} {H' : Nat → PH} (C : Ret1 E.P ks B (AllP E.r (keysO mu1) H) mu1 w (onlyK (keysO mu1) H) φ res mu1' y v w' B' H') : J (a.put (some t) v) w' := by
  simp only [keysB, Bool.and_eq_true] at hkeys
  obtain ⟨⟨⟨⟨⟨k1, k2⟩, k3⟩, k4⟩, k5⟩, k6⟩ := hkeys
  obtain ⟨c1, c3, c4, c5, c6, c7⟩ := C
  have hout' := hout y
  simp only [Bool.and_eq_true] at hout'
  have hfr : ∀ k, hasK k nk = true → hasK k ks = false → unnamed k fr gf mu E.A.ks = true := fun k h1 h2 => freshB_get k3 k h1 h2
  have hm2 := m.back (mu1' := mu1' y) (mu2 := appM (mu1' y) md) (subB_get k2) (hnk y) hout'.2 (fun k h1 h2 => ⟨(unnamed_spec (hfr k h1 h2)).2.2.1, (unnamed_spec (hfr k h1 h2)).2.2.2⟩) hmd rfl c4 c5 c6 c7
  have hf0 : FitsE E B H fr gf' a := by
    refine ⟨f.size, f.defers, fun t' x e1 e2 => ?_, fun t' d w x e1 e2 => f.vgf t' d w x (gdrop_mem hgd' e1).1 e2, fun t' d w x e1 e2 => f.vgu t' d w x (gdrop_mem hgd' e1).1 e2, fun t' d w x e1 => f.vno t' d w x (gdrop_mem hgd' e1).1⟩
    refine f.vfr t' x e1 ?_
    cases c : glk t' gf with
    | none => rfl
    | some q => rw [f.vno t' q.1 q.2.1 q.2.2 (glk_mem c)] at e1; cases e1
  have hgf' : ∀ k, gfAny (V.uses k) gf = false → gfAny (V.uses k) gf' = false := fun k h => by
    have : ∀ {l l' : GF}, gdrop t l = some l' → gfAny (V.uses k) l = false → gfAny (V.uses k) l' = false := fun {l} => by
      induction l with
      | nil => intro l' h1 _; simp [gdrop] at h1; subst h1; rfl
      | cons x r ih =>
        intro l' h1 h2
        obtain ⟨j, d, w, x⟩ := x
        simp only [gdrop] at h1
        simp only [gfAny] at h2
        cases c : gdrop t r with
        | none => rw [c] at h1; cases h1
        | some r' =>
          rw [c] at h1
          simp only at h1
          cases c2 : x.anyV (V.uses k) with
          | true => rw [c2] at h2; cases h2
          | false =>
            rw [c2] at h2
            cases c3 : (Nat.beq j t || Nat.beq d t) with
            | true => rw [c3] at h1; simp at h1; subst h1; exact ih c h2
            | false => rw [c3] at h1; simp at h1; subst h1; simp only [gfAny, c2, cond_false]; exact ih c h2
    exact this hgd' h
  have hf2 := FitsE.back (H' := H') hf0 (subB_get k2) c5 (fun k h1 h2 => ⟨(unnamed_spec (hfr k h1 h2)).1, hgf' k (unnamed_spec (hfr k h1 h2)).2.1⟩) (backB_get k4) hcut
  have hB2 : ∀ k, hasK k (appK ks nk) = true → (bif hasK k nk then B' k else B k) = B' k := fun k hk => by
    cases h : hasK k nk with
    | true => rfl
    | false =>
      rcases hasK_app.1 hk with h1 | h1
      · exact (c5 k h1).symm
      · rw [h] at h1; cases h1
  have hgd2 : ∃ l, gdrop t gf2 = some l := by
    have : ∀ l : GF, ∃ l', gdrop t l = some l' := fun l => by
      induction l with
      | nil => exact ⟨_, rfl⟩
      | cons x r ih =>
        obtain ⟨j, d, w, x⟩ := x
        obtain ⟨l', h⟩ := ih
        simp only [gdrop, h]
        cases (Nat.beq j t || Nat.beq d t) <;> exact ⟨_, rfl⟩
    exact this gf2
  have hgd3 : gdrop t gf2 = some gf2 := by
    have nomem : ∀ {l : GF}, (∀ e ∈ l, e.1 ≠ t ∧ e.2.1 ≠ t) → gdrop t l = some l := fun {l} => by
      induction l with
      | nil => intro _; rfl
      | cons x r ih =>
        intro h
        obtain ⟨j, d, w, x⟩ := x
        have h0 := h _ List.mem_cons_self
        simp only [gdrop, ih fun e he => h e (List.mem_cons_of_mem _ he)]
        have e1 : Nat.beq j t = false := by
          cases c : Nat.beq j t with
          | false => rfl
          | true => exact absurd (Nat.eq_of_beq_eq_true c) h0.1
        have e2 : Nat.beq d t = false := by
          cases c : Nat.beq d t with
          | false => rfl
          | true => exact absurd (Nat.eq_of_beq_eq_true c) h0.2
        simp [e1, e2]
    refine nomem fun e he => ?_
    have hg0 : ∀ e ∈ gf', e.1 ≠ t ∧ e.2.1 ≠ t := fun e he => (gdrop_mem hgd' he).2
    cases hko : keysO mu1 with
    | nil =>
      rw [hko] at hcut
      simp only [cutKs, Option.some.injEq, Prod.mk.injEq] at hcut
      rw [← hcut.2] at he
      exact hg0 e he
    | cons k0 ko =>
      rw [hko] at hcut
      simp only [cutKs] at hcut
      split at hcut
      · rename_i fr3 gf3 h1 h2
        simp only [Option.some.injEq, Prod.mk.injEq] at hcut
        rw [← hcut.2] at he
        obtain ⟨j, d, w, x⟩ := e
        obtain ⟨y, h3, _⟩ := gfCut_mem h2 j d w x he
        have h4 := hg0 (j, d, w, y) h3
        exact h4
      · cases hcut
  refine k y c1 _ _ w' _ (Fits.put hf2 ht (SV.inK_rel (fun k hk => hB2 k hk) (res y) hout'.1 c3) hgd3) hm2 fun j hj => ?_
  have h1 : hasK j nk = false := by
    cases c : hasK j nk with
    | false => rfl
    | true => have := apartB_get k5 j c; rw [hj] at this; cases this
  have h2 : hasK j (keysO mu1) = false := by
    cases c : hasK j (keysO mu1) with
    | false => rfl
    | true => have := apartB_get k6 j c; rw [hj] at this; cases this
  simp only [h1, h2, cond_false]
  exact gg j hj
theorem resS_inK {ks : List Nat} : ∀ {l : List SV}, SV.inKL ks l = true → (resS l).inK ks = true
  | [], _ => rfl
  | [x], h => by
    simp only [SV.inKL] at h
    cases c : x.inK ks with
    | true => exact c
    | false => rw [c] at h; cases h
  | _ :: _ :: _, h => h
theorem OJ_C {ι : Type} {f : Nat} {ks nk : List Nat} {args : List SV} {mu1 : Mu} {φ : ι → Prop} {res : ι → List SV} {mu1' : ι → Mu} (C : Con E.P f ks args mu1 φ res mu1') {svs args' : List SV} {g : Option (Nat × Nat × Bool)} {t : Nat} {q : Ob} {es : List Prop} {gs : List GO} {md : Mu}
    (hc : callC E.N all fr gf o = some (f, svs, g, t, gf')) (hg : litG fr gf g) (hen : Enters E.P f)
    (hw : wkSL mu (keysO mu1) ks svs = some (args', q)) (ha : SVs.imp E.P args' args) (hs : splitO fr gf [] q [] [] = some (es, gs)) (he : PAlls es) (ho : GAlls gs) (hin : WkIn mu mu1)
    (hnk : ∀ y, keysOf (mu1' y) = nk) (hkeys : keysB ks nk mu1 fr gf mu E.A.ks G.ks = true) (hout : ∀ y, (SV.inKL (appK ks nk) (res y) && muIn (appK ks nk) (mu1' y)) = true)
    (hmd : mdropKs (appK (keysO mu1) nk) mu = some md) {fr' : Fr} {gf2 : GF} (hcut : cutKs (keysO mu1) fr gf' = some (fr', gf2))
    (k : ∀ y, φ y → SJ G J E ((t, resS (res y)) :: fr') gf2 (appM (mu1' y) md)) : OJ G E all Q J o fr gf mu := fun B a w H f m gg => by
  have hk2 := hkeys
  simp only [keysB, Bool.and_eq_true] at hk2
  have k1 := hk2.1.1.1.1.1
  have main : ∀ {gd : Gd}, (∀ d w, (d, w) ∈ gd → a.tmps.getD d undef = .bool w) → callsOf gd fr gf o.op = some (_, svs) → o.dst = some t → t < E.N → gdrop t gf = some gf' → Region.wanted o (yielded all.toArray a.tmps) = true → One E.P all.toArray Q o J a w := fun {gd} hgd hcall hd ht hgd' hwant => by
    obtain ⟨vals, r1, r2⟩ := callsOf_run (w := w) f hgd hcall hen
    have hh := m.mm.hand k1 hin
    have W : Wk B E.r mu H (keysO mu1) (AllP E.r (keysO mu1) H) := ⟨m.mm.sat, AllP_r, fun k c _ h => AllP_le m.mm h⟩
    have hvals := SVs.imp_ok ha (wkSL_ok (Z := Zf (AllP E.r (keysO mu1) H) (onlyK (keysO mu1) H)) W rfl hw (splitO_ok f (fun _ _ hm => by cases hm) hs he ho) r2)
    refine one_call hwant r1 ((C B _ w _ vals hh (fun k hk => by unfold onlyK; rw [hk]; rfl) hvals).mono fun e w' ⟨y, B', H', out, c1, c2, c3, c4, c5, c6, c7⟩ => ⟨resV out, c2, ?_⟩)
    rw [hd]
    exact back_J hgd' ht f m gg hnk hkeys (fun y => by
      have := hout y
      simp only [Bool.and_eq_true] at this ⊢
      exact ⟨resS_inK this.1, this.2⟩) hmd hcut k ⟨c1, resS_rel c3, c4, c5, c6, c7⟩
  match g, hc, hg with
  | none, hc, _ =>
    obtain ⟨h1, h2, h3, h4, h5⟩ := callC_none hc
    exact main (gd := []) (fun _ _ hm => by cases hm) h4 h2 (by simpa [Nat.blt_eq] using h3) h5 (wanted_none h1)
  | some (j, d, b), hc, hg =>
    obtain ⟨h1, h2, h3, h4, h5, h6, h7⟩ := callC_some hc
    simp only [Bool.and_eq_true, Bool.not_eq_true'] at h4
    have hb : a.tmps.getD d undef = .bool b := f.vfr d _ hg.2 hg.1
    exact main (acts_ok f 6 d b hb) h6 h3 (by simpa [Nat.blt_eq] using h4.1) h7 ((wanted_some h1 (gslot_ops h2)).2 hb)
end
end
end Go.Proofs.YthpjoddhlkcciaaGreat
namespace Go.Proofs.YthpjoddhlkcciaaGreat
open Go Go.RowKit
set_option linter.unusedVariables false
set_option linter.unusedSimpArgs false
section
abbrev Ans (P : Program) (f : Nat) (ks : List Nat) (args : List SV) (mu : Mu) (res : SV) : Prop := Con P f ks args mu (fun _ : Unit => True) (fun _ => [res]) fun _ => []
theorem Keep.none {D : Nat → Nat → Prop} {w w' : World} (h : Keep D w w') (n : ∀ b o, ¬ D b o) : Below w.heap.size w w' := (h.mono fun b _ o hd => (n b o hd).elim : Keep noD w w').below
section
variable {E : Env} {B : BE} {mu mu' : Mu} {w : World} {H : Nat → PH} {TT : List TI} {fr fr' : Fr} {gf gf' : GF} {a : Act} {all rest : List Oper} {Q : Exit → Act → World → Prop} {o : Oper} {J : Act → World → Prop} {G : AG} {R : Exit → Act → World → Prop} {K : List KF}
theorem Con.ask {P : Program} {f : Nat} {ks : List Nat} {args : List SV} {mu1 : Mu} {res : SV} (C : Ans P f ks args mu1 res) (hko : keysO mu1 = []) (hres : res.inK ks = true) {B : BE} {s : PH} {w : World} {vals : List Value} (hf : Fit s w) (hs : ∀ k c, mlk k mu1 = some c → c.sat B s PH.emp k) (ha : SV.rels P B (Zf s fun _ => PH.emp) args vals) :
    Calls P f vals.toArray w fun e w' => ∃ v, e = .returned v ∧ (∀ Z, SV.rel P B Z res v) ∧ Below w.heap.size w w' := by
  refine (C B s w (fun _ => PH.emp) vals ⟨hs, fun _ => FitO.emp w, fun _ _ _ => PH.emp_dj _, fun _ => PH.emp_dj _, hf⟩ (fun _ _ => rfl) ha).mono ?_
  rintro e w' ⟨y, B', H', out, _, h2, h3, _, h5, h6, _⟩
  obtain ⟨v, t, rfl, h7, h8⟩ := h3
  have h8 : t = [] := h8
  subst h8
  exact ⟨v, h2, fun Z => SV.inK_rel (fun k hk => (h5 k hk).symm) res hres h7, Keep.none h6 fun b o ⟨k, h, _⟩ => by rw [hko] at h; cases h⟩
noncomputable def ReadP (r : PH) (mu : Mu) (H : Nat → PH) : PH := fun b o => match r b o with
  | some v => some v
  | none => open Classical in if h : ∃ v k, (∃ c, mlk k mu = some c) ∧ H k b o = some v then some h.choose else none
theorem ReadP_fit {r : PH} (m : Mr B r mu w H) : Fit (ReadP r mu H) w := fun b o v e => by
  unfold ReadP at e
  cases hr : r b o with
  | some u => rw [hr] at e; injection e with e; subst e; exact m.fitr b o _ hr
  | none =>
    rw [hr] at e
    simp only at e
    split at e
    · rename_i h
      injection e with e
      obtain ⟨k, ⟨c, hc⟩, hk⟩ := h.choose_spec
      rw [e] at hk
      exact m.fit k c hc b o v hk
    · cases e
theorem ReadP_le {r : PH} (m : Mr B r mu w H) {k : Nat} {c : Ch} (hc : mlk k mu = some c) : (H k).le (ReadP r mu H) := fun b o v e => by
  have hr : r b o = none := (m.djr k b o).resolve_left (by rw [e]; simp)
  have h : ∃ v k, (∃ c, mlk k mu = some c) ∧ H k b o = some v := ⟨v, k, ⟨c, hc⟩, e⟩
  unfold ReadP
  rw [hr]
  simp only
  rw [dif_pos h]
  obtain ⟨k', _, hk⟩ := h.choose_spec
  by_cases hkk : k' = k
  · subst hkk; rw [e] at hk; injection hk with hk; rw [hk]
  · rcases m.dj k' k hkk b o with h1 | h1
    · rw [h1] at hk; cases hk
    · rw [h1] at e; cases e
theorem ReadP_r {r : PH} : r.le (ReadP r mu H) := fun b o v e => by
  unfold ReadP
  rw [e]
theorem Mr.hand {r : PH} (m : Mr B r mu w H) : ∀ {mu1 : Mu}, keysO mu1 = [] → WkIn mu mu1 → ∀ k c, mlk k mu1 = some c → c.sat B (ReadP r mu H) PH.emp k
  | [], _, _, k, c, h => by cases h
  | (j, d) :: l, ho, hin, k, c, h => by
    rw [mlk_cons] at h
    have hd : d.own? = false ∧ keysO l = [] := by
      simp only [keysO] at ho
      cases e : d.own? with
      | true => rw [e] at ho; cases ho
      | false => rw [e] at ho; exact ⟨rfl, ho⟩
    by_cases hj : j = k
    · rw [if_pos hj] at h
      injection h with h; subst h; subst hj
      obtain ⟨⟨c0, h1, h2⟩, _⟩ := hin
      have hs := m.sat j c0 h1
      cases d with
      | ro sz n f => exact h2 _ _ _ _ _ hs ReadP_r (ReadP_le m h1)
      | rrow l => exact h2 _ _ _ _ _ hs ReadP_r (ReadP_le m h1)
      | _ => cases hd.1
    · rw [if_neg hj] at h
      exact m.hand hd.2 hin.2 k c h
theorem ans_run {P : Program} {r : PH} {f : Nat} {ks : List Nat} {args : List SV} {mu1 : Mu} {res : SV} (C : Ans P f ks args mu1 res) (hko : keysO mu1 = []) (hres : res.inK ks = true) (m : Mr B r mu w H) {svs args' : List SV} {q : Ob} (hw : wkSL mu [] ks svs = some (args', q)) (ha : SVs.imp P args' args) (hq : Alls q) (hin : WkIn mu mu1) {vals : List Value} (hv : SV.rels P B (Zf r H) svs vals) :
    Calls P f vals.toArray w fun e w' => ∃ v, e = .returned v ∧ (∀ Z, SV.rel P B Z res v) ∧ Below w.heap.size w w' := by
  have W : Wk B r mu H [] (ReadP r mu H) := ⟨m.sat, ReadP_r, fun k c hc _ => ReadP_le m hc⟩
  exact C.ask hko hres (ReadP_fit m) (m.hand hko hin) (SVs.imp_ok ha (wkSL_ok (Z := Zf (ReadP r mu H) fun _ => PH.emp) W rfl hw hq hv))
theorem OJ_Q {f : Nat} {ks : List Nat} {args : List SV} {mu1 : Mu} {res : SV} (C : Ans E.P f ks args mu1 res) {svs args' : List SV} {g : Option (Nat × Nat × Bool)} {t : Nat} {q : Ob} {gd : Gd} {es : List Prop} {gs : List GO}
    (hc : callC E.N all fr gf o = some (f, svs, g, t, gf')) (hgd : gd = match g with | none => [] | some (_, d, b) => acts 6 gf d b) (hen : Enters E.P f) (hko : keysO mu1 = []) (hres : res.inK ks = true)
    (hw : wkSL mu [] ks svs = some (args', q)) (ha : SVs.imp E.P args' args) (hs : splitO fr gf gd q [] [] = some (es, gs)) (he : PAlls es) (ho : GAlls gs) (hin : WkIn mu mu1)
    (k : SJ G J E (frQ fr g t res) (gfQ gf' g t res) mu) : OJ G E all Q J o fr gf mu := fun B a w H f m gg => by
  match g, hc, hgd with
  | none, hc, hgd =>
    subst hgd
    obtain ⟨h1, h2, h3, h4, h5⟩ := callC_none hc
    obtain ⟨vals, r1, r2⟩ := callsOf_run (w := w) f (fun _ _ hm => by cases hm) h4 hen
    refine one_call (wanted_none h1) r1 ((ans_run C hko hres m.mr hw ha (splitO_ok f (fun _ _ hm => by cases hm) hs he ho) hin r2).mono fun e w' ⟨v, c1, c2, c3⟩ => ⟨v, c1, ?_⟩)
    rw [h2]
    exact k B _ w' H (Fits.put f (by simpa [Nat.blt_eq] using h3) (c2 _) h5) (m.below c3) gg
  | some (j, d, b), hc, hgd =>
    subst hgd
    obtain ⟨h1, h2, h3, h4, h5, h6, h7⟩ := callC_some hc
    simp only [Bool.and_eq_true, Bool.not_eq_true'] at h4
    have htd : t ≠ d := Nat.ne_of_beq_eq_false h4.2
    have htN : t < E.N := by simpa [Nat.blt_eq] using h4.1
    have hwt := wanted_some (ops := all.toArray) (a := a) h1 (gslot_ops h2)
    by_cases hyes : a.tmps.getD d undef = .bool b
    · have hacts := acts_ok f 6 d b hyes
      obtain ⟨vals, r1, r2⟩ := callsOf_run (w := w) f hacts h6 hen
      refine one_call (hwt.2 hyes) r1 ((ans_run C hko hres m.mr hw ha (splitO_ok f hacts hs he ho) hin r2).mono fun e w' ⟨v, c1, c2, c3⟩ => ⟨v, c1, ?_⟩)
      rw [h3]
      exact k B _ w' H (Fits.putG f htN htd h5 h7 (.inl ⟨hyes, c2 _⟩)) (m.below c3) gg
    · refine one_off (by
        cases e : Region.wanted o (yielded all.toArray a.tmps) with
        | false => rfl
        | true => exact absurd (hwt.1 e) hyes) ?_
      rw [h3]
      exact k B _ w H (Fits.putG f htN htd h5 h7 (.inr ⟨hyes, rfl⟩)) m gg
theorem RJ_Q (hT : TOk E.P TT) {f : Nat} {ks : List Nat} {args : List SV} {mu1 : Mu} {res : SV} (C : Ans E.P f ks args mu1 res) {svs args' : List SV} {g : Option (Nat × Nat × Bool)} {t : Nat} {q : Ob} {es0 : List Prop} {gs0 : List GO} {js : JS} {es : List Prop} {gs : List GO}
    (hc : callC E.N all fr gf o = some (f, svs, g, t, gf')) (hw : wkSL mu [] ks svs = some (args', q)) (ha : args' = args) (hs : splitO fr gf (match g with | none => [] | some (_, d, b) => acts 6 gf d b) q [] [] = some (es0, gs0))
    (hau : goR TT E.N E.A.ks (auto TT E.N E.A.ks 400) all rest (frQ fr g t res) (gfQ gf' g t res) mu K es0 gs0 = some (js, es, gs)) (k : js.ok E R)
    (hko : keysO mu1 = [] := by exact rfl) (hres : res.inK ks = true := by exact rfl) (hin : WkIn mu mu1 := by repeat (first | exact trivial | refine And.intro ⟨_, rfl, ro_arr⟩ ?_ | refine And.intro ⟨_, rfl, ro_ro⟩ ?_ | refine And.intro ⟨_, rfl, ro_row⟩ ?_ | refine And.intro ⟨_, rfl, Ch.imp_refl _⟩ ?_)) (hen : Enters E.P f := by exact enters_B (by kernel_rfl)) (he : PAlls es := by repeat (first | exact trivial | refine And.intro rfl ?_)) (ho : GAlls gs := by first | exact trivial | ((simp only [GAlls, GO.p, InR]; (repeat' (first | exact trivial | refine And.intro ?_ ?_ | refine fun _ => ?_)) <;> first | omega | (simp only [decide_eq_true_eq, decide_eq_false_iff_not, Int.toNat_natCast] at *; omega) | (simp at *; omega)))) :
    RJ E all (KQ E.P R K) (o :: rest) fr gf mu := by
  obtain ⟨h1, h2⟩ := goR_ok hT (auto_ok hT 400) hau ⟨he, ho⟩
  subst ha
  exact RJ_of (OJ_Q C hc rfl hen hko hres hw (SVs.imp_refl _) hs h1.1 h1.2 hin (SJ_of (h2 k)))
theorem RJ_QO (hT : TOk E.P TT) {f : Nat} {ks : List Nat} {args : List SV} {mu1 : Mu} {res : SV} (C : Ans E.P f ks args mu1 res) {svs args' : List SV} {g : Option (Nat × Nat × Bool)} {t : Nat} {q : Ob} {es0 : List Prop} {gs0 : List GO} {js : JS} {es : List Prop} {gs : List GO}
    (hc : callC E.N all fr gf o = some (f, svs, g, t, gf')) (hw : wkSL mu [] ks svs = some (args', q)) (ha : SVs.imp E.P args' args) (hs : splitO fr gf (match g with | none => [] | some (_, d, b) => acts 6 gf d b) q [] [] = some (es0, gs0))
    (hau : goR TT E.N E.A.ks (auto TT E.N E.A.ks 400) all rest (frQ fr g t res) (gfQ gf' g t res) mu K es0 gs0 = some (js, es, gs)) (ho : GAlls gs) (k : js.ok E R)
    (hko : keysO mu1 = [] := by exact rfl) (hres : res.inK ks = true := by exact rfl) (hin : WkIn mu mu1 := by repeat (first | exact trivial | refine And.intro ⟨_, rfl, ro_arr⟩ ?_ | refine And.intro ⟨_, rfl, ro_ro⟩ ?_ | refine And.intro ⟨_, rfl, ro_row⟩ ?_ | refine And.intro ⟨_, rfl, Ch.imp_refl _⟩ ?_)) (hen : Enters E.P f := by exact enters_B (by kernel_rfl)) (he : PAlls es := by repeat (first | exact trivial | refine And.intro rfl ?_)) :
    RJ E all (KQ E.P R K) (o :: rest) fr gf mu := by
  obtain ⟨h1, h2⟩ := goR_ok hT (auto_ok hT 400) hau ⟨he, ho⟩
  exact RJ_of (OJ_Q C hc rfl hen hko hres hw ha hs h1.1 h1.2 hin (SJ_of (h2 k)))
theorem RJ_C (hT : TOk E.P TT) {ι : Type} {f : Nat} {ks nk : List Nat} {args : List SV} {mu1 : Mu} {φ : ι → Prop} {res : ι → List SV} {mu1' : ι → Mu} (C : Con E.P f ks args mu1 φ res mu1') {svs args' : List SV} {g : Option (Nat × Nat × Bool)} {t : Nat} {q : Ob} {es : List Prop} {gs : List GO} {md : Mu}
    (hc : callC E.N all fr gf o = some (f, svs, g, t, gf')) (hw : wkSL mu (keysO mu1) ks svs = some (args', q)) (ha : SVs.imp E.P args' args) (hnk : ∀ y, keysOf (mu1' y) = nk) (hs : splitO fr gf [] q [] [] = some (es, gs)) (hmd : mdropKs (appK (keysO mu1) nk) mu = some md) {fr' : Fr} {gf2 : GF} (hcut : cutKs (keysO mu1) fr gf' = some (fr', gf2))
    (k : ∀ y, φ y → RJ E all (KQ E.P R K) rest ((t, resS (res y)) :: fr') gf2 (appM (mu1' y) md))
    (hin : WkIn mu mu1 := by repeat (first | exact trivial | refine And.intro ⟨_, rfl, ro_arr⟩ ?_ | refine And.intro ⟨_, rfl, ro_ro⟩ ?_ | refine And.intro ⟨_, rfl, ro_row⟩ ?_ | refine And.intro ⟨_, rfl, Ch.imp_refl _⟩ ?_)) (hg : litG fr gf g := by first | exact trivial | exact ⟨rfl, rfl⟩) (hkeys : keysB ks nk mu1 fr gf mu E.A.ks [] = true := by exact rfl) (hout : ∀ y, (SV.inKL (appK ks nk) (res y) && muIn (appK ks nk) (mu1' y)) = true := by exact fun _ => rfl) (hen : Enters E.P f := by exact enters_B (by kernel_rfl)) (he : PAlls es := by repeat (first | exact trivial | refine And.intro rfl ?_)) (ho : GAlls gs := by first | exact trivial | ((simp only [GAlls, GO.p, InR]; (repeat' (first | exact trivial | refine And.intro ?_ ?_ | refine fun _ => ?_)) <;> first | omega | (simp only [decide_eq_true_eq, decide_eq_false_iff_not, Int.toNat_natCast] at *; omega) | (simp at *; omega)))) :
    RJ E all (KQ E.P R K) (o :: rest) fr gf mu :=
  RJ_of (OJ_C (G := AG.nil) C hc hg hen hw ha hs he ho hin hnk hkeys hout hmd hcut fun y hy => SJ_of (k y hy))
end
end
section
def View (E : Env) (fr : Fr) (gf : GF) (mu : Mu) (fr' : Fr) (gf' : GF) (mu' : Mu) : Prop :=
  ∀ B w H a, FitsE E B H fr gf a → Mem E B mu w H → ∃ B' H', FitsE E B' H' fr' gf' a ∧ Mem E B' mu' w H'
def PH.sub (h p : PH) : PH := fun b o => match p b o with
  | some _ => none
  | none => h b o
theorem PH.sub_le (h p : PH) : (h.sub p).le h := fun b o v e => by
  unfold PH.sub at e
  split at e
  · cases e
  · exact e
theorem PH.sub_mono {h k : PH} (l : h.le k) (p : PH) : (h.sub p).le (k.sub p) := fun b o v e => by
  unfold PH.sub at e ⊢
  cases c : p b o with
  | some u => rw [c] at e; cases e
  | none => rw [c] at e; exact l b o v e
theorem PH.sub_dj (h p : PH) : (h.sub p).dj p := fun b o => by
  unfold PH.sub
  cases p b o with
  | none => exact .inr rfl
  | some v => exact .inl rfl
theorem PH.le_sub {h p k : PH} (l : k.le h) (d : k.dj p) : k.le (h.sub p) := fun b o v e => by
  unfold PH.sub
  rcases d b o with h1 | h1
  · rw [h1] at e; cases e
  · rw [h1]; exact l b o v e
section
variable {E : Env} {B : BE} {mu mu' : Mu} {w : World} {H : Nat → PH} {TT : List TI} {fr fr' : Fr} {gf gf' : GF} {a : Act} {all rest : List Oper} {Q : Exit → Act → World → Prop} {o : Oper} {J : Act → World → Prop} {G : AG} {R : Exit → Act → World → Prop} {K : List KF}
theorem T_view {c : Code} (v : View E fr [] mu fr' [] mu') (h : T E R c fr' mu' K) : T E R c fr mu K := fun B a w H f m => by
  obtain ⟨B', H', f', m'⟩ := v B w H a f m
  exact h B' a w H' f' m'
theorem RJ_view (v : View E fr gf mu fr' gf' mu') (h : RJ E all Q rest fr' gf' mu') : RJ E all Q rest fr gf mu := fun B a w H f m => by
  obtain ⟨B', H', f', m'⟩ := v B w H a f m
  exact h B' a w H' f' m'
theorem X_view {x : Nx} (v : View E fr [] mu fr' [] mu') (h : X E R x fr' mu') : X E R x fr mu := fun B a w H f m => by
  obtain ⟨B', H', f', m'⟩ := v B w H a f m
  exact h B' a w H' f' m'
def openR (k2 : Nat) : List V → Nat → Option (List V × Nat × Nat × (Nat → List D))
  | .s .o sz n f :: r, 0 => some (.g k2 :: r, sz, n, f)
  | x :: r, j + 1 => match openR k2 r j with
    | some (l, sz, n, f) => some (x :: l, sz, n, f)
    | none => none
  | _, _ => none
theorem openR_ok {r : PH} {k2 : Nat} : ∀ {l : List V} {j : Nat} {l' : List V} {sz n : Nat} {f : Nat → List D}, openR k2 l j = some (l', sz, n, f) → ∀ {h : PH} {vs : List Value}, V.owns B r h l vs →
    ∃ v p, p.le h ∧ D.own p (.sl sz n f) v ∧ (∀ B' : BE, (∀ i, anyL (V.usesB i) l = true → B' i = B i) → B' k2 = v → V.owns B' r (h.sub p) l' vs)
  | [], j, _, _, _, _, e, _, _, _ => by cases j <;> simp [openR] at e
  | x :: l, 0, l', sz, n, f, e, h, vs, o => by
    cases x with
    | s q sz' n' f' =>
      cases q with
      | o =>
        simp [openR] at e
        obtain ⟨rfl, rfl, rfl, rfl⟩ := e
        obtain ⟨v, t, h1, h2, rfl, e2, e3, e4, e5, e6⟩ := o
        rcases e5 with ⟨_, e5⟩ | ⟨e5, _⟩
        · refine ⟨v, h1, e2, e5, fun B' hB hk => ⟨v, t, PH.emp, h2, rfl, PH.emp_le _, PH.le_sub e3 (PH.dj_symm e4), PH.emp_dj _, ⟨hk.symm, ?_⟩, ?_⟩⟩
          · obtain ⟨A, c, rfl, _⟩ := e5; rfl
          · have : ∀ {l : List V} {t : List Value} {h : PH}, (∀ i, anyL (V.usesB i) l = true → B' i = B i) → V.owns B r h l t → V.owns B' r h l t := fun {l} => by
              induction l with
              | nil => intro t h _ e; exact e
              | cons x l ih =>
                rintro t h hB ⟨v, t', g1, g2, rfl, k2, k3, k4, k5, k6⟩
                refine ⟨v, t', g1, g2, rfl, k2, k3, k4, ?_, ih (fun i hi => hB i (by simp only [anyL, hi]; cases V.usesB i x <;> rfl)) k6⟩
                have hx : ∀ i, V.usesB i x = true → B' i = B i := fun i hi => hB i (by simp only [anyL, hi]; rfl)
                cases x with
                | g j => exact ⟨by rw [hx j (Nat.beq_refl j)]; exact k5.1, k5.2⟩
                | p j o => exact ⟨by rw [hx j (Nat.beq_refl j)]; exact k5.1, k5.2⟩
                | pe j sz i o => exact ⟨by rw [hx j (Nat.beq_refl j)]; exact k5.1, k5.2⟩
                | sb j sz lo hi => exact ⟨by rw [hx j (Nat.beq_refl j)]; exact k5.1, k5.2⟩
                | gl j n c => exact ⟨by rw [hx j (Nat.beq_refl j)]; exact k5.1, k5.2⟩
                | _ => exact k5
            exact this (fun i hi => hB i (by simp only [anyL, hi]; rfl)) e6
        · cases e5
      | _ => simp [openR] at e
    | _ => simp [openR] at e
  | x :: l, j + 1, l', sz, n, f, e, h, vs, o => by
    simp only [openR] at e
    split at e
    · rename_i l2 sz2 n2 f2 e1
      simp at e
      obtain ⟨rfl, rfl, rfl, rfl⟩ := e
      obtain ⟨v, t, h1, h2, rfl, e2, e3, e4, e5, e6⟩ := o
      obtain ⟨u, p, g1, g2, g3⟩ := openR_ok e1 e6
      refine ⟨u, p, PH.le_trans g1 e3, g2, fun B' hB hk => ⟨v, t, h1, h2.sub p, rfl, PH.le_sub e2 (PH.dj_le e4 (PH.le_refl _) g1), ?_, PH.dj_le e4 (PH.le_refl _) (PH.sub_le _ _), ?_, g3 B' (fun i hi => hB i (by simp only [anyL, hi]; cases V.usesB i x <;> rfl)) hk⟩⟩
      · exact PH.sub_mono e3 p
      · have hx : ∀ i, V.usesB i x = true → B' i = B i := fun i hi => hB i (by simp only [anyL, hi]; rfl)
        cases x with
        | g j => exact ⟨by rw [hx j (Nat.beq_refl j)]; exact e5.1, e5.2⟩
        | p j o => exact ⟨by rw [hx j (Nat.beq_refl j)]; exact e5.1, e5.2⟩
        | pe j sz i o => exact ⟨by rw [hx j (Nat.beq_refl j)]; exact e5.1, e5.2⟩
        | sb j sz lo hi => exact ⟨by rw [hx j (Nat.beq_refl j)]; exact e5.1, e5.2⟩
        | gl j n c => exact ⟨by rw [hx j (Nat.beq_refl j)]; exact e5.1, e5.2⟩
        | _ => exact e5
    · cases e
theorem openR_uses {k2 : Nat} : ∀ {l : List V} {j : Nat} {l' : List V} {sz n : Nat} {f : Nat → List D}, openR k2 l j = some (l', sz, n, f) → l'.length = l.length
  | [], j, _, _, _, _, e => by cases j <;> simp [openR] at e
  | x :: l, 0, l', sz, n, f, e => by
    cases x with
    | s q sz' n' f' =>
      cases q with
      | o => simp [openR] at e; obtain ⟨rfl, rfl, rfl, rfl⟩ := e; rfl
      | _ => simp [openR] at e
    | _ => simp [openR] at e
  | x :: l, j + 1, l', sz, n, f, e => by
    simp only [openR] at e
    split at e
    · rename_i l2 sz2 n2 f2 e1
      simp at e
      obtain ⟨rfl, rfl, rfl, rfl⟩ := e
      simp [openR_uses e1]
    · cases e
theorem Mem.split (m : Mem E B mu w H) {k k2 : Nat} {c c2 : Ch} {mu1 : Mu} (hne : k2 ≠ k) (hmu : mset k c mu = some mu1) (hmu2 : mset k2 c2 mu1 = some mu') {v : Value} (hU : muAny (V.usesB k2) k2 mu = false ∧ hasK k2 E.A.ks = false) {h1 h2 : PH} (l1 : h1.le (H k)) (l2 : h2.le (H k)) (hd : h1.dj h2)
    (s1 : c.sat (BE.set B k2 v) E.r h1 k) (s2 : c2.sat (BE.set B k2 v) E.r h2 k2) : Mem E (BE.set B k2 v) mu' w (HF.set (HF.set H k h1) k2 h2) := by
  have hH : ∀ j, j ≠ k2 → j ≠ k → HF.set (HF.set H k h1) k2 h2 j = H j := fun j a b => by rw [HF.set_ne _ _ a, HF.set_ne _ _ b]
  have hk : HF.set (HF.set H k h1) k2 h2 k = h1 := by rw [HF.set_ne _ _ (Ne.symm hne), HF.set_eq]
  have hk2 : HF.set (HF.set H k h1) k2 h2 k2 = h2 := HF.set_eq _ _ _
  have le : ∀ j, j ≠ k2 → (HF.set (HF.set H k h1) k2 h2 j).le (H j) := fun j a => by
    by_cases b : j = k
    · subst b; rw [hk]; exact l1
    · rw [hH j a b]; exact PH.le_refl _
  refine ⟨⟨fun j d e => ?_, fun j => ?_, fun i j hij => ?_, fun j => ?_, m.mm.fitr⟩, m.keep, fun j b o e => ?_, fun j hj => ?_⟩
  · rw [mset_spec hmu2 j, mset_spec hmu j] at e
    by_cases a1 : j = k2
    · subst a1; rw [if_pos rfl] at e; injection e with e; subst e; rw [hk2]; exact s2
    · rw [if_neg a1] at e
      by_cases a2 : j = k
      · subst a2; rw [if_pos rfl] at e; injection e with e; subst e; rw [hk]; exact s1
      · rw [if_neg a2] at e
        rw [hH j a1 a2]
        exact Ch.sat_setB v a1 (muAny_get hU.1 j d a1 e) (m.mm.sat j d e)
  · by_cases a1 : j = k2
    · subst a1; rw [hk2]; exact (m.mm.fit k).le l2
    · exact (m.mm.fit j).le (le j a1)
  · by_cases a1 : i = k2 <;> by_cases a2 : j = k2
    · exact absurd (a1.trans a2.symm) hij
    · subst a1; rw [hk2]
      by_cases a3 : j = k
      · subst a3; rw [hk]; exact PH.dj_symm hd
      · rw [hH j a2 a3]; exact PH.dj_le (m.mm.dj k j (Ne.symm a3)) l2 (PH.le_refl _)
    · subst a2; rw [hk2]
      by_cases a3 : i = k
      · subst a3; rw [hk]; exact hd
      · rw [hH i a1 a3]; exact PH.dj_symm (PH.dj_le (m.mm.dj k i (Ne.symm a3)) l2 (PH.le_refl _))
    · exact PH.dj_le (m.mm.dj i j hij) (le i a1) (le j a2)
  · by_cases a1 : j = k2
    · subst a1; rw [hk2]; exact PH.dj_le (m.mm.djr k) l2 (PH.le_refl _)
    · exact PH.dj_le (m.mm.djr j) (le j a1) (PH.le_refl _)
  · by_cases a1 : j = k2
    · subst a1; rw [hk2] at e; exact m.dom k b o (le_ne l2 e)
    · exact m.dom j b o (le_ne (le j a1) e)
  · have : j ≠ k2 := fun e => by rw [e, hU.2] at hj; cases hj
    rw [BE.set_ne B v this]; exact m.anch j hj
theorem FitsE.split (f : FitsE E B H fr gf a) {k k2 : Nat} {v : Value} {h1 h2 : PH} (hf : frAny (V.uses k2) fr = false) (hg : gfAny (V.uses k2) gf = false) (c1 : frCut (V.usesT k) fr = some fr') (c2 : gfCut (V.usesT k) gf = some gf') : FitsE E (BE.set B k2 v) (HF.set (HF.set H k h1) k2 h2) fr' gf' a := by
  have f1 := FitsE.anew f h1 c1 c2
  rw [BE.set_self] at f1
  refine FitsE.new f1 v h2 ?_ ?_
  · have : ∀ {l l' : Fr}, frCut (V.usesT k) l = some l' → frAny (V.uses k2) l = false → frAny (V.uses k2) l' = false := fun {l} => by
      induction l with
      | nil => intro l' e _; simp [frCut] at e; subst e; rfl
      | cons x r ih =>
        intro l' e h
        obtain ⟨t, x⟩ := x
        simp only [frCut] at e
        simp only [frAny] at h
        cases c : frCut (V.usesT k) r with
        | none => rw [c] at e; cases e
        | some r' =>
          rw [c] at e
          simp only at e
          cases c3 : x.anyV (V.uses k2) with
          | true => rw [c3] at h; cases h
          | false =>
            rw [c3] at h
            cases c4 : x.anyV (V.usesT k) with
            | true => rw [c4] at e; simp at e; subst e; simp only [frAny]; exact ih c h
            | false => rw [c4] at e; simp at e; subst e; simp only [frAny, c3, cond_false]; exact ih c h
    exact this c1 hf
  · have : ∀ {l l' : GF}, gfCut (V.usesT k) l = some l' → gfAny (V.uses k2) l = false → gfAny (V.uses k2) l' = false := fun {l} => by
      induction l with
      | nil => intro l' e _; simp [gfCut] at e; subst e; rfl
      | cons x r ih =>
        intro l' e h
        obtain ⟨t, d, w, x⟩ := x
        simp only [gfCut] at e
        simp only [gfAny] at h
        cases c : gfCut (V.usesT k) r with
        | none => rw [c] at e; cases e
        | some r' =>
          rw [c] at e
          simp only at e
          cases c3 : x.anyV (V.uses k2) with
          | true => rw [c3] at h; cases h
          | false =>
            rw [c3] at h
            cases c4 : x.anyV (V.usesT k) with
            | true => rw [c4] at e; simp at e; subst e; simp only [gfAny]; exact ih c h
            | false => rw [c4] at e; simp at e; subst e; simp only [gfAny, c3, cond_false]; exact ih c h
    exact this c2 hg
theorem V_open (k j k2 : Nat) {l l' : List V} {sz n : Nat} {f : Nat → List D} {mu1 : Mu} (hk : mlk k mu = some (.row l)) (ho : openR k2 l j = some (l', sz, n, f)) (hmu : mset k (.row l') mu = some mu1) (hmu2 : mset k2 (.arr sz n f) mu1 = some mu') (c1 : frCut (V.usesT k) fr = some fr') (c2 : gfCut (V.usesT k) gf = some gf') (hu : (unnamed k2 fr gf mu E.A.ks && !anyL (V.usesB k2) l && !Nat.beq k2 k) = true := by exact rfl) : View E fr gf mu fr' gf' mu' := fun B w H a ff m => by
  simp only [Bool.and_eq_true, Bool.not_eq_true'] at hu
  obtain ⟨⟨u1, u2⟩, u3⟩ := hu
  obtain ⟨g1, g2, g3, g4⟩ := unnamed_spec u1
  have hne : k2 ≠ k := beq_ne u3
  obtain ⟨b, off, vs, h', e1, e2, e3, e4⟩ := m.mm.sat k _ hk
  obtain ⟨v, p, p1, p2, p3⟩ := openR_ok ho e2
  have hlen := openR_uses ho
  have hB : ∀ i, anyL (V.usesB i) l = true → BE.set B k2 v i = B i := fun i hi => by
    by_cases h : i = k2
    · subst h; rw [u2] at hi; cases hi
    · exact BE.set_ne B v h
  have hm := m.split (h1 := (H k).sub p) (h2 := p) (v := v) hne hmu hmu2 ⟨muAny_mono (fun x hx => (uses_out hx).1) g3, g4⟩ (PH.sub_le _ _) (PH.le_trans p1 e3) (PH.sub_dj _ _) ?_ ?_
  · exact ⟨_, _, FitsE.split ff g1 g2 c1 c2, hm⟩
  · refine ⟨b, off, vs, h'.sub p, by rw [BE.set_ne B v (Ne.symm hne)]; exact e1, p3 _ hB (BE.set_eq B k2 v), PH.sub_mono e3 p, fun j hj => ?_⟩
    rw [hlen] at hj
    obtain ⟨q1, q2⟩ := e4 j hj
    have hp : p b (off + j) = none := by
      cases c : p b (off + j) with
      | none => rfl
      | some u => rw [p1 _ _ _ c] at q2; cases q2
    exact ⟨by unfold PH.sub; rw [hp]; exact q1, by unfold PH.sub; rw [hp]; exact q2⟩
  · show D.own p _ (BE.set B k2 v k2)
    rw [BE.set_eq]; exact p2
end
end
section
def foldR (k2 sz n : Nat) (f : Nat → List D) : List V → Nat → Option (List V)
  | .g k :: r, 0 => bif Nat.beq k k2 then some (.s .o sz n f :: r) else none
  | x :: r, j + 1 => match foldR k2 sz n f r j with
    | some l => some (x :: l)
    | none => none
  | _, _ => none
def unV : List V → Option (List D)
  | [] => some []
  | .v x :: r => match unV r with
    | some l => some (.v x :: l)
    | none => none
  | .s .o sz n f :: r => match unV r with
    | some l => some (.sl sz n f :: l)
    | none => none
  | _ :: _ => none
theorem unV_ok {B : BE} {r : PH} : ∀ {l : List V} {m : List D}, unV l = some m → ∀ {h : PH} {vs : List Value}, V.owns B r h l vs → D.owns h m vs
  | [], m, e, h, vs, o => by simp [unV] at e; subst e; exact o
  | x :: l, m, e, h, vs, o => by
    obtain ⟨v, t, h1, h2, rfl, e2, e3, e4, e5, e6⟩ := o
    cases x with
    | v y =>
      simp only [unV] at e
      cases c : unV l with
      | none => rw [c] at e; cases e
      | some m' => rw [c] at e; injection e with e; subst e; exact ⟨v, t, h1, h2, rfl, e2, e3, e4, e5, unV_ok c e6⟩
    | s q sz n f =>
      cases q with
      | o =>
        simp only [unV] at e
        cases c : unV l with
        | none => rw [c] at e; cases e
        | some m' =>
          rw [c] at e; injection e with e; subst e
          exact ⟨v, t, h1, h2, rfl, e2, e3, e4, (e5.resolve_right fun h => by cases h.1).2, unV_ok c e6⟩
      | _ => simp [unV] at e
    | _ => simp [unV] at e
def swFr (a b : Nat) : Fr → Fr
  | [] => []
  | (t, x) :: r => (t, x.sw a b) :: swFr a b r
section
variable {E : Env} {B : BE} {mu mu' : Mu} {w : World} {H : Nat → PH} {TT : List TI} {fr fr' : Fr} {gf gf' : GF} {a : Act} {all rest : List Oper} {Q : Exit → Act → World → Prop} {o : Oper} {J : Act → World → Prop} {G : AG} {R : Exit → Act → World → Prop} {K : List KF}
theorem foldR_ok {r : PH} {k2 sz n : Nat} {f : Nat → List D} {q : PH} (hq : D.own q (.sl sz n f) (B k2)) : ∀ {l : List V} {j : Nat} {l' : List V}, foldR k2 sz n f l j = some l' → ∀ {h : PH} {vs : List Value}, V.owns B r h l vs → h.dj q → V.owns B r (h.un q) l' vs
  | [], j, _, e, _, _, _, _ => by cases j <;> simp [foldR] at e
  | x :: l, 0, l', e, h, vs, o, hd => by
    cases x with
    | g k =>
      simp only [foldR] at e
      cases c : Nat.beq k k2 with
      | false => rw [c] at e; cases e
      | true =>
        rw [c] at e; simp at e; subst e
        have := Nat.eq_of_beq_eq_true c
        subst this
        obtain ⟨v, t, h1, h2, rfl, e2, e3, e4, e5, e6⟩ := o
        refine ⟨v, t, q, h2, rfl, PH.le_un_right hd, PH.le_trans e3 (PH.le_un_left _ _), PH.dj_symm (PH.dj_le hd e3 (PH.le_refl _)), .inl ⟨rfl, ?_⟩, e6⟩
        rw [e5.1]; exact hq
    | _ => simp [foldR] at e
  | x :: l, j + 1, l', e, h, vs, o, hd => by
    simp only [foldR] at e
    cases c : foldR k2 sz n f l j with
    | none => rw [c] at e; cases e
    | some m =>
      rw [c] at e; injection e with e; subst e
      obtain ⟨v, t, h1, h2, rfl, e2, e3, e4, e5, e6⟩ := o
      have ih := foldR_ok hq c e6 (PH.dj_le hd e3 (PH.le_refl _))
      refine ⟨v, t, h1, h2.un q, rfl, PH.le_trans e2 (PH.le_un_left _ _), PH.un_le (PH.le_trans e3 (PH.le_un_left _ _)) (PH.le_un_right hd), PH.dj_un e4 (PH.dj_le hd e2 (PH.le_refl _)), e5, ih⟩
theorem foldR_len {k2 sz n : Nat} {f : Nat → List D} : ∀ {l : List V} {j : Nat} {l' : List V}, foldR k2 sz n f l j = some l' → l'.length = l.length
  | [], j, _, e => by cases j <;> simp [foldR] at e
  | x :: l, 0, l', e => by
    cases x with
    | g k =>
      simp only [foldR] at e
      cases c : Nat.beq k k2 with
      | false => rw [c] at e; cases e
      | true => rw [c] at e; simp at e; subst e; rfl
    | _ => simp [foldR] at e
  | x :: l, j + 1, l', e => by
    simp only [foldR] at e
    cases c : foldR k2 sz n f l j with
    | none => rw [c] at e; cases e
    | some m => rw [c] at e; injection e with e; subst e; simp [foldR_len c]
theorem mdrop_spec {k : Nat} : ∀ {mu l : Mu}, mdrop k mu = some l → ∀ j, mlk j l = if j = k then none else mlk j mu
  | [], l, h, j => by simp [mdrop] at h; subst h; simp [mlk]
  | (i, c) :: r, l, h, j => by
    simp only [mdrop] at h
    cases e : mdrop k r with
    | none => rw [e] at h; cases h
    | some l' =>
      rw [e] at h
      simp only at h
      have ih := mdrop_spec e j
      cases c1 : Nat.beq i k with
      | true =>
        rw [c1] at h; simp at h; subst h
        have := Nat.eq_of_beq_eq_true c1
        subst this
        rw [mlk_cons, ih]
        by_cases hj : i = j
        · subst hj; rw [if_pos rfl, if_pos rfl]
        · rw [if_neg hj]
      | false =>
        rw [c1] at h; simp at h; subst h
        have := beq_ne c1
        rw [mlk_cons, mlk_cons, ih]
        by_cases hj : i = j
        · rw [if_pos hj, if_pos hj, if_neg (by omega)]
        · rw [if_neg hj, if_neg hj]
theorem Mem.join (m : Mem E B mu w H) {k k2 : Nat} {c : Ch} {mu1 : Mu} (hne : k2 ≠ k) (hmu : mset k c mu = some mu1) (hmu2 : mdrop k2 mu1 = some mu') (s : c.sat B E.r ((H k).un (H k2)) k) : Mem E B mu' w (HF.set (HF.set H k ((H k).un (H k2))) k2 PH.emp) := by
  have hH : ∀ j, j ≠ k2 → j ≠ k → HF.set (HF.set H k ((H k).un (H k2))) k2 PH.emp j = H j := fun j a b => by rw [HF.set_ne _ _ a, HF.set_ne _ _ b]
  have hk : HF.set (HF.set H k ((H k).un (H k2))) k2 PH.emp k = (H k).un (H k2) := by rw [HF.set_ne _ _ (Ne.symm hne), HF.set_eq]
  have hk2 : HF.set (HF.set H k ((H k).un (H k2))) k2 PH.emp k2 = PH.emp := HF.set_eq _ _ _
  refine ⟨⟨fun j d e => ?_, fun j => ?_, fun i j hij => ?_, fun j => ?_, m.mm.fitr⟩, m.keep, fun j b o e => ?_, m.anch⟩
  · rw [mdrop_spec hmu2 j, mset_spec hmu j] at e
    by_cases a1 : j = k2
    · rw [if_pos a1] at e; cases e
    · rw [if_neg a1] at e
      by_cases a2 : j = k
      · subst a2; rw [if_pos rfl] at e; injection e with e; subst e; rw [hk]; exact s
      · rw [if_neg a2] at e
        rw [hH j a1 a2]
        exact m.mm.sat j d e
  · by_cases a1 : j = k2
    · subst a1; rw [hk2]; exact FitO.emp w
    · by_cases a2 : j = k
      · subst a2; rw [hk]; exact (m.mm.fit _).un (m.mm.fit _)
      · rw [hH j a1 a2]; exact m.mm.fit j
  · by_cases a1 : i = k2
    · subst a1; rw [hk2]; exact PH.emp_dj _
    · by_cases a2 : j = k2
      · subst a2; rw [hk2]; exact PH.dj_emp _
      · by_cases a3 : i = k
        · subst a3; rw [hk, hH j a2 (Ne.symm hij)]; exact PH.un_dj (m.mm.dj _ j hij) (m.mm.dj _ j (Ne.symm a2))
        · by_cases a4 : j = k
          · subst a4; rw [hk, hH i a1 a3]; exact PH.dj_symm (PH.un_dj (m.mm.dj _ i (Ne.symm hij)) (m.mm.dj _ i (Ne.symm a1)))
          · rw [hH i a1 a3, hH j a2 a4]; exact m.mm.dj i j hij
  · by_cases a1 : j = k2
    · subst a1; rw [hk2]; exact PH.emp_dj _
    · by_cases a2 : j = k
      · subst a2; rw [hk]; exact PH.un_dj (m.mm.djr _) (m.mm.djr _)
      · rw [hH j a1 a2]; exact m.mm.djr j
  · by_cases a1 : j = k2
    · subst a1; rw [hk2] at e; exact absurd rfl e
    · by_cases a2 : j = k
      · subst a2; rw [hk] at e
        rcases PH.un_ne e with h | h
        · exact m.dom _ b o h
        · exact m.dom _ b o h
      · rw [hH j a1 a2] at e; exact m.dom j b o e
theorem FitsE.join (f : FitsE E B H fr gf a) (m : Mem E B mu w H) {k k2 : Nat} (hne : k2 ≠ k) (c1 : frCut (V.usesT k2) fr = some fr') (c2 : gfCut (V.usesT k2) gf = some gf') : FitsE E B (HF.set (HF.set H k ((H k).un (H k2))) k2 PH.emp) fr' gf' a := by
  have f1 : FitsE E B (HF.set H k ((H k).un (H k2))) fr gf a := by
    have hz : ∀ q, (Zf E.r H q).le (Zf E.r (HF.set H k ((H k).un (H k2))) q) := fun q => by
      cases q with
      | k j =>
        show (H j).le (HF.set H k ((H k).un (H k2)) j)
        by_cases h : j = k
        · subst h; rw [HF.set_eq]; exact PH.le_un_left _ _
        · rw [HF.set_ne _ _ h]; exact PH.le_refl _
      | _ => exact PH.le_refl _
    exact ⟨f.size, f.defers, fun t x e1 e2 => SV.rel_mono hz x (f.vfr t x e1 e2), fun t d w x e1 e2 => SV.rel_mono hz x (f.vgf t d w x e1 e2), f.vgu, f.vno⟩
  have := FitsE.anew f1 (k := k2) PH.emp c1 c2
  rwa [BE.set_self] at this
theorem V_fold (k j k2 : Nat) {l l' : List V} {sz n : Nat} {f : Nat → List D} {mu1 : Mu} (hk : mlk k mu = some (.row l)) (hk2 : mlk k2 mu = some (.arr sz n f)) (ho : foldR k2 sz n f l j = some l') (hmu : mset k (.row l') mu = some mu1) (hmu2 : mdrop k2 mu1 = some mu') (c1 : frCut (V.usesT k2) fr = some fr') (c2 : gfCut (V.usesT k2) gf = some gf') (hu : Nat.beq k2 k = false := by exact rfl) : View E fr gf mu fr' gf' mu' := fun B w H a ff m => by
  have hne := beq_ne hu
  refine ⟨B, _, FitsE.join ff m hne c1 c2, m.join hne hmu hmu2 ?_⟩
  obtain ⟨b, off, vs, h', e1, e2, e3, e4⟩ := m.mm.sat k _ hk
  have hd : (H k).dj (H k2) := m.mm.dj k k2 (Ne.symm hne)
  refine ⟨b, off, vs, h'.un (H k2), e1, foldR_ok (m.mm.sat k2 _ hk2) ho e2 (PH.dj_le hd e3 (PH.le_refl _)), PH.un_le (PH.le_trans e3 (PH.le_un_left _ _)) (PH.le_un_right hd), fun i hi => ?_⟩
  rw [foldR_len ho] at hi
  obtain ⟨q1, q2⟩ := e4 i hi
  have hlt : i < vs.length := by rw [V.owns_length e2]; exact hi
  have hn2 : H k2 b (off + i) = none := (hd b (off + i)).resolve_left (by rw [q1, List.getElem?_eq_getElem hlt]; simp)
  refine ⟨?_, ?_⟩
  · unfold PH.un; rw [q1, List.getElem?_eq_getElem hlt]
  · unfold PH.un; rw [q2]; exact hn2
theorem V_carve (k : Nat) (i : Int) (k2 : Nat) {l : List V} {sz n : Nat} {f : Nat → List D} {mu1 : Mu} (hk : mlk k mu = some (.arr sz n f)) (hl : layD .o (f i.toNat) = some l) (hmu : mset k (.hole sz n f i k2) mu = some mu1) (hmu2 : mset k2 (.row l) mu1 = some mu') (c1 : frCut (V.usesT k) fr = some fr') (c2 : gfCut (V.usesT k) gf = some gf') (hi : 0 ≤ i ∧ i < n) (hu : (unnamed k2 fr gf mu E.A.ks && !Nat.beq k2 k) = true := by exact rfl) : View E fr gf mu fr' gf' mu' := fun B w H a ff m => by
  simp only [Bool.and_eq_true, Bool.not_eq_true'] at hu
  obtain ⟨u1, u3⟩ := hu
  obtain ⟨g1, g2, g3, g4⟩ := unnamed_spec u1
  have hne : k2 ≠ k := beq_ne u3
  obtain ⟨A, c, e1, e2, e3, e4⟩ := (show D.own _ _ _ from m.mm.sat k _ hk)
  rcases e4 with e4 | ⟨b, o, row, G, rfl, q1, q2, q3⟩
  · omega
  · obtain ⟨r1, r2, r3⟩ := q1 i.toNat (by omega)
    have hmul : ∀ j : Nat, j < i.toNat → j * sz + sz ≤ i.toNat * sz := fun j hj => by
      have := Nat.mul_le_mul_right sz (show j + 1 ≤ i.toNat from hj)
      rwa [Nat.add_mul, Nat.one_mul] at this
    have hmul2 : ∀ j : Nat, i.toNat < j → i.toNat * sz + sz ≤ j * sz := fun j hj => by
      have := Nat.mul_le_mul_right sz (show i.toNat + 1 ≤ j from hj)
      rwa [Nat.add_mul, Nat.one_mul] at this
    have hcap : ∀ j : Nat, j < c → j * sz + sz ≤ c * sz := fun j hj => by
      have := Nat.mul_le_mul_right sz (show j + 1 ≤ c from hj)
      rwa [Nat.add_mul, Nat.one_mul] at this
    let h2 : PH := fun x y => if x = b ∧ o + i.toNat * sz ≤ y ∧ y < o + i.toNat * sz + sz then H k x y else G i.toNat x y
    have l2 : h2.le (H k) := fun x y v e => by
      simp only [h2] at e
      split at e
      · exact e
      · exact q3.1 _ x y v e
    have h2o : ∀ y, o ≤ y → y < o + c * sz → ¬ (o + i.toNat * sz ≤ y ∧ y < o + i.toNat * sz + sz) → h2 b y = none := fun y y1 y2 hy => by
      simp only [h2]
      rw [if_neg (fun h => hy h.2)]
      exact q3.2.2 _ _ y1 y2
    have G2 : ∀ j, j ≠ i.toNat → (G j).dj h2 := fun j hj x y => by
      simp only [h2]
      split
      · rename_i h; left; rw [h.1]; exact q3.2.2 j y (by omega) (by have := hcap i.toNat (by omega); omega)
      · exact q3.2.1 j _ hj x y
    have keepC : ∀ y, o ≤ y → y < o + c * sz → ¬ (o + i.toNat * sz ≤ y ∧ y < o + i.toNat * sz + sz) → (H k).sub h2 b y = H k b y := fun y y1 y2 hy => by unfold PH.sub; rw [h2o y y1 y2 hy]
    have hv : elP (.slice (some ⟨b, o, none⟩) n c) sz i 0 = .pointer (some ⟨b, o + i.toNat * sz, none⟩) := by rw [elP_slice]; rfl
    have hm := m.split (h1 := (H k).sub h2) (h2 := h2) (v := .pointer (some ⟨b, o + i.toNat * sz, none⟩)) hne hmu hmu2 ⟨muAny_mono (fun x hx => (uses_out hx).1) g3, g4⟩ (PH.sub_le _ _) l2 (PH.sub_dj _ _) ?_ ?_
    · exact ⟨_, _, FitsE.split ff g1 g2 c1 c2, hm⟩
    · refine ⟨some ⟨b, o, none⟩, c, by rw [BE.set_ne B _ (Ne.symm hne)]; exact e1, e2, e3, hi, by rw [BE.set_eq, BE.set_ne B _ (Ne.symm hne), e1, hv], b, o, row, fun j => if j = i.toNat then PH.emp else G j, rfl, fun j hj hji => ?_, fun j hj hj2 x hx => ?_, fun j => ?_, fun x y hxy => ?_, fun j x => ?_⟩
      · have hji' : j ≠ i.toNat := fun e => hji (by rw [e]; exact Int.toNat_of_nonneg hi.1)
        obtain ⟨s1, s2, s3⟩ := q1 j hj
        refine ⟨by dsimp only; rw [if_neg hji']; exact s1, s2, fun x hx => ?_⟩
        have := hcap j (by omega)
        rw [keepC _ (by omega) (by omega) (by
          rcases Nat.lt_or_gt_of_ne hji' with h | h
          · have := hmul j h; omega
          · have := hmul2 j h; omega)]
        exact s3 x hx
      · have := hcap j (by omega)
        rw [keepC _ (by omega) (by omega) (by have := hmul2 j (by omega); omega)]
        exact q2 j hj hj2 x hx
      · dsimp only
        by_cases hj : j = i.toNat
        · rw [if_pos hj]; exact PH.emp_le _
        · rw [if_neg hj]; exact PH.le_sub (q3.1 j) (G2 j hj)
      · dsimp only
        by_cases h1 : x = i.toNat
        · rw [if_pos h1]; exact PH.emp_dj _
        · rw [if_neg h1]
          by_cases h2 : y = i.toNat
          · rw [if_pos h2]; exact PH.dj_emp _
          · rw [if_neg h2]; exact q3.2.1 x y hxy
      · intro y1 y2
        dsimp only
        by_cases hj : j = i.toNat
        · rw [if_pos hj]; rfl
        · rw [if_neg hj]; exact q3.2.2 j x y1 y2
    · rw [layD_eq] at hl
      injection hl with hl
      subst hl
      refine ⟨b, o + i.toNat * sz, row i.toNat, G i.toNat, BE.set_eq _ _ _, D.owns_toV r1, fun x y v e => ?_, fun j hj => ?_⟩
      · simp only [h2]
        rw [if_neg]
        · exact e
        · rintro ⟨rfl, y1, y2⟩
          have := hcap i.toNat (by omega)
          rw [q3.2.2 i.toNat y (by omega) (by omega)] at e; cases e
      · have hl := D.owns_length r1
        rw [List.length_map, ← hl, r2] at hj
        refine ⟨?_, q3.2.2 _ _ (by omega) (by have := hcap i.toNat (by omega); omega)⟩
        simp only [h2]
        rw [if_pos ⟨trivial, by omega, by omega⟩]
        exact r3 j hj
theorem V_uncarve (k k2 : Nat) {l : List V} {ds : List D} {sz n : Nat} {f : Nat → List D} {i : Int} {mu1 : Mu} (hk : mlk k mu = some (.hole sz n f i k2)) (hk2 : mlk k2 mu = some (.row l)) (hl : unV l = some ds) (hmu : mset k (.arr sz n (fun j => bif Nat.beq j i.toNat then ds else f j)) mu = some mu1) (hmu2 : mdrop k2 mu1 = some mu') (c1 : frCut (V.usesT k2) fr = some fr') (c2 : gfCut (V.usesT k2) gf = some gf') (hsz : lenEq ds sz = true := by exact rfl) (hu : Nat.beq k2 k = false := by exact rfl) : View E fr gf mu fr' gf' mu' := fun B w H a ff m => by
  have hne := beq_ne hu
  refine ⟨B, _, FitsE.join ff m hne c1 c2, m.join hne hmu hmu2 ?_⟩
  have hd : (H k).dj (H k2) := m.mm.dj k k2 (Ne.symm hne)
  obtain ⟨A, c, e1, e2, e3, hi, e5, b, o, row, G, rfl, q1, q2, q3⟩ := m.mm.sat k _ hk
  obtain ⟨b2, off, vs, h', p1, p2, p3, p4⟩ := m.mm.sat k2 _ hk2
  have hv : elP (.slice (some ⟨b, o, none⟩) n c) sz i 0 = .pointer (some ⟨b, o + i.toNat * sz, none⟩) := by rw [elP_slice]; rfl
  rw [e1, hv, p1] at e5
  injection e5 with e5
  injection e5 with e5
  injection e5 with e6 e7
  subst e6; subst e7
  have ho := unV_ok hl p2
  have hdl := lenEq_spec _ _ hsz
  have hvl := D.owns_length ho
  have hll := V.owns_length p2
  have lk : (H k).le ((H k).un (H k2)) := PH.le_un_left _ _
  have lk2 : (H k2).le ((H k).un (H k2)) := PH.le_un_right hd
  have hcap : ∀ j : Nat, j < c → j * sz + sz ≤ c * sz := fun j hj => by
    have := Nat.mul_le_mul_right sz (show j + 1 ≤ c from hj)
    rwa [Nat.add_mul, Nat.one_mul] at this
  have hout : ∀ y, o ≤ y → y < o + c * sz → h' b2 y = none := fun y y1 y2 => by
    cases e : h' b2 y with
    | none => rfl
    | some u =>
      exfalso
      have h0 : 0 < sz := by
        rcases Nat.eq_zero_or_pos sz with h | h
        · subst h; simp at y2; omega
        · exact h
      have hq : (y - o) / sz < c := Nat.div_lt_of_lt_mul (by rw [Nat.mul_comm]; omega)
      have hm : (y - o) % sz < sz := Nat.mod_lt _ h0
      have hy : y = o + (y - o) / sz * sz + (y - o) % sz := by
        have := Nat.div_add_mod (y - o) sz
        rw [Nat.mul_comm] at this
        omega
      by_cases hji : (y - o) / sz = i.toNat
      · have := (p4 ((y - o) % sz) (by omega)).2
        rw [← hji, ← hy, e] at this
        cases this
      · have hne2 : H k b2 y ≠ none := by
          by_cases hjn : (y - o) / sz < n
          · obtain ⟨_, s2, s3⟩ := q1 _ hjn (fun e => hji (by omega))
            have := s3 _ hm
            rw [← hy] at this
            rw [this, List.getElem?_eq_getElem (by omega)]; simp
          · have := q2 _ (by omega) hq _ hm
            rwa [← hy] at this
        rcases hd b2 y with h | h
        · exact hne2 h
        · rw [p3 _ _ _ e] at h; cases h
  show D.own _ _ (B k)
  refine ⟨some ⟨b2, o, none⟩, c, e1, e2, e3, .inr ⟨b2, o, fun j => if j = i.toNat then vs else row j, fun j => if j = i.toNat then h' else (G j).sub h', rfl, fun j hj => ?_, fun j hj hj2 x hx => le_ne lk (q2 j hj hj2 x hx), fun j => ?_, fun x y hxy => ?_, fun j x y1 y2 => ?_⟩⟩
  · by_cases hji : j = i.toNat
    · subst hji
      simp only [Nat.beq_refl, cond_true, if_true]
      exact ⟨ho, by omega, fun x hx => le_cell lk2 rfl (by omega) (p4 x (by omega)).1⟩
    · have hb : Nat.beq j i.toNat = false := by
        cases e : Nat.beq j i.toNat with
        | false => rfl
        | true => exact absurd (Nat.eq_of_beq_eq_true e) hji
      simp only [hb, cond_false, if_neg hji]
      obtain ⟨s1, s2, s3⟩ := q1 j hj (fun e => hji (by omega))
      refine ⟨D.owns_mono (PH.le_sub (PH.le_refl _) (PH.dj_le hd (q3.1 j) p3)) _ s1, s2, fun x hx => le_cell lk s2 hx (s3 x hx)⟩
  · dsimp only
    by_cases hji : j = i.toNat
    · rw [if_pos hji]; exact PH.le_trans p3 lk2
    · rw [if_neg hji]; exact PH.le_trans (PH.sub_le _ _) (PH.le_trans (q3.1 j) lk)
  · dsimp only
    by_cases h1 : x = i.toNat
    · rw [if_pos h1, if_neg (fun e => hxy (h1.trans e.symm))]; exact PH.dj_symm (PH.sub_dj _ _)
    · rw [if_neg h1]
      by_cases h2 : y = i.toNat
      · rw [if_pos h2]; exact PH.sub_dj _ _
      · rw [if_neg h2]; exact PH.dj_le (q3.2.1 x y hxy) (PH.sub_le _ _) (PH.sub_le _ _)
  · dsimp only
    by_cases hji : j = i.toNat
    · rw [if_pos hji]; exact hout x y1 y2
    · rw [if_neg hji]
      unfold PH.sub
      cases h' b2 x with
      | some _ => rfl
      | none => exact q3.2.2 j x y1 y2
theorem elP_addP {A : Option Addr} {n c sz : Nat} {i : Int} {o : Nat} : elP (.slice A n c) sz i o = addP (elP (.slice A n c) sz i 0) o := by
  rfl
theorem V_pe (t : Nat) {k k2 sz n : Nat} {f : Nat → List D} {i : Int} {o : Nat} (ht : mlk t fr = some (.a (.pe k sz i o))) (hg : glk t gf = none) (hk : mlk k mu = some (.hole sz n f i k2)) : View E fr gf mu ((t, .a (.p k2 o)) :: fr) gf mu := fun B w H a ff m => by
  refine ⟨B, H, ⟨ff.size, ff.defers, fun t' x e1 e2 => ?_, ff.vgf, ff.vgu, fun t' d w x e1 => ?_⟩, m⟩
  · rw [mlk_cons] at e1
    by_cases h : t = t'
    · subst h
      rw [if_pos rfl] at e1
      injection e1 with e1
      subst e1
      obtain ⟨h1, h2⟩ := (show _ = elP (B k) sz i o ∧ _ from ff.vfr t _ ht e2)
      obtain ⟨A, c, g1, _, _, _, g5, _⟩ := m.mm.sat k _ hk
      refine ⟨?_, h2⟩
      rw [h1, g5, g1]; exact elP_addP
    · rw [if_neg h] at e1; exact ff.vfr t' x e1 e2
  · rw [mlk_cons]
    by_cases h : t = t'
    · subst h
      have := ff.vno t d w x e1
      rw [ht] at this; cases this
    · rw [if_neg h]; exact ff.vno t' d w x e1
theorem mlk_swFr (x y t : Nat) : ∀ fr : Fr, mlk t (swFr x y fr) = (mlk t fr).map (SV.sw x y)
  | [] => rfl
  | (j, v) :: r => by
    simp only [swFr]
    rw [mlk_cons, mlk_cons]
    by_cases h : j = t
    · rw [if_pos h, if_pos h]; rfl
    · rw [if_neg h, if_neg h]; exact mlk_swFr x y t r
theorem V_sw (x y : Nat) (hu : (!hasK x E.A.ks && !hasK y E.A.ks) = true := by exact rfl) : View E fr [] mu (swFr x y fr) [] (swMu x y mu) := fun B w H a ff m => by
  simp only [Bool.and_eq_true, Bool.not_eq_true'] at hu
  refine ⟨fun k => B (swN x y k), fun k => H (swN x y k), ⟨ff.size, ff.defers, fun t v e1 e2 => ?_, fun _ _ _ _ h => (by cases h), fun _ _ _ _ h => (by cases h), fun _ _ _ _ h => (by cases h)⟩, m.mm.unsw, m.keep, fun k b o e => m.dom _ b o e, fun k hk => ?_⟩
  · rw [mlk_swFr] at e1
    cases c : mlk t fr with
    | none => rw [c] at e1; cases e1
    | some u =>
      rw [c] at e1
      injection e1 with e1
      subst e1
      have h := ff.vfr t u c rfl
      refine (SV.rel_sw u).2 ?_
      simpa only [swN_swN] using h
  · have h1 : k ≠ x := fun e => by rw [e, hu.1] at hk; cases hk
    have h2 : k ≠ y := fun e => by rw [e, hu.2] at hk; cases hk
    have : swN x y k = k := by rw [swN_eq, if_neg h1, if_neg h2]
    rw [this]; exact m.anch k hk
end
def modO : List Oper → List Nat → List Nat
  | [], l => l
  | o :: r, l => match o.dst with
    | some t => modO r (t :: l)
    | none => modO r l
def modC : Code → List Nat → List Nat
  | .region _ ops _, l => modO ops.toList l
  | .seq a b, l => modC a (modC b l)
  | .cond _ a b, l => modC a (modC b l)
  | .block _ b, l => modC b l
  | .loop b, l => modC b l
  | .scope b, l => modC b l
  | _, l => l
def V.usesBs (ks : List Nat) : V → Bool
  | .g j => hasK j ks
  | .p j _ => hasK j ks
  | .pe j _ _ _ => hasK j ks
  | .sb j _ _ _ => hasK j ks
  | .gl j _ _ => hasK j ks
  | _ => false
def leanV (ks kd : List Nat) (x : V) : Bool := bif x.usesTs ks then true else x.usesBs kd
def keepF (ms ks kd : List Nat) : Fr → List Nat → Option Fr
  | [], _ => some []
  | (t, x) :: r, sn => bif hasK t sn then keepF ms ks kd r sn else match keepF ms ks kd r (t :: sn) with
    | some l => bif hasK t ms then some l else bif x.anyV (leanV ks kd) then some l else some ((t, x) :: l)
    | none => none
def appF : Fr → Fr → Fr
  | [], l => l
  | x :: r, l => x :: appF r l
section
variable {E : Env} {B : BE} {mu mu' : Mu} {w : World} {H : Nat → PH} {TT : List TI} {fr fr' : Fr} {gf gf' : GF} {a : Act} {all rest : List Oper} {Q : Exit → Act → World → Prop} {o : Oper} {J : Act → World → Prop} {G : AG} {R : Exit → Act → World → Prop} {K : List KF}
theorem keepF_get {ms ks kd : List Nat} : ∀ {fr : Fr} {sn : List Nat} {l : Fr}, keepF ms ks kd fr sn = some l → ∀ t x, mlk t l = some x → hasK t sn = false ∧ mlk t fr = some x
  | [], sn, l, h, t, x, e => by simp [keepF] at h; subst h; cases e
  | (j, y) :: r, sn, l, h, t, x, e => by
    simp only [keepF] at h
    rw [mlk_cons]
    cases c1 : hasK j sn with
    | true =>
      rw [c1] at h
      obtain ⟨h1, h2⟩ := keepF_get h t x e
      refine ⟨h1, ?_⟩
      by_cases hj : j = t
      · subst hj; rw [c1] at h1; cases h1
      · rw [if_neg hj]; exact h2
    | false =>
      rw [c1] at h
      simp only [cond_false] at h
      cases c2 : keepF ms ks kd r (j :: sn) with
      | none => rw [c2] at h; cases h
      | some l' =>
        rw [c2] at h
        simp only at h
        have tl : mlk t l' = some x → hasK t sn = false ∧ (if j = t then some y else mlk t r) = some x := fun e => by
          obtain ⟨h1, h2⟩ := keepF_get c2 t x e
          have h3 : ¬ (j = t ∨ hasK t sn = true) := fun h => by rw [(hasK_cons t j sn).2 h] at h1; cases h1
          refine ⟨?_, by rw [if_neg fun e => h3 (.inl e)]; exact h2⟩
          cases c : hasK t sn with
          | false => rfl
          | true => exact absurd (.inr c) h3
        cases c3 : hasK j ms with
        | true => rw [c3] at h; simp at h; subst h; exact tl e
        | false =>
          rw [c3] at h
          simp only [cond_false] at h
          cases c4 : y.anyV (leanV ks kd) with
          | true => rw [c4] at h; simp at h; subst h; exact tl e
          | false =>
            rw [c4] at h; simp at h; subst h
            rw [mlk_cons] at e
            by_cases hj : j = t
            · subst hj
              rw [if_pos rfl] at e ⊢
              exact ⟨c1, e⟩
            · rw [if_neg hj] at e; exact tl e
theorem mlk_appF (t : Nat) : ∀ (l m : Fr), mlk t (appF l m) = (mlk t l).or (mlk t m)
  | [], m => rfl
  | (j, c) :: r, m => by
    simp only [appF]
    rw [mlk_cons, mlk_cons]
    by_cases h : j = t
    · rw [if_pos h, if_pos h]; rfl
    · rw [if_neg h, if_neg h]; exact mlk_appF t r m
theorem Fits.wk2 {P : Program} {Z : Tg → PH} {N : Nat} (f : Fits P B Z N fr [] a) (h : ∀ t x, mlk t fr' = some x → ∃ y, mlk t fr = some y ∧ y.imp P x) : Fits P B Z N fr' [] a :=
  ⟨f.size, f.defers, fun t x e _ => by
    obtain ⟨y, h1, h2⟩ := h t x e
    exact h2 _ _ _ (f.vfr t y h1 rfl), fun _ _ _ _ h => (by cases h), fun _ _ _ _ h => (by cases h), fun _ _ _ _ h => (by cases h)⟩
theorem Mem.wk2 (m : Mem E B mu w H) (h : ∀ k c, mlk k mu' = some c → ∃ d, mlk k mu = some d ∧ d.imp c) : Mem E B mu' w H :=
  ⟨⟨fun k c e => by
    obtain ⟨d, d1, d2⟩ := h k c e
    exact d2 _ _ _ _ (m.mm.sat k d d1), m.mm.fit, m.mm.dj, m.mm.djr, m.mm.fitr⟩, m.keep, m.dom, m.anch⟩
theorem T_loopA {ι : Type} {c : Code} (u : ι → Fr) (um : ι → Mu) (φ : ι → Prop) (m : ι → Nat) (x : ι) (kc kd : List Nat) {fk : Fr} {mk : Mu} (hkf : keepF (modC c []) kc kd fr [] = some fk) (hkm : mdropKs kc mu = some mk) (h0 : φ x) (hf : WkFr E.P fr (u x)) (hm : WkMu mu (um x))
    (body : ∀ y, φ y → T E R c (appF (u y) fk) (appM (um y) mk) (.loop (Inv E (fun y => appF (u y) fk) (fun y => appM (um y) mk) φ m (m y)) :: K)) : T E R (.loop c) fr mu K := fun B a w H f me => by
  have f' : FitsE E B H (appF (u x) fk) [] a := Fits.wk2 f fun t v e => by
    rw [mlk_appF] at e
    cases c1 : mlk t (u x) with
    | some v' => rw [c1] at e; injection e with e; subst e; exact hf.get t _ c1
    | none => rw [c1] at e; simp at e; exact ⟨v, (keepF_get hkf t v e).2, SV.imp_refl _⟩
  have me' : Mem E B (appM (um x) mk) w H := Mem.wk2 me fun k d e => by
    rw [mlk_appM] at e
    cases c1 : mlk k (um x) with
    | some v' => rw [c1] at e; injection e with e; subst e; exact hm.get k _ c1
    | none =>
      rw [c1] at e; simp at e
      rw [mdropKs_spec hkm k] at e
      split at e
      · cases e
      · exact ⟨d, e, Ch.imp_refl _⟩
  refine wp_loop_ghost (fun n a w => ∃ y, φ y ∧ m y = n ∧ FM E (appF (u y) fk) (appM (um y) mk) a w) (m x) ⟨x, h0, rfl, B, H, f', me'⟩ ?_
  rintro n a w ⟨y, hy, rfl, B, H, f, me⟩
  refine wp_mono (body y hy B a w H f me) ?_
  intro e a' w' q
  cases e with
  | normal =>
    obtain ⟨z, z1, z2, z3⟩ := q
    exact ⟨m z, z2, z, z1, rfl, z3⟩
  | exit id => exact q
  | goto l => exact q
  | ret => exact q
  | panic ch => exact q
  | outgrown => exact q
def capB : List V → Bool
  | [] => true
  | .v _ :: r => capB r
  | .s .r _ _ _ :: r => capB r
  | .rp .r _ _ :: r => capB r
  | _ :: _ => false
theorem cap_up {Z : Tg → PH} {B' : BE} {h : PH} (hl : (Z .r).le h) : ∀ {l : List V} {vs : List Value}, capB l = true → V.rels B Z l vs → V.rels B' (Zf h fun _ => PH.emp) l vs
  | [], _, _, e => e
  | x :: r, _, hc, e => by
    obtain ⟨v, t, e1, e2, e3⟩ := e
    cases x with
    | v y => exact ⟨v, t, e1, e2, cap_up hl hc e3⟩
    | s q sz n f =>
      cases q with
      | r => exact ⟨v, t, e1, D.rd_mono hl (.sl sz n f) e2, cap_up hl hc e3⟩
      | _ => cases hc
    | rp q l o =>
      cases q with
      | r =>
        obtain ⟨b, y, vs, g1, g2, g3⟩ := e2
        exact ⟨v, t, e1, ⟨b, y, vs, g1, D.rds_mono hl l g2, fun j hj => le_cell hl rfl hj (g3 j hj)⟩, cap_up hl hc e3⟩
      | _ => cases hc
    | _ => cases hc
def RD.sv : RD → SV
  | .a x => .a (x.toV .r)
  | .ag l => .ag (l.map (D.toV .r))
theorem RD.rel_sv {P : Program} {Z : Tg → PH} {x : RD} {v : Value} (e : x.rel (Z .r) v) : SV.rel P B Z x.sv v := by
  cases x with
  | a x => exact D.rd_toV (q := .r) e
  | ag l => obtain ⟨vs, e1, e2⟩ := e; exact ⟨vs, e1, D.rds_toV (q := .r) e2⟩
theorem RD.rels_sv {P : Program} {Z : Tg → PH} : ∀ {l : List RD} {vs : List Value}, RD.rels (Z .r) l vs → SV.rels P B Z (l.map RD.sv) vs
  | [], _, e => e
  | x :: r, _, e => by
    obtain ⟨a, t, e1, e2, e3⟩ := e
    exact ⟨a, t, e1, RD.rel_sv e2, RD.rels_sv e3⟩
theorem imp_fb {P : Program} {f : Nat} {caps : List V} {φ : List RD → Value → Prop} (hen : Enters P f) (hc : capB caps = true) (h : ∀ args x, φ args x → Ans P f [] (args.map RD.sv ++ caps.map SV.a) [] (.a (.v x))) : (SV.fn f caps).imp P (.fb φ) := fun B Z v e => by
  obtain ⟨vs, rfl, e2⟩ := e
  refine ⟨f, vs, rfl, hen, fun args x hx w s vals hl hf ha => ?_⟩
  have := Con.ask (h args x hx) rfl rfl (B := B) hf (fun k c e => by cases e) (rels_append (RD.rels_sv (Z := Zf s fun _ => PH.emp) ha) (rels_sva (cap_up hl hc e2)))
  exact this.mono fun e w' ⟨v, h1, h2, h3⟩ => ⟨by rw [h1]; exact congrArg _ (h2 (Zf s fun _ => PH.emp)), h3⟩
theorem SVs.cons {P : Program} {x y : SV} {l m : List SV} (h : x.imp P y) (k : SVs.imp P l m) : SVs.imp P (x :: l) (y :: m) := ⟨y, m, rfl, h, k⟩
def fbOf (g : Gd) (fr : Fr) (gf : GF) (o : Op) : Option ((List RD → Value → Prop) × List SV) :=
  match o with
  | .call c => match c.callee with
    | .value x => match ev g fr gf x, evs g fr gf c.args.toList with
      | some (.fb φ), some l => some (φ, l)
      | _, _ => none
    | _ => none
  | _ => none
def rdV : V → Option D
  | .v x => some (.v x)
  | .s .r sz n f => some (.sl sz n f)
  | .rp .r m o => some (.pt m o)
  | _ => none
def rdL : List V → Option (List D)
  | [] => some []
  | x :: r => match rdV x, rdL r with
    | some y, some l => some (y :: l)
    | _, _ => none
def rdS : SV → Option RD
  | .a x => match rdV x with
    | some y => some (.a y)
    | none => none
  | .ag l => match rdL l with
    | some m => some (.ag m)
    | none => none
  | _ => none
def rdSs : List SV → Option (List RD)
  | [] => some []
  | x :: r => match rdS x, rdSs r with
    | some y, some l => some (y :: l)
    | _, _ => none
theorem rdV_ok {Z : Tg → PH} {x : V} {y : D} (h : rdV x = some y) {v : Value} (e : x.rel B Z v) : D.rd (Z .r) y v := by
  cases x with
  | v u => simp [rdV] at h; subst h; exact e
  | s q sz n f =>
    cases q with
    | r => simp [rdV] at h; subst h; exact e
    | _ => simp [rdV] at h
  | rp q l o =>
    cases q with
    | r => simp [rdV] at h; subst h; exact e
    | _ => simp [rdV] at h
  | _ => simp [rdV] at h
theorem rdL_ok {Z : Tg → PH} : ∀ {l : List V} {m : List D}, rdL l = some m → ∀ {vs : List Value}, V.rels B Z l vs → D.rds (Z .r) m vs
  | [], m, h, vs, e => by simp [rdL] at h; subst h; exact e
  | x :: r, m, h, vs, e => by
    simp only [rdL] at h
    split at h
    · rename_i y l e1 e2
      injection h with h; subst h
      obtain ⟨v, t, rfl, g1, g2⟩ := e
      exact ⟨v, t, rfl, rdV_ok e1 g1, rdL_ok e2 g2⟩
    · cases h
theorem rdS_ok {P : Program} {Z : Tg → PH} {x : SV} {y : RD} (h : rdS x = some y) {v : Value} (e : SV.rel P B Z x v) : y.rel (Z .r) v := by
  cases x with
  | a x =>
    simp only [rdS] at h
    split at h
    · rename_i y' e1; injection h with h; subst h; exact rdV_ok e1 e
    · cases h
  | ag l =>
    simp only [rdS] at h
    split at h
    · rename_i y' e1; injection h with h; subst h
      obtain ⟨vs, h1, h2⟩ := e
      exact ⟨vs, h1, rdL_ok e1 h2⟩
    · cases h
  | _ => simp [rdS] at h
theorem rdSs_ok {P : Program} {Z : Tg → PH} : ∀ {l : List SV} {m : List RD}, rdSs l = some m → ∀ {vs : List Value}, SV.rels P B Z l vs → RD.rels (Z .r) m vs
  | [], m, h, vs, e => by simp [rdSs] at h; subst h; exact e
  | x :: r, m, h, vs, e => by
    simp only [rdSs] at h
    split at h
    · rename_i y l e1 e2
      injection h with h; subst h
      obtain ⟨v, t, rfl, g1, g2⟩ := e
      exact ⟨v, t, rfl, rdS_ok e1 g1, rdSs_ok e2 g2⟩
    · cases h
theorem OJ_F {φ : List RD → Value → Prop} {args : List SV} {rds : List RD} {t : Nat} {x : Value} (hc : fbOf [] fr gf o.op = some (φ, args)) (hr : rdSs args = some rds) (hgd : gdrop t gf = some gf') (hx : φ rds x)
    (k : SJ G J E ((t, .a (.v x)) :: fr) gf' mu) (hg : o.guard = none := by exact rfl) (hd : o.dst = some t := by exact rfl) (ht : Nat.blt t E.N = true := by exact rfl) : OJ G E all Q J o fr gf mu := fun B a w H f m gg => by
  obtain ⟨dst, op, type, pos, after, guard⟩ := o
  simp only at hc hg hd
  subst hg; subst hd
  unfold fbOf at hc
  split at hc
  · rename_i c
    obtain ⟨callee, cargs, ats⟩ := c
    simp only at hc
    split at hc
    · rename_i y hy
      split at hc
      · rename_i φ' l e1 e2
        simp only [Option.some.injEq, Prod.mk.injEq] at hc
        obtain ⟨rfl, rfl⟩ := hc
        obtain ⟨fn, cv, h1, h3, h4⟩ := (show ∃ f vs, _ from f.ev (g := []) (fun _ _ hm => by cases hm) e1)
        have h2 := f.evs (g := []) (fun _ _ hm => by cases hm) e2
        have ha : cargs.map a.eval = (cargs.toList.map a.eval).toArray := Array.ext' (by rw [Array.toList_map])
        refine one_call (n := fn) (args := (cargs.toList.map a.eval ++ cv).toArray) (wanted_none rfl) ?_ ((h4 rds x hx w E.r _ (PH.le_refl _) m.mm.fitr (rdSs_ok hr h2)).mono fun e w' ⟨g1, g2⟩ => ⟨x, g1, ?_⟩)
        · simp only [execOp, resolve, h1, Deferred.ofValue, Sem.run_bind, Sem.run_pure, Result.andThen_ok, invoke, ha, Array.empty_append]
          rw [h3]
          congr 2
          simp
        · exact k B _ w' H (Fits.put f (by simpa [Nat.blt_eq] using ht) (show SV.rel E.P B (Zf E.r H) (.a (.v x)) x from rfl) hgd) (m.below g2) gg
      · cases hc
    · cases hc
  · cases hc
theorem RJ_F {φ : List RD → Value → Prop} {args : List SV} {rds : List RD} {t : Nat} {x : Value} (hc : fbOf [] fr gf o.op = some (φ, args)) (hr : rdSs args = some rds) (hgd : gdrop t gf = some gf') (hx : φ rds x)
    (k : RJ E all Q rest ((t, .a (.v x)) :: fr) gf' mu) (hg : o.guard = none := by exact rfl) (hd : o.dst = some t := by exact rfl) (ht : Nat.blt t E.N = true := by exact rfl) : RJ E all Q (o :: rest) fr gf mu :=
  RJ_of (OJ_F hc hr hgd hx (SJ_of k) hg hd ht)
theorem RJ_QF (hT : TOk E.P TT) {f : Nat} {ks : List Nat} {args : List SV} {mu1 : Mu} {res : SV} (C : Ans E.P f ks args mu1 res) {svs args' : List SV} {g : Option (Nat × Nat × Bool)} {t : Nat} {q : Ob} {es0 : List Prop} {gs0 : List GO} {js : JS} {es : List Prop} {gs : List GO}
    (hc : callC E.N all fr gf o = some (f, svs, g, t, gf')) (hw : wkSL mu [] ks svs = some (args', q)) (ha : SVs.imp E.P args' args) (hs : splitO fr gf (match g with | none => [] | some (_, d, b) => acts 6 gf d b) q [] [] = some (es0, gs0))
    (hau : goR TT E.N E.A.ks (auto TT E.N E.A.ks 400) all rest (frQ fr g t res) (gfQ gf' g t res) mu K es0 gs0 = some (js, es, gs)) (k : js.ok E R)
    (hko : keysO mu1 = [] := by exact rfl) (hres : res.inK ks = true := by exact rfl) (hin : WkIn mu mu1 := by repeat (first | exact trivial | refine And.intro ⟨_, rfl, ro_arr⟩ ?_ | refine And.intro ⟨_, rfl, ro_ro⟩ ?_ | refine And.intro ⟨_, rfl, ro_row⟩ ?_ | refine And.intro ⟨_, rfl, Ch.imp_refl _⟩ ?_)) (hen : Enters E.P f := by exact enters_B (by kernel_rfl)) (he : PAlls es := by repeat (first | exact trivial | refine And.intro rfl ?_)) (ho : GAlls gs := by first | exact trivial | ((simp only [GAlls, GO.p, InR]; (repeat' (first | exact trivial | refine And.intro ?_ ?_ | refine fun _ => ?_)) <;> first | omega | (simp only [decide_eq_true_eq, decide_eq_false_iff_not, Int.toNat_natCast] at *; omega) | (simp at *; omega)))) :
    RJ E all (KQ E.P R K) (o :: rest) fr gf mu := by
  obtain ⟨h1, h2⟩ := goR_ok hT (auto_ok hT 400) hau ⟨he, ho⟩
  exact RJ_of (OJ_Q C hc rfl hen hko hres hw ha hs h1.1 h1.2 hin (SJ_of (h2 k)))
end
end
end Go.Proofs.YthpjoddhlkcciaaGreat
