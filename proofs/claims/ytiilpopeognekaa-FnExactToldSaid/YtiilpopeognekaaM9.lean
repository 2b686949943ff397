/-
  Regions, branches, blocks, loops, returns: the rules by which a function's body is walked.
-/
import Derived.Test.YtiilpopeognekaaM8
namespace Go.Proofs.Ytiilpopeognekaa
open Go Go.RowKit
set_option linter.unusedVariables false
set_option linter.unusedSimpArgs false

section
variable {P : Program} {ops : Array Oper} {Q : Exit → Act → World → Prop} {a : Act} {w w' : World} {rest : List Oper} {o : Oper}
theorem wpl_val (hw : Region.wanted o (yielded ops a.tmps) = true) {v : Value} (hr : (execOp a.eval o).run P w = .ok (.value v) w') (h : wpList P ops Q rest (a.put o.dst v) w') : wpList P ops Q (o :: rest) a w := by
  unfold wpList
  rw [if_pos hw]
  exact .inl (by unfold Oper.wp; rw [hr]; exact h)
theorem wpl_unit (hw : Region.wanted o (yielded ops a.tmps) = true) (hr : (execOp a.eval o).run P w = .ok .skip w') (h : wpList P ops Q rest (a.put o.dst undef) w') : wpList P ops Q (o :: rest) a w := by
  unfold wpList
  rw [if_pos hw]
  exact .inl (by unfold Oper.wp; rw [hr]; exact h)
theorem wpl_off (hw : Region.wanted o (yielded ops a.tmps) = false) (h : wpList P ops Q rest (a.put o.dst undef) w) : wpList P ops Q (o :: rest) a w := by
  unfold wpList
  rw [if_neg (by rw [hw]; simp)]
  exact h
theorem wanted_none (h : o.guard = none) : Region.wanted o (yielded ops a.tmps) = true := by simp [Region.wanted, h]
theorem wanted_some {j d : Nat} {b : Bool} (h : o.guard = some (j, b)) (hd : (ops[j]?).bind (·.dst) = some d) : Region.wanted o (yielded ops a.tmps) = true ↔ a.tmps.getD d undef = .bool b := by
  simp only [Region.wanted, h, yielded, hd, Option.bind_some]
  rw [Array.getD_eq_getD_getElem?]
  cases e : a.tmps[d]? with
  | none => simp [undef]
  | some v => cases v <;> simp
end

section
variable {P : Program} {w w0 : World} {B : BE} {r : PH} {D : Nat → Nat → Prop} {mu mu' : Mu} {ga : Ga} {H : Nat → PH} {TT : List TI} {N : Nat} {fr fr' : Fr} {gf gf' : GF} {a : Act} {all : List Oper} {Q : Exit → Act → World → Prop}
theorem run_ok (hT : TOk P TT) : ∀ (rest : List Oper) (fr : Fr) (gf : GF) (mu : Mu) (es : List Prop) (gs : List GO) {rest' : List Oper} {fr' : Fr} {gf' : GF} {mu' : Mu} {es' : List Prop} {gs' : List GO}, run TT N all ga rest fr gf mu es gs = some (rest', fr', gf', mu', es', gs') → PAlls es' ∧ GAlls gs' →
    (PAlls es ∧ GAlls gs) ∧ (RJ P N r D w0 all Q rest' fr' gf' mu' ga → RJ P N r D w0 all Q rest fr gf mu ga)
  | [], fr, gf, mu, es, gs, rest', fr', gf', mu', es', gs', h, ho => by
    simp only [run, Option.some.injEq, Prod.mk.injEq] at h
    obtain ⟨rfl, rfl, rfl, rfl, rfl, rfl⟩ := h
    exact ⟨ho, id⟩
  | o :: rest, fr, gf, mu, es, gs, rest', fr', gf', mu', es', gs', h, ho => by
    simp only [run] at h
    split at h
    · -- no guard
      rename_i hg
      split at h
      · rename_i x q t hp hd
        split at h
        · rename_i es2 gs2 gf2 hs hgd
          cases hb : Nat.blt t N with
          | false => rw [hb] at h; cases h
          | true =>
            rw [hb] at h
            simp only [cond_true] at h
            obtain ⟨h1, h2⟩ := run_ok hT rest _ _ _ _ _ h ho
            refine ⟨splitO_mono hs h1, fun hr B a w H f m g => wpl_val (wanted_none hg) (pst_ok hT f g m.mr (g := []) (fun _ _ hm => by cases hm) hp (splitO_ok f (fun _ _ hm => by cases hm) hs h1.1 h1.2)) ?_⟩
            rw [hd]
            exact h2 hr B _ w H (f.put (by simpa [Nat.blt_eq] using hb) rfl hgd) m g
        · cases h
      · split at h
        · rename_i x mu2 q hm
          split at h
          · rename_i es2 gs2 hs
            split at h
            · rename_i x t hd
              split at h
              · rename_i gf2 hgd
                cases hb : Nat.blt t N with
                | false => rw [hb] at h; cases h
                | true =>
                  rw [hb] at h
                  simp only [cond_true] at h
                  obtain ⟨h1, h2⟩ := run_ok hT rest _ _ _ _ _ h ho
                  refine ⟨splitO_mono hs h1, fun hr B a w H f m g => ?_⟩
                  obtain ⟨nx, w', B', H', r1, r2, r3, r4, r5, _⟩ := mst_ok hT f m hm (splitO_ok f (fun _ _ hm => by cases hm) hs h1.1 h1.2)
                  rw [r2 _ rfl] at r1
                  refine wpl_val (wanted_none hg) r1 ?_
                  rw [hd]
                  exact h2 hr B' _ w' H' (r5.put (by simpa [Nat.blt_eq] using hb) rfl hgd) r4 g
              · cases h
            · rename_i hd
              obtain ⟨h1, h2⟩ := run_ok hT rest _ _ _ _ _ h ho
              refine ⟨splitO_mono hs h1, fun hr B a w H f m g => ?_⟩
              obtain ⟨nx, w', B', H', r1, r2, r3, r4, r5, _⟩ := mst_ok hT f m hm (splitO_ok f (fun _ _ hm => by cases hm) hs h1.1 h1.2)
              rw [r3 rfl] at r1
              refine wpl_unit (wanted_none hg) r1 ?_
              rw [hd]
              exact h2 hr B' _ w' H' r5 r4 g
            · cases h
          · cases h
        · simp only [Option.some.injEq, Prod.mk.injEq] at h
          obtain ⟨rfl, rfl, rfl, rfl, rfl, rfl⟩ := h
          exact ⟨ho, id⟩
    · -- a guard
      rename_i j b hg
      split at h
      · rename_i d hs0
        split at h
        · rename_i x q t hp hd
          split at h
          · rename_i hn
            split at h
            · rename_i es2 gs2 gf2 hs hgd
              cases hb : (Nat.blt t N && !(Nat.beq t d)) with
              | false => rw [hb] at h; cases h
              | true =>
                rw [hb] at h
                simp only [cond_true] at h
                simp only [Bool.and_eq_true, Bool.not_eq_true'] at hb
                obtain ⟨h1, h2⟩ := run_ok hT rest _ _ _ _ _ h ho
                have htd : t ≠ d := Nat.ne_of_beq_eq_false hb.2
                have htN : t < N := by simpa [Nat.blt_eq] using hb.1
                have hops : (all.toArray[j]?).bind (·.dst) = some d := by
                  unfold gSlot at hs0
                  rw [nth_eq] at hs0
                  simp only [List.getElem?_toArray]
                  cases e : all[j]? with
                  | none => rw [e] at hs0; cases hs0
                  | some o' => rw [e] at hs0; exact hs0
                refine ⟨splitO_mono hs h1, fun hr B a w H f m g => ?_⟩
                have hw := wanted_some (ops := all.toArray) (a := a) hg hops
                by_cases hyes : a.tmps.getD d undef = .bool b
                · have hacts := acts_ok f 6 d b hyes
                  refine wpl_val (hw.2 hyes) (pst_ok hT f g m.mr hacts hp (splitO_ok f hacts hs h1.1 h1.2)) ?_
                  rw [hd]
                  exact h2 hr B _ w H (f.putG htN htd hn hgd (.inl ⟨hyes, rfl⟩)) m g
                · refine wpl_off (by
                    cases e : Region.wanted o (yielded all.toArray a.tmps) with
                    | false => rfl
                    | true => exact absurd (hw.1 e) hyes) ?_
                  rw [hd]
                  exact h2 hr B _ w H (f.putG htN htd hn hgd (.inr ⟨hyes, rfl⟩)) m g
            · cases h
          · cases h
        · simp only [Option.some.injEq, Prod.mk.injEq] at h
          obtain ⟨rfl, rfl, rfl, rfl, rfl, rfl⟩ := h
          exact ⟨ho, id⟩
      · cases h

/-! ### what stands behind a piece of code -/
inductive KF where
  | seq (c : Code)
  | blk (id : Nat)
  | loop (I : Act → World → Prop)
def KQ (P : Program) (R : Exit → Act → World → Prop) : List KF → Exit → Act → World → Prop
  | [] => R
  | .seq c :: K => Exit.then (fun a w => c.wp P (KQ P R K) a w) (KQ P R K)
  | .blk id :: K => Exit.inBlock id (KQ P R K)
  | .loop I :: K => Exit.then I (KQ P R K)
inductive Nx where
  | code (c : Code) (K : List KF)
  | inv (I : Act → World → Prop)
  | fin
def nxN : List KF → Nx
  | [] => .fin
  | .seq c :: K => .code c K
  | .blk _ :: K => nxN K
  | .loop I :: _ => .inv I
def nxE (id : Nat) : List KF → Option Nx
  | [] => none
  | .seq _ :: K => nxE id K
  | .blk j :: K => bif Nat.beq id j then some (nxN K) else nxE id K
  | .loop _ :: K => nxE id K
def Nx.holds (P : Program) (R : Exit → Act → World → Prop) (e : Exit) (a : Act) (w : World) : Nx → Prop
  | .code c K => c.wp P (KQ P R K) a w
  | .inv I => I a w
  | .fin => R e a w
variable {R : Exit → Act → World → Prop} {K : List KF}
theorem nxN_ok : ∀ {K : List KF}, (nxN K).holds P R .normal a w → KQ P R K .normal a w
  | [], h => h
  | .seq c :: K, h => h
  | .blk id :: K, h => nxN_ok (K := K) h
  | .loop I :: K, h => h
theorem nxE_ok {id : Nat} : ∀ {K : List KF} {x : Nx}, nxE id K = some x → x.holds P R .normal a w → KQ P R K (.exit id) a w
  | [], x, h, _ => by cases h
  | .seq c :: K, x, h, hx => nxE_ok (K := K) h hx
  | .loop c :: K, x, h, hx => nxE_ok (K := K) h hx
  | .blk j :: K, x, h, hx => by
    simp only [nxE] at h
    simp only [KQ, Exit.inBlock]
    cases e : Nat.beq id j with
    | true =>
      rw [e] at h
      simp at h
      subst h
      rw [if_pos (Nat.eq_of_beq_eq_true e)]
      exact nxN_ok hx
    | false =>
      rw [e] at h
      rw [if_neg (Nat.ne_of_beq_eq_false e)]
      exact nxE_ok (K := K) h hx
theorem ret_ok : ∀ {K : List KF}, R .ret a w → KQ P R K .ret a w
  | [], h => h
  | .seq c :: K, h => ret_ok (K := K) h
  | .blk id :: K, h => ret_ok (K := K) h
  | .loop I :: K, h => ret_ok (K := K) h

/-- a piece of code, from every frame and memory that fit -/
def T (P : Program) (N : Nat) (r : PH) (D : Nat → Nat → Prop) (w0 : World) (R : Exit → Act → World → Prop) (c : Code) (fr : Fr) (mu : Mu) (ga : Ga) (K : List KF) : Prop :=
  ∀ B a w H, Fits B N fr [] a → Mem B r D w0 mu w H → GaOk r ga → c.wp P (KQ P R K) a w
/-- what stands behind, from every frame and memory that fit -/
def X (P : Program) (N : Nat) (r : PH) (D : Nat → Nat → Prop) (w0 : World) (R : Exit → Act → World → Prop) (x : Nx) (fr : Fr) (mu : Mu) (ga : Ga) : Prop :=
  ∀ B a w H, Fits B N fr [] a → Mem B r D w0 mu w H → GaOk r ga → x.holds P R .normal a w

theorem T_seq {c d : Code} (h : T P N r D w0 R c fr mu ga (.seq d :: K)) : T P N r D w0 R (.seq c d) fr mu ga K := fun B a w H f m g => wp_seq (h B a w H f m g)
theorem T_block {id : Nat} {c : Code} (h : T P N r D w0 R c fr mu ga (.blk id :: K)) : T P N r D w0 R (.block id c) fr mu ga K := fun B a w H f m g => wp_block (h B a w H f m g)
theorem T_skip (h : X P N r D w0 R (nxN K) fr mu ga) : T P N r D w0 R .skip fr mu ga K := fun B a w H f m g => wp_skip (nxN_ok (h B a w H f m g))
theorem T_label {l : Nat} (h : X P N r D w0 R (nxN K) fr mu ga) : T P N r D w0 R (.label l) fr mu ga K := fun B a w H f m g => wp_label (nxN_ok (h B a w H f m g))
theorem T_exit {id : Nat} {x : Nx} (hx : nxE id K = some x) (h : X P N r D w0 R x fr mu ga) : T P N r D w0 R (.exit id) fr mu ga K := fun B a w H f m g => wp_exit (nxE_ok hx (h B a w H f m g))
theorem X_code {c : Code} (h : T P N r D w0 R c fr mu ga K) : X P N r D w0 R (.code c K) fr mu ga := h
theorem T_cond {c : Operand} {x y : Code} {b : Bool} (hc : ev [] fr [] c = some (.a (.v (.bool b)))) (h1 : b = true → T P N r D w0 R x fr mu ga K) (h2 : b = false → T P N r D w0 R y fr mu ga K) : T P N r D w0 R (.cond c x y) fr mu ga K := fun B a w H f m g => by
  have e := f.ev (g := []) (fun _ _ hm => by cases hm) hc
  exact wp_cond_split e (fun e => h1 e B a w H f m g) (fun e => h2 e B a w H f m g)

theorem T_condD {c : Operand} {x y : Code} {p : Prop} [Decidable p] (hc : ev [] fr [] c = some (.a (.v (.bool (decide p))))) (h1 : p → T P N r D w0 R x fr mu ga K) (h2 : ¬p → T P N r D w0 R y fr mu ga K) : T P N r D w0 R (.cond c x y) fr mu ga K :=
  T_cond hc (fun e => h1 (of_decide_eq_true e)) fun e => h2 (of_decide_eq_false e)
theorem T_condE {c : Operand} {x y : Code} {u v : Int} (hc : ev [] fr [] c = some (.a (.v (.bool (u == v))))) (h1 : u = v → T P N r D w0 R x fr mu ga K) (h2 : u ≠ v → T P N r D w0 R y fr mu ga K) : T P N r D w0 R (.cond c x y) fr mu ga K :=
  T_cond hc (fun e => h1 (by simpa using e)) fun e => h2 (by simpa using e)
theorem T_condN {c : Operand} {x y : Code} {u v : Int} (hc : ev [] fr [] c = some (.a (.v (.bool (u != v))))) (h1 : u ≠ v → T P N r D w0 R x fr mu ga K) (h2 : u = v → T P N r D w0 R y fr mu ga K) : T P N r D w0 R (.cond c x y) fr mu ga K :=
  T_cond hc (fun e => h1 (by simpa using e)) fun e => h2 (by simpa using e)
theorem T_condX {c : Operand} {x y : Code} {b : Bool} (hc : ev [] fr [] c = some (.a (.v (.bool (!b))))) (h1 : b = false → T P N r D w0 R x fr mu ga K) (h2 : b = true → T P N r D w0 R y fr mu ga K) : T P N r D w0 R (.cond c x y) fr mu ga K :=
  T_cond hc (fun e => h1 (by simpa using e)) fun e => h2 (by simpa using e)

/-! ### regions -/
theorem T_region {id : Nat} {l : List Oper} (h : RJ P N r D w0 l (KQ P R K) l fr [] mu ga) : T P N r D w0 R (.region id l.toArray false) fr mu ga K := fun B a w H f m g => wp_region_lit (h B a w H f m g)
theorem RJ_run (hT : TOk P TT) {rest rest' : List Oper} {es : List Prop} {gs : List GO} (h : run TT N all ga rest fr gf mu [] [] = some (rest', fr', gf', mu', es, gs)) (he : PAlls es) (ho : GAlls gs) (k : RJ P N r D w0 all Q rest' fr' gf' mu' ga) : RJ P N r D w0 all Q rest fr gf mu ga :=
  (run_ok hT rest fr gf mu [] [] h ⟨he, ho⟩).2 k
theorem Fits.ungf (f : Fits B N fr gf a) : Fits B N fr [] a := by
  refine ⟨f.size, f.defers, fun t x e _ => ?_, fun _ _ _ _ h => (by cases h), fun _ _ _ _ h => (by cases h), fun _ _ _ _ h => (by cases h)⟩
  refine f.vfr t x e ?_
  cases c : glk t gf with
  | none => rfl
  | some q => rw [f.vno t q.1 q.2.1 q.2.2 (glk_mem c)] at e; cases e
theorem RJ_end (h : X P N r D w0 R (nxN K) fr mu ga) : RJ P N r D w0 all (KQ P R K) [] fr gf mu ga := fun B a w H f m g => wpList_nil (nxN_ok (h B a w H f.ungf m g))

theorem RJ_endC {d : Code} {K' : List KF} (h : nxN K = .code d K') (k : T P N r D w0 R d fr mu ga K') : RJ P N r D w0 all (KQ P R K) [] fr gf mu ga := RJ_end (by rw [h]; exact k)
theorem T_skipC {d : Code} {K' : List KF} (h : nxN K = .code d K') (k : T P N r D w0 R d fr mu ga K') : T P N r D w0 R .skip fr mu ga K := T_skip (by rw [h]; exact k)
theorem T_labelC {l : Nat} {d : Code} {K' : List KF} (h : nxN K = .code d K') (k : T P N r D w0 R d fr mu ga K') : T P N r D w0 R (.label l) fr mu ga K := T_label (by rw [h]; exact k)
theorem T_exitC {id : Nat} {d : Code} {K' : List KF} (h : nxE id K = some (.code d K')) (k : T P N r D w0 R d fr mu ga K') : T P N r D w0 R (.exit id) fr mu ga K := T_exit h k

/-! ### weakening -/
def WkFr (fr : Fr) : Fr → Prop
  | [] => True
  | (t, x) :: r => mlk t fr = some x ∧ WkFr fr r
def Ch.imp (c d : Ch) : Prop := ∀ B k h, c.sat B k h → d.sat B k h
theorem Ch.imp_refl (c : Ch) : c.imp c := fun _ _ _ h => h
def WkMu (mu : Mu) : Mu → Prop
  | [] => True
  | (k, c) :: r => (∃ d, mlk k mu = some d ∧ d.imp c) ∧ WkMu mu r
theorem WkFr.get : ∀ {l : Fr}, WkFr fr l → ∀ t x, mlk t l = some x → mlk t fr = some x
  | [], _, _, _, h => by cases h
  | (j, y) :: r, h, t, x, e => by
    rw [mlk_cons] at e
    by_cases hj : j = t
    · rw [if_pos hj] at e; injection e with e; rw [← e, ← hj]; exact h.1
    · rw [if_neg hj] at e; exact WkFr.get h.2 t x e
theorem WkMu.get : ∀ {l : Mu}, WkMu mu l → ∀ k c, mlk k l = some c → ∃ d, mlk k mu = some d ∧ d.imp c
  | [], _, _, _, h => by cases h
  | (j, y) :: r, h, k, c, e => by
    rw [mlk_cons] at e
    by_cases hj : j = k
    · rw [if_pos hj] at e; injection e with e; rw [← e, ← hj]; exact h.1
    · rw [if_neg hj] at e; exact WkMu.get h.2 k c e
theorem Fits.wk (f : Fits B N fr [] a) (h : WkFr fr fr') : Fits B N fr' [] a :=
  ⟨f.size, f.defers, fun t x e _ => f.vfr t x (h.get t x e) rfl, fun _ _ _ _ h => (by cases h), fun _ _ _ _ h => (by cases h), fun _ _ _ _ h => (by cases h)⟩
theorem Mem.wk (m : Mem B r D w0 mu w H) (h : WkMu mu mu') : Mem B r D w0 mu' w H :=
  ⟨fun k c e => by
    obtain ⟨d, d1, d2⟩ := h.get k c e
    exact d2 B k _ (m.sat k d d1), m.fit, m.dj, m.djr, m.fitr, m.keep, m.dom⟩
theorem T_wk {c : Code} (h1 : WkFr fr fr') (h2 : WkMu mu mu') (h : T P N r D w0 R c fr' mu' ga K) : T P N r D w0 R c fr mu ga K := fun B a w H f m g => h B a w H (f.wk h1) (m.wk h2) g

/-! ### loops -/
def FM (N : Nat) (r : PH) (D : Nat → Nat → Prop) (w0 : World) (fr : Fr) (mu : Mu) (a : Act) (w : World) : Prop := ∃ B H, Fits B N fr [] a ∧ Mem B r D w0 mu w H
/-- what a round must come to -/
def Inv {ι : Type} (N : Nat) (r : PH) (D : Nat → Nat → Prop) (w0 : World) (F : ι → Fr) (M : ι → Mu) (φ : ι → Prop) (m : ι → Nat) (n : Nat) (a : Act) (w : World) : Prop := ∃ y, φ y ∧ m y < n ∧ FM N r D w0 (F y) (M y) a w
theorem T_loop {ι : Type} {c : Code} (F : ι → Fr) (M : ι → Mu) (φ : ι → Prop) (m : ι → Nat) (x : ι) (h0 : φ x) (hf : WkFr fr (F x)) (hm : WkMu mu (M x))
    (body : ∀ y, φ y → T P N r D w0 R c (F y) (M y) ga (.loop (Inv N r D w0 F M φ m (m y)) :: K)) : T P N r D w0 R (.loop c) fr mu ga K := fun B a w H f me g => by
  refine wp_loop_ghost (fun n a w => ∃ y, φ y ∧ m y = n ∧ FM N r D w0 (F y) (M y) a w) (m x) ⟨x, h0, rfl, B, H, f.wk hf, me.wk hm⟩ ?_
  rintro n a w ⟨y, hy, rfl, B, H, f, me⟩
  refine wp_mono (body y hy B a w H f me g) ?_
  intro e a' w' q
  cases e with
  | normal =>
    obtain ⟨z, z1, z2, z3⟩ := q
    exact ⟨m z, z2, z, z1, rfl, z3⟩
  | exit id => exact q
  | goto l => exact q
  | ret => exact q
  | panic ch => exact q
  | outgrown => exact q
theorem X_inv {ι : Type} {F : ι → Fr} {M : ι → Mu} {φ : ι → Prop} {m : ι → Nat} {n : Nat} (y : ι) (h1 : φ y) (h2 : m y < n) (hf : WkFr fr (F y)) (hm : WkMu mu (M y)) : X P N r D w0 R (.inv (Inv N r D w0 F M φ m n)) fr mu ga :=
  fun B a w H f me _ => ⟨y, h1, h2, B, H, f.wk hf, me.wk hm⟩

/-! ### entry and return -/
def frOf : Nat → List SV → Fr
  | _, [] => []
  | i, x :: r => (i, x) :: frOf (i + 1) r
theorem frOf_get : ∀ (l : List SV) (i t : Nat) (x : SV), mlk t (frOf i l) = some x → i ≤ t ∧ l[t - i]? = some x
  | [], _, _, _, h => by cases h
  | y :: l, i, t, x, h => by
    simp only [frOf] at h
    rw [mlk_cons] at h
    by_cases e : i = t
    · subst e; rw [if_pos rfl] at h; injection h with h; subst h; simp
    · rw [if_neg e] at h
      obtain ⟨h1, h2⟩ := frOf_get l (i + 1) t x h
      refine ⟨by omega, ?_⟩
      rw [show t - i = (t - (i + 1)) + 1 from by omega, List.getElem?_cons_succ]
      exact h2
theorem enter {f : FuncId} {fn : Func} {c : Code} {args : Array Value} {Rp : Ending → World → Prop} (hf : P.funcs[f]? = some fn) (hb : fn.body = some c) (hN : fn.ntmps = N) (svs : List SV) (B : BE) (hargs : args = (svs.map (SV.den B)).toArray) (hlen : svs.length ≤ N)
    (m : Mem B r D w mu w H) (g : GaOk r ga) (h : T P N r D w (bodyPost P fn Rp) c (frOf 0 svs) mu ga []) : Calls P f args w Rp := by
  refine calls_of_wp hf hb ?_
  subst hargs
  refine h B _ w H ⟨?_, rfl, fun t x e _ => ?_, fun _ _ _ _ h => (by cases h), fun _ _ _ _ h => (by cases h), fun _ _ _ _ h => (by cases h)⟩ m g
  · simp [hN]; omega
  · obtain ⟨_, h2⟩ := frOf_get svs 0 t x e
    simp only [Nat.sub_zero] at h2
    have hlt : t < svs.length := (List.getElem?_eq_some_iff.1 h2).1
    rw [Array.getD_eq_getD_getElem?, Array.getElem?_append_left (by simpa using hlt)]
    simp [h2]
theorem Mem.start {w : World} (hr : Fit r w) (B : BE) (D : Nat → Nat → Prop) : Mem B r D w [] w (fun _ => PH.emp) :=
  ⟨fun _ _ e => (by cases e), fun _ => Fit.emp _, fun _ _ _ => PH.dj_emp _, fun _ => PH.emp_dj _, hr, Keep.refl _ _, fun _ _ _ e => absurd rfl e⟩
theorem run_results {fn : Func} {ts : List Nat} (h : fn.results = (ts.map ResultVar.tmp).toArray) (tmps : Array Value) : (results fn tmps).run P w = .ok (if h : (ts.map fun t => tmps.getD t undef).length = 1 then (ts.map fun t => tmps.getD t undef)[0] else .tuple (ts.map fun t => tmps.getD t undef).toArray) w := by
  have key : ∀ (f : ResultVar → Sem Value), (∀ t, f (.tmp t) = pure (tmps.getD t undef)) → ∀ ts : List Nat, ((ts.map ResultVar.tmp).mapM f).run P w = .ok (ts.map fun t => tmps.getD t undef) w := fun f hf ts => by
    induction ts with
    | nil => simp
    | cons t r ih => simp only [List.map_cons, List.mapM_cons, Sem.run_bind, hf, Sem.run_pure, Result.andThen_ok, ih]
  unfold results
  rw [h, Sem.run_bind, Array.mapM_eq_mapM_toList, Sem.run_map, List.toList_toArray, key _ (fun _ => rfl) ts]
  rfl
def allGet (fr : Fr) : List Nat → Option (List SV)
  | [] => some []
  | t :: r => match mlk t fr, allGet fr r with
    | some x, some l => some (x :: l)
    | _, _ => none
theorem allGet_spec (f : Fits B N fr [] a) : ∀ {ts : List Nat} {l : List SV}, allGet fr ts = some l → (ts.map fun t => a.tmps.getD t undef) = l.map (SV.den B)
  | [], l, h => by simp [allGet] at h; subst h; rfl
  | t :: r, l, h => by
    simp only [allGet] at h
    cases e : mlk t fr with
    | none => rw [e] at h; cases h
    | some x =>
      cases e2 : allGet fr r with
      | none => rw [e, e2] at h; cases h
      | some l' => rw [e, e2] at h; injection h with h; subst h; rw [List.map_cons, List.map_cons, allGet_spec f e2, f.vfr t x e rfl]
def resV : List Value → Value
  | [v] => v
  | l => .tuple l.toArray
theorem resV_eq : ∀ m : List Value, (if h : m.length = 1 then m[0] else .tuple m.toArray) = resV m
  | [] => rfl
  | [_] => rfl
  | _ :: _ :: _ => rfl
theorem T_ret {fn : Func} {Rp : Ending → World → Prop} (ts : List Nat) (hr : fn.results = (ts.map ResultVar.tmp).toArray) {l : List SV} (hl : allGet fr ts = some l) (h : ∀ B w H, Mem B r D w0 mu w H → Rp (.returned (resV (l.map (SV.den B)))) w) : T P N r D w0 (bodyPost P fn Rp) .ret fr mu ga K :=
  fun B a w H f m g => wp_ret (ret_ok ⟨f.defers, _, run_results hr _, by
    rw [resV_eq, allGet_spec f hl]
    exact h B w H m⟩)
end
end Go.Proofs.Ytiilpopeognekaa
