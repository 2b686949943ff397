
/-
  clear; a slice against nil; append of what is read; make; literals.
-/
import Derived.Test.YtiegllklalplnaaGreatW17e
namespace Go.Proofs.YtiegllklalplnaaGreat
open Go Go.RowKit
set_option linter.unusedVariables false
set_option linter.unusedSimpArgs false

theorem vcells_sz {z : Value} {l : List V} (h : vcells z = some l) : z.cells.size = l.length := by
  have := V.rels_length (vcellsL_rel (B := fun _ => undef) (Z := fun _ => PH.emp) z)
  rw [vcells_eq] at h
  injection h with h
  rw [← h, ← this, Array.length_toList]
theorem vcells_zs {z : Value} {zs : List Value} (h : vcells z = some (zs.map V.v)) : z.cells.toList = zs := by
  have := vcellsL_rel (B := fun _ => undef) (Z := fun _ => PH.emp) z
  rw [vcells_eq] at h
  injection h with h
  rw [h] at this
  have key : ∀ {l m : List Value}, V.rels (fun _ => undef) (fun _ => PH.emp) (l.map V.v) m → m = l := fun {l} => by
    induction l with
    | nil => intro m h; exact h
    | cons x l ih =>
      rintro m ⟨y, t, rfl, h1, h2⟩
      have h1 : y = x := h1
      rw [h1, ih h2]
  exact key this
def zerosV (zs : List Value) : Nat → List V
  | 0 => []
  | n + 1 => zs.map V.v ++ zerosV zs n
section
variable {E : Env} {B : BE} {mu mu' : Mu} {w : World} {H : Nat → PH} {TT : List TI} {fr fr' : Fr} {gf gf' : GF} {a : Act} {all rest : List Oper} {Q : Exit → Act → World → Prop} {o : Oper} {J : Act → World → Prop} {G : AG} {R : Exit → Act → World → Prop} {K : List KF}
theorem slc_of (hT : TOk E.P TT) {ts : Nat} {id sz1 by1 e : Nat} {z : Value} {ef : Bool} {te : TI} (h1 : tlk ts TT = some ⟨id, sz1, by1, .slc e, z, ef⟩) (h2 : tlk e TT = some te) : E.P.underlying ts = some (.slice te.id) ∧ te.ok E.P := by
  obtain ⟨t1, t2⟩ := hT.get h1
  obtain ⟨d, d1, d2⟩ := t2.desc
  simp only at t1 d1 d2
  subst t1
  obtain rfl := shapeK_slc d2
  obtain ⟨u1, u2⟩ := hT.get h2
  subst u1
  exact ⟨d1, u2⟩
/-- clear of a part of an own array; t is the slot that names the part -/
theorem OJ_clear (hT : TOk E.P TT) (t k : Nat) {ts : Nat} {n : Nat} {f : Nat → List D} {lo hi : Int} {id sz1 by1 e : Nat} {z : Value} {ef : Bool} {te : TI} {md : Mu} {fr' : Fr} {gf2 : GF} {l : List V}
    (hop : o.op = .call { callee := .builtin .clear, args := #[.tmp t], argTypes := #[ts] }) (hx : mlk t fr = some (.a (.sb k te.sz lo hi))) (hgt : glk t gf = none) (h1 : tlk ts TT = some ⟨id, sz1, by1, .slc e, z, ef⟩) (h2 : tlk e TT = some te) (hk : mlk k mu = some (.arr te.sz n f)) (hb : 0 ≤ lo ∧ lo ≤ hi ∧ hi ≤ n) (hgd : gdrop t gf = some gf')
    (hmd : mdropKs [k, k] mu = some md) (hcut : cutKs [k] fr gf' = some (fr', gf2)) (hz : vcells te.zero = some l)
    (kk : SJ G J E ((t, .a .any) :: fr') gf2 ((k, .arr te.sz n fun i => if lo ≤ (i : Int) ∧ (i : Int) < hi then zsD te.zero else f i) :: md)) (hzl : lenEq l te.sz = true := by exact rfl) (hone : allC l = true := by exact rfl) (hpos : 0 < te.sz := by exact Nat.lt_of_sub_eq_succ rfl) (hkeys : keysB [k] [k] [(k, .arr te.sz n f)] fr gf mu E.A.ks G.ks = true := by exact rfl)
    (hg : o.guard = none := by exact rfl) (hd : o.dst = none := by exact rfl) (ht : Nat.blt t E.N = true := by exact rfl) : OJ G E all Q J o fr gf mu := by
  have kself : keysO [(k, Ch.arr te.sz n f)] = [k] := rfl
  refine OJ_B0 (ι := Unit) (ks := [k]) (nk := [k]) (mu1 := [(k, .arr te.sz n f)]) (φ := fun _ => True) (res := fun _ => .a .any) (mu1' := fun _ => [(k, .arr te.sz n fun i => if lo ≤ (i : Int) ∧ (i : Int) < hi then zsD te.zero else f i)]) t (fun B a w H ff mm => ?_) hg hd ht hgd (fun _ => rfl) hkeys (fun _ => ?_) hmd hcut fun _ _ => kk
  · obtain ⟨d1, u2⟩ := slc_of hT h1 h2
    obtain ⟨i, i1, i2, i3, i4⟩ := u2.info
    have hzz : te.zero.cells.size = te.sz := by rw [vcells_sz hz, lenEq_spec _ _ hzl]
    have hone' : ∀ v ∈ te.zero.cells.toList, oneV v = true := by
      have h0 := vcellsL_rel (B := fun _ => undef) (Z := fun _ => PH.emp) te.zero
      rw [vcells_eq] at hz
      injection hz with hz
      rw [hz] at h0
      have key : ∀ {l : List V} {m : List Value}, allC l = true → V.rels (fun _ => undef) (fun _ => PH.emp) l m → ∀ v ∈ m, oneV v = true := fun {l} => by
        induction l with
        | nil => intro m _ h v hv; have h : m = [] := h; rw [h] at hv; cases hv
        | cons x l ih =>
          rintro m hc ⟨y, t, rfl, q1, q2⟩ v hv
          simp only [allC] at hc
          cases c : x.okC with
          | false => rw [c] at hc; cases hc
          | true =>
            rw [c] at hc
            cases hv with
            | head => exact okC_one c q1
            | tail _ hv => exact ih hc q2 v hv
      exact key hone h0
    have e1 : a.tmps.getD t undef = sbV (B k) te.sz lo.toNat (hi - lo).toNat ∧ _ := ff.vfr t _ hx hgt
    have e2 : a.eval (.tmp t) = sbV (B k) te.sz lo.toNat (hi - lo).toNat := e1.1
    have sk : D.own (H k) (.sl te.sz n f) (B k) := mm.mm.sat k _ hk
    obtain ⟨A, c, hB, _⟩ := own_slice sk
    have hz0 : (zeroValue te.id).run E.P w = .ok te.zero w := by simp only [zeroValue, Sem.run_bind, run_info i1, Result.andThen_ok, i4, Sem.run_pure]
    have fin : ∀ {w' : World} {h' : PH}, (Builtin.clear_ #[ts] o.type #[a.eval (.tmp t)]).run E.P w = .ok (.tuple #[]) w' → D.own h' (.sl te.sz n fun (i : Nat) => if lo ≤ (i : Int) ∧ (i : Int) < hi then zsD te.zero else f i) (B k) → Fit h' w' → Keep (fun b o => H k b o ≠ none) w w' → (∀ b o, h' b o ≠ none → H k b o ≠ none ∨ w.heap.size ≤ b) →
        ∃ y v w' B' H', (execOp a.eval o).run E.P w = .ok (.value v) w' ∧ Ret1 E.P [k] B (AllP E.r (keysO [(k, Ch.arr te.sz n f)]) H) [(k, .arr te.sz n f)] w (onlyK (keysO [(k, Ch.arr te.sz n f)]) H) (fun _ : Unit => True) (fun _ => .a .any) (fun _ => [(k, .arr te.sz n fun (i : Nat) => if lo ≤ (i : Int) ∧ (i : Int) < hi then zsD te.zero else f i)]) y (a.tmps.getD t undef) w' B' H' := fun {w' h'} q1 q2 q3 q4 q5 => by
      have hon : onlyK (keysO [(k, Ch.arr te.sz n f)]) H k = H k := onlyK_self k (by simp [kself, hasK, Nat.beq_refl]) H
      refine ⟨(), .tuple #[], w', _, _, ?_, Ret1.sameK (B := B) (h' := h') (AllP_fit mm.mm) kself (onlyK_dj mm _) q2 q3 (q4.mono fun b _ o h => by rw [hon]; exact h) fun b o h => by rw [hon]; exact q5 b o h⟩
      obtain ⟨dst, op, type, pos, after, guard⟩ := o
      simp only at hop q1
      subst hop
      simp only [execOp, resolve, Sem.run_bind, Sem.run_pure, Result.andThen_ok, invoke, builtin, List.map_toArray, List.map_cons, List.map_nil, q1]
    rw [hB] at sk e2
    by_cases hl : lo < hi
    · obtain ⟨b, off, rfl, g1, g2⟩ := own_clear sk hb.1 hb.2.1 hb.2.2 hl hzz hpos
      obtain ⟨A', c', e5, e6, _⟩ := sk
      injection e5 with e5 e7 e8
      have hcl : ¬ c = lo.toNat := by omega
      rw [sbV, if_neg hcl] at e2
      simp only [Option.map_some, add_mk] at e2
      obtain ⟨w', r1, r2, r3, r4⟩ := run_storeCells (P := E.P) (Builtin.zeroCells te.zero.cells (hi - lo).toNat).toList w b (off + lo.toNat * te.sz) 0 (H k) (mm.mm.fit k) (by simpa using g1) (fun v hv => hone' v (zeroCells_mem hv))
      refine fin (w' := w') (h' := (H k).updL b (off + lo.toNat * te.sz) (Builtin.zeroCells te.zero.cells (hi - lo).toNat).toList) ?_ (by rw [hB]; exact g2) (by simpa using r2) (r3.mono fun x _ y hxy => ?_) fun b' o' hb' => .inl (PH.updL_ne g1 hb')
      · rw [e2]
        obtain ⟨m, hm⟩ : ∃ m, (hi - lo).toNat = m + 1 := ⟨(hi - lo).toNat - 1, by omega⟩
        rw [hm] at r1 ⊢
        simp only [Builtin.clear_, Sem.run_bind, run_underlying d1, Result.andThen_ok, List.getElem?_toArray, List.getElem?_cons_zero, hz0, storeCells] at r1 ⊢
        rw [r1]; rfl
      · obtain ⟨rfl, c1, c2⟩ := hxy
        have := g1 (y - (off + lo.toNat * te.sz)) (by omega)
        rwa [show off + lo.toNat * te.sz + (y - (off + lo.toNat * te.sz)) = y from by omega] at this
    · have hm : (hi - lo).toNat = 0 := by omega
      refine fin (w' := w) (h' := H k) ?_ ?_ (mm.mm.fit k) (Keep.refl _ _) fun b o h => .inl h
      · rw [e2, sbV, hm]
        cases A with
        | none =>
          have : (if c = lo.toNat then none else Option.map (fun x : Addr => x.add (lo.toNat * te.sz)) none) = none := by split <;> rfl
          rw [this]
          simp [Builtin.clear_, run_underlying d1]
        | some A =>
          have : ∃ A', (if c = lo.toNat then some A else Option.map (fun x : Addr => x.add (lo.toNat * te.sz)) (some A)) = some A' := by split <;> exact ⟨_, rfl⟩
          obtain ⟨A', this⟩ := this
          rw [this]
          simp [Builtin.clear_, run_underlying d1]
      · rw [hB]
        refine D.own_congr (fun i hi' => ?_) sk
        rw [if_neg (by omega)]
  · simp [SV.inK, V.inK, muIn, Ch.own?, Ch.rowL, allL, appK, hasK, Nat.beq_refl]
end
end Go.Proofs.YtiegllklalplnaaGreat
