
/-
  The same operations, and on.
-/
import Derived.Test.YtiegllklalplnaaGreatW17g
namespace Go.Proofs.YtiegllklalplnaaGreat
open Go Go.RowKit
set_option linter.unusedVariables false
set_option linter.unusedSimpArgs false

section
variable {E : Env} {B : BE} {mu mu' : Mu} {w : World} {H : Nat → PH} {TT : List TI} {fr fr' : Fr} {gf gf' : GF} {a : Act} {all rest : List Oper} {Q : Exit → Act → World → Prop} {o : Oper} {J : Act → World → Prop} {G : AG} {R : Exit → Act → World → Prop} {K : List KF}
/-- make: an array of zeros -/
theorem OJ_make (hT : TOk E.P TT) (k' : Nat) {t0 ts : Nat} {l c : Operand} (n : Nat) {id sz1 by1 e : Nat} {z : Value} {ef : Bool} {te : TI} {md : Mu}
    (hop : o.op = .makeSlice ts l c) (hl : ev [] fr gf l = some (.a (.v (.int .i64 n)))) (hc : ev [] fr gf c = some (.a (.v (.int .i64 n)))) (h1 : tlk ts TT = some ⟨id, sz1, by1, .slc e, z, ef⟩) (h2 : tlk e TT = some te) (hgd : gdrop t0 gf = some gf') (hmd : mdropKs [k'] mu = some md) (hn : n * te.by_ ≤ 140737488355328 ∧ n ≤ maxL)
    (kk : SJ G J E ((t0, .a (.g k')) :: fr) gf' ((k', .arr te.sz n fun _ => zsD te.zero) :: md)) (hz : (vcells te.zero).map (·.length) = some te.sz := by exact rfl) (hpos : 0 < te.sz := by exact Nat.lt_of_sub_eq_succ rfl) (hkeys : keysB [] [k'] [] fr gf mu E.A.ks G.ks = true := by exact rfl)
    (hg : o.guard = none := by exact rfl) (hd : o.dst = some t0 := by exact rfl) (ht : Nat.blt t0 E.N = true := by exact rfl) : OJ G E all Q J o fr gf mu := by
  refine OJ_B (ι := Unit) (ks := []) (nk := [k']) (mu1 := []) (φ := fun _ => True) (res := fun _ => .a (.g k')) (mu1' := fun _ => [(k', .arr te.sz n fun _ => zsD te.zero)]) (fun B a w H ff mm => ?_) hg hd ht hgd (fun _ => rfl) hkeys (fun _ => ?_) hmd rfl fun _ _ => kk
  · obtain ⟨d1, u2⟩ := slc_of hT h1 h2
    obtain ⟨i, i1, i2, i3, i4⟩ := u2.info
    have hzz := zero_sz hz
    have hw : IntKind.i64.wrap (n : Int) = n := IntWalk.i64_in _ (by unfold maxL at hn; omega)
    have hzr : (zeroValue te.id).run E.P w = .ok te.zero w := by simp only [zeroValue, Sem.run_bind, run_info i1, Result.andThen_ok, i4, Sem.run_pure]
    have hcs := fill_zero (n := n) (zs := te.zero.cells.toList) (by rw [Array.length_toList]; exact hzz) hpos
    have e1 : a.eval l = _ := ff.ev (g := []) (fun _ _ hm => by cases hm) hl
    have e2 : a.eval c = _ := ff.ev (g := []) (fun _ _ hm => by cases hm) hc
    have hrun : (Instr.makeSlice ts (.int .i64 n) (.int .i64 n)).run E.P w = .ok (.slice (some ⟨w.heap.size, 0, none⟩) n n) (w.alloc (.cells (zeroL te.zero.cells.toList n).toArray te.id)) := by
      simp only [Instr.makeSlice, asInt, asIntOf, Sem.run_bind, Sem.run_pure, run_underlying d1, Result.andThen_ok, run_info i1, hw, i3]
      have c1 : (decide ((n : Int) < 0) || decide (((te.by_ : Int) * (n : Int)) > 2 ^ 48)) = false := by
        simp only [Bool.or_eq_false_iff, decide_eq_false_iff_not]
        refine ⟨by omega, ?_⟩
        have : ((te.by_ : Int) * (n : Int)) = ((n * te.by_ : Nat) : Int) := by push_cast; rw [Int.mul_comm]
        rw [this]
        have : (2 : Int) ^ 48 = 281474976710656 := by decide
        omega
      have c2 : decide ((n : Int) < 0) = false := by simp
      have c3 : decide ((n : Int) > (n : Int)) = false := by simp
      rw [if_neg (by rw [c1]; simp)]
      simp only [Sem.run_bind, run_askRoom, Result.andThen_ok, run_size i1, i2, Int.toNat_natCast]
      by_cases h0 : n * te.sz = 0
      · rw [if_pos h0] at hcs
        simp only [h0, if_true, Sem.run_pure, Result.andThen_ok, newRow, Sem.run_bind, run_newObj]
        rw [← hcs]
        simp only [h0]
        rfl
      · rw [if_neg h0] at hcs
        simp only [h0, if_false, Sem.run_bind, hzr, Sem.run_pure, Result.andThen_ok, newRow, run_newObj]
        rw [← hcs]
        rfl
    have hzl : (zeroL te.zero.cells.toList n).length = n * te.sz := by rw [zeroL_length, Array.length_toList, hzz]
    refine ⟨(), .slice (some ⟨w.heap.size, 0, none⟩) n n, w.alloc (.cells (zeroL te.zero.cells.toList n).toArray te.id), _, _, ?_, Ret1.new (AllP_fit mm.mm) rfl (onlyK_dj mm _) rfl (h' := PH.row w.heap.size 0 (zeroL te.zero.cells.toList n)) (VA_own (hc := PH.row w.heap.size 0 (zeroL te.zero.cells.toList n)) (hp := PH.emp) (G := fun _ => PH.emp) (row := fun _ => te.zero.cells.toList) ⟨Nat.le_refl _, fun i hi => ⟨_, _, rfl, by rw [Array.length_toList]; exact hzz, fun j hj => ?_⟩, fun i q1 q2 => by omega⟩ hn.2 (PH.le_refl _) (PH.emp_le _) (PH.dj_emp _) (fun i hi => flat_owns) (fun i _ => PH.emp_le _) fun i j _ _ hij => PH.emp_dj _) (Fit.alloc w _ te.id) ((Keep.alloc w _).mono fun _ _ _ h => h.elim) fun b o h => .inr (by rw [PH.row_ne h]; exact Nat.le_refl _)⟩
    · obtain ⟨dst, op, type, pos, after, guard⟩ := o
      simp only at hop
      subst hop
      simp only [execOp, e1, e2]
      simp only [Sem.run_bind, hrun, Result.andThen_ok, Sem.run_pure]
    · have := PH.row_at (b := w.heap.size) (off := 0) (l := zeroL te.zero.cells.toList n) (i * te.sz + j)
      have h1 : (i + 1) * te.sz ≤ n * te.sz := Nat.mul_le_mul_right _ hi
      rw [Nat.add_mul, Nat.one_mul] at h1
      rw [show (0 : Nat) + i * te.sz + j = 0 + (i * te.sz + j) from by omega, this, zeroL_get (by rw [Array.length_toList, hzz]; omega)]
      congr 1
      rw [Array.length_toList, hzz, Nat.mul_comm, Nat.mul_add_mod]; exact Nat.mod_eq_of_lt hj
  · simp [SV.inK, V.inK, muIn, Ch.own?, Ch.rowL, allL, appK, hasK, Nat.beq_refl]

theorem RJ_appM (hT : TOk E.P TT) (k kb k' : Nat) {t0 ts tx : Nat} {s x : Operand} {n m : Nat} {f g : Nat → List D} {id sz1 by1 e : Nat} {z : Value} {ef : Bool} {te ti2 : TI} {md : Mu} {fr' : Fr} {gf2 : GF}
    (hop : o.op = .call { callee := .builtin .append, args := #[s, x], argTypes := #[ts, tx] }) (hs : ev [] fr gf s = some (.a (.g k))) (hx : ev [] fr gf x = some (.a (.g kb))) (h1 : tlk ts TT = some ⟨id, sz1, by1, .slc e, z, ef⟩) (h2 : tlk e TT = some te) (h3 : tlk tx TT = some ti2) (h4 : ti2.kind = .slc e) (hk : mlk k mu = some (.arr te.sz n f)) (hkb : mlk kb mu = some (.arr te.sz m g)) (hgd : gdrop t0 gf = some gf')
    (hmd : mdropKs [k, kb, k'] mu = some md) (hcut : cutKs [k, kb] fr gf' = some (fr', gf2)) (hb : (n + m) * te.by_ ≤ 140737488355328 ∧ n + m ≤ maxL)
    (kk : RJ E all (KQ E.P R K) rest ((t0, .a (.g k')) :: fr') gf2 ((k', .arr te.sz (n + m) (appD n f g)) :: md)) (hone : ∀ i, i < m → oneDs (g i) = true := by exact fun _ _ => rfl) (hz : (vcells te.zero).map (·.length) = some te.sz := by exact rfl) (hpos : 0 < te.sz := by exact Nat.lt_of_sub_eq_succ rfl) (hkeys : keysB [k, kb] [k'] [(k, .arr te.sz n f), (kb, .arr te.sz m g)] fr gf mu E.A.ks [] = true := by exact rfl) (hne : (Nat.beq k kb || hasK k' [k, kb]) = false := by exact rfl)
    (hg : o.guard = none := by exact rfl) (hd : o.dst = some t0 := by exact rfl) (ht : Nat.blt t0 E.N = true := by exact rfl) : RJ E all (KQ E.P R K) (o :: rest) fr gf mu :=
  RJ_of (OJ_appM (G := AG.nil) hT k kb k' hop hs hx h1 h2 h3 h4 hk hkb hgd hmd hcut hb (SJ_of kk) hone hz hpos hkeys hne hg hd ht)

theorem RJ_appC (hT : TOk E.P TT) (k k' : Nat) {t0 ts tx : Nat} {s x : Operand} {n m : Nat} {f g : Nat → List D} {id sz1 by1 e : Nat} {z : Value} {ef : Bool} {te ti2 : TI} {md : Mu} {fr' : Fr} {gf2 : GF} {vx : V} {q : Tg} {ob : Ob}
    (hop : o.op = .call { callee := .builtin .append, args := #[s, x], argTypes := #[ts, tx] }) (hs : ev [] fr gf s = some (.a (.g k))) (hx : ev [] fr gf x = some (.a vx)) (h1 : tlk ts TT = some ⟨id, sz1, by1, .slc e, z, ef⟩) (h2 : tlk e TT = some te) (h3 : tlk tx TT = some ti2) (h4 : ti2.kind = .slc e) (hk : mlk k mu = some (.arr te.sz n f)) (hkx : slR mu vx = some (q, te.sz, m, g, ob)) (hgd : gdrop t0 gf = some gf')
    (hmd : mdropKs [k, k'] mu = some md) (hcut : cutKs [k] fr gf' = some (fr', gf2)) (hb : (n + m) * te.by_ ≤ 140737488355328 ∧ n + m ≤ maxL)
    (kk : RJ E all (KQ E.P R K) rest ((t0, .a (.g k')) :: fr') gf2 ((k', .arr te.sz (n + m) (appD n f g)) :: md)) (hone : ∀ i, i < m → ∃ l, flatDs (g i) = some l := by exact fun _ _ => ⟨_, rfl⟩) (hz : (vcells te.zero).map (·.length) = some te.sz := by exact rfl) (hpos : 0 < te.sz := by exact Nat.lt_of_sub_eq_succ rfl) (hkeys : keysB [k] [k'] [(k, .arr te.sz n f)] fr gf mu E.A.ks [] = true := by exact rfl) (hne : hasK k' [k] = false := by exact rfl) (hob : Alls ob := by repeat (first | exact trivial | refine And.intro rfl ?_))
    (hg : o.guard = none := by exact rfl) (hd : o.dst = some t0 := by exact rfl) (ht : Nat.blt t0 E.N = true := by exact rfl) : RJ E all (KQ E.P R K) (o :: rest) fr gf mu :=
  RJ_of (OJ_appC (G := AG.nil) hT k k' hop hs hx h1 h2 h3 h4 hk hkx hgd hmd hcut hb (SJ_of kk) hone hz hpos hkeys hne hob hg hd ht)

theorem RJ_bs (hT : TOk E.P TT) (k' : Nat) {t0 ts n : Nat} {parts : Array (Nat × Operand)} {ps : List (Nat × SV)} {id sz1 by1 e : Nat} {z : Value} {ef : Bool} {te : TI} {F0 : List V} {F : List D} {ks : List Nat} {mu1 md : Mu} {fr' : Fr} {gf2 : GF} (f : Nat → List D)
    (hop : o.op = .buildSlice ts n parts) (hp : evParts [] fr gf parts.toList = some ps)
    (h1 : tlk ts TT = some ⟨id, sz1, by1, .slc e, z, ef⟩) (h2 : tlk e TT = some te) (hgd : gdrop t0 gf = some gf') (hF : bsV te.sz ps (zerosV te.zero.cells.toList n) = some F0) (hA : absL mu F0 = some (F, ks)) (hf : ∀ i, i < n → (F.drop (i * te.sz)).take te.sz = f i)
    (hm1 : keysO mu1 = ks) (hmd : mdropKs (appK ks [k']) mu = some md) (hcut : cutKs ks fr gf' = some (fr', gf2))
    (kk : RJ E all (KQ E.P R K) rest ((t0, .a (.g k')) :: fr') gf2 ((k', .arr te.sz n f) :: md)) (hz : (vcells te.zero).map (·.length) = some te.sz := by exact rfl) (hpos : 0 < te.sz := by exact Nat.lt_of_sub_eq_succ rfl) (hn : Nat.ble (n * te.sz) 16777216 = true := by exact rfl) (hkeys : keysB ks [k'] mu1 fr gf mu E.A.ks [] = true := by exact rfl) (hne : hasK k' ks = false := by exact rfl)
    (hg : o.guard = none := by exact rfl) (hd : o.dst = some t0 := by exact rfl) (ht : Nat.blt t0 E.N = true := by exact rfl) : RJ E all (KQ E.P R K) (o :: rest) fr gf mu :=
  RJ_of (OJ_bs (G := AG.nil) hT k' f hop hp h1 h2 hgd hF hA hf hm1 hmd hcut (SJ_of kk) hz hpos hn hkeys hne hg hd ht)

theorem RJ_clear (hT : TOk E.P TT) (t k : Nat) {ts : Nat} {n : Nat} {f : Nat → List D} {lo hi : Int} {id sz1 by1 e : Nat} {z : Value} {ef : Bool} {te : TI} {md : Mu} {fr' : Fr} {gf2 : GF} {l : List V}
    (hop : o.op = .call { callee := .builtin .clear, args := #[.tmp t], argTypes := #[ts] }) (hx : mlk t fr = some (.a (.sb k te.sz lo hi))) (hgt : glk t gf = none) (h1 : tlk ts TT = some ⟨id, sz1, by1, .slc e, z, ef⟩) (h2 : tlk e TT = some te) (hk : mlk k mu = some (.arr te.sz n f)) (hb : 0 ≤ lo ∧ lo ≤ hi ∧ hi ≤ n) (hgd : gdrop t gf = some gf')
    (hmd : mdropKs [k, k] mu = some md) (hcut : cutKs [k] fr gf' = some (fr', gf2)) (hz : vcells te.zero = some l)
    (kk : RJ E all (KQ E.P R K) rest ((t, .a .any) :: fr') gf2 ((k, .arr te.sz n fun i => if lo ≤ (i : Int) ∧ (i : Int) < hi then zsD te.zero else f i) :: md)) (hzl : lenEq l te.sz = true := by exact rfl) (hone : allC l = true := by exact rfl) (hpos : 0 < te.sz := by exact Nat.lt_of_sub_eq_succ rfl) (hkeys : keysB [k] [k] [(k, .arr te.sz n f)] fr gf mu E.A.ks [] = true := by exact rfl)
    (hg : o.guard = none := by exact rfl) (hd : o.dst = none := by exact rfl) (ht : Nat.blt t E.N = true := by exact rfl) : RJ E all (KQ E.P R K) (o :: rest) fr gf mu :=
  RJ_of (OJ_clear (G := AG.nil) hT t k hop hx hgt h1 h2 hk hb hgd hmd hcut hz (SJ_of kk) hzl hone hpos hkeys hg hd ht)

theorem RJ_make (hT : TOk E.P TT) (k' : Nat) {t0 ts : Nat} {l c : Operand} (n : Nat) {id sz1 by1 e : Nat} {z : Value} {ef : Bool} {te : TI} {md : Mu}
    (hop : o.op = .makeSlice ts l c) (hl : ev [] fr gf l = some (.a (.v (.int .i64 n)))) (hc : ev [] fr gf c = some (.a (.v (.int .i64 n)))) (h1 : tlk ts TT = some ⟨id, sz1, by1, .slc e, z, ef⟩) (h2 : tlk e TT = some te) (hgd : gdrop t0 gf = some gf') (hmd : mdropKs [k'] mu = some md) (hn : n * te.by_ ≤ 140737488355328 ∧ n ≤ maxL)
    (kk : RJ E all (KQ E.P R K) rest ((t0, .a (.g k')) :: fr) gf' ((k', .arr te.sz n fun _ => zsD te.zero) :: md)) (hz : (vcells te.zero).map (·.length) = some te.sz := by exact rfl) (hpos : 0 < te.sz := by exact Nat.lt_of_sub_eq_succ rfl) (hkeys : keysB [] [k'] [] fr gf mu E.A.ks [] = true := by exact rfl)
    (hg : o.guard = none := by exact rfl) (hd : o.dst = some t0 := by exact rfl) (ht : Nat.blt t0 E.N = true := by exact rfl) : RJ E all (KQ E.P R K) (o :: rest) fr gf mu :=
  RJ_of (OJ_make (G := AG.nil) hT k' n hop hl hc h1 h2 hgd hmd hn (SJ_of kk) hz hpos hkeys hg hd ht)

/-- a slice against nil, and on -/
theorem RJ_nil (hT : TOk E.P TT) {t0 ty : Nat} {x y : Operand} {yt : TypeId} {op : BinOp} (ne : Bool) {sx : V} {q : Tg} {sz n : Nat} {f : Nat → List D} {ob : Ob} {n0 c0 : Nat} {id sz1 by1 e : Nat} {z : Value} {ef : Bool}
    (hop : o.op = .binOp op ty x y yt) (hx : ev [] fr gf x = some (.a sx)) (hy : ev [] fr gf y = some (.a (.v (.slice none n0 c0)))) (h1 : tlk ty TT = some ⟨id, sz1, by1, .slc e, z, ef⟩) (hs : slR mu sx = some (q, sz, n, f, ob)) (hgd : gdrop t0 gf = some gf')
    (k : ∀ b : Bool, (b = true → n = 0) → RJ E all (KQ E.P R K) rest ((t0, .a (.v (.bool (bif ne then !b else b)))) :: fr) gf' mu) (hne : op = (bif ne then .neq else .eql) := by exact rfl) (hob : Alls ob := by repeat (first | exact trivial | refine And.intro rfl ?_)) (hg : o.guard = none := by exact rfl) (hd : o.dst = some t0 := by exact rfl) (ht : Nat.blt t0 E.N = true := by exact rfl) : RJ E all (KQ E.P R K) (o :: rest) fr gf mu :=
  RJ_of (OJ_nil (G := AG.nil) hT ne hop hx hy h1 hs hgd (fun b hb => SJ_of (k b hb)) hne hob hg hd ht)
end
end Go.Proofs.YtiegllklalplnaaGreat
