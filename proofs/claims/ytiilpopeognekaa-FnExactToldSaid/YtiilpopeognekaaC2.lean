/-
  Arrays that a function makes; what it hands back.
-/
import Derived.Test.YtiilpopeognekaaDR
namespace Go.Proofs.Ytiilpopeognekaa
open Go Go.RowKit
set_option linter.unusedVariables false
set_option linter.unusedSimpArgs false

def rep {α : Type} (x : α) : Nat → List α
  | 0 => []
  | n + 1 => x :: rep x n
section
variable {G : AG} {J : Act → World → Prop} {P : Program} {w w0 : World} {B : BE} {r : PH} {D : Nat → Nat → Prop} {mu mu' : Mu} {ga : Ga} {H : Nat → PH} {TT : List TI} {N : Nat} {fr fr' : Fr} {gf gf' : GF} {a : Act} {all : List Oper} {Q : Exit → Act → World → Prop} {rest : List Oper} {o : Oper} {R : Exit → Act → World → Prop} {K : List KF}
/-- make([]T, n, n): a new array of zeros -/
theorem run_makeSlice {t e : TypeId} (hu : P.underlying t = some (.slice e)) {ti : TI} (hti : ti.ok P) (he : ti.id = e) {n : Nat} (hn : n * ti.by_ ≤ 140737488355328) (hn2 : n ≤ 9223372036854775807) (w : World) :
    ∃ cs : Array Value, (Instr.makeSlice t (.int .i64 n) (.int .i64 n)).run P w = .ok (.slice (some ⟨w.heap.size, 0, none⟩) n n) (w.alloc (.cells cs e)) ∧ cs.size = n * ti.sz ∧ ∀ j, j < n * ti.sz → cs[j]? = ti.zero.cells[j % ti.zero.cells.size]? ∨ ti.zero.cells.size = 0 := by
  obtain ⟨i, i1, i2, i3, i4⟩ := hti.info
  rw [he] at i1
  have hw : IntKind.i64.wrap (n : Int) = n := IntWalk.i64_in _ (by omega)
  have hz : (zeroValue e).run P w = .ok ti.zero w := by simp only [zeroValue, Sem.run_bind, run_info i1, Result.andThen_ok, i4, Sem.run_pure]
  refine ⟨((Array.range (n * ti.sz)).map ((if n * ti.sz = 0 then #[] else ti.zero.cells)[· % (if n * ti.sz = 0 then #[] else ti.zero.cells).size]!)), ?_, by simp, fun j hj => ?_⟩
  · simp only [Instr.makeSlice, asInt, asIntOf, Sem.run_bind, Sem.run_pure, run_underlying hu, Result.andThen_ok, run_info i1, hw, i3]
    have c1 : (decide ((n : Int) < 0) || decide (((ti.by_ : Int) * (n : Int)) > 2 ^ 48)) = false := by
      simp only [Bool.or_eq_false_iff, decide_eq_false_iff_not]
      refine ⟨by omega, ?_⟩
      have : ((ti.by_ : Int) * (n : Int)) = ((n * ti.by_ : Nat) : Int) := by push_cast; rw [Int.mul_comm]
      rw [this]
      have : (2 : Int) ^ 48 = 281474976710656 := by decide
      omega
    have c2 : decide ((n : Int) < 0) = false := by simp
    have c3 : decide ((n : Int) > (n : Int)) = false := by simp
    rw [if_neg (by rw [c1]; simp)]
    simp only [Sem.run_bind, run_askRoom, Result.andThen_ok, run_size i1, i2, Int.toNat_natCast]
    by_cases h0 : n * ti.sz = 0
    · simp only [h0, if_true, Sem.run_pure, Result.andThen_ok, newRow, Sem.run_bind, run_newObj]
      rfl
    · simp only [h0, if_false, Sem.run_bind, hz, Sem.run_pure, Result.andThen_ok, newRow, run_newObj]
      rfl
  · have h0 : n * ti.sz ≠ 0 := by omega
    simp only [h0, if_false]
    rcases Nat.eq_zero_or_pos ti.zero.cells.size with hs | hs
    · exact .inr hs
    · left
      rw [Array.getElem?_map, Array.getElem?_range, if_pos hj]
      have : j % ti.zero.cells.size < ti.zero.cells.size := Nat.mod_lt _ hs
      simp [this]
/-- the array as the machine sees it -/
theorem OJ_make (hT : TOk P TT) (key : Nat) (hkey : hasK key G.ks = false) {t : Nat} {ty : TypeId} {l c : Operand} {n : Nat} {e : Nat} {id sz by_ : Nat} {z : Value} {te : TI} (hg : o.guard = none) (hd : o.dst = some t) (ht : Nat.blt t N = true) (hop : o.op = .makeSlice ty l c)
    (hl : ev [] fr gf l = some (.a (.v (.int .i64 n)))) (hc : ev [] fr gf c = some (.a (.v (.int .i64 n)))) (h1 : tlk ty TT = some ⟨id, sz, by_, .slc e, z⟩) (h2 : tlk e TT = some te) (hgd : gdrop t gf = some gf') {zs : List Value} (hz : vcells te.zero = some (zs.map AV.v)) (hsz : zs.length = te.sz) (hpos : 0 < te.sz)
    (hn : n * te.by_ ≤ 140737488355328) (hn2 : n ≤ 9223372036854775807) (hu : unnamed key fr gf mu = true)
    (k : ∀ b, SJ G J N r D w0 ((t, .a (.sl key (some ⟨b, 0, none⟩) n n)) :: fr) gf' ((key, .arr (some ⟨b, 0, none⟩) n n te.sz (fun _ => zs)) :: mu) ga) : OJ G P N r D w0 all Q J o fr gf mu ga := fun B a w H f m g gg => by
  obtain ⟨t1, t2⟩ := hT.get h1
  obtain ⟨d, d1, d2⟩ := t2.desc
  simp only at t1 d1 d2
  subst t1
  obtain rfl := shapeK_slc d2
  obtain ⟨u1, u2⟩ := hT.get h2
  obtain ⟨cs, r1, r2, r3⟩ := run_makeSlice d1 u2 u1 hn hn2 w
  have hzc : te.zero.cells.toList = zs := by
    have := vcells_den te.zero B
    rw [vcells_eq] at hz
    injection hz with hz
    rw [hz] at this
    rw [← this]
    simp [Function.comp_def, AV.den]
  have hzs : te.zero.cells.size = te.sz := by rw [← hsz, ← hzc]; simp
  refine one_val (wanted_none hg) (v := .slice (some ⟨w.heap.size, 0, none⟩) n n) (w' := w.alloc (.cells cs e)) ?_ ?_
  · obtain ⟨dst, op, type, pos, after, guard⟩ := o
    simp only at hop
    subst hop
    have e1 := f.ev (g := []) (fun _ _ hm => by cases hm) hl
    have e2 := f.ev (g := []) (fun _ _ hm => by cases hm) hc
    simp only [execOp, e1, e2, SV.den, AV.den]
    exact run_value2 r1
  · have hcs : cs = cs.toList.toArray := by simp
    have hfit : Fit (PH.row w.heap.size 0 cs.toList) (w.alloc (.cells cs e)) := by
      have := Fit.alloc w cs.toList e
      simpa using this
    rw [hd]
    refine k w.heap.size B _ _ _ (f.put (by simpa [Nat.blt_eq] using ht) rfl hgd) (m.add (k := key) (Below.ofAlloc w _) (h := PH.row w.heap.size 0 cs.toList) ?_ hfit (fun b o hb => by rw [PH.row_ne hb]; exact Nat.le_refl _)) g (gg.setH hkey _)
    refine ⟨Nat.le_refl _, fun i hi => ⟨w.heap.size, 0, rfl, hsz, fun j hj => ?_⟩, fun i hi hi2 => by omega⟩
    have hlt : i * te.sz + j < n * te.sz := by
      have := Nat.mul_le_mul_right te.sz (show i + 1 ≤ n from hi)
      rw [Nat.add_mul, Nat.one_mul] at this
      omega
    rw [Nat.zero_add, show PH.row w.heap.size 0 cs.toList w.heap.size (i * te.sz + j) = cs.toList[i * te.sz + j]? from by
      have := PH.row_at (b := w.heap.size) (off := 0) (l := cs.toList) (i * te.sz + j)
      rwa [Nat.zero_add] at this]
    rw [Array.getElem?_toList]
    rcases r3 _ hlt with h | h
    · rw [h, hzs, show (i * te.sz + j) % te.sz = j from by rw [Nat.add_comm, Nat.add_mul_mod_self_right, Nat.mod_eq_of_lt hj], ← hzc, Array.getElem?_toList]
    · omega
theorem RJ_make (hT : TOk P TT) (key : Nat) {t : Nat} {ty : TypeId} {l c : Operand} {n : Nat} {e : Nat} {id sz by_ : Nat} {z : Value} {te : TI} (hg : o.guard = none) (hd : o.dst = some t) (ht : Nat.blt t N = true) (hop : o.op = .makeSlice ty l c)
    (hl : ev [] fr gf l = some (.a (.v (.int .i64 n)))) (hc : ev [] fr gf c = some (.a (.v (.int .i64 n)))) (h1 : tlk ty TT = some ⟨id, sz, by_, .slc e, z⟩) (h2 : tlk e TT = some te) (hgd : gdrop t gf = some gf') {zs : List Value} (hz : vcells te.zero = some (zs.map AV.v)) (hsz : zs.length = te.sz) (hpos : 0 < te.sz)
    (hn : n * te.by_ ≤ 140737488355328) (hn2 : n ≤ 9223372036854775807) (hu : unnamed key fr gf mu = true)
    (k : ∀ b, RJ P N r D w0 all Q rest ((t, .a (.sl key (some ⟨b, 0, none⟩) n n)) :: fr) gf' ((key, .arr (some ⟨b, 0, none⟩) n n te.sz (fun _ => zs)) :: mu) ga) : RJ P N r D w0 all Q (o :: rest) fr gf mu ga := RJ_of (OJ_make hT key rfl hg hd ht hop hl hc h1 h2 hgd hz hsz hpos hn hn2 hu fun b => SJ_of (k b))
theorem Ch.imp_arr {A : Option Addr} {n c sz : Nat} {f g : Nat → List Value} (h : ∀ i, i < n → f i = g i) : (Ch.arr A n c sz f).imp (.arr A n c sz g) := fun B k hp s => by
  obtain ⟨s0, s1, s2⟩ := s
  refine ⟨s0, fun i hi => ?_, s2⟩
  rw [← h i hi]
  exact s1 i hi
/-- an array of a flat kind is owned -/
theorem arr_sown {α : Type} {k : Kd α} {enc : α → List Value} (hk : k.Flat enc) {B : BE} {key : Nat} {b o n c sz : Nat} {rows : Nat → List Value} {h : PH} (s : (Ch.arr (some ⟨b, o, none⟩) n c sz rows).sat B key h) {xs : List α} (hx : xs.length = n) (hl : n ≤ maxL) (hsz : k.sz = sz) (he : ∀ i x, xs[i]? = some x → rows i = enc x) :
    k.sown h (.slice (some ⟨b, o, none⟩) n c) xs := by
  obtain ⟨s0, s1, s2⟩ := s
  subst hx
  subst hsz
  refine ⟨_, c, rfl, s0, hl, .inr ⟨b, o, rows, rfl, fun i hi => ?_, fun i hi hi2 j hj => ?_, fun _ => PH.emp, fun i x hx => hk.own.2 (he i x hx), fun _ => PH.emp_le _, fun _ _ _ => PH.emp_dj _, fun _ _ => rfl⟩⟩
  · obtain ⟨b', o', e, e2, f⟩ := s1 i hi
    injection e with e
    injection e with e3 e4
    subst e3; subst e4
    exact ⟨e2, f⟩
  · obtain ⟨b', o', e, f⟩ := s2 i hi hi2
    injection e with e
    injection e with e3 e4
    subst e3; subst e4
    exact f j hj
/-- a maker's return: the value, and the chunk that it owns -/
theorem retM {fn : Func} {φ : Value → PH → Prop} (ts : List Nat) (hr : fn.results = (ts.map ResultVar.tmp).toArray) {l : List SV} (hl : allGet fr ts = some l) (key : Nat) {c : Ch} (hk : mlk key mu = some c) (h : ∀ B p, c.sat B key p → φ (resV (l.map (SV.den B))) p) :
    T P N r noD w0 (bodyPost P fn fun e w' => ∃ v h, e = .returned v ∧ φ v h ∧ Fit h w' ∧ Below w0.heap.size w0 w' ∧ ∀ b o, h b o ≠ none → w0.heap.size ≤ b) .ret fr mu ga K :=
  T_ret ts hr hl fun B w H m => ⟨_, H key, rfl, h B _ (m.sat key c hk), m.fit key, m.ext, fun b o hb => (m.dom key b o hb).resolve_left id⟩
/-- does what lies still stay so? -/
def stillB (ks : List Nat) : Mu → Bool
  | [] => false
  | (k, _) :: _ => !hasK k ks
theorem OJ_mst (hT : TOk P TT) {t : Nat} {x : SV} {q : Ob} (hg : o.guard = none) (hd : o.dst = some t) (ht : Nat.blt t N = true) (h : mst TT fr gf mu o.dst o.op = some (some x, mu', q)) (hst : stillB G.ks mu' = true) {es : List Prop} {gs : List GO} (hs : splitO fr gf [] q [] [] = some (es, gs)) (he : PAlls es) (ho : GAlls gs) (hgd : gdrop t gf = some gf')
    (k : SJ G J N r D w0 ((t, x) :: fr) gf' mu' ga) : OJ G P N r D w0 all Q J o fr gf mu ga := fun B a w H f m g gg => by
  obtain ⟨nx, w', B', H', r1, r2, r3, r4, r5, kk, c, rfl, r6⟩ := mst_ok hT f m h (splitO_ok f (fun _ _ hm => by cases hm) hs he ho)
  rw [r2 _ rfl] at r1
  refine one_val (wanted_none hg) r1 ?_
  rw [hd]
  have hk : hasK kk G.ks = false := by simpa [stillB] using hst
  exact k B' _ w' H' (r5.put (by simpa [Nat.blt_eq] using ht) rfl hgd) r4 g fun j hj => by
    have hne : j ≠ kk := fun e => by rw [e, hk] at hj; cases hj
    rw [(r6 j hne).1, (r6 j hne).2]; exact gg j hj
theorem OJ_mstU (hT : TOk P TT) {q : Ob} (hg : o.guard = none) (hd : o.dst = none) (h : mst TT fr gf mu o.dst o.op = some (none, mu', q)) (hst : stillB G.ks mu' = true) {es : List Prop} {gs : List GO} (hs : splitO fr gf [] q [] [] = some (es, gs)) (he : PAlls es) (ho : GAlls gs)
    (k : SJ G J N r D w0 fr gf mu' ga) : OJ G P N r D w0 all Q J o fr gf mu ga := fun B a w H f m g gg => by
  obtain ⟨nx, w', B', H', r1, r2, r3, r4, r5, kk, c, rfl, r6⟩ := mst_ok hT f m h (splitO_ok f (fun _ _ hm => by cases hm) hs he ho)
  rw [r3 rfl] at r1
  refine one_unit (wanted_none hg) r1 ?_
  rw [hd]
  have hk : hasK kk G.ks = false := by simpa [stillB] using hst
  exact k B' _ w' H' r5 r4 g fun j hj => by
    have hne : j ≠ kk := fun e => by rw [e, hk] at hj; cases hj
    rw [(r6 j hne).1, (r6 j hne).2]; exact gg j hj
/-! results that lie in cells -/
def rvOf : Nat × Option Nat → ResultVar
  | (t, none) => .tmp t
  | (t, some ty) => .cell t ty
def allGetC (TT : List TI) (fr : Fr) (mu : Mu) (ga : Ga) : List (Nat × Option Nat) → Option (List SV)
  | [] => some []
  | (t, none) :: r => match mlk t fr, allGetC TT fr mu ga r with
    | some x, some l => some (x :: l)
    | _, _ => none
  | (t, some ty) :: r => match mlk t fr, tlk ty TT with
    | some y, some ti => match ld ti mu ga y, allGetC TT fr mu ga r with
      | some (x, []), some l => some (x :: l)
      | _, _ => none
    | _, _ => none
theorem allGetC_run (hT : TOk P TT) {a : Act} (f : Fits B N fr [] a) (m : Mr B r mu w H) (g : GaOk r ga) : ∀ {ts : List (Nat × Option Nat)} {l : List SV}, allGetC TT fr mu ga ts = some l →
    ((ts.map rvOf).mapM (fun
      | .tmp t => pure (a.tmps.getD t undef)
      | .cell c t => do loadVar t (← asAddr (a.tmps.getD c undef)) : ResultVar → Sem Value)).run P w = .ok (l.map (SV.den B)) w
  | [], l, h => by simp [allGetC] at h; subst h; simp
  | (t, none) :: ts, l, h => by
    simp only [allGetC] at h
    split at h
    · rename_i x l' e1 e2
      injection h with h; subst h
      have := allGetC_run hT f m g e2
      simp only [List.map_cons, rvOf, List.mapM_cons, Sem.run_bind, Sem.run_pure, Result.andThen_ok, this, f.vfr t x e1 rfl]
    · cases h
  | (t, some ty) :: ts, l, h => by
    simp only [allGetC] at h
    split at h
    · rename_i y ti e1 e2
      split at h
      · rename_i x l' e3 e4
        injection h with h; subst h
        have ih := allGetC_run hT f m g e4
        obtain ⟨i1, i2⟩ := hT.get e2
        obtain ⟨A, d1, d2⟩ := ld_ok g m i2 e3 trivial
        subst i1
        have h0 : asAddr (.pointer (some A)) = pure A := rfl
        simp only [List.map_cons, rvOf, List.mapM_cons, Sem.run_bind, f.vfr t y e1 rfl, d1, h0, Sem.run_pure, Result.andThen_ok, d2, ih]
      · cases h
    · cases h
theorem T_retC {fn : Func} {Rp : Ending → World → Prop} (hT : TOk P TT) (ts : List (Nat × Option Nat)) (hr : fn.results = (ts.map rvOf).toArray) {l : List SV} (hl : allGetC TT fr mu ga ts = some l) (h : ∀ B w H, Mem B r D w0 mu w H → Rp (.returned (resV (l.map (SV.den B)))) w) : T P N r D w0 (bodyPost P fn Rp) .ret fr mu ga K :=
  fun B a w H f m g => wp_ret (ret_ok ⟨f.defers, _, by
    unfold results
    rw [hr, Sem.run_bind, Array.mapM_eq_mapM_toList, Sem.run_map, List.toList_toArray]
    erw [allGetC_run hT f m.mr g hl]
    rfl, by
    have e : ∀ l : List Value, (if h : l.toArray.size = 1 then l.toArray[0] else Value.tuple l.toArray) = resV l := fun l => by
      rw [← resV_eq]; simp
    erw [e]
    exact h B w H m⟩)
theorem retQC {fn : Func} {v : Value} (hT : TOk P TT) (ts : List (Nat × Option Nat)) (hr : fn.results = (ts.map rvOf).toArray) {l : List SV} (hl : allGetC TT fr mu ga ts = some l) (h : ∀ B, resV (l.map (SV.den B)) = v) :
    T P N r noD w0 (bodyPost P fn fun e w' => e = .returned v ∧ Below w0.heap.size w0 w') .ret fr mu ga K :=
  T_retC hT ts hr hl fun B _ _ m => ⟨by rw [h B], m.ext⟩
/-- several parts in one -/
def unL (H : Nat → PH) : List Nat → PH
  | [] => PH.emp
  | k :: r => (H k).un (unL H r)
theorem unL_fit (m : Mem B r D w0 mu w H) : ∀ ks : List Nat, Fit (unL H ks) w
  | [] => Fit.emp w
  | k :: r => (m.fit k).un (unL_fit m r)
theorem unL_ne : ∀ {ks : List Nat} {b o : Nat}, unL H ks b o ≠ none → ∃ k, H k b o ≠ none
  | [], _, _, h => absurd rfl h
  | k :: r, b, o, h => (PH.un_ne h).elim (fun h => ⟨k, h⟩) fun h => unL_ne h
theorem unL_le (m : Mem B r D w0 mu w H) {k : Nat} : ∀ {ks : List Nat}, k ∈ ks → (H k).le (unL H ks)
  | j :: ks, h => by
    by_cases e : k = j
    · subst e; exact PH.le_un_left _ _
    · have hk : k ∈ ks := by
        cases h with
        | head => exact absurd rfl e
        | tail _ h => exact h
      intro b o v hv
      have h1 := unL_le m hk b o v hv
      have h2 : H j b o = none := (m.dj k j e b o).resolve_left (by rw [hv]; simp)
      simp only [unL, PH.un, h2]
      exact h1
theorem retMs {fn : Func} {φ : Value → PH → Prop} (hT : TOk P TT) (ts : List (Nat × Option Nat)) (ks : List Nat) (hr : fn.results = (ts.map rvOf).toArray) {l : List SV} (hl : allGetC TT fr mu ga ts = some l) (h : ∀ B w H, Mem B r noD w0 mu w H → φ (resV (l.map (SV.den B))) (unL H ks)) :
    T P N r noD w0 (bodyPost P fn fun e w' => ∃ v h, e = .returned v ∧ φ v h ∧ Fit h w' ∧ Below w0.heap.size w0 w' ∧ ∀ b o, h b o ≠ none → w0.heap.size ≤ b) .ret fr mu ga K :=
  T_retC hT ts hr hl fun B w H m => ⟨_, unL H ks, rfl, h B w H m, unL_fit m ks, m.ext, fun b o hb => by
    obtain ⟨k, hk⟩ := unL_ne hb
    exact (m.dom k b o hk).resolve_left id⟩
theorem enterM {f : FuncId} {fn : Func} {c : Code} (hf : P.funcs[f]? = some fn) (hb : fn.body = some c) (hN : fn.ntmps = N) {args : List Value} (svs : List SV) {φ : Value → PH → Prop} (hargs : ∀ B, args = svs.map (SV.den B)) (hlen : svs.length ≤ N) (hr : Fit r w) (g : GaOk r ga)
    (h : T P N r noD w (bodyPost P fn fun e w' => ∃ v h, e = .returned v ∧ φ v h ∧ Fit h w' ∧ Below w.heap.size w w' ∧ ∀ b o, h b o ≠ none → w.heap.size ≤ b) c (frOf 0 svs) [] ga []) : Made P f args w φ :=
  enter hf hb hN svs (fun _ => ⟨0, 0, none⟩) (by rw [hargs]) hlen (Mem.start hr _ _) g h
end
end Go.Proofs.Ytiilpopeognekaa
