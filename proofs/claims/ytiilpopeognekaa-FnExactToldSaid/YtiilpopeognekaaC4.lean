/-
  Calls and operations that turn memory: append, mutators; parts split and joined; other names for what lies in a frame.
-/
import Derived.Test.YtiilpopeognekaaC3
namespace Go.Proofs.Ytiilpopeognekaa
open Go Go.RowKit
set_option linter.unusedVariables false
set_option linter.unusedSimpArgs false

section
variable {G : AG} {J : Act → World → Prop} {P : Program} {w w0 : World} {B : BE} {r : PH} {D : Nat → Nat → Prop} {mu mu' : Mu} {ga : Ga} {H : Nat → PH} {TT : List TI} {N : Nat} {fr fr' : Fr} {gf gf' : GF} {a : Act} {all : List Oper} {Q : Exit → Act → World → Prop} {rest : List Oper} {o : Oper} {R : Exit → Act → World → Prop} {K : List KF}
/-- a chunk's memory turns into other memory -/
theorem Mem.turn (m : Mem B r D w0 mu w H) {w' : World} {key : Nat} {c' : Ch} {h' : PH} (hf : Fit h' w') (kp : Keep (fun b o => H key b o ≠ none) w w') (hn : ∀ b o, h' b o ≠ none → H key b o ≠ none ∨ w.heap.size ≤ b) (hc : c'.sat B key h') : Mem B r D w0 ((key, c') :: mu) w' (HF.set H key h') := by
  have dj2 : ∀ g : PH, Fit g w → (H key).dj g → h'.dj g := fun g f d x y => by
    cases e : h' x y with
    | none => exact .inl rfl
    | some v =>
      right
      rcases hn x y (by rw [e]; simp) with h | h
      · exact (d x y).resolve_left h
      · cases e2 : g x y with
        | none => rfl
        | some u =>
          have := f.lt (b := x) (o := y) (by rw [e2]; simp)
          omega
  have out : ∀ g : PH, Fit g w → (H key).dj g → Fit g w' := fun g f d => f.keep kp fun x y e e2 => (d x y).elim (fun h => e2 h) fun h => e h
  refine ⟨fun j c e => ?_, fun j => ?_, fun i j hij => ?_, fun j => ?_, out r m.fitr (m.djr key), ?_, fun j x y e => ?_⟩
  · rw [mlk_cons] at e
    by_cases hj : key = j
    · subst hj
      rw [if_pos rfl] at e; injection e with e; subst e
      simp only [HF.set, if_true]; exact hc
    · rw [if_neg hj] at e
      simp only [HF.set, if_neg (Ne.symm hj)]
      exact m.sat j c e
  · by_cases hj : j = key
    · simp only [HF.set, if_pos hj]; exact hf
    · simp only [HF.set, if_neg hj]; exact out _ (m.fit j) (m.dj key j (Ne.symm hj))
  · by_cases hi : i = key <;> by_cases hj : j = key
    · exact absurd (hi.trans hj.symm) hij
    · simp only [HF.set, if_pos hi, if_neg hj]; exact dj2 _ (m.fit j) (m.dj key j (Ne.symm hj))
    · simp only [HF.set, if_neg hi, if_pos hj]; exact PH.dj_symm (dj2 _ (m.fit i) (m.dj key i (Ne.symm hi)))
    · simp only [HF.set, if_neg hi, if_neg hj]; exact m.dj i j hij
  · by_cases hj : j = key
    · simp only [HF.set, if_pos hj]; exact dj2 _ m.fitr (m.djr key)
    · simp only [HF.set, if_neg hj]; exact m.djr j
  · exact m.keep.trans kp fun x y h => m.dom key x y h
  · by_cases hj : j = key
    · simp only [HF.set, if_pos hj] at e
      rcases hn x y e with h | h
      · exact m.dom key x y h
      · right; exact Nat.le_trans m.keep.size h
    · simp only [HF.set, if_neg hj] at e
      exact m.dom j x y e

/-! ### append -/
theorem OJ_app (hT : TOk P TT) (key : Nat) (hkey : hasK key G.ks = false) {t0 ts tx : Nat} {s x : Operand} {X : SV} {A : Option Addr} {n c m : Nat} {f : Nat → List Value} (g : Nat → List Value) {id sz1 by1 e : Nat} {z : Value} {te : TI}
    (hg : o.guard = none) (hd : o.dst = some t0) (ht : Nat.blt t0 N = true) (hop : o.op = .call { callee := .builtin .append, args := #[s, x], argTypes := #[ts, tx] }) (hs : ev [] fr gf s = some (.a (.sl key A n c))) (hx : ev [] fr gf x = some X)
    (h1 : tlk ts TT = some ⟨id, sz1, by1, .slc e, z⟩) (h2 : tlk e TT = some te) (hk : mlk key mu = some (.arr A n c te.sz f)) (hgd : gdrop t0 gf = some gf') (hz : (vcells te.zero).map (·.length) = some te.sz) (hpos : 0 < te.sz)
    (hgl : ∀ i, i < m → (g i).length = te.sz) (src : ∀ B w H, Mr B r mu w H → GaOk r ga → Src P te.sz tx (X.den B) m (flatR g m) w) (hb : (n + m) * te.by_ ≤ 140737488355328) (hm : n + m ≤ maxL)
    (k : ∀ A' c', SJ G J N r D w0 ((t0, .a (.sl key A' (n + m) c')) :: fr) gf' ((key, .arr A' (n + m) c' te.sz (appR n f g)) :: mu) ga) : OJ G P N r D w0 all Q J o fr gf mu ga := fun B a w H ff mm gg gk => by
  obtain ⟨t1, t2⟩ := hT.get h1
  obtain ⟨d, d1, d2⟩ := t2.desc
  simp only at t1 d1 d2
  subst t1
  obtain rfl := shapeK_slc d2
  obtain ⟨u1, u2⟩ := hT.get h2
  subst u1
  have hzs : te.zero.cells.size = te.sz := by
    rw [vcells_eq] at hz
    have := vcells_den te.zero B
    simp only [Option.map_some, Option.some.injEq] at hz
    rw [← hz, ← Array.length_toList, ← List.length_map (f := AV.den B) (as := vcellsL te.zero)]
    rw [← this]
  obtain ⟨A', c', w', h', r1, r2, r3, r4, r5⟩ := run_append (ty := o.type) d1 u2 hpos hzs (mm.sat key _ hk) (mm.fit key) hgl (src B w H mm.mr gg) hb hm
  refine one_val (wanted_none hg) (v := .slice A' (n + m) c') (w' := w') ?_ ?_
  · obtain ⟨dst, op, type, pos, after, guard⟩ := o
    simp only at hop r1
    subst hop
    have e1 := ff.ev (g := []) (fun _ _ hm => by cases hm) hs
    have e2 := ff.ev (g := []) (fun _ _ hm => by cases hm) hx
    simp only [SV.den, AV.den] at e1
    simp only [execOp, resolve, Sem.run_bind, Sem.run_pure, Result.andThen_ok, invoke, builtin, List.map_toArray, List.map_cons, List.map_nil, e1, e2, r1]
  · rw [hd]
    exact k A' c' B _ w' _ (ff.put (by simpa [Nat.blt_eq] using ht) rfl hgd) (mm.turn r3 r4 r5 r2) gg (gk.setH hkey _)
theorem Src_ra {te : TI} {tx : Nat} {e' : TypeId} (hu : P.underlying tx = some (.slice e')) {A : Option Addr} {m c : Nat} {g : Nat → List Value} {h : PH} (hr : RA.ok h ⟨A, m, te.sz, g⟩) (hf : Fit h w) (hpos : 0 < te.sz) (h1 : ∀ i, i < m → ∀ u ∈ g i, oneV u = true) : Src P te.sz tx (.slice A m c) m (flatR g m) w := by
  have hlen : ∀ i, i < m → (g i).length = te.sz := fun i hi => by obtain ⟨_, _, _, q, _⟩ := hr i hi; exact q
  cases A with
  | none =>
    have h0 : m = 0 := by
      rcases Nat.eq_zero_or_pos m with h | h
      · exact h
      · obtain ⟨_, _, e, _⟩ := hr 0 h; cases e
    subst h0
    exact Src.ofNil w hu c
  | some ad =>
    refine Src.ofSlice w hu ad m c _ (flatR_length hlen) (fun k v hk => ?_) fun u hu => ?_
    · have hlt : k < m * te.sz := by rw [← flatR_length hlen]; exact (List.getElem?_eq_some_iff.1 hk).1
      obtain ⟨q, p, c1, c2, rfl⟩ := flatR_cell hlen hpos hlt
      obtain ⟨b, o, e, q1, q2⟩ := hr _ c1
      injection e with e
      subst e
      have h1 := flatR_get hlen c1 c2
      rw [hk] at h1
      have h3 := q2 _ c2
      rw [← h1] at h3
      have h2 := (hf _ _ _ h3).1
      rw [add_mk, ← Nat.add_assoc]
      exact h2
    · have : ∀ n, n ≤ m → ∀ u ∈ flatR g n, oneV u = true := fun n => by
        induction n with
        | zero => intro _ u hu; cases hu
        | succ n ih =>
          intro hn u hu
          rw [flatR] at hu
          rcases List.mem_append.1 hu with h | h
          · exact ih (by omega) u h
          · exact h1 n (by omega) u h
      exact oneV_cell (this m (Nat.le_refl _) u hu)
theorem Src_arr {te : TI} {tx : Nat} {e' : TypeId} (hu : P.underlying tx = some (.slice e')) {key : Nat} {A : Option Addr} {m c : Nat} {g : Nat → List Value} {h : PH} (hr : (Ch.arr A m c te.sz g).sat B key h) (hf : Fit h w) (hpos : 0 < te.sz) (h1 : ∀ i, i < m → ∀ u ∈ g i, oneV u = true) : Src P te.sz tx (.slice A m c) m (flatR g m) w :=
  Src_ra hu (h := h) (fun i hi => hr.2.1 i hi) hf hpos h1
theorem RJ_app (hT : TOk P TT) (key : Nat) {t0 ts tx : Nat} {s x : Operand} {X : SV} {A : Option Addr} {n c m : Nat} {f : Nat → List Value} (g : Nat → List Value) {id sz1 by1 e : Nat} {z : Value} {te : TI}
    (hg : o.guard = none) (hd : o.dst = some t0) (ht : Nat.blt t0 N = true) (hop : o.op = .call { callee := .builtin .append, args := #[s, x], argTypes := #[ts, tx] }) (hs : ev [] fr gf s = some (.a (.sl key A n c))) (hx : ev [] fr gf x = some X)
    (h1 : tlk ts TT = some ⟨id, sz1, by1, .slc e, z⟩) (h2 : tlk e TT = some te) (hk : mlk key mu = some (.arr A n c te.sz f)) (hgd : gdrop t0 gf = some gf') (hz : (vcells te.zero).map (·.length) = some te.sz) (hpos : 0 < te.sz)
    (hgl : ∀ i, i < m → (g i).length = te.sz) (src : ∀ B w H, Mr B r mu w H → GaOk r ga → Src P te.sz tx (X.den B) m (flatR g m) w) (hb : (n + m) * te.by_ ≤ 140737488355328) (hm : n + m ≤ maxL)
    (k : ∀ A' c', RJ P N r D w0 all Q rest ((t0, .a (.sl key A' (n + m) c')) :: fr) gf' ((key, .arr A' (n + m) c' te.sz (appR n f g)) :: mu) ga) : RJ P N r D w0 all Q (o :: rest) fr gf mu ga :=
  RJ_of (OJ_app hT key rfl g hg hd ht hop hs hx h1 h2 hk hgd hz hpos hgl src hb hm fun A' c' => SJ_of (k A' c'))

/-! ### mutators -/
/-- a call that turns the memory h, and answers -/
def Mut (P : Program) (f : FuncId) (args : List Value) (w : World) (h : PH) (φ : Value → PH → Prop) : Prop :=
  Calls P f args.toArray w fun e w' => ∃ v h', e = .returned v ∧ φ v h' ∧ Fit h' w' ∧ Keep (fun b o => h b o ≠ none) w w' ∧ ∀ b o, h' b o ≠ none → h b o ≠ none ∨ w.heap.size ≤ b
/-- all that may be read but chunk key -/
noncomputable def AllX (key : Nat) (r : PH) (mu : Mu) (H : Nat → PH) : PH := AllP r (mdrop key mu) H
theorem mdrop_get {key : Nat} : ∀ {mu : Mu} {k : Nat} {c : Ch}, mlk k (mdrop key mu) = some c → k ≠ key ∧ mlk k mu = some c
  | [], _, _, h => by cases h
  | (j, d) :: l, k, c, h => by
    simp only [mdrop] at h
    cases e : Nat.beq j key with
    | true =>
      rw [e] at h
      simp only [cond_true] at h
      obtain ⟨h1, h2⟩ := mdrop_get h
      have := Nat.eq_of_beq_eq_true e
      refine ⟨h1, ?_⟩
      rw [mlk_cons, if_neg (by rw [this]; exact Ne.symm h1)]; exact h2
    | false =>
      rw [e] at h
      simp only [cond_false] at h
      rw [mlk_cons] at h ⊢
      by_cases hj : j = k
      · subst hj; rw [if_pos rfl] at h ⊢; exact ⟨Nat.ne_of_beq_eq_false e, h⟩
      · rw [if_neg hj] at h ⊢; exact mdrop_get h
theorem Mr.drop (m : Mr B r mu w H) (key : Nat) : Mr B r (mdrop key mu) w H := ⟨fun k c e => m.sat k c (mdrop_get e).2, fun k c e => m.fit k c (mdrop_get e).2, m.fitr, m.dj, m.djr⟩
theorem AllX_dj (m : Mr B r mu w H) (key : Nat) : (H key).dj (AllX key r mu H) := fun b o => by
  cases e : H key b o with
  | none => exact .inl rfl
  | some v =>
    right
    have hr : r b o = none := (m.djr key b o).resolve_left (by rw [e]; simp)
    unfold AllX AllP
    rw [hr]
    simp only
    rw [dif_neg]
    rintro ⟨v', k, ⟨c, hc⟩, hk⟩
    have hne := (mdrop_get hc).1
    rcases m.dj k key hne b o with h | h
    · rw [h] at hk; cases hk
    · rw [h] at e; cases e
theorem OJ_u {n t : Nat} (key : Nat) (hkey : hasK key G.ks = false) {svs : List SV} {caps : List AV} {φ : Value → PH → Prop} {c : Ch} (hk : mlk key mu = some c) (hg : o.guard = none) (hd : o.dst = some t) (ht : Nat.blt t N = true) (hc : callsOf [] fr gf o.op = some (n, svs, caps)) (he : Enters P n) (hgd : gdrop t gf = some gf')
    (h : ∀ B w H, Mr B r mu w H → Fit (H key) w → c.sat B key (H key) → Mut P n (svs.map (SV.den B) ++ caps.map (AV.den B)) w (H key) φ) (k : ∀ v, SJ G J N r D w0 ((t, .a (.v v)) :: fr) gf' ((key, .own (φ v)) :: mu) ga) :
    OJ G P N r D w0 all Q J o fr gf mu ga :=
  OJ_call hg hc he fun B a w H f m g gg => (h B w H m.mr (m.fit key) (m.sat key c hk)).mono fun e w' ⟨v, h', e1, e2, e3, e4, e5⟩ => ⟨v, e1, by
    rw [hd]
    exact k v B _ w' _ (f.put (by simpa [Nat.blt_eq] using ht) rfl hgd) (m.turn e3 e4 e5 (c' := .own (φ v)) e2) g (gg.setH hkey _)⟩
theorem RJ_u {n t : Nat} (key : Nat) {svs : List SV} {caps : List AV} {φ : Value → PH → Prop} {c : Ch} (hk : mlk key mu = some c) (hg : o.guard = none) (hd : o.dst = some t) (ht : Nat.blt t N = true) (hc : callsOf [] fr gf o.op = some (n, svs, caps)) (he : Enters P n) (hgd : gdrop t gf = some gf')
    (h : ∀ B w H, Mr B r mu w H → Fit (H key) w → c.sat B key (H key) → Mut P n (svs.map (SV.den B) ++ caps.map (AV.den B)) w (H key) φ) (k : ∀ v, RJ P N r D w0 all Q rest ((t, .a (.v v)) :: fr) gf' ((key, .own (φ v)) :: mu) ga) :
    RJ P N r D w0 all Q (o :: rest) fr gf mu ga := RJ_of (OJ_u key rfl hk hg hd ht hc he hgd h fun v => SJ_of (k v))
/-- the memory that a mutator begins with -/
theorem Mem.startU {w : World} {h : PH} (hr : Fit r w) (hh : Fit h w) (dj : h.dj r) (B : BE) (key : Nat) {c : Ch} (hc : c.sat B key h) : Mem B r (fun b o => h b o ≠ none) w [(key, c)] w (HF.set (fun _ => PH.emp) key h) := by
  refine ⟨fun j d e => ?_, fun j => ?_, fun i j hij => ?_, fun j => ?_, hr, Keep.refl _ _, fun j b o e => ?_⟩
  · rw [mlk_cons] at e
    by_cases hj : key = j
    · subst hj; rw [if_pos rfl] at e; injection e with e; subst e; simp only [HF.set, if_true]; exact hc
    · rw [if_neg hj] at e; cases e
  · by_cases hj : j = key
    · simp only [HF.set, if_pos hj]; exact hh
    · simp only [HF.set, if_neg hj]; exact Fit.emp _
  · by_cases hi : i = key <;> by_cases hj : j = key
    · exact absurd (hi.trans hj.symm) hij
    · simp only [HF.set, if_neg hj]; exact PH.dj_emp _
    · simp only [HF.set, if_neg hi]; exact PH.emp_dj _
    · simp only [HF.set, if_neg hi]; exact PH.emp_dj _
  · by_cases hj : j = key
    · simp only [HF.set, if_pos hj]; exact dj
    · simp only [HF.set, if_neg hj]; exact PH.emp_dj _
  · by_cases hj : j = key
    · simp only [HF.set, if_pos hj] at e; exact .inl e
    · simp only [HF.set, if_neg hj] at e; exact absurd rfl e
theorem enterU {f : FuncId} {fn : Func} {c : Code} (hf : P.funcs[f]? = some fn) (hb : fn.body = some c) (hN : fn.ntmps = N) {args : List Value} (svs : List SV) {φ : Value → PH → Prop} {h : PH} (key : Nat) (ψ : PH → Prop) (hψ : ψ h) (hargs : ∀ B, args = svs.map (SV.den B)) (hlen : svs.length ≤ N) (hr : Fit r w) (hh : Fit h w) (dj : h.dj r) (g : GaOk r ga)
    (k : T P N r (fun b o => h b o ≠ none) w (bodyPost P fn fun e w' => ∃ v h', e = .returned v ∧ φ v h' ∧ Fit h' w' ∧ Keep (fun b o => h b o ≠ none) w w' ∧ ∀ b o, h' b o ≠ none → h b o ≠ none ∨ w.heap.size ≤ b) c (frOf 0 svs) [(key, .own ψ)] ga []) : Mut P f args w h φ :=
  enter hf hb hN svs (fun _ => ⟨0, 0, none⟩) (by rw [hargs]) hlen (Mem.startU hr hh dj _ key (c := .own ψ) hψ) g k
theorem retU {fn : Func} {φ : Value → PH → Prop} {h : PH} (hT : TOk P TT) (ts : List (Nat × Option Nat)) (ks : List Nat) (hr : fn.results = (ts.map rvOf).toArray) {l : List SV} (hl : allGetC TT fr mu ga ts = some l) (k : ∀ B w H, Mem B r (fun b o => h b o ≠ none) w0 mu w H → φ (resV (l.map (SV.den B))) (unL H ks)) :
    T P N r (fun b o => h b o ≠ none) w0 (bodyPost P fn fun e w' => ∃ v h', e = .returned v ∧ φ v h' ∧ Fit h' w' ∧ Keep (fun b o => h b o ≠ none) w0 w' ∧ ∀ b o, h' b o ≠ none → h b o ≠ none ∨ w0.heap.size ≤ b) .ret fr mu ga K :=
  T_retC hT ts hr hl fun B w H m => ⟨_, unL H ks, rfl, k B w H m, unL_fit m ks, m.keep, fun b o hb => by
    obtain ⟨k, hk⟩ := unL_ne hb
    exact m.dom k b o hk⟩

/-! ### parts split and joined -/
theorem Mem.split (m : Mem B r D w0 mu w H) {key k1 k2 : Nat} {c1 c2 : Ch} {h1 h2 : PH} (l1 : h1.le (H key)) (l2 : h2.le (H key)) (d : h1.dj h2) (s1 : c1.sat B k1 h1) (s2 : c2.sat B k2 h2) (hk : k1 ≠ k2) (n1 : k1 = key ∨ mlk k1 mu = none) (n2 : k2 = key ∨ mlk k2 mu = none) :
    Mem B r D w0 ((k1, c1) :: (k2, c2) :: mdrop key mu) w (HF.set (HF.set (HF.set H key PH.emp) k2 h2) k1 h1) := by
  have hH : ∀ j, HF.set (HF.set (HF.set H key PH.emp) k2 h2) k1 h1 j = if j = k1 then h1 else if j = k2 then h2 else if j = key then PH.emp else H j := fun j => rfl
  have lj : ∀ j, j ≠ k1 → j ≠ k2 → ∀ g : PH, g.le (H key) → g.dj (HF.set (HF.set (HF.set H key PH.emp) k2 h2) k1 h1 j) := fun j a b g l => by
    rw [hH, if_neg a, if_neg b]
    by_cases c : j = key
    · rw [if_pos c]; exact PH.dj_emp _
    · rw [if_neg c]; exact PH.dj_le (m.dj key j (Ne.symm c)) l (PH.le_refl _)
  refine ⟨fun j c e => ?_, fun j => ?_, fun i j hij => ?_, fun j => ?_, m.fitr, m.keep, fun j b o e => ?_⟩
  · rw [mlk_cons] at e
    rw [hH]
    by_cases a : k1 = j
    · rw [if_pos a] at e; injection e with e; subst e; subst a; rw [if_pos rfl]; exact s1
    · rw [if_neg a, mlk_cons] at e
      rw [if_neg (Ne.symm a)]
      by_cases b : k2 = j
      · rw [if_pos b] at e; injection e with e; subst e; subst b; rw [if_pos rfl]; exact s2
      · rw [if_neg b] at e
        rw [if_neg (Ne.symm b)]
        obtain ⟨h3, h4⟩ := mdrop_get e
        rw [if_neg h3]
        exact m.sat j c h4
  · rw [hH]
    split
    · exact (m.fit key).le l1
    · split
      · exact (m.fit key).le l2
      · split
        · exact Fit.emp _
        · exact m.fit j
  · by_cases a : i = k1
    · subst a
      rw [hH i, if_pos rfl]
      by_cases b : j = k2
      · rw [hH, if_neg (Ne.symm hij), if_pos b]; exact d
      · exact lj j (Ne.symm hij) b h1 l1
    · by_cases b : i = k2
      · subst b
        rw [hH i, if_neg a, if_pos rfl]
        by_cases c : j = k1
        · rw [hH, if_pos c]; exact PH.dj_symm d
        · exact lj j c (Ne.symm hij) h2 l2
      · by_cases c : j = k1
        · rw [hH j, if_pos c]; exact PH.dj_symm (lj i a b h1 l1)
        · by_cases e : j = k2
          · rw [hH j, if_neg c, if_pos e]; exact PH.dj_symm (lj i a b h2 l2)
          · rw [hH i, hH j, if_neg a, if_neg b, if_neg c, if_neg e]
            by_cases f : i = key
            · rw [if_pos f]; exact PH.emp_dj _
            · by_cases g : j = key
              · rw [if_pos g]; exact PH.dj_emp _
              · rw [if_neg f, if_neg g]; exact m.dj i j hij
  · rw [hH]
    split
    · exact PH.dj_le (m.djr key) l1 (PH.le_refl _)
    · split
      · exact PH.dj_le (m.djr key) l2 (PH.le_refl _)
      · split
        · exact PH.emp_dj _
        · exact m.djr j
  · rw [hH] at e
    have ne : ∀ g : PH, g.le (H key) → g b o ≠ none → H key b o ≠ none := fun g l hb => by
      cases x : g b o with
      | none => exact absurd x hb
      | some v => rw [l b o v x]; simp
    split at e
    · exact m.dom key b o (ne _ l1 e)
    · split at e
      · exact m.dom key b o (ne _ l2 e)
      · split at e
        · exact absurd rfl e
        · exact m.dom j b o e
theorem T_split {cd : Code} (key k1 k2 : Nat) {c : Ch} {ι : Type} (c1 c2 : ι → Ch) (hk : mlk key mu = some c) (hs : ∀ B h, c.sat B key h → ∃ x h1 h2, h1.le h ∧ h2.le h ∧ h1.dj h2 ∧ (c1 x).sat B k1 h1 ∧ (c2 x).sat B k2 h2) (hne : Nat.beq k1 k2 = false) (n1 : (Nat.beq k1 key || (mlk k1 mu).isNone) = true) (n2 : (Nat.beq k2 key || (mlk k2 mu).isNone) = true)
    (k : ∀ x, T P N r D w0 R cd fr ((k1, c1 x) :: (k2, c2 x) :: mdrop key mu) ga K) : T P N r D w0 R cd fr mu ga K := fun B a w H f m g => by
  obtain ⟨x, h1, h2, l1, l2, d, s1, s2⟩ := hs B _ (m.sat key c hk)
  have cv : ∀ k, (Nat.beq k key || (mlk k mu).isNone) = true → k = key ∨ mlk k mu = none := fun k h => by
    rcases Bool.or_eq_true _ _ ▸ h with h | h
    · exact .inl (Nat.eq_of_beq_eq_true h)
    · exact .inr (by simpa using h)
  exact k x B a w _ f (m.split l1 l2 d s1 s2 (Nat.ne_of_beq_eq_false hne) (cv k1 n1) (cv k2 n2)) g
theorem RJ_split (key k1 k2 : Nat) {c : Ch} {ι : Type} (c1 c2 : ι → Ch) (hk : mlk key mu = some c) (hs : ∀ B h, c.sat B key h → ∃ x h1 h2, h1.le h ∧ h2.le h ∧ h1.dj h2 ∧ (c1 x).sat B k1 h1 ∧ (c2 x).sat B k2 h2) (hne : Nat.beq k1 k2 = false) (n1 : (Nat.beq k1 key || (mlk k1 mu).isNone) = true) (n2 : (Nat.beq k2 key || (mlk k2 mu).isNone) = true)
    (k : ∀ x, RJ P N r D w0 all Q rest fr gf ((k1, c1 x) :: (k2, c2 x) :: mdrop key mu) ga) : RJ P N r D w0 all Q rest fr gf mu ga := fun B a w H f m g => by
  obtain ⟨x, h1, h2, l1, l2, d, s1, s2⟩ := hs B _ (m.sat key c hk)
  have cv : ∀ k, (Nat.beq k key || (mlk k mu).isNone) = true → k = key ∨ mlk k mu = none := fun k h => by
    rcases Bool.or_eq_true _ _ ▸ h with h | h
    · exact .inl (Nat.eq_of_beq_eq_true h)
    · exact .inr (by simpa using h)
  exact k x B a w _ f (m.split l1 l2 d s1 s2 (Nat.ne_of_beq_eq_false hne) (cv k1 n1) (cv k2 n2)) g
/-- two chunks become one -/
theorem Mem.join (m : Mem B r D w0 mu w H) {k1 k2 : Nat} (hk : k1 ≠ k2) {c : Ch} (hc : c.sat B k1 ((H k1).un (H k2))) : Mem B r D w0 ((k1, c) :: mdrop k2 mu) w (HF.set (HF.set H k2 PH.emp) k1 ((H k1).un (H k2))) := by
  have hH : ∀ j, HF.set (HF.set H k2 PH.emp) k1 ((H k1).un (H k2)) j = if j = k1 then (H k1).un (H k2) else if j = k2 then PH.emp else H j := fun j => rfl
  have lj : ∀ j, j ≠ k1 → ((H k1).un (H k2)).dj (if j = k2 then PH.emp else H j) := fun j a => by
    by_cases c : j = k2
    · rw [if_pos c]; exact PH.dj_emp _
    · rw [if_neg c]; exact PH.un_dj (m.dj k1 j (Ne.symm a)) (m.dj k2 j (Ne.symm c))
  refine ⟨fun j c e => ?_, fun j => ?_, fun i j hij => ?_, fun j => ?_, m.fitr, m.keep, fun j b o e => ?_⟩
  · rw [mlk_cons] at e
    rw [hH]
    by_cases a : k1 = j
    · rw [if_pos a] at e; injection e with e; subst e; subst a; rw [if_pos rfl]; exact hc
    · rw [if_neg a] at e
      obtain ⟨h3, h4⟩ := mdrop_get e
      rw [if_neg (Ne.symm a), if_neg h3]
      exact m.sat j _ h4
  · rw [hH]
    split
    · exact (m.fit k1).un (m.fit k2)
    · split
      · exact Fit.emp _
      · exact m.fit j
  · by_cases a : i = k1
    · subst a
      rw [hH i, if_pos rfl, hH j, if_neg (Ne.symm hij)]; exact lj j (Ne.symm hij)
    · by_cases c : j = k1
      · subst c
        rw [hH j, if_pos rfl, hH i, if_neg a]; exact PH.dj_symm (lj i a)
      · rw [hH i, hH j, if_neg a, if_neg c]
        by_cases f : i = k2
        · rw [if_pos f]; exact PH.emp_dj _
        · by_cases g : j = k2
          · rw [if_pos g]; exact PH.dj_emp _
          · rw [if_neg f, if_neg g]; exact m.dj i j hij
  · rw [hH]
    split
    · exact PH.un_dj (m.djr k1) (m.djr k2)
    · split
      · exact PH.emp_dj _
      · exact m.djr j
  · rw [hH] at e
    split at e
    · rcases PH.un_ne e with h | h
      · exact m.dom k1 b o h
      · exact m.dom k2 b o h
    · split at e
      · exact absurd rfl e
      · exact m.dom j b o e
theorem T_join {cd : Code} (k1 k2 : Nat) {c1 c2 : Ch} (φ : PH → Prop) (e1 : mlk k1 mu = some c1) (e2 : mlk k2 mu = some c2) (hne : Nat.beq k1 k2 = false) (hs : ∀ B h1 h2, h1.dj h2 → c1.sat B k1 h1 → c2.sat B k2 h2 → φ (h1.un h2))
    (k : T P N r D w0 R cd fr ((k1, .own φ) :: mdrop k2 mu) ga K) : T P N r D w0 R cd fr mu ga K := fun B a w H f m g =>
  k B a w _ f (m.join (Nat.ne_of_beq_eq_false hne) (c := .own φ) (hs B _ _ (m.dj k1 k2 (Nat.ne_of_beq_eq_false hne)) (m.sat k1 c1 e1) (m.sat k2 c2 e2))) g
theorem RJ_join (k1 k2 : Nat) {c1 c2 : Ch} (φ : PH → Prop) (e1 : mlk k1 mu = some c1) (e2 : mlk k2 mu = some c2) (hne : Nat.beq k1 k2 = false) (hs : ∀ B h1 h2, h1.dj h2 → c1.sat B k1 h1 → c2.sat B k2 h2 → φ (h1.un h2))
    (k : RJ P N r D w0 all Q rest fr gf ((k1, .own φ) :: mdrop k2 mu) ga) : RJ P N r D w0 all Q rest fr gf mu ga := fun B a w H f m g =>
  k B a w _ f (m.join (Nat.ne_of_beq_eq_false hne) (c := .own φ) (hs B _ _ (m.dj k1 k2 (Nat.ne_of_beq_eq_false hne)) (m.sat k1 c1 e1) (m.sat k2 c2 e2))) g

/-! ### other words for the same -/
theorem Mem.imp (m : Mem B r D w0 mu w H) {key : Nat} {c d : Ch} (hk : mlk key mu = some c) (hd : d.sat B key (H key)) : Mem B r D w0 ((key, d) :: mu) w H :=
  ⟨fun j x e => by
    rw [mlk_cons] at e
    by_cases a : key = j
    · rw [if_pos a] at e; injection e with e; subst e; subst a; exact hd
    · rw [if_neg a] at e; exact m.sat j x e, m.fit, m.dj, m.djr, m.fitr, m.keep, m.dom⟩
/-- a chunk in other words -/
theorem T_view {cd : Code} (key : Nat) {c : Ch} {ι : Type} (d : ι → Ch) (hk : mlk key mu = some c) (hs : ∀ B h, c.sat B key h → ∃ x, (d x).sat B key h) (k : ∀ x, T P N r D w0 R cd fr ((key, d x) :: mu) ga K) : T P N r D w0 R cd fr mu ga K := fun B a w H f m g => by
  obtain ⟨x, hx⟩ := hs B _ (m.sat key c hk)
  exact k x B a w H f (m.imp hk hx) g
theorem RJ_view (key : Nat) {c : Ch} {ι : Type} (d : ι → Ch) (hk : mlk key mu = some c) (hs : ∀ B h, c.sat B key h → ∃ x, (d x).sat B key h) (k : ∀ x, RJ P N r D w0 all Q rest fr gf ((key, d x) :: mu) ga) : RJ P N r D w0 all Q rest fr gf mu ga := fun B a w H f m g => by
  obtain ⟨x, hx⟩ := hs B _ (m.sat key c hk)
  exact k x B a w H f (m.imp hk hx) g
/-- a slot in other words -/
theorem T_tag {cd : Code} (t : Nat) {x : SV} (y : SV) (hx : mlk t fr = some x) (hd : ∀ B, x.den B = y.den B) (k : T P N r D w0 R cd ((t, y) :: fr) mu ga K) : T P N r D w0 R cd fr mu ga K := fun B a w H f m g =>
  k B a w H ⟨f.size, f.defers, fun t' z h1 _ => by
    rw [mlk_cons] at h1
    by_cases e : t = t'
    · rw [if_pos e] at h1; injection h1 with h1; subst h1; subst e; rw [← hd B]; exact f.vfr t x hx rfl
    · rw [if_neg e] at h1; exact f.vfr t' z h1 rfl, fun _ _ _ _ h => (by cases h), fun _ _ _ _ h => (by cases h), fun _ _ _ _ h => (by cases h)⟩ m g
theorem RJ_tag (t : Nat) {x : SV} (y : SV) (hx : mlk t fr = some x) (hn : gdrop t gf = some gf) (hd : ∀ B, x.den B = y.den B) (k : RJ P N r D w0 all Q rest ((t, y) :: fr) gf mu ga) : RJ P N r D w0 all Q rest fr gf mu ga := fun B a w H f m g =>
  k B a w H ⟨f.size, f.defers, fun t' z h1 h2 => by
    rw [mlk_cons] at h1
    by_cases e : t = t'
    · rw [if_pos e] at h1; injection h1 with h1; subst h1; subst e; rw [← hd B]; exact f.vfr t x hx h2
    · rw [if_neg e] at h1; exact f.vfr t' z h1 h2, f.vgf, f.vgu, fun t' d w z h1 => by
      have := (gdrop_mem hn h1).2.1
      simp only at this
      rw [mlk_cons, if_neg (Ne.symm this)]
      exact f.vno t' d w z h1⟩ m g
/-- one more array to be read -/
theorem T_ga {cd : Code} (key : Nat) (x : RA) (hx : x.ok r) (k : T P N r D w0 R cd fr mu ((key, x) :: ga) K) : T P N r D w0 R cd fr mu ga K := fun B a w H f m g => k B a w H f m (GaOk.cons hx g)
theorem RJ_ga (key : Nat) (x : RA) (hx : x.ok r) (k : RJ P N r D w0 all Q rest fr gf mu ((key, x) :: ga)) : RJ P N r D w0 all Q rest fr gf mu ga := fun B a w H f m g => k B a w H f m (GaOk.cons hx g)
/-- no memory at all, under a new key -/
theorem Mem.none (m : Mem B r D w0 mu w H) (key : Nat) {c : Ch} (hc : c.sat B key PH.emp) : Mem B r D w0 ((key, c) :: mu) w (HF.set H key PH.emp) := by
  refine ⟨fun j d e => ?_, fun j => ?_, fun i j hij => ?_, fun j => ?_, m.fitr, m.keep, fun j b o e => ?_⟩
  · rw [mlk_cons] at e
    by_cases hj : key = j
    · subst hj; rw [if_pos rfl] at e; injection e with e; subst e; simp only [HF.set, if_true]; exact hc
    · rw [if_neg hj] at e; simp only [HF.set, if_neg (Ne.symm hj)]; exact m.sat j d e
  · by_cases hj : j = key
    · simp only [HF.set, if_pos hj]; exact Fit.emp _
    · simp only [HF.set, if_neg hj]; exact m.fit j
  · by_cases hi : i = key <;> by_cases hj : j = key
    · exact absurd (hi.trans hj.symm) hij
    · simp only [HF.set, if_pos hi, if_neg hj]; exact PH.emp_dj _
    · simp only [HF.set, if_neg hi, if_pos hj]; exact PH.dj_emp _
    · simp only [HF.set, if_neg hi, if_neg hj]; exact m.dj i j hij
  · by_cases hj : j = key
    · simp only [HF.set, if_pos hj]; exact PH.emp_dj _
    · simp only [HF.set, if_neg hj]; exact m.djr j
  · by_cases hj : j = key
    · simp only [HF.set, if_pos hj] at e; exact absurd rfl e
    · simp only [HF.set, if_neg hj] at e; exact m.dom j b o e
theorem T_none {cd : Code} (key : Nat) (c : Ch) (hc : ∀ B, c.sat B key PH.emp) (k : T P N r D w0 R cd fr ((key, c) :: mu) ga K) : T P N r D w0 R cd fr mu ga K := fun B a w H f m g => k B a w _ f (m.none key (hc B)) g
theorem arr_none (B : BE) (key sz : Nat) (f : Nat → List Value) : (Ch.arr none 0 0 sz f).sat B key PH.emp := ⟨Nat.le_refl _, fun i hi => absurd hi (Nat.not_lt_zero _), fun i _ hi => absurd hi (Nat.not_lt_zero _)⟩
theorem own_none {α : Type} (k : Kd α) (B : BE) (key : Nat) : (Ch.own fun h => k.sown h (.slice none 0 0) []).sat B key PH.emp := Kd.sown_nil _
end
end Go.Proofs.Ytiilpopeognekaa
