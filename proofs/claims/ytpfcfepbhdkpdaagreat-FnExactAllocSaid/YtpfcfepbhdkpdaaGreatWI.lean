
/-
  Capacity: a slice is cut anew within its capacity; zeros are appended behind a part; copy; overlaps.
-/
import Derived.Test.YtpfcfepbhdkpdaaGreatWH
import Derived.Lib.AppendZerosOnto
import Derived.Lib.Overlaps
namespace Go.Proofs.YtpfcfepbhdkpdaaGreat
open Go Go.RowKit
set_option linter.unusedVariables false
set_option linter.unusedSimpArgs false

section
variable {P : Program} {w : World}
theorem VA_re {A : Option Addr} {n c sz k : Nat} {rows : Nat → List Value} {h : PH} (va : VA A n c sz rows h) (h1 : n ≤ k) (h2 : k ≤ c) : ∃ junk : Nat → List Value, (∀ i, (junk i).length = sz) ∧ VA A k c sz (appR n rows junk) h := by
  obtain ⟨v1, v2, v3⟩ := va
  refine ⟨fun i => (List.range sz).map fun j => match A with | some a => (h a.block (a.off + (n + i) * sz + j)).getD undef | none => undef, fun i => by simp, h2, fun i hi => ?_, fun i hi hi2 => v3 i (by omega) hi2⟩
  by_cases c1 : i < n
  · rw [appR_lt c1]; exact v2 i c1
  · rw [appR_ge (by omega)]
    obtain ⟨b, o, rfl, q⟩ := v3 i (by omega) (by omega)
    refine ⟨b, o, rfl, by simp, fun j hj => ?_⟩
    have e : n + (i - n) = i := by omega
    simp only [List.getElem?_map, List.getElem?_range hj, Option.map_some, e]
    cases hx : h b (o + i * sz + j) with
    | none => exact absurd hx (q j hj)
    | some v => rfl
theorem own_re {h : PH} {sz n k : Nat} {f : Nat → List D} {y : Value} (e : D.own h (.sl sz n f) y) {A : Option Addr} {c : Nat} (hy : y = .slice A n c) (h1 : n ≤ k) (h2 : k ≤ c) (h3 : k ≤ maxL) : ∃ junk : Nat → List Value, (∀ i, (junk i).length = sz) ∧ D.own h (.sl sz k (appD n f fun i => (junk i).map D.v)) (.slice A k c) := by
  obtain ⟨A', c', row, hc, hp, G, e1, s1, va, lc, lp, d, s2, s3, s4⟩ := own_VA e
  rw [hy] at e1
  injection e1 with e5 e6 e7
  subst e5; subst e7
  obtain ⟨junk, j1, va'⟩ := VA_re va h1 h2
  refine ⟨junk, j1, VA_own (G := fun i => if i < n then G i else PH.emp) va' h3 lc lp d (fun i hi => ?_) (fun i hi => ?_) (fun i j hi hj hij => ?_)⟩
  · by_cases c1 : i < n
    · rw [if_pos c1, appD_lt c1, appR_lt c1]; exact (s2 i c1).1
    · rw [if_neg c1, appD_ge (by omega), appR_ge (by omega)]; exact flat_owns
  · split
    · exact s3 i
    · exact PH.emp_le _
  · split
    · split
      · exact s4 i j hij
      · exact PH.dj_emp _
    · exact PH.emp_dj _
end
section
variable {E : Env} {B : BE} {mu mu' : Mu} {w : World} {H : Nat → PH} {TT : List TI} {fr fr' : Fr} {gf gf' : GF} {a : Act} {all rest : List Oper} {Q : Exit → Act → World → Prop} {o : Oper} {J : Act → World → Prop} {G : AG} {R : Exit → Act → World → Prop} {K : List KF}
theorem RJ_cap (t k : Nat) {sz n : Nat} {f : Nat → List D} (hx : mlk t fr = some (.a (.g k))) (hg : glk t gf = none) (hk : mlk k mu = some (.arr sz n f)) (h : ∀ cp, n ≤ cp → RJ E all Q rest ((t, .a (.gl k n cp)) :: fr) gf mu) : RJ E all Q rest fr gf mu := fun B a w H ff m => by
  obtain ⟨cp, h1, f'⟩ := gl_cap t k hx hg hk ff m
  exact h cp h1 B a w H f' m
theorem V_glc (t tg k : Nat) {n cp : Nat} (hx : mlk t fr = some (.a (.g k))) (hg : glk t gf = none) (hl1 : mlk tg fr = some (.a (.gl k n cp))) (hl2 : glk tg gf = none) : View E fr gf mu ((t, .a (.gl k n cp)) :: fr) gf mu := fun B w H a ff m => by
  have e1 : a.tmps.getD t undef = B k ∧ oneV (a.tmps.getD t undef) = true := ff.vfr t _ hx hg
  obtain ⟨e3, _, A, e4⟩ := (show a.tmps.getD tg undef = B k ∧ _ ∧ ∃ A, _ = Value.slice A n cp from ff.vfr tg _ hl1 hl2)
  refine ⟨B, H, ⟨ff.size, ff.defers, fun t' x e5 e6 => ?_, ff.vgf, ff.vgu, fun t' d w x e5 => ?_⟩, m⟩
  · rw [mlk_cons] at e5
    by_cases h : t = t'
    · subst h
      rw [if_pos rfl] at e5
      injection e5 with e5
      subst e5
      exact ⟨e1.1, e1.2, A, e1.1.trans (e3.symm.trans e4)⟩
    · rw [if_neg h] at e5; exact ff.vfr t' x e5 e6
  · rw [mlk_cons]
    have h1 := ff.vno t' d w x e5
    have h2 : t ≠ t' := fun h => by subst h; rw [hx] at h1; cases h1
    rw [if_neg h2]; exact h1
/-- an own array is cut anew, up to its capacity; slot tg tells this -/
theorem OJ_re (hT : TOk E.P TT) (k k' tg : Nat) {t0 ts n cp : Nat} {x : Operand} {hi : Option Operand} {i : Int} {f : Nat → List D} {id sz1 by1 e : Nat} {z : Value} {ef : Bool} {te : TI} {md : Mu} {fr' : Fr} {gf2 : GF}
    (hop : o.op = .slice ts x none hi none) (hx : ev [] fr gf x = some (.a (.gl k n cp))) (hl1 : mlk tg fr = some (.a (.gl k n cp))) (hl2 : glk tg gf = none) (h1 : tlk ts TT = some ⟨id, sz1, by1, .slc e, z, ef⟩) (h2 : tlk e TT = some te) (hk : mlk k mu = some (.arr te.sz n f)) (hbd : bndV [] fr gf n hi = some i) (hgd : gdrop t0 gf = some gf')
    (hmd : mdropKs [k, k'] mu = some md) (hcut : cutKs [k] fr gf' = some (fr', gf2)) (hi1 : (n : Int) ≤ i ∧ i ≤ cp ∧ i ≤ maxL)
    (kk : ∀ junk : Nat → List Value, (∀ j, (junk j).length = te.sz) → SJ G J E ((t0, .a (.g k')) :: fr') gf2 ((k', .arr te.sz i.toNat (appD n f fun j => (junk j).map D.v)) :: md)) (hkeys : keysB [k] [k'] [(k, .arr te.sz n f)] fr gf mu E.A.ks G.ks = true := by exact rfl) (hne : hasK k' [k] = false := by exact rfl)
    (hg : o.guard = none := by exact rfl) (hd : o.dst = some t0 := by exact rfl) (ht : Nat.blt t0 E.N = true := by exact rfl) : OJ G E all Q J o fr gf mu := by
  refine OJ_B (ι := Nat → List Value) (ks := [k]) (nk := [k']) (mu1 := [(k, .arr te.sz n f)]) (φ := fun junk => ∀ j, (junk j).length = te.sz) (res := fun _ => .a (.g k')) (mu1' := fun junk => [(k', .arr te.sz i.toNat (appD n f fun j => (junk j).map D.v))]) (fun B a w H ff mm => ?_) hg hd ht hgd (fun _ => rfl) hkeys (fun _ => ?_) hmd hcut kk
  · obtain ⟨d1, u2⟩ := slc_of hT h1 h2
    obtain ⟨i0, i1, i2, _⟩ := u2.info
    have hgl : ∀ d w, (d, w) ∈ ([] : Gd) → a.tmps.getD d undef = .bool w := fun _ _ hm => by cases hm
    have e1 : a.eval x = B k := (show _ ∧ _ ∧ _ from ff.ev (g := []) hgl hx).1
    have sk : D.own (H k) (.sl te.sz n f) (B k) := mm.mm.sat k _ hk
    obtain ⟨e3, _, A, e4⟩ := (show a.tmps.getD tg undef = B k ∧ _ ∧ ∃ A, _ = Value.slice A n cp from ff.vfr tg _ hl1 hl2)
    have hB : B k = .slice A n cp := e3.symm.trans e4
    obtain ⟨junk, j1, s'⟩ := own_re sk hB (k := i.toNat) (by omega) (by omega) (by omega)
    have hb := run_sliceBounds (P := E.P) (w := w) (b := true) (len := n) (cap := cp) (l := 0) (.inl ⟨rfl, rfl⟩) (bnd_run ff hgl hbd) ⟨Int.le_refl _, by omega⟩ hi1.2.1
    have r : Ret1 E.P [k] B (AllP E.r (keysO [(k, Ch.arr te.sz n f)]) H) [(k, .arr te.sz n f)] w (onlyK (keysO [(k, Ch.arr te.sz n f)]) H) (fun _ : Unit => True) (fun _ => .a (.g k')) (fun _ => [(k', .arr te.sz i.toNat (appD n f fun j => (junk j).map D.v))]) () (.slice A i.toNat cp) w _ _ := Ret1.new (AllP_fit mm.mm) hne (onlyK_dj mm _) (own_new s') s' (mm.mm.fit k) (Keep.refl _ _) fun b o h => .inl ⟨k, by simp [keysO, Ch.own?, hasK, Nat.beq_refl], by rw [onlyK_self k (by simp [keysO, Ch.own?, hasK, Nat.beq_refl])]; exact h⟩
    refine ⟨junk, .slice A i.toNat cp, w, _, _, ?_, ⟨j1, r.2, r.3, r.4, r.5, r.6⟩⟩
    obtain ⟨dst, op, type, pos, after, guard⟩ := o
    simp only at hop
    subst hop
    simp only [execOp, e1, hB, Option.map_none]
    refine run_value ?_
    simp only [Instr.sliceAt, Instr.slice, Sem.run_bind, run_underlying d1, Result.andThen_ok, Sem.run_pure, hb, run_size i1, i2]
    cases A <;> simp [Addr.add]
  · simp [SV.inK, V.inK, muIn, Ch.own?, Ch.rowL, allL, appK, hasK, Nat.beq_refl]
end

/-! ### copy -/
def cpD {α : Type} (lo m : Nat) (g f : Nat → α) : Nat → α := fun i => if lo ≤ i ∧ i < lo + m then g (i - lo) else f i
section
variable {P : Program} {w : World}
theorem run_copyV {t tx ty : TypeId} {te : TI} (ht : P.underlying t = some (.slice te.id)) (hti : te.ok P) (hpos : 0 < te.sz) {h : PH} {b o n c : Nat} {f : Nat → List Value} (s : VA (some ⟨b, o, none⟩) n c te.sz f h) (hf : FitO h w)
    {lo dl dc : Nat} {sa : Addr} {sl sc m : Nat} (hm : m = Nat.min sl dl) (h0 : 0 < m) (hlo : lo + dl ≤ n) {g : Nat → List Value} (hg : ∀ i, i < m → (g i).length = te.sz ∧ ∀ j, j < te.sz → ∀ v, (g i)[j]? = some v → w.cell? (sa.add (i * te.sz + j)) = some v) (h1 : ∀ i, i < m → ∀ u ∈ g i, oneV u = true) :
    ∃ w' h', (Builtin.copy_ #[t, tx] ty #[.slice (some ⟨b, o + lo * te.sz, none⟩) dl dc, .slice (some sa) sl sc]).run P w = .ok (goInt m) w' ∧ VA (some ⟨b, o, none⟩) n c te.sz (cpD lo m g f) h' ∧ FitO h' w' ∧ Keep (fun b o => h b o ≠ none) w w' ∧ ∀ b o, h' b o ≠ none → h b o ≠ none := by
  obtain ⟨i, i1, i2, i3, i4⟩ := hti.info
  obtain ⟨s0, s1, s2⟩ := s
  have hmd : m ≤ dl := by rw [hm]; exact Nat.min_le_right _ _
  have hlen : ∀ i, i < m → (g i).length = te.sz := fun i hi => (hg i hi).1
  have hnl := flatR_length hlen
  have hin : ∀ j, j < (flatR g m).length → h b (o + lo * te.sz + j) ≠ none := fun j hj => by
    rw [hnl] at hj
    obtain ⟨q, p, c1, c2, rfl⟩ := flatR_cell hlen hpos hj
    obtain ⟨b', o', e, l1, l2⟩ := s1 (lo + q) (by omega)
    injection e with e
    injection e with e1 e2
    subst e1; subst e2
    have := l2 p c2
    rw [Nat.add_mul, show o + (lo * te.sz + q * te.sz) + p = o + lo * te.sz + (q * te.sz + p) from by omega] at this
    rw [this, List.getElem?_eq_getElem (by omega)]; simp
  have hfc : (Builtin.firstCells i.size m (.slice (some sa) sl sc)).run P w = .ok (flatR g m).toArray w := run_firstCells_some (P := P) w i.size m sa sl sc (flatR g m) (by rw [i2]; exact hnl) fun k v hk => by
    have hlt : k < m * te.sz := by rw [← hnl]; exact (List.getElem?_eq_some_iff.1 hk).1
    obtain ⟨q, p, c1, c2, rfl⟩ := flatR_cell hlen hpos hlt
    rw [flatR_get hlen c1 c2] at hk
    exact (hg q c1).2 p c2 v hk
  obtain ⟨w', r1, r2, r3, r4⟩ := run_storeCells (P := P) (flatR g m) w b (o + lo * te.sz) 0 h hf.fit (by simpa using hin) (flatR_one h1)
  simp only [Nat.add_zero] at r2 r3
  refine ⟨w', _, ?_, ⟨s0, fun k hk => ⟨b, o, rfl, ?_⟩, fun k hk hk2 => ?_⟩, hf.turn r2 r3 fun b' o' hb' => ⟨o', PH.updL_ne hin hb'⟩, r3.mono fun x _ y hxy => ?_, fun b' o' hb' => PH.updL_ne hin hb'⟩
  · simp only [Builtin.copy_, List.getElem?_toArray, List.getElem?_cons_zero, List.getElem?_cons_succ, Sem.run_bind, run_underlying ht, Result.andThen_ok, Builtin.lenOf, Sem.run_pure, sizeOf, typeInfo, run_size i1, ← hm, hfc, r1]
    simp [i1, ← hm, hfc, r1]
  · obtain ⟨b', o', e, l1, l2⟩ := s1 k hk
    injection e with e
    injection e with e1 e2
    subst e1; subst e2
    unfold cpD
    by_cases c1 : lo ≤ k ∧ k < lo + m
    · rw [if_pos c1]
      refine ⟨hlen _ (by omega), fun j hj => ?_⟩
      have h2 : k * te.sz = lo * te.sz + (k - lo) * te.sz := by rw [← Nat.add_mul]; congr 1; omega
      have h3 : (k - lo + 1) * te.sz ≤ m * te.sz := Nat.mul_le_mul_right _ (by omega)
      rw [Nat.add_mul, Nat.one_mul] at h3
      rw [show o + k * te.sz + j = o + lo * te.sz + ((k - lo) * te.sz + j) from by omega, PH.updL_in _ _ _ _ (by omega), flatR_get hlen (by omega) hj]
    · rw [if_neg c1]
      refine ⟨l1, fun j hj => ?_⟩
      rw [PH.updL_out, l2 j hj]
      rintro ⟨_, q1, q2⟩
      rw [hnl] at q2
      apply c1
      have k1 : lo ≤ k := by
        rcases Nat.lt_or_ge k lo with h | h
        · have := Nat.mul_le_mul_right te.sz (show k + 1 ≤ lo from h)
          rw [Nat.add_mul, Nat.one_mul] at this; omega
        · exact h
      have k2 : k < lo + m := by
        rcases Nat.lt_or_ge k (lo + m) with h | h
        · exact h
        · have := Nat.mul_le_mul_right te.sz h
          rw [Nat.add_mul] at this; omega
      exact ⟨k1, k2⟩
  · obtain ⟨b', o', e, l2⟩ := s2 k hk hk2
    injection e with e
    injection e with e1 e2
    subst e1; subst e2
    refine ⟨b, o, rfl, fun j hj e => ?_⟩
    rw [PH.updL_out] at e
    · exact l2 j hj e
    · rintro ⟨_, q1, q2⟩
      rw [hnl] at q2
      have h3 : n * te.sz ≤ k * te.sz := Nat.mul_le_mul_right _ hk
      have h4 : (lo + m) * te.sz ≤ n * te.sz := Nat.mul_le_mul_right _ (by omega)
      rw [Nat.add_mul] at h4
      omega
  · obtain ⟨rfl, c1, c2⟩ := hxy
    have := hin (y - (o + lo * te.sz)) (by omega)
    rwa [show o + lo * te.sz + (y - (o + lo * te.sz)) = y from by omega] at this
theorem run_copyD {t tx ty : TypeId} {te : TI} (ht : P.underlying t = some (.slice te.id)) (hti : te.ok P) (hpos : 0 < te.sz) {h : PH} {n : Nat} {f : Nat → List D} {y : Value} (s : D.own h (.sl te.sz n f) y) (hf : FitO h w) {lo hi : Int} (b1 : 0 ≤ lo) (b2 : lo ≤ hi) (b3 : hi ≤ n)
    {x : Value} {m : Nat} {g : Nat → List D} {hx : PH} (sx : D.rd hx (.sl te.sz m g) x) (fx : Fit hx w) (hone : ∀ i, i < Nat.min m (hi - lo).toNat → ∃ l, flatDs (g i) = some l) (h0 : 0 < Nat.min m (hi - lo).toNat) :
    ∃ w' h', (Builtin.copy_ #[t, tx] ty #[sbV y te.sz lo.toNat (hi - lo).toNat, x]).run P w = .ok (goInt (Nat.min m (hi - lo).toNat)) w' ∧ D.own h' (.sl te.sz n (cpD lo.toNat (Nat.min m (hi - lo).toNat) g f)) y ∧ FitO h' w' ∧ Keep (fun b o => h b o ≠ none) w w' ∧ ∀ b o, h' b o ≠ none → h b o ≠ none := by
  obtain ⟨A, c, row, hc, hp, G, rfl, s1, va, lc, lp, d, s2, s3, s4⟩ := own_VA s
  obtain ⟨A', c', rfl, _, _, hcells⟩ := (show ∃ A c, x = .slice A m c ∧ _ ∧ _ ∧ _ from sx)
  have hm1 : Nat.min m (hi - lo).toNat ≤ m := Nat.min_le_left _ _
  have hm2 : Nat.min m (hi - lo).toNat ≤ (hi - lo).toNat := Nat.min_le_right _ _
  obtain ⟨sb, so, rfl, hr⟩ := hcells.resolve_left (by omega)
  obtain ⟨b, o, rfl, _⟩ := va.2.1 lo.toNat (by omega)
  have hcl : ¬ c = lo.toNat := by have := va.1; omega
  have hrow : ∀ i, i < Nat.min m (hi - lo).toNat → g i = (flatB g i).map D.v ∧ ∀ u ∈ flatB g i, oneV u = true := fun i hi => by
    obtain ⟨l, hl⟩ := hone i hi
    have := flatDs_ok hl
    unfold flatB
    rw [hl]; exact this
  have hg : ∀ i, i < Nat.min m (hi - lo).toNat → (flatB g i).length = te.sz ∧ ∀ j, j < te.sz → hx sb (so + i * te.sz + j) = (flatB g i)[j]? := fun i hi => by
    obtain ⟨row, r1, r2, r3⟩ := hr i (by omega)
    rw [(hrow i hi).1] at r1
    rw [flat_rds r1] at r2 r3
    exact ⟨r2, r3⟩
  obtain ⟨w', h', r1, r2, r3, r4, r5⟩ := run_copyV (P := P) (w := w) (ty := ty) (tx := tx) ht hti hpos va (hf.le lc) (lo := lo.toNat) (dl := (hi - lo).toNat) (dc := c - lo.toNat) (sa := ⟨sb, so, none⟩) (sl := m) (sc := c') (m := Nat.min m (hi - lo).toNat) rfl h0 (by omega) (g := flatB g)
    (fun i hi => ⟨(hg i (by omega)).1, fun j hj v hv => by
      rw [← (hg i (by omega)).2 j hj] at hv
      rw [add_mk, ← Nat.add_assoc]
      exact (fx _ _ _ hv).1⟩) (fun i hi => (hrow i (by omega)).2)
  have dh : h'.dj hp := fun x y => by
    rcases d x y with e | e
    · left
      cases e2 : h' x y with
      | none => rfl
      | some v => exact absurd e (r5 x y (by rw [e2]; simp))
    · exact .inr e
  have fp : FitO hp w' := (hf.le lp).keep r4 fun x y e h2 => by
    rcases d x y with h3 | h3
    · exact h2 h3
    · exact e h3
  refine ⟨w', h'.un hp, ?_, VA_own (G := fun i => if lo.toNat ≤ i ∧ i < lo.toNat + Nat.min m (hi - lo).toNat then PH.emp else G i) r2 s1 (PH.le_un_left _ _) (PH.le_un_right dh) dh (fun i hi' => ?_) (fun i hi' => ?_) (fun i j _ _ hij => ?_), r3.un fp, r4.mono fun x _ y e => le_ne lc e, fun x y e => ?_⟩
  · rw [sbV, if_neg hcl]
    simp only [Option.map_some, add_mk]
    exact r1
  · unfold cpD
    by_cases c1 : lo.toNat ≤ i ∧ i < lo.toNat + Nat.min m (hi - lo).toNat
    · simp only [if_pos c1]
      rw [(hrow (i - lo.toNat) (by omega)).1]; exact flat_owns
    · simp only [if_neg c1]; exact (s2 i hi').1
  · split
    · exact PH.emp_le _
    · exact s3 i
  · split
    · exact PH.emp_dj _
    · split
      · exact PH.dj_emp _
      · exact s4 i j hij
  · rcases PH.un_ne e with h2 | h2
    · exact le_ne lc (r5 x y h2)
    · exact le_ne lp h2
end
section
variable {E : Env} {B : BE} {mu mu' : Mu} {w : World} {H : Nat → PH} {TT : List TI} {fr fr' : Fr} {gf gf' : GF} {a : Act} {all rest : List Oper} {Q : Exit → Act → World → Prop} {o : Oper} {J : Act → World → Prop} {G : AG} {R : Exit → Act → World → Prop} {K : List KF}
/-- copy into a part of an own array, flat -/
theorem OJ_copy (hT : TOk E.P TT) (k : Nat) {t0 ts tx : Nat} {s x : Operand} {n m : Nat} {lo hi : Int} {f g : Nat → List D} {id sz1 by1 e : Nat} {z : Value} {ef : Bool} {te : TI} {md : Mu} {fr' : Fr} {gf2 : GF} {vx : V} {q : Tg} {ob : Ob}
    (hop : o.op = .call { callee := .builtin .copy, args := #[s, x], argTypes := #[ts, tx] }) (h1 : tlk ts TT = some ⟨id, sz1, by1, .slc e, z, ef⟩) (h2 : tlk e TT = some te) (hs : ev [] fr gf s = some (.a (.sb k te.sz lo hi))) (hx : ev [] fr gf x = some (.a vx)) (hk : mlk k mu = some (.arr te.sz n f)) (hkx : slR mu vx = some (q, te.sz, m, g, ob)) (hgd : gdrop t0 gf = some gf')
    (hmd : mdropKs [k, k] mu = some md) (hcut : cutKs [k] fr gf' = some (fr', gf2)) (hb : 0 ≤ lo ∧ lo ≤ hi ∧ hi ≤ n ∧ 0 < Nat.min m (hi - lo).toNat) (hone : ∀ i, i < Nat.min m (hi - lo).toNat → ∃ l, flatDs (g i) = some l)
    (kk : SJ G J E ((t0, .a (.v (goInt (Nat.min m (hi - lo).toNat)))) :: fr') gf2 ((k, .arr te.sz n (cpD lo.toNat (Nat.min m (hi - lo).toNat) g f)) :: md)) (hpos : 0 < te.sz := by exact Nat.lt_of_sub_eq_succ rfl) (hkeys : keysB [k] [k] [(k, .arr te.sz n f)] fr gf mu E.A.ks G.ks = true := by exact rfl) (hob : Alls ob := by repeat (first | exact trivial | refine And.intro rfl ?_))
    (hg : o.guard = none := by exact rfl) (hd : o.dst = some t0 := by exact rfl) (ht : Nat.blt t0 E.N = true := by exact rfl) : OJ G E all Q J o fr gf mu := by
  have kself : keysO [(k, Ch.arr te.sz n f)] = [k] := rfl
  refine OJ_B (ι := Unit) (ks := [k]) (nk := [k]) (mu1 := [(k, .arr te.sz n f)]) (φ := fun _ => True) (res := fun _ => .a (.v (goInt (Nat.min m (hi - lo).toNat)))) (mu1' := fun _ => [(k, .arr te.sz n (cpD lo.toNat (Nat.min m (hi - lo).toNat) g f))]) (fun B a w H ff mm => ?_) hg hd ht hgd (fun _ => rfl) hkeys (fun _ => ?_) hmd hcut fun _ _ => kk
  · obtain ⟨d1, u2⟩ := slc_of hT h1 h2
    have hgl : ∀ d w, (d, w) ∈ ([] : Gd) → a.tmps.getD d undef = .bool w := fun _ _ hm => by cases hm
    have e1 : a.eval s = sbV (B k) te.sz lo.toNat (hi - lo).toNat := (show _ ∧ _ from ff.ev (g := []) hgl hs).1
    have sk : D.own (H k) (.sl te.sz n f) (B k) := mm.mm.sat k _ hk
    have hr := slR_spec mm.mr.ms hkx hob (show vx.rel B (Zf E.r H) (a.eval x) from ff.ev (g := []) hgl hx)
    obtain ⟨w', h', r1, r2, r3, r4, r5⟩ := run_copyD (P := E.P) (w := w) (ty := o.type) (t := ts) (tx := tx) d1 u2 hpos sk (mm.mm.fit k) hb.1 hb.2.1 hb.2.2.1 hr (Zf_fit mm q) hone hb.2.2.2
    have hon : onlyK (keysO [(k, Ch.arr te.sz n f)]) H k = H k := onlyK_self k (by simp [kself, hasK, Nat.beq_refl]) H
    have r : Ret1 E.P [k] B (AllP E.r (keysO [(k, Ch.arr te.sz n f)]) H) [(k, .arr te.sz n f)] w (onlyK (keysO [(k, Ch.arr te.sz n f)]) H) (fun _ : Unit => True) (fun _ => .a .any) (fun _ => [(k, .arr te.sz n (cpD lo.toNat (Nat.min m (hi - lo).toNat) g f))]) () (goInt (Nat.min m (hi - lo).toNat)) w' B _ :=
      Ret1.sameK (B := B) (h' := h') (AllP_fit mm.mm) kself (onlyK_dj mm _) r2 r3 (r4.mono fun b _ o h => by rw [hon]; exact h) fun b o h => .inl (by rw [hon]; exact r5 b o h)
    refine ⟨(), goInt (Nat.min m (hi - lo).toNat), w', B, _, ?_, ⟨trivial, rfl, r.3, r.4, r.5, r.6⟩⟩
    obtain ⟨dst, op, type, pos, after, guard⟩ := o
    simp only at hop r1
    subst hop
    simp only [execOp, resolve, Sem.run_bind, Sem.run_pure, Result.andThen_ok, invoke, builtin, List.map_toArray, List.map_cons, List.map_nil, e1, r1]
  · simp [SV.inK, V.inK, muIn, Ch.own?, Ch.rowL, allL, appK, hasK, Nat.beq_refl]
end

/-! ### zeros behind a part -/
section
variable {P : Program} {w : World}
theorem run_appZ {t tn ty : TypeId} {te : TI} {kn : IntKind} (ht : P.underlying t = some (.slice te.id)) (htn : P.underlying tn = some (.int kn)) (hti : te.ok P) (hpos : 0 < te.sz) (hzs : te.zero.cells.size = te.sz) {h : PH} {A : Option Addr} {n c : Nat} {f : Nat → List Value} (s : VA A n c te.sz f h) (hf : Fit h w)
    {m : Nat} (h0 : 0 < m) (hg : c < n + m) (hb : (n + m) * te.by_ ≤ 140737488355328) (hm : n + m ≤ maxL) :
    ∃ A' c' w' h', (Builtin.append_ #[t, tn] ty #[.slice A n c, .int .i64 m]).run P w = .ok (.slice A' (n + m) c') w' ∧ VA A' (n + m) c' te.sz (appR n f fun _ => te.zero.cells.toList) h' ∧ FitO h' w' ∧ Keep noD w w' ∧ ∀ b o, h' b o ≠ none → w.heap.size ≤ b := by
  obtain ⟨i, i1, i2, i3, i4⟩ := hti.info
  obtain ⟨s0, s1, s2⟩ := s
  have hlen : ∀ i, i < n → (f i).length = te.sz := fun i hi => by obtain ⟨_, _, _, q, _⟩ := s1 i hi; exact q
  have hol : (flatR f n).length = n * te.sz := flatR_length hlen
  have hold : (Builtin.firstCells i.size n (.slice A n c)).run P w.drew = .ok (flatR f n).toArray w.drew := by
    cases A with
    | none =>
      have h0 : n = 0 := by
        rcases Nat.eq_zero_or_pos n with h | h
        · exact h
        · obtain ⟨_, _, e, _⟩ := s1 0 h; cases e
      subst h0
      exact run_firstCells_none w.drew i.size 0 0 c
    | some ad =>
      refine run_firstCells_some (P := P) w.drew i.size n ad n c (flatR f n) (by rw [i2]; exact hol) fun k v hk => ?_
      have hlt : k < n * te.sz := by rw [← hol]; exact (List.getElem?_eq_some_iff.1 hk).1
      obtain ⟨q, p, c1, c2, rfl⟩ := flatR_cell hlen hpos hlt
      obtain ⟨b, o, e, q1, q2⟩ := s1 _ c1
      injection e with e
      subst e
      have h1 := flatR_get hlen c1 c2
      rw [hk, ← q2 _ c2] at h1
      have h2 := (hf _ _ _ h1.symm).1
      rw [add_mk, ← Nat.add_assoc]
      exact h2
  have hby : m * i.bytes ≤ (n + m) * i.bytes := Nat.mul_le_mul_right _ (by omega)
  have hrun := Lib.run_append_grow_zeros (P := P) w t tn ty te.id i te.zero .i64 kn ht htn i1 i4 A n c (flatR f n) hold m h0 (by rw [i2]; exact hpos) hg (by unfold maxL at hm; omega) (by rw [i3] at hby ⊢; omega) (growslice_fits (by omega) (by rw [i3]; exact hb))
  generalize hcc : grownCap w (n + m) c te.id = cc at hrun
  have hge : n + m ≤ cc := by rw [← hcc]; exact grownCap_ge _ _ _ _
  generalize hcs : ((flatR f n).toArray ++ Builtin.zeroCells te.zero.cells m ++ Builtin.zeroCells te.zero.cells (cc - (n + m))) = cs at hrun
  have hzl : (Builtin.zeroCells te.zero.cells m).size = m * te.sz := by rw [size_zeroCells, hzs]
  have hsz : cs.size = cc * te.sz := by
    rw [← hcs]
    simp only [Array.size_append, List.size_toArray, size_zeroCells, hzs, hol, ← Nat.add_mul]
    congr 1; omega
  have hfit : FitO (PH.row w.heap.size 0 cs.toList) (w.drew.alloc (.cells cs te.id)) := by
    have := FitO.alloc w.drew cs.toList te.id
    simpa using this
  have hrow : ∀ k, PH.row w.heap.size 0 cs.toList w.heap.size k = cs[k]? := fun k => by
    have := PH.row_at (b := w.heap.size) (off := 0) (l := cs.toList) k
    rw [Nat.zero_add] at this
    rw [this, Array.getElem?_toList]
  refine ⟨_, cc, _, _, hrun, ⟨hge, fun k hk => ⟨w.heap.size, 0, rfl, ?_⟩, fun k hk hk2 => ⟨w.heap.size, 0, rfl, fun j hj => ?_⟩⟩, hfit, ?_, fun b o hb => by rw [PH.row_ne hb]; exact Nat.le_refl _⟩
  · have hcsk : ∀ q, q < (n + m) * te.sz → cs[q]? = ((flatR f n) ++ (Builtin.zeroCells te.zero.cells m).toList)[q]? := fun q hq => by
      rw [← hcs, Array.getElem?_append_left (by simp only [Array.size_append, List.size_toArray, hol, hzl, ← Nat.add_mul]; exact hq), ← Array.getElem?_toList]
      simp
    have hkq : ∀ j, j < te.sz → k * te.sz + j < (n + m) * te.sz := fun j hj => by
      have h1 : (k + 1) * te.sz ≤ (n + m) * te.sz := Nat.mul_le_mul_right _ hk
      rw [Nat.add_mul, Nat.one_mul] at h1
      omega
    by_cases hkn : k < n
    · rw [appR_lt hkn]
      refine ⟨hlen k hkn, fun j hj => ?_⟩
      have h1 : (k + 1) * te.sz ≤ n * te.sz := Nat.mul_le_mul_right _ hkn
      rw [Nat.add_mul, Nat.one_mul] at h1
      rw [Nat.zero_add, hrow, hcsk _ (hkq j hj), List.getElem?_append_left (by omega), flatR_get hlen hkn hj]
    · rw [appR_ge (by omega)]
      refine ⟨by rw [Array.length_toList, hzs], fun j hj => ?_⟩
      have h2 : k * te.sz = n * te.sz + (k - n) * te.sz := by rw [← Nat.add_mul]; congr 1; omega
      have h3 := zeroCells_get (z := te.zero.cells) (n := m) (i := k - n) (j := j) (by omega) (by rw [hzs]; exact hj)
      rw [hzs] at h3
      rw [Nat.zero_add, hrow, hcsk _ (hkq j hj), List.getElem?_append_right (by omega), hol, show k * te.sz + j - n * te.sz = (k - n) * te.sz + j from by omega, h3]
  · have h1 : (k + 1) * te.sz ≤ cc * te.sz := Nat.mul_le_mul_right _ hk2
    rw [Nat.add_mul, Nat.one_mul] at h1
    rw [Nat.zero_add, hrow, Array.getElem?_eq_getElem (by omega)]; simp
  · exact ((Keep.drew w).mono fun _ _ _ h => h.elim).trans (Keep.alloc w.drew _) fun _ _ h => h.elim
theorem VA_cut {A : Option Addr} {n c sz i : Nat} {f : Nat → List Value} {h : PH} (va : VA A n c sz f h) (hi : i ≤ n) : VA A i c sz f h :=
  ⟨by have := va.1; omega, fun k hk => va.2.1 k (by omega), fun k hk hk2 => by
    by_cases c1 : k < n
    · obtain ⟨b, o, e, l1, l2⟩ := va.2.1 k c1
      refine ⟨b, o, e, fun j hj => ?_⟩
      rw [l2 j hj, List.getElem?_eq_getElem (by omega)]; simp
    · exact va.2.2 k (by omega) hk2⟩
end
section
variable {E : Env} {B : BE} {mu mu' : Mu} {w : World} {H : Nat → PH} {TT : List TI} {fr fr' : Fr} {gf gf' : GF} {a : Act} {all rest : List Oper} {Q : Exit → Act → World → Prop} {o : Oper} {J : Act → World → Prop} {G : AG} {R : Exit → Act → World → Prop} {K : List KF}
/-- append(s[:i], make(.., m)..), where it does not fit: a new array; what it holds of the old one is flat -/
theorem OJ_appZ (hT : TOk E.P TT) (k k' tg : Nat) {t0 ts tn n cp : Nat} {s x : Operand} {i m : Int} {f : Nat → List D} {id sz1 by1 e : Nat} {z : Value} {ef : Bool} {te tni : TI} {md : Mu}
    (hop : o.op = .call { callee := .builtin .append, args := #[s, x], argTypes := #[ts, tn] }) (hs : ev [] fr gf s = some (.a (.sb k te.sz 0 i))) (hx : ev [] fr gf x = some (.a (.v (.int .i64 m)))) (hl1 : mlk tg fr = some (.a (.gl k n cp))) (hl2 : glk tg gf = none) (h1 : tlk ts TT = some ⟨id, sz1, by1, .slc e, z, ef⟩) (h2 : tlk e TT = some te) (h3 : tlk tn TT = some tni) (h4 : tni.kind = .it .i64) (hk : mlk k mu = some (.arr te.sz n f)) (hgd : gdrop t0 gf = some gf')
    (hmd : mdropKs [k'] mu = some md) (hi1 : 0 ≤ i ∧ i ≤ n ∧ 0 < m ∧ (cp : Int) < i + m) (hb : (i.toNat + m.toNat) * te.by_ ≤ 140737488355328 ∧ i.toNat + m.toNat ≤ maxL) (hone : ∀ j, j < n → ∃ l, flatDs (f j) = some l)
    (kk : SJ G J E ((t0, .a (.g k')) :: fr) gf' ((k', .arr te.sz (i.toNat + m.toNat) (appD i.toNat f fun _ => zsD te.zero)) :: md)) (hz : (vcells te.zero).map (·.length) = some te.sz := by exact rfl) (hpos : 0 < te.sz := by exact Nat.lt_of_sub_eq_succ rfl) (hkeys : keysB [] [k'] [] fr gf mu E.A.ks G.ks = true := by exact rfl)
    (hg : o.guard = none := by exact rfl) (hd : o.dst = some t0 := by exact rfl) (ht : Nat.blt t0 E.N = true := by exact rfl) : OJ G E all Q J o fr gf mu := by
  refine OJ_B (ι := Unit) (ks := []) (nk := [k']) (mu1 := []) (φ := fun _ => True) (res := fun _ => .a (.g k')) (mu1' := fun _ => [(k', .arr te.sz (i.toNat + m.toNat) (appD i.toNat f fun _ => zsD te.zero))]) (fun B a w H ff mm => ?_) hg hd ht hgd (fun _ => rfl) hkeys (fun _ => ?_) hmd rfl fun _ _ => kk
  · obtain ⟨d1, u2⟩ := slc_of hT h1 h2
    obtain ⟨v1, v2⟩ := hT.get h3
    obtain ⟨dx, dx1, dx2⟩ := v2.desc
    rw [h4] at dx2
    obtain rfl := shapeK_it dx2
    rw [v1] at dx1
    have hgl : ∀ d w, (d, w) ∈ ([] : Gd) → a.tmps.getD d undef = .bool w := fun _ _ hm => by cases hm
    have e1 : a.eval s = sbV (B k) te.sz 0 (i - 0).toNat := (show _ ∧ _ from ff.ev (g := []) hgl hs).1
    have e2 : a.eval x = .int .i64 m := ff.ev (g := []) hgl hx
    have sk : D.own (H k) (.sl te.sz n f) (B k) := mm.mm.sat k _ hk
    obtain ⟨e3, _, A0, e4⟩ := (show a.tmps.getD tg undef = B k ∧ _ ∧ ∃ A, _ = Value.slice A n cp from ff.vfr tg _ hl1 hl2)
    have hB : B k = .slice A0 n cp := e3.symm.trans e4
    obtain ⟨A, c, row, hc, hp, G', e5, s1, va, lc, lp, d, s2, s3, s4⟩ := own_VA sk
    rw [hB] at e5
    injection e5 with e6 e7 e8
    subst e6; subst e8
    have hev : sbV (B k) te.sz 0 (i - 0).toNat = .slice A0 i.toNat cp := by
      rw [hB, sbV]
      have : (i - 0).toNat = i.toNat := by omega
      rw [this]
      cases A0 <;> simp [Addr.add]
    have hm : Value.int .i64 m = .int .i64 (m.toNat : Int) := by congr 1; omega
    obtain ⟨A', c', w', h', r1, r2, r3, r4, r5⟩ := run_appZ (P := E.P) (w := w) (ty := o.type) d1 dx1 u2 hpos (zero_sz hz) (VA_cut va (i := i.toNat) (by omega)) ((mm.mm.fit k).fit.le lc) (m := m.toNat) (by omega) (by omega) hb.1 hb.2
    have s' : D.own h' (.sl te.sz (i.toNat + m.toNat) (appD i.toNat f fun _ => zsD te.zero)) (.slice A' (i.toNat + m.toNat) c') := VA_own (hp := PH.emp) (G := fun _ => PH.emp) r2 hb.2 (PH.le_refl _) (PH.emp_le _) (PH.dj_emp _) (fun j hj => by
      by_cases c1 : j < i.toNat
      · rw [appD_lt c1, appR_lt c1]
        obtain ⟨l, hl⟩ := hone j (by omega)
        have hfl := (flatDs_ok hl).1
        have h6 := (s2 j (by omega)).1
        rw [hfl] at h6 ⊢
        rw [flat_rds (D.owns_rds _ h6)]
        exact flat_owns
      · rw [appD_ge (by omega), appR_ge (by omega)]; exact flat_owns) (fun _ _ => PH.emp_le _) (fun _ _ _ _ _ => PH.emp_dj _)
    refine ⟨(), .slice A' (i.toNat + m.toNat) c', w', _, _, ?_, Ret1.new (AllP_fit mm.mm) rfl (onlyK_dj mm _) rfl s' r3 (r4.mono fun _ _ _ h => h.elim) fun b o h => .inr (r5 b o h)⟩
    obtain ⟨dst, op, type, pos, after, guard⟩ := o
    simp only at hop r1
    subst hop
    simp only [execOp, resolve, Sem.run_bind, Sem.run_pure, Result.andThen_ok, invoke, builtin, List.map_toArray, List.map_cons, List.map_nil, e1, e2, hev, hm, r1]
  · simp [SV.inK, V.inK, muIn, Ch.own?, Ch.rowL, allL, appK, hasK, Nat.beq_refl]
end

/-! ### overlaps -/
theorem cell_shape {w : World} {b o : Nat} {v : Value} (h : w.cell? ⟨b, o, none⟩ = some v) : ∃ c T fr, w.heap[b]? = some (.cells c T fr) ∧ o < c.size ∧ w.shape? b = some (T, c.size) := by
  unfold World.cell? at h
  cases e : w.heap[b]? with
  | none => simp [e] at h
  | some x =>
    cases x with
    | cells c T fr =>
      simp [e] at h
      exact ⟨c, T, fr, rfl, (Array.getElem?_eq_some_iff.1 h).1, by simp [World.shape?, e]⟩
    | _ => simp [e] at h
theorem run_overlaps_own {P : Program} {w : World} {tS tR e : TypeId} (ht : P.underlying tS = some (.slice e)) {size : Nat} (hz : ∀ w, (Go.sizeOf e).run P w = .ok size w) {h1 h2 : PH} (f1 : FitO h1 w) (f2 : FitO h2 w) (d : h1.dj h2) {b1 o1 b2 o2 la ca lb cb : Nat} (hpos : 0 < size) (l1 : 0 < la) (l2 : 0 < lb)
    (c1 : ∀ j, j < la * size → h1 b1 (o1 + j) ≠ none) (c2 : ∀ j, j < lb * size → h2 b2 (o2 + j) ≠ none) :
    (Extern.SlicesOverlaps.overlaps #[tS, tS] #[tR] #[.slice (some ⟨b1, o1, none⟩) la ca, .slice (some ⟨b2, o2, none⟩) lb cb]).run P w = .ok (.bool false) w := by
  have p1 : 0 < la * size := Nat.mul_pos l1 hpos
  have p2 : 0 < lb * size := Nat.mul_pos l2 hpos
  have cell : ∀ {h : PH} (f : FitO h w) {b o : Nat}, h b o ≠ none → ∃ v, w.cell? ⟨b, o, none⟩ = some v ∧ w.frozen? ⟨b, o, none⟩ = false := fun {h} f {b o} e => by
    cases x : h b o with
    | none => exact absurd x e
    | some v => exact ⟨v, f.fit b o v x⟩
  have q1 : h1 b1 o1 ≠ none := by simpa using c1 0 p1
  have q2 : h2 b2 o2 ≠ none := by simpa using c2 0 p2
  obtain ⟨v1, u1, z1⟩ := cell f1 q1
  obtain ⟨v2, u2, z2⟩ := cell f2 q2
  obtain ⟨cA, TA, frA, s1, s2, s3⟩ := cell_shape u1
  obtain ⟨cB, TB, frB, t1, t2, t3⟩ := cell_shape u2
  by_cases hne : b1 = b2
  · subst hne
    have hno : ¬ (o1 < o2 + lb * size ∧ o2 < o1 + la * size) := fun ⟨g1, g2⟩ => by
      rcases Nat.le_total o1 o2 with h | h
      · have k1 := c1 (o2 - o1) (by omega)
        rw [show o1 + (o2 - o1) = o2 from by omega] at k1
        exact (d b1 o2).elim k1 q2
      · have k1 := c2 (o1 - o2) (by omega)
        rw [show o2 + (o1 - o2) = o1 from by omega] at k1
        exact (d b1 o1).elim q1 k1
    have h0 : ¬ (la = 0 ∨ lb = 0 ∨ size = 0) := by omega
    change Sem.run P (α := Value) (do
      let some t := (#[tS, tS] : Array TypeId)[0]? | stuck "slices.overlaps: no parameter types"
      let .slice elem ← underlying t | stuck "slices.overlaps: slice type expected"
      let size ← sizeOf elem
      match (some ⟨b1, o1, none⟩ : Option Addr), (some ⟨b1, o2, none⟩ : Option Addr) with
      | some a, some b =>
        if la = 0 ∨ lb = 0 ∨ size = 0 then pure (Value.bool false)
        else if a.block != b.block && (← frozen a) && (← frozen b) then unsupported .addressObserved
        else do
          if a.block != b.block then do
            noView a; noView b
            if ← mayBeOne a b then return Value.bool ((← choose (.extern "sameAddr.stringBytes" 2)) == 1)
          pure (Value.bool (a.block == b.block && a.off < b.off + lb * size && b.off < a.off + la * size))
      | _, _ => pure (Value.bool false)) w = _
    have hb : (decide (o1 < o2 + lb * size) && decide (o2 < o1 + la * size)) = false := by
      rw [Bool.and_eq_false_iff]
      by_cases g1 : o1 < o2 + lb * size
      · right; exact decide_eq_false fun g2 => hno ⟨g1, g2⟩
      · left; exact decide_eq_false g1
    simp [run_underlying ht, hz, h0, frozen, Sem.run]
    simpa using hb
  · exact Lib.run_overlaps_apart w tS tR e ht size hz ⟨b1, o1, none⟩ ⟨b2, o2, none⟩ la ca lb cb hne TA TB cA.size cB.size s3 t3 (by omega) z1 (f1.ends b1 o1 q1 cA TA frA s1)
section
variable {E : Env} {B : BE} {mu mu' : Mu} {w : World} {H : Nat → PH} {TT : List TI} {fr fr' : Fr} {gf gf' : GF} {a : Act} {all rest : List Oper} {Q : Exit → Act → World → Prop} {o : Oper} {J : Act → World → Prop} {G : AG} {R : Exit → Act → World → Prop} {K : List KF}
theorem own_cells {h : PH} {sz n : Nat} {f : Nat → List D} {y : Value} (e : D.own h (.sl sz n f) y) {lo hi : Int} (h1 : 0 ≤ lo) (h2 : lo < hi) (h3 : hi ≤ n) (hpos : 0 < sz) : ∃ b o c, sbV y sz lo.toNat (hi - lo).toNat = .slice (some ⟨b, o, none⟩) (hi - lo).toNat c ∧ ∀ j, j < (hi - lo).toNat * sz → h b (o + j) ≠ none := by
  obtain ⟨A, c, row, hc, hp, G, rfl, s1, va, lc, lp, d, s2, s3, s4⟩ := own_VA e
  obtain ⟨b, o, rfl, _⟩ := va.2.1 lo.toNat (by omega)
  have hcl : ¬ c = lo.toNat := by have := va.1; omega
  refine ⟨b, o + lo.toNat * sz, c - lo.toNat, by rw [sbV, if_neg hcl]; simp only [Option.map_some, add_mk], fun j hj => ?_⟩
  obtain ⟨q, p, c1, c2, rfl⟩ : ∃ q p, q < (hi - lo).toNat ∧ p < sz ∧ j = q * sz + p := ⟨j / sz, j % sz, Nat.div_lt_of_lt_mul (by rwa [Nat.mul_comm]), Nat.mod_lt _ hpos, by rw [Nat.mul_comm]; exact (Nat.div_add_mod j sz).symm⟩
  obtain ⟨b', o', e, l1, l2⟩ := va.2.1 (lo.toNat + q) (by omega)
  injection e with e
  injection e with e1 e2
  subst e1; subst e2
  have := l2 p c2
  rw [Nat.add_mul, show o + (lo.toNat * sz + q * sz) + p = o + lo.toNat * sz + (q * sz + p) from by omega] at this
  refine le_ne lc ?_
  rw [this, List.getElem?_eq_getElem (by omega)]; simp
/-- two own arrays' parts do not overlap -/
theorem OJ_ov (hT : TOk E.P TT) (k kb : Nat) {t0 ts tr fi : Nat} {fn : Func} {ats : Array TypeId} {s x : Operand} {n m : Nat} {lo hi : Int} {f g : Nat → List D} {id sz1 by1 e : Nat} {z : Value} {ef : Bool} {te : TI}
    (hop : o.op = .call { callee := .value (.func fi), args := #[s, x], argTypes := ats }) (hf : E.P.funcs[fi]? = some fn) (hs : ev [] fr gf s = some (.a (.g kb))) (hx : ev [] fr gf x = some (.a (.sb k te.sz lo hi))) (h1 : tlk ts TT = some ⟨id, sz1, by1, .slc e, z, ef⟩) (h2 : tlk e TT = some te) (hk : mlk k mu = some (.arr te.sz n f)) (hkb : mlk kb mu = some (.arr te.sz m g)) (hgd : gdrop t0 gf = some gf')
    (hi1 : 0 ≤ lo ∧ lo < hi ∧ hi ≤ n ∧ 0 < m)
    (kk : SJ G J E ((t0, vB false) :: fr) gf' mu) (hname : (fn.name == "runtime.NumGoroutine") = false := by kernel_rfl) (hb : fn.body.isNone = true := by kernel_rfl) (hn : Extern.findNext fn = none := by kernel_rfl) (he : Extern.find fn = some (Extern.SlicesOverlaps.overlaps #[ts, ts] #[tr]) := by kernel_rfl) (hpos : 0 < te.sz := by exact Nat.lt_of_sub_eq_succ rfl) (hne : Nat.beq kb k = false := by exact rfl)
    (hg : o.guard = none := by exact rfl) (hd : o.dst = some t0 := by exact rfl) (ht : Nat.blt t0 E.N = true := by exact rfl) : OJ G E all Q J o fr gf mu := fun B a w H ff mm gg => by
  obtain ⟨d1, u2⟩ := slc_of hT h1 h2
  obtain ⟨i0, i1, i2, _⟩ := u2.info
  have hgl : ∀ d w, (d, w) ∈ ([] : Gd) → a.tmps.getD d undef = .bool w := fun _ _ hm => by cases hm
  have e1 : a.eval s = B kb := (show _ ∧ _ from ff.ev (g := []) hgl hs).1
  have e2 : a.eval x = sbV (B k) te.sz lo.toNat (hi - lo).toNat := (show _ ∧ _ from ff.ev (g := []) hgl hx).1
  obtain ⟨b2, o2, c2, q1, q2⟩ := own_cells (show D.own (H k) (.sl te.sz n f) (B k) from mm.mm.sat k _ hk) hi1.1 hi1.2.1 hi1.2.2.1 hpos
  obtain ⟨b1, o1, c1, p1, p2⟩ := own_cells (lo := 0) (hi := (m : Int)) (show D.own (H kb) (.sl te.sz m g) (B kb) from mm.mm.sat kb _ hkb) (Int.le_refl _) (by omega) (Int.le_refl _) hpos
  obtain ⟨A, cA, hB, _⟩ := own_slice (show D.own (H kb) (.sl te.sz m g) (B kb) from mm.mm.sat kb _ hkb)
  have hB2 : ∃ cc, B kb = .slice (some ⟨b1, o1, none⟩) ((m : Int) - 0).toNat cc := by
    rw [hB, sbV] at p1
    rw [hB]
    injection p1 with p3 p4 p5
    refine ⟨cA, ?_⟩
    have hm : ((m : Int) - 0).toNat = m := by omega
    rw [hm]
    congr 1
    rw [← p3]
    cases A <;> simp [Addr.add]
  obtain ⟨cc, hB2⟩ := hB2
  have hrun := run_overlaps_own (P := E.P) (w := w) (tR := tr) (size := te.sz) d1 (fun w => by rw [run_size i1, i2]) (mm.mm.fit kb) (mm.mm.fit k) (mm.mm.dj kb k (beq_ne hne)) (ca := cc) (cb := c2) hpos (la := ((m : Int) - 0).toNat) (by omega) (lb := (hi - lo).toNat) (by omega) p2 q2
  have r1 : (execOp a.eval o).run E.P w = .ok (.value (.bool false)) w := by
    obtain ⟨dst, op, type, pos, after, guard⟩ := o
    simp only at hop
    subst hop
    have ha : (#[s, x] : Array Operand).map a.eval = #[a.eval s, a.eval x] := by simp
    have hfv : a.eval (.func fi) = .func (.func fi) #[] #[] := rfl
    simp only [execOp, resolve, hfv, Deferred.ofValue, Sem.run_bind, Sem.run_pure, Result.andThen_ok, invoke, ha, e1, e2, hB2, q1, Array.empty_append, Array.append_empty]
    rw [run_callFunc_extern hf hname hb hn he, hrun]
    rfl
  refine one_val (wanted_none hg) r1 ?_
  rw [hd]
  exact kk B _ w H (Fits.put ff (by simpa [Nat.blt_eq] using ht) (show SV.rel _ _ _ (.a (.v _)) _ from rfl) hgd) mm gg
end
end Go.Proofs.YtpfcfepbhdkpdaaGreat
