/-
  Part H of what the claim leans on: memory, data, walks through the program, plain laws.
-/
import Derived.Test.YtcikaknfogpeeaaGreatMRG
import Derived.Lib.AppendZerosOnto
import Derived.Lib.Overlaps
namespace Go.Proofs.YtcikaknfogpeeaaGreat
open Go Go.RowKit
set_option linter.unusedVariables false
set_option linter.unusedSimpArgs false
section
variable {P : Program} {w : World}
theorem VA_re {A : Option Addr} {n c sz k : Nat} {rows : Nat → List Value} {h : PH} (va : VA A n c sz rows h) (h1 : n ≤ k) (h2 : k ≤ c) : ∃ junk : Nat → List Value, (∀ i, (junk i).length = sz) ∧ VA A k c sz (appR n rows junk) h := by
  obtain ⟨v1, v2, v3⟩ := va
  refine ⟨fun i => (List.range sz).map fun j => match A with | some a => (h a.block (a.off + (n + i) * sz + j)).getD undef | none => undef, fun i => by simp, h2, fun i hi => ?_, fun i hi hi2 => v3 i (by omega) hi2⟩
  by_cases c1 : i < n
  · rw [appR_lt c1]; exact v2 i c1
  · rw [appR_ge (by omega)]
    obtain ⟨b, o, rfl, q⟩ := v3 i (by omega) (by omega)
    refine ⟨b, o, rfl, by simp, fun j hj => ?_⟩
    have e : n + (i - n) = i := by omega
    simp only [List.getElem?_map, List.getElem?_range hj, Option.map_some, e]
    cases hx : h b (o + i * sz + j) with
    | none => exact absurd hx (q j hj)
    | some v => rfl
theorem own_re {h : PH} {sz n k : Nat} {f : Nat → List D} {y : Value} (e : D.own h (.sl sz n f) y) {A : Option Addr} {c : Nat} (hy : y = .slice A n c) (h1 : n ≤ k) (h2 : k ≤ c) (h3 : k ≤ maxL) : ∃ junk : Nat → List Value, (∀ i, (junk i).length = sz) ∧ D.own h (.sl sz k (appD n f fun i => (junk i).map D.v)) (.slice A k c) := by
  obtain ⟨A', c', row, hc, hp, G, e1, s1, va, lc, lp, d, s2, s3, s4⟩ := own_VA e
  rw [hy] at e1
  injection e1 with e5 e6 e7
  subst e5; subst e7
  obtain ⟨junk, j1, va'⟩ := VA_re va h1 h2
  refine ⟨junk, j1, VA_own (G := fun i => if i < n then G i else PH.emp) va' h3 lc lp d (fun i hi => ?_) (fun i hi => ?_) (fun i j hi hj hij => ?_)⟩
  · by_cases c1 : i < n
    · rw [if_pos c1, appD_lt c1, appR_lt c1]; exact (s2 i c1).1
    · rw [if_neg c1, appD_ge (by omega), appR_ge (by omega)]; exact flat_owns
  · split
    · exact s3 i
    · exact PH.emp_le _
  · split
    · split
      · exact s4 i j hij
      · exact PH.dj_emp _
    · exact PH.emp_dj _
end
section
variable {E : Env} {B : BE} {mu mu' : Mu} {w : World} {H : Nat → PH} {TT : List TI} {fr fr' : Fr} {gf gf' : GF} {a : Act} {all rest : List Oper} {Q : Exit → Act → World → Prop} {o : Oper} {J : Act → World → Prop} {G : AG} {R : Exit → Act → World → Prop} {K : List KF}
theorem RJ_cap (t k : Nat) {sz n : Nat} {f : Nat → List D} (hx : mlk t fr = some (.a (.g k))) (hg : glk t gf = none) (hk : mlk k mu = some (.arr sz n f)) (h : ∀ cp, n ≤ cp → RJ E all Q rest ((t, .a (.gl k n cp)) :: fr) gf mu) : RJ E all Q rest fr gf mu := fun B a w H ff m => by
  obtain ⟨cp, h1, f'⟩ := gl_cap t k hx hg hk ff m
  exact h cp h1 B a w H f' m
theorem V_glc (t tg k : Nat) {n cp : Nat} (hx : mlk t fr = some (.a (.g k))) (hg : glk t gf = none) (hl1 : mlk tg fr = some (.a (.gl k n cp))) (hl2 : glk tg gf = none) : View E fr gf mu ((t, .a (.gl k n cp)) :: fr) gf mu := fun B w H a ff m => by
  have e1 : a.tmps.getD t undef = B k ∧ oneV (a.tmps.getD t undef) = true := ff.vfr t _ hx hg
  obtain ⟨e3, _, A, e4⟩ := (show a.tmps.getD tg undef = B k ∧ _ ∧ ∃ A, _ = Value.slice A n cp from ff.vfr tg _ hl1 hl2)
  refine ⟨B, H, ⟨ff.size, ff.defers, fun t' x e5 e6 => ?_, ff.vgf, ff.vgu, fun t' d w x e5 => ?_⟩, m⟩
  · rw [mlk_cons] at e5
    by_cases h : t = t'
    · subst h
      rw [if_pos rfl] at e5
      injection e5 with e5
      subst e5
      exact ⟨e1.1, e1.2, A, e1.1.trans (e3.symm.trans e4)⟩
    · rw [if_neg h] at e5; exact ff.vfr t' x e5 e6
  · rw [mlk_cons]
    have h1 := ff.vno t' d w x e5
    have h2 : t ≠ t' := fun h => by subst h; rw [hx] at h1; cases h1
    rw [if_neg h2]; exact h1
theorem OJ_re (hT : TOk E.P TT) (k k' tg : Nat) {t0 ts n cp : Nat} {x : Operand} {hi : Option Operand} {i : Int} {f : Nat → List D} {id sz1 by1 e : Nat} {z : Value} {ef : Bool} {te : TI} {md : Mu} {fr' : Fr} {gf2 : GF}
    (hop : o.op = .slice ts x none hi none) (hx : ev [] fr gf x = some (.a (.gl k n cp))) (hl1 : mlk tg fr = some (.a (.gl k n cp))) (hl2 : glk tg gf = none) (h1 : tlk ts TT = some ⟨id, sz1, by1, .slc e, z, ef⟩) (h2 : tlk e TT = some te) (hk : mlk k mu = some (.arr te.sz n f)) (hbd : bndV [] fr gf n hi = some i) (hgd : gdrop t0 gf = some gf')
    (hmd : mdropKs [k, k'] mu = some md) (hcut : cutKs [k] fr gf' = some (fr', gf2)) (hi1 : (n : Int) ≤ i ∧ i ≤ cp ∧ i ≤ maxL)
    (kk : ∀ junk : Nat → List Value, (∀ j, (junk j).length = te.sz) → SJ G J E ((t0, .a (.g k')) :: fr') gf2 ((k', .arr te.sz i.toNat (appD n f fun j => (junk j).map D.v)) :: md)) (hkeys : keysB [k] [k'] [(k, .arr te.sz n f)] fr gf mu E.A.ks G.ks = true := by exact rfl) (hne : hasK k' [k] = false := by exact rfl)
    (hg : o.guard = none := by exact rfl) (hd : o.dst = some t0 := by exact rfl) (ht : Nat.blt t0 E.N = true := by exact rfl) : OJ G E all Q J o fr gf mu := by
  refine OJ_B (ι := Nat → List Value) (ks := [k]) (nk := [k']) (mu1 := [(k, .arr te.sz n f)]) (φ := fun junk => ∀ j, (junk j).length = te.sz) (res := fun _ => .a (.g k')) (mu1' := fun junk => [(k', .arr te.sz i.toNat (appD n f fun j => (junk j).map D.v))]) (fun B a w H ff mm => ?_) hg hd ht hgd (fun _ => rfl) hkeys (fun _ => ?_) hmd hcut kk
  · obtain ⟨d1, u2⟩ := slc_of hT h1 h2
    obtain ⟨i0, i1, i2, _⟩ := u2.info
    have hgl : ∀ d w, (d, w) ∈ ([] : Gd) → a.tmps.getD d undef = .bool w := fun _ _ hm => by cases hm
    have e1 : a.eval x = B k := (show _ ∧ _ ∧ _ from ff.ev (g := []) hgl hx).1
    have sk : D.own (H k) (.sl te.sz n f) (B k) := mm.mm.sat k _ hk
    obtain ⟨e3, _, A, e4⟩ := (show a.tmps.getD tg undef = B k ∧ _ ∧ ∃ A, _ = Value.slice A n cp from ff.vfr tg _ hl1 hl2)
    have hB : B k = .slice A n cp := e3.symm.trans e4
    obtain ⟨junk, j1, s'⟩ := own_re sk hB (k := i.toNat) (by omega) (by omega) (by omega)
    have hb := run_sliceBounds (P := E.P) (w := w) (b := true) (len := n) (cap := cp) (l := 0) (.inl ⟨rfl, rfl⟩) (bnd_run ff hgl hbd) ⟨Int.le_refl _, by omega⟩ hi1.2.1
    have r : Ret1 E.P [k] B (AllP E.r (keysO [(k, Ch.arr te.sz n f)]) H) [(k, .arr te.sz n f)] w (onlyK (keysO [(k, Ch.arr te.sz n f)]) H) (fun _ : Unit => True) (fun _ => .a (.g k')) (fun _ => [(k', .arr te.sz i.toNat (appD n f fun j => (junk j).map D.v))]) () (.slice A i.toNat cp) w _ _ := Ret1.new (AllP_fit mm.mm) hne (onlyK_dj mm _) (own_new s') s' (mm.mm.fit k) (Keep.refl _ _) fun b o h => .inl ⟨k, by simp [keysO, Ch.own?, hasK, Nat.beq_refl], by rw [onlyK_self k (by simp [keysO, Ch.own?, hasK, Nat.beq_refl])]; exact h⟩
    refine ⟨junk, .slice A i.toNat cp, w, _, _, ?_, ⟨j1, r.2, r.3, r.4, r.5, r.6⟩⟩
    obtain ⟨dst, op, type, pos, after, guard⟩ := o
    simp only at hop
    subst hop
    simp only [execOp, e1, hB, Option.map_none]
    refine run_value ?_
    simp only [Instr.sliceAt, Instr.slice, Sem.run_bind, run_underlying d1, Result.andThen_ok, Sem.run_pure, hb, run_size i1, i2]
    cases A <;> simp [Addr.add]
  · simp [SV.inK, V.inK, muIn, Ch.own?, Ch.rowL, allL, appK, hasK, Nat.beq_refl]
end
def cpD {α : Type} (lo m : Nat) (g f : Nat → α) : Nat → α := fun i => if lo ≤ i ∧ i < lo + m then g (i - lo) else f i
section
variable {P : Program} {w : World}
theorem run_copyV {t tx ty : TypeId} {te : TI} (ht : P.underlying t = some (.slice te.id)) (hti : te.ok P) (hpos : 0 < te.sz) {h : PH} {b o n c : Nat} {f : Nat → List Value} (s : VA (some ⟨b, o, none⟩) n c te.sz f h) (hf : FitO h w)
    {lo dl dc : Nat} {sa : Addr} {sl sc m : Nat} (hm : m = Nat.min sl dl) (h0 : 0 < m) (hlo : lo + dl ≤ n) {g : Nat → List Value} (hg : ∀ i, i < m → (g i).length = te.sz ∧ ∀ j, j < te.sz → ∀ v, (g i)[j]? = some v → w.cell? (sa.add (i * te.sz + j)) = some v) (h1 : ∀ i, i < m → ∀ u ∈ g i, oneV u = true) :
    ∃ w' h', (Builtin.copy_ #[t, tx] ty #[.slice (some ⟨b, o + lo * te.sz, none⟩) dl dc, .slice (some sa) sl sc]).run P w = .ok (goInt m) w' ∧ VA (some ⟨b, o, none⟩) n c te.sz (cpD lo m g f) h' ∧ FitO h' w' ∧ Keep (fun b o => h b o ≠ none) w w' ∧ ∀ b o, h' b o ≠ none → h b o ≠ none := by
  obtain ⟨i, i1, i2, i3, i4⟩ := hti.info
  obtain ⟨s0, s1, s2⟩ := s
  have hmd : m ≤ dl := by rw [hm]; exact Nat.min_le_right _ _
  have hlen : ∀ i, i < m → (g i).length = te.sz := fun i hi => (hg i hi).1
  have hnl := flatR_length hlen
  have hin : ∀ j, j < (flatR g m).length → h b (o + lo * te.sz + j) ≠ none := fun j hj => by
    rw [hnl] at hj
    obtain ⟨q, p, c1, c2, rfl⟩ := flatR_cell hlen hpos hj
    obtain ⟨b', o', e, l1, l2⟩ := s1 (lo + q) (by omega)
    injection e with e
    injection e with e1 e2
    subst e1; subst e2
    have := l2 p c2
    rw [Nat.add_mul, show o + (lo * te.sz + q * te.sz) + p = o + lo * te.sz + (q * te.sz + p) from by omega] at this
    rw [this, List.getElem?_eq_getElem (by omega)]; simp
  have hfc : (Builtin.firstCells i.size m (.slice (some sa) sl sc)).run P w = .ok (flatR g m).toArray w := run_firstCells_some (P := P) w i.size m sa sl sc (flatR g m) (by rw [i2]; exact hnl) fun k v hk => by
    have hlt : k < m * te.sz := by rw [← hnl]; exact (List.getElem?_eq_some_iff.1 hk).1
    obtain ⟨q, p, c1, c2, rfl⟩ := flatR_cell hlen hpos hlt
    rw [flatR_get hlen c1 c2] at hk
    exact (hg q c1).2 p c2 v hk
  obtain ⟨w', r1, r2, r3, r4⟩ := run_storeCells (P := P) (flatR g m) w b (o + lo * te.sz) 0 h hf.fit (by simpa using hin) (flatR_one h1)
  simp only [Nat.add_zero] at r2 r3
  refine ⟨w', _, ?_, ⟨s0, fun k hk => ⟨b, o, rfl, ?_⟩, fun k hk hk2 => ?_⟩, hf.turn r2 r3 fun b' o' hb' => ⟨o', PH.updL_ne hin hb'⟩, r3.mono fun x _ y hxy => ?_, fun b' o' hb' => PH.updL_ne hin hb'⟩
  · simp only [Builtin.copy_, List.getElem?_toArray, List.getElem?_cons_zero, List.getElem?_cons_succ, Sem.run_bind, run_underlying ht, Result.andThen_ok, Builtin.lenOf, Sem.run_pure, sizeOf, typeInfo, run_size i1, ← hm, hfc, r1]
    simp [i1, ← hm, hfc, r1]
  · obtain ⟨b', o', e, l1, l2⟩ := s1 k hk
    injection e with e
    injection e with e1 e2
    subst e1; subst e2
    unfold cpD
    by_cases c1 : lo ≤ k ∧ k < lo + m
    · rw [if_pos c1]
      refine ⟨hlen _ (by omega), fun j hj => ?_⟩
      have h2 : k * te.sz = lo * te.sz + (k - lo) * te.sz := by rw [← Nat.add_mul]; congr 1; omega
      have h3 : (k - lo + 1) * te.sz ≤ m * te.sz := Nat.mul_le_mul_right _ (by omega)
      rw [Nat.add_mul, Nat.one_mul] at h3
      rw [show o + k * te.sz + j = o + lo * te.sz + ((k - lo) * te.sz + j) from by omega, PH.updL_in _ _ _ _ (by omega), flatR_get hlen (by omega) hj]
    · rw [if_neg c1]
      refine ⟨l1, fun j hj => ?_⟩
      rw [PH.updL_out, l2 j hj]
      rintro ⟨_, q1, q2⟩
      rw [hnl] at q2
      apply c1
      have k1 : lo ≤ k := by
        rcases Nat.lt_or_ge k lo with h | h
        · have := Nat.mul_le_mul_right te.sz (show k + 1 ≤ lo from h)
          rw [Nat.add_mul, Nat.one_mul] at this; omega
        · exact h
      have k2 : k < lo + m := by
        rcases Nat.lt_or_ge k (lo + m) with h | h
        · exact h
        · have := Nat.mul_le_mul_right te.sz h
          rw [Nat.add_mul] at this; omega
      exact ⟨k1, k2⟩
  · obtain ⟨b', o', e, l2⟩ := s2 k hk hk2
    injection e with e
    injection e with e1 e2
    subst e1; subst e2
    refine ⟨b, o, rfl, fun j hj e => ?_⟩
    rw [PH.updL_out] at e
    · exact l2 j hj e
    · rintro ⟨_, q1, q2⟩
      rw [hnl] at q2
      have h3 : n * te.sz ≤ k * te.sz := Nat.mul_le_mul_right _ hk
      have h4 : (lo + m) * te.sz ≤ n * te.sz := Nat.mul_le_mul_right _ (by omega)
      rw [Nat.add_mul] at h4
      omega
  · obtain ⟨rfl, c1, c2⟩ := hxy
    have := hin (y - (o + lo * te.sz)) (by omega)
    rwa [show o + lo * te.sz + (y - (o + lo * te.sz)) = y from by omega] at this
theorem run_copyD {t tx ty : TypeId} {te : TI} (ht : P.underlying t = some (.slice te.id)) (hti : te.ok P) (hpos : 0 < te.sz) {h : PH} {n : Nat} {f : Nat → List D} {y : Value} (s : D.own h (.sl te.sz n f) y) (hf : FitO h w) {lo hi : Int} (b1 : 0 ≤ lo) (b2 : lo ≤ hi) (b3 : hi ≤ n)
    {x : Value} {m : Nat} {g : Nat → List D} {hx : PH} (sx : D.rd hx (.sl te.sz m g) x) (fx : Fit hx w) (hone : ∀ i, i < Nat.min m (hi - lo).toNat → ∃ l, flatDs (g i) = some l) (h0 : 0 < Nat.min m (hi - lo).toNat) :
    ∃ w' h', (Builtin.copy_ #[t, tx] ty #[sbV y te.sz lo.toNat (hi - lo).toNat, x]).run P w = .ok (goInt (Nat.min m (hi - lo).toNat)) w' ∧ D.own h' (.sl te.sz n (cpD lo.toNat (Nat.min m (hi - lo).toNat) g f)) y ∧ FitO h' w' ∧ Keep (fun b o => h b o ≠ none) w w' ∧ ∀ b o, h' b o ≠ none → h b o ≠ none := by
  obtain ⟨A, c, row, hc, hp, G, rfl, s1, va, lc, lp, d, s2, s3, s4⟩ := own_VA s
  obtain ⟨A', c', rfl, _, _, hcells⟩ := (show ∃ A c, x = .slice A m c ∧ _ ∧ _ ∧ _ from sx)
  have hm1 : Nat.min m (hi - lo).toNat ≤ m := Nat.min_le_left _ _
  have hm2 : Nat.min m (hi - lo).toNat ≤ (hi - lo).toNat := Nat.min_le_right _ _
  obtain ⟨sb, so, rfl, hr⟩ := hcells.resolve_left (by omega)
  obtain ⟨b, o, rfl, _⟩ := va.2.1 lo.toNat (by omega)
  have hcl : ¬ c = lo.toNat := by have := va.1; omega
  have hrow : ∀ i, i < Nat.min m (hi - lo).toNat → g i = (flatB g i).map D.v ∧ ∀ u ∈ flatB g i, oneV u = true := fun i hi => by
    obtain ⟨l, hl⟩ := hone i hi
    have := flatDs_ok hl
    unfold flatB
    rw [hl]; exact this
  have hg : ∀ i, i < Nat.min m (hi - lo).toNat → (flatB g i).length = te.sz ∧ ∀ j, j < te.sz → hx sb (so + i * te.sz + j) = (flatB g i)[j]? := fun i hi => by
    obtain ⟨row, r1, r2, r3⟩ := hr i (by omega)
    rw [(hrow i hi).1] at r1
    rw [flat_rds r1] at r2 r3
    exact ⟨r2, r3⟩
  obtain ⟨w', h', r1, r2, r3, r4, r5⟩ := run_copyV (P := P) (w := w) (ty := ty) (tx := tx) ht hti hpos va (hf.le lc) (lo := lo.toNat) (dl := (hi - lo).toNat) (dc := c - lo.toNat) (sa := ⟨sb, so, none⟩) (sl := m) (sc := c') (m := Nat.min m (hi - lo).toNat) rfl h0 (by omega) (g := flatB g)
    (fun i hi => ⟨(hg i (by omega)).1, fun j hj v hv => by
      rw [← (hg i (by omega)).2 j hj] at hv
      rw [add_mk, ← Nat.add_assoc]
      exact (fx _ _ _ hv).1⟩) (fun i hi => (hrow i (by omega)).2)
  have dh : h'.dj hp := fun x y => by
    rcases d x y with e | e
    · left
      cases e2 : h' x y with
      | none => rfl
      | some v => exact absurd e (r5 x y (by rw [e2]; simp))
    · exact .inr e
  have fp : FitO hp w' := (hf.le lp).keep r4 fun x y e h2 => by
    rcases d x y with h3 | h3
    · exact h2 h3
    · exact e h3
  refine ⟨w', h'.un hp, ?_, VA_own (G := fun i => if lo.toNat ≤ i ∧ i < lo.toNat + Nat.min m (hi - lo).toNat then PH.emp else G i) r2 s1 (PH.le_un_left _ _) (PH.le_un_right dh) dh (fun i hi' => ?_) (fun i hi' => ?_) (fun i j _ _ hij => ?_), r3.un fp, r4.mono fun x _ y e => le_ne lc e, fun x y e => ?_⟩
  · rw [sbV, if_neg hcl]
    simp only [Option.map_some, add_mk]
    exact r1
  · unfold cpD
    by_cases c1 : lo.toNat ≤ i ∧ i < lo.toNat + Nat.min m (hi - lo).toNat
    · simp only [if_pos c1]
      rw [(hrow (i - lo.toNat) (by omega)).1]; exact flat_owns
    · simp only [if_neg c1]; exact (s2 i hi').1
  · split
    · exact PH.emp_le _
    · exact s3 i
  · split
    · exact PH.emp_dj _
    · split
      · exact PH.dj_emp _
      · exact s4 i j hij
  · rcases PH.un_ne e with h2 | h2
    · exact le_ne lc (r5 x y h2)
    · exact le_ne lp h2
end
section
variable {E : Env} {B : BE} {mu mu' : Mu} {w : World} {H : Nat → PH} {TT : List TI} {fr fr' : Fr} {gf gf' : GF} {a : Act} {all rest : List Oper} {Q : Exit → Act → World → Prop} {o : Oper} {J : Act → World → Prop} {G : AG} {R : Exit → Act → World → Prop} {K : List KF}
theorem OJ_copy (hT : TOk E.P TT) (k : Nat) {t0 ts tx : Nat} {s x : Operand} {n m : Nat} {lo hi : Int} {f g : Nat → List D} {id sz1 by1 e : Nat} {z : Value} {ef : Bool} {te : TI} {md : Mu} {fr' : Fr} {gf2 : GF} {vx : V} {q : Tg} {ob : Ob}
    (hop : o.op = .call { callee := .builtin .copy, args := #[s, x], argTypes := #[ts, tx] }) (h1 : tlk ts TT = some ⟨id, sz1, by1, .slc e, z, ef⟩) (h2 : tlk e TT = some te) (hs : ev [] fr gf s = some (.a (.sb k te.sz lo hi))) (hx : ev [] fr gf x = some (.a vx)) (hk : mlk k mu = some (.arr te.sz n f)) (hkx : slR mu vx = some (q, te.sz, m, g, ob)) (hgd : gdrop t0 gf = some gf')
    (hmd : mdropKs [k, k] mu = some md) (hcut : cutKs [k] fr gf' = some (fr', gf2)) (hb : 0 ≤ lo ∧ lo ≤ hi ∧ hi ≤ n ∧ 0 < Nat.min m (hi - lo).toNat) (hone : ∀ i, i < Nat.min m (hi - lo).toNat → ∃ l, flatDs (g i) = some l)
    (kk : SJ G J E ((t0, .a (.v (goInt (Nat.min m (hi - lo).toNat)))) :: fr') gf2 ((k, .arr te.sz n (cpD lo.toNat (Nat.min m (hi - lo).toNat) g f)) :: md)) (hpos : 0 < te.sz := by exact Nat.lt_of_sub_eq_succ rfl) (hkeys : keysB [k] [k] [(k, .arr te.sz n f)] fr gf mu E.A.ks G.ks = true := by exact rfl) (hob : Alls ob := by repeat (first | exact trivial | refine And.intro rfl ?_))
    (hg : o.guard = none := by exact rfl) (hd : o.dst = some t0 := by exact rfl) (ht : Nat.blt t0 E.N = true := by exact rfl) : OJ G E all Q J o fr gf mu := by
  have kself : keysO [(k, Ch.arr te.sz n f)] = [k] := rfl
  refine OJ_B (ι := Unit) (ks := [k]) (nk := [k]) (mu1 := [(k, .arr te.sz n f)]) (φ := fun _ => True) (res := fun _ => .a (.v (goInt (Nat.min m (hi - lo).toNat)))) (mu1' := fun _ => [(k, .arr te.sz n (cpD lo.toNat (Nat.min m (hi - lo).toNat) g f))]) (fun B a w H ff mm => ?_) hg hd ht hgd (fun _ => rfl) hkeys (fun _ => ?_) hmd hcut fun _ _ => kk
  · obtain ⟨d1, u2⟩ := slc_of hT h1 h2
    have hgl : ∀ d w, (d, w) ∈ ([] : Gd) → a.tmps.getD d undef = .bool w := fun _ _ hm => by cases hm
    have e1 : a.eval s = sbV (B k) te.sz lo.toNat (hi - lo).toNat := (show _ ∧ _ from ff.ev (g := []) hgl hs).1
    have sk : D.own (H k) (.sl te.sz n f) (B k) := mm.mm.sat k _ hk
    have hr := slR_spec mm.mr.ms hkx hob (show vx.rel B (Zf E.r H) (a.eval x) from ff.ev (g := []) hgl hx)
    obtain ⟨w', h', r1, r2, r3, r4, r5⟩ := run_copyD (P := E.P) (w := w) (ty := o.type) (t := ts) (tx := tx) d1 u2 hpos sk (mm.mm.fit k) hb.1 hb.2.1 hb.2.2.1 hr (Zf_fit mm q) hone hb.2.2.2
    have hon : onlyK (keysO [(k, Ch.arr te.sz n f)]) H k = H k := onlyK_self k (by simp [kself, hasK, Nat.beq_refl]) H
    have r : Ret1 E.P [k] B (AllP E.r (keysO [(k, Ch.arr te.sz n f)]) H) [(k, .arr te.sz n f)] w (onlyK (keysO [(k, Ch.arr te.sz n f)]) H) (fun _ : Unit => True) (fun _ => .a .any) (fun _ => [(k, .arr te.sz n (cpD lo.toNat (Nat.min m (hi - lo).toNat) g f))]) () (goInt (Nat.min m (hi - lo).toNat)) w' B _ :=
      Ret1.sameK (B := B) (h' := h') (AllP_fit mm.mm) kself (onlyK_dj mm _) r2 r3 (r4.mono fun b _ o h => by rw [hon]; exact h) fun b o h => .inl (by rw [hon]; exact r5 b o h)
    refine ⟨(), goInt (Nat.min m (hi - lo).toNat), w', B, _, ?_, ⟨trivial, rfl, r.3, r.4, r.5, r.6⟩⟩
    obtain ⟨dst, op, type, pos, after, guard⟩ := o
    simp only at hop r1
    subst hop
    simp only [execOp, resolve, Sem.run_bind, Sem.run_pure, Result.andThen_ok, invoke, builtin, List.map_toArray, List.map_cons, List.map_nil, e1, r1]
  · simp [SV.inK, V.inK, muIn, Ch.own?, Ch.rowL, allL, appK, hasK, Nat.beq_refl]
end
section
variable {P : Program} {w : World}
theorem run_appZ {t tn ty : TypeId} {te : TI} {kn : IntKind} (ht : P.underlying t = some (.slice te.id)) (htn : P.underlying tn = some (.int kn)) (hti : te.ok P) (hpos : 0 < te.sz) (hzs : te.zero.cells.size = te.sz) {h : PH} {A : Option Addr} {n c : Nat} {f : Nat → List Value} (s : VA A n c te.sz f h) (hf : Fit h w)
    {m : Nat} (h0 : 0 < m) (hg : c < n + m) (hb : (n + m) * te.by_ ≤ 140737488355328) (hm : n + m ≤ maxL) :
    ∃ A' c' w' h', (Builtin.append_ #[t, tn] ty #[.slice A n c, .int .i64 m]).run P w = .ok (.slice A' (n + m) c') w' ∧ VA A' (n + m) c' te.sz (appR n f fun _ => te.zero.cells.toList) h' ∧ FitO h' w' ∧ Keep noD w w' ∧ ∀ b o, h' b o ≠ none → w.heap.size ≤ b := by
  obtain ⟨i, i1, i2, i3, i4⟩ := hti.info
  obtain ⟨s0, s1, s2⟩ := s
  have hlen : ∀ i, i < n → (f i).length = te.sz := fun i hi => by obtain ⟨_, _, _, q, _⟩ := s1 i hi; exact q
  have hol : (flatR f n).length = n * te.sz := flatR_length hlen
  have hold : (Builtin.firstCells i.size n (.slice A n c)).run P w.drew = .ok (flatR f n).toArray w.drew := by
    cases A with
    | none =>
      have h0 : n = 0 := by
        rcases Nat.eq_zero_or_pos n with h | h
        · exact h
        · obtain ⟨_, _, e, _⟩ := s1 0 h; cases e
      subst h0
      exact run_firstCells_none w.drew i.size 0 0 c
    | some ad =>
      refine run_firstCells_some (P := P) w.drew i.size n ad n c (flatR f n) (by rw [i2]; exact hol) fun k v hk => ?_
      have hlt : k < n * te.sz := by rw [← hol]; exact (List.getElem?_eq_some_iff.1 hk).1
      obtain ⟨q, p, c1, c2, rfl⟩ := flatR_cell hlen hpos hlt
      obtain ⟨b, o, e, q1, q2⟩ := s1 _ c1
      injection e with e
      subst e
      have h1 := flatR_get hlen c1 c2
      rw [hk, ← q2 _ c2] at h1
      have h2 := (hf _ _ _ h1.symm).1
      rw [add_mk, ← Nat.add_assoc]
      exact h2
  have hby : m * i.bytes ≤ (n + m) * i.bytes := Nat.mul_le_mul_right _ (by omega)
  have hrun := Lib.run_append_grow_zeros (P := P) w t tn ty te.id i te.zero .i64 kn ht htn i1 i4 A n c (flatR f n) hold m h0 (by rw [i2]; exact hpos) hg (by unfold maxL at hm; omega) (by rw [i3] at hby ⊢; omega) (growslice_fits (by omega) (by rw [i3]; exact hb))
  generalize hcc : grownCap w (n + m) c te.id = cc at hrun
  have hge : n + m ≤ cc := by rw [← hcc]; exact grownCap_ge _ _ _ _
  generalize hcs : ((flatR f n).toArray ++ Builtin.zeroCells te.zero.cells m ++ Builtin.zeroCells te.zero.cells (cc - (n + m))) = cs at hrun
  have hzl : (Builtin.zeroCells te.zero.cells m).size = m * te.sz := by rw [size_zeroCells, hzs]
  have hsz : cs.size = cc * te.sz := by
    rw [← hcs]
    simp only [Array.size_append, List.size_toArray, size_zeroCells, hzs, hol, ← Nat.add_mul]
    congr 1; omega
  have hfit : FitO (PH.row w.heap.size 0 cs.toList) (w.drew.alloc (.cells cs te.id)) := by
    have := FitO.alloc w.drew cs.toList te.id
    simpa using this
  have hrow : ∀ k, PH.row w.heap.size 0 cs.toList w.heap.size k = cs[k]? := fun k => by
    have := PH.row_at (b := w.heap.size) (off := 0) (l := cs.toList) k
    rw [Nat.zero_add] at this
    rw [this, Array.getElem?_toList]
  refine ⟨_, cc, _, _, hrun, ⟨hge, fun k hk => ⟨w.heap.size, 0, rfl, ?_⟩, fun k hk hk2 => ⟨w.heap.size, 0, rfl, fun j hj => ?_⟩⟩, hfit, ?_, fun b o hb => by rw [PH.row_ne hb]; exact Nat.le_refl _⟩
  · have hcsk : ∀ q, q < (n + m) * te.sz → cs[q]? = ((flatR f n) ++ (Builtin.zeroCells te.zero.cells m).toList)[q]? := fun q hq => by
      rw [← hcs, Array.getElem?_append_left (by simp only [Array.size_append, List.size_toArray, hol, hzl, ← Nat.add_mul]; exact hq), ← Array.getElem?_toList]
      simp
    have hkq : ∀ j, j < te.sz → k * te.sz + j < (n + m) * te.sz := fun j hj => by
      have h1 : (k + 1) * te.sz ≤ (n + m) * te.sz := Nat.mul_le_mul_right _ hk
      rw [Nat.add_mul, Nat.one_mul] at h1
      omega
    by_cases hkn : k < n
    · rw [appR_lt hkn]
      refine ⟨hlen k hkn, fun j hj => ?_⟩
      have h1 : (k + 1) * te.sz ≤ n * te.sz := Nat.mul_le_mul_right _ hkn
      rw [Nat.add_mul, Nat.one_mul] at h1
      rw [Nat.zero_add, hrow, hcsk _ (hkq j hj), List.getElem?_append_left (by omega), flatR_get hlen hkn hj]
    · rw [appR_ge (by omega)]
      refine ⟨by rw [Array.length_toList, hzs], fun j hj => ?_⟩
      have h2 : k * te.sz = n * te.sz + (k - n) * te.sz := by rw [← Nat.add_mul]; congr 1; omega
      have h3 := zeroCells_get (z := te.zero.cells) (n := m) (i := k - n) (j := j) (by omega) (by rw [hzs]; exact hj)
      rw [hzs] at h3
      rw [Nat.zero_add, hrow, hcsk _ (hkq j hj), List.getElem?_append_right (by omega), hol, show k * te.sz + j - n * te.sz = (k - n) * te.sz + j from by omega, h3]
  · have h1 : (k + 1) * te.sz ≤ cc * te.sz := Nat.mul_le_mul_right _ hk2
    rw [Nat.add_mul, Nat.one_mul] at h1
    rw [Nat.zero_add, hrow, Array.getElem?_eq_getElem (by omega)]; simp
  · exact ((Keep.drew w).mono fun _ _ _ h => h.elim).trans (Keep.alloc w.drew _) fun _ _ h => h.elim
theorem VA_cut {A : Option Addr} {n c sz i : Nat} {f : Nat → List Value} {h : PH} (va : VA A n c sz f h) (hi : i ≤ n) : VA A i c sz f h :=
  ⟨by have := va.1; omega, fun k hk => va.2.1 k (by omega), fun k hk hk2 => by
    by_cases c1 : k < n
    · obtain ⟨b, o, e, l1, l2⟩ := va.2.1 k c1
      refine ⟨b, o, e, fun j hj => ?_⟩
      rw [l2 j hj, List.getElem?_eq_getElem (by omega)]; simp
    · exact va.2.2 k (by omega) hk2⟩
end
section
variable {E : Env} {B : BE} {mu mu' : Mu} {w : World} {H : Nat → PH} {TT : List TI} {fr fr' : Fr} {gf gf' : GF} {a : Act} {all rest : List Oper} {Q : Exit → Act → World → Prop} {o : Oper} {J : Act → World → Prop} {G : AG} {R : Exit → Act → World → Prop} {K : List KF}
theorem OJ_appZ (hT : TOk E.P TT) (k k' tg : Nat) {t0 ts tn n cp : Nat} {s x : Operand} {i m : Int} {f : Nat → List D} {id sz1 by1 e : Nat} {z : Value} {ef : Bool} {te tni : TI} {md : Mu}
    (hop : o.op = .call { callee := .builtin .append, args := #[s, x], argTypes := #[ts, tn] }) (hs : ev [] fr gf s = some (.a (.sb k te.sz 0 i))) (hx : ev [] fr gf x = some (.a (.v (.int .i64 m)))) (hl1 : mlk tg fr = some (.a (.gl k n cp))) (hl2 : glk tg gf = none) (h1 : tlk ts TT = some ⟨id, sz1, by1, .slc e, z, ef⟩) (h2 : tlk e TT = some te) (h3 : tlk tn TT = some tni) (h4 : tni.kind = .it .i64) (hk : mlk k mu = some (.arr te.sz n f)) (hgd : gdrop t0 gf = some gf')
    (hmd : mdropKs [k'] mu = some md) (hi1 : 0 ≤ i ∧ i ≤ n ∧ 0 < m ∧ (cp : Int) < i + m) (hb : (i.toNat + m.toNat) * te.by_ ≤ 140737488355328 ∧ i.toNat + m.toNat ≤ maxL) (hone : ∀ j, j < n → ∃ l, flatDs (f j) = some l)
    (kk : SJ G J E ((t0, .a (.g k')) :: fr) gf' ((k', .arr te.sz (i.toNat + m.toNat) (appD i.toNat f fun _ => zsD te.zero)) :: md)) (hz : (vcells te.zero).map (·.length) = some te.sz := by exact rfl) (hpos : 0 < te.sz := by exact Nat.lt_of_sub_eq_succ rfl) (hkeys : keysB [] [k'] [] fr gf mu E.A.ks G.ks = true := by exact rfl)
    (hg : o.guard = none := by exact rfl) (hd : o.dst = some t0 := by exact rfl) (ht : Nat.blt t0 E.N = true := by exact rfl) : OJ G E all Q J o fr gf mu := by
  refine OJ_B (ι := Unit) (ks := []) (nk := [k']) (mu1 := []) (φ := fun _ => True) (res := fun _ => .a (.g k')) (mu1' := fun _ => [(k', .arr te.sz (i.toNat + m.toNat) (appD i.toNat f fun _ => zsD te.zero))]) (fun B a w H ff mm => ?_) hg hd ht hgd (fun _ => rfl) hkeys (fun _ => ?_) hmd rfl fun _ _ => kk
  · obtain ⟨d1, u2⟩ := slc_of hT h1 h2
    obtain ⟨v1, v2⟩ := hT.get h3
    obtain ⟨dx, dx1, dx2⟩ := v2.desc
    rw [h4] at dx2
    obtain rfl := shapeK_it dx2
    rw [v1] at dx1
    have hgl : ∀ d w, (d, w) ∈ ([] : Gd) → a.tmps.getD d undef = .bool w := fun _ _ hm => by cases hm
    have e1 : a.eval s = sbV (B k) te.sz 0 (i - 0).toNat := (show _ ∧ _ from ff.ev (g := []) hgl hs).1
    have e2 : a.eval x = .int .i64 m := ff.ev (g := []) hgl hx
    have sk : D.own (H k) (.sl te.sz n f) (B k) := mm.mm.sat k _ hk
    obtain ⟨e3, _, A0, e4⟩ := (show a.tmps.getD tg undef = B k ∧ _ ∧ ∃ A, _ = Value.slice A n cp from ff.vfr tg _ hl1 hl2)
    have hB : B k = .slice A0 n cp := e3.symm.trans e4
    obtain ⟨A, c, row, hc, hp, G', e5, s1, va, lc, lp, d, s2, s3, s4⟩ := own_VA sk
    rw [hB] at e5
    injection e5 with e6 e7 e8
    subst e6; subst e8
    have hev : sbV (B k) te.sz 0 (i - 0).toNat = .slice A0 i.toNat cp := by
      rw [hB, sbV]
      have : (i - 0).toNat = i.toNat := by omega
      rw [this]
      cases A0 <;> simp [Addr.add]
    have hm : Value.int .i64 m = .int .i64 (m.toNat : Int) := by congr 1; omega
    obtain ⟨A', c', w', h', r1, r2, r3, r4, r5⟩ := run_appZ (P := E.P) (w := w) (ty := o.type) d1 dx1 u2 hpos (zero_sz hz) (VA_cut va (i := i.toNat) (by omega)) ((mm.mm.fit k).fit.le lc) (m := m.toNat) (by omega) (by omega) hb.1 hb.2
    have s' : D.own h' (.sl te.sz (i.toNat + m.toNat) (appD i.toNat f fun _ => zsD te.zero)) (.slice A' (i.toNat + m.toNat) c') := VA_own (hp := PH.emp) (G := fun _ => PH.emp) r2 hb.2 (PH.le_refl _) (PH.emp_le _) (PH.dj_emp _) (fun j hj => by
      by_cases c1 : j < i.toNat
      · rw [appD_lt c1, appR_lt c1]
        obtain ⟨l, hl⟩ := hone j (by omega)
        have hfl := (flatDs_ok hl).1
        have h6 := (s2 j (by omega)).1
        rw [hfl] at h6 ⊢
        rw [flat_rds (D.owns_rds _ h6)]
        exact flat_owns
      · rw [appD_ge (by omega), appR_ge (by omega)]; exact flat_owns) (fun _ _ => PH.emp_le _) (fun _ _ _ _ _ => PH.emp_dj _)
    refine ⟨(), .slice A' (i.toNat + m.toNat) c', w', _, _, ?_, Ret1.new (AllP_fit mm.mm) rfl (onlyK_dj mm _) rfl s' r3 (r4.mono fun _ _ _ h => h.elim) fun b o h => .inr (r5 b o h)⟩
    obtain ⟨dst, op, type, pos, after, guard⟩ := o
    simp only at hop r1
    subst hop
    simp only [execOp, resolve, Sem.run_bind, Sem.run_pure, Result.andThen_ok, invoke, builtin, List.map_toArray, List.map_cons, List.map_nil, e1, e2, hev, hm, r1]
  · simp [SV.inK, V.inK, muIn, Ch.own?, Ch.rowL, allL, appK, hasK, Nat.beq_refl]
end
theorem cell_shape {w : World} {b o : Nat} {v : Value} (h : w.cell? ⟨b, o, none⟩ = some v) : ∃ c T fr, w.heap[b]? = some (.cells c T fr) ∧ o < c.size ∧ w.shape? b = some (T, c.size) := by
  unfold World.cell? at h
  cases e : w.heap[b]? with
  | none => simp [e] at h
  | some x =>
    cases x with
    | cells c T fr =>
      simp [e] at h
      exact ⟨c, T, fr, rfl, (Array.getElem?_eq_some_iff.1 h).1, by simp [World.shape?, e]⟩
    | _ => simp [e] at h
theorem run_overlaps_own {P : Program} {w : World} {tS tR e : TypeId} (ht : P.underlying tS = some (.slice e)) {size : Nat} (hz : ∀ w, (Go.sizeOf e).run P w = .ok size w) {h1 h2 : PH} (f1 : FitO h1 w) (f2 : FitO h2 w) (d : h1.dj h2) {b1 o1 b2 o2 la ca lb cb : Nat} (hpos : 0 < size) (l1 : 0 < la) (l2 : 0 < lb)
    (c1 : ∀ j, j < la * size → h1 b1 (o1 + j) ≠ none) (c2 : ∀ j, j < lb * size → h2 b2 (o2 + j) ≠ none) :
    (Extern.SlicesOverlaps.overlaps #[tS, tS] #[tR] #[.slice (some ⟨b1, o1, none⟩) la ca, .slice (some ⟨b2, o2, none⟩) lb cb]).run P w = .ok (.bool false) w := by
  have p1 : 0 < la * size := Nat.mul_pos l1 hpos
  have p2 : 0 < lb * size := Nat.mul_pos l2 hpos
  have cell : ∀ {h : PH} (f : FitO h w) {b o : Nat}, h b o ≠ none → ∃ v, w.cell? ⟨b, o, none⟩ = some v ∧ w.frozen? ⟨b, o, none⟩ = false := fun {h} f {b o} e => by
    cases x : h b o with
    | none => exact absurd x e
    | some v => exact ⟨v, f.fit b o v x⟩
  have q1 : h1 b1 o1 ≠ none := by simpa using c1 0 p1
  have q2 : h2 b2 o2 ≠ none := by simpa using c2 0 p2
  obtain ⟨v1, u1, z1⟩ := cell f1 q1
  obtain ⟨v2, u2, z2⟩ := cell f2 q2
  obtain ⟨cA, TA, frA, s1, s2, s3⟩ := cell_shape u1
  obtain ⟨cB, TB, frB, t1, t2, t3⟩ := cell_shape u2
  by_cases hne : b1 = b2
  · subst hne
    have hno : ¬ (o1 < o2 + lb * size ∧ o2 < o1 + la * size) := fun ⟨g1, g2⟩ => by
      rcases Nat.le_total o1 o2 with h | h
      · have k1 := c1 (o2 - o1) (by omega)
        rw [show o1 + (o2 - o1) = o2 from by omega] at k1
        exact (d b1 o2).elim k1 q2
      · have k1 := c2 (o1 - o2) (by omega)
        rw [show o2 + (o1 - o2) = o1 from by omega] at k1
        exact (d b1 o1).elim q1 k1
    have h0 : ¬ (la = 0 ∨ lb = 0 ∨ size = 0) := by omega
    change Sem.run P (α := Value) (do
      let some t := (#[tS, tS] : Array TypeId)[0]? | stuck "slices.overlaps: no parameter types"
      let .slice elem ← underlying t | stuck "slices.overlaps: slice type expected"
      let size ← sizeOf elem
      match (some ⟨b1, o1, none⟩ : Option Addr), (some ⟨b1, o2, none⟩ : Option Addr) with
      | some a, some b =>
        if la = 0 ∨ lb = 0 ∨ size = 0 then pure (Value.bool false)
        else if a.block != b.block && (← frozen a) && (← frozen b) then unsupported .addressObserved
        else do
          if a.block != b.block then do
            noView a; noView b
            if ← mayBeOne a b then return Value.bool ((← choose (.extern "sameAddr.stringBytes" 2)) == 1)
          pure (Value.bool (a.block == b.block && a.off < b.off + lb * size && b.off < a.off + la * size))
      | _, _ => pure (Value.bool false)) w = _
    have hb : (decide (o1 < o2 + lb * size) && decide (o2 < o1 + la * size)) = false := by
      rw [Bool.and_eq_false_iff]
      by_cases g1 : o1 < o2 + lb * size
      · right; exact decide_eq_false fun g2 => hno ⟨g1, g2⟩
      · left; exact decide_eq_false g1
    simp [run_underlying ht, hz, h0, frozen, Sem.run]
    simpa using hb
  · exact Lib.run_overlaps_apart w tS tR e ht size hz ⟨b1, o1, none⟩ ⟨b2, o2, none⟩ la ca lb cb hne TA TB cA.size cB.size s3 t3 (by omega) z1 (f1.ends b1 o1 q1 cA TA frA s1)
section
variable {E : Env} {B : BE} {mu mu' : Mu} {w : World} {H : Nat → PH} {TT : List TI} {fr fr' : Fr} {gf gf' : GF} {a : Act} {all rest : List Oper} {Q : Exit → Act → World → Prop} {o : Oper} {J : Act → World → Prop} {G : AG} {R : Exit → Act → World → Prop} {K : List KF}
theorem own_cells {h : PH} {sz n : Nat} {f : Nat → List D} {y : Value} (e : D.own h (.sl sz n f) y) {lo hi : Int} (h1 : 0 ≤ lo) (h2 : lo < hi) (h3 : hi ≤ n) (hpos : 0 < sz) : ∃ b o c, sbV y sz lo.toNat (hi - lo).toNat = .slice (some ⟨b, o, none⟩) (hi - lo).toNat c ∧ ∀ j, j < (hi - lo).toNat * sz → h b (o + j) ≠ none := by
  obtain ⟨A, c, row, hc, hp, G, rfl, s1, va, lc, lp, d, s2, s3, s4⟩ := own_VA e
  obtain ⟨b, o, rfl, _⟩ := va.2.1 lo.toNat (by omega)
  have hcl : ¬ c = lo.toNat := by have := va.1; omega
  refine ⟨b, o + lo.toNat * sz, c - lo.toNat, by rw [sbV, if_neg hcl]; simp only [Option.map_some, add_mk], fun j hj => ?_⟩
  obtain ⟨q, p, c1, c2, rfl⟩ : ∃ q p, q < (hi - lo).toNat ∧ p < sz ∧ j = q * sz + p := ⟨j / sz, j % sz, Nat.div_lt_of_lt_mul (by rwa [Nat.mul_comm]), Nat.mod_lt _ hpos, by rw [Nat.mul_comm]; exact (Nat.div_add_mod j sz).symm⟩
  obtain ⟨b', o', e, l1, l2⟩ := va.2.1 (lo.toNat + q) (by omega)
  injection e with e
  injection e with e1 e2
  subst e1; subst e2
  have := l2 p c2
  rw [Nat.add_mul, show o + (lo.toNat * sz + q * sz) + p = o + lo.toNat * sz + (q * sz + p) from by omega] at this
  refine le_ne lc ?_
  rw [this, List.getElem?_eq_getElem (by omega)]; simp
theorem OJ_ov (hT : TOk E.P TT) (k kb : Nat) {t0 ts tr fi : Nat} {fn : Func} {ats : Array TypeId} {s x : Operand} {n m : Nat} {lo hi : Int} {f g : Nat → List D} {id sz1 by1 e : Nat} {z : Value} {ef : Bool} {te : TI}
    (hop : o.op = .call { callee := .value (.func fi), args := #[s, x], argTypes := ats }) (hf : E.P.funcs[fi]? = some fn) (hs : ev [] fr gf s = some (.a (.g kb))) (hx : ev [] fr gf x = some (.a (.sb k te.sz lo hi))) (h1 : tlk ts TT = some ⟨id, sz1, by1, .slc e, z, ef⟩) (h2 : tlk e TT = some te) (hk : mlk k mu = some (.arr te.sz n f)) (hkb : mlk kb mu = some (.arr te.sz m g)) (hgd : gdrop t0 gf = some gf')
    (hi1 : 0 ≤ lo ∧ lo < hi ∧ hi ≤ n ∧ 0 < m)
    (kk : SJ G J E ((t0, vB false) :: fr) gf' mu) (hname : (fn.name == "runtime.NumGoroutine") = false := by kernel_rfl) (hb : fn.body.isNone = true := by kernel_rfl) (hn : Extern.findNext fn = none := by kernel_rfl) (he : Extern.find fn = some (Extern.SlicesOverlaps.overlaps #[ts, ts] #[tr]) := by kernel_rfl) (hpos : 0 < te.sz := by exact Nat.lt_of_sub_eq_succ rfl) (hne : Nat.beq kb k = false := by exact rfl)
    (hg : o.guard = none := by exact rfl) (hd : o.dst = some t0 := by exact rfl) (ht : Nat.blt t0 E.N = true := by exact rfl) : OJ G E all Q J o fr gf mu := fun B a w H ff mm gg => by
  obtain ⟨d1, u2⟩ := slc_of hT h1 h2
  obtain ⟨i0, i1, i2, _⟩ := u2.info
  have hgl : ∀ d w, (d, w) ∈ ([] : Gd) → a.tmps.getD d undef = .bool w := fun _ _ hm => by cases hm
  have e1 : a.eval s = B kb := (show _ ∧ _ from ff.ev (g := []) hgl hs).1
  have e2 : a.eval x = sbV (B k) te.sz lo.toNat (hi - lo).toNat := (show _ ∧ _ from ff.ev (g := []) hgl hx).1
  obtain ⟨b2, o2, c2, q1, q2⟩ := own_cells (show D.own (H k) (.sl te.sz n f) (B k) from mm.mm.sat k _ hk) hi1.1 hi1.2.1 hi1.2.2.1 hpos
  obtain ⟨b1, o1, c1, p1, p2⟩ := own_cells (lo := 0) (hi := (m : Int)) (show D.own (H kb) (.sl te.sz m g) (B kb) from mm.mm.sat kb _ hkb) (Int.le_refl _) (by omega) (Int.le_refl _) hpos
  obtain ⟨A, cA, hB, _⟩ := own_slice (show D.own (H kb) (.sl te.sz m g) (B kb) from mm.mm.sat kb _ hkb)
  have hB2 : ∃ cc, B kb = .slice (some ⟨b1, o1, none⟩) ((m : Int) - 0).toNat cc := by
    rw [hB, sbV] at p1
    rw [hB]
    injection p1 with p3 p4 p5
    refine ⟨cA, ?_⟩
    have hm : ((m : Int) - 0).toNat = m := by omega
    rw [hm]
    congr 1
    rw [← p3]
    cases A <;> simp [Addr.add]
  obtain ⟨cc, hB2⟩ := hB2
  have hrun := run_overlaps_own (P := E.P) (w := w) (tR := tr) (size := te.sz) d1 (fun w => by rw [run_size i1, i2]) (mm.mm.fit kb) (mm.mm.fit k) (mm.mm.dj kb k (beq_ne hne)) (ca := cc) (cb := c2) hpos (la := ((m : Int) - 0).toNat) (by omega) (lb := (hi - lo).toNat) (by omega) p2 q2
  have r1 : (execOp a.eval o).run E.P w = .ok (.value (.bool false)) w := by
    obtain ⟨dst, op, type, pos, after, guard⟩ := o
    simp only at hop
    subst hop
    have ha : (#[s, x] : Array Operand).map a.eval = #[a.eval s, a.eval x] := by simp
    have hfv : a.eval (.func fi) = .func (.func fi) #[] #[] := rfl
    simp only [execOp, resolve, hfv, Deferred.ofValue, Sem.run_bind, Sem.run_pure, Result.andThen_ok, invoke, ha, e1, e2, hB2, q1, Array.empty_append, Array.append_empty]
    rw [run_callFunc_extern hf hname hb hn he, hrun]
    rfl
  refine one_val (wanted_none hg) r1 ?_
  rw [hd]
  exact kk B _ w H (Fits.put ff (by simpa [Nat.blt_eq] using ht) (show SV.rel _ _ _ (.a (.v _)) _ from rfl) hgd) mm gg
end
end Go.Proofs.YtcikaknfogpeeaaGreat
namespace Go.Proofs.YtcikaknfogpeeaaGreat
open Go Go.RowKit
set_option linter.unusedVariables false
set_option linter.unusedSimpArgs false
set_option maxRecDepth 4000
def insD (i m : Nat) (g f : Nat → List D) : Nat → List D := fun j => if j < i then f j else if j < i + m then g (j - i) else f (j - m)
theorem ins_end {n m : Nat} {f g : Nat → List D} (j : Nat) : appD n f g j = insD n m g f j ∨ n + m ≤ j := by
  unfold insD
  by_cases c : j < n
  · left; rw [appD_lt c, if_pos c]
  · by_cases c2 : j < n + m
    · left; rw [appD_ge (by omega), if_neg c, if_pos c2]
    · right; omega
theorem ins_cp {n m i c1 c2 : Nat} {f f0 g : Nat → List D} (hi : i ≤ n) (h1 : c1 = m) (h2 : c2 = n - i) (h0 : ∀ j, j < i → f0 j = f j) (j : Nat) (hj : j < n + m) : cpD (i + m) c2 (fun x => f (i + x)) (cpD i c1 g f0) j = insD i m g f j := by
  subst h1; subst h2
  unfold cpD insD
  by_cases a : j < i
  · rw [if_neg (by omega), if_neg (by omega), if_pos a]; exact h0 j a
  · by_cases b : j < i + c1
    · rw [if_neg (by omega), if_pos (by omega), if_neg a, if_pos b]
    · rw [if_pos (by omega), if_neg a, if_neg b]
      show f (i + (j - (i + c1))) = f (j - c1)
      congr 1; omega
theorem ins_in {n m i c1 c2 : Nat} {f f0 f1 g : Nat → List D} (hi : i ≤ n) (h1 : c1 = m) (h2 : c2 = n - i) (h0 : ∀ j, j < n → f0 j = f j) (h3 : ∀ j, j < n - i → f1 j = f (i + j)) (j : Nat) (hj : j < n + m) : cpD i c1 g (cpD (i + m) c2 f1 f0) j = insD i m g f j := by
  subst h1; subst h2
  unfold cpD insD
  by_cases a : j < i
  · rw [if_neg (by omega), if_neg (by omega), if_pos a]; exact h0 j (by omega)
  · by_cases b : j < i + c1
    · rw [if_pos (by omega), if_neg a, if_pos b]
    · rw [if_neg (by omega), if_pos (by omega), if_neg a, if_neg b, h3 _ (by omega)]
      congr 1; omega
theorem flat_app {n : Nat} {f : Nat → List D} {junk : Nat → List Value} (hf : ∀ j, j < n → ∃ l, flatDs (f j) = some l) : ∀ j, j < n → ∃ l, flatDs (appD n f (fun x => (junk x).map D.v) j) = some l := fun j hj => by rw [appD_lt hj]; exact hf j hj
theorem insertCopy_c (n m i : Nat) (f g : Nat → List D) (hn : n ≤ 1048576) (hm : m ≤ 1048576) (h0 : 0 < m) (hi : i ≤ n) (hf : ∀ j, j < n → ∃ l, flatDs (f j) = some l) (hg : ∀ j, j < m → ∃ l, flatDs (g j) = some l) :
    Con Tryz.prog 197 [900, 901] [.a (.g 900), vI i, .a (.g 901)] [(900, .arr 2 n f), (901, .arr 2 m g)] (fun _ : Unit => True) (fun _ => [.a (.g 902)]) fun _ => [(902, .arr 2 (n + m) (insD i m g f))] := by
  refine con_enter Tryz.func197 rfl rfl rfl fun B0 r_ D_ w0 => ?_
  refine T_auto TT_ok rfl ?_
  refine T_condD rfl (fun e => absurd e (by omega)) (fun _ => ?_)
  refine T_auto TT_ok rfl ?_
  refine T_condD rfl (fun e => ?_) (fun e => ?_)
  · have hin : i = n := by omega
    subst hin
    refine T_auto TT_ok rfl ?_
    refine RJ_appC TT_ok 900 902 rfl rfl rfl rfl rfl rfl rfl rfl rfl rfl rfl rfl ⟨by show (_ + _) * 32 ≤ 140737488355328; omega, by unfold maxL; omega⟩ ?_ (hone := hg)
    refine RJ_auto TT_ok rfl ?_
    refine T_ret TT_ok (()) [(6, none)] rfl rfl ?_ ?_ ?_
    · exact SVs.imp_refl _
    · exact ⟨⟨_, rfl, Ch.imp_arr fun j hj => (ins_end j).resolve_right (by omega)⟩, trivial⟩
    · trivial
  refine T_auto TT_ok rfl ?_
  refine RJ_cap 29 900 rfl rfl rfl fun cp hcp => ?_
  refine RJ_auto TT_ok rfl ?_
  refine T_condD rfl (fun e2 => ?_) (fun e2 => ?_)
  · refine T_auto TT_ok rfl ?_
    refine RJ_of (OJ_appZ TT_ok 900 902 29 rfl rfl rfl rfl rfl rfl rfl rfl rfl rfl rfl rfl ⟨by omega, by omega, by omega, by omega⟩ ⟨by show (_ + _) * 32 ≤ 140737488355328; omega, by unfold maxL; omega⟩ hf (SJ_of ?_))
    refine RJ_auto TT_ok rfl ?_
    refine RJ_of (OJ_copy TT_ok 902 rfl rfl rfl rfl rfl rfl rfl rfl rfl rfl ⟨by omega, by omega, by omega, Nat.lt_min.2 ⟨by omega, by omega⟩⟩ (fun j hj => hg j (Nat.lt_of_lt_of_le hj (Nat.min_le_left _ _))) (SJ_of ?_))
    refine RJ_auto TT_ok rfl ?_
    refine T_cap 9 902 rfl rfl fun cp2 _ => ?_
    refine T_drawL TT_ok [902] [0, 1, 2, 3, 4, 5, 6, 7, 8] rfl rfl fun B0 H0 => ?_
    refine DJ_one 8 rfl (by kernel_rfl) (OJ_copy TT_ok 902 rfl rfl rfl rfl rfl rfl rfl rfl rfl rfl ⟨by omega, by omega, by omega, Nat.lt_min.2 ⟨by omega, by omega⟩⟩ ?hone (SJ_dj ?_) (hob := ?hob))
    case hob => first | exact ⟨⟨by omega, by omega, by omega⟩, trivial⟩ | exact ⟨rfl, ⟨by omega, by omega, by omega⟩, trivial⟩
    case hone => exact fun j hj => hf _ (by have := Nat.lt_of_lt_of_le hj (Nat.min_le_left _ _); omega)
    refine DJ_endA TT_ok rfl ?_
    refine T_ret TT_ok (()) [(6, none)] rfl rfl ?_ ?_ ?_
    · exact SVs.cons imp_gl rfl
    · exact ⟨⟨_, rfl, Ch.imp_len (by omega) fun j hj => ins_cp hi (Nat.min_eq_left (by omega)) ((Nat.min_eq_left (by omega)).trans (by omega)) (fun j hj => by rw [appD_lt (by omega)]) j (by omega)⟩, trivial⟩
    · trivial
  refine T_view (V_glc 0 29 900 rfl rfl rfl rfl) ?_
  refine T_auto TT_ok rfl ?_
  refine RJ_of (OJ_re TT_ok 900 902 29 rfl rfl rfl rfl rfl rfl rfl rfl rfl rfl rfl ⟨by omega, by omega, by unfold maxL; omega⟩ fun junk hj => SJ_of ?_)
  refine RJ_auto TT_ok rfl ?_
  refine RJ_of (OJ_ov TT_ok 902 901 (ts := 67) (tr := 4) rfl Tryz.func238 rfl rfl rfl rfl rfl rfl rfl ⟨by omega, by omega, by omega, by omega⟩ (SJ_of ?_))
  refine RJ_auto TT_ok rfl ?_
  refine T_cond rfl (fun _ => ?_) (fun e => by cases e)
  refine T_auto TT_ok rfl ?_
  refine T_cap 0 902 rfl rfl fun cp2 _ => ?_
  refine T_drawL TT_ok [902] [0, 1, 2, 3, 4, 5, 6, 7, 8] rfl rfl fun B0 H0 => ?_
  refine DJ_one 8 rfl (by kernel_rfl) (OJ_copy TT_ok 902 rfl rfl rfl rfl rfl rfl rfl rfl rfl rfl ⟨by omega, by omega, by omega, Nat.lt_min.2 ⟨by omega, by omega⟩⟩ ?hone (SJ_dj ?_) (hob := ?hob))
  case hob => first | exact ⟨⟨by omega, by omega, by omega⟩, trivial⟩ | exact ⟨rfl, ⟨by omega, by omega, by omega⟩, trivial⟩
  case hone => exact fun j hj => flat_app hf _ (by have := Nat.lt_of_lt_of_le hj (Nat.min_le_right _ _); omega)
  refine DJ_endA TT_ok rfl ?_
  refine RJ_of (OJ_copy TT_ok 902 rfl rfl rfl rfl rfl rfl rfl rfl rfl rfl ⟨by omega, by omega, by omega, Nat.lt_min.2 ⟨by omega, by omega⟩⟩ (fun j hj => hg j (Nat.lt_of_lt_of_le hj (Nat.min_le_left _ _))) (SJ_of ?_))
  refine RJ_auto TT_ok rfl ?_
  refine T_ret TT_ok (()) [(6, none)] rfl rfl ?_ ?_ ?_
  · exact SVs.cons imp_gl rfl
  · exact ⟨⟨_, rfl, Ch.imp_len (by omega) fun j hj => ins_in hi (Nat.min_eq_left (by omega)) ((Nat.min_eq_right (by omega)).trans (by omega)) (fun j hj => by rw [appD_lt (by omega)]) (fun j hj => by rw [appD_lt (by omega)]; rfl) j (by omega)⟩, trivial⟩
  · trivial
theorem insertInt64_c (n m i : Nat) (f g : Nat → List D) (hn : n ≤ 1048576) (hm : m ≤ 1048576) (h0 : 0 < m) (hi : i ≤ n) (hf : ∀ j, j < n → ∃ l, flatDs (f j) = some l) (hg : ∀ j, j < m → ∃ l, flatDs (g j) = some l) :
    Con Tryz.prog 228 [900, 901] [.a (.g 900), vI i, .a (.g 901)] [(900, .arr 1 n f), (901, .arr 1 m g)] (fun _ : Unit => True) (fun _ => [.a (.g 902)]) fun _ => [(902, .arr 1 (n + m) (insD i m g f))] := by
  refine con_enter Tryz.func228 rfl rfl rfl fun B0 r_ D_ w0 => ?_
  refine T_auto TT_ok rfl ?_
  refine T_condD rfl (fun e => absurd e (by omega)) (fun _ => ?_)
  refine T_auto TT_ok rfl ?_
  refine T_condD rfl (fun e => ?_) (fun e => ?_)
  · have hin : i = n := by omega
    subst hin
    refine T_auto TT_ok rfl ?_
    refine RJ_appC TT_ok 900 902 rfl rfl rfl rfl rfl rfl rfl rfl rfl rfl rfl rfl ⟨by show (_ + _) * 8 ≤ 140737488355328; omega, by unfold maxL; omega⟩ ?_ (hone := hg)
    refine RJ_auto TT_ok rfl ?_
    refine T_ret TT_ok (()) [(6, none)] rfl rfl ?_ ?_ ?_
    · exact SVs.imp_refl _
    · exact ⟨⟨_, rfl, Ch.imp_arr fun j hj => (ins_end j).resolve_right (by omega)⟩, trivial⟩
    · trivial
  refine T_auto TT_ok rfl ?_
  refine RJ_cap 29 900 rfl rfl rfl fun cp hcp => ?_
  refine RJ_auto TT_ok rfl ?_
  refine T_condD rfl (fun e2 => ?_) (fun e2 => ?_)
  · refine T_auto TT_ok rfl ?_
    refine RJ_of (OJ_appZ TT_ok 900 902 29 rfl rfl rfl rfl rfl rfl rfl rfl rfl rfl rfl rfl ⟨by omega, by omega, by omega, by omega⟩ ⟨by show (_ + _) * 8 ≤ 140737488355328; omega, by unfold maxL; omega⟩ hf (SJ_of ?_))
    refine RJ_auto TT_ok rfl ?_
    refine RJ_of (OJ_copy TT_ok 902 rfl rfl rfl rfl rfl rfl rfl rfl rfl rfl ⟨by omega, by omega, by omega, Nat.lt_min.2 ⟨by omega, by omega⟩⟩ (fun j hj => hg j (Nat.lt_of_lt_of_le hj (Nat.min_le_left _ _))) (SJ_of ?_))
    refine RJ_auto TT_ok rfl ?_
    refine T_cap 9 902 rfl rfl fun cp2 _ => ?_
    refine T_drawL TT_ok [902] [0, 1, 2, 3, 4, 5, 6, 7, 8] rfl rfl fun B0 H0 => ?_
    refine DJ_one 8 rfl (by kernel_rfl) (OJ_copy TT_ok 902 rfl rfl rfl rfl rfl rfl rfl rfl rfl rfl ⟨by omega, by omega, by omega, Nat.lt_min.2 ⟨by omega, by omega⟩⟩ ?hone (SJ_dj ?_) (hob := ?hob))
    case hob => first | exact ⟨⟨by omega, by omega, by omega⟩, trivial⟩ | exact ⟨rfl, ⟨by omega, by omega, by omega⟩, trivial⟩
    case hone => exact fun j hj => hf _ (by have := Nat.lt_of_lt_of_le hj (Nat.min_le_left _ _); omega)
    refine DJ_endA TT_ok rfl ?_
    refine T_ret TT_ok (()) [(6, none)] rfl rfl ?_ ?_ ?_
    · exact SVs.cons imp_gl rfl
    · exact ⟨⟨_, rfl, Ch.imp_len (by omega) fun j hj => ins_cp hi (Nat.min_eq_left (by omega)) ((Nat.min_eq_left (by omega)).trans (by omega)) (fun j hj => by rw [appD_lt (by omega)]) j (by omega)⟩, trivial⟩
    · trivial
  refine T_view (V_glc 0 29 900 rfl rfl rfl rfl) ?_
  refine T_auto TT_ok rfl ?_
  refine RJ_of (OJ_re TT_ok 900 902 29 rfl rfl rfl rfl rfl rfl rfl rfl rfl rfl rfl ⟨by omega, by omega, by unfold maxL; omega⟩ fun junk hj => SJ_of ?_)
  refine RJ_auto TT_ok rfl ?_
  refine RJ_of (OJ_ov TT_ok 902 901 (ts := 69) (tr := 4) rfl Tryz.func247 rfl rfl rfl rfl rfl rfl rfl ⟨by omega, by omega, by omega, by omega⟩ (SJ_of ?_))
  refine RJ_auto TT_ok rfl ?_
  refine T_cond rfl (fun _ => ?_) (fun e => by cases e)
  refine T_auto TT_ok rfl ?_
  refine T_cap 0 902 rfl rfl fun cp2 _ => ?_
  refine T_drawL TT_ok [902] [0, 1, 2, 3, 4, 5, 6, 7, 8] rfl rfl fun B0 H0 => ?_
  refine DJ_one 8 rfl (by kernel_rfl) (OJ_copy TT_ok 902 rfl rfl rfl rfl rfl rfl rfl rfl rfl rfl ⟨by omega, by omega, by omega, Nat.lt_min.2 ⟨by omega, by omega⟩⟩ ?hone (SJ_dj ?_) (hob := ?hob))
  case hob => first | exact ⟨⟨by omega, by omega, by omega⟩, trivial⟩ | exact ⟨rfl, ⟨by omega, by omega, by omega⟩, trivial⟩
  case hone => exact fun j hj => flat_app hf _ (by have := Nat.lt_of_lt_of_le hj (Nat.min_le_right _ _); omega)
  refine DJ_endA TT_ok rfl ?_
  refine RJ_of (OJ_copy TT_ok 902 rfl rfl rfl rfl rfl rfl rfl rfl rfl rfl ⟨by omega, by omega, by omega, Nat.lt_min.2 ⟨by omega, by omega⟩⟩ (fun j hj => hg j (Nat.lt_of_lt_of_le hj (Nat.min_le_left _ _))) (SJ_of ?_))
  refine RJ_auto TT_ok rfl ?_
  refine T_ret TT_ok (()) [(6, none)] rfl rfl ?_ ?_ ?_
  · exact SVs.cons imp_gl rfl
  · exact ⟨⟨_, rfl, Ch.imp_len (by omega) fun j hj => ins_in hi (Nat.min_eq_left (by omega)) ((Nat.min_eq_right (by omega)).trans (by omega)) (fun j hj => by rw [appD_lt (by omega)]) (fun j hj => by rw [appD_lt (by omega)]; rfl) j (by omega)⟩, trivial⟩
  · trivial
end Go.Proofs.YtcikaknfogpeeaaGreat
namespace Go.Proofs.YtcikaknfogpeeaaGreat
open Go Go.RowKit
set_option linter.unusedVariables false
set_option linter.unusedSimpArgs false
set_option maxRecDepth 4000
theorem cutAt_uniq {α : Type} {c : α → Int} {z : α} {xs : List α} {i j : Nat} (h : cutAt c z xs i) (k : cutAt c z xs j) : i = j := by
  rcases Nat.lt_trichotomy i j with h1 | h1 | h1
  · exact absurd (k.2.1 i h1) (h.2.2 i (Nat.le_refl _) (by have := k.1; omega))
  · exact h1
  · exact absurd (h.2.1 j h1) (k.2.2 j (Nat.le_refl _) (by have := h.1; omega))
open Classical in
noncomputable def posA {α : Type} (c : α → Int) (z : α) (xs : List α) : Nat := if h : ∃ i, cutAt c z xs i then h.choose else 0
theorem posA_eq {α : Type} {c : α → Int} {z : α} {xs : List α} {i : Nat} (h : cutAt c z xs i) : posA c z xs = i := by
  have hx : ∃ i, cutAt c z xs i := ⟨i, h⟩
  unfold posA
  rw [dif_pos hx]
  exact cutAt_uniq hx.choose_spec h
def insL {α : Type} (p : Nat) (x : α) (xs : List α) : List α := xs.take p ++ x :: xs.drop p
theorem insL_length {α : Type} {p : Nat} {x : α} {xs : List α} (h : p ≤ xs.length) : (insL p x xs).length = xs.length + 1 := by simp [insL]; omega
theorem insL_getD {α : Type} {p : Nat} {x z : α} {xs : List α} (h : p ≤ xs.length) (j : Nat) : (insL p x xs).getD j z = if j < p then xs.getD j z else if j < p + 1 then x else xs.getD (j - 1) z := by
  unfold insL
  by_cases a : j < p
  · rw [if_pos a]
    simp only [List.getD_eq_getElem?_getD]
    rw [List.getElem?_append_left (by simp; omega), List.getElem?_take_of_lt a]
  · rw [if_neg a]
    simp only [List.getD_eq_getElem?_getD]
    rw [List.getElem?_append_right (by simp; omega)]
    have hl : (xs.take p).length = p := by simp; omega
    rw [hl]
    by_cases b : j < p + 1
    · rw [if_pos b]
      have : j - p = 0 := by omega
      rw [this]; simp
    · rw [if_neg b]
      obtain ⟨k, hk⟩ : ∃ k, j - p = k + 1 := ⟨j - p - 1, by omega⟩
      rw [hk, List.getElem?_cons_succ, List.getElem?_drop]
      congr 2; omega
theorem imp_ins {α : Type} {sz : Nat} {enc : α → List D} {z x : α} {p : Nat} {xs : List α} (h : p ≤ xs.length) : (Ch.arr sz (xs.length + 1) (insD p 1 (fun _ => enc x) fun j => enc (xs.getD j z))).imp (arrC sz enc z (insL p x xs)) :=
  Ch.imp_len (by rw [insL_length h]) fun j hj => by
    rw [insL_getD h]
    unfold insD
    by_cases a : j < p
    · rw [if_pos a, if_pos a]
    · rw [if_neg a, if_neg a]
      by_cases b : j < p + 1
      · rw [if_pos b, if_pos b]
      · rw [if_neg b, if_neg b]
theorem idxI_in {α : Type} {p : α → Bool} {z : α} {xs : List α} (h : 0 ≤ idxI p xs) : (idxI p xs).toNat < xs.length ∧ p (xs.getD (idxI p xs).toNat z) = true := by
  rcases idxI_cases p z xs with ⟨h1, _⟩ | ⟨i, h1, h2, _, h4⟩
  · rw [h1] at h; omega
  · rw [h2]; exact ⟨by simpa using h1, by simpa using h4⟩
theorem any_idx {α : Type} {p : α → Bool} {z : α} {xs : List α} : 0 ≤ idxI p xs ↔ xs.any p = true := by
  constructor
  · intro h
    obtain ⟨h1, h2⟩ := idxI_in (z := z) h
    exact List.any_eq_true.2 ⟨xs.getD (idxI p xs).toNat z, by simp [h1], h2⟩
  · intro h
    rcases idxI_cases p z xs with ⟨h1, h2⟩ | ⟨i, h1, h2, _⟩
    · obtain ⟨x, hx, hp⟩ := List.any_eq_true.1 h
      obtain ⟨a, ha, rfl⟩ := List.mem_iff_getElem.1 hx
      have := h2 a ha
      simp [ha] at this
      rw [this] at hp; cases hp
    · omega
theorem imp_ins2 {α : Type} {sz : Nat} {enc : α → List D} {z x : α} {p : Nat} {xs : List α} (h : p ≤ xs.length) : (Ch.arr sz ((xs.take p).length + 1 + ((xs.length : Int) - ((xs.take p).length : Int)).toNat) (appD ((xs.take p).length + 1) (appD (xs.take p).length (fun i => enc ((xs.take p).getD i z)) fun _ => enc x) fun i => enc (xs.getD (((xs.take p).length : Int).toNat + i) z))).imp (arrC sz enc z (insL p x xs)) := by
  have hl : (xs.take p).length = p := by rw [List.length_take]; omega
  refine Ch.imp_len (by rw [insL_length h]; omega) fun j hj => ?_
  rw [insL_getD h, hl]
  by_cases a : j < p
  · rw [if_pos a, appD_lt (by omega), appD_lt a]
    congr 1
    simp only [List.getD_eq_getElem?_getD]
    rw [List.getElem?_take_of_lt a]
  · rw [if_neg a]
    by_cases b : j < p + 1
    · rw [if_pos b, appD_lt b, appD_ge (by omega)]
    · rw [if_neg b, appD_ge (by omega)]
      have : (p : Int).toNat + (j - (p + 1)) = j - 1 := by omega
      show enc (xs.getD ((p : Int).toNat + (j - (p + 1))) z) = _
      rw [this]
end Go.Proofs.YtcikaknfogpeeaaGreat
namespace Go.Proofs.YtcikaknfogpeeaaGreat
open Go Go.RowKit
set_option linter.unusedVariables false
set_option linter.unusedSimpArgs false
set_option maxRecDepth 4000
abbrev roC {α : Type} (sz : Nat) (enc : α → List D) (z : α) (xs : List α) : Ch := .ro sz xs.length fun i => enc (xs.getD i z)
theorem ro_rrow {l : List V} : ∀ B r h s j, Ch.sat B r h j (.rrow l) → r.le s → h.le s → Ch.sat B s PH.emp j (.rrow l) := fun B r h s j ⟨b, o, vs, e1, e2, e4⟩ lr _ =>
  ⟨b, o, vs, e1, V.rels_mono (fun q => Zf_mono lr (fun _ => PH.le_refl _) q) e2, fun i hi => by
    have h1 := e4 i hi
    have h2 : i < vs.length := by have := V.rels_length e2; omega
    rw [List.getElem?_eq_getElem h2] at h1 ⊢
    exact lr _ _ _ h1⟩
theorem ClusOk.home {c : GCluster} (h : ClusOk c) {i : Nat} (hi : i < c.txs.length) : 0 ≤ (c.txs.getD i GTx.z).home ∧ (c.txs.getD i GTx.z).home < c.machines.length := by
  have h1 := (h.tx hi).1.2.1
  have h2 := (h.2.2.2.2 i hi).1
  unfold badTx at h2
  refine ⟨h1.1, ?_⟩
  by_cases c1 : (c.txs.getD i GTx.z).home < c.machines.length
  · exact c1
  · rw [decide_eq_true (show (c.txs.getD i GTx.z).home ≥ (c.machines.length : Int) by omega)] at h2
    simp at h2
end Go.Proofs.YtcikaknfogpeeaaGreat
namespace Go.Proofs.YtcikaknfogpeeaaGreat
open Go Go.RowKit
set_option linter.unusedVariables false
set_option linter.unusedSimpArgs false
section
variable {E : Env} {mu : Mu} {fr : Fr} {R : Exit → Act → World → Prop} {K : List KF}
theorem T_joinA {ι : Type} {c : Code} (u : ι → Fr) (um : ι → Mu) (φ : ι → Prop) (kc kd : List Nat) {fk : Fr} {mk : Mu} (hkf : keepF (modC c []) kc kd fr [] = some fk) (hkm : mdropKs kc mu = some mk)
    (body : T E R c fr mu (.loop (Inv E (fun y => appF (u y) fk) (fun y => appM (um y) mk) φ (fun _ => 0) 1) :: K)) (h : ∀ y, φ y → X E R (nxN K) (appF (u y) fk) (appM (um y) mk)) : T E R c fr mu K := fun B a w H f me => by
  refine wp_mono (body B a w H f me) ?_
  intro e a' w' q
  cases e with
  | normal =>
    obtain ⟨z, z1, z2, B', H', z3, z4⟩ := q
    exact nxN_ok (h z z1 B' a' w' H' z3 z4)
  | exit id => exact q
  | goto l => exact q
  | ret => exact q
  | panic ch => exact q
  | outgrown => exact q
end
section
variable {E : Env} {mu mu' : Mu} {fr fr' : Fr} {gf gf' : GF} {all : List Oper} {G : AG} {Q : Exit → Act → World → Prop}
def View0 (E : Env) (fr : Fr) (gf : GF) (mu : Mu) (fr' : Fr) (gf' : GF) : Prop := ∀ B w H a, FitsE E B H fr gf a → Mem E B mu w H → FitsE E B H fr' gf' a
theorem DJ_v0 {n : Nat} {tk : List Nat} (v : View0 E fr gf mu fr' gf') (h : DJ G E all Q n tk fr' gf' mu) : DJ G E all Q n tk fr gf mu := fun B a w H f m gg => h B a w H (v B w H a f m) m gg
theorem V_pe0 (t : Nat) {k k2 sz n : Nat} {f : Nat → List D} {i : Int} {o : Nat} (ht : mlk t fr = some (.a (.pe k sz i o))) (hg : glk t gf = none) (hk : mlk k mu = some (.hole sz n f i k2)) : View0 E fr gf mu ((t, .a (.p k2 o)) :: fr) gf := fun B w H a ff m => by
  refine ⟨ff.size, ff.defers, fun t' x e1 e2 => ?_, ff.vgf, ff.vgu, fun t' d w x e1 => ?_⟩
  · rw [mlk_cons] at e1
    by_cases h : t = t'
    · subst h
      rw [if_pos rfl] at e1
      injection e1 with e1
      subst e1
      obtain ⟨h1, h2⟩ := (show _ = elP (B k) sz i o ∧ _ from ff.vfr t _ ht e2)
      obtain ⟨A, c, g1, _, _, _, g5, _⟩ := m.mm.sat k _ hk
      refine ⟨?_, h2⟩
      rw [h1, g5, g1]; exact elP_addP
    · rw [if_neg h] at e1; exact ff.vfr t' x e1 e2
  · rw [mlk_cons]
    by_cases h : t = t'
    · subst h
      have := ff.vno t d w x e1
      rw [ht] at this; cases this
    · rw [if_neg h]; exact ff.vno t' d w x e1
end
end Go.Proofs.YtcikaknfogpeeaaGreat
namespace Go.Proofs.YtcikaknfogpeeaaGreat
open Go Go.RowKit
set_option linter.unusedVariables false
set_option linter.unusedSimpArgs false
set_option maxRecDepth 4000
theorem cut_ex {α : Type} {c : α → Int} {z : α} {xs : List α} (h : rising c z xs) : ∃ i, cutAt c z xs i := by
  have key : ∀ k, k ≤ xs.length → (∃ i, cutAt c z xs i) ∨ ∀ a, a < k → c (xs.getD a z) < 0 := fun k => by
    induction k with
    | zero => exact fun _ => .inr fun a ha => absurd ha (Nat.not_lt_zero _)
    | succ k ih =>
      intro hk
      rcases ih (by omega) with h1 | h1
      · exact .inl h1
      · by_cases h2 : c (xs.getD k z) < 0
        · exact .inr fun a ha => by
            by_cases e : a = k
            · subst e; exact h2
            · exact h1 a (by omega)
        · exact .inl ⟨k, by omega, h1, fun a a1 a2 a3 => h2 (h k a a1 a2 a3)⟩
  rcases key xs.length (Nat.le_refl _) with h1 | h1
  · exact h1
  · exact ⟨xs.length, Nat.le_refl _, h1, fun a a1 a2 => by omega⟩
theorem posA_cut {α : Type} {c : α → Int} {z : α} {xs : List α} (h : rising c z xs) : cutAt c z xs (posA c z xs) := by
  obtain ⟨i, hi⟩ := cut_ex h
  rw [posA_eq hi]; exact hi
section
variable {α : Type} {reg slot : α → Int} {z x : α} {xs : List α}
theorem mem_insL {p : Nat} {y : α} : y ∈ insL p x xs ↔ y = x ∨ y ∈ xs := by
  unfold insL
  rw [List.mem_append, List.mem_cons]
  constructor
  · rintro (h | h | h)
    · exact .inr (List.mem_of_mem_take h)
    · exact .inl h
    · exact .inr (List.mem_of_mem_drop h)
  · rintro (h | h)
    · exact .inr (.inl h)
    · rw [← List.take_append_drop p xs, List.mem_append] at h
      rcases h with h | h
      · exact .inl h
      · exact .inr (.inr h)
theorem pair_get {R : α → α → Prop} (h : xs.Pairwise R) {a b : Nat} (hab : a < b) (hb : b < xs.length) : R (xs.getD a z) (xs.getD b z) := by
  have := List.pairwise_iff_getElem.1 h a b (by omega) hb hab
  simpa [hb, show a < xs.length by omega] using this
end
theorem pair_of {α : Type} {R : α → α → Prop} {z : α} : ∀ {xs : List α}, (∀ a b, a < b → b < xs.length → R (xs.getD a z) (xs.getD b z)) → xs.Pairwise R := fun {xs} h => by
  rw [List.pairwise_iff_getElem]
  intro i j hi hj hij
  have := h i j hij hj
  simpa [hi, hj] using this
theorem getD_mem {α : Type} {z : α} {xs : List α} {i : Nat} (h : i < xs.length) : xs.getD i z ∈ xs := by simp [h]
theorem setsOk_iff {xs : List GSet} : setsOk xs xs.length ↔ (∀ n ∈ xs, setB n = true) ∧ xs.Pairwise lessS := by
  constructor
  · intro h
    refine ⟨fun n hn => ?_, pair_of (z := GSet.z) (sortedS_of h)⟩
    obtain ⟨i, hi, rfl⟩ := List.mem_iff_getElem.1 hn
    simpa [hi] using (h i hi).1
  · rintro ⟨h1, h2⟩ j hj
    exact ⟨h1 _ (getD_mem hj), fun h0 => pair_get (z := GSet.z) h2 (by omega) hj⟩
theorem set_get {α : Type} {z y : α} {xs : List α} {p : Nat} (hp : p < xs.length) (i : Nat) : (xs.set p y).getD i z = if i = p then y else xs.getD i z := by
  by_cases c : i = p
  · subst c; rw [if_pos rfl]; simp [hp]
  · rw [if_neg c]; simp [List.getElem?_set_ne (Ne.symm c)]
theorem setB_iff {x : GSet} : setB x = true ↔ (0 ≤ x.region ∧ x.region ≤ 5) ∧ (0 ≤ x.slot ∧ x.slot ≤ 5) ∧ (-1000000000 ≤ x.value ∧ x.value ≤ 1000000000) ∧ (0 ≤ x.version ∧ x.version ≤ 999999) := by
  rw [← inB_iff, ← inB_iff, ← inB_iff, ← inB_iff]
  unfold setB
  cases inB x.region 0 5 <;> cases inB x.slot 0 5 <;> cases inB x.value (-1000000000) 1000000000 <;> cases inB x.version 0 999999 <;> simp
end Go.Proofs.YtcikaknfogpeeaaGreat
namespace Go.Proofs.YtcikaknfogpeeaaGreat
open Go Go.RowKit
set_option linter.unusedVariables false
set_option linter.unusedSimpArgs false
set_option maxRecDepth 4000
theorem an1 {h : Int} (k : headB h = true) : anI h 1 = h / 2 * 2 := by
  obtain ⟨h1, h2⟩ := headB_iff.1 k
  obtain ⟨a, rfl⟩ := Int.eq_ofNat_of_zero_le h1
  unfold anI
  have e1 : (BitVec.ofInt 64 (a : Int)) = BitVec.ofNat 64 a := by simp
  have e2 : (BitVec.ofInt 64 1) = BitVec.ofNat 64 1 := by decide
  have e3 : (BitVec.ofNat 64 a &&& ~~~BitVec.ofNat 64 1).toNat = a &&& 18446744073709551614 := by
    rw [BitVec.toNat_and, BitVec.toNat_not, BitVec.toNat_ofNat, BitVec.toNat_ofNat, Nat.mod_eq_of_lt (by omega)]
  have e4 : a &&& 18446744073709551614 = a / 2 * 2 := by
    have g1 : (a &&& 18446744073709551614) / 2 = a / 2 := by
      rw [Nat.and_div_two, show 18446744073709551614 / 2 = 2 ^ 63 - 1 by decide, Nat.and_two_pow_sub_one_eq_mod]
      omega
    have g2 : ¬ (a &&& 18446744073709551614) % 2 = 1 := fun h => by have := (Nat.and_mod_two_eq_one.1 h).2; omega
    omega
  rw [e1, e2, e3, e4]
  rw [IntWalk.i64_in _ (by omega)]
  omega
abbrev rowM (m : GMachine) (k1 k2 k3 : Nat) : List V := [.v (.bool m.alive), .g k1, .g k2, .g k3]
abbrev copyI (m : GMachine) (r : Int) : Int := idxI (atB r) m.copies
abbrev rowY (m : GMachine) (r : Int) (k : Nat) : List V := [.v (.int .i64 (m.copies.getD (copyI m r).toNat GCopy.z).region), .g k]
theorem cells_k (m : GMachine) (hl : m.copies.length ≤ 1048576) (r0 : Int) (hh : hasB m r0 = true) :
    Con Tryz.prog 77 [900, 901] [.a (.p 900 0), vI r0] [(900, .rrow (rowM m 901 902 903)), (901, arrC 2 cCopy GCopy.z m.copies)] (fun _ : Unit => True) (fun _ => [.a (.g 905)])
      fun _ => [(901, .hole 2 m.copies.length (fun i => cCopy (m.copies.getD i GCopy.z)) (copyI m r0) 904), (904, .row (rowY m r0 905)), (905, arrC 2 cCell GCell.z (cellsOf m r0))] := by
  obtain ⟨i0, hi0, hb, ha⟩ := hasB_get hh
  have hI : copyI m r0 = i0 := idxI_at (z := GCopy.z) hi0 hb ha
  have hC : cellsOf m r0 = (m.copies.getD i0 GCopy.z).cells := by rw [cellsOf_has hh]; show (m.copies.getD (copyI m r0).toNat GCopy.z).cells = _; rw [hI]; rfl
  unfold rowY
  rw [hI, hC]
  refine con_enter Tryz.func77 rfl rfl rfl fun B0 r_ D_ w0 => ?_
  refine T_auto TT_ok rfl ?_
  refine T_loopA (ι := Nat) (fun i => [(12, vI i)]) (fun _ => [(901, arrC 2 cCopy GCopy.z m.copies)]) (fun i => i ≤ i0) (fun i => i0 - i) 0 [901] [] rfl rfl (Nat.zero_le _) (by repeat (first | exact trivial | refine And.intro ⟨_, rfl, SV.imp_refl _⟩ ?_)) (by repeat (first | exact trivial | refine And.intro ⟨_, rfl, Ch.imp_refl _⟩ ?_)) ?_
  intro i h1
  have hi : i < m.copies.length := by omega
  refine T_auto TT_ok rfl ?_
  refine T_condD rfl (fun e => ?_) (fun e => absurd (by omega : (i : Int) < m.copies.length) e)
  refine T_view (V_carve 901 i 904 rfl rfl rfl rfl rfl rfl ⟨by omega, by omega⟩) ?_
  refine T_view (V_open 904 1 905 rfl rfl rfl rfl rfl rfl) ?_
  refine T_auto TT_ok rfl ?_
  refine RJ_view (V_pe 14 rfl rfl rfl) ?_
  refine RJ_auto TT_ok rfl ?_
  refine T_cond rfl (fun e2 => ?_) (fun e2 => ?_)
  · have hii : i = i0 := by
      rcases Nat.lt_or_ge i i0 with h | h
      · have := (hb i h).symm.trans e2; cases this
      · omega
    subst hii
    refine T_auto TT_ok rfl ?_
    refine T_ret TT_ok (()) [(4, none)] rfl rfl ?_ ?_ ?_
    · exact SVs.imp_refl _
    · exact ⟨⟨_, rfl, Ch.imp_refl _⟩, ⟨_, rfl, Ch.imp_refl _⟩, ⟨_, rfl, Ch.imp_refl _⟩, trivial⟩
    · trivial
  · have hlt : i < i0 := by
      rcases Nat.lt_or_ge i i0 with h | h
      · exact h
      · have : i = i0 := by omega
        subst this
        have := ha.symm.trans e2; cases this
    refine T_auto TT_ok rfl ?_
    refine X_view (V_fold 904 1 905 rfl rfl rfl rfl rfl rfl rfl) ?_
    refine X_view (V_uncarve 901 904 rfl rfl rfl rfl rfl rfl rfl) ?_
    exact X_inv (i + 1) hlt (by omega) (by repeat (first | exact trivial | refine And.intro ⟨_, rfl, SV.imp_refl _⟩ ?_)) ⟨⟨_, rfl, Ch.imp_arr fun j hj => by
      by_cases c : j = i
      · subst c; rw [show Nat.beq j ((j : Int)).toNat = true from Nat.beq_refl j]; rfl
      · rw [show Nat.beq j ((i : Int)).toNat = false from by cases e : Nat.beq j ((i : Int)).toNat with
          | false => rfl
          | true => exact absurd (Nat.eq_of_beq_eq_true e) c]
        rfl⟩, (by repeat (first | exact trivial | refine And.intro ⟨_, rfl, Ch.imp_refl _⟩ ?_))⟩
end Go.Proofs.YtcikaknfogpeeaaGreat
namespace Go.Proofs.YtcikaknfogpeeaaGreat
open Go Go.RowKit
set_option linter.unusedVariables false
set_option linter.unusedSimpArgs false
theorem range_getD {n i : Nat} (h : i < n) : (List.range n).getD i 0 = i := by simp [h]
section
variable {P : Program}
theorem owns_flat {h : PH} {l vs : List Value} (e : D.owns h (l.map D.v) vs) : vs = l := flat_rds (D.owns_rds _ e)
theorem fb_raw {n : Nat} {g : Nat → List D} {row : Nat → List Value} {q : Nat → Value} {B : BE} {Z Z' : Tg → PH} {y : Value} (hr : (Z .r).le (Z' .r)) (hrow : ∀ i, i < n → D.rds (Z' .r) (g i) (row i))
    (h : SV.rel P B Z (fbP (fun i : Nat => i < n) (fun i => [RD.ag (g i)]) q) y) : SV.rel P B Z' (fbP (fun i : Nat => i < n) (fun i => [RD.ag ((row i).map D.v)]) q) y := by
  obtain ⟨f, vs, e, F⟩ := h
  refine ⟨f, vs, e, F.1, fun args x hx w h vals l fh rv => ?_⟩
  obtain ⟨i, hi, rfl, rfl⟩ := hx
  refine F.2 [RD.ag (g i)] _ ⟨i, hi, rfl, rfl⟩ w h vals (PH.le_trans hr l) fh ?_
  obtain ⟨y, t, rfl, ⟨us, rfl, hu⟩, rfl⟩ := rv
  have := flat_rds hu
  subst this
  exact ⟨_, _, rfl, ⟨_, rfl, D.rds_mono l _ (hrow i hi)⟩, rfl⟩
theorem Con.lift1 {ι : Type} {f sz n k ko : Nat} {g : Nat → List D} {ks : List Nat} {args : List SV} {args' : (Nat → List Value) → List SV} {φ : ι → Prop} {res : ι → List SV} {m : ι → Nat} {σ : ι → Nat → Nat}
    (h1 : ∀ i, i < n → oneDs (g i) = true) (hσ : ∀ y, φ y → ∀ j, j < m y → σ y j < n) (hin : ∀ y, φ y → ∀ i j, i < m y → j < m y → i ≠ j → σ y i ≠ σ y j)
    (hA : ∀ (B : BE) (r r' : PH) (H H' : Nat → PH) (vals : List Value) (row : Nat → List Value), r.le r' → (∀ i, i < n → D.rds r' (g i) (row i)) → SV.rels P B (Zf r H) args vals → SV.rels P B (Zf r' H') (args' row) vals)
    (hR : ∀ y (B : BE) (r r' : PH) (H H' : Nat → PH) (out : List Value), SV.rels P B (Zf r H) (res y) out → SV.rels P B (Zf r' H') (res y) out)
    (C : ∀ row : Nat → List Value, (∀ i, i < n → (row i).length = sz) → (∀ i, i < n → ∀ u ∈ row i, oneV u = true) → (∃ hh, ∀ i, i < n → D.rds hh (g i) (row i)) → Con P f ks (args' row) [(k, .arr sz n fun i => (row i).map D.v)] φ res fun y => [(ko, .arr sz (m y) fun j => (row (σ y j)).map D.v)]) :
    Con P f ks args [(k, .arr sz n g)] φ res fun y => [(ko, .arr sz (m y) fun j => g (σ y j))] := fun B r w H vals mm hemp hargs => by
  have kk : ∀ c : Ch, c.own? = true → hasK k (keysO [(k, c)]) = true := fun c hc => by simp [keysO, hc, hasK, Nat.beq_refl]
  have kn : ∀ (c : Ch) j, c.own? = true → hasK j (keysO [(k, c)]) = true → j = k := fun c j hc h => by
    simp only [keysO, hc, cond_true] at h
    rw [hasK_cons] at h
    rcases h with h | h
    · exact h.symm
    · cases h
  have s0 : D.own (H k) (.sl sz n g) (B k) := mm.sat k (.arr sz n g) (by rw [mlk_cons, if_pos rfl])
  obtain ⟨A, c, row, hc, hp, G, e1, e2, va, lc, lp, dcp, ho, hG, hd⟩ := own_VA s0
  have drp : r.dj hp := PH.dj_symm (PH.dj_le (mm.djr k) lp (PH.le_refl _))
  have ro := PH.le_un_left r hp
  have rp := PH.le_un_right drp
  have hrow : ∀ i, i < n → D.rds (r.un hp) (g i) (row i) := fun i hi => D.rds_mono (PH.le_trans (hG i) rp) _ (D.owns_rds _ (ho i hi).1)
  let H1 : Nat → PH := fun j => if j = k then hc else PH.emp
  have hk1 : H1 k = hc := by simp [H1]
  have hne : ∀ j, j ≠ k → H1 j = PH.emp := fun j hj => by simp [H1, hj]
  have mm1 : Mm B (r.un hp) [(k, .arr sz n fun i => (row i).map D.v)] w H1 := by
    refine ⟨fun j d e => ?_, fun j => ?_, fun i j hij => ?_, fun j => ?_, Fit.un mm.fitr ((mm.fit k).fit.le lp)⟩
    · rw [mlk_cons] at e
      by_cases hj : k = j
      · subst hj
        rw [if_pos rfl] at e; injection e with e; subst e
        rw [hk1]
        show D.own hc _ (B k)
        rw [e1]
        exact VA_own (hp := PH.emp) (G := fun _ => PH.emp) va e2 (PH.le_refl _) (PH.emp_le _) (PH.dj_emp _) (fun i _ => flat_owns) (fun _ _ => PH.le_refl _) fun _ _ _ _ _ => PH.emp_dj _
      · rw [if_neg hj] at e; cases e
    · by_cases hj : j = k
      · subst hj; rw [hk1]; exact (mm.fit j).le lc
      · rw [hne j hj]; exact FitO.emp w
    · by_cases hi : i = k
      · rw [hne j fun e => hij (hi.trans e.symm)]; exact PH.dj_emp _
      · rw [hne i hi]; exact PH.emp_dj _
    · by_cases hj : j = k
      · subst hj; rw [hk1]; exact PH.dj_un (PH.dj_le (mm.djr j) lc (PH.le_refl _)) dcp
      · rw [hne j hj]; exact PH.emp_dj _
  have own1 : ∀ b o, ownD [(k, .arr sz n fun i => (row i).map D.v)] H1 b o → hc b o ≠ none := fun b o ⟨j, g1, g2⟩ => by
    have := kn _ j rfl g1
    subst this
    rwa [hk1] at g2
  have own0 : ∀ b o, H k b o ≠ none → ownD [(k, .arr sz n g)] H b o := fun b o h => ⟨k, kk _ rfl, h⟩
  refine (C row (fun i hi => (ho i hi).2) (fun i hi => owns_one (ho i hi).1 (oneDs_ok (h1 i hi))) ⟨_, hrow⟩ B (r.un hp) w H1 vals mm1 (fun j hj => hne j fun e => by subst e; rw [kk _ rfl] at hj; cases hj) (hA B r _ H H1 vals row ro hrow hargs)).mono ?_
  rintro e w' ⟨y, B', H', out, hy, he, hres, mm2, hB, hkeep, hdom⟩
  have s2 : D.own (H' ko) (.sl sz (m y) fun j => (row (σ y j)).map D.v) (B' ko) := mm2.sat ko (.arr sz (m y) fun j => (row (σ y j)).map D.v) (by rw [mlk_cons, if_pos rfl])
  obtain ⟨A2, c2, row2, hc2, hp2, G2, f1, f2, va2, lc2, lp2, dcp2, ho2, hG2, hd2⟩ := own_VA s2
  have heq : ∀ j, j < m y → row2 j = row (σ y j) := fun j hj => owns_flat (ho2 j hj).1
  have dk : (H' ko).dj hp := PH.dj_le (mm2.djr ko) (PH.le_refl _) rp
  let H3 : Nat → PH := fun j => if j = ko then (H' ko).un hp else PH.emp
  have h3 : H3 ko = (H' ko).un hp := by simp [H3]
  have h3n : ∀ j, j ≠ ko → H3 j = PH.emp := fun j hj => by simp [H3, hj]
  have fitp : FitO hp w' := ((mm.fit k).le lp).keep hkeep fun b o h hD => by
    have h1 := own1 b o hD
    rcases dcp b o with h2 | h2
    · exact h1 h2
    · exact h h2
  refine ⟨y, B', H3, out, hy, he, hR y B' _ _ H' H3 out hres, ⟨fun j d e => ?_, fun j => ?_, fun i j hij => ?_, fun j => ?_, mm2.fitr.le ro⟩, hB, hkeep.mono fun b _ o h => own0 b o (PH.le_ne lc (own1 b o h)), fun j b o h => ?_⟩
  · rw [mlk_cons] at e
    by_cases hj : ko = j
    · subst hj
      rw [if_pos rfl] at e; injection e with e; subst e
      rw [h3]
      show D.own _ _ (B' ko)
      rw [f1]
      refine VA_own (hc := hc2) (hp := hp) (G := fun j => G (σ y j)) (row := row2) va2 f2 (PH.le_trans lc2 (PH.le_un_left _ _)) (PH.le_un_right dk) (PH.dj_le dk lc2 (PH.le_refl _)) (fun j hj => ?_) (fun j _ => hG _) fun i j hi hj hij => hd _ _ (hin y hy i j hi hj hij)
      rw [heq j hj]; exact (ho _ (hσ y hy j hj)).1
    · rw [if_neg hj] at e; cases e
  · by_cases hj : j = ko
    · subst hj; rw [h3]; exact (mm2.fit j).un fitp
    · rw [h3n j hj]; exact FitO.emp w'
  · by_cases hi : i = ko
    · rw [h3n j fun e => hij (hi.trans e.symm)]; exact PH.dj_emp _
    · rw [h3n i hi]; exact PH.emp_dj _
  · by_cases hj : j = ko
    · subst hj; rw [h3]; exact PH.un_dj (PH.dj_le (mm2.djr j) (PH.le_refl _) ro) (PH.dj_symm drp)
    · rw [h3n j hj]; exact PH.emp_dj _
  · by_cases hj : j = ko
    · subst hj
      rw [h3] at h
      rcases PH.un_ne h with h1 | h1
      · rcases hdom j b o h1 with h2 | h2
        · exact .inl (own0 b o (PH.le_ne lc (own1 b o h2)))
        · exact .inr h2
      · exact .inl (own0 b o (PH.le_ne lp h1))
    · rw [h3n j hj] at h; exact absurd rfl h
def pickR {α : Type} (a b : Nat → α) (x : Bool × Nat) : α := bif x.1 then a x.2 else b x.2
theorem Con.lift2 {ι : Type} {f sz n1 n2 k1 k2 ko : Nat} {g1 g2 : Nat → List D} {ks : List Nat} {args : List SV} {φ : ι → Prop} {res : ι → List SV} {m : ι → Nat} {ρ : ι → Nat → Bool × Nat} (hk : k1 ≠ k2) (hw1 : ∀ i, i < n1 → oneDs (g1 i) = true) (hw2 : ∀ i, i < n2 → oneDs (g2 i) = true)
    (hσ : ∀ y, φ y → ∀ j, j < m y → (ρ y j).2 < bif (ρ y j).1 then n1 else n2) (hin : ∀ y, φ y → ∀ i j, i < m y → j < m y → i ≠ j → ρ y i ≠ ρ y j)
    (hA : ∀ (B : BE) (r r' : PH) (H H' : Nat → PH) (vals : List Value), r.le r' → SV.rels P B (Zf r H) args vals → SV.rels P B (Zf r' H') args vals)
    (hR : ∀ y (B : BE) (r r' : PH) (H H' : Nat → PH) (out : List Value), SV.rels P B (Zf r H) (res y) out → SV.rels P B (Zf r' H') (res y) out)
    (C : ∀ row1 row2 : Nat → List Value, (∀ i, i < n1 → (row1 i).length = sz) → (∀ i, i < n2 → (row2 i).length = sz) → (∀ i, i < n1 → ∀ u ∈ row1 i, oneV u = true) → (∀ i, i < n2 → ∀ u ∈ row2 i, oneV u = true) → Con P f ks args [(k1, .arr sz n1 fun i => (row1 i).map D.v), (k2, .arr sz n2 fun i => (row2 i).map D.v)] φ res fun y => [(ko, .arr sz (m y) fun j => (pickR row1 row2 (ρ y j)).map D.v)]) :
    Con P f ks args [(k1, .arr sz n1 g1), (k2, .arr sz n2 g2)] φ res fun y => [(ko, .arr sz (m y) fun j => pickR g1 g2 (ρ y j))] := fun B r w H vals mm hemp hargs => by
  have kk : ∀ c d : Ch, c.own? = true → d.own? = true → ∀ j, hasK j (keysO [(k1, c), (k2, d)]) = true ↔ j = k1 ∨ j = k2 := fun c d hc hd j => by
    simp only [keysO, hc, hd, cond_true]
    rw [hasK_cons, hasK_cons]
    constructor
    · rintro (h | h | h)
      · exact .inl h.symm
      · exact .inr h.symm
      · cases h
    · rintro (h | h)
      · exact .inl h.symm
      · exact .inr (.inl h.symm)
  have s1 : D.own (H k1) (.sl sz n1 g1) (B k1) := mm.sat k1 (.arr sz n1 g1) (by rw [mlk_cons, if_pos rfl])
  have s2 : D.own (H k2) (.sl sz n2 g2) (B k2) := mm.sat k2 (.arr sz n2 g2) (by rw [mlk_cons, if_neg hk, mlk_cons, if_pos rfl])
  obtain ⟨A1, c1, row1, hc1, hp1, G1, e1, e1b, va1, lc1, lp1, dcp1, ho1, hG1, hd1⟩ := own_VA s1
  obtain ⟨A2, c2, row2, hc2, hp2, G2, e2, e2b, va2, lc2, lp2, dcp2, ho2, hG2, hd2⟩ := own_VA s2
  have d12 : (H k1).dj (H k2) := mm.dj _ _ hk
  have dpp : hp1.dj hp2 := PH.dj_le d12 lp1 lp2
  have drp1 : r.dj hp1 := PH.dj_symm (PH.dj_le (mm.djr k1) lp1 (PH.le_refl _))
  have drp2 : r.dj hp2 := PH.dj_symm (PH.dj_le (mm.djr k2) lp2 (PH.le_refl _))
  have drp : r.dj (hp1.un hp2) := PH.dj_un drp1 drp2
  have ro := PH.le_un_left r (hp1.un hp2)
  have rp := PH.le_un_right drp
  have pl1 := PH.le_un_left hp1 hp2
  have pl2 := PH.le_un_right dpp
  let H1 : Nat → PH := fun j => if j = k1 then hc1 else if j = k2 then hc2 else PH.emp
  have hk1 : H1 k1 = hc1 := by simp [H1]
  have hk2 : H1 k2 = hc2 := by simp [H1, Ne.symm hk]
  have hne : ∀ j, j ≠ k1 → j ≠ k2 → H1 j = PH.emp := fun j hj hj2 => by simp [H1, hj, hj2]
  have hle : ∀ j, (H1 j).le (H j) := fun j => by
    by_cases h : j = k1
    · subst h; rw [hk1]; exact lc1
    · by_cases h2 : j = k2
      · subst h2; rw [hk2]; exact lc2
      · rw [hne j h h2]; exact PH.emp_le _
  have mm1 : Mm B (r.un (hp1.un hp2)) [(k1, .arr sz n1 fun i => (row1 i).map D.v), (k2, .arr sz n2 fun i => (row2 i).map D.v)] w H1 := by
    refine ⟨fun j d e => ?_, fun j => (mm.fit j).le (hle j), fun i j hij => PH.dj_le (mm.dj i j hij) (hle i) (hle j), fun j => ?_, Fit.un mm.fitr (Fit.un ((mm.fit k1).fit.le lp1) ((mm.fit k2).fit.le lp2))⟩
    · rw [mlk_cons] at e
      by_cases hj : k1 = j
      · subst hj
        rw [if_pos rfl] at e; injection e with e; subst e
        rw [hk1]
        show D.own hc1 _ (B k1)
        rw [e1]
        exact VA_own (hp := PH.emp) (G := fun _ => PH.emp) va1 e1b (PH.le_refl _) (PH.emp_le _) (PH.dj_emp _) (fun i _ => flat_owns) (fun _ _ => PH.le_refl _) fun _ _ _ _ _ => PH.emp_dj _
      · rw [if_neg hj, mlk_cons] at e
        by_cases hj2 : k2 = j
        · subst hj2
          rw [if_pos rfl] at e; injection e with e; subst e
          rw [hk2]
          show D.own hc2 _ (B k2)
          rw [e2]
          exact VA_own (hp := PH.emp) (G := fun _ => PH.emp) va2 e2b (PH.le_refl _) (PH.emp_le _) (PH.dj_emp _) (fun i _ => flat_owns) (fun _ _ => PH.le_refl _) fun _ _ _ _ _ => PH.emp_dj _
        · rw [if_neg hj2] at e; cases e
    · refine PH.dj_un (PH.dj_le (mm.djr j) (hle j) (PH.le_refl _)) (PH.dj_un ?_ ?_)
      · by_cases h : j = k1
        · subst h; rw [hk1]; exact dcp1
        · exact PH.dj_le (mm.dj j k1 h) (hle j) lp1
      · by_cases h : j = k2
        · subst h; rw [hk2]; exact dcp2
        · exact PH.dj_le (mm.dj j k2 h) (hle j) lp2
  have own0 : ∀ j b o, j = k1 ∨ j = k2 → H j b o ≠ none → ownD [(k1, .arr sz n1 g1), (k2, .arr sz n2 g2)] H b o := fun j b o hj h => ⟨j, (kk _ _ rfl rfl j).2 hj, h⟩
  have own1 : ∀ b o, ownD [(k1, .arr sz n1 fun i => (row1 i).map D.v), (k2, .arr sz n2 fun i => (row2 i).map D.v)] H1 b o → ∃ j, (j = k1 ∨ j = k2) ∧ H1 j b o ≠ none := fun b o ⟨j, h1, h2⟩ => ⟨j, (kk _ _ rfl rfl j).1 h1, h2⟩
  refine (C row1 row2 (fun i hi => (ho1 i hi).2) (fun i hi => (ho2 i hi).2) (fun i hi => owns_one (ho1 i hi).1 (oneDs_ok (hw1 i hi))) (fun i hi => owns_one (ho2 i hi).1 (oneDs_ok (hw2 i hi))) B _ w H1 vals mm1 (fun j hj => hne j (fun e => by rw [(kk _ _ rfl rfl j).2 (.inl e)] at hj; cases hj) fun e => by rw [(kk _ _ rfl rfl j).2 (.inr e)] at hj; cases hj) (hA B r _ H H1 vals ro hargs)).mono ?_
  rintro e w' ⟨y, B', H', out, hy, he, hres, mm2, hB, hkeep, hdom⟩
  have s2 : D.own (H' ko) (.sl sz (m y) fun j => (pickR row1 row2 (ρ y j)).map D.v) (B' ko) := mm2.sat ko (.arr sz (m y) fun j => (pickR row1 row2 (ρ y j)).map D.v) (by rw [mlk_cons, if_pos rfl])
  obtain ⟨A3, c3, row3, hc3, hp3, G3, f1, f2, va3, lc3, lp3, dcp3, ho3, hG3, hd3⟩ := own_VA s2
  have heq : ∀ j, j < m y → row3 j = pickR row1 row2 (ρ y j) := fun j hj => owns_flat (ho3 j hj).1
  have dk : (H' ko).dj (hp1.un hp2) := PH.dj_le (mm2.djr ko) (PH.le_refl _) rp
  let H3 : Nat → PH := fun j => if j = ko then (H' ko).un (hp1.un hp2) else PH.emp
  have h3 : H3 ko = (H' ko).un (hp1.un hp2) := by simp [H3]
  have h3n : ∀ j, j ≠ ko → H3 j = PH.emp := fun j hj => by simp [H3, hj]
  have apart : ∀ b o, (hp1.un hp2) b o ≠ none → ¬ ownD [(k1, .arr sz n1 fun i => (row1 i).map D.v), (k2, .arr sz n2 fun i => (row2 i).map D.v)] H1 b o := fun b o h hD => by
    obtain ⟨j, hj, h2⟩ := own1 b o hD
    have h4 := mm1.djr j b o
    rcases h4 with h4 | h4
    · exact h2 h4
    · exact PH.le_ne rp h h4
  have fitp : FitO (hp1.un hp2) w' := (((mm.fit k1).le lp1).un ((mm.fit k2).le lp2)).keep hkeep apart
  have up : ∀ b o, ownD [(k1, .arr sz n1 fun i => (row1 i).map D.v), (k2, .arr sz n2 fun i => (row2 i).map D.v)] H1 b o → ownD [(k1, .arr sz n1 g1), (k2, .arr sz n2 g2)] H b o := fun b o h => by
    obtain ⟨j, hj, h2⟩ := own1 b o h
    exact own0 j b o hj (PH.le_ne (hle j) h2)
  refine ⟨y, B', H3, out, hy, he, hR y B' _ _ H' H3 out hres, ⟨fun j d e => ?_, fun j => ?_, fun i j hij => ?_, fun j => ?_, mm2.fitr.le ro⟩, hB, hkeep.mono fun b _ o h => up b o h, fun j b o h => ?_⟩
  · rw [mlk_cons] at e
    by_cases hj : ko = j
    · subst hj
      rw [if_pos rfl] at e; injection e with e; subst e
      rw [h3]
      show D.own _ _ (B' ko)
      rw [f1]
      refine VA_own (hc := hc3) (hp := hp1.un hp2) (G := fun j => pickR G1 G2 (ρ y j)) (row := row3) va3 f2 (PH.le_trans lc3 (PH.le_un_left _ _)) (PH.le_un_right dk) (PH.dj_le dk lc3 (PH.le_refl _)) (fun j hj => ?_) (fun j _ => ?_) fun i j hi hj hij => ?_
      · rw [heq j hj]
        have h4 := hσ y hy j hj
        generalize ρ y j = x at h4
        obtain ⟨b, a⟩ := x
        cases b with
        | true => exact (ho1 a h4).1
        | false => exact (ho2 a h4).1
      · generalize ρ y j = x
        obtain ⟨b, a⟩ := x
        cases b with
        | true => exact PH.le_trans (hG1 a) pl1
        | false => exact PH.le_trans (hG2 a) pl2
      · have h4 := hin y hy i j hi hj hij
        generalize ρ y i = x at h4
        generalize ρ y j = z at h4
        obtain ⟨b, a⟩ := x
        obtain ⟨b2, a2⟩ := z
        cases b with
        | true =>
          cases b2 with
          | true => exact hd1 a a2 fun e => h4 (by rw [e])
          | false => exact PH.dj_le dpp (hG1 a) (hG2 a2)
        | false =>
          cases b2 with
          | true => exact PH.dj_symm (PH.dj_le dpp (hG1 a2) (hG2 a))
          | false => exact hd2 a a2 fun e => h4 (by rw [e])
    · rw [if_neg hj] at e; cases e
  · by_cases hj : j = ko
    · subst hj; rw [h3]; exact (mm2.fit j).un fitp
    · rw [h3n j hj]; exact FitO.emp w'
  · by_cases hi : i = ko
    · rw [h3n j fun e => hij (hi.trans e.symm)]; exact PH.dj_emp _
    · rw [h3n i hi]; exact PH.emp_dj _
  · by_cases hj : j = ko
    · subst hj; rw [h3]; exact PH.un_dj (PH.dj_le (mm2.djr j) (PH.le_refl _) ro) (PH.dj_symm drp)
    · rw [h3n j hj]; exact PH.emp_dj _
  · by_cases hj : j = ko
    · subst hj
      rw [h3] at h
      rcases PH.un_ne h with h1 | h1
      · rcases hdom j b o h1 with h2 | h2
        · exact .inl (up b o h2)
        · exact .inr h2
      · rcases PH.un_ne h1 with h2 | h2
        · exact .inl (own0 k1 b o (.inl rfl) (PH.le_ne lp1 h2))
        · exact .inl (own0 k2 b o (.inr rfl) (PH.le_ne lp2 h2))
    · rw [h3n j hj] at h; exact absurd rfl h
theorem Con.inM {ι : Type} {f : Nat} {ks : List Nat} {args : List SV} {mu0 mu : Mu} {φ : ι → Prop} {res : ι → List SV} {mu' : ι → Mu} (C : Con P f ks args mu φ res mu') (hk : keysO mu0 = keysO mu) (h : WkMu mu0 mu) : Con P f ks args mu0 φ res mu' := fun B r w H vals m he ha => by
  have ho : ownD mu0 H = ownD mu H := by unfold ownD; rw [hk]
  have := C B r w H vals (m.wk h) (fun k e => he k (by rw [hk]; exact e)) ha
  rw [← ho] at this
  exact this
def pickO {α : Type} (a : Nat → α) (x : α) : Option Nat → α
  | some i => a i
  | none => x
end
end Go.Proofs.YtcikaknfogpeeaaGreat
namespace Go.Proofs.YtcikaknfogpeeaaGreat
open Go Go.RowKit
set_option linter.unusedVariables false
set_option linter.unusedSimpArgs false
set_option maxRecDepth 4000
theorem flat_map : ∀ {l : List Value}, (∀ u ∈ l, oneV u = true) → ∃ m, flatDs (l.map D.v) = some m
  | [], _ => ⟨_, rfl⟩
  | x :: r, h => by
    obtain ⟨m, e⟩ := flat_map fun u hu => h u (List.mem_cons_of_mem _ hu)
    exact ⟨x :: m, by rw [List.map_cons]; unfold flatDs; rw [e, h x List.mem_cons_self]; rfl⟩
def nI (v : Value) : Int := match v with | .int _ x => x | _ => 0
def slA (v : Value) := match v with | .slice A _ _ => A | _ => none
def slN (v : Value) : Nat := match v with | .slice _ n _ => n | _ => 0
def slC (v : Value) : Nat := match v with | .slice _ _ c => c | _ => 0
abbrev raw4 (f : Nat → Nat → Value) (i : Nat) : List D := [.v (.int .i64 (nI (f i 0))), .v (.int .i64 (nI (f i 1))), .v (.int .i64 (nI (f i 2))), .v (.slice (slA (f i 3)) (slN (f i 3)) (slC (f i 3)))]
theorem row_raw {h : PH} {x : GRecord} {l : List Value} (e : D.rds h (cRecord x) l) : l.map D.v = [.v (.int .i64 (nI (l.getD 0 undef))), .v (.int .i64 (nI (l.getD 1 undef))), .v (.int .i64 (nI (l.getD 2 undef))), .v (.slice (slA (l.getD 3 undef)) (slN (l.getD 3 undef)) (slC (l.getD 3 undef)))] := by
  obtain ⟨y1, t1, rfl, e1, y2, t2, rfl, e2, y3, t3, rfl, e3, y4, t4, rfl, ⟨A, c, e4, _⟩, e5⟩ := e
  have e1 : y1 = .int .i64 x.kind := e1
  have e2 : y2 = .int .i64 x.tx := e2
  have e3 : y3 = .int .i64 x.region := e3
  have e5 : t4 = [] := e5
  subst e1; subst e2; subst e3; subst e4; subst e5
  rfl
abbrev fbI (n : Nat) (rd : Nat → List RD) (p : Nat → Bool) : SV := fbP (fun i : Nat => i < n) rd fun i => .bool (p i)
theorem indexFuncRecord_r (n : Nat) (hl : n ≤ 1048576) (f : Nat → Nat → Value) (p : Nat → Bool) : Ans Tryz.prog 206 [] [.a (.s .r 4 n (raw4 f)), fbI n (fun i => [RD.ag (raw4 f i)]) p] [] (vI (idxI p (List.range n))) := by
  have hR : (List.range n).length = n := List.length_range
  refine con_enter Tryz.func206 rfl rfl rfl fun B0 r_ D_ w0 => ?_
  refine T_auto TT_ok rfl ?_
  refine T_loopA (ι := Nat) (fun i => [(8, vI i)]) (fun _ => []) (fun i => i ≤ n ∧ ∀ j, j < i → p ((List.range n).getD j 0) = false) (fun i => n - i) 0 [] [] rfl rfl ⟨Nat.zero_le _, fun j hj => absurd hj (Nat.not_lt_zero _)⟩ (by repeat (first | exact trivial | refine And.intro ⟨_, rfl, SV.imp_refl _⟩ ?_)) (by repeat (first | exact trivial | refine And.intro ⟨_, rfl, Ch.imp_refl _⟩ ?_)) ?_
  intro i ⟨h1, h2⟩
  refine T_auto TT_ok rfl ?_
  refine T_condD rfl (fun e => ?_) (fun e => ?_)
  · have hi : i < n := by omega
    refine T_auto TT_ok rfl ?_
    refine RJ_F rfl rfl rfl ⟨i, hi, rfl, rfl⟩ ?_
    refine RJ_auto TT_ok rfl ?_
    refine T_cond rfl (fun e2 => ?_) (fun e2 => ?_)
    · refine T_auto TT_ok rfl ?_
      exact T_ansI TT_ok [(4, none)] rfl rfl ((idxI_at (z := 0) (by omega) h2 (by rw [range_getD hi]; exact e2)).symm)
    · refine T_auto TT_ok rfl ?_
      exact X_inv (i + 1) ⟨hi, before_succ h2 (by rw [range_getD hi]; exact e2)⟩ (by omega) (by repeat (first | exact trivial | refine And.intro ⟨_, rfl, SV.imp_refl _⟩ ?_)) (by repeat (first | exact trivial | refine And.intro ⟨_, rfl, Ch.imp_refl _⟩ ?_))
  · refine T_auto TT_ok rfl ?_
    exact T_ansI TT_ok [(4, none)] rfl rfl ((idxI_no (z := 0) fun j hj => h2 j (by omega)).symm)
theorem deleteFuncRecord_r (n : Nat) (hl : n ≤ 1048576) (f : Nat → Nat → Value) (p : Nat → Bool) : Con Tryz.prog 225 [900] [.a (.g 900), fbI n (fun i => [RD.ag (raw4 f i)]) p] [(900, .arr 4 n (raw4 f))] (fun _ : Unit => True) (fun _ => [.a (.g 901)]) fun _ => [(901, .arr 4 ((List.range n).filter fun x => !p x).length fun j => raw4 f (((List.range n).filter fun x => !p x).getD j 0))] := by
  have hR : (List.range n).length = n := List.length_range
  refine con_enter Tryz.func225 rfl rfl rfl fun B0 r_ D_ w0 => ?_
  refine T_auto TT_ok rfl ?_
  refine RJ_Q TT_ok (indexFuncRecord_r n hl f p) rfl rfl rfl rfl rfl ?_
  rcases idxI_cases p 0 (List.range n) with ⟨h1, h2⟩ | ⟨i0, h1, h2, h3, h4⟩
  · refine T_condE rfl (fun _ => ?_) (fun e => absurd h1 e)
    refine T_auto TT_ok rfl ?_
    refine T_view (V_ren 4 900 901 rfl rfl rfl rfl rfl rfl) ?_
    refine T_ret TT_ok (()) [(4, none)] rfl rfl ?_ ?_ ?_
    · exact SVs.imp_refl _
    · exact ⟨⟨_, rfl, by rw [← filter_none (z := 0) h2]; exact Ch.imp_len hR.symm fun i hi => by rw [range_getD hi]⟩, trivial⟩
    · trivial
  have h5 : i0 < n := by rwa [hR] at h1
  rw [h2]
  refine T_condE rfl (fun e => by omega) (fun _ => ?_)
  refine T_auto TT_ok rfl ?_
  refine T_loopA (ι := Nat × (Nat → Nat)) (fun y => [(6, vI y.1), (5, vI (((List.range n).take y.1).filter fun x => !p x).length)]) (fun y => [(900, .arr 4 n fun k => raw4 f (y.2 k))])
    (fun y => i0 < y.1 ∧ y.1 ≤ n ∧ (∀ k, k < (((List.range n).take y.1).filter fun x => !p x).length → y.2 k = (((List.range n).take y.1).filter fun x => !p x).getD k 0) ∧ ∀ k, y.1 ≤ k → k < n → y.2 k = (List.range n).getD k 0)
    (fun y => n - y.1) (i0 + 1, fun k => k) [900] [] rfl rfl ⟨Nat.lt_succ_self _, h5, ?_, fun k _ hk => (range_getD hk).symm⟩ ?_ (by repeat (first | exact trivial | refine And.intro ⟨_, rfl, Ch.imp_refl _⟩ ?_)) ?_
  · intro k hk
    rw [del_start h1 h3 h4] at hk ⊢
    rw [getD_take hk, range_getD (by rw [List.length_take] at hk; omega)]
  · refine And.intro ⟨_, rfl, SV.imp_of ?_⟩ (And.intro ⟨_, rfl, SV.imp_of ?_⟩ trivial)
    · simp
    · rw [del_start h1 h3 h4]; simp; omega
  rintro ⟨j, h⟩ ⟨g1, g2, g3, g4⟩
  dsimp only at g1 g2 g3 g4 ⊢
  have hle := filter_take_le (List.range n) (fun x => !p x) j
  refine T_auto TT_ok rfl ?_
  refine T_condD rfl (fun e => ?_) (fun e => ?_)
  · have hj : j < n := by omega
    refine T_auto TT_ok rfl ?_
    refine RJ_F rfl rfl rfl ⟨h j, by rw [g4 j (Nat.le_refl _) hj, range_getD hj]; exact hj, rfl, rfl⟩ ?_
    refine RJ_auto TT_ok rfl ?_
    refine T_condX rfl (fun e2 => ?_) (fun e2 => ?_)
    · have hF := filter_take_yes (z := 0) (by rw [hR]; exact hj) (p := fun x => !p x) (by rw [← g4 j (Nat.le_refl _) hj, e2]; rfl)
      refine T_auto TT_ok rfl ?_
      refine X_inv (j + 1, fun k => if k = (((List.range n).take j).filter fun x => !p x).length then h j else h k) ⟨by omega, hj, fun k hk => ?_, fun k k1 k2 => ?_⟩ (by show n - (j + 1) < n - j; omega) ?_ ⟨⟨_, rfl, Ch.imp_arr fun k hk => ?_⟩, (by repeat (first | exact trivial | refine And.intro ⟨_, rfl, Ch.imp_refl _⟩ ?_))⟩
      · dsimp only at hk ⊢
        rw [hF, List.length_append, List.length_singleton] at hk
        rw [hF]
        by_cases c : k = (((List.range n).take j).filter fun x => !p x).length
        · rw [if_pos c, c, getD_app_eq, g4 j (Nat.le_refl _) hj]
        · rw [if_neg c, getD_app_lt (by omega)]; exact g3 k (by omega)
      · dsimp only at k1 ⊢
        rw [if_neg (by omega)]; exact g4 k (by omega) k2
      · refine And.intro ⟨_, rfl, SV.imp_of ?_⟩ (And.intro ⟨_, rfl, SV.imp_of ?_⟩ (by repeat (first | exact trivial | refine And.intro ⟨_, rfl, SV.imp_refl _⟩ ?_)))
        · simp
        · dsimp only; rw [hF]; simp
      · dsimp only
        by_cases c : k = (((List.range n).take j).filter fun x => !p x).length
        · subst c
          simp only [Int.toNat_natCast, Nat.beq_refl, cond_true, if_true]
        · rw [if_neg c]
          have : Nat.beq k ((((List.range n).take j).filter fun x => !p x).length : Int).toNat = false := by
            simp only [Int.toNat_natCast]
            cases e : Nat.beq k (((List.range n).take j).filter fun x => !p x).length with
            | false => rfl
            | true => exact absurd (Nat.eq_of_beq_eq_true e) c
          rw [this]; rfl
    · have hF := filter_take_no (z := 0) (by rw [hR]; exact hj) (p := fun x => !p x) (by rw [← g4 j (Nat.le_refl _) hj, e2]; rfl)
      refine T_auto TT_ok rfl ?_
      refine X_inv (j + 1, h) ⟨by omega, hj, fun k hk => ?_, fun k k1 k2 => g4 k (by dsimp only at k1; omega) k2⟩ (by show n - (j + 1) < n - j; omega) ?_ (by repeat (first | exact trivial | refine And.intro ⟨_, rfl, Ch.imp_refl _⟩ ?_))
      · dsimp only at hk ⊢
        rw [← hF] at hk ⊢; exact g3 k hk
      · refine And.intro ⟨_, rfl, SV.imp_of ?_⟩ (And.intro ⟨_, rfl, SV.imp_of ?_⟩ (by repeat (first | exact trivial | refine And.intro ⟨_, rfl, SV.imp_refl _⟩ ?_)))
        · simp
        · dsimp only; rw [← hF]
  · have hj : n = j := by omega
    subst hj
    rw [show (List.range n).take n = List.range n from List.take_of_length_le (by simp)] at g3 hle ⊢
    refine T_auto TT_ok rfl ?_
    refine RJ_clear TT_ok 38 900 rfl rfl rfl rfl rfl rfl ⟨by omega, by omega, by omega⟩ rfl rfl rfl rfl ?_
    refine RJ_auto TT_ok rfl ?_
    refine T_view (V_cut 4 900 901 rfl rfl rfl ⟨by omega, by omega, by omega⟩ rfl rfl rfl) ?_
    refine T_ret TT_ok (()) [(4, none)] rfl rfl ?_ ?_ ?_
    · exact SVs.imp_refl _
    · refine ⟨⟨_, rfl, Ch.imp_len (by omega) fun k hk => ?_⟩, trivial⟩
      dsimp only
      rw [if_neg (by omega), g3 _ (by omega)]
      congr 2; omega
    · trivial
theorem filter_range {α : Type} {z : α} (q : α → Bool) (xs : List α) : xs.filter q = ((List.range xs.length).filter fun i => q (xs.getD i z)).map fun i => xs.getD i z := by
  have h : xs = (List.range xs.length).map fun i => xs.getD i z := by
    apply List.ext_getElem
    · simp
    · intro i h1 h2; simp [h1]
  conv => lhs; rw [h, List.filter_map]
  rfl
theorem row2 {l : List Value} (h : l.length = 2) : l = [l.getD 0 undef, l.getD 1 undef] := by
  match l, h with
  | [a, b], _ => rfl
theorem gd0 {l : List Nat} {i : Nat} (h : i < l.length) : l.getD i 0 = l[i] := by simp [h]
theorem gmap {α : Type} {z : α} {f : Nat → α} {l : List Nat} {i : Nat} (h : i < l.length) : (l.map f).getD i z = f (l.getD i 0) := by simp [List.getD_eq_getElem?_getD, h]
theorem deleteFuncRecord_c (xs : List GRecord) (hl : xs.length ≤ 1048576) (p : GRecord → Bool) : Con Tryz.prog 225 [900] [.a (.g 900), fbO (fun x => [RD.ag (cRecord x)]) fun x => .bool (p x)] [(900, arrC 4 cRecord GRecord.z xs)] (fun _ : Unit => True) (fun _ => [.a (.g 901)]) fun _ => [(901, arrC 4 cRecord GRecord.z (xs.filter fun x => !p x))] := by
  have hmem : ∀ j, j < ((List.range xs.length).filter fun x => !p (xs.getD x GRecord.z)).length → ((List.range xs.length).filter fun x => !p (xs.getD x GRecord.z)).getD j 0 < xs.length := fun j hj => by
    rw [gd0 hj]
    have h1 := (List.mem_filter.1 (List.getElem_mem hj)).1
    exact List.mem_range.1 h1
  have hC := Con.lift1 (P := Tryz.prog) (ι := Unit) (f := 225) (sz := 4) (n := xs.length) (k := 900) (ko := 901) (g := fun i => cRecord (xs.getD i GRecord.z)) (ks := [900])
    (args := [.a (.g 900), fbI xs.length (fun i => [RD.ag (cRecord (xs.getD i GRecord.z))]) fun i => p (xs.getD i GRecord.z)])
    (args' := fun row => [.a (.g 900), fbI xs.length (fun i => [RD.ag ((row i).map D.v)]) fun i => p (xs.getD i GRecord.z)]) (φ := fun _ => True) (res := fun _ => [.a (.g 901)])
    (m := fun _ => ((List.range xs.length).filter fun x => !p (xs.getD x GRecord.z)).length) (σ := fun _ j => ((List.range xs.length).filter fun x => !p (xs.getD x GRecord.z)).getD j 0)
    (fun _ _ => rfl) (fun _ _ j hj => hmem j hj)
    (fun _ _ i j hi hj hij e => by
      have hn : ((List.range xs.length).filter fun x => !p (xs.getD x GRecord.z)).Nodup := List.nodup_range.filter _
      have h1 := List.pairwise_iff_getElem.1 hn
      rw [gd0 hi, gd0 hj] at e
      rcases Nat.lt_or_gt_of_ne hij with h | h
      · exact h1 i j hi hj h e
      · exact h1 j i hj hi h e.symm)
    (fun B r r' H H' vals row hr hrow ⟨y, t, e1, e2, y2, t2, e3, e4, e5⟩ => ⟨y, t, e1, e2, y2, t2, e3, fb_raw (Z := Zf r H) (Z' := Zf r' H') hr hrow e4, e5⟩)
    (fun _ B r r' H H' out e => e)
    (fun row hrow _ hrd => ?_)
  · refine (hC.wkA ?_).wkM fun _ _ => ⟨⟨_, rfl, ?_⟩, trivial⟩
    · refine SVs.cons (SV.imp_refl _) (SVs.cons ?_ rfl)
      intro B Z y ⟨f, vs, h1, h2⟩
      exact ⟨f, vs, h1, h2.1, fun args x ⟨i, _, e1, e2⟩ => h2.2 args x ⟨xs.getD i GRecord.z, e1, e2⟩⟩
    · have e := filter_range (z := GRecord.z) (fun x => !p x) xs
      refine Ch.imp_len (by rw [e, List.length_map]) fun j hj => ?_
      rw [e]
      congr 1
      exact (gmap (f := fun i => xs.getD i GRecord.z) hj).symm
  · have hD := deleteFuncRecord_r xs.length hl (fun i j => (row i).getD j undef) fun i => p (xs.getD i GRecord.z)
    have hr : ∀ i, i < xs.length → raw4 (fun i j => (row i).getD j undef) i = (row i).map D.v := fun i hi => by
      obtain ⟨hh, e⟩ := hrd
      exact (row_raw (e i hi)).symm
    refine Con.wkM (Con.wkA (Con.inM hD (mu0 := [(900, .arr 4 xs.length fun i => (row i).map D.v)]) rfl ⟨⟨_, rfl, Ch.imp_arr fun i hi => (hr i hi).symm⟩, trivial⟩) ?_) fun _ _ => ⟨⟨_, rfl, Ch.imp_arr fun j hj => hr _ (hmem j hj)⟩, trivial⟩
    refine SVs.cons (SV.imp_refl _) (SVs.cons ?_ rfl)
    intro B Z y ⟨f, vs, h1, h2⟩
    exact ⟨f, vs, h1, h2.1, fun args x ⟨i, hi, e1, e2⟩ => h2.2 args x ⟨i, hi, e1.trans (congrArg (fun l => [RD.ag l]) (hr i hi)), e2⟩⟩
theorem insertCopy_o (xs : List GCopy) (hl : xs.length ≤ 1048575) (i : Nat) (hi : i ≤ xs.length) (x : GCopy) : Con Tryz.prog 197 [900, 901] [.a (.g 900), vI i, .a (.g 901)] [(900, arrC 2 cCopy GCopy.z xs), (901, .arr 2 1 fun _ => cCopy x)] (fun _ : Unit => True) (fun _ => [.a (.g 902)]) fun _ => [(902, arrC 2 cCopy GCopy.z (xs.take i ++ x :: xs.drop i))] := by
  have hC := Con.lift2 (P := Tryz.prog) (ι := Unit) (f := 197) (sz := 2) (n1 := xs.length) (n2 := 1) (k1 := 900) (k2 := 901) (ko := 902) (g1 := fun i => cCopy (xs.getD i GCopy.z)) (g2 := fun _ => cCopy x) (ks := [900, 901])
    (args := [.a (.g 900), vI i, .a (.g 901)]) (φ := fun _ => True) (res := fun _ => [.a (.g 902)]) (m := fun _ => xs.length + 1)
    (ρ := fun _ j => if j < i then (true, j) else if j < i + 1 then (false, j - i) else (true, j - 1)) (by decide) (fun _ _ => rfl) (fun _ _ => rfl)
    (fun _ _ j hj => by
      by_cases c1 : j < i
      · rw [if_pos c1]; show j < xs.length; omega
      · by_cases c2 : j < i + 1
        · rw [if_neg c1, if_pos c2]; show j - i < 1; omega
        · rw [if_neg c1, if_neg c2]; show j - 1 < xs.length; omega)
    (fun _ _ a b ha hb hab e => by
      by_cases c1 : a < i <;> by_cases c2 : a < i + 1 <;> by_cases c3 : b < i <;> by_cases c4 : b < i + 1 <;> simp [c1, c2, c3, c4] at e <;> omega)
    (fun B r r' H H' vals _ e => e) (fun _ B r r' H H' out e => e)
    (fun row1 row2 h1 h2 o1 o2 => ?_)
  · refine hC.wkM fun _ _ => ⟨⟨_, rfl, Ch.imp_len (by simp; omega) fun j hj => ?_⟩, trivial⟩
    have hg : (xs.take i ++ x :: xs.drop i).getD j GCopy.z = if j < i then xs.getD j GCopy.z else if j < i + 1 then x else xs.getD (j - 1) GCopy.z := insL_getD (p := i) (x := x) (z := GCopy.z) hi j
    rw [hg]
    by_cases c1 : j < i
    · rw [if_pos c1, if_pos c1]; rfl
    · by_cases c2 : j < i + 1
      · rw [if_neg c1, if_pos c2, if_neg c1, if_pos c2]; rfl
      · rw [if_neg c1, if_neg c2, if_neg c1, if_neg c2]; rfl
  · have hD := insertCopy_c xs.length 1 i (fun j => (row1 j).map D.v) (fun j => (row2 j).map D.v) (by omega) (by decide) (by decide) hi (fun j hj => flat_map (o1 j hj)) (fun j hj => flat_map (o2 j hj))
    refine hD.wkM fun _ _ => ⟨⟨_, rfl, Ch.imp_arr fun j hj => ?_⟩, trivial⟩
    unfold insD
    by_cases c1 : j < i
    · rw [if_pos c1, if_pos c1]; rfl
    · by_cases c2 : j < i + 1
      · rw [if_neg c1, if_pos c2, if_neg c1, if_pos c2]; rfl
      · rw [if_neg c1, if_neg c2, if_neg c1, if_neg c2]; rfl
end Go.Proofs.YtcikaknfogpeeaaGreat
namespace Go.Proofs.YtcikaknfogpeeaaGreat
open Go Go.RowKit
set_option linter.unusedVariables false
set_option linter.unusedSimpArgs false
set_option maxRecDepth 4000
section
variable {E : Env} {B : BE} {mu mu' : Mu} {w : World} {H : Nat → PH} {TT : List TI} {fr fr' : Fr} {gf gf' : GF} {a : Act} {all rest : List Oper} {Q : Exit → Act → World → Prop} {R : Exit → Act → World → Prop} {K : List KF}
theorem X_fin {ι : Type} {fn : Func} {φ : ι → Prop} {res : ι → List SV} {mu' : ι → Mu} (hT : TOk E.P TT) (y : ι) (ts : List (Nat × Option Nat)) (hr : fn.results = (ts.map rvOf).toArray) {l : List SV} (hl : allGetC TT fr mu ts = some l) (h1 : SVs.imp E.P l (res y)) (h2 : WkMu mu (mu' y)) (h3 : φ y) :
    X E (bodyPost E.P fn (RetP E φ res mu')) .fin fr mu := fun B a w H f m => by
  obtain ⟨out, r1, r2⟩ := allGetC_run hT f m.mr hl
  show bodyPost _ _ _ .normal a w
  refine ⟨f.defers, resV out, ?_, y, B, H, out, h3, rfl, SVs.imp_ok h1 r2, m.wk h2⟩
  unfold results
  rw [hr, Sem.run_bind, Array.mapM_eq_mapM_toList, Sem.run_map, List.toList_toArray]
  erw [r1]
  have e : ∀ l : List Value, (if h : l.toArray.size = 1 then l.toArray[0] else Value.tuple l.toArray) = resV l := fun l => by
    rw [← resV_eq]; simp
  exact congrArg (Result.ok · w) (e out)
end
end Go.Proofs.YtcikaknfogpeeaaGreat
namespace Go.Proofs.YtcikaknfogpeeaaGreat
open Go Go.RowKit
set_option linter.unusedVariables false
set_option linter.unusedSimpArgs false
set_option maxRecDepth 4000
theorem sumW_all {α : Type} {w : α → Nat} {k : Nat} : ∀ {xs : List α}, (∀ x ∈ xs, w x ≤ k) → sumW w xs ≤ k * xs.length
  | [], _ => Nat.zero_le _
  | x :: r, h => by
    have h1 := h x (by simp)
    have h2 := sumW_all (w := w) (k := k) (xs := r) fun y hy => h y (by simp [hy])
    simp only [sumW, List.length_cons, Nat.mul_add, Nat.mul_one]
    omega
theorem all_getD {α : Type} {z : α} {P : α → Prop} {xs : List α} (h : ∀ i, i < xs.length → P (xs.getD i z)) : ∀ x ∈ xs, P x := fun x hx => by
  obtain ⟨i, hi, rfl⟩ := List.mem_iff_getElem.1 hx
  have := h i hi
  simpa [hi] using this
theorem recB_le {r : GRecord} (h : recB r = true) : r.sets.length ≤ 12 := by
  unfold recB at h
  cases c1 : inB r.kind 1 3 <;> cases c2 : inB r.tx 1 1000000 <;> cases c3 : inB r.region 0 5 <;> cases c4 : decide ((r.sets.length : Int) ≥ 1) <;> cases c5 : decide ((r.sets.length : Int) ≤ 12) <;> rw [c1, c2, c3, c4, c5] at h <;> first | (cases h; done) | (have := of_decide_eq_true c5; omega)
theorem machOk_w {m : GMachine} (h : MachOk m) : wMachine m ≤ 2702 := by
  have h1 : sumW wCopy m.copies ≤ 6 * m.copies.length := sumW_all (all_getD (z := GCopy.z) fun i hi => by
    have := cellsB_len (cells6 h hi)
    show (m.copies.getD i GCopy.z).cells.length ≤ 6
    omega)
  have h2 : sumW wRecord m.log ≤ 12 * m.log.length := sumW_all (all_getD (z := GRecord.z) fun i hi => recB_le (h.2.2.2 i hi))
  have h3 := h.1
  unfold wMachine wL
  omega
theorem txOk_w {t : GTx} (h : TxOk t) : wTx t ≤ 24 := by
  have := h.1.2.2.2.2.2
  unfold wTx
  omega
theorem clusOk_w {c : GCluster} (h : ClusOk c) {txs : List GTx} (hl : txs.length ≤ 60) (ht : ∀ t ∈ txs, wTx t ≤ 24) : wCluster { c with txs := txs } ≤ 30000 := by
  have h1 : sumW wPlace c.places ≤ 3 * c.places.length := sumW_all (all_getD (z := GPlace.z) fun i hi => (h.pl hi).2)
  have h2 : sumW wMachine c.machines ≤ 2702 * c.machines.length := sumW_all (all_getD (z := GMachine.z) fun i hi => machOk_w (h.2.2.1 i hi))
  have h3 : sumW wTx txs ≤ 24 * txs.length := sumW_all ht
  have h4 := h.1.2.2.1.2
  have h5 := h.2.1.1.2
  show wL wPlace c.places + wL wMachine c.machines + wL wTx txs ≤ 30000
  unfold wL
  omega
theorem clusOk_w0 {c : GCluster} (h : ClusOk c) : wCluster c ≤ 30000 := clusOk_w (c := c) h h.1.2.2.2 (all_getD (z := GTx.z) fun i hi => txOk_w (h.tx hi))
end Go.Proofs.YtcikaknfogpeeaaGreat
namespace Go.Proofs.YtcikaknfogpeeaaGreat
open Go Go.RowKit
set_option linter.unusedVariables false
set_option linter.unusedSimpArgs false
set_option maxRecDepth 4000
theorem foldl_take {α β : Type} {z : α} (f : β → α → β) (b : β) {xs : List α} {k : Nat} (h : k < xs.length) : (xs.take (k + 1)).foldl f b = f ((xs.take k).foldl f b) (xs.getD k z) := by
  rw [take_succ_getD (z := z) h, List.foldl_append]; rfl
def cellS (xs : List GCell) (s : GSet) : GCell := xs.getD s.slot.toNat GCell.z
def instC (s : GSet) : GCell := ⟨4 * (s.version + 1) + (bif s.used then 2 else 0), bif s.used then s.value else 0⟩
def instF (xs : List GCell) (s : GSet) : List GCell := if (cellS xs s).head.tdiv 4 > s.version then xs else xs.set s.slot.toNat (instC s)
def instL (xs : List GCell) (sets : List GSet) : List GCell := sets.foldl instF xs
def unlkF (xs : List GCell) (s : GSet) : List GCell := if (cellS xs s).head.tdiv 4 = s.version then xs.set s.slot.toNat ⟨(cellS xs s).head.tdiv 2 * 2, (cellS xs s).value⟩ else xs
def unlkL (xs : List GCell) (sets : List GSet) : List GCell := sets.foldl unlkF xs
theorem cellsB_iff {xs : List GCell} : cellsB xs = true ↔ xs.length = 6 ∧ ∀ x ∈ xs, badCell x = false := by
  unfold cellsB
  constructor
  · intro h
    cases c : ((xs.length : Int) == 6) with
    | false => rw [c] at h; cases h
    | true =>
      rw [c] at h
      refine ⟨by have := beq_iff_eq.1 c; omega, fun x hx => ?_⟩
      cases e : badCell x with
      | false => rfl
      | true =>
        have : xs.any badCell = true := List.any_eq_true.2 ⟨x, hx, e⟩
        rw [this] at h; cases h
  · rintro ⟨h1, h2⟩
    rw [show ((xs.length : Int) == 6) = true from beq_iff_eq.2 (by omega)]
    have : xs.any badCell = false := by
      cases e : xs.any badCell with
      | false => rfl
      | true =>
        obtain ⟨x, hx, e2⟩ := List.any_eq_true.1 e
        rw [h2 x hx] at e2; cases e2
    rw [this]; rfl
theorem badCell_iff {x : GCell} : badCell x = false ↔ (0 ≤ x.head ∧ x.head ≤ 4000003) ∧ (-1000000000 ≤ x.value ∧ x.value ≤ 1000000000) ∧ ((x.head / 2) % 2 = 1 ∨ x.value = 0) := by
  unfold badCell usedB headB valB
  cases h1 : inB x.head 0 4000003 with
  | false =>
    have : ¬ (0 ≤ x.head ∧ x.head ≤ 4000003) := fun h => by rw [inB_iff.2 h] at h1; cases h1
    simp [this]
  | true =>
    have g1 := inB_iff.1 h1
    cases h2 : inB x.value (-1000000000) 1000000000 with
    | false =>
      have : ¬ (-1000000000 ≤ x.value ∧ x.value ≤ 1000000000) := fun h => by rw [inB_iff.2 h] at h2; cases h2
      simp [this]
    | true =>
      have g2 := inB_iff.1 h2
      have e1 : x.head.tdiv 2 = x.head / 2 := tdiv_nn g1.1
      have e2 : (x.head / 2).tmod 2 = x.head / 2 % 2 := tmod_nn (by omega)
      rw [e1, e2]
      simp [g1, g2]
      by_cases c : x.head / 2 % 2 = 1 <;> simp [c]
theorem set_mem {xs : List GCell} {i : Nat} {y : GCell} {P : GCell → Prop} (h : ∀ x ∈ xs, P x) (hy : P y) : ∀ x ∈ xs.set i y, P x := fun x hx => by
  rcases List.mem_or_eq_of_mem_set hx with hx | rfl
  · exact h x hx
  · exact hy
theorem cellS_mem {xs : List GCell} {s : GSet} (h : xs.length = 6) (hs : setB s = true) : cellS xs s ∈ xs := by
  have := (setB_iff.1 hs).2.1
  exact getD_mem (by omega)
theorem instF_ok {xs : List GCell} {s : GSet} (h : cellsB xs = true) (hs : setB s = true) : cellsB (instF xs s) = true := by
  obtain ⟨h1, h2⟩ := cellsB_iff.1 h
  have h3 := setB_iff.1 hs
  unfold instF
  split
  · exact h
  · refine cellsB_iff.2 ⟨by rw [List.length_set]; exact h1, set_mem h2 (badCell_iff.2 ?_)⟩
    unfold instC
    cases s.used <;> simp <;> omega
theorem unlkF_ok {xs : List GCell} {s : GSet} (h : cellsB xs = true) (hs : setB s = true) : cellsB (unlkF xs s) = true := by
  obtain ⟨h1, h2⟩ := cellsB_iff.1 h
  have h3 := badCell_iff.1 (h2 _ (cellS_mem h1 hs))
  unfold unlkF
  split
  · refine cellsB_iff.2 ⟨by rw [List.length_set]; exact h1, set_mem h2 (badCell_iff.2 ?_)⟩
    dsimp only
    rw [tdiv_nn h3.1.1]
    omega
  · exact h
theorem foldl_ok {f : List GCell → GSet → List GCell} (hf : ∀ xs s, cellsB xs = true → setB s = true → cellsB (f xs s) = true) : ∀ {sets : List GSet} {xs : List GCell}, (∀ s ∈ sets, setB s = true) → cellsB xs = true → cellsB (sets.foldl f xs) = true
  | [], _, _, h => h
  | s :: r, xs, hs, h => by
    rw [List.foldl_cons]
    exact foldl_ok hf (fun t ht => hs t (by simp [ht])) (hf xs s h (hs s (by simp)))
theorem instL_ok {xs : List GCell} {sets : List GSet} (h : cellsB xs = true) (hs : ∀ s ∈ sets, setB s = true) : cellsB (instL xs sets) = true := foldl_ok (fun _ _ => instF_ok) hs h
theorem unlkL_ok {xs : List GCell} {sets : List GSet} (h : cellsB xs = true) (hs : ∀ s ∈ sets, setB s = true) : cellsB (unlkL xs sets) = true := foldl_ok (fun _ _ => unlkF_ok) hs h
def riseS (sets : List GSet) : Prop := sets.Pairwise fun a b => a.slot < b.slot
theorem setsAt_ok {t : GTx} (ht : TxOk t) (r : Int) : (∀ s ∈ setsAt r t.sets, setB s = true) ∧ riseS (setsAt r t.sets) ∧ ∀ s ∈ setsAt r t.sets, s.region = r := by
  have h := setsOk_iff.1 ht.2.2
  refine ⟨fun s hs => h.1 s (List.mem_filter.1 hs).1, ?_, fun s hs => by simpa using (List.mem_filter.1 hs).2⟩
  have h2 : (setsAt r t.sets).Pairwise lessS := h.2.filter _
  refine List.Pairwise.imp_of_mem ?_ h2
  intro a b ha hb hab
  have h3 : a.region = r := by simpa using (List.mem_filter.1 ha).2
  have h4 : b.region = r := by simpa using (List.mem_filter.1 hb).2
  unfold lessS at hab
  omega
end Go.Proofs.YtcikaknfogpeeaaGreat
namespace Go.Proofs.YtcikaknfogpeeaaGreat
open Go Go.RowKit
set_option linter.unusedVariables false
set_option linter.unusedSimpArgs false
set_option maxRecDepth 4000
theorem cm_mem {l : List Int} : ∀ {k : Nat}, k ≤ l.length → ∀ x, x ∈ cmI l k ↔ x ∈ l.take k
  | 0, _, x => by simp [cmI]
  | k + 1, hk, x => by
    have ih := cm_mem (l := l) (k := k) (by omega) x
    rw [take_succ_getD (z := 0) (by omega), cmI]
    split
    · simp only [List.mem_append, ih]
    · rename_i h
      simp only [List.mem_append, List.mem_singleton]
      rw [ih]
      constructor
      · exact .inl
      · rintro (h1 | h1)
        · exact h1
        · subst h1
          have h0 : k ≠ 0 := fun e => h (.inl e)
          have h2 : l.getD k 0 = l.getD (k - 1) 0 := by
            by_cases c : l.getD k 0 = l.getD (k - 1) 0
            · exact c
            · exact absurd (.inr c) h
          rw [h2, List.mem_iff_getElem]
          exact ⟨k - 1, by rw [List.length_take]; omega, by simp [List.getD_eq_getElem?_getD, List.getElem?_eq_getElem (show k - 1 < l.length by omega)]⟩
end Go.Proofs.YtcikaknfogpeeaaGreat
namespace Go.Proofs.YtcikaknfogpeeaaGreat
open Go Go.RowKit
set_option linter.unusedVariables false
set_option linter.unusedSimpArgs false
set_option maxRecDepth 4000
structure GCopyAt where
  region : Int
  machine : Int
  backup : Bool
def GCopyAt.z : GCopyAt := ⟨0, 0, false⟩
abbrev placeM (c : GCluster) (r : Int) : List Int := (c.places.getD r.toNat GPlace.z).machines
abbrev wantsL (t : GTx) : List Int := cmI (regsOf t) (regsOf t).length
def rowP (b : Bool) (r : Int) (ms : List Int) : Nat → List GCopyAt
  | 0 => []
  | i + 1 => bif (bif decide ((i : Int) > 0) then true else !b) then rowP b r ms i ++ [⟨r, ms.getD i 0, decide ((i : Int) > 0)⟩] else rowP b r ms i
def copN (c : GCluster) (ws : List Int) (b : Bool) : Nat → List GCopyAt
  | 0 => []
  | k + 1 => copN c ws b k ++ rowP b (ws.getD k 0) (placeM c (ws.getD k 0)) (placeM c (ws.getD k 0)).length
def copiesP (c : GCluster) (t : GTx) (b : Bool) : List GCopyAt := copN c (wantsL t) b (wantsL t).length
theorem rowP_le {b : Bool} {r : Int} {ms : List Int} : ∀ {i : Nat}, (rowP b r ms i).length ≤ i
  | 0 => Nat.le_refl _
  | i + 1 => by
    have := rowP_le (b := b) (r := r) (ms := ms) (i := i)
    rw [rowP]
    cases (bif decide ((i : Int) > 0) then true else !b) <;> simp <;> omega
theorem mem_wants {t : GTx} {r : Int} (h : r ∈ wantsL t) : ∃ s ∈ t.sets, s.region = r := by
  have h1 := (cm_mem (l := regsOf t) (Nat.le_refl _) r).1 h
  rw [List.take_length] at h1
  obtain ⟨s, h2, h3⟩ := List.mem_map.1 h1
  exact ⟨s, h2, h3⟩
theorem wants_in {c : GCluster} {t : GTx} (ht : TxIn c t) {k : Nat} (hk : k < (wantsL t).length) : 0 ≤ (wantsL t).getD k 0 ∧ (wantsL t).getD k 0 < c.places.length := by
  obtain ⟨s, h1, h2⟩ := mem_wants (mem_getD hk)
  obtain ⟨j, hj, rfl⟩ := List.mem_iff_getElem.1 h1
  have := ht.set j hj
  rw [show t.sets.getD j GSet.z = t.sets[j] from by simp [hj], h2] at this
  exact this
theorem wants_le {t : GTx} (ht : TxOk t) : (wantsL t).length ≤ 12 := by
  show (cmI (regsOf t) (regsOf t).length).length ≤ 12
  have h1 := cmI_le (xs := regsOf t) (k := (regsOf t).length)
  have h2 := regsOf_len t
  have h3 := ht.1.2.2.2.2.2.2
  omega
theorem place_le {c : GCluster} (hok : ClusOk c) {r : Int} (hr : 0 ≤ r ∧ r < c.places.length) : 1 ≤ (placeM c r).length ∧ (placeM c r).length ≤ 3 := hok.pl (r := r.toNat) (by omega)
theorem copN_le {c : GCluster} (hok : ClusOk c) {ws : List Int} (hw : ∀ k, k < ws.length → 0 ≤ ws.getD k 0 ∧ ws.getD k 0 < c.places.length) {b : Bool} : ∀ {k : Nat}, k ≤ ws.length → (copN c ws b k).length ≤ 3 * k
  | 0, _ => Nat.le_refl _
  | k + 1, h => by
    have h1 := copN_le hok hw (b := b) (k := k) (by omega)
    have h2 := place_le hok (hw k (by omega))
    have h3 := rowP_le (b := b) (r := ws.getD k 0) (ms := placeM c (ws.getD k 0)) (i := (placeM c (ws.getD k 0)).length)
    rw [copN, List.length_append]; omega
def primP (c : GCluster) (r : Int) : GCopyAt := ⟨r, mAt c r.toNat 0, false⟩
def planL (c : GCluster) (t : GTx) : List GCopyAt :=
  if t.phase = 3 then (checksL t).map fun n => primP c n.region
  else if t.phase = 4 then copiesP c t true
  else if t.phase = 6 then copiesP c t false
  else if t.phase = 1 ∨ t.phase = 7 ∨ t.phase = 9 then []
  else (wantsL t).map (primP c)
theorem rowP_mem {b : Bool} {r : Int} {ms : List Int} {x : GCopyAt} : ∀ {i : Nat}, i ≤ ms.length → x ∈ rowP b r ms i → ∃ j, j < i ∧ x = ⟨r, ms.getD j 0, decide ((j : Int) > 0)⟩
  | 0, _, h => by cases h
  | i + 1, hi, h => by
    rw [rowP] at h
    have go : x ∈ rowP b r ms i → ∃ j, j < i + 1 ∧ x = ⟨r, ms.getD j 0, decide ((j : Int) > 0)⟩ := fun h => by
      obtain ⟨j, h1, h2⟩ := rowP_mem (by omega) h; exact ⟨j, by omega, h2⟩
    cases c : (bif decide ((i : Int) > 0) then true else !b) with
    | false => rw [c] at h; exact go h
    | true =>
      rw [c] at h
      rcases List.mem_append.1 h with h | h
      · exact go h
      · exact ⟨i, by omega, by simpa using h⟩
structure AtIn (c : GCluster) (x : GCopyAt) : Prop where
  region : 0 ≤ x.region ∧ x.region < c.places.length
  at' : ∃ j, j < (placeM c x.region).length ∧ x.machine = mAt c x.region.toNat j ∧ x.backup = decide ((j : Int) > 0)
theorem primP_in {c : GCluster} (hok : ClusOk c) {r : Int} (hr : 0 ≤ r ∧ r < c.places.length) : AtIn c (primP c r) := ⟨hr, 0, by have := place_le hok hr; show 0 < (placeM c r).length; omega, rfl, rfl⟩
theorem copN_in {c : GCluster} {ws : List Int} (hw : ∀ k, k < ws.length → 0 ≤ ws.getD k 0 ∧ ws.getD k 0 < c.places.length) {b : Bool} {x : GCopyAt} : ∀ {k : Nat}, k ≤ ws.length → x ∈ copN c ws b k → AtIn c x
  | 0, _, h => by cases h
  | k + 1, hk, h => by
    rw [copN] at h
    rcases List.mem_append.1 h with h | h
    · exact copN_in hw (by omega) h
    · obtain ⟨j, h1, rfl⟩ := rowP_mem (Nat.le_refl _) h
      exact ⟨hw k (by omega), j, h1, rfl, rfl⟩
theorem planL_in {c : GCluster} (hok : ClusOk c) {t : GTx} (ht : TxIn c t) : ∀ x ∈ planL c t, AtIn c x := fun x h => by
  unfold planL at h
  split at h
  · obtain ⟨n, h1, rfl⟩ := List.mem_map.1 h
    obtain ⟨k, hk, rfl⟩ := List.mem_iff_getElem.1 h1
    have := checksL_in ht hk
    rw [show (checksL t).getD k GNote.z = (checksL t)[k] from by simp [hk]] at this
    exact primP_in hok this
  · split at h
    · exact copN_in (fun k hk => wants_in ht hk) (Nat.le_refl _) h
    · split at h
      · exact copN_in (fun k hk => wants_in ht hk) (Nat.le_refl _) h
      · split at h
        · cases h
        · obtain ⟨r, h1, rfl⟩ := List.mem_map.1 h
          obtain ⟨k, hk, rfl⟩ := List.mem_iff_getElem.1 h1
          have := wants_in ht hk
          rw [show (wantsL t).getD k 0 = (wantsL t)[k] from by simp [hk]] at this
          exact primP_in hok this
def stopP (c : GCluster) (t : GTx) : Prop := t.phase = 7 ∨ t.phase = 9 ∨ t.done < (planL c t).length
instance (c : GCluster) (t : GTx) : Decidable (stopP c t) := inferInstanceAs (Decidable (_ ∨ _ ∨ _))
structure Same (t u : GTx) : Prop where
  id : u.id = t.id
  home : u.home = t.home
  reads : u.reads = t.reads
  sets : u.sets = t.sets
theorem Same.refl (t : GTx) : Same t t := ⟨rfl, rfl, rfl, rfl⟩
theorem Same.trans {t u w : GTx} (h : Same t u) (k : Same u w) : Same t w := ⟨k.id.trans h.id, k.home.trans h.home, k.reads.trans h.reads, k.sets.trans h.sets⟩
def setCells (m : GMachine) (r : Int) (xs : List GCell) : GMachine := { m with copies := m.copies.set (idxI (atB r) m.copies).toNat ⟨(m.copies.getD (idxI (atB r) m.copies).toNat GCopy.z).region, xs⟩ }
def keepR (tx r : Int) (x : GRecord) : Bool := !(bif x.tx == tx then x.region == r else false)
def clearL (m : GMachine) (tx r : Int) : GMachine := { m with log := m.log.filter (keepR tx r) }
def cmpZ (n x : Int) : Int := x - n
noncomputable def putCl (xs : List Int) (n : Int) : List Int := if n ∈ xs then xs else insL (posA (cmpZ n) 0 xs) n xs
noncomputable def clearR (m : GMachine) (tx r : Int) (d : Bool) : GMachine := { clearL m tx r with cleared := bif d then putCl m.cleared tx else m.cleared }
def canClear (m : GMachine) (tx : Int) : Bool := bif decide ((m.cleared.length : Int) < 60) then true else decide (tx ∈ m.cleared)
def planA (c : GCluster) (t : GTx) : GCopyAt := (planL c t).getD t.done.toNat GCopyAt.z
end Go.Proofs.YtcikaknfogpeeaaGreat
namespace Go.Proofs.YtcikaknfogpeeaaGreat
open Go Go.RowKit
set_option linter.unusedVariables false
set_option linter.unusedSimpArgs false
set_option maxRecDepth 4000
theorem bif_or_false {a b : Bool} : (bif a then true else b) = false ↔ a = false ∧ b = false := by cases a <;> simp
theorem risesB_iff {xs : List Int} : risesB xs = true ↔ (∀ x ∈ xs, 1 ≤ x ∧ x ≤ 1000000) ∧ xs.Pairwise (· < ·) := by
  unfold risesB
  constructor
  · intro h
    have h : anyN xs.length (badCl xs) = false := by simpa using h
    have h1 := anyN_get h
    have h2 : ∀ j, j < xs.length → 1 ≤ xs.getD j 0 ∧ xs.getD j 0 ≤ 1000000 := fun j hj => by
      have := (bif_or_false.1 (h1 j hj)).1
      have : inB (xs.getD j 0) 1 1000000 = true := by simpa using this
      exact inB_iff.1 this
    have h3 : ∀ j, j + 1 < xs.length → xs.getD j 0 < xs.getD (j + 1) 0 := fun j hj => by
      have := (bif_or_false.1 (h1 (j + 1) hj)).2
      rw [decide_eq_true (show ((j + 1 : Nat) : Int) > 0 by omega)] at this
      have := of_decide_eq_false this
      rw [show (((j + 1 : Nat) : Int) - 1).toNat = j by omega] at this
      omega
    refine ⟨all_getD (z := 0) h2, pair_of (z := 0) fun a b hab hb => ?_⟩
    induction b with
    | zero => omega
    | succ b ih =>
      have := h3 b hb
      by_cases c : a = b
      · subst c; exact this
      · have := ih (by omega) (by omega); omega
  · rintro ⟨h1, h2⟩
    have : anyN xs.length (badCl xs) = false := anyN_no fun j hj => by
      unfold badCl
      rw [inB_iff.2 (h1 _ (mem_getD hj))]
      by_cases c : (j : Int) > 0
      · rw [decide_eq_true c, show ((j : Int) - 1).toNat = j - 1 by omega]
        have := pair_get (z := 0) h2 (a := j - 1) (b := j) (by omega) hj
        show decide _ = false
        exact decide_eq_false (by omega)
      · rw [decide_eq_false c]; rfl
    rw [this]; rfl
theorem cmpZ_rising {xs : List Int} (h : xs.Pairwise (· < ·)) (n : Int) : rising (cmpZ n) 0 xs := fun a b hab hb hc => by
  by_cases c : a = b
  · subst c; exact hc
  · have := pair_get (z := 0) h (a := a) (b := b) (by omega) hb
    unfold cmpZ at hc ⊢
    omega
theorem insI_sorted {xs : List Int} (hs : xs.Pairwise (· < ·)) {n : Int} {p : Nat} (hc : cutAt (cmpZ n) 0 xs p) (hn : n ∉ xs) : (insL p n xs).Pairwise (· < ·) := by
  obtain ⟨h1, h2, h3⟩ := hc
  have hl := insL_length (x := n) h1
  refine pair_of (z := 0) fun a b hab hb => ?_
  rw [hl] at hb
  rw [insL_getD h1, insL_getD h1]
  have lt : ∀ i, i < p → xs.getD i 0 < n := fun i hi => by have := h2 i hi; unfold cmpZ at this; omega
  have gt : ∀ i, p ≤ i → i < xs.length → n < xs.getD i 0 := fun i hi hj => by
    have := h3 i hi hj
    unfold cmpZ at this
    have : xs.getD i 0 ≠ n := fun e => hn (e ▸ mem_getD hj)
    omega
  have pw : ∀ i j, i < j → j < xs.length → xs.getD i 0 < xs.getD j 0 := fun i j h k => pair_get (z := 0) hs h k
  by_cases a1 : a < p
  · rw [if_pos a1]
    by_cases b1 : b < p
    · rw [if_pos b1]; exact pw a b hab (by omega)
    · rw [if_neg b1]
      by_cases b2 : b < p + 1
      · rw [if_pos b2]; exact lt a a1
      · rw [if_neg b2]; exact pw a (b - 1) (by omega) (by omega)
  · rw [if_neg a1, if_neg (show ¬ b < p by omega), if_neg (show ¬ b < p + 1 by omega)]
    by_cases a2 : a < p + 1
    · rw [if_pos a2]; exact gt (b - 1) (by omega) (by omega)
    · rw [if_neg a2]; exact pw (a - 1) (b - 1) (by omega) (by omega)
theorem putCl_ok {xs : List Int} (h : risesB xs = true) {n : Int} (hn : 1 ≤ n ∧ n ≤ 1000000) : risesB (putCl xs n) = true ∧ (putCl xs n).length ≤ (if n ∈ xs then xs.length else xs.length + 1) := by
  unfold putCl
  by_cases c : n ∈ xs
  · rw [if_pos c, if_pos c]; exact ⟨h, Nat.le_refl _⟩
  · rw [if_neg c, if_neg c]
    obtain ⟨h1, h2⟩ := risesB_iff.1 h
    have hc := posA_cut (cmpZ_rising h2 n)
    refine ⟨risesB_iff.2 ⟨fun x hx => ?_, insI_sorted h2 hc c⟩, by rw [insL_length hc.1]; exact Nat.le_refl _⟩
    rcases mem_insL.1 hx with rfl | hx
    · exact hn
    · exact h1 x hx
theorem map_set {α β : Type} (f : α → β) (xs : List α) (i : Nat) (y : α) : (xs.set i y).map f = (xs.map f).set i (f y) := by
  simp
theorem setCells_regs (m : GMachine) (r : Int) (xs : List GCell) : (setCells m r xs).copies.map GCopy.region = m.copies.map GCopy.region := by
  unfold setCells
  dsimp only
  rw [map_set]
  apply List.ext_getElem
  · simp
  · intro i h1 h2
    rw [List.getElem_set]
    split
    · rename_i e
      subst e
      simp only [List.length_set, List.length_map] at h1 h2
      simp [h2]
    · rfl
theorem has_regs (m : GMachine) (r : Int) : hasB m r = (m.copies.map GCopy.region).any (· == r) := by
  unfold hasB
  rw [List.any_map]
  rfl
theorem setCells_has (m : GMachine) (r q : Int) (xs : List GCell) : hasB (setCells m r xs) q = hasB m q := by rw [has_regs, has_regs, setCells_regs]
theorem setCells_len (m : GMachine) (r : Int) (xs : List GCell) : (setCells m r xs).copies.length = m.copies.length := by unfold setCells; simp
theorem setCells_ok {m : GMachine} (h : MachOk m) {r : Int} {xs : List GCell} (hx : cellsB xs = true) : MachOk (setCells m r xs) := by
  refine ⟨⟨by rw [setCells_len]; exact h.1.1, h.1.2.1, h.1.2.2⟩, h.2.1, fun j hj => ?_, h.2.2.2⟩
  rw [setCells_len] at hj
  have h1 := h.2.2.1 j hj
  have hreg : ∀ i, ((setCells m r xs).copies.getD i GCopy.z).region = (m.copies.getD i GCopy.z).region := fun i => by
    have e := congrArg (fun l => l.getD i 0) (setCells_regs m r xs)
    simp only [List.getD_eq_getElem?_getD, List.getElem?_map] at e ⊢
    cases c1 : (setCells m r xs).copies[i]? <;> cases c2 : m.copies[i]? <;> rw [c1, c2] at e <;> first | exact e | rfl
  unfold badCopy at h1 ⊢
  rw [hreg, hreg]
  obtain ⟨g1, g2⟩ := bif_or_false.1 h1
  obtain ⟨g3, g4⟩ := bif_or_false.1 g1
  refine bif_or_false.2 ⟨bif_or_false.2 ⟨g3, ?_⟩, g2⟩
  unfold setCells
  dsimp only
  by_cases c : j = (idxI (atB r) m.copies).toNat
  · subst c
    rw [show ((m.copies.set (idxI (atB r) m.copies).toNat ⟨(m.copies.getD (idxI (atB r) m.copies).toNat GCopy.z).region, xs⟩).getD (idxI (atB r) m.copies).toNat GCopy.z) = ⟨(m.copies.getD (idxI (atB r) m.copies).toNat GCopy.z).region, xs⟩ from by simp [List.getD_eq_getElem?_getD, hj]]
    dsimp only
    rw [hx]; rfl
  · rw [show ((m.copies.set (idxI (atB r) m.copies).toNat ⟨(m.copies.getD (idxI (atB r) m.copies).toNat GCopy.z).region, xs⟩).getD j GCopy.z) = m.copies.getD j GCopy.z from by
      simp only [List.getD_eq_getElem?_getD]; rw [List.getElem?_set_ne (Ne.symm c)]]
    exact g4
theorem log_ok {m : GMachine} (h : MachOk m) {log : List GRecord} (hl : log.length ≤ 200) (hr : ∀ x ∈ log, recB x = true) : MachOk { m with log := log } := ⟨⟨h.1.1, hl, h.1.2.2⟩, h.2.1, h.2.2.1, fun j hj => hr _ (getD_mem hj)⟩
theorem logs {m : GMachine} (h : MachOk m) : ∀ x ∈ m.log, recB x = true := all_getD (z := GRecord.z) h.2.2.2
theorem clearR_ok {m : GMachine} (h : MachOk m) {tx r : Int} (ht : 1 ≤ tx ∧ tx ≤ 1000000) {d : Bool} (hc : d = true → canClear m tx = true) : MachOk (clearR m tx r d) := by
  have h1 : MachOk (clearL m tx r) := log_ok h (Nat.le_trans (List.length_filter_le _ _) h.1.2.1) fun y hy => logs h y (List.mem_filter.1 hy).1
  cases d with
  | false => exact h1
  | true =>
    obtain ⟨g1, g2⟩ := putCl_ok (xs := m.cleared) h.2.1 ht
    refine ⟨⟨h1.1.1, h1.1.2.1, ?_⟩, g1, h1.2.2⟩
    have := hc rfl
    unfold canClear at this
    have g3 := h.1.2.2
    show (putCl m.cleared tx).length ≤ 60
    by_cases c : tx ∈ m.cleared
    · rw [if_pos c] at g2; omega
    · rw [if_neg c] at g2
      rw [decide_eq_false c] at this
      have : (m.cleared.length : Int) < 60 := by simpa using this
      omega
theorem rowP_reg {b : Bool} {r : Int} {ms : List Int} {x : GCopyAt} {i : Nat} (hi : i ≤ ms.length) (h : x ∈ rowP b r ms i) : x.region = r := by
  obtain ⟨j, _, rfl⟩ := rowP_mem hi h; rfl
theorem copN_reg {c : GCluster} {ws : List Int} {b : Bool} {x : GCopyAt} : ∀ {k : Nat}, k ≤ ws.length → x ∈ copN c ws b k → x.region ∈ ws
  | 0, _, h => by cases h
  | k + 1, hk, h => by
    rw [copN] at h
    rcases List.mem_append.1 h with h | h
    · exact copN_reg (by omega) h
    · rw [rowP_reg (Nat.le_refl _) h]; exact mem_getD hk
theorem planL_wants {c : GCluster} {t : GTx} (h3 : t.phase ≠ 3) {x : GCopyAt} (h : x ∈ planL c t) : x.region ∈ wantsL t := by
  unfold planL at h
  rw [if_neg h3] at h
  split at h
  · exact copN_reg (Nat.le_refl _) h
  · split at h
    · exact copN_reg (Nat.le_refl _) h
    · split at h
      · cases h
      · obtain ⟨r, h1, rfl⟩ := List.mem_map.1 h
        exact h1
theorem TxIn.same {c : GCluster} {t u : GTx} (h : TxIn c t) (hs : Same t u) (h4 : 1 ≤ u.phase ∧ u.phase ≤ 9) (h5 : 0 ≤ u.done ∧ u.done ≤ 1000) (h6 : 0 ≤ u.stamp ∧ u.stamp ≤ 1000000) : TxIn c u := by
  obtain ⟨⟨g1, g2, g3⟩, hh, hn, hst⟩ := h
  refine ⟨?_, by rw [hs.home]; exact hh, by rw [hs.reads]; exact hn, by rw [hs.sets]; exact hst⟩
  unfold TxOk headOk
  rw [hs.id, hs.home, hs.reads, hs.sets]
  exact ⟨⟨g1.1, g1.2.1, h4, h5, h6, g1.2.2.2.2.2⟩, g2, g3⟩
structure Mid (c : GCluster) (i : Nat) (y : Int × GTx) : Prop where
  tx : TxIn c y.2
  same : Same (c.txs.getD i GTx.z) y.2
  stop : stopP c y.2
  phase : 2 ≤ y.2.phase ∧ y.2.phase ≤ 9
  clock : c.clock ≤ y.1 ∧ y.1 ≤ 1000000
  lock : y.2.phase = 2 → y.1 < 1000000
  stamp : 0 ≤ y.2.stamp ∧ y.2.stamp ≤ y.1
theorem Mid.done {c : GCluster} {i : Nat} {y : Int × GTx} (h : Mid c i y) (hn : ¬ (y.2.phase = 7 ∨ y.2.phase = 9)) : 0 ≤ y.2.done ∧ y.2.done.toNat < (planL c y.2).length := by
  have h1 := h.tx.ok.1.2.2.2.1
  rcases h.stop with e | e | e
  · exact absurd (.inl e) hn
  · exact absurd (.inr e) hn
  · omega
theorem Mid.at {c : GCluster} (hok : ClusOk c) {i : Nat} {y : Int × GTx} (h : Mid c i y) (hn : ¬ (y.2.phase = 7 ∨ y.2.phase = 9)) : AtIn c (planA c y.2) ∧ (y.2.phase ≠ 3 → (planA c y.2).region ∈ wantsL y.2) ∧ (planA c y.2).machine.toNat < c.machines.length ∧ 0 ≤ (planA c y.2).machine ∧
    ((c.machines.getD (planA c y.2).machine.toNat GMachine.z).alive = true → hasB (c.machines.getD (planA c y.2).machine.toNat GMachine.z) (planA c y.2).region = true) := by
  have hm : planA c y.2 ∈ planL c y.2 := getD_mem (h.done hn).2
  have h1 := planL_in hok h.tx _ hm
  obtain ⟨j, h2, h3, h4⟩ := h1.at'
  have h5 := hok.at (r := (planA c y.2).region.toNat) (k := j) (by have := h1.region; omega) h2
  rw [← h3, Int.toNat_of_nonneg h1.region.1] at h5
  have h6 := h5.2
  unfold machAt at h6
  rw [← h3] at h6
  exact ⟨h1, fun e => planL_wants e hm, by omega, h5.1.1, h6⟩
end Go.Proofs.YtcikaknfogpeeaaGreat
namespace Go.Proofs.YtcikaknfogpeeaaGreat
open Go Go.RowKit
set_option linter.unusedVariables false
set_option linter.unusedSimpArgs false
set_option maxRecDepth 4000
theorem pack_q (v : Int) (h : 0 ≤ v ∧ v ≤ 1000000) (u : Bool) : Ans Tryz.prog 223 [] [vI v, vB u, vB false] [] (vI (4 * v + (bif u then 2 else 0))) := by
  refine con_enter Tryz.func223 rfl rfl rfl fun B0 r_ D_ w0 => ?_
  refine T_auto TT_ok rfl ?_
  refine T_cond rfl (fun e => ?_) (fun e => ?_)
  · subst e
    refine T_auto TT_ok rfl ?_
    refine T_cond rfl (fun e => by cases e) (fun _ => ?_)
    refine T_auto TT_ok rfl ?_
    exact T_ansI TT_ok [(6, none)] rfl rfl (rfl)
  · subst e
    refine T_auto TT_ok rfl ?_
    refine T_cond rfl (fun e => by cases e) (fun _ => ?_)
    refine T_auto TT_ok rfl ?_
    exact T_ansI TT_ok [(6, none)] rfl rfl ((by simp))
theorem l1Head_q (v : Int) (h : 0 ≤ v ∧ v ≤ 1000000) (u : Bool) : Ans Tryz.prog 131 [] [vI v, vB u, vB false] [] (vI (4 * v + (bif u then 2 else 0))) := by
  refine con_enter Tryz.func131 rfl rfl rfl fun B0 r_ D_ w0 => ?_
  refine T_auto TT_ok rfl ?_
  refine T_cond rfl (fun e => ?_) (fun e => ?_)
  · subst e
    refine T_auto TT_ok rfl ?_
    refine T_cond rfl (fun e => by cases e) (fun _ => ?_)
    refine T_auto TT_ok rfl ?_
    exact T_ansI TT_ok [(6, none)] rfl rfl (rfl)
  · subst e
    refine T_auto TT_ok rfl ?_
    refine T_cond rfl (fun e => by cases e) (fun _ => ?_)
    refine T_auto TT_ok rfl ?_
    exact T_ansI TT_ok [(6, none)] rfl rfl ((by simp))
theorem cell_at {ys : List GCell} {s : GSet} (h : cellsB ys = true) (hs : setB s = true) : ys.length = 6 ∧ (0 ≤ s.slot ∧ s.slot ≤ 5) ∧ (0 ≤ s.version ∧ s.version ≤ 999999) ∧ headB (cellS ys s).head = true ∧ 0 ≤ (cellS ys s).head ∧ (cellS ys s).head ≤ 4000003 ∧ 0 ≤ (cellS ys s).head.tdiv 4 ∧ (cellS ys s).head.tdiv 4 ≤ 1000000 := by
  have h1 := cellsB_iff.1 h
  have h2 := setB_iff.1 hs
  have h3 := (badCell_iff.1 (h1.2 _ (cellS_mem h1.1 hs))).1
  have h4 : headB (cellS ys s).head = true := headB_iff.2 h3
  rw [tdiv_nn h3.1]
  exact ⟨h1.1, h2.2.1, h2.2.2.2, h4, h3.1, h3.2, by omega, by omega⟩
theorem install_k (xs : List GCell) (sets : List GSet) (hl : sets.length ≤ 1048576) (hx : cellsB xs = true) (hs : ∀ s ∈ sets, setB s = true) :
    Con Tryz.prog 165 [900] [.a (.g 900), vL 5 cSet GSet.z sets] [(900, arrC 2 cCell GCell.z xs)] (fun _ : Unit => True) (fun _ => []) fun _ => [(900, arrC 2 cCell GCell.z (instL xs sets))] := by
  refine con_enter Tryz.func165 rfl rfl rfl fun B0 r_ D_ w0 => ?_
  refine T_auto TT_ok rfl ?_
  refine T_loopA (ι := Nat) (fun i => [(9, vI i)]) (fun i => [(900, arrC 2 cCell GCell.z ((sets.take i).foldl instF xs))]) (fun i => i ≤ sets.length) (fun i => sets.length - i) 0 [900] [] rfl rfl (Nat.zero_le _) (by repeat (first | exact trivial | refine And.intro ⟨_, rfl, SV.imp_refl _⟩ ?_)) (by repeat (first | exact trivial | refine And.intro ⟨_, rfl, Ch.imp_refl _⟩ ?_)) ?_
  intro i h1
  refine T_auto TT_ok rfl ?_
  refine T_condD rfl (fun e => ?_) (fun e => ?_)
  · have hi : i < sets.length := by omega
    have hsb := hs _ (getD_mem (z := GSet.z) hi)
    have hy : cellsB ((sets.take i).foldl instF xs) = true := foldl_ok (fun _ _ => instF_ok) (fun s h => hs s (List.mem_of_mem_take h)) hx
    obtain ⟨c1, c2, c3, c4, c5, c6, c7, c8⟩ := cell_at hy hsb
    have hF := foldl_take (z := GSet.z) instF xs hi
    generalize hys : (sets.take i).foldl instF xs = ys at hy c1 c4 c5 c6 c7 c8 hF ⊢
    have hin : InR ((cellS ys (sets.getD i GSet.z)).head.tdiv 4) := tdiv_in c5 c6 (by decide)
    unfold cellS at c7 c8 hin
    refine T_auto TT_ok rfl ?_
    refine T_drawL TT_ok [] [0, 1, 2, 3, 4, 5, 6, 7, 8, 9] rfl rfl fun B0 H0 => ?_
    refine DJ_endA TT_ok rfl ?_
    refine T_condD rfl (fun e2 => ?_) (fun e2 => ?_)
    · refine T_auto TT_ok rfl ?_
      exact X_inv (i + 1) hi (by omega) (by repeat (first | exact trivial | refine And.intro ⟨_, rfl, SV.imp_refl _⟩ ?_)) ⟨⟨_, rfl, imp_list (by rw [hF]; unfold instF; rw [if_pos (show (cellS ys (sets.getD i GSet.z)).head.tdiv 4 > (sets.getD i GSet.z).version from e2)])⟩, (by repeat (first | exact trivial | refine And.intro ⟨_, rfl, Ch.imp_refl _⟩ ?_))⟩
    · have hN : instF ys (sets.getD i GSet.z) = ys.set (sets.getD i GSet.z).slot.toNat (instC (sets.getD i GSet.z)) := by unfold instF; rw [if_neg (show ¬ (cellS ys (sets.getD i GSet.z)).head.tdiv 4 > (sets.getD i GSet.z).version from e2)]
      refine T_auto TT_ok rfl ?_
      refine RJ_Q TT_ok (pack_q ((sets.getD i GSet.z).version + 1) ⟨by omega, by omega⟩ _) rfl rfl rfl rfl rfl ?_
      refine T_cond rfl (fun e3 => ?_) (fun e3 => ?_)
      · refine T_auto TT_ok rfl ?_
        exact X_inv (i + 1) hi (by omega) (by repeat (first | exact trivial | refine And.intro ⟨_, rfl, SV.imp_refl _⟩ ?_)) ⟨⟨_, rfl, by rw [hF, hN]; unfold instC; simp only [Int.toNat_natCast] at e3 ⊢; rw [e3]; exact imp_set (OwnI.refl _)⟩, (by repeat (first | exact trivial | refine And.intro ⟨_, rfl, Ch.imp_refl _⟩ ?_))⟩
      · refine T_auto TT_ok rfl ?_
        exact X_inv (i + 1) hi (by omega) (by repeat (first | exact trivial | refine And.intro ⟨_, rfl, SV.imp_refl _⟩ ?_)) ⟨⟨_, rfl, by rw [hF, hN]; unfold instC; simp only [Int.toNat_natCast] at e3 ⊢; rw [e3]; exact imp_set (OwnI.refl _)⟩, (by repeat (first | exact trivial | refine And.intro ⟨_, rfl, Ch.imp_refl _⟩ ?_))⟩
  · have hi : i = sets.length := by omega
    subst hi
    rw [List.take_length]
    refine T_exit rfl ?_
    refine X_fin TT_ok () [] rfl rfl ?_ ?_ ?_
    · exact SVs.imp_refl _
    · exact ⟨⟨_, rfl, Ch.imp_refl _⟩, trivial⟩
    · trivial
theorem unlock_k (xs : List GCell) (sets : List GSet) (hl : sets.length ≤ 1048576) (hx : cellsB xs = true) (hs : ∀ s ∈ sets, setB s = true) :
    Con Tryz.prog 168 [900] [.a (.g 900), vL 5 cSet GSet.z sets] [(900, arrC 2 cCell GCell.z xs)] (fun _ : Unit => True) (fun _ => []) fun _ => [(900, arrC 2 cCell GCell.z (unlkL xs sets))] := by
  refine con_enter Tryz.func168 rfl rfl rfl fun B0 r_ D_ w0 => ?_
  refine T_auto TT_ok rfl ?_
  refine T_loopA (ι := Nat) (fun i => [(8, vI i)]) (fun i => [(900, arrC 2 cCell GCell.z ((sets.take i).foldl unlkF xs))]) (fun i => i ≤ sets.length) (fun i => sets.length - i) 0 [900] [] rfl rfl (Nat.zero_le _) (by repeat (first | exact trivial | refine And.intro ⟨_, rfl, SV.imp_refl _⟩ ?_)) (by repeat (first | exact trivial | refine And.intro ⟨_, rfl, Ch.imp_refl _⟩ ?_)) ?_
  intro i h1
  refine T_auto TT_ok rfl ?_
  refine T_condD rfl (fun e => ?_) (fun e => ?_)
  · have hi : i < sets.length := by omega
    have hsb := hs _ (getD_mem (z := GSet.z) hi)
    have hy : cellsB ((sets.take i).foldl unlkF xs) = true := foldl_ok (fun _ _ => unlkF_ok) (fun s h => hs s (List.mem_of_mem_take h)) hx
    obtain ⟨c1, c2, c3, c4, c5, c6, c7, c8⟩ := cell_at hy hsb
    have hF := foldl_take (z := GSet.z) unlkF xs hi
    generalize hys : (sets.take i).foldl unlkF xs = ys at hy c1 c4 c5 c6 c7 c8 hF ⊢
    have hin : InR ((cellS ys (sets.getD i GSet.z)).head.tdiv 4) := tdiv_in c5 c6 (by decide)
    have hA := an1 c4
    have hD := tdiv_nn (b := 2) c5
    unfold cellS at c7 c8 hin hA hD
    refine T_auto TT_ok rfl ?_
    refine T_drawL TT_ok [] [0, 1, 2, 3, 4, 5, 6, 7, 8, 9] rfl rfl fun B0 H0 => ?_
    refine DJ_endA TT_ok rfl ?_
    refine T_condE rfl (fun e2 => ?_) (fun e2 => ?_)
    · have hN : unlkF ys (sets.getD i GSet.z) = ys.set (sets.getD i GSet.z).slot.toNat ⟨(cellS ys (sets.getD i GSet.z)).head.tdiv 2 * 2, (cellS ys (sets.getD i GSet.z)).value⟩ := by unfold unlkF; rw [if_pos (show (cellS ys (sets.getD i GSet.z)).head.tdiv 4 = (sets.getD i GSet.z).version from e2)]
      refine T_auto TT_ok rfl ?_
      exact X_inv (i + 1) hi (by omega) (by repeat (first | exact trivial | refine And.intro ⟨_, rfl, SV.imp_refl _⟩ ?_)) ⟨⟨_, rfl, by rw [hF, hN]; unfold cellS; rw [hD, ← hA]; simp only [Int.toNat_natCast]; exact imp_set (OwnI.refl _)⟩, (by repeat (first | exact trivial | refine And.intro ⟨_, rfl, Ch.imp_refl _⟩ ?_))⟩
    · refine T_auto TT_ok rfl ?_
      exact X_inv (i + 1) hi (by omega) (by repeat (first | exact trivial | refine And.intro ⟨_, rfl, SV.imp_refl _⟩ ?_)) ⟨⟨_, rfl, imp_list (by rw [hF]; unfold unlkF; rw [if_neg (show ¬ (cellS ys (sets.getD i GSet.z)).head.tdiv 4 = (sets.getD i GSet.z).version from e2)])⟩, (by repeat (first | exact trivial | refine And.intro ⟨_, rfl, Ch.imp_refl _⟩ ?_))⟩
  · have hi : i = sets.length := by omega
    subst hi
    rw [List.take_length]
    refine T_exit rfl ?_
    refine X_fin TT_ok () [] rfl rfl ?_ ?_ ?_
    · exact SVs.imp_refl _
    · exact ⟨⟨_, rfl, Ch.imp_refl _⟩, trivial⟩
    · trivial
end Go.Proofs.YtcikaknfogpeeaaGreat
namespace Go.Proofs.YtcikaknfogpeeaaGreat
open Go Go.RowKit
set_option linter.unusedVariables false
set_option linter.unusedSimpArgs false
set_option maxRecDepth 4000
theorem spec_Version_q (h : Int) : Ans Tryz.prog 61 [] [vI h] [] (vI (verI h)) := by
  refine con_enter Tryz.func61 rfl rfl rfl fun B0 r_ D_ w0 => ?_
  refine T_auto TT_ok rfl ?_
  refine RJ_Q TT_ok (spec_HeadOk_q _) rfl rfl rfl rfl rfl ?_
  refine T_condX rfl (fun e => ?_) (fun e => ?_)
  · rw [show verI h = -1 from by unfold verI; rw [if_neg (by rw [show headB h = false from e]; simp)]]
    refine T_auto TT_ok rfl ?_
    exact T_ansI TT_ok [(2, none)] rfl rfl (rfl)
  · have hh := headB_iff.1 (show headB h = true from e)
    have hv : 0 ≤ h.tdiv 4 ∧ h.tdiv 4 ≤ 1000000 := by rw [Int.tdiv_eq_ediv_of_nonneg hh.1]; omega
    rw [show verI h = h.tdiv 4 from by unfold verI; rw [if_pos (show headB h = true from e)]]
    refine T_auto TT_ok rfl ?_
    exact T_ansI TT_ok [(2, none)] rfl rfl (rfl)
end Go.Proofs.YtcikaknfogpeeaaGreat
namespace Go.Proofs.YtcikaknfogpeeaaGreat
open Go Go.RowKit
set_option linter.unusedVariables false
set_option linter.unusedSimpArgs false
set_option maxRecDepth 4000
theorem l3Install_k (xs : List GCell) (sets : List GSet) (hl : sets.length ≤ 1048576) (hx : cellsB xs = true) (hs : ∀ s ∈ sets, setB s = true) :
    Con Tryz.prog 62 [900] [.a (.g 900), vL 5 cSet GSet.z sets] [(900, arrC 2 cCell GCell.z xs)] (fun _ : Unit => True) (fun _ => []) fun _ => [(900, arrC 2 cCell GCell.z (instL xs sets))] := by
  refine con_enter Tryz.func62 rfl rfl rfl fun B0 r_ D_ w0 => ?_
  refine T_auto TT_ok rfl ?_
  refine T_loopA (ι := Nat) (fun i => [(4, vI i)]) (fun i => [(900, arrC 2 cCell GCell.z ((sets.take i).foldl instF xs))]) (fun i => i ≤ sets.length) (fun i => sets.length - i) 0 [900] [] rfl rfl (Nat.zero_le _) (by repeat (first | exact trivial | refine And.intro ⟨_, rfl, SV.imp_refl _⟩ ?_)) (by repeat (first | exact trivial | refine And.intro ⟨_, rfl, Ch.imp_refl _⟩ ?_)) ?_
  intro i h1
  refine T_auto TT_ok rfl ?_
  refine T_condD rfl (fun e => ?_) (fun e => ?_)
  · have hi : i < sets.length := by omega
    have hsb := hs _ (getD_mem (z := GSet.z) hi)
    have hy : cellsB ((sets.take i).foldl instF xs) = true := foldl_ok (fun _ _ => instF_ok) (fun s h => hs s (List.mem_of_mem_take h)) hx
    obtain ⟨c1, c2, c3, c4, c5, c6, c7, c8⟩ := cell_at hy hsb
    have hF := foldl_take (z := GSet.z) instF xs hi
    generalize hys : (sets.take i).foldl instF xs = ys at hy c1 c4 c5 c6 c7 c8 hF ⊢
    have hV := ver4 c4
    unfold cellS at c7 c8 hV
    refine T_auto TT_ok rfl ?_
    refine T_drawL TT_ok [] [0, 1, 2, 3, 4, 5, 7, 8, 6, 9] rfl rfl fun B0 H0 => ?_
    refine DJ_Qi 6 (spec_Version_q _) rfl rfl rfl (SVs.imp_refl _) rfl ?_
    refine DJ_onL TT_ok [9] rfl ?_
    refine DJ_endA TT_ok rfl ?_
    refine T_condD rfl (fun e2 => ?_) (fun e2 => ?_)
    · simp only [Int.toNat_natCast] at e2
      rw [hV] at e2
      refine T_auto TT_ok rfl ?_
      exact X_inv (i + 1) hi (by omega) (by repeat (first | exact trivial | refine And.intro ⟨_, rfl, SV.imp_refl _⟩ ?_)) ⟨⟨_, rfl, imp_list (by rw [hF]; unfold instF; rw [if_pos (show (cellS ys (sets.getD i GSet.z)).head.tdiv 4 > (sets.getD i GSet.z).version from e2)])⟩, (by repeat (first | exact trivial | refine And.intro ⟨_, rfl, Ch.imp_refl _⟩ ?_))⟩
    · simp only [Int.toNat_natCast] at e2
      rw [hV] at e2
      have hN : instF ys (sets.getD i GSet.z) = ys.set (sets.getD i GSet.z).slot.toNat (instC (sets.getD i GSet.z)) := by unfold instF; rw [if_neg (show ¬ (cellS ys (sets.getD i GSet.z)).head.tdiv 4 > (sets.getD i GSet.z).version from e2)]
      refine T_auto TT_ok rfl ?_
      refine T_condX rfl (fun e3 => ?_) (fun e3 => ?_)
      · refine T_auto TT_ok rfl ?_
        refine T_drawL TT_ok [] [0, 1, 2, 3, 4, 5, 6, 7, 9, 8, 10, 11, 12] rfl rfl fun B0 H0 => ?_
        refine DJ_Qi 8 (l1Head_q ((sets.getD i GSet.z).version + 1) ⟨by omega, by omega⟩ _) rfl rfl rfl (SVs.imp_refl _) rfl ?_
        refine DJ_onL TT_ok [10, 11, 12] rfl ?_
        refine DJ_sw2 12 rfl (by kernel_rfl) (by kernel_rfl) (OJ_M TT_ok rfl rfl rfl rfl rfl rfl (SJ_sw [] fun B0 H0 => ?_))
        refine DJ_endA TT_ok rfl ?_
        exact X_inv (i + 1) hi (by omega) (by repeat (first | exact trivial | refine And.intro ⟨_, rfl, SV.imp_refl _⟩ ?_)) ⟨⟨_, rfl, by rw [hF, hN]; unfold instC; simp only [Int.toNat_natCast] at e3 ⊢; rw [e3]; exact imp_set (OwnI.refl _)⟩, (by repeat (first | exact trivial | refine And.intro ⟨_, rfl, Ch.imp_refl _⟩ ?_))⟩
      · refine T_auto TT_ok rfl ?_
        refine T_drawL TT_ok [] [0, 1, 2, 3, 4, 5, 6, 7, 9, 8, 10, 11, 12] rfl rfl fun B0 H0 => ?_
        refine DJ_Qi 8 (l1Head_q ((sets.getD i GSet.z).version + 1) ⟨by omega, by omega⟩ _) rfl rfl rfl (SVs.imp_refl _) rfl ?_
        refine DJ_onL TT_ok [10, 11, 12] rfl ?_
        refine DJ_sw2 12 rfl (by kernel_rfl) (by kernel_rfl) (OJ_M TT_ok rfl rfl rfl rfl rfl rfl (SJ_sw [] fun B0 H0 => ?_))
        refine DJ_endA TT_ok rfl ?_
        exact X_inv (i + 1) hi (by omega) (by repeat (first | exact trivial | refine And.intro ⟨_, rfl, SV.imp_refl _⟩ ?_)) ⟨⟨_, rfl, by rw [hF, hN]; unfold instC; simp only [Int.toNat_natCast] at e3 ⊢; rw [e3]; exact imp_set (OwnI.refl _)⟩, (by repeat (first | exact trivial | refine And.intro ⟨_, rfl, Ch.imp_refl _⟩ ?_))⟩
  · have hi : i = sets.length := by omega
    subst hi
    rw [List.take_length]
    refine T_exit rfl ?_
    refine X_fin TT_ok () [] rfl rfl ?_ ?_ ?_
    · exact SVs.imp_refl _
    · exact ⟨⟨_, rfl, Ch.imp_refl _⟩, trivial⟩
    · trivial
theorem l3Unlock_k (xs : List GCell) (sets : List GSet) (hl : sets.length ≤ 1048576) (hx : cellsB xs = true) (hs : ∀ s ∈ sets, setB s = true) :
    Con Tryz.prog 66 [900] [.a (.g 900), vL 5 cSet GSet.z sets] [(900, arrC 2 cCell GCell.z xs)] (fun _ : Unit => True) (fun _ => []) fun _ => [(900, arrC 2 cCell GCell.z (unlkL xs sets))] := by
  refine con_enter Tryz.func66 rfl rfl rfl fun B0 r_ D_ w0 => ?_
  refine T_auto TT_ok rfl ?_
  refine T_loopA (ι := Nat) (fun i => [(4, vI i)]) (fun i => [(900, arrC 2 cCell GCell.z ((sets.take i).foldl unlkF xs))]) (fun i => i ≤ sets.length) (fun i => sets.length - i) 0 [900] [] rfl rfl (Nat.zero_le _) (by repeat (first | exact trivial | refine And.intro ⟨_, rfl, SV.imp_refl _⟩ ?_)) (by repeat (first | exact trivial | refine And.intro ⟨_, rfl, Ch.imp_refl _⟩ ?_)) ?_
  intro i h1
  refine T_auto TT_ok rfl ?_
  refine T_condD rfl (fun e => ?_) (fun e => ?_)
  · have hi : i < sets.length := by omega
    have hsb := hs _ (getD_mem (z := GSet.z) hi)
    have hy : cellsB ((sets.take i).foldl unlkF xs) = true := foldl_ok (fun _ _ => unlkF_ok) (fun s h => hs s (List.mem_of_mem_take h)) hx
    obtain ⟨c1, c2, c3, c4, c5, c6, c7, c8⟩ := cell_at hy hsb
    have hF := foldl_take (z := GSet.z) unlkF xs hi
    generalize hys : (sets.take i).foldl unlkF xs = ys at hy c1 c4 c5 c6 c7 c8 hF ⊢
    have hV := ver4 c4
    have hin : InR ((cellS ys (sets.getD i GSet.z)).head.tdiv 2) := tdiv_in c5 c6 (by decide)
    have hD := tdiv_nn (b := 2) c5
    have hin2 : InR ((cellS ys (sets.getD i GSet.z)).head.tdiv 2 * 2) := by rw [hD]; unfold InR; omega
    unfold cellS at c7 c8 hV hin hin2
    unfold InR at hin hin2
    refine T_auto TT_ok rfl ?_
    refine T_drawL TT_ok [] [0, 2, 3, 4, 5, 6, 1, 7] rfl rfl fun B0 H0 => ?_
    refine DJ_Qi 1 (spec_Version_q _) rfl rfl rfl (SVs.imp_refl _) rfl ?_
    refine DJ_onL TT_ok [7] rfl ?_
    refine DJ_endA TT_ok rfl ?_
    refine T_condE rfl (fun e2 => ?_) (fun e2 => ?_)
    · simp only [Int.toNat_natCast] at e2
      rw [hV] at e2
      have hN : unlkF ys (sets.getD i GSet.z) = ys.set (sets.getD i GSet.z).slot.toNat ⟨(cellS ys (sets.getD i GSet.z)).head.tdiv 2 * 2, (cellS ys (sets.getD i GSet.z)).value⟩ := by unfold unlkF; rw [if_pos (show (cellS ys (sets.getD i GSet.z)).head.tdiv 4 = (sets.getD i GSet.z).version from e2)]
      refine T_auto TT_ok rfl ?_
      exact X_inv (i + 1) hi (by omega) (by repeat (first | exact trivial | refine And.intro ⟨_, rfl, SV.imp_refl _⟩ ?_)) ⟨⟨_, rfl, by rw [hF, hN]; unfold cellS; simp only [Int.toNat_natCast]; exact imp_set (OwnI.refl _)⟩, (by repeat (first | exact trivial | refine And.intro ⟨_, rfl, Ch.imp_refl _⟩ ?_))⟩
    · simp only [Int.toNat_natCast] at e2
      rw [hV] at e2
      refine T_auto TT_ok rfl ?_
      exact X_inv (i + 1) hi (by omega) (by repeat (first | exact trivial | refine And.intro ⟨_, rfl, SV.imp_refl _⟩ ?_)) ⟨⟨_, rfl, imp_list (by rw [hF]; unfold unlkF; rw [if_neg (show ¬ (cellS ys (sets.getD i GSet.z)).head.tdiv 4 = (sets.getD i GSet.z).version from e2)])⟩, (by repeat (first | exact trivial | refine And.intro ⟨_, rfl, Ch.imp_refl _⟩ ?_))⟩
  · have hi : i = sets.length := by omega
    subst hi
    rw [List.take_length]
    refine T_exit rfl ?_
    refine X_fin TT_ok () [] rfl rfl ?_ ?_ ?_
    · exact SVs.imp_refl _
    · exact ⟨⟨_, rfl, Ch.imp_refl _⟩, trivial⟩
    · trivial
end Go.Proofs.YtcikaknfogpeeaaGreat
namespace Go.Proofs.YtcikaknfogpeeaaGreat
open Go Go.RowKit
set_option linter.unusedVariables false
set_option linter.unusedSimpArgs false
set_option maxRecDepth 4000
theorem isNaNs_q (a : Int) : Ans Tryz.prog 246 [] [vI a] [] (vB false) := by
  refine con_enter Tryz.func246 rfl rfl rfl fun B0 r_ D_ w0 => ?_
  refine T_auto TT_ok rfl ?_
  exact T_ansB TT_ok [(2, none)] rfl rfl (by simp)
theorem less_q (a b : Int) : Ans Tryz.prog 245 [] [vI a, vI b] [] (vB (decide (a < b))) := by
  refine con_enter Tryz.func245 rfl rfl rfl fun B0 r_ D_ w0 => ?_
  refine T_auto TT_ok rfl ?_
  refine RJ_Q TT_ok (isNaN_q _) rfl rfl rfl rfl rfl ?_
  refine RJ_Q TT_ok (isNaN_q _) rfl rfl rfl rfl rfl ?_
  exact T_ansB TT_ok [(4, none)] rfl rfl (rfl)
theorem found_int {xs : List Int} (hs : xs.Pairwise (· < ·)) {n : Int} {i : Nat} (h : cutAt (cmpZ n) 0 xs i) : (bif decide ((i : Int) < xs.length) then (bif xs.getD i 0 == n then true else false) else false) = decide (n ∈ xs) := by
  obtain ⟨h1, h2, h3⟩ := h
  by_cases c : n ∈ xs
  · rw [decide_eq_true c]
    obtain ⟨a, ha, e⟩ := mem_iff_getD.1 c
    have hia : i ≤ a := by
      rcases Nat.lt_or_ge a i with h | h
      · have := h2 a h; unfold cmpZ at this; omega
      · exact h
    have hi : i < xs.length := by omega
    have : xs.getD i 0 = n := by
      by_cases c2 : i = a
      · subst c2; exact e
      · have h4 := pair_get (z := 0) hs (a := i) (b := a) (by omega) ha
        have h5 := h3 i (Nat.le_refl _) hi
        unfold cmpZ at h5
        omega
    rw [decide_eq_true (by omega), this]
    simp
  · rw [decide_eq_false c]
    by_cases hi : (i : Int) < xs.length
    · rw [decide_eq_true hi]
      have : xs.getD i 0 ≠ n := fun e => c (e ▸ mem_getD (by omega))
      rw [beq_eq_false_iff_ne.2 this]; rfl
    · rw [decide_eq_false hi]; rfl
theorem searchInt_c (xs : List Int) (hl : xs.length ≤ 1048576) (n : Int) (hs : xs.Pairwise (· < ·)) : Con Tryz.prog 227 [] [vL 1 cInt 0 xs, vI n] [] (fun _ : Unit => True)
    (fun _ => [vI (posA (cmpZ n) 0 xs : Nat), vB (decide (n ∈ xs))]) fun _ => [] := by
  have hm := cmpZ_rising hs n
  refine con_enter Tryz.func227 rfl rfl rfl fun B0 r_ D_ w0 => ?_
  refine T_auto TT_ok rfl ?_
  refine T_loopA (ι := Nat × Nat) (fun y => [(7, vI y.1), (8, vI y.2)]) (fun _ => []) (fun y => y.1 ≤ y.2 ∧ y.2 ≤ xs.length ∧ (∀ a, a < y.1 → cmpZ n (xs.getD a 0) < 0) ∧ ∀ a, y.2 ≤ a → a < xs.length → ¬ cmpZ n (xs.getD a 0) < 0) (fun y => y.2 - y.1) (0, xs.length) [] [] rfl rfl ⟨Nat.zero_le _, Nat.le_refl _, fun a h => absurd h (Nat.not_lt_zero _), fun a h1 h2 => by omega⟩ (by repeat (first | exact trivial | refine And.intro ⟨_, rfl, SV.imp_refl _⟩ ?_)) (by repeat (first | exact trivial | refine And.intro ⟨_, rfl, Ch.imp_refl _⟩ ?_)) ?_
  rintro ⟨i, j⟩ ⟨h1, h2, h3, h4⟩
  dsimp only at h1 h2 h3 h4 ⊢
  refine T_auto TT_ok rfl ?_
  refine T_condD rfl (fun e => ?_) (fun e => ?_)
  · have hij : i < j := by omega
    have hh : (((i : Int) + j) / 2).toNat = (i + j) / 2 := by omega
    refine T_auto TT_ok rfl ?_
    refine RJ_Q TT_ok (less_q _ _) rfl rfl rfl rfl rfl ?_
    refine T_condD rfl (fun e2 => ?_) (fun e2 => ?_)
    · rw [hh] at e2
      refine T_auto TT_ok rfl ?_
      refine X_inv ((i + j) / 2 + 1, j) ⟨by dsimp only; omega, h2, fun a ha => ?_, h4⟩ (by show j - ((i + j) / 2 + 1) < j - i; omega) ⟨⟨_, rfl, SV.imp_of (vI_eq (by dsimp only; omega))⟩, ⟨_, rfl, SV.imp_refl _⟩, (by repeat (first | exact trivial | refine And.intro ⟨_, rfl, SV.imp_refl _⟩ ?_))⟩ (by repeat (first | exact trivial | refine And.intro ⟨_, rfl, Ch.imp_refl _⟩ ?_))
      exact hm a ((i + j) / 2) (by dsimp only at ha; omega) (by omega) (by unfold cmpZ; omega)
    · rw [hh] at e2
      refine T_auto TT_ok rfl ?_
      refine X_inv (i, (i + j) / 2) ⟨by dsimp only; omega, by dsimp only; omega, h3, fun a a1 a2 hc => ?_⟩ (by show (i + j) / 2 - i < j - i; omega) ⟨⟨_, rfl, SV.imp_refl _⟩, ⟨_, rfl, SV.imp_of (vI_eq (by dsimp only; omega))⟩, (by repeat (first | exact trivial | refine And.intro ⟨_, rfl, SV.imp_refl _⟩ ?_))⟩ (by repeat (first | exact trivial | refine And.intro ⟨_, rfl, Ch.imp_refl _⟩ ?_))
      have := hm ((i + j) / 2) a (by dsimp only at a1; omega) a2 hc
      unfold cmpZ at this
      omega
  · have hij : i = j := by omega
    subst hij
    have hcut : cutAt (cmpZ n) 0 xs i := ⟨h2, h3, h4⟩
    have hf := found_int hs hcut
    refine T_auto TT_ok rfl ?_
    refine RJ_Q TT_ok (isNaNs_q _) rfl rfl rfl rfl rfl ?_
    refine RJ_Q TT_ok (isNaNs_q _) rfl rfl rfl rfl rfl ?_
    rw [← posA_eq hcut] at hf ⊢
    refine T_ret TT_ok (()) [(4, none), (5, none)] rfl rfl ?_ ?_ ?_
    · exact SVs.cons (SV.imp_refl _) (SVs.cons (SV.imp_of (congrArg (fun b => SV.a (.v (.bool b))) hf)) rfl)
    · trivial
    · trivial
end Go.Proofs.YtcikaknfogpeeaaGreat
namespace Go.Proofs.YtcikaknfogpeeaaGreat
open Go Go.RowKit
set_option linter.unusedVariables false
set_option linter.unusedSimpArgs false
section
variable {E : Env} {mu mu' : Mu} {TT : List TI} {fr fr' : Fr} {gf gf' : GF} {all rest : List Oper} {R : Exit → Act → World → Prop} {K : List KF}
theorem Ch.imp_trans {x y z : Ch} (h : x.imp y) (k : y.imp z) : x.imp z := fun _ _ _ _ s => k _ _ _ _ (h _ _ _ _ s)
theorem RJ_fin (hT : TOk E.P TT) {es : List Prop} {gs : List GO} (h : run TT E.N E.A.ks all rest fr gf mu [] [] = some ([], fr', gf', mu', es, gs)) (k : X E R (nxN K) fr' mu') (he : PAlls es := by repeat (first | exact trivial | refine And.intro rfl ?_)) (ho : GAlls gs := by first | exact trivial | ((simp only [GAlls, GO.p, InR]; (repeat' (first | exact trivial | refine And.intro ?_ ?_ | refine fun _ => ?_)) <;> first | omega | (simp only [decide_eq_true_eq, decide_eq_false_iff_not, Int.toNat_natCast] at *; omega) | (simp at *; omega)))) : RJ E all (KQ E.P R K) rest fr gf mu :=
  (run_ok hT _ _ _ _ _ _ h ⟨he, ho⟩).2 (RJ_end k)
theorem T_fin (hT : TOk E.P TT) {id : Nat} {ops : Array Oper} {es : List Prop} {gs : List GO} (h : run TT E.N E.A.ks ops.toList ops.toList fr [] mu [] [] = some ([], fr', gf', mu', es, gs)) (k : X E R (nxN K) fr' mu') (he : PAlls es := by repeat (first | exact trivial | refine And.intro rfl ?_)) (ho : GAlls gs := by first | exact trivial | ((simp only [GAlls, GO.p, InR]; (repeat' (first | exact trivial | refine And.intro ?_ ?_ | refine fun _ => ?_)) <;> first | omega | (simp only [decide_eq_true_eq, decide_eq_false_iff_not, Int.toNat_natCast] at *; omega) | (simp at *; omega)))) : T E R (.region id ops false) fr mu K := by
  have := T_region (id := id) (RJ_fin hT h k he ho)
  simpa using this
end
section
variable {P : Program}
theorem keysO_in {l : Mu} {j : Nat} : hasK j (keysO l) = true → ∃ c, (j, c) ∈ l ∧ c.own? = true := by
  induction l with
  | nil => intro h; cases h
  | cons x r ih =>
    obtain ⟨i, c⟩ := x
    intro h
    simp only [keysO] at h
    cases hc : c.own? with
    | false => rw [hc] at h; obtain ⟨d, d1, d2⟩ := ih h; exact ⟨d, List.mem_cons_of_mem _ d1, d2⟩
    | true =>
      rw [hc] at h
      simp only [cond_true] at h
      rcases (hasK_cons j i _).1 h with e | e
      · subst e; exact ⟨c, List.mem_cons_self, hc⟩
      · obtain ⟨d, d1, d2⟩ := ih e; exact ⟨d, List.mem_cons_of_mem _ d1, d2⟩
theorem Con.liftR {ι : Type} {f sz n k ko : Nat} {g : Nat → List D} {ks : List Nat} {args : List SV} {args' : (Nat → List Value) → List SV} {rest : Mu} {rest' : ι → Mu} {φ : ι → Prop} {res : ι → List SV} {m : ι → Nat} {ρ : ι → Nat → Nat}
    (hro : ∀ j c, mlk j rest = some c → c.own? = true ∧ j ≠ k)
    (hgo : ∀ i, i < n → oneDs (g i) = true)
    (hσ : ∀ y, φ y → ∀ j, j < m y → ρ y j < n) (hin : ∀ y, φ y → ∀ i j, i < m y → j < m y → i ≠ j → ρ y i ≠ ρ y j)
    (hA : ∀ (B : BE) (r r' : PH) (H H' : Nat → PH) (vals : List Value) (row : Nat → List Value), r.le r' → (∀ i, i < n → D.rds r' (g i) (row i)) → SV.rels P B (Zf r H) args vals → SV.rels P B (Zf r' H') (args' row) vals)
    (hR : ∀ y (B : BE) (r r' : PH) (H H' : Nat → PH) (out : List Value), SV.rels P B (Zf r H) (res y) out → SV.rels P B (Zf r' H') (res y) out)
    (hrest : ∀ y (B : BE) (r r' h : PH) j c, mlk j (rest' y) = some c → c.sat B r' h j → c.sat B r h j)
    (C : ∀ row : Nat → List Value, (∀ i, i < n → (row i).length = sz) → (∀ i, i < n → ∀ u ∈ row i, oneV u = true) → (∃ hh, ∀ i, i < n → D.rds hh (g i) (row i)) → Con P f ks (args' row) ((k, .arr sz n fun i => (row i).map D.v) :: rest) φ res fun y => (ko, .arr sz (m y) fun j => (row (ρ y j)).map D.v) :: rest' y) :
    Con P f ks args ((k, .arr sz n g) :: rest) φ res fun y => (ko, .arr sz (m y) fun j => g (ρ y j)) :: rest' y := fun B r w H vals mm hemp hargs => by
  have s1 : D.own (H k) (.sl sz n g) (B k) := mm.sat k (.arr sz n g) (by rw [mlk_cons, if_pos rfl])
  obtain ⟨A, c, row, hc, hp, G, e1, e2, va, lc, lp, dcp, ho, hG, hd⟩ := own_VA s1
  have drp : r.dj hp := PH.dj_symm (PH.dj_le (mm.djr k) lp (PH.le_refl _))
  have ro := PH.le_un_left r hp
  have rp := PH.le_un_right drp
  have hrow : ∀ i, i < n → D.rds (r.un hp) (g i) (row i) := fun i hi => D.rds_mono (PH.le_trans (hG i) rp) _ (D.owns_rds _ (ho i hi).1)
  let H1 : Nat → PH := fun j => if j = k then hc else H j
  have hk1 : H1 k = hc := by simp [H1]
  have hne : ∀ j, j ≠ k → H1 j = H j := fun j hj => by simp [H1, hj]
  have hle : ∀ j, (H1 j).le (H j) := fun j => by
    by_cases h : j = k
    · subst h; rw [hk1]; exact lc
    · rw [hne j h]; exact PH.le_refl _
  have hdj : ∀ j, (H1 j).dj hp := fun j => by
    by_cases h : j = k
    · subst h; rw [hk1]; exact dcp
    · exact PH.dj_le (mm.dj j k h) (hle j) lp
  have satup : ∀ (c : Ch) (h : PH) j, c.own? = true → c.sat B r h j → c.sat B (r.un hp) h j := fun c h j hc hs => by
    cases c with
    | row l => obtain ⟨b, o, vs, h', a1, a2, a3⟩ := hs; exact ⟨b, o, vs, h', a1, V.owns_mono ro (PH.le_refl _) a2, a3⟩
    | arr => exact hs
    | hole => exact hs
    | ro => cases hc
    | rrow => cases hc
  have mm1 : Mm B (r.un hp) ((k, .arr sz n fun i => (row i).map D.v) :: rest) w H1 := by
    refine ⟨fun j d e => ?_, fun j => (mm.fit j).le (hle j), fun i j hij => PH.dj_le (mm.dj i j hij) (hle i) (hle j), fun j => PH.dj_un (PH.dj_le (mm.djr j) (hle j) (PH.le_refl _)) (hdj j), Fit.un mm.fitr ((mm.fit k).fit.le lp)⟩
    rw [mlk_cons] at e
    by_cases hj : k = j
    · subst hj
      rw [if_pos rfl] at e; injection e with e; subst e
      rw [hk1]
      show D.own hc _ (B k)
      rw [e1]
      exact VA_own (hp := PH.emp) (G := fun _ => PH.emp) va e2 (PH.le_refl _) (PH.emp_le _) (PH.dj_emp _) (fun i _ => flat_owns) (fun _ _ => PH.le_refl _) fun _ _ _ _ _ => PH.emp_dj _
    · rw [if_neg hj] at e
      obtain ⟨q1, q2⟩ := hro j d e
      rw [hne j q2]
      exact satup d _ j q1 (mm.sat j d (by rw [mlk_cons, if_neg hj]; exact e))
  have up : ∀ b o, ownD ((k, .arr sz n fun i => (row i).map D.v) :: rest) H1 b o → ownD ((k, .arr sz n g) :: rest) H b o := fun b o ⟨j, h1, h2⟩ => by
    obtain ⟨c, c1, c2⟩ := keysO_in h1
    refine ⟨j, ?_, PH.le_ne (hle j) h2⟩
    rcases List.mem_cons.1 c1 with e | e
    · obtain ⟨e1, _⟩ := Prod.mk.inj e
      rw [e1]
      exact keysO_has List.mem_cons_self rfl
    · exact keysO_has (List.mem_cons_of_mem _ e) c2
  have own0 : ∀ b o, H k b o ≠ none → ownD ((k, .arr sz n g) :: rest) H b o := fun b o h => ⟨k, keysO_has List.mem_cons_self rfl, h⟩
  refine (C row (fun i hi => (ho i hi).2) (fun i hi => owns_one (ho i hi).1 (oneDs_ok (hgo i hi))) ⟨_, hrow⟩ B _ w H1 vals mm1 (fun j hj => ?_) (hA B r _ H H1 vals row ro hrow hargs)).mono ?_
  · by_cases h : j = k
    · subst h; rw [keysO_has (c := .arr sz n fun i => (row i).map D.v) List.mem_cons_self rfl] at hj; cases hj
    · rw [hne j h]
      refine hemp j ?_
      cases e : hasK j (keysO ((k, .arr sz n g) :: rest)) with
      | false => rfl
      | true =>
        obtain ⟨c, q1, q2⟩ := keysO_in e
        rcases List.mem_cons.1 q1 with e | e
        · injection e with e1 e2; exact absurd e1 h
        · rw [keysO_has (List.mem_cons_of_mem _ e) q2] at hj; cases hj
  rintro e w' ⟨y, B', H', out, hy, he, hres, mm2, hB, hkeep, hdom⟩
  have s2 : D.own (H' ko) (.sl sz (m y) fun j => (row (ρ y j)).map D.v) (B' ko) := mm2.sat ko (.arr sz (m y) fun j => (row (ρ y j)).map D.v) (by rw [mlk_cons, if_pos rfl])
  obtain ⟨A2, c2, row2, hc2, hp2, G2, f1, f2, va2, lc2, lp2, dcp2, ho2, hG2, hd2⟩ := own_VA s2
  have heq : ∀ j, j < m y → row2 j = row (ρ y j) := fun j hj => owns_flat (ho2 j hj).1
  have dk : ∀ j, (H' j).dj hp := fun j => PH.dj_le (mm2.djr j) (PH.le_refl _) rp
  let H3 : Nat → PH := fun j => if j = ko then (H' ko).un hp else H' j
  have h3 : H3 ko = (H' ko).un hp := by simp [H3]
  have h3n : ∀ j, j ≠ ko → H3 j = H' j := fun j hj => by simp [H3, hj]
  have fitp : FitO hp w' := ((mm.fit k).le lp).keep hkeep fun b o h ⟨j, _, h2⟩ => by
    rcases hdj j b o with h4 | h4
    · exact h2 h4
    · exact h h4
  refine ⟨y, B', H3, out, hy, he, hR y B' _ _ H' H3 out hres, ⟨fun j d e => ?_, fun j => ?_, fun i j hij => ?_, fun j => ?_, mm2.fitr.le ro⟩, hB, hkeep.mono fun b _ o h => up b o h, fun j b o h => ?_⟩
  · rw [mlk_cons] at e
    by_cases hj : ko = j
    · subst hj
      rw [if_pos rfl] at e; injection e with e; subst e
      rw [h3]
      show D.own _ _ (B' ko)
      rw [f1]
      refine VA_own (hc := hc2) (hp := hp) (G := fun j => G (ρ y j)) (row := row2) va2 f2 (PH.le_trans lc2 (PH.le_un_left _ _)) (PH.le_un_right (dk ko)) (PH.dj_le (dk ko) lc2 (PH.le_refl _)) (fun j hj => ?_) (fun j _ => hG _) fun i j hi hj hij => hd _ _ (hin y hy i j hi hj hij)
      rw [heq j hj]; exact (ho _ (hσ y hy j hj)).1
    · rw [if_neg hj] at e
      rw [h3n j (Ne.symm hj)]
      exact hrest y B' r _ _ j d e (mm2.sat j d (by rw [mlk_cons, if_neg hj]; exact e))
  · by_cases hj : j = ko
    · subst hj; rw [h3]; exact (mm2.fit j).un fitp
    · rw [h3n j hj]; exact mm2.fit j
  · by_cases hi : i = ko
    · subst hi
      rw [h3, h3n j (Ne.symm hij)]
      exact PH.un_dj (mm2.dj i j hij) (PH.dj_symm (dk j))
    · by_cases hj : j = ko
      · subst hj
        rw [h3, h3n i hi]
        exact PH.dj_un (mm2.dj i j hij) (dk i)
      · rw [h3n i hi, h3n j hj]; exact mm2.dj i j hij
  · by_cases hj : j = ko
    · subst hj; rw [h3]; exact PH.un_dj (PH.dj_le (mm2.djr j) (PH.le_refl _) ro) (PH.dj_symm drp)
    · rw [h3n j hj]; exact PH.dj_le (mm2.djr j) (PH.le_refl _) ro
  · by_cases hj : j = ko
    · subst hj
      rw [h3] at h
      rcases PH.un_ne h with h1 | h1
      · rcases hdom j b o h1 with h2 | h2
        · exact .inl (up b o h2)
        · exact .inr h2
      · exact .inl (own0 b o (PH.le_ne lp h1))
    · rw [h3n j hj] at h
      rcases hdom j b o h with h2 | h2
      · exact .inl (up b o h2)
      · exact .inr h2
end
end Go.Proofs.YtcikaknfogpeeaaGreat
namespace Go.Proofs.YtcikaknfogpeeaaGreat
open Go Go.RowKit
set_option linter.unusedVariables false
set_option linter.unusedSimpArgs false
set_option maxRecDepth 4000
theorem posZ_le {xs : List Int} (hs : xs.Pairwise (· < ·)) (n : Int) : posA (cmpZ n) 0 xs ≤ xs.length := (posA_cut (cmpZ_rising hs n)).1
theorem logged_k (m : GMachine) (hl : m.log.length ≤ 1048576) (tx r0 kind : Int) : Con Tryz.prog 167 [900, 902] [.a (.p 900 0), vI tx, vI r0, vI kind] [(900, .rrow (rowM m 901 902 903)), (902, .ro 4 m.log.length fun i => cRecord (m.log.getD i GRecord.z))] (fun _ : Unit => True) (fun _ => [vI (logI m tx r0 kind)]) fun _ => [] := by
  refine con_enter Tryz.func167 rfl rfl rfl fun B0 r_ D_ w0 => ?_
  refine T_auto TT_ok rfl ?_
  refine RJ_QF TT_ok (indexFuncRecord_p m.log hl (fun _ => True) (fun _ _ => trivial) (atLog tx r0 kind)) rfl rfl (SVs.cons (SV.imp_refl _) (SVs.cons (imp_fb (enters_B (by kernel_rfl)) rfl fun args x ⟨n, _, e1, e2⟩ => by subst e1; subst e2; exact logged1_q n _ _ _) rfl)) rfl rfl ?_
  refine T_ret TT_ok (()) [(8, none)] rfl rfl ?_ ?_ ?_
  · exact SVs.imp_refl _
  · trivial
  · trivial
theorem clear1_q (x : GRecord) (tx r0 : Int) : Ans Tryz.prog 226 [] [vR (cRecord x), vP [dI tx], vP [dI r0]] [] (vB (bif x.tx == tx then x.region == r0 else false)) := by
  refine con_enter Tryz.func226 rfl rfl rfl fun B0 r_ D_ w0 => ?_
  refine T_auto TT_ok rfl ?_
  exact T_ansB TT_ok [(4, none)] rfl rfl (rfl)
theorem clear_k (m : GMachine) (hm : m.log.length ≤ 1048576) (hc : m.cleared.length ≤ 1000) (hs : m.cleared.Pairwise (· < ·)) (tx r : Int) (d : Bool) :
    Con Tryz.prog 169 [900, 901, 902, 903] [.a (.p 900 0), vI tx, vI r, vB d] [(900, .row (rowM m 901 902 903)), (902, arrC 4 cRecord GRecord.z m.log), (903, arrC 1 cInt 0 m.cleared)] (fun _ : Unit => True) (fun _ => [])
      fun _ => [(900, .row (rowM m 901 904 905)), (904, arrC 4 cRecord GRecord.z (clearR m tx r d).log), (905, arrC 1 cInt 0 (clearR m tx r d).cleared)] := by
  have hp := posZ_le hs tx
  refine con_enter Tryz.func169 rfl rfl rfl fun B0 r_ D_ w0 => ?_
  refine T_auto TT_ok rfl ?_
  refine RJ_C TT_ok (Con.sw 901 904 (Con.sw 900 902 (deleteFuncRecord_c m.log hm fun x => bif x.tx == tx then x.region == r else false))) rfl rfl (SVs.cons (SV.imp_refl _) (SVs.cons (imp_fb (enters_B (by kernel_rfl)) rfl fun args x ⟨s, h1, h2⟩ => by subst h1; subst h2; exact clear1_q s tx r) rfl)) (fun _ => rfl) rfl rfl rfl fun _ _ => ?_
  refine RJ_auto TT_ok rfl ?_
  refine T_drawL TT_ok [] [0, 1, 2, 3, 4, 5, 6, 7, 8, 9, 10] rfl rfl fun B0 H0 => ?_
  refine DJ_C 5 (searchInt_c m.cleared (by omega) tx hs) rfl rfl rfl (SVs.imp_refl _) (fun _ => rfl) rfl rfl rfl fun _ _ => ?_
  refine DJ_onL TT_ok [6, 7, 8, 9, 10] rfl ?_
  refine DJ_endA TT_ok rfl ?_
  refine T_cond rfl (fun e => ?_) (fun e => ?_)
  · cases d with
    | false => cases e
    | true =>
      have hn : tx ∉ m.cleared := by
        intro h
        rw [decide_eq_true h] at e; cases e
      refine T_auto TT_ok rfl ?_
      refine T_drawL TT_ok [903] [0, 1, 2, 3, 4, 5, 6, 7, 8, 9, 10, 11] rfl rfl fun B0 H0 => ?_
      refine DJ_one 7 rfl (by kernel_rfl) (OJ_bs TT_ok 30 (fun _ => cInt tx) rfl rfl rfl rfl rfl rfl rfl (fun j hj => by rcases j with _ | j <;> first | rfl | omega) (mu1 := []) rfl rfl rfl (SJ_dj ?_))
      refine DJ_C 8 (Con.sw 902 905 (Con.sw 900 903 (Con.sw 901 30 (insertInt64_c m.cleared.length 1 (posA (cmpZ tx) 0 m.cleared) (fun j => cInt (m.cleared.getD j 0)) (fun _ => cInt tx) (by omega) (by omega) (by omega) hp (fun _ _ => ⟨_, rfl⟩) (fun _ _ => ⟨_, rfl⟩))))) rfl rfl rfl (SVs.imp_refl _) (fun _ => rfl) rfl rfl rfl fun _ _ => ?_
      refine DJ_onL TT_ok [9, 10, 11] rfl ?_
      refine DJ_sw2 11 rfl (by kernel_rfl) (by kernel_rfl) (OJ_M TT_ok rfl rfl rfl rfl rfl rfl (SJ_sw [] fun B0 H0 => ?_))
      refine DJ_end (by kernel_rfl) ?_
      refine X_fin TT_ok () [] rfl rfl ?_ ?_ ?_
      · exact SVs.imp_refl _
      · exact ⟨⟨_, rfl, Ch.imp_refl _⟩, ⟨_, rfl, Ch.imp_refl _⟩, ⟨_, rfl, Ch.imp_trans (imp_ins hp) (imp_list (by show _ = putCl m.cleared tx; unfold putCl; rw [if_neg hn]))⟩, trivial⟩
      · trivial
  · have hk : (clearR m tx r d).cleared = m.cleared := by
      cases d with
      | false => rfl
      | true =>
        show putCl m.cleared tx = _
        unfold putCl
        by_cases h : tx ∈ m.cleared
        · rw [if_pos h]
        · rw [decide_eq_false h] at e; cases e
    refine T_view (V_fold 900 3 903 rfl rfl rfl rfl rfl rfl rfl) ?_
    refine T_view (V_open 900 3 905 rfl rfl rfl rfl rfl rfl) ?_
    refine T_skip ?_
    refine X_fin TT_ok () [] rfl rfl ?_ ?_ ?_
    · exact SVs.imp_refl _
    · exact ⟨⟨_, rfl, Ch.imp_refl _⟩, ⟨_, rfl, Ch.imp_refl _⟩, ⟨_, rfl, imp_list hk.symm⟩, trivial⟩
    · trivial
theorem l6Put_c (xs : List Int) (hl : xs.length ≤ 1000) (hs : xs.Pairwise (· < ·)) (n : Int) : Con Tryz.prog 132 [900] [.a (.g 900), vI n] [(900, arrC 1 cInt 0 xs)] (fun _ : Unit => True) (fun _ => [.a (.g 901)]) fun _ => [(901, arrC 1 cInt 0 (putCl xs n))] := by
  refine con_enter Tryz.func132 rfl rfl rfl fun B0 r_ D_ w0 => ?_
  refine T_auto TT_ok rfl ?_
  refine RJ_Q TT_ok (l3Has_q xs (by omega) n) rfl rfl rfl rfl rfl ?_
  by_cases c : n ∈ xs
  · rw [decide_eq_true c]
    refine T_cond rfl (fun _ => ?_) (fun e => by cases e)
    refine T_auto TT_ok rfl ?_
    refine T_view (V_ren 4 900 901 rfl rfl rfl rfl rfl rfl) ?_
    refine T_ret TT_ok (()) [(4, none)] rfl rfl ?_ ?_ ?_
    · exact SVs.imp_refl _
    · exact ⟨⟨_, rfl, imp_list (by unfold putCl; rw [if_pos c])⟩, trivial⟩
    · trivial
  rw [decide_eq_false c]
  refine T_cond rfl (fun e => by cases e) (fun _ => ?_)
  refine T_auto TT_ok rfl ?_
  refine RJ_bs TT_ok 33 (fun i => cInt (([] : List Int).getD i 0)) rfl rfl rfl rfl rfl rfl rfl (fun i hi => absurd hi (Nat.not_lt_zero _)) (mu1 := []) rfl rfl rfl ?_
  refine RJ_auto TT_ok rfl ?_
  refine T_loopA (ι := Nat) (fun i => [(6, vI i), (5, .a (.g 33))]) (fun i => [(33, arrC 1 cInt 0 (xs.take i))]) (fun i => i ≤ xs.length ∧ ∀ a, a < i → cmpZ n (xs.getD a 0) < 0) (fun i => xs.length - i) 0 [33] [33] rfl rfl ⟨Nat.zero_le _, fun a ha => absurd ha (Nat.not_lt_zero _)⟩ (by repeat (first | exact trivial | refine And.intro ⟨_, rfl, SV.imp_refl _⟩ ?_)) ⟨⟨_, rfl, imp_list (sz := 1) (enc := cInt) (z := 0) (xs := []) rfl⟩, (by repeat (first | exact trivial | refine And.intro ⟨_, rfl, Ch.imp_refl _⟩ ?_))⟩ ?_
  intro i ⟨h1, h2⟩
  refine T_auto TT_ok rfl ?_
  refine T_cond rfl (fun e3 => ?_) (fun e3 => ?_)
  · have hi : i < xs.length := by
      rcases Nat.lt_or_ge i xs.length with h | h
      · exact h
      · rw [decide_eq_false (by omega)] at e3; cases e3
    have hlt : (xs.take i).length = i := by rw [List.length_take]; omega
    rw [decide_eq_true (by omega)] at e3
    have e4 : xs.getD i 0 < n := of_decide_eq_true e3
    refine T_auto TT_ok rfl ?_
    refine RJ_bs TT_ok 66 (fun _ => cInt (xs.getD i 0)) rfl rfl rfl rfl rfl rfl rfl (fun i hi => by rcases i with _ | i <;> first | rfl | omega) (mu1 := []) rfl rfl rfl ?_
    refine RJ_auto TT_ok rfl ?_
    refine RJ_appM TT_ok 33 66 67 rfl rfl rfl rfl rfl rfl rfl rfl rfl rfl rfl rfl ⟨by show ((xs.take i).length + 1) * 8 ≤ _; omega, by unfold maxL; omega⟩ ?_
    refine RJ_auto TT_ok rfl ?_
    refine X_view (V_sw 33 67) ?_
    refine X_inv (i + 1) ⟨hi, fun a ha => ?_⟩ (by omega) (by repeat (first | exact trivial | refine And.intro ⟨_, rfl, SV.imp_refl _⟩ ?_)) ⟨⟨_, rfl, imp_app1 (x := xs.getD i 0) (take_succ_getD hi) rfl⟩, (by repeat (first | exact trivial | refine And.intro ⟨_, rfl, Ch.imp_refl _⟩ ?_))⟩
    by_cases c : a < i
    · exact h2 a c
    · have : a = i := by omega
      subst this
      unfold cmpZ; omega
  have hc : cutAt (cmpZ n) 0 xs i := ⟨h1, h2, fun a ha hb2 hlt => by
    have h3 := cmpZ_rising hs n i a ha hb2 hlt
    rw [decide_eq_true (by omega)] at e3
    have e4 : ¬ xs.getD i 0 < n := of_decide_eq_false e3
    unfold cmpZ at h3
    omega⟩
  have hM : putCl xs n = insL i n xs := by unfold putCl; rw [if_neg c, posA_eq hc]
  have hlt : (xs.take i).length = i := by rw [List.length_take]; omega
  rw [hM]
  refine T_auto TT_ok rfl ?_
  refine T_cap 5 33 rfl rfl fun cp _ => ?_
  refine T_drawL TT_ok [33] [0, 1, 4, 5, 6, 7, 2, 3, 8, 9] rfl rfl fun B0 H0 => ?_
  refine DJ_one 2 rfl (by kernel_rfl) (OJ_bs TT_ok 70 (fun _ => cInt n) rfl rfl rfl rfl rfl rfl rfl (fun j hj => by rcases j with _ | j <;> first | rfl | omega) (mu1 := []) rfl rfl rfl (SJ_dj ?_))
  refine DJ_one 3 rfl (by kernel_rfl) (OJ_appM TT_ok 33 70 71 rfl rfl rfl rfl rfl rfl rfl rfl rfl rfl rfl rfl ⟨by show ((xs.take i).length + 1) * 8 ≤ _; omega, by unfold maxL; omega⟩ (SJ_dj ?_))
  refine DJ_one 8 rfl (by kernel_rfl) (OJ_appC TT_ok 71 77 rfl rfl rfl rfl rfl rfl rfl rfl rfl rfl rfl rfl ⟨by show ((xs.take i).length + 1 + _) * 8 ≤ _; omega, by unfold maxL; omega⟩ (hob := ⟨rfl, ⟨by omega, by omega, by omega⟩, trivial⟩) (SJ_dj ?_))
  refine DJ_onL TT_ok [9] rfl ?_
  refine DJ_endA TT_ok rfl ?_
  refine T_view (V_sw 77 901) ?_
  refine T_ret TT_ok (()) [(4, none)] rfl rfl ?_ ?_ ?_
  · exact SVs.imp_refl _
  · exact ⟨⟨_, rfl, imp_ins2 h1⟩, trivial⟩
  · trivial
def rawP (f : Nat → Nat → Value) (tx r : Int) (i : Nat) : Bool := !(bif nI (f i 1) == tx then nI (f i 2) == r else false)
theorem l6Clear_r (al : Bool) (n : Nat) (hl : n ≤ 1000000) (f : Nat → Nat → Value) (cl : List Int) (hc : cl.length ≤ 1000) (hs : cl.Pairwise (· < ·)) (tx r : Int) (d : Bool) :
    Con Tryz.prog 64 [902, 900, 901, 903] [.a (.p 900 0), vI tx, vI r, vB d] [(902, .arr 4 n (raw4 f)), (900, .row [.v (.bool al), .g 901, .g 902, .g 903]), (903, arrC 1 cInt 0 cl)] (fun _ : Unit => True) (fun _ => [])
      fun _ => [(904, .arr 4 ((List.range n).filter (rawP f tx r)).length fun j => raw4 f (((List.range n).filter (rawP f tx r)).getD j 0)), (900, .row [.v (.bool al), .g 901, .g 904, .g 905]), (905, arrC 1 cInt 0 (bif d then putCl cl tx else cl))] := by
  have hR : (List.range n).length = n := List.length_range
  refine con_enter Tryz.func64 rfl rfl rfl fun B0 r_ D_ w0 => ?_
  refine T_auto TT_ok rfl ?_
  refine RJ_bs TT_ok 33 (fun j => raw4 f ((([] : List Nat).filter (rawP f tx r)).getD j 0)) rfl rfl rfl rfl rfl rfl rfl (fun i hi => absurd hi (Nat.not_lt_zero _)) (mu1 := []) rfl rfl rfl ?_
  refine RJ_auto TT_ok rfl ?_
  refine T_loopA (ι := Nat) (fun i => [(9, vI i), (8, .a (.g 33))]) (fun i => [(33, .arr 4 (((List.range n).take i).filter (rawP f tx r)).length fun j => raw4 f ((((List.range n).take i).filter (rawP f tx r)).getD j 0))]) (fun i => i ≤ n) (fun i => n - i) 0 [33] [33] rfl rfl (Nat.zero_le _) (by repeat (first | exact trivial | refine And.intro ⟨_, rfl, SV.imp_refl _⟩ ?_)) ⟨⟨_, rfl, Ch.imp_refl _⟩, (by repeat (first | exact trivial | refine And.intro ⟨_, rfl, Ch.imp_refl _⟩ ?_))⟩ ?_
  intro i h1
  have hle := filter_take_le (List.range n) (rawP f tx r) i
  refine T_auto TT_ok rfl ?_
  refine T_condD rfl (fun e => ?_) (fun e => ?_)
  · have hi : i < n := by omega
    refine T_auto TT_ok rfl ?_
    refine T_cond rfl (fun e2 => ?_) (fun e2 => ?_)
    · have hp : rawP f tx r i = true := by
        unfold rawP
        cases c1 : nI (f i 1) == tx <;> cases c2 : nI (f i 2) == r <;> simp [c1, c2, bne] at e2 ⊢
      have hF := filter_take_yes (z := 0) (by rw [hR]; exact hi) (p := rawP f tx r) (by rw [range_getD hi]; exact hp)
      rw [range_getD hi] at hF
      refine T_auto TT_ok rfl ?_
      refine RJ_bs TT_ok 66 (fun _ => raw4 f i) rfl rfl rfl rfl rfl rfl rfl (fun i hi => by rcases i with _ | i <;> first | rfl | omega) (mu1 := []) rfl rfl rfl ?_
      refine RJ_auto TT_ok rfl ?_
      refine RJ_appM TT_ok 33 66 67 rfl rfl rfl rfl rfl rfl rfl rfl rfl rfl rfl rfl ⟨by show ((((List.range n).take i).filter (rawP f tx r)).length + 1) * 48 ≤ _; omega, by unfold maxL; omega⟩ ?_
      refine RJ_auto TT_ok rfl ?_
      refine X_view (V_sw 33 67) ?_
      refine X_inv (i + 1) hi (by omega) (by repeat (first | exact trivial | refine And.intro ⟨_, rfl, SV.imp_refl _⟩ ?_)) ⟨⟨_, rfl, Ch.imp_len (by rw [hF]; simp) fun j hj => ?_⟩, (by repeat (first | exact trivial | refine And.intro ⟨_, rfl, Ch.imp_refl _⟩ ?_))⟩
      rw [hF]
      by_cases c : j < (((List.range n).take i).filter (rawP f tx r)).length
      · rw [appD_lt c, getD_app_lt c]
      · have : j = (((List.range n).take i).filter (rawP f tx r)).length := by omega
        subst this
        rw [appD_ge (Nat.le_refl _), getD_app_eq]
    · have hp : rawP f tx r i = false := by
        unfold rawP
        cases c1 : nI (f i 1) == tx <;> cases c2 : nI (f i 2) == r <;> simp [c1, c2, bne] at e2 ⊢
      have hF := filter_take_no (z := 0) (by rw [hR]; exact hi) (p := rawP f tx r) (by rw [range_getD hi]; exact hp)
      refine T_auto TT_ok rfl ?_
      exact X_inv (i + 1) hi (by omega) (by repeat (first | exact trivial | refine And.intro ⟨_, rfl, SV.imp_refl _⟩ ?_)) ⟨⟨_, rfl, Ch.imp_len (by rw [hF]) fun j hj => by rw [hF]⟩, (by repeat (first | exact trivial | refine And.intro ⟨_, rfl, Ch.imp_refl _⟩ ?_))⟩
  · have hi : i = n := by omega
    subst hi
    rw [show (List.range i).take i = List.range i from List.take_of_length_le (by simp)]
    refine T_auto TT_ok rfl ?_
    refine T_cond rfl (fun e2 => ?_) (fun e2 => ?_)
    · subst e2
      refine T_auto TT_ok rfl ?_
      refine RJ_C TT_ok (Con.sw 901 905 (Con.sw 900 903 (l6Put_c cl hc hs tx))) rfl rfl (SVs.imp_refl _) (fun _ => rfl) rfl rfl rfl fun _ _ => ?_
      refine RJ_fin TT_ok rfl ?_
      refine X_view (V_sw 33 904) ?_
      refine X_fin TT_ok () [] rfl rfl ?_ ?_ ?_
      · exact SVs.imp_refl _
      · exact ⟨⟨_, rfl, Ch.imp_refl _⟩, ⟨_, rfl, Ch.imp_refl _⟩, ⟨_, rfl, Ch.imp_refl _⟩, trivial⟩
      · trivial
    · subst e2
      refine T_view (V_sw 33 904) ?_
      refine T_view (V_fold 900 3 903 rfl rfl rfl rfl rfl rfl rfl) ?_
      refine T_view (V_open 900 3 905 rfl rfl rfl rfl rfl rfl) ?_
      refine T_skip ?_
      refine X_fin TT_ok () [] rfl rfl ?_ ?_ ?_
      · exact SVs.imp_refl _
      · exact ⟨⟨_, rfl, Ch.imp_refl _⟩, ⟨_, rfl, Ch.imp_refl _⟩, ⟨_, rfl, Ch.imp_refl _⟩, trivial⟩
      · trivial
theorem row_ids {h : PH} {x : GRecord} {l : List Value} (e : D.rds h (cRecord x) l) : nI (l.getD 1 undef) = x.tx ∧ nI (l.getD 2 undef) = x.region := by
  obtain ⟨y1, t1, rfl, e1, y2, t2, rfl, e2, y3, t3, rfl, e3, y4, t4, rfl, ⟨A, c, e4, _⟩, e5⟩ := e
  have e2 : y2 = .int .i64 x.tx := e2
  have e3 : y3 = .int .i64 x.region := e3
  subst e2; subst e3
  exact ⟨rfl, rfl⟩
theorem l6Clear_k (m : GMachine) (hm : m.log.length ≤ 1000000) (hc : m.cleared.length ≤ 1000) (hs : m.cleared.Pairwise (· < ·)) (tx r : Int) (d : Bool) :
    Con Tryz.prog 64 [902, 900, 901, 903] [.a (.p 900 0), vI tx, vI r, vB d] [(902, arrC 4 cRecord GRecord.z m.log), (900, .row (rowM m 901 902 903)), (903, arrC 1 cInt 0 m.cleared)] (fun _ : Unit => True) (fun _ => [])
      fun _ => [(904, arrC 4 cRecord GRecord.z (clearR m tx r d).log), (900, .row (rowM m 901 904 905)), (905, arrC 1 cInt 0 (clearR m tx r d).cleared)] := by
  have hmem : ∀ j, j < ((List.range m.log.length).filter fun i => keepR tx r (m.log.getD i GRecord.z)).length → ((List.range m.log.length).filter fun i => keepR tx r (m.log.getD i GRecord.z)).getD j 0 < m.log.length := fun j hj => by
    rw [gd0 hj]
    have h1 := (List.mem_filter.1 (List.getElem_mem hj)).1
    exact List.mem_range.1 h1
  have hC := Con.liftR (P := Tryz.prog) (ι := Unit) (f := 64) (sz := 4) (n := m.log.length) (k := 902) (ko := 904) (g := fun i => cRecord (m.log.getD i GRecord.z)) (ks := [902, 900, 901, 903])
    (args := [.a (.p 900 0), vI tx, vI r, vB d]) (args' := fun _ => [.a (.p 900 0), vI tx, vI r, vB d]) (rest := [(900, .row (rowM m 901 902 903)), (903, arrC 1 cInt 0 m.cleared)]) (rest' := fun _ => [(900, .row (rowM m 901 904 905)), (905, arrC 1 cInt 0 (clearR m tx r d).cleared)]) (φ := fun _ => True) (res := fun _ => [])
    (m := fun _ => ((List.range m.log.length).filter fun i => keepR tx r (m.log.getD i GRecord.z)).length) (ρ := fun _ j => ((List.range m.log.length).filter fun i => keepR tx r (m.log.getD i GRecord.z)).getD j 0)
    (fun j c e => by
      rw [mlk_cons] at e
      split at e
      · rename_i h; subst h; injection e with e; subst e; exact ⟨rfl, by decide⟩
      · rw [mlk_cons] at e
        split at e
        · rename_i h; subst h; injection e with e; subst e; exact ⟨rfl, by decide⟩
        · cases e)
    (fun _ _ => rfl) (fun _ _ j hj => hmem j hj)
    (fun _ _ i j hi hj hij e => by
      have hn : ((List.range m.log.length).filter fun i => keepR tx r (m.log.getD i GRecord.z)).Nodup := List.nodup_range.filter _
      have h1 := List.pairwise_iff_getElem.1 hn
      rw [gd0 hi, gd0 hj] at e
      rcases Nat.lt_or_gt_of_ne hij with h | h
      · exact h1 i j hi hj h e
      · exact h1 j i hj hi h e.symm)
    (fun B r r' H H' vals row _ _ e => e)
    (fun _ B r r' H H' out e => e)
    (fun _ B r r' h j c e s => by
      rw [mlk_cons] at e
      split at e
      · rename_i hj; subst hj; injection e with e; subst e; exact s
      · rw [mlk_cons] at e
        split at e
        · rename_i hj; subst hj; injection e with e; subst e; exact s
        · cases e)
    (fun row hrow _ hrd => ?_)
  · refine hC.wkM fun _ _ => ⟨⟨_, rfl, ?_⟩, ⟨_, rfl, Ch.imp_refl _⟩, ⟨_, rfl, Ch.imp_refl _⟩, trivial⟩
    have e := filter_range (z := GRecord.z) (keepR tx r) m.log
    show Ch.imp _ (arrC 4 cRecord GRecord.z (m.log.filter (keepR tx r)))
    refine Ch.imp_len (by rw [e, List.length_map]) fun j hj => ?_
    rw [e]
    congr 1
    exact (gmap (f := fun i => m.log.getD i GRecord.z) hj).symm
  · obtain ⟨hh, hrd⟩ := hrd
    have hD := l6Clear_r m.alive m.log.length hm (fun i j => (row i).getD j undef) m.cleared hc hs tx r d
    have hr : ∀ i, i < m.log.length → raw4 (fun i j => (row i).getD j undef) i = (row i).map D.v := fun i hi => (row_raw (hrd i hi)).symm
    have hp : (List.range m.log.length).filter (rawP (fun i j => (row i).getD j undef) tx r) = (List.range m.log.length).filter fun i => keepR tx r (m.log.getD i GRecord.z) := by
      refine List.filter_congr fun i hi => ?_
      obtain ⟨q1, q2⟩ := row_ids (hrd i (List.mem_range.1 hi))
      unfold rawP keepR
      rw [q1, q2]
    rw [hp] at hD
    refine Con.wkM (Con.inM hD (mu0 := (902, .arr 4 m.log.length fun i => (row i).map D.v) :: [(900, .row (rowM m 901 902 903)), (903, arrC 1 cInt 0 m.cleared)]) rfl ⟨⟨_, rfl, Ch.imp_arr fun i hi => (hr i hi).symm⟩, ⟨_, rfl, Ch.imp_refl _⟩, ⟨_, rfl, Ch.imp_refl _⟩, trivial⟩) fun _ _ => ⟨⟨_, rfl, Ch.imp_arr fun j hj => hr _ (hmem j hj)⟩, ⟨_, rfl, Ch.imp_refl _⟩, ⟨_, rfl, Ch.imp_refl _⟩, trivial⟩
end Go.Proofs.YtcikaknfogpeeaaGreat
