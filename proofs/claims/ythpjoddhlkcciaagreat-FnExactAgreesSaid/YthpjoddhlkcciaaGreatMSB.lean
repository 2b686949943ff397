/-
  Part B of what the claim leans on: memory, data, walks through the program, plain laws.
-/
import Derived.Test.YthpjoddhlkcciaaGreatMSA
namespace Go.Proofs.YthpjoddhlkcciaaGreat
open Go Go.RowKit
set_option linter.unusedVariables false
set_option linter.unusedSimpArgs false
section
section
variable {P : Program} {w : World} {B : BE} {r : PH} {mu : Mu} {H : Nat → PH} {TT : List TI} {N : Nat} {fr : Fr} {gf : GF} {a : Act}
theorem allF_spec (hT : TOk P TT) : ∀ {fs : List (Nat × Nat)}, allF TT fs = true → ∀ p ∈ fs, ∃ i, P.info? p.2 = some i
  | [], _, p, hp => by cases hp
  | (o, t) :: r, h, p, hp => by
    simp only [allF] at h
    cases e : tlk t TT with
    | none => rw [e] at h; cases h
    | some ti =>
      rw [e] at h
      cases hp with
      | head =>
        obtain ⟨e1, e2⟩ := hT.get e
        obtain ⟨i, h1, _⟩ := e2.info
        exact ⟨i, by rw [← e1]; exact h1⟩
      | tail _ hm => exact allF_spec hT h p hm
theorem evParts_spec {Z : Tg → PH} (f : Fits P B Z N fr gf a) {g : Gd} (hg : ∀ d w, (d, w) ∈ g → a.tmps.getD d undef = .bool w) : ∀ {l : List (Nat × Operand)} {ps : List (Nat × SV)}, evParts g fr gf l = some ps → (l.map fun p => (p.1, a.eval p.2)).map (·.1) = ps.map (·.1) ∧ SV.rels P B Z (ps.map (·.2)) ((l.map fun p => (p.1, a.eval p.2)).map (·.2))
  | [], ps, h => by simp only [evParts] at h; injection h with h; subst h; exact ⟨rfl, rfl⟩
  | (i, x) :: r, ps, h => by
    simp only [evParts] at h
    cases e : ev g fr gf x with
    | none => rw [e] at h; cases h
    | some y =>
      cases e2 : evParts g fr gf r with
      | none => rw [e, e2] at h; cases h
      | some l =>
        rw [e, e2] at h; injection h with h; subst h
        obtain ⟨h1, h2⟩ := evParts_spec f hg e2
        exact ⟨by simp only [List.map_cons, h1], _, _, rfl, f.ev hg e, h2⟩
theorem vsA_spec {Z : Tg → PH} : ∀ {l : List SV} {m : List V}, vsA l = some m → ∀ {vs : List Value}, SV.rels P B Z l vs → V.rels B Z m vs
  | [], m, h, vs, r => by simp only [vsA] at h; injection h with h; subst h; exact r
  | .a x :: l, m, h, vs, r => by
    simp only [vsA] at h
    cases e : vsA l with
    | none => rw [e] at h; cases h
    | some l' =>
      rw [e] at h; injection h with h; subst h
      obtain ⟨y, t, rfl, r2, r3⟩ := r
      exact ⟨y, t, rfl, r2, vsA_spec e r3⟩
  | .ag _ :: _, m, h, _, _ => by simp [vsA] at h
  | .fn _ _ :: _, m, h, _, _ => by simp [vsA] at h
  | .fb _ :: _, m, h, _, _ => by simp [vsA] at h
  | .tu _ :: _, m, h, _, _ => by simp [vsA] at h
  | .un :: _, m, h, _, _ => by simp [vsA] at h
theorem agL_rel {Z : Tg → PH} {x : SV} {l : List V} (h : x.agL = some l) {y : Value} (r : SV.rel P B Z x y) : ∃ cs : Array Value, y = .agg cs ∧ V.rels B Z l cs.toList := by
  cases x with
  | un => simp [SV.agL] at h
  | fn f l => simp [SV.agL] at h
  | fb f => simp [SV.agL] at h
  | tu l => simp [SV.agL] at h
  | ag l' => simp [SV.agL] at h; subst h; obtain ⟨vs, rfl, r2⟩ := r; exact ⟨_, rfl, by simpa using r2⟩
  | a u =>
    cases u with
    | v x =>
      have r : y = x := r
      subst r
      cases y <;> simp [SV.agL, layV_eq] at h
      subst h; exact ⟨_, rfl, rels_v _⟩
    | _ => simp [SV.agL] at h
theorem nilCheck_ok {x : Operand} {p : Addr} (h : a.eval x = .pointer (some p)) (d : Option Tmp) (ty : TypeId) (pos : String) (after : Array Edge) (gd : Option (Nat × Bool)) :
    (execOp a.eval ⟨d, .nilCheck x, ty, pos, after, gd⟩).run P w = .ok (.value (.pointer (some p))) w := by
  simp only [execOp, h, Sem.run_pure]
theorem run_build {Z : Tg → PH} {t : TypeId} {fs : Array Field} (hu : P.underlying t = some (.struct fs)) {l : List (Nat × Nat)} (e : fs.toList.map (fun f => (f.offset, f.type)) = l) (hT : TOk P TT) (hall : allF TT l = true) {i : TypeInfo} (hi : P.info? t = some i) {z : Value} (hz : i.zero = some z)
    {ps : List (Nat × SV)} {m : List V} (h : fillParts TT l ps (vcellsL z) = some m) (parts : Array (Nat × Value)) (hp1 : parts.toList.map (·.1) = ps.map (·.1)) (hp2 : SV.rels P B Z (ps.map (·.2)) (parts.toList.map (·.2))) :
    ∃ ms : List Value, (∀ w, (Instr.build t parts).run P w = .ok (.agg ms.toArray) w) ∧ V.rels B Z m ms := by
  have hall' : ∀ f ∈ fs.toList, ∃ i, P.info? f.type = some i := fun f hf => allF_spec hT hall (f.offset, f.type) (by rw [← e]; exact List.mem_map_of_mem hf)
  obtain ⟨pl, p1, p2⟩ := run_mapM_places (P := P) fs.toList hall'
  have hm : ∀ w, (fs.mapM fun (f : Field) => do pure (f.offset, ← sizeOf f.type) : Sem (Array (Nat × Nat))).run P w = .ok pl.toArray w := fun w => by
    rw [Array.mapM_eq_mapM_toList, Sem.run_map, p1, Result.andThen_ok]
  obtain ⟨ms, hf, hr⟩ := fill_ok hT (fs := l) (place := (pl.toArray[·]?)) (fun i o t ti h1 h2 => by
    obtain ⟨f, f1, f2, f3⟩ := field_get e h1
    obtain ⟨g1, g2⟩ := hT.get h2
    obtain ⟨inf, g3, g4, _⟩ := g2.info
    have := p2 i f (by simpa using f1) inf (by rw [f3, ← g1]; exact g3)
    simp only [List.getElem?_toArray, this, f2, g4]) ps parts.toList (vcellsL z) m z.cells.toList hp1 hp2 (vcellsL_rel z) h
  have hz2 : ∀ w, (zeroValue t).run P w = .ok z w := fun w => by simp only [zeroValue, Sem.run_bind, run_info hi, Result.andThen_ok, hz, Sem.run_pure]
  refine ⟨ms, fun w => ?_, hr⟩
  have hc : z.cells.toList.toArray = z.cells := by simp
  rw [hc] at hf
  simp only [Instr.build, Sem.run_bind, hz2, Result.andThen_ok, run_underlying hu, hm, hf, Sem.run_pure]
theorem part_one {ti : TI} (hti : ti.ok P) (hag : ti.isAg = false) {cs : Array Value} {d : Nat} {v : Value} (h : cs[d]? = some v) : (part ti.id cs d).run P w = .ok v w := by
  simp only [part, Sem.run_bind, run_isAgg hti, Result.andThen_ok, hag]
  rw [if_neg (by simp)]
  simp only [h, Sem.run_pure]
theorem eqFs_ok {Z : Tg → PH} (hT : TOk P TT) {d : Nat} {l m : List V} {xs ys : Array Value} (hl : V.rels B Z l xs.toList) (hm : V.rels B Z m ys.toList) : ∀ {fs : List Field} {b : Bool}, (∀ f ∈ fs, (f.name != "_") = true) → eqFs TT l m (fs.map fun f => (f.offset, f.type)) = some b → (Op.eqFields (d + 1) xs ys fs).run P w = .ok b w
  | [], b, _, h => by simp [eqFs] at h; subst h; simp [Op.eqFields]
  | f :: fs, b, hn, h => by
    have hne : f.name ≠ "_" := by simpa using hn f List.mem_cons_self
    have ih := fun {b} => eqFs_ok (d := d) hT hl hm (fs := fs) (b := b) fun f hf => hn f (List.mem_cons_of_mem _ hf)
    simp only [List.map_cons, eqFs] at h
    split at h
    · rename_i id by_ k z q k1 a k2 b' zz e1 e2 e3 e4
      split at h
      · simp at h
        subst h
        obtain ⟨t1, t2⟩ := hT.get e1
        obtain ⟨dd, d1, d2⟩ := t2.desc
        simp only at t1 d1 d2
        obtain rfl := shapeK_it d2
        obtain ⟨v1, v2, v3⟩ := nth_rels hl e2
        obtain ⟨u1, u2, u3⟩ := nth_rels hm e3
        obtain rfl : v1 = _ := v3
        obtain rfl : u1 = _ := u3
        rw [t1] at d1
        have p1 := part_one (w := w) t2 rfl (cs := xs) (d := f.offset) (by simpa using v2)
        have p2 := part_one (w := w) t2 rfl (cs := ys) (d := f.offset) (by simpa using u2)
        simp only [t1] at p1 p2
        simp only [Op.eqFields, ne_eq, hne, not_false_eq_true, if_true, Sem.run_bind, p1, p2, Result.andThen_ok, run_equalIn_int w d f.type _ _ _ _ d1]
        cases hc : (a == b') with
        | true => simp only [Bool.not_true, Bool.false_eq_true, if_false, cond_true, Bool.true_and, ih e4]
        | false => simp only [Bool.not_false, if_true, cond_false, Bool.false_and, Sem.run_pure]
      · cases h
    · rename_i id by_ z q a b' zz e1 e2 e3 e4
      simp at h
      subst h
      obtain ⟨t1, t2⟩ := hT.get e1
      obtain ⟨dd, d1, d2⟩ := t2.desc
      simp only at t1 d1 d2
      obtain rfl := shapeK_bo d2
      obtain ⟨v1, v2, v3⟩ := nth_rels hl e2
      obtain ⟨u1, u2, u3⟩ := nth_rels hm e3
      obtain rfl : v1 = _ := v3
      obtain rfl : u1 = _ := u3
      rw [t1] at d1
      have p1 := part_one (w := w) t2 rfl (cs := xs) (d := f.offset) (by simpa using v2)
      have p2 := part_one (w := w) t2 rfl (cs := ys) (d := f.offset) (by simpa using u2)
      simp only [t1] at p1 p2
      simp only [Op.eqFields, ne_eq, hne, not_false_eq_true, if_true, Sem.run_bind, p1, p2, Result.andThen_ok, run_equalIn_bool' w d f.type _ _ d1]
      cases hc : (a == b') with
      | true => simp only [Bool.not_true, Bool.false_eq_true, if_false, cond_true, Bool.true_and, ih e4]
      | false => simp only [Bool.not_false, if_true, cond_false, Bool.false_and, Sem.run_pure]
    · cases h
theorem eqSt_ok {Z : Tg → PH} (hT : TOk P TT) {ti : TI} (hti : ti.ok P) {o : BinOp} {x y : SV} {v : Value} (h : eqSt TT ti o x y = some v) (ox oy : Operand) {u u' : Value} (hu : SV.rel P B Z x u) (hu' : SV.rel P B Z y u') :
    (do eqGuard o ti.id ox oy u u'; binOp o ti.id u u' : Sem Value).run P w = .ok v w := by
  unfold eqSt at h
  split at h
  · rename_i fs l m e1 e2 e3
    obtain ⟨cs, rfl, r1⟩ := agL_rel e2 hu
    obtain ⟨ds, rfl, r2⟩ := agL_rel e3 hu'
    cases hq : ti.eqf with
    | false => rw [hq] at h; cases h
    | true =>
      rw [hq] at h
      simp only [cond_true] at h
      obtain ⟨d, d1, d2⟩ := hti.desc
      rw [e1] at d2
      obtain ⟨fa, rfl, d3⟩ := shapeK_st d2
      have hpl := hti.2.2.2 hq
      simp only [eqPlain, d1, Bool.and_eq_true, Bool.not_eq_true', Array.all_eq_true'] at hpl
      obtain ⟨⟨g1, g2⟩, g3⟩ := hpl
      have hfo : P.fieldsOf ti.id = fa := by simp [Program.fieldsOf, d1]
      have run : ∀ {b}, eqFs TT l m fs = some b → (Op.equalIn 10000 ti.id (.agg cs) (.agg ds)).run P w = .ok b w := fun {b} hb => by
        rw [run_equalIn_agg w 9999 ti.id cs ds (by rw [hfo]; exact d1) g1, hfo]
        rw [← d3] at hb
        exact eqFs_ok hT r1 r2 (fun f hf => g3 f (by simpa using hf)) hb
      split at h
      · rename_i b hb
        injection h with h; subst h
        rw [Sem.run_bind, run_eqGuard_agg w _ _ _ _ _ _ g2, Result.andThen_ok, run_eql_struct, run hb]; rfl
      · rename_i b hb
        injection h with h; subst h
        rw [Sem.run_bind, run_eqGuard_agg w _ _ _ _ _ _ g2, Result.andThen_ok, run_neq_struct, run hb]; rfl
      · cases h
  · cases h
theorem rd_cut {h : PH} {sz n : Nat} {f : Nat → List D} {A : Option Addr} {m c l x : Nat} (e : D.rd h (.sl sz n f) (.slice A m c)) (hl : l ≤ x) (hx : x ≤ n) : D.rd h (.sl sz (x - l) fun i => f (l + i)) (.slice (if c = l then A else A.map (·.add (l * sz))) (x - l) (c - l)) := by
  obtain ⟨A', c', e1, e2, e3, e4⟩ := e
  injection e1 with e5 e6 e7
  subst e5; subst e6; subst e7
  refine ⟨_, _, rfl, by omega, by omega, ?_⟩
  rcases e4 with e4 | ⟨b, o, rfl, g⟩
  · exact .inl (by omega)
  · by_cases h0 : x - l = 0
    · exact .inl h0
    · refine .inr ⟨b, o + l * sz, ?_, fun i hi => ?_⟩
      · rw [if_neg (by omega)]; simp [add_mk]
      · obtain ⟨row, r1, r2, r3⟩ := g (l + i) (by omega)
        refine ⟨row, r1, r2, fun j hj => ?_⟩
        have := r3 j hj
        rwa [Nat.add_mul, ← Nat.add_assoc] at this
theorem sb_rd {h : PH} {sz n : Nat} {f : Nat → List D} {u : Value} {lo hi : Int} (e : D.rd h (.sl sz n f) u) (h1 : 0 ≤ lo) (h2 : lo ≤ hi) (h3 : hi ≤ n) : D.rd h (.sl sz (hi - lo).toNat fun i => f (lo.toNat + i)) (sbV u sz lo.toNat (hi - lo).toNat) := by
  obtain ⟨A, c, rfl, e4⟩ := (show ∃ A c, u = .slice A n c ∧ _ from e)
  have := rd_cut (l := lo.toNat) (x := hi.toNat) e (by omega) (by omega)
  have e : (hi - lo).toNat = hi.toNat - lo.toNat := by omega
  rw [e]; exact this
theorem slR_spec (m : Ms B r mu H) {x : V} {q : Tg} {sz n : Nat} {f : Nat → List D} {ob : Ob} (h : slR mu x = some (q, sz, n, f, ob)) (ho : Alls ob) {u : Value} (hu : x.rel B (Zf r H) u) : D.rd (Zf r H q) (.sl sz n f) u := by
  cases x with
  | s q' sz' n' f' => simp [slR] at h; obtain ⟨rfl, rfl, rfl, rfl, rfl⟩ := h; exact hu
  | g k =>
    obtain ⟨rfl, _⟩ := (show u = B k ∧ _ from hu)
    simp only [slR] at h
    split at h
    · rename_i sz' n' f' e; simp at h; obtain ⟨rfl, rfl, rfl, rfl, rfl⟩ := h; exact D.own_rd _ (m.sat k _ e)
    · rename_i sz' n' f' e; simp at h; obtain ⟨rfl, rfl, rfl, rfl, rfl⟩ := h; exact m.sat k _ e
    · cases h
  | sb k sz lo hi =>
    obtain ⟨rfl, _⟩ := (show u = sbV (B k) sz _ _ ∧ _ from hu)
    simp only [slR] at h
    split at h
    · rename_i sz' n' f' e
      simp at h; obtain ⟨rfl, rfl, rfl, rfl, rfl⟩ := h
      obtain ⟨rfl, ⟨q1, q2, q3⟩, _⟩ := ho
      exact sb_rd (D.own_rd _ (m.sat k _ e)) q1 q2 q3
    · cases h
  | _ => simp [slR] at h
theorem bndV_spec {Z : Tg → PH} (f : Fits P B Z N fr gf a) {g : Gd} (hg : ∀ d w, (d, w) ∈ g → a.tmps.getD d undef = .bool w) {d i : Int} {x : Operand} (h : bndV g fr gf d (some x) = some i) : ∃ k, a.eval x = .int k i := by
  simp only [bndV] at h
  split at h
  · rename_i k j e; injection h with h; subst h; exact ⟨k, f.ev hg e⟩
  · cases h
theorem run_bound {k : IntKind} {i : Int} {y : Nat} (h : 0 ≤ i ∧ i ≤ y) (c : BoundsCode) : (Instr.sliceBound (.int k i) y c).run P w = .ok i.toNat w := by
  simp only [Instr.sliceBound, asIntOf, Sem.run_bind, Sem.run_pure, Result.andThen_ok]
  rw [if_pos h]; rfl
end
end
section
theorem elP_add {x : Value} {sz : Nat} {i : Int} {o d : Nat} {p : Addr} (h : elP x sz i o = .pointer (some p)) (hs : ∃ A n c, x = .slice A n c) : elP x sz i (o + d) = .pointer (some (p.add d)) := by
  obtain ⟨A, n, c, rfl⟩ := hs
  simp only [elP] at h ⊢
  injection h with h
  injection h with h
  rw [← h, p_add]
section
variable {P : Program} {w : World} {B : BE} {r : PH} {mu : Mu} {H : Nat → PH} {TT : List TI} {N : Nat} {fr : Fr} {gf : GF} {a : Act}
theorem run_sliceBounds {b : Bool} {len cap : Nat} {lo hi : Option Value} {l h : Int} (hlo : (lo = none ∧ l = 0) ∨ ∃ k, lo = some (.int k l)) (hhi : (hi = none ∧ h = len) ∨ ∃ k, hi = some (.int k h)) (h1 : 0 ≤ l ∧ l ≤ h) (h2 : h ≤ cap) : (Instr.sliceBounds b len cap lo hi none).run P w = .ok (l.toNat, h.toNat, cap) w := by
  have B1 : ∀ (k : IntKind) (code : BoundsCode), (Instr.sliceBound (.int k h) cap code).run P w = .ok h.toNat w := fun k code => run_bound (by omega) code
  have B2 : ∀ (k : IntKind) (code : BoundsCode), (Instr.sliceBound (.int k l) h.toNat code).run P w = .ok l.toNat w := fun k code => run_bound (by omega) code
  rcases hlo with ⟨rfl, rfl⟩ | ⟨k, rfl⟩ <;> rcases hhi with ⟨rfl, rfl⟩ | ⟨k', rfl⟩
  · simp only [Instr.sliceBounds, Sem.run_bind, Sem.run_pure, Result.andThen_ok]; rfl
  · simp only [Instr.sliceBounds, Sem.run_bind, Sem.run_pure, Result.andThen_ok, B1]; rfl
  · have := B2 k .sliceB
    rw [show ((len : Int)).toNat = len from rfl] at this
    simp only [Instr.sliceBounds, Sem.run_bind, Sem.run_pure, Result.andThen_ok, Option.isSome_none, Bool.false_eq_true, if_false, this]; rfl
  · simp only [Instr.sliceBounds, Sem.run_bind, Sem.run_pure, Result.andThen_ok, Option.isSome_none, Bool.false_eq_true, if_false, B1, B2]
theorem bnd_run {Z : Tg → PH} (f : Fits P B Z N fr gf a) {g : Gd} (hg : ∀ d w, (d, w) ∈ g → a.tmps.getD d undef = .bool w) {d i : Int} {o : Option Operand} (h : bndV g fr gf d o = some i) : (o.map a.eval = none ∧ i = d) ∨ ∃ k, o.map a.eval = some (.int k i) := by
  cases o with
  | none => simp [bndV] at h; exact .inl ⟨rfl, h.symm⟩
  | some x => obtain ⟨k, e⟩ := bndV_spec f hg h; exact .inr ⟨k, by rw [Option.map_some, e]⟩
theorem nilP_slice (m : Ms B r mu H) {k sz : Nat} {i : Int} {o : Nat} (h : isNilP mu (.pe k sz i o) = some false) : ∃ A n c, B k = .slice A n c := by
  simp only [isNilP] at h
  split at h
  · rename_i e; obtain ⟨A, c, e1, _⟩ := own_slice (m.sat k _ e); exact ⟨_, _, _, e1⟩
  · rename_i e; obtain ⟨A, c, e1, _⟩ := fit_slice (m.sat k _ e); exact ⟨_, _, _, e1⟩
  · rename_i e; obtain ⟨A, c, e1, _⟩ := m.sat k _ e; exact ⟨_, _, _, e1⟩
  · cases h
theorem pst_ok (hT : TOk P TT) (f : Fits P B (Zf r H) N fr gf a) (m : Ms B r mu H) {g : Gd} (hg : ∀ d w, (d, w) ∈ g → a.tmps.getD d undef = .bool w) {o : Oper} {x : SV} {q : Ob}
    (h : pst TT fr gf mu g o.op = some (x, q)) (hq : Alls q) : ∃ v, (∀ w, Fw r mu H w → (execOp a.eval o).run P w = .ok (.value v) w) ∧ SV.rel P B (Zf r H) x v := by
  obtain ⟨dst, op, type, pos, after, guard⟩ := o
  simp only at h
  have E : ∀ {x : Operand} {y : SV}, ev g fr gf x = some y → SV.rel P B (Zf r H) y (a.eval x) := fun h => f.ev hg h
  unfold pst at h
  split at h
  · split at h
    · rename_i e; simp at h; obtain ⟨rfl, rfl⟩ := h; exact ⟨_, fun w hw => by simp only [execOp, Sem.run_pure], E e⟩
    · cases h
  · split at h
    · rename_i e; simp at h; obtain ⟨rfl, rfl⟩ := h; exact ⟨_, fun w hw => by simp only [execOp, Sem.run_pure], E e⟩
    · cases h
  · rename_i c x y
    split at h
    · rename_i b ct e
      split at h
      · rename_i p q' e1 e2
        simp at h; obtain ⟨rfl, rfl⟩ := h
        have hc : a.eval (.tmp ct) = .bool b := E e
        have hct : a.tmps.getD ct undef = .bool b := hc
        refine ⟨_, fun w hw => ?_, rfl⟩
        simp only [execOp, hc, asBool, Sem.run_bind, Sem.run_pure, Result.andThen_ok]
        cases b with
        | true =>
          have : a.eval x = _ := f.ev (g := (ct, true) :: g) (fun d w e => by cases e with | head => exact hct | tail _ e => exact hg d w e) e1
          simp only [if_true, this, cond_true]
        | false =>
          have : a.eval y = _ := f.ev (g := (ct, false) :: g) (fun d w e => by cases e with | head => exact hct | tail _ e => exact hg d w e) e2
          simp only [Bool.false_eq_true, if_false, this, cond_false]
      · cases h
    · cases h
  · rename_i x
    split at h
    · rename_i y e
      split at h
      · rename_i e1
        simp at h; obtain ⟨rfl, rfl⟩ := h
        obtain ⟨A, e2, e3⟩ := isNilP_spec m e1 (E e)
        cases A with
        | none => cases e3
        | some A => exact ⟨_, fun w hw => nilCheck_ok e2 _ _ _ _ _, by rw [← e2]; exact E e⟩
      · cases h
    · rename_i fn l e
      simp at h; obtain ⟨rfl, rfl⟩ := h
      obtain ⟨vs, e1, e2⟩ := (show _ from E e)
      refine ⟨_, fun w hw => ?_, vs, rfl, e2⟩
      simp only [execOp, e1, Sem.run_pure]
    · rename_i φ e
      simp at h; obtain ⟨rfl, rfl⟩ := h
      obtain ⟨fn, vs, e1, e2⟩ := (show _ from E e)
      refine ⟨_, fun w hw => ?_, fn, vs, rfl, e2⟩
      simp only [execOp, e1, Sem.run_pure]
    · cases h
  · rename_i op t x y yt
    split at h
    · rename_i x' y' ti e1 e2 e3
      obtain ⟨t1, t2⟩ := hT.get e3
      obtain ⟨d, d1, d2⟩ := t2.desc
      split at h
      · rename_i v q' e4
        simp at h; obtain ⟨rfl, rfl⟩ := h
        rw [t1] at d1
        refine ⟨v, fun w hw => ?_, rfl⟩
        simp only [execOp]
        exact run_value (bop_ok m d1 d2 e4 hq x y (E e1) (E e2))
      · split at h
        · rename_i v e4
          simp at h; obtain ⟨rfl, rfl⟩ := h
          refine ⟨v, fun w hw => ?_, rfl⟩
          simp only [execOp]
          have := eqSt_ok (w := w) hT t2 e4 x y (E e1) (E e2)
          rw [t1] at this
          exact run_value this
        · cases h
    · rename_i x' y' ti hno e1 e2 e3
      obtain ⟨t1, t2⟩ := hT.get e3
      split at h
      · rename_i v e4
        simp at h; obtain ⟨rfl, rfl⟩ := h
        refine ⟨v, fun w hw => ?_, rfl⟩
        simp only [execOp]
        have := eqSt_ok (w := w) hT t2 e4 x y (E e1) (E e2)
        rw [t1] at this
        exact run_value this
      · cases h
    · cases h
  · split at h
    · rename_i b e
      simp at h; obtain ⟨rfl, rfl⟩ := h
      have e := E e
      refine ⟨_, fun w hw => ?_, rfl⟩
      simp only [execOp, show _ = _ from e]
      exact run_value (by simp [Op.unary])
    · rename_i x' e
      simp at h; obtain ⟨rfl, rfl⟩ := h
      have e := E e
      refine ⟨_, fun w hw => ?_, rfl⟩
      simp only [execOp, show _ = _ from e]
      refine run_value ?_
      have := hq.1
      simp [Op.unary, Op.intArith, wrap_in this]
    · cases h
  · rename_i t x fi
    split at h
    · rename_i y id sz by_ fs z ef e1 e2
      split at h
      · rename_i d ft e3
        split at h
        · rename_i tf e4
          cases e5 : Nat.beq tf.sz 0 with
          | true => rw [e5] at h; cases h
          | false =>
            rw [e5] at h
            simp only [cond_false] at h
            obtain ⟨t1, t2⟩ := hT.get e2
            obtain ⟨fa, fa1, fa2⟩ := TI.ok.stc t2
            simp only at t1
            subst t1
            obtain ⟨fl, f1, f2, f3⟩ := field_get fa2 e3
            obtain ⟨g1, g2⟩ := hT.get e4
            obtain ⟨inf, g3, g4, _⟩ := g2.info
            have hn : inf.size ≠ 0 := by
              rw [g4]; intro h0; rw [h0] at e5; cases e5
            have R := fun (w : World) (b : Addr) => run_fieldAt (P := P) (w := w) fa1 f1 (by rw [f3, ← g1]; exact g3) hn b
            have hx := E e1
            split at h
            · rename_i k o e6
              simp at h; obtain ⟨rfl, rfl⟩ := h
              obtain ⟨A, e7, e8⟩ := isNilP_spec m e6 hx
              cases A with
              | none => cases e8
              | some A =>
                refine ⟨.pointer (some (A.add d)), fun w hw => ?_, ?_, rfl⟩
                · simp only [execOp, e7]; exact run_value (by rw [R, f2])
                · have : a.eval x = addP (B k) o := hx.1
                  rw [← addP_add, ← this, e7]; rfl
            · rename_i k sz' i o e6
              simp at h; obtain ⟨rfl, rfl⟩ := h
              obtain ⟨A, e7, e8⟩ := isNilP_spec m e6 hx
              cases A with
              | none => cases e8
              | some A =>
                refine ⟨.pointer (some (A.add d)), fun w hw => ?_, ?_, rfl⟩
                · simp only [execOp, e7]; exact run_value (by rw [R, f2])
                · have : a.eval x = elP (B k) sz' i o := hx.1
                  rw [this] at e7
                  exact (elP_add e7 (nilP_slice m e6)).symm
            · rename_i q' l o e6
              simp at h; obtain ⟨rfl, rfl⟩ := h
              obtain ⟨b, x', vs, e7, e8, e9⟩ := (show _ from hx)
              refine ⟨.pointer (some ⟨b, x' + o + d, none⟩), fun w hw => ?_, b, x', vs, ?_, e8, e9⟩
              · simp only [execOp, e7]; exact run_value (by rw [R, f2, add_mk])
              · rw [Nat.add_assoc]
            · cases h
        · cases h
      · cases h
    · cases h
  · rename_i t x fi
    split at h
    · rename_i y id sz by_ fs z ef e1 e2
      split at h
      · rename_i l d ft e3 e4
        split at h
        · rename_i tf e5
          split at h
          · rename_i l' e6
            split at h
            · rename_i z' e7
              simp at h; obtain ⟨rfl, rfl⟩ := h
              obtain ⟨t1, t2⟩ := hT.get e2
              obtain ⟨fa, fa1, fa2⟩ := TI.ok.stc t2
              simp only at t1
              subst t1
              obtain ⟨fl, f1, f2, f3⟩ := field_get fa2 e4
              obtain ⟨g1, g2⟩ := hT.get e5
              obtain ⟨cs, c1, c2⟩ := agL_rel e3 (E e1)
              obtain ⟨ms, k1, k2⟩ := cut_rels c2 e6
              have fin : ∀ {v : Value}, ((tf.isAg = true ∧ v = .agg ms.toArray) ∨ (tf.isAg = false ∧ ms = [v])) → ∀ w, (Instr.field id (.agg cs) fi).run P w = .ok v w := fun hv w => by
                simp only [Instr.field, Sem.run_bind, run_underlying fa1, Result.andThen_ok, f1, asAgg, Sem.run_pure, f2, f3, ← g1]
                exact run_part g2 cs d ms k1 _ hv
              rcases svOf_spec e7 with ⟨j1, rfl⟩ | ⟨j1, y', rfl, rfl⟩
              · refine ⟨_, fun w hw => ?_, ms, rfl, k2⟩
                simp only [execOp, c1]
                exact run_value (fin (.inl ⟨j1, rfl⟩) w)
              · obtain ⟨v, t, rfl, k3, k4⟩ := k2
                have k4 : t = [] := k4
                subst k4
                refine ⟨v, fun w hw => ?_, k3⟩
                simp only [execOp, c1]
                exact run_value (fin (.inr ⟨j1, rfl⟩) w)
            · cases h
          · cases h
        · cases h
      · cases h
    · cases h
  · rename_i t x ix
    split at h
    · rename_i y k' j id sz by_ e z ef e1 e2 e3
      split at h
      · rename_i te e4
        obtain ⟨t1, t2⟩ := hT.get e3
        obtain ⟨d, d1, d2⟩ := t2.desc
        simp only at t1 d1 d2
        subst t1
        obtain rfl := shapeK_slc d2
        obtain ⟨g1, g2⟩ := hT.get e4
        obtain ⟨inf, g3, g4, _⟩ := g2.info
        rw [g1] at g3
        have hx := E e1
        have hi : a.eval ix = .int k' j := E e2
        have fin : ∀ {b o n c : Nat}, a.eval x = .slice (some ⟨b, o, none⟩) n c → 0 ≤ j ∧ j < n → ∀ w, (execOp a.eval ⟨dst, .indexAddr id x ix, type, pos, after, guard⟩).run P w = .ok (.value (.pointer (some ⟨b, o + j.toNat * te.sz, none⟩))) w := fun {b o n c} h1 h2 w => by
          simp only [execOp, h1, hi]
          refine run_value ?_
          have := run_indexAt (P := P) (w := w) d1 g3 b o n c k' j h2
          rw [g4] at this
          exact this
        split at h
        · rename_i q' sz' n f'
          simp at h; obtain ⟨rfl, rfl⟩ := h
          obtain ⟨rfl, q3, _⟩ := hq
          simp only [OB.p] at q3
          obtain ⟨A, c, k1, k2, k3, k4⟩ := (show D.rd _ _ _ from hx)
          rcases k4 with k4 | ⟨b, o, rfl, k5⟩
          · omega
          · obtain ⟨row, r1, r2, r3⟩ := k5 j.toNat (by omega)
            exact ⟨_, fun w _ => fin k1 q3 w, b, o + j.toNat * te.sz, row, rfl, r1, fun i hi => r3 i (by omega)⟩
        · rename_i k
          obtain ⟨hB, _⟩ := (show a.eval x = B k ∧ _ from hx)
          split at h
          · rename_i sz' n f' e5
            simp at h; obtain ⟨rfl, rfl⟩ := h
            obtain ⟨q3, _⟩ := hq
            simp only [OB.p] at q3
            obtain ⟨A, c, k1, k2, k3, k4⟩ := (show D.own _ _ _ from m.sat k _ e5)
            rcases k4 with k4 | ⟨b, o, row, G, rfl, k5⟩
            · omega
            · exact ⟨_, fun w _ => fin (hB.trans k1) q3 w, by rw [k1, elP_slice]; rfl, rfl⟩
          · rename_i sz' n f' i0 k20 e5
            simp at h; obtain ⟨rfl, rfl⟩ := h
            obtain ⟨q3, _⟩ := hq
            simp only [OB.p] at q3
            obtain ⟨A, c, k1, k2, k3, k4, _, b, o, row, G, rfl, _⟩ := m.sat k _ e5
            exact ⟨_, fun w _ => fin (hB.trans k1) q3 w, by rw [k1, elP_slice]; rfl, rfl⟩
          · rename_i sz' n f' e5
            simp at h; obtain ⟨rfl, rfl⟩ := h
            obtain ⟨q3, _⟩ := hq
            simp only [OB.p] at q3
            obtain ⟨A, c, k1, k2, k3, k4⟩ := (show D.rd _ _ _ from m.sat k _ e5)
            rcases k4 with k4 | ⟨b, o, rfl, k5⟩
            · omega
            · exact ⟨_, fun w _ => fin (hB.trans k1) q3 w, by rw [k1, elP_slice]; rfl, rfl⟩
          · cases h
        · rename_i k sz2 lo hi
          obtain ⟨hB, _⟩ := (show a.eval x = sbV (B k) sz2 _ _ ∧ _ from hx)
          split at h
          · rename_i sz' n f' e5
            simp at h; obtain ⟨rfl, rfl⟩ := h
            obtain ⟨q0, q3, q4, _⟩ := hq
            simp only [OB.p] at q0 q3 q4
            subst q0
            obtain ⟨A, c, k1, k2, k3, k4⟩ := (show D.own _ _ _ from m.sat k _ e5)
            rcases k4 with k4 | ⟨b, o, row, G, rfl, k5⟩
            · omega
            · rw [k1, sbV, if_neg (by omega)] at hB
              simp only [Option.map_some, add_mk] at hB
              refine ⟨_, fun w _ => fin hB (by omega) w, ?_, rfl⟩
              rw [k1, elP_slice]
              have : o + lo.toNat * te.sz + j.toNat * te.sz = o + (lo + j).toNat * te.sz + 0 := by
                rw [Nat.add_zero, Nat.add_assoc, ← Nat.add_mul]; congr 2; omega
              rw [this]
          · cases h
        · cases h
      · cases h
    · cases h
  · split at h
    · rename_i t x y ti e1 e2
      obtain ⟨t1, t2⟩ := hT.get e2
      subst t1
      obtain ⟨p, v, p1, p2, p3⟩ := ld_ok m t2 h hq (E e1)
      refine ⟨v, fun w hw => ?_, p3⟩
      simp only [execOp, p1]
      refine run_value ?_
      simp only [Instr.loadAt, Instr.sureAddr, Sem.run_bind, Sem.run_pure, Result.andThen_ok, p2 w hw]
    · cases h
  · rename_i x ix
    split at h
    · rename_i l e
      split at h
      · rename_i v e2
        simp at h; obtain ⟨rfl, rfl⟩ := h
        obtain ⟨vs, e3, e4⟩ := (show ∃ vs, _ from E e)
        rw [nth_eq] at e2
        obtain ⟨u, u1, u2⟩ := SV.rels_get e4 e2
        refine ⟨u, fun w hw => ?_, u2⟩
        simp only [execOp, e3]
        refine run_value ?_
        have : vs.toArray[ix]? = some u := by simpa using u1
        simp only [Instr.extract, this, Sem.run_pure]
      · cases h
    · cases h
  · rename_i t parts
    split at h
    · rename_i ps id sz by_ fs z ef e1 e2
      cases hall : allF TT fs with
      | false => rw [hall] at h; cases h
      | true =>
        rw [hall] at h
        simp only [cond_true] at h
        rw [vcells_eq, Option.bind_some] at h
        split at h
        · rename_i l e3
          simp at h; obtain ⟨rfl, rfl⟩ := h
          obtain ⟨t1, t2⟩ := hT.get e2
          simp only at t1
          subst t1
          obtain ⟨fa, fa1, fa2⟩ := TI.ok.stc t2
          obtain ⟨inf, i1, _, _, i4⟩ := t2.info
          obtain ⟨p1, p2⟩ := evParts_spec f hg e1
          obtain ⟨ms, b1, b2⟩ := run_build (B := B) fa1 fa2 hT hall i1 i4 e3 (parts.map fun p => (p.1, a.eval p.2)) (by rw [Array.toList_map]; exact p1) (by rw [Array.toList_map]; exact p2)
          refine ⟨_, fun w hw => ?_, ms, rfl, b2⟩
          simp only [execOp]
          exact run_value (b1 w)
        · cases h
    · cases h
  · rename_i fn first caps
    split at h
    · rename_i l e1 e2
      split at h
      · rename_i l' e3
        simp at h; obtain ⟨rfl, rfl⟩ := h
        have h1 : first = #[] := by simpa using e1
        have h2 := vsA_spec e3 (f.evs hg e2)
        refine ⟨_, fun w hw => ?_, _, rfl, h2⟩
        simp only [execOp, Instr.makeFunc]
        refine run_value ?_
        simp only [Sem.run_pure, h1, Array.map_empty]
        have : caps.map a.eval = (caps.toList.map a.eval).toArray := Array.ext' (by rw [Array.toList_map])
        rw [this]
      · cases h
    · cases h
  · rename_i c
    obtain ⟨callee, args, ats⟩ := c
    simp only at h
    split at h
    · rename_i x ha
      have ha' : args = #[x] := by rw [← Array.toArray_toList (xs := args), ha]
      subst ha'
      have fin : ∀ {A : Option Addr} {n c : Nat} {t e : TypeId}, a.eval x = .slice A n c → ats[0]? = some t → P.underlying t = some (.slice e) → ∀ w, (execOp a.eval ⟨dst, .call ⟨.builtin .len, #[x], ats⟩, type, pos, after, guard⟩).run P w = .ok (.value (.int .i64 n)) w := fun h1 h2 h3 w => by
        simp only [execOp, resolve, Sem.run_bind, Sem.run_pure, Result.andThen_ok, invoke, builtin, Builtin.len_, h2, List.map_toArray, List.map_cons, List.map_nil, h1, List.getElem?_toArray, List.getElem?_cons_zero, run_underlying h3]
        rfl
      have tyS : ∀ {id sz by_ e : Nat} {z : Value} {ef : Bool}, ((ats[0]?).bind (tlk · TT)) = some ⟨id, sz, by_, .slc e, z, ef⟩ → ∃ t, ats[0]? = some t ∧ P.underlying t = some (.slice e) := fun e2 => by
        obtain ⟨t, e3, e4⟩ := Option.bind_eq_some_iff.1 e2
        obtain ⟨t1, t2⟩ := hT.get e4
        obtain ⟨d, d1, d2⟩ := t2.desc
        simp only at t1 d1 d2; subst t1; obtain rfl := shapeK_slc d2
        exact ⟨_, e3, d1⟩
      split at h
      · rename_i q' sz' n f' id sz by_ e z ef e1 e2
        simp at h; obtain ⟨rfl, rfl⟩ := h
        obtain ⟨t, e3, e4⟩ := tyS e2
        obtain ⟨A, c, k1, _⟩ := (show D.rd _ _ _ from E e1)
        exact ⟨_, fun w _ => fin k1 e3 e4 w, rfl⟩
      · rename_i k id sz by_ e z ef e1 e2
        obtain ⟨t, e3, e4⟩ := tyS e2
        obtain ⟨hB, _⟩ := (show a.eval x = B k ∧ _ from E e1)
        split at h
        · rename_i sz' n f' e5
          simp at h; obtain ⟨rfl, rfl⟩ := h
          obtain ⟨A, c, k1, _⟩ := (show D.own _ _ _ from m.sat k _ e5)
          exact ⟨_, fun w _ => fin (hB.trans k1) e3 e4 w, rfl⟩
        · rename_i sz' n f' e5
          simp at h; obtain ⟨rfl, rfl⟩ := h
          obtain ⟨A, c, k1, _⟩ := (show D.rd _ _ _ from m.sat k _ e5)
          exact ⟨_, fun w _ => fin (hB.trans k1) e3 e4 w, rfl⟩
        · rename_i sz' n f' i0 k20 e5
          simp at h; obtain ⟨rfl, rfl⟩ := h
          obtain ⟨A, c, k1, _⟩ := m.sat k _ e5
          exact ⟨_, fun w _ => fin (hB.trans k1) e3 e4 w, rfl⟩
        · cases h
      · rename_i k sz2 lo hi id sz by_ e z ef e1 e2
        obtain ⟨t, e3, e4⟩ := tyS e2
        obtain ⟨hB, _⟩ := (show a.eval x = sbV (B k) sz2 _ _ ∧ _ from E e1)
        split at h
        · rename_i sz' n f' e5
          simp at h; obtain ⟨rfl, rfl⟩ := h
          obtain ⟨A, c, k1, _⟩ := own_slice (m.sat k _ e5)
          rw [k1] at hB
          exact ⟨_, fun w _ => fin hB e3 e4 w, by show Value.int _ _ = Value.int _ _; congr 1; omega⟩
        · cases h
      · rename_i k2 n2 c2 id sz by_ e z ef e1 e2
        simp at h; obtain ⟨rfl, rfl⟩ := h
        obtain ⟨t, e3, e4⟩ := tyS e2
        obtain ⟨_, _, A, k1⟩ := (show a.eval x = B _ ∧ _ ∧ _ from E e1)
        exact ⟨_, fun w _ => fin k1 e3 e4 w, rfl⟩
      · rename_i A n c id sz by_ e z ef e1 e2
        simp at h; obtain ⟨rfl, rfl⟩ := h
        obtain ⟨t, e3, e4⟩ := tyS e2
        exact ⟨_, fun w _ => fin (E e1) e3 e4 w, rfl⟩
      · rename_i s id sz by_ z ef e1 e2
        simp at h; obtain ⟨rfl, rfl⟩ := h
        obtain ⟨t, e3, e4⟩ := Option.bind_eq_some_iff.1 e2
        obtain ⟨t1, t2⟩ := hT.get e4
        obtain ⟨d, d1, d2⟩ := t2.desc
        simp only at t1 d1 d2; subst t1; obtain rfl := shapeK_str d2
        have e1 : a.eval x = _ := E e1
        refine ⟨_, fun w hw => ?_, rfl⟩
        simp only [execOp, resolve, Sem.run_bind, Sem.run_pure, Result.andThen_ok, invoke, builtin, Builtin.len_, e3, List.map_toArray, List.map_cons, List.map_nil, e1, List.getElem?_toArray, List.getElem?_cons_zero, run_underlying d1]
        rfl
      · cases h
    · rename_i x ha
      have ha' : args = #[x] := by rw [← Array.toArray_toList (xs := args), ha]
      subst ha'
      split at h
      · rename_i k2 n2 c2 id sz by_ e z ef e1 e2
        simp at h; obtain ⟨rfl, rfl⟩ := h
        obtain ⟨t, e3, e4⟩ := Option.bind_eq_some_iff.1 e2
        obtain ⟨t1, t2⟩ := hT.get e4
        obtain ⟨d, d1, d2⟩ := t2.desc
        simp only at t1 d1 d2; subst t1; obtain rfl := shapeK_slc d2
        obtain ⟨_, _, A, k1⟩ := (show a.eval x = B _ ∧ _ ∧ _ from E e1)
        refine ⟨_, fun w hw => ?_, rfl⟩
        simp only [execOp, resolve, Sem.run_bind, Sem.run_pure, Result.andThen_ok, invoke, builtin, Builtin.cap_, e3, List.map_toArray, List.map_cons, List.map_nil, k1, List.getElem?_toArray, List.getElem?_cons_zero, run_underlying d1]
        rfl
      · cases h
    · rename_i x y ha
      have ha' : args = #[x, y] := by rw [← Array.toArray_toList (xs := args), ha]
      subst ha'
      split at h
      · rename_i p q' e1 e2
        simp at h; obtain ⟨rfl, rfl⟩ := h
        have e1 : a.eval x = _ := E e1
        have e2 : a.eval y = _ := E e2
        refine ⟨_, fun w hw => ?_, rfl⟩
        simp only [execOp, resolve, Sem.run_bind, Sem.run_pure, Result.andThen_ok, invoke, builtin, Builtin.max_, List.map_toArray, List.map_cons, List.map_nil, e1, e2, List.foldlM_cons, List.foldlM_nil, Builtin.max2]
      · cases h
    · rename_i x y ha
      have ha' : args = #[x, y] := by rw [← Array.toArray_toList (xs := args), ha]
      subst ha'
      split at h
      · rename_i p q' e1 e2
        simp at h; obtain ⟨rfl, rfl⟩ := h
        have e1 : a.eval x = _ := E e1
        have e2 : a.eval y = _ := E e2
        refine ⟨_, fun w hw => ?_, rfl⟩
        simp only [execOp, resolve, Sem.run_bind, Sem.run_pure, Result.andThen_ok, invoke, builtin, Builtin.min_, List.map_toArray, List.map_cons, List.map_nil, e1, e2, List.foldlM_cons, List.foldlM_nil, Builtin.min2]
      · cases h
    · cases h
  · rename_i s d x
    split at h
    · rename_i k n i1 sz1 b1 k1 z1 f1 i2 sz2 b2 z2 f2 e1 e2 e3
      simp at h; obtain ⟨rfl, rfl⟩ := h
      obtain ⟨t1, t2⟩ := hT.get e2
      obtain ⟨d', d1, d2⟩ := t2.desc
      obtain ⟨u1, u2⟩ := hT.get e3
      obtain ⟨d'', d3, d4⟩ := u2.desc
      simp only at t1 d1 d2 u1 d3 d4
      subst t1; subst u1
      obtain rfl := shapeK_it d2
      obtain rfl := shapeK_it d4
      have e1 : a.eval x = _ := E e1
      refine ⟨_, fun w hw => ?_, rfl⟩
      simp only [execOp, e1]
      refine run_value ?_
      simp only [convert, Sem.run_bind, run_underlying d1, run_underlying d3, Result.andThen_ok, Conv.intToInt, Sem.run_pure, wrap_in hq.1]
    · rename_i k n i1 sz1 b1 k1 z1 f1 i2 sz2 b2 z2 f2 e1 e2 e3
      simp at h; obtain ⟨rfl, rfl⟩ := h
      obtain ⟨t1, t2⟩ := hT.get e2
      obtain ⟨d', d1, d2⟩ := t2.desc
      obtain ⟨u1, u2⟩ := hT.get e3
      obtain ⟨d'', d3, d4⟩ := u2.desc
      simp only at t1 d1 d2 u1 d3 d4
      subst t1; subst u1
      obtain rfl := shapeK_it d2
      obtain rfl := shapeK_it d4
      have e1 : a.eval x = _ := E e1
      refine ⟨_, fun w hw => ?_, rfl⟩
      simp only [execOp, e1]
      refine run_value ?_
      simp only [convert, Sem.run_bind, run_underlying d1, run_underlying d3, Result.andThen_ok, Conv.intToInt, Sem.run_pure]
    · rename_i k n i1 sz1 b1 k1 z1 f1 i2 sz2 b2 z2 f2 e1 e2 e3
      simp at h; obtain ⟨rfl, rfl⟩ := h
      obtain ⟨t1, t2⟩ := hT.get e2
      obtain ⟨d', d1, d2⟩ := t2.desc
      obtain ⟨u1, u2⟩ := hT.get e3
      obtain ⟨d'', d3, d4⟩ := u2.desc
      simp only at t1 d1 d2 u1 d3 d4
      subst t1; subst u1
      obtain rfl := shapeK_it d2
      obtain rfl := shapeK_it d4
      have e1 : a.eval x = _ := E e1
      refine ⟨_, fun w hw => ?_, rfl⟩
      simp only [execOp, e1]
      refine run_value ?_
      have hw64 : IntKind.u64.wrap n = n := by
        obtain ⟨⟨q1, q2⟩, _⟩ := hq
        show n.emod (2 ^ 64) = n
        exact Int.emod_eq_of_lt q1 (by have : (2:Int)^64 = 18446744073709551616 := by decide
                                       omega)
      simp only [convert, Sem.run_bind, run_underlying d1, run_underlying d3, Result.andThen_ok, Conv.intToInt, Sem.run_pure, hw64]
    · cases h
  · rename_i t x ix
    split at h
    · rename_i s k j id sz by_ z ef e1 e2 e3
      simp at h; obtain ⟨rfl, rfl⟩ := h
      obtain ⟨⟨q1, q2⟩, _⟩ := hq
      obtain ⟨t1, t2⟩ := hT.get e3
      obtain ⟨d, d1, d2⟩ := t2.desc
      simp only at t1 d1 d2; subst t1; obtain rfl := shapeK_str d2
      have e1 : a.eval x = _ := E e1
      have e2 : a.eval ix = _ := E e2
      refine ⟨_, fun w hw => ?_, rfl⟩
      simp only [execOp, e1, e2]
      refine run_value ?_
      have hs : s[j.toNat]? = some (s.data.toList.getD j.toNat 0) := by
        have hlt : j.toNat < s.size := by omega
        rw [getElem?_pos s j.toNat hlt]
        have hl : j.toNat < s.data.toList.length := by simpa using hlt
        rw [List.getD_eq_getElem?_getD, List.getElem?_eq_getElem hl]
        rfl
      simp only [Instr.index, asIntOf, Sem.run_bind, Sem.run_pure, Result.andThen_ok, run_underlying d1, if_pos q1, hs]
      simp
    · cases h
  · rename_i t x lo hi
    split at h
    · rename_i s id sz by_ z ef e1 e3
      obtain ⟨t1, t2⟩ := hT.get e3
      obtain ⟨d, d1, d2⟩ := t2.desc
      simp only at t1 d1 d2; subst t1; obtain rfl := shapeK_str d2
      have hx : a.eval x = _ := E e1
      split at h
      · rename_i l hh e4 e5
        simp at h; obtain ⟨rfl, rfl⟩ := h
        obtain ⟨⟨q1, q2, q3⟩, _⟩ := hq
        refine ⟨_, fun w hw => ?_, rfl⟩
        have := run_sliceBounds (P := P) (w := w) (b := false) (len := s.size) (cap := s.size) (bnd_run f hg e4) (bnd_run f hg e5) ⟨q1, q2⟩ q3
        simp only [execOp, hx, Option.map_none]
        refine run_value ?_
        simp only [Instr.sliceAt, Instr.slice, Sem.run_bind, run_underlying d1, Result.andThen_ok, Option.isSome_none, Bool.false_eq_true, if_false, Sem.run_pure, this]
      · cases h
    · rename_i k' n c id sz by_ e z ef e1 e3
      obtain ⟨t1, t2⟩ := hT.get e3
      obtain ⟨d, d1, d2⟩ := t2.desc
      simp only at t1 d1 d2; subst t1; obtain rfl := shapeK_slc d2
      split at h
      · rename_i te e5
        obtain ⟨u1, u2⟩ := hT.get e5
        obtain ⟨i, i1, i2, _⟩ := u2.info
        rw [u1] at i1
        obtain ⟨hB, _, A, hx⟩ := (show a.eval x = B k' ∧ _ ∧ ∃ A, a.eval x = Value.slice A n c from E e1)
        have hx' : B k' = .slice A n c := hB.symm.trans hx
        split at h
        · rename_i l e7
          simp at h; obtain ⟨rfl, rfl⟩ := h
          obtain ⟨⟨q1, q2, q4⟩, _⟩ := hq
          refine ⟨_, fun w _ => ?_, rfl, by rw [hx']; rfl⟩
          have := run_sliceBounds (P := P) (w := w) (b := true) (len := n) (cap := c) (hi := none) (bnd_run f hg e7) (.inl ⟨rfl, rfl⟩) ⟨q1, q2⟩ (by omega)
          simp only [execOp, hx, hx', Option.map_none]
          refine run_value ?_
          simp only [Instr.sliceAt, Instr.slice, Sem.run_bind, run_underlying d1, Result.andThen_ok, Sem.run_pure, this, run_size i1, i2]
          have e : ((n : Int) - l).toNat = (n : Int).toNat - l.toNat := by omega
          rw [e]; rfl
        · cases h
      · cases h
    · rename_i y id sz by_ e z ef ngl e1 e3
      obtain ⟨t1, t2⟩ := hT.get e3
      obtain ⟨d, d1, d2⟩ := t2.desc
      simp only at t1 d1 d2; subst t1; obtain rfl := shapeK_slc d2
      split at h
      · rename_i k' sz' n te e4 e5
        obtain ⟨u1, u2⟩ := hT.get e5
        obtain ⟨i, i1, i2, _⟩ := u2.info
        rw [u1] at i1
        have own : ∃ f, y = .g k' ∧ mlk k' mu = some (.arr sz' n f) := by
          unfold ownA at e4
          split at e4
          · rename_i k2
            split at e4
            · rename_i sz2 n2 f2 e6
              simp at e4; obtain ⟨rfl, rfl, rfl⟩ := e4
              exact ⟨_, rfl, e6⟩
            · cases e4
          · cases e4
        obtain ⟨f', rfl, e6⟩ := own
        obtain ⟨A, c, hx, c1, c2, c3⟩ := (show D.own _ _ _ from m.sat k' _ e6)
        obtain ⟨hB, _⟩ := (show a.eval x = B k' ∧ _ from E e1)
        split at h
        · rename_i l hh e7 e8
          simp at h; obtain ⟨rfl, rfl⟩ := h
          obtain ⟨rfl, ⟨q1, q2, q3⟩, _⟩ := hq
          refine ⟨_, fun w _ => ?_, rfl, by rw [hx]; rfl⟩
          have := run_sliceBounds (P := P) (w := w) (b := true) (len := n) (cap := c) (bnd_run f hg e7) (bnd_run f hg e8) ⟨q1, q2⟩ (by omega)
          simp only [execOp, hB, hx, Option.map_none]
          refine run_value ?_
          simp only [Instr.sliceAt, Instr.slice, Sem.run_bind, run_underlying d1, Result.andThen_ok, Sem.run_pure, this, run_size i1, i2]
          have e : (hh - l).toNat = hh.toNat - l.toNat := by omega
          rw [e]; rfl
        · cases h
      · rename_i te e4 e5
        split at h
        · rename_i q' sz' n f' ob e6
          have fin : ∀ {A : Option Addr} {c : Nat} {l hh : Int}, a.eval x = .slice A n c → n ≤ c → bndV g fr gf 0 lo = some l → bndV g fr gf n hi = some hh → 0 ≤ l ∧ l ≤ hh ∧ hh ≤ n → ∀ w, (execOp a.eval ⟨dst, .slice id x lo hi none, type, pos, after, guard⟩).run P w = .ok (.value (.slice (if c = l.toNat then A else A.map (·.add (l.toNat * te.sz))) (hh.toNat - l.toNat) (c - l.toNat))) w := fun {A c l hh} hx c1 h1 h2 h3 w => by
            obtain ⟨u1, u2⟩ := hT.get e5
            obtain ⟨i, i1, i2, _⟩ := u2.info
            rw [u1] at i1
            have := run_sliceBounds (P := P) (w := w) (b := true) (len := n) (bnd_run f hg h1) (bnd_run f hg h2) ⟨h3.1, h3.2.1⟩ (Int.le_trans h3.2.2 (Int.ofNat_le.2 c1))
            simp only [execOp, hx, Option.map_none]
            refine run_value ?_
            simp only [Instr.sliceAt, Instr.slice, Sem.run_bind, run_underlying d1, Result.andThen_ok, Sem.run_pure, this, run_size i1, i2]
          split at h
          · split at h
            · rename_i hh e7
              simp at h; obtain ⟨rfl, rfl⟩ := h
              obtain ⟨rfl, q1, q2⟩ := hq
              simp only [OB.p] at q1
              have hr := slR_spec m e6 q2 (E e1)
              obtain ⟨A, c, hx, c1, c2, c3⟩ := (show D.rd _ _ _ from hr)
              rw [hx] at hr
              refine ⟨_, fun w _ => fin hx c1 rfl e7 (by omega) w, ?_⟩
              have := rd_cut (l := 0) (x := hh.toNat) hr (by omega) (by omega)
              simp only [Nat.sub_zero, Nat.zero_add] at this
              exact this
            · cases h
          · rename_i lo'
            split at h
            · rename_i l hh e7 e8
              simp at h; obtain ⟨rfl, rfl⟩ := h
              obtain ⟨rfl, q1, q2⟩ := hq
              simp only [OB.p] at q1
              have hr := slR_spec m e6 q2 (E e1)
              obtain ⟨A, c, hx, c1, c2, c3⟩ := (show D.rd _ _ _ from hr)
              rw [hx] at hr
              refine ⟨_, fun w _ => fin hx c1 e7 e8 q1 w, ?_⟩
              have := rd_cut (l := l.toNat) (x := hh.toNat) hr (by omega) (by omega)
              have e : (hh - l).toNat = hh.toNat - l.toNat := by omega
              show D.rd _ (.sl _ (hh - l).toNat _) _
              rw [e]
              exact this
            · cases h
        · cases h
      · cases h
    · cases h
  · cases h
end
end
section
def acts : Nat → GF → Nat → Bool → Gd
  | 0, _, d, w => [(d, w)]
  | n + 1, gf, d, w => match glk d gf with
    | some (d2, w2, _) => (d, w) :: acts n gf d2 w2
    | none => [(d, w)]
def rawV (d : Nat) (fr : Fr) (gf : GF) : Option SV :=
  match glk d gf with
  | some (_, _, x) => some x
  | none => mlk d fr
def nestG (fr : Fr) (gf : GF) : Gd → Prop → GO
  | [], p => .t p
  | (d, w) :: r, p => match rawV d fr gf with
    | some (.a (.v (.bool b))) => match nestG fr gf r p with
      | .t q => .g b w (.t q)
      | .g b' w' q => .g b w (.g b' w' q)
    | _ => nestG fr gf r p
def splitO (fr : Fr) (gf : GF) (g : Gd) : Ob → List Prop → List GO → Option (List Prop × List GO)
  | [], es, gs => some (es, gs)
  | .e p :: r, es, gs => splitO fr gf g r (p :: es) gs
  | .o p :: r, es, gs => match nestG fr gf g p with
    | .t q => splitO fr gf g r es (.t q :: gs)
    | .g b w q => splitO fr gf g r es (.g b w q :: gs)
def V.okC : V → Bool
  | .v x => oneV x
  | .s .r _ _ _ => true
  | .g _ => true
  | .p _ _ => true
  | .pe _ _ _ _ => true
  | .sb _ _ _ _ => true
  | .rp .r _ _ => true
  | _ => false
def allC : List V → Bool
  | [] => true
  | x :: r => bif x.okC then allC r else false
def flatC : List V → Option (List D)
  | [] => some []
  | .v x :: r => match flatC r with
    | some l => bif oneV x then some (.v x :: l) else none
    | none => none
  | _ :: _ => none
def V.uses (k : Nat) (x : V) : Bool := bif x.usesB k then true else x.usesT k
def unnamed (k : Nat) (fr : Fr) (gf : GF) (mu : Mu) (ks : List Nat) : Bool := bif frAny (V.uses k) fr then false else bif gfAny (V.uses k) gf then false else bif muAny (V.uses k) k mu then false else !hasK k ks
def mst (TT : List TI) (ks : List Nat) (fr : Fr) (gf : GF) (mu : Mu) (dst : Option Nat) (o : Op) : Option (Option SV × Bool × Nat × Ch × Ob) :=
  match o, dst with
  | .box _ x, some k => match ev [] fr gf x with
    | some y => match y.cells with
      | some l => bif (allC l && unnamed k fr gf mu ks && !(anyL (V.uses k) l)) then some (some (.a (.p k 0)), true, k, .row l, []) else none
      | none => none
    | none => none
  | .alloc t, some k => match tlk t TT with
    | some ti => match vcells ti.zero with
      | some l => bif (allC l && unnamed k fr gf mu ks) then some (some (.a (.p k 0)), true, k, .row l, []) else none
      | none => none
    | none => none
  | .store t ad x, none => match ev [] fr gf ad, ev [] fr gf x, tlk t TT with
    | some (.a (.p k o)), some y, some ti => match mlk k mu, y.cells with
      | some (.row l), some cs => bif (lenEq cs ti.sz && allC cs) then match paste l o cs with
          | some l' => some (none, false, k, .row l', [])
          | none => none
        else none
      | _, _ => none
    | some (.a (.pe k sz i o)), some y, some ti => match mlk k mu, y.cells.bind flatC with
      | some (.arr sz' n f), some cs => bif lenEq cs ti.sz then match paste (f i.toNat) o cs with
          | some l' => some (none, false, k, .arr sz' n (fun j => bif Nat.beq j i.toNat then l' else f j), [.e (sz = sz'), .o (0 ≤ i ∧ i < n)])
          | none => none
        else none
      | _, _ => none
    | _, _, _ => none
  | _, _ => none
def cutF (nw : Bool) (k : Nat) (fr : Fr) (gf : GF) : Option (Fr × GF) := bif nw then some (fr, gf) else match frCut (V.usesT k) fr, gfCut (V.usesT k) gf with
  | some fr', some gf' => some (fr', gf')
  | _, _ => none
def gSlot (all : List Oper) (j : Nat) : Option Nat := match nth all j with
  | some o => o.dst
  | none => none
def run (TT : List TI) (N : Nat) (ks : List Nat) (all : List Oper) : List Oper → Fr → GF → Mu → List Prop → List GO → Option (List Oper × Fr × GF × Mu × List Prop × List GO)
  | [], fr, gf, mu, es, gs => some ([], fr, gf, mu, es, gs)
  | o :: r, fr, gf, mu, es, gs => match o.guard with
    | none => match pst TT fr gf mu [] o.op, o.dst with
      | some (x, q), some t => match splitO fr gf [] q es gs, gdrop t gf with
        | some (es', gs'), some gf' => bif Nat.blt t N then run TT N ks all r ((t, x) :: fr) gf' mu es' gs' else none
        | _, _ => none
      | _, d => match mst TT ks fr gf mu d o.op with
        | some (x, nw, k, c, q) => match splitO fr gf [] q es gs, mset k c mu, cutF nw k fr gf with
          | some (es', gs'), some mu', some (fr', gf0) => match x, d with
            | some x, some t => match gdrop t gf0 with
              | some gf' => bif Nat.blt t N then run TT N ks all r ((t, x) :: fr') gf' mu' es' gs' else none
              | none => none
            | none, none => run TT N ks all r fr' gf0 mu' es' gs'
            | _, _ => none
          | _, _, _ => none
        | none => some (o :: r, fr, gf, mu, es, gs)
    | some (j, w) => match gSlot all j with
      | some d => match pst TT fr gf mu (acts 6 gf d w) o.op, o.dst with
        | some (x, q), some t => match mlk t fr with
          | none => match splitO fr gf (acts 6 gf d w) q es gs, gdrop t gf with
            | some (es', gs'), some gf' => bif (Nat.blt t N && !(Nat.beq t d)) then run TT N ks all r fr ((t, d, w, x) :: gf') mu es' gs' else none
            | _, _ => none
          | some _ => none
        | _, _ => some (o :: r, fr, gf, mu, es, gs)
      | none => none
structure An where
  ks : List Nat
  B : BE
structure Env where
  P : Program
  A : An
  N : Nat
  r : PH
  D : Nat → Nat → Prop
  w0 : World
structure Mem (E : Env) (B : BE) (mu : Mu) (w : World) (H : Nat → PH) : Prop where
  mm : Mm B E.r mu w H
  keep : Keep E.D E.w0 w
  dom : ∀ k b o, H k b o ≠ none → E.D b o ∨ E.w0.heap.size ≤ b
  anch : ∀ k, hasK k E.A.ks = true → B k = E.A.B k
theorem Mem.mr {E : Env} {B : BE} {mu : Mu} {w : World} {H : Nat → PH} (m : Mem E B mu w H) : Mr B E.r mu w H := m.mm.mr
abbrev FitsE (E : Env) (B : BE) (H : Nat → PH) (fr : Fr) (gf : GF) (a : Act) : Prop := Fits E.P B (Zf E.r H) E.N fr gf a
theorem gdrop_mem {t : Nat} : ∀ {gf l : GF}, gdrop t gf = some l → ∀ {e : Nat × Nat × Bool × SV}, e ∈ l → e ∈ gf ∧ e.1 ≠ t ∧ e.2.1 ≠ t
  | [], l, h, e, hm => by simp [gdrop] at h; subst h; cases hm
  | (j, d, w, x) :: r, l, h, e, hm => by
    simp only [gdrop] at h
    cases e1 : gdrop t r with
    | none => rw [e1] at h; cases h
    | some l' =>
      rw [e1] at h
      simp only at h
      cases c : (Nat.beq j t || Nat.beq d t) with
      | true =>
        rw [c] at h
        simp at h
        subst h
        obtain ⟨h1, h2⟩ := gdrop_mem e1 hm
        exact ⟨List.mem_cons_of_mem _ h1, h2⟩
      | false =>
        rw [c] at h
        simp at h
        subst h
        simp only [Bool.or_eq_false_iff] at c
        cases hm with
        | head => exact ⟨List.mem_cons_self, Nat.ne_of_beq_eq_false c.1, Nat.ne_of_beq_eq_false c.2⟩
        | tail _ hm =>
          obtain ⟨h1, h2⟩ := gdrop_mem e1 hm
          exact ⟨List.mem_cons_of_mem _ h1, h2⟩
theorem mlk_cons {α : Type} (k j : Nat) (x : α) (l : List (Nat × α)) : mlk k ((j, x) :: l) = if j = k then some x else mlk k l := by
  simp only [mlk]
  by_cases h : j = k
  · subst h; simp [Nat.beq_refl]
  · rw [if_neg h, show Nat.beq j k = false from by
      cases e : Nat.beq j k with
      | false => rfl
      | true => exact absurd (Nat.eq_of_beq_eq_true e) h]
    rfl
theorem put_get {a : Act} {t t' : Nat} {v : Value} (h : t < a.tmps.size) : (a.put (some t) v).tmps.getD t' undef = if t = t' then v else a.tmps.getD t' undef := by
  simp only [Act.put]
  by_cases e : t = t'
  · subst e; simp [h]
  · rw [if_neg e]; simp [Array.getElem?_setIfInBounds_ne e]
section
variable {P : Program} {w w0 : World} {B : BE} {Z : Tg → PH} {mu : Mu} {TT : List TI} {N : Nat} {fr : Fr} {gf : GF} {a : Act}
theorem Fits.put (f : Fits P B Z N fr gf a) {t : Nat} (ht : t < N) {x : SV} {v : Value} (hv : SV.rel P B Z x v) {gf' : GF} (hg : gdrop t gf = some gf') : Fits P B Z N ((t, x) :: fr) gf' (a.put (some t) v) := by
  have hs : t < a.tmps.size := by rw [f.size]; exact ht
  refine ⟨by simp [Act.put, f.size], f.defers, fun t' y h1 h2 => ?_, fun t' d w y h1 h2 => ?_, fun t' d w y h1 h2 => ?_, fun t' d w y h1 => ?_⟩
  · rw [put_get hs]
    rw [mlk_cons] at h1
    by_cases e : t = t'
    · rw [if_pos e] at h1 ⊢; injection h1 with h1; rw [← h1]; exact hv
    · rw [if_neg e] at h1 ⊢
      refine f.vfr t' y h1 ?_
      cases c : glk t' gf with
      | none => rfl
      | some q => rw [f.vno t' q.1 q.2.1 q.2.2 (glk_mem c)] at h1; cases h1
  · obtain ⟨g1, g2, g3⟩ := gdrop_mem hg h1
    simp only at g2 g3
    rw [put_get hs, if_neg (Ne.symm g3)] at h2
    rw [put_get hs, if_neg (Ne.symm g2)]
    exact f.vgf t' d w y g1 h2
  · obtain ⟨g1, g2, g3⟩ := gdrop_mem hg h1
    simp only at g2 g3
    rw [put_get hs, if_neg (Ne.symm g3)] at h2
    rw [put_get hs, if_neg (Ne.symm g2)]
    exact f.vgu t' d w y g1 h2
  · obtain ⟨g1, g2, g3⟩ := gdrop_mem hg h1
    simp only at g2
    rw [mlk_cons, if_neg (Ne.symm g2)]
    exact f.vno t' d w y g1
theorem Fits.putG (f : Fits P B Z N fr gf a) {t d : Nat} {w : Bool} (ht : t < N) (hd : t ≠ d) (hn : mlk t fr = none) {x : SV} {v : Value} {gf' : GF} (hg : gdrop t gf = some gf') (hv : (a.tmps.getD d undef = .bool w ∧ SV.rel P B Z x v) ∨ (a.tmps.getD d undef ≠ .bool w ∧ v = undef)) :
    Fits P B Z N fr ((t, d, w, x) :: gf') (a.put (some t) v) := by
  have hs : t < a.tmps.size := by rw [f.size]; exact ht
  refine ⟨by simp [Act.put, f.size], f.defers, fun t' y h1 h2 => ?_, fun t' d' w' y h1 h2 => ?_, fun t' d' w' y h1 h2 => ?_, fun t' d' w' y h1 => ?_⟩
  · by_cases e : t = t'
    · subst e; rw [hn] at h1; cases h1
    · rw [put_get hs, if_neg e]
      refine f.vfr t' y h1 ?_
      cases c : glk t' gf with
      | none => rfl
      | some q => rw [f.vno t' q.1 q.2.1 q.2.2 (glk_mem c)] at h1; cases h1
  · cases h1 with
    | head =>
      rw [put_get hs, if_pos rfl]
      rw [put_get hs, if_neg hd] at h2
      rcases hv with ⟨_, h3⟩ | ⟨h3, _⟩
      · exact h3
      · exact absurd h2 h3
    | tail _ h1 =>
      obtain ⟨g1, g2, g3⟩ := gdrop_mem hg h1
      simp only at g2 g3
      rw [put_get hs, if_neg (Ne.symm g3)] at h2
      rw [put_get hs, if_neg (Ne.symm g2)]
      exact f.vgf t' d' w' y g1 h2
  · cases h1 with
    | head =>
      rw [put_get hs, if_pos rfl]
      rw [put_get hs, if_neg hd] at h2
      rcases hv with ⟨h3, _⟩ | ⟨_, rfl⟩
      · exact absurd h3 h2
      · rfl
    | tail _ h1 =>
      obtain ⟨g1, g2, g3⟩ := gdrop_mem hg h1
      simp only at g2 g3
      rw [put_get hs, if_neg (Ne.symm g3)] at h2
      rw [put_get hs, if_neg (Ne.symm g2)]
      exact f.vgu t' d' w' y g1 h2
  · cases h1 with
    | head => exact hn
    | tail _ h1 => exact f.vno t' d' w' y (gdrop_mem hg h1).1
theorem acts_ok (f : Fits P B Z N fr gf a) : ∀ (n : Nat) (d : Nat) (w : Bool), a.tmps.getD d undef = .bool w → ∀ d' w', (d', w') ∈ acts n gf d w → a.tmps.getD d' undef = .bool w'
  | 0, d, w, h, d', w', hm => by
    simp only [acts, List.mem_singleton, Prod.mk.injEq] at hm
    obtain ⟨rfl, rfl⟩ := hm; exact h
  | n + 1, d, w, h, d', w', hm => by
    simp only [acts] at hm
    cases e : glk d gf with
    | none =>
      rw [e] at hm
      simp only [List.mem_singleton, Prod.mk.injEq] at hm
      obtain ⟨rfl, rfl⟩ := hm; exact h
    | some q =>
      obtain ⟨d2, w2, x⟩ := q
      rw [e] at hm
      cases hm with
      | head => exact h
      | tail _ hm =>
        refine acts_ok f n d2 w2 ?_ d' w' hm
        refine Classical.byContradiction fun hne => ?_
        have := f.vgu d d2 w2 x (glk_mem e) hne
        rw [this] at h
        cases h
theorem raw_ok (f : Fits P B Z N fr gf a) {d : Nat} {w b : Bool} (h : a.tmps.getD d undef = .bool w) (e : rawV d fr gf = some (.a (.v (.bool b)))) : b = w := by
  unfold rawV at e
  cases c : glk d gf with
  | none =>
    rw [c] at e
    have := f.vfr d _ e c
    rw [h] at this
    have this : Value.bool w = Value.bool b := this
    injection this with this
    exact this.symm
  | some q =>
    obtain ⟨d2, w2, x⟩ := q
    rw [c] at e
    simp at e
    subst e
    have h2 : a.tmps.getD d2 undef = .bool w2 := by
      refine Classical.byContradiction fun hne => ?_
      have := f.vgu d d2 w2 _ (glk_mem c) hne
      rw [this] at h
      cases h
    have := f.vgf d d2 w2 _ (glk_mem c) h2
    rw [h] at this
    have this : Value.bool w = Value.bool b := this
    injection this with this
    exact this.symm
theorem nestG_ok (f : Fits P B Z N fr gf a) : ∀ {g : Gd} {p : Prop}, (∀ d w, (d, w) ∈ g → a.tmps.getD d undef = .bool w) → (nestG fr gf g p).p → p
  | [], p, _, h => h
  | (d, w) :: r, p, hg, h => by
    have hr := nestG_ok f (g := r) (p := p) (fun d w hm => hg d w (List.mem_cons_of_mem _ hm))
    simp only [nestG] at h
    split at h
    · rename_i b e
      have hb := raw_ok f (hg d w List.mem_cons_self) e
      split at h
      · rename_i q e2; rw [e2] at hr; exact hr (h hb)
      · rename_i b' w' q e2; rw [e2] at hr; exact hr (h hb)
    · exact hr h
theorem splitO_ok (f : Fits P B Z N fr gf a) {g : Gd} (hg : ∀ d w, (d, w) ∈ g → a.tmps.getD d undef = .bool w) : ∀ {q : Ob} {es es' : List Prop} {gs gs' : List GO}, splitO fr gf g q es gs = some (es', gs') → PAlls es' → GAlls gs' → Alls q
  | [], _, _, _, _, _, _, _ => trivial
  | .e p :: r, es, es', gs, gs', h, h1, h2 => by
    simp only [splitO] at h
    have key : ∀ {q : Ob} {es es' : List Prop} {gs gs' : List GO}, splitO fr gf g q es gs = some (es', gs') → PAlls es' → PAlls es := fun {q} => by
      induction q with
      | nil => intro es es' gs gs' h h1; simp [splitO] at h; rw [h.1]; exact h1
      | cons x r ih =>
        intro es es' gs gs' h h1
        cases x with
        | e p => exact (ih h h1).2
        | o p => simp only [splitO] at h; split at h <;> exact ih h h1
    exact ⟨(key h h1).1, splitO_ok f hg h h1 h2⟩
  | .o p :: r, es, es', gs, gs', h, h1, h2 => by
    simp only [splitO] at h
    have key : ∀ {q : Ob} {es es' : List Prop} {gs gs' : List GO}, splitO fr gf g q es gs = some (es', gs') → GAlls gs' → GAlls gs := fun {q} => by
      induction q with
      | nil => intro es es' gs gs' h h1; simp [splitO] at h; rw [h.2]; exact h1
      | cons x r ih =>
        intro es es' gs gs' h h1
        cases x with
        | e p => exact ih h h1
        | o p => simp only [splitO] at h; split at h <;> exact (ih h h1).2
    split at h
    · rename_i q e
      have := (key h h2).1
      exact ⟨nestG_ok f hg (show (nestG fr gf g p).p by rw [e]; exact this), splitO_ok f hg h h1 h2⟩
    · rename_i b w q e
      have := (key h h2).1
      exact ⟨nestG_ok f hg (show (nestG fr gf g p).p by rw [e]; exact this), splitO_ok f hg h h1 h2⟩
theorem splitO_mono {g : Gd} : ∀ {q : Ob} {es es' : List Prop} {gs gs' : List GO}, splitO fr gf g q es gs = some (es', gs') → PAlls es' ∧ GAlls gs' → PAlls es ∧ GAlls gs
  | [], es, es', gs, gs', h, hh => by simp [splitO] at h; rw [h.1, h.2]; exact hh
  | .e p :: r, es, es', gs, gs', h, hh => by
    simp only [splitO] at h
    exact ⟨(splitO_mono h hh).1.2, (splitO_mono h hh).2⟩
  | .o p :: r, es, es', gs, gs', h, hh => by
    simp only [splitO] at h
    split at h <;> exact ⟨(splitO_mono h hh).1, (splitO_mono h hh).2.2⟩
end
def PH.updL (h : PH) (b o : Nat) (l : List Value) : PH := fun x y => if x = b ∧ o ≤ y ∧ y < o + l.length then l[y - o]? else h x y
theorem PH.updL_in (h : PH) (b o : Nat) (l : List Value) {j : Nat} (hj : j < l.length) : h.updL b o l b (o + j) = l[j]? := by
  unfold PH.updL; rw [if_pos ⟨rfl, by omega, by omega⟩]; congr 1; omega
theorem PH.updL_out (h : PH) {b o x y : Nat} {l : List Value} (n : ¬ (x = b ∧ o ≤ y ∧ y < o + l.length)) : h.updL b o l x y = h x y := by
  unfold PH.updL; rw [if_neg n]
theorem PH.updL_ne {h : PH} {b o : Nat} {l : List Value} (hl : ∀ j, j < l.length → h b (o + j) ≠ none) {x y : Nat} (e : h.updL b o l x y ≠ none) : h x y ≠ none := by
  by_cases c : x = b ∧ o ≤ y ∧ y < o + l.length
  · obtain ⟨rfl, c1, c2⟩ := c
    have := hl (y - o) (by omega)
    rwa [show o + (y - o) = y from by omega] at this
  · rwa [PH.updL_out h c] at e
theorem oneV_cell {v : Value} (h : oneV v = true) : v.oneCell' = true := by cases v <;> first | rfl | cases h
theorem run_storeCells {P : Program} : ∀ (l : List Value) (w : World) (b o i : Nat) (h : PH), Fit h w → (∀ j, j < l.length → h b (o + i + j) ≠ none) → (∀ v ∈ l, oneV v = true) →
    ∃ w', (storeCells ⟨b, o, none⟩ l i).run P w = .ok () w' ∧ Fit (h.updL b (o + i) l) w' ∧ Keep (fun x y => x = b ∧ o + i ≤ y ∧ y < o + i + l.length) w w' ∧ w'.heap.size = w.heap.size
  | [], w, b, o, i, h, f, _, _ => by
    refine ⟨w, by simp [storeCells], ?_, Keep.refl _ _, rfl⟩
    intro x y v e
    rw [PH.updL_out] at e
    · exact f x y v e
    · simp only [List.length_nil]; omega
  | u :: l, w, b, o, i, h, f, hl, h1 => by
    have h0 := hl 0 (by simp)
    rw [Nat.add_zero] at h0
    cases e : h b (o + i) with
    | none => exact absurd e h0
    | some v0 =>
      obtain ⟨c1, c2⟩ := f _ _ _ e
      have hu : u.oneCell' = true := oneV_cell (h1 u List.mem_cons_self)
      have f1 : Fit (h.upd b (o + i) u) (w.setCell ⟨b, o + i, none⟩ u) := f.upd e u
      obtain ⟨w', r1, r2, r3, r4⟩ := run_storeCells (P := P) l (w.setCell ⟨b, o + i, none⟩ u) b o (i + 1) _ f1 (fun j hj => by
        by_cases c : o + (i + 1) + j = o + i
        · omega
        · rw [PH.upd_other _ _ (by omega)]
          have := hl (j + 1) (by simp; omega)
          rwa [show o + i + (j + 1) = o + (i + 1) + j from by omega] at this) (fun v hv => h1 v (List.mem_cons_of_mem _ hv))
      refine ⟨w', ?_, ?_, ?_, ?_⟩
      · simp only [storeCells, Sem.run_bind]
        rw [run_store P w _ u .plain hu, add_mk, c1]
        simp only [c2, Bool.false_eq_true, if_false, Result.andThen_ok, r1]
      · intro x y v hv
        refine r2 x y v ?_
        by_cases c : x = b ∧ o + i ≤ y ∧ y < o + i + (u :: l).length
        · obtain ⟨rfl, c3, c4⟩ := c
          simp only [List.length_cons] at c4
          rw [show y = o + i + (y - (o + i)) from by omega, PH.updL_in _ _ _ _ (by simp; omega)] at hv
          by_cases c5 : y = o + i
          · subst c5
            rw [PH.updL_out _ (by omega)]
            simp at hv
            rw [PH.upd_same, hv]
          · rw [show y = o + (i + 1) + (y - (o + (i + 1))) from by omega, PH.updL_in _ _ _ _ (by omega)]
            rw [show y - (o + i) = (y - (o + (i + 1))) + 1 from by omega, List.getElem?_cons_succ] at hv
            exact hv
        · rw [PH.updL_out _ c] at hv
          simp only [List.length_cons] at c
          rw [PH.updL_out _ (by omega), PH.upd_other _ _ (by omega)]
          exact hv
      · have k1 : Keep (fun x y => x = b ∧ o + i ≤ y ∧ y < o + i + (u :: l).length) w (w.setCell ⟨b, o + i, none⟩ u) := (setCell_keep w b (o + i) u).mono fun x _ y hxy => by
          obtain ⟨rfl, rfl⟩ := hxy; simp
        refine k1.trans r3 fun x y hxy => ?_
        obtain ⟨rfl, c1, c2⟩ := hxy
        exact .inl ⟨rfl, by omega, by simp only [List.length_cons]; omega⟩
      · rw [r4]; simp [World.setCell]
theorem run_storeVar {P : Program} {ti : TI} (hti : ti.ok P) {v : Value} {l : List Value} (hv : v.cells.toList = l) (hl : l.length = ti.sz) {w : World} {b o : Nat} {h : PH} (f : Fit h w) (hin : ∀ j, j < l.length → h b (o + j) ≠ none) (h1 : ∀ v ∈ l, oneV v = true) :
    ∃ w', (storeVar ti.id ⟨b, o, none⟩ v).run P w = .ok () w' ∧ Fit (h.updL b o l) w' ∧ Keep (fun x y => x = b ∧ o ≤ y ∧ y < o + l.length) w w' ∧ w'.heap.size = w.heap.size := by
  obtain ⟨i, i1, i2, _⟩ := hti.info
  obtain ⟨w', r1, r2, r3, r4⟩ := run_storeCells (P := P) l w b o 0 h f (by simpa using hin) h1
  refine ⟨w', ?_, by simpa using r2, by simpa using r3, r4⟩
  simp only [storeVar, Sem.run_bind, run_size i1, Result.andThen_ok]
  rw [if_neg (by rw [i2, ← hl, ← hv]; simp), hv]
  exact r1
end
section
def BE.set (B : BE) (k : Nat) (v : Value) : BE := fun j => if j = k then v else B j
def HF.set (H : Nat → PH) (k : Nat) (h : PH) : Nat → PH := fun j => if j = k then h else H j
theorem BE.set_self (B : BE) (k : Nat) : BE.set B k (B k) = B := by
  funext j; unfold BE.set; split
  · rename_i e; rw [e]
  · rfl
theorem BE.set_eq (B : BE) (k : Nat) (v : Value) : BE.set B k v k = v := by simp [BE.set]
theorem BE.set_ne (B : BE) {k j : Nat} (v : Value) (h : j ≠ k) : BE.set B k v j = B j := by simp [BE.set, h]
theorem HF.set_eq (H : Nat → PH) (k : Nat) (h : PH) : HF.set H k h k = h := by simp [HF.set]
theorem HF.set_ne (H : Nat → PH) {k j : Nat} (h : PH) (n : j ≠ k) : HF.set H k h j = H j := by simp [HF.set, n]
theorem beq_ne {j k : Nat} (h : Nat.beq j k = false) : j ≠ k := Nat.ne_of_beq_eq_false h
theorem V.rel_setB {B : BE} {Z : Tg → PH} {k : Nat} (v : Value) : ∀ {x : V} {y : Value}, x.usesB k = false → x.rel B Z y → x.rel (BE.set B k v) Z y
  | .v _, _, _, e => e
  | .s _ _ _ _, _, _, e => e
  | .g j, _, h, e => by
    have hj : j ≠ k := beq_ne h
    show _ = BE.set B k v j ∧ _
    rw [BE.set_ne B v hj]; exact e
  | .p j o, _, h, e => by
    have hj : j ≠ k := beq_ne h
    show _ = addP (BE.set B k v j) o ∧ _
    rw [BE.set_ne B v hj]; exact e
  | .pe j sz i o, _, h, e => by
    have hj : j ≠ k := beq_ne h
    show _ = elP (BE.set B k v j) sz i o ∧ _
    rw [BE.set_ne B v hj]; exact e
  | .sb j sz lo hi, _, h, e => by
    have hj : j ≠ k := beq_ne h
    show _ = sbV (BE.set B k v j) sz _ _ ∧ _
    rw [BE.set_ne B v hj]; exact e
  | .gl j n c, _, h, e => by
    have hj : j ≠ k := beq_ne h
    show _ = BE.set B k v j ∧ _
    rw [BE.set_ne B v hj]; exact e
  | .rp _ _ _, _, _, e => e
  | .any, _, _, e => e
theorem V.own_setB {B : BE} {r h : PH} {k : Nat} (v : Value) : ∀ {x : V} {y : Value}, x.usesB k = false → x.own B r h y → x.own (BE.set B k v) r h y
  | .v _, _, _, e => e
  | .s _ _ _ _, _, _, e => e
  | .g j, _, h, e => by
    have hj : j ≠ k := beq_ne h
    show _ = BE.set B k v j ∧ _
    rw [BE.set_ne B v hj]; exact e
  | .p j o, _, h, e => by
    have hj : j ≠ k := beq_ne h
    show _ = addP (BE.set B k v j) o ∧ _
    rw [BE.set_ne B v hj]; exact e
  | .pe j sz i o, _, h, e => by
    have hj : j ≠ k := beq_ne h
    show _ = elP (BE.set B k v j) sz i o ∧ _
    rw [BE.set_ne B v hj]; exact e
  | .sb j sz lo hi, _, h, e => by
    have hj : j ≠ k := beq_ne h
    show _ = sbV (BE.set B k v j) sz _ _ ∧ _
    rw [BE.set_ne B v hj]; exact e
  | .gl j n c, _, h, e => by
    have hj : j ≠ k := beq_ne h
    show _ = BE.set B k v j ∧ _
    rw [BE.set_ne B v hj]; exact e
  | .rp _ _ _, _, _, e => e
  | .any, _, _, e => e
theorem anyL_cons {φ : V → Bool} {x : V} {r : List V} (h : anyL φ (x :: r) = false) : φ x = false ∧ anyL φ r = false := by
  simp only [anyL] at h
  cases e : φ x with
  | true => rw [e] at h; cases h
  | false => rw [e] at h; exact ⟨rfl, h⟩
theorem V.rels_congr {B B' : BE} {Z Z' : Tg → PH} {φ : V → Bool} (hc : ∀ (x : V) (y : Value), φ x = false → x.rel B Z y → x.rel B' Z' y) : ∀ {l : List V} {y : List Value}, anyL φ l = false → V.rels B Z l y → V.rels B' Z' l y
  | [], _, _, e => e
  | x :: r, _, h, e => by
    obtain ⟨a, t, e1, e2, e3⟩ := e
    obtain ⟨h1, h2⟩ := anyL_cons h
    exact ⟨a, t, e1, hc x a h1 e2, V.rels_congr hc h2 e3⟩
theorem V.owns_congr {B B' : BE} {r : PH} {φ : V → Bool} (hc : ∀ (x : V) (h : PH) (y : Value), φ x = false → x.own B r h y → x.own B' r h y) : ∀ {l : List V} {y : List Value} {h : PH}, anyL φ l = false → V.owns B r h l y → V.owns B' r h l y
  | [], _, _, _, e => e
  | x :: l, _, _, h, e => by
    obtain ⟨a, t, g1, g2, e1, e2, e3, e4, e5, e6⟩ := e
    obtain ⟨h1, h2⟩ := anyL_cons h
    exact ⟨a, t, g1, g2, e1, e2, e3, e4, hc x g1 a h1 e5, V.owns_congr hc h2 e6⟩
mutual
theorem SV.rel_congr {P : Program} {B B' : BE} {Z Z' : Tg → PH} {φ : V → Bool} (hr : (Z .r).le (Z' .r)) (hc : ∀ (x : V) (y : Value), φ x = false → x.rel B Z y → x.rel B' Z' y) : ∀ (s : SV) {y : Value}, s.anyV φ = false → SV.rel P B Z s y → SV.rel P B' Z' s y
  | .a x, y, h, e => hc x y h e
  | .ag l, _, h, e => by obtain ⟨vs, e1, e2⟩ := e; exact ⟨vs, e1, V.rels_congr hc h e2⟩
  | .fn f l, _, h, e => by obtain ⟨vs, e1, e2⟩ := e; exact ⟨vs, e1, V.rels_congr hc h e2⟩
  | .fb _, _, _, e => by obtain ⟨f, vs, e1, e2⟩ := e; exact ⟨f, vs, e1, e2.mono hr⟩
  | .tu l, _, h, e => by obtain ⟨vs, e1, e2⟩ := e; exact ⟨vs, e1, SV.rels_congr hr hc l h e2⟩
  | .un, _, _, e => e
theorem SV.rels_congr {P : Program} {B B' : BE} {Z Z' : Tg → PH} {φ : V → Bool} (hr : (Z .r).le (Z' .r)) (hc : ∀ (x : V) (y : Value), φ x = false → x.rel B Z y → x.rel B' Z' y) : ∀ (s : List SV) {y : List Value}, SV.anyV.go φ s = false → SV.rels P B Z s y → SV.rels P B' Z' s y
  | [], _, _, e => e
  | x :: r, _, h, e => by
    obtain ⟨a, t, e1, e2, e3⟩ := e
    simp only [SV.anyV.go] at h
    cases c : x.anyV φ with
    | true => rw [c] at h; cases h
    | false => rw [c] at h; exact ⟨a, t, e1, SV.rel_congr hr hc x c e2, SV.rels_congr hr hc r h e3⟩
end
theorem frAny_get {φ : V → Bool} : ∀ {fr : Fr}, frAny φ fr = false → ∀ t x, mlk t fr = some x → x.anyV φ = false
  | [], _, _, _, h => by cases h
  | (j, y) :: r, h, t, x, e => by
    simp only [frAny] at h
    cases c : y.anyV φ with
    | true => rw [c] at h; cases h
    | false =>
      rw [c] at h
      rw [mlk_cons] at e
      by_cases hj : j = t
      · rw [if_pos hj] at e; injection e with e; rw [← e]; exact c
      · rw [if_neg hj] at e; exact frAny_get h t x e
theorem gfAny_get {φ : V → Bool} : ∀ {gf : GF}, gfAny φ gf = false → ∀ t d w x, (t, d, w, x) ∈ gf → x.anyV φ = false
  | [], _, _, _, _, _, h => by cases h
  | (j, d, w, y) :: r, h, t, d', w', x, e => by
    simp only [gfAny] at h
    cases c : y.anyV φ with
    | true => rw [c] at h; cases h
    | false =>
      rw [c] at h
      cases e with
      | head => exact c
      | tail _ e => exact gfAny_get h t d' w' x e
theorem muAny_get {φ : V → Bool} {k : Nat} : ∀ {mu : Mu}, muAny φ k mu = false → ∀ j c, j ≠ k → mlk j mu = some c → anyL φ c.rowL = false
  | [], _, _, _, _, h => by cases h
  | (i, d) :: r, h, j, c, hj, e => by
    simp only [muAny] at h
    rw [mlk_cons] at e
    cases c1 : Nat.beq i k with
    | true =>
      rw [c1] at h
      have hi := Nat.eq_of_beq_eq_true c1
      rw [if_neg (by omega)] at e
      exact muAny_get h j c hj e
    | false =>
      rw [c1] at h
      simp only [cond_false] at h
      cases c2 : anyL φ d.rowL with
      | true => rw [c2] at h; cases h
      | false =>
        rw [c2] at h
        by_cases hi : i = j
        · rw [if_pos hi] at e; injection e with e; rw [← e]; exact c2
        · rw [if_neg hi] at e; exact muAny_get h j c hj e
theorem frCut_lk {φ : V → Bool} : ∀ {fr l : Fr}, frCut φ fr = some l → ∀ t, (mlk t l = none ∧ mlk t fr = none) ∨ ∃ x y, mlk t l = some x ∧ mlk t fr = some y ∧ (x = .a .any ∨ x = y ∧ x.anyV φ = false)
  | [], l, h, t => by simp [frCut] at h; subst h; exact .inl ⟨rfl, rfl⟩
  | (j, y) :: r, l, h, t => by
    simp only [frCut] at h
    cases c : frCut φ r with
    | none => rw [c] at h; cases h
    | some l' =>
      rw [c] at h
      simp only at h
      have ih := frCut_lk c t
      cases c2 : y.anyV φ with
      | true =>
        rw [c2] at h; simp at h; subst h
        rw [mlk_cons, mlk_cons]
        by_cases hj : j = t
        · rw [if_pos hj, if_pos hj]; exact .inr ⟨_, _, rfl, rfl, .inl rfl⟩
        · rw [if_neg hj, if_neg hj]; exact ih
      | false =>
        rw [c2] at h; simp at h; subst h
        rw [mlk_cons, mlk_cons]
        by_cases hj : j = t
        · rw [if_pos hj, if_pos hj]; exact .inr ⟨_, _, rfl, rfl, .inr ⟨rfl, c2⟩⟩
        · rw [if_neg hj, if_neg hj]; exact ih
theorem gfCut_mem {φ : V → Bool} : ∀ {gf l : GF}, gfCut φ gf = some l → ∀ t d w x, (t, d, w, x) ∈ l → ∃ y, (t, d, w, y) ∈ gf ∧ (x = .a .any ∨ x = y ∧ x.anyV φ = false)
  | [], l, h, _, _, _, _, e => by simp [gfCut] at h; subst h; cases e
  | (j, d', w', y) :: r, l, h, t, d, w, x, e => by
    simp only [gfCut] at h
    cases c : gfCut φ r with
    | none => rw [c] at h; cases h
    | some l' =>
      rw [c] at h
      simp only at h
      have tl : (t, d, w, x) ∈ l' → ∃ z, (t, d, w, z) ∈ (j, d', w', y) :: r ∧ (x = .a .any ∨ x = z ∧ x.anyV φ = false) := fun e => by
        obtain ⟨z, h1, h2⟩ := gfCut_mem c t d w x e
        exact ⟨z, List.mem_cons_of_mem _ h1, h2⟩
      cases c2 : y.anyV φ with
      | true =>
        rw [c2] at h; simp at h; subst h
        cases e with
        | head => exact ⟨y, List.mem_cons_self, .inl rfl⟩
        | tail _ e => exact tl e
      | false =>
        rw [c2] at h; simp at h; subst h
        cases e with
        | head => exact ⟨y, List.mem_cons_self, .inr ⟨rfl, c2⟩⟩
        | tail _ e => exact tl e
theorem gfCut_glk {φ : V → Bool} : ∀ {gf l : GF}, gfCut φ gf = some l → ∀ t, glk t l = none → glk t gf = none
  | [], l, h, t, _ => rfl
  | (j, d', w', y) :: r, l, h, t, e => by
    simp only [gfCut] at h
    cases c : gfCut φ r with
    | none => rw [c] at h; cases h
    | some l' =>
      rw [c] at h
      simp only at h
      have : ∃ z, l = (j, d', w', z) :: l' := by
        cases c2 : y.anyV φ with
        | true => rw [c2] at h; simp at h; exact ⟨_, h.symm⟩
        | false => rw [c2] at h; simp at h; exact ⟨_, h.symm⟩
      obtain ⟨z, rfl⟩ := this
      simp only [glk] at e ⊢
      cases c3 : Nat.beq j t with
      | true => rw [c3] at e; cases e
      | false => rw [c3] at e; exact gfCut_glk c t e
section
variable {E : Env} {B : BE} {mu mu' : Mu} {w w' : World} {H : Nat → PH} {fr fr' : Fr} {gf gf' : GF} {a : Act}
theorem Fits.cut {P : Program} {B B' : BE} {Z Z' : Tg → PH} {N : Nat} {φ : V → Bool} (f : Fits P B Z N fr gf a) (hf : frCut φ fr = some fr') (hg : gfCut φ gf = some gf') (hr : (Z .r).le (Z' .r)) (hc : ∀ (x : V) (y : Value), φ x = false → x.rel B Z y → x.rel B' Z' y) : Fits P B' Z' N fr' gf' a := by
  refine ⟨f.size, f.defers, fun t x e1 e2 => ?_, fun t d w x e1 e2 => ?_, fun t d w x e1 e2 => ?_, fun t d w x e1 => ?_⟩
  · rcases frCut_lk hf t with ⟨h1, _⟩ | ⟨x', y, h1, h2, h3⟩
    · rw [h1] at e1; cases e1
    · rw [h1] at e1; injection e1 with e1; subst e1
      rcases h3 with rfl | ⟨rfl, h3⟩
      · trivial
      · exact SV.rel_congr hr hc x' h3 (f.vfr t x' h2 (gfCut_glk hg t e2))
  · obtain ⟨y, h1, h2⟩ := gfCut_mem hg t d w x e1
    rcases h2 with rfl | ⟨rfl, h2⟩
    · trivial
    · exact SV.rel_congr hr hc x h2 (f.vgf t d w x h1 e2)
  · obtain ⟨y, h1, h2⟩ := gfCut_mem hg t d w x e1
    exact f.vgu t d w y h1 e2
  · obtain ⟨y, h1, h2⟩ := gfCut_mem hg t d w x e1
    rcases frCut_lk hf t with ⟨h3, _⟩ | ⟨x', z, h3, h4, _⟩
    · exact h3
    · rw [f.vno t d w y h1] at h4; cases h4
theorem Fits.keep {P : Program} {B B' : BE} {Z Z' : Tg → PH} {N : Nat} {φ : V → Bool} (f : Fits P B Z N fr gf a) (hf : frAny φ fr = false) (hg : gfAny φ gf = false) (hr : (Z .r).le (Z' .r)) (hc : ∀ (x : V) (y : Value), φ x = false → x.rel B Z y → x.rel B' Z' y) : Fits P B' Z' N fr gf a :=
  ⟨f.size, f.defers, fun t x e1 e2 => SV.rel_congr hr hc x (frAny_get hf t x e1) (f.vfr t x e1 e2), fun t d w x e1 e2 => SV.rel_congr hr hc x (gfAny_get hg t d w x e1) (f.vgf t d w x e1 e2), f.vgu, f.vno⟩
theorem V.rel_setH {B : BE} {r : PH} {H : Nat → PH} {k : Nat} (h : PH) {x : V} {y : Value} (n : x.usesT k = false) (e : x.rel B (Zf r H) y) : x.rel B (Zf r (HF.set H k h)) y := by
  have key : ∀ q : Tg, (match q with | .k j => Nat.beq j k | _ => false) = false → Zf r (HF.set H k h) q = Zf r H q := fun q hq => by
    cases q with
    | k j => show HF.set H k h j = H j; exact HF.set_ne H h (beq_ne hq)
    | _ => rfl
  cases x with
  | s q sz n' f =>
    show D.rd (Zf r (HF.set H k h) q) _ _
    rw [key q (by cases q <;> first | exact n | rfl)]; exact e
  | rp q l o =>
    show ∃ b x vs, _ = _ ∧ D.rds (Zf r (HF.set H k h) q) l vs ∧ _
    rw [key q (by cases q <;> first | exact n | rfl)]; exact e
  | _ => exact e
theorem mset_spec {k : Nat} {c : Ch} : ∀ {mu mu' : Mu}, mset k c mu = some mu' → ∀ j, mlk j mu' = if j = k then some c else mlk j mu
  | [], mu', h, j => by
    simp [mset] at h; subst h
    rw [mlk_cons]
    by_cases hj : k = j
    · rw [if_pos hj, if_pos hj.symm]
    · rw [if_neg hj, if_neg (Ne.symm hj)]
  | (i, d) :: r, mu', h, j => by
    simp only [mset] at h
    cases c1 : Nat.beq i k with
    | true =>
      rw [c1] at h; simp at h; subst h
      have := Nat.eq_of_beq_eq_true c1
      subst this
      rw [mlk_cons, mlk_cons]
      by_cases hj : i = j
      · rw [if_pos hj, if_pos hj.symm]
      · rw [if_neg hj, if_neg (Ne.symm hj), if_neg hj]
    | false =>
      rw [c1] at h
      simp only [cond_false] at h
      cases e : mset k c r with
      | none => rw [e] at h; cases h
      | some l =>
        rw [e] at h; injection h with h; subst h
        rw [mlk_cons, mlk_cons, mset_spec e j]
        have := beq_ne c1
        by_cases hj : i = j
        · rw [if_pos hj, if_pos hj, if_neg (by omega)]
        · rw [if_neg hj, if_neg hj]
theorem Ch.sat_setB {c : Ch} {r h : PH} {k j : Nat} (v : Value) (hj : j ≠ k) (hc : anyL (V.usesB k) c.rowL = false) (s : c.sat B r h j) : c.sat (BE.set B k v) r h j := by
  cases c with
  | row l =>
    obtain ⟨b, o, vs, h', e1, e2, e3⟩ := s
    exact ⟨b, o, vs, h', by rw [BE.set_ne B v hj]; exact e1, V.owns_congr (φ := V.usesB k) (fun x h y => V.own_setB v) hc e2, e3⟩
  | rrow l =>
    obtain ⟨b, o, vs, e1, e2, e3⟩ := s
    exact ⟨b, o, vs, by rw [BE.set_ne B v hj]; exact e1, V.rels_congr (φ := V.usesB k) (fun x y => V.rel_setB v) hc e2, e3⟩
  | arr sz n f => show D.own _ _ (BE.set B k v j); rw [BE.set_ne B v hj]; exact s
  | ro sz n f => show D.rd _ _ (BE.set B k v j); rw [BE.set_ne B v hj]; exact s
  | rd sz n f => show D.rd _ _ (BE.set B k v j); rw [BE.set_ne B v hj]; exact s
  | rw P => exact s
  | hole sz n f i k2 =>
    obtain ⟨A, c, e1, e2, e3, e4, e5, e6⟩ := s
    have h2 : k2 ≠ k := beq_ne (anyL_cons (φ := V.usesB k) hc).1
    exact ⟨A, c, by rw [BE.set_ne B v hj]; exact e1, e2, e3, e4, by rw [BE.set_ne B v hj, BE.set_ne B v h2]; exact e5, e6⟩
theorem Mm.below (m : Mm B E.r mu w H) (k : Below w.heap.size w w') : Mm B E.r mu w' H := ⟨m.sat, fun i => (m.fit i).ext k, m.dj, m.djr, m.fitr.ext k⟩
theorem Mem.below (m : Mem E B mu w H) (k : Below w.heap.size w w') : Mem E B mu w' H :=
  ⟨m.mm.below k, m.keep.trans (Keep.of_below k noD) fun _ _ h => h.elim, m.dom, m.anch⟩
theorem Mem.put (m : Mem E B mu w H) {k : Nat} {c : Ch} (hmu : mset k c mu = some mu') {v : Value} (hU : v = B k ∨ (muAny (V.usesB k) k mu = false ∧ hasK k E.A.ks = false)) {h' : PH} (s : c.sat (BE.set B k v) E.r h' k) (f : FitO h' w') (kp : Keep (fun b o => H k b o ≠ none) w w') (hn : ∀ b o, h' b o ≠ none → H k b o ≠ none ∨ w.heap.size ≤ b) :
    Mem E (BE.set B k v) mu' w' (HF.set H k h') := by
  have out : ∀ g : PH, Fit g w → (H k).dj g → Fit g w' := fun g fg d => fg.keep kp fun x y e h2 => by
    rcases d x y with e2 | e2
    · exact h2 e2
    · exact e e2
  have outO : ∀ g : PH, FitO g w → (H k).dj g → FitO g w' := fun g fg d => fg.keep kp fun x y e h2 => by
    rcases d x y with e2 | e2
    · exact h2 e2
    · exact e e2
  have dj2 : ∀ g : PH, Fit g w → (H k).dj g → h'.dj g := fun g fg d x y => by
    cases e : g x y with
    | none => exact .inr rfl
    | some u =>
      left
      cases e2 : h' x y with
      | none => rfl
      | some u2 =>
        rcases hn x y (by rw [e2]; simp) with h3 | h3
        · rcases d x y with h4 | h4
          · exact absurd h4 h3
          · rw [e] at h4; cases h4
        · have := fg.lt (b := x) (o := y) (by rw [e]; simp)
          omega
  refine ⟨⟨fun j d e => ?_, fun j => ?_, fun i j hij => ?_, fun j => ?_, out _ m.mm.fitr (m.mm.djr k)⟩, ?_, fun j x y e => ?_, fun j hj => ?_⟩
  · rw [mset_spec hmu j] at e
    by_cases hj : j = k
    · subst hj; rw [if_pos rfl] at e; injection e with e; subst e; rw [HF.set_eq]; exact s
    · rw [if_neg hj] at e
      rw [HF.set_ne H h' hj]
      rcases hU with rfl | ⟨h1, _⟩
      · rw [BE.set_self]; exact m.mm.sat j d e
      · exact Ch.sat_setB v hj (muAny_get h1 j d hj e) (m.mm.sat j d e)
  · by_cases hj : j = k
    · subst hj; rw [HF.set_eq]; exact f
    · rw [HF.set_ne H h' hj]; exact outO _ (m.mm.fit j) (m.mm.dj k j (Ne.symm hj))
  · by_cases hi : i = k <;> by_cases hj : j = k
    · exact absurd (hi.trans hj.symm) hij
    · subst hi; rw [HF.set_eq, HF.set_ne H h' hj]; exact dj2 _ (m.mm.fit j) (m.mm.dj _ j (Ne.symm hj))
    · subst hj; rw [HF.set_eq, HF.set_ne H h' hi]; exact PH.dj_symm (dj2 _ (m.mm.fit i) (m.mm.dj _ i (Ne.symm hi)))
    · rw [HF.set_ne H h' hi, HF.set_ne H h' hj]; exact m.mm.dj i j hij
  · by_cases hj : j = k
    · subst hj; rw [HF.set_eq]; exact dj2 _ m.mm.fitr (m.mm.djr _)
    · rw [HF.set_ne H h' hj]; exact m.mm.djr j
  · exact m.keep.trans kp fun x y e => m.dom k x y e
  · by_cases hj : j = k
    · subst hj; rw [HF.set_eq] at e
      rcases hn x y e with h3 | h3
      · exact m.dom _ x y h3
      · exact .inr (Nat.le_trans m.keep.size h3)
    · rw [HF.set_ne H h' hj] at e; exact m.dom j x y e
  · rcases hU with rfl | ⟨_, h2⟩
    · rw [BE.set_self]; exact m.anch j hj
    · have : j ≠ k := fun e => by rw [e, h2] at hj; cases hj
      rw [BE.set_ne B v this]; exact m.anch j hj
theorem FitsE.anew (f : FitsE E B H fr gf a) {k : Nat} (h' : PH) (hf : frCut (V.usesT k) fr = some fr') (hg : gfCut (V.usesT k) gf = some gf') : FitsE E (BE.set B k (B k)) (HF.set H k h') fr' gf' a :=
  Fits.cut f hf hg (PH.le_refl _) fun x y hx e => by rw [BE.set_self]; exact V.rel_setH h' hx e
theorem uses_out {k : Nat} {x : V} (h : x.uses k = false) : x.usesB k = false ∧ x.usesT k = false := by
  unfold V.uses at h
  cases e : x.usesB k with
  | true => rw [e] at h; cases h
  | false => rw [e] at h; exact ⟨rfl, h⟩
theorem FitsE.new (f : FitsE E B H fr gf a) {k : Nat} (v : Value) (h' : PH) (hf : frAny (V.uses k) fr = false) (hg : gfAny (V.uses k) gf = false) : FitsE E (BE.set B k v) (HF.set H k h') fr gf a :=
  Fits.keep f hf hg (PH.le_refl _) fun x y hx e => V.rel_setB v (uses_out hx).1 (V.rel_setH h' (uses_out hx).2 e)
theorem anyL_mono {φ ψ : V → Bool} (h : ∀ x, φ x = false → ψ x = false) : ∀ {l : List V}, anyL φ l = false → anyL ψ l = false
  | [], _ => rfl
  | x :: r, e => by
    obtain ⟨h1, h2⟩ := anyL_cons e
    simp only [anyL, h x h1, cond_false]; exact anyL_mono h h2
theorem muAny_mono {φ ψ : V → Bool} (h : ∀ x, φ x = false → ψ x = false) {k : Nat} : ∀ {mu : Mu}, muAny φ k mu = false → muAny ψ k mu = false
  | [], _ => rfl
  | (j, c) :: r, e => by
    simp only [muAny] at e ⊢
    cases c1 : Nat.beq j k with
    | true => rw [c1] at e; exact muAny_mono h e
    | false =>
      rw [c1] at e
      simp only [cond_false] at e ⊢
      cases c2 : anyL φ c.rowL with
      | true => rw [c2] at e; cases e
      | false => rw [c2] at e; rw [anyL_mono h c2]; exact muAny_mono h e
theorem unnamed_spec {k : Nat} {ks : List Nat} (h : unnamed k fr gf mu ks = true) : frAny (V.uses k) fr = false ∧ gfAny (V.uses k) gf = false ∧ muAny (V.uses k) k mu = false ∧ hasK k ks = false := by
  unfold unnamed at h
  cases c1 : frAny (V.uses k) fr with
  | true => rw [c1] at h; cases h
  | false =>
    rw [c1] at h
    cases c2 : gfAny (V.uses k) gf with
    | true => rw [c2] at h; cases h
    | false =>
      rw [c2] at h
      cases c3 : muAny (V.uses k) k mu with
      | true => rw [c3] at h; cases h
      | false => rw [c3] at h; exact ⟨rfl, rfl, rfl, by simpa using h⟩
end
end
section
theorem run_value2 {P : Program} {w w' : World} {s : Sem Value} {x : Value} (h : s.run P w = .ok x w') : (do pure (.value (← s)) : Sem Next).run P w = .ok (.value x) w' := by
  simp only [Sem.run_bind, h, Result.andThen_ok, Sem.run_pure]
theorem okC_one {B : BE} {Z : Tg → PH} {x : V} {y : Value} (h : x.okC = true) (e : x.rel B Z y) : oneV y = true := by
  cases x with
  | v x => have e : y = x := e; rw [e]; exact h
  | s q sz n f => obtain ⟨A, c, rfl, _⟩ := (show D.rd _ _ _ from e); rfl
  | g k => exact e.2
  | p k o => exact e.2
  | pe k sz i o => exact e.2
  | sb k sz lo hi => exact e.2
  | gl k n c => cases h
  | rp q l o => obtain ⟨b, x, vs, rfl, _⟩ := (show _ from e); rfl
  | any => cases h
theorem okC_own {B : BE} {r : PH} {H : Nat → PH} {h : PH} {x : V} {y : Value} (c : x.okC = true) (e : x.rel B (Zf r H) y) : x.own B r h y := by
  cases x with
  | s q sz n f =>
    cases q with
    | r => exact .inr ⟨rfl, e⟩
    | _ => cases c
  | rp q l o =>
    cases q with
    | r => exact ⟨rfl, e⟩
    | _ => cases c
  | any => cases c
  | _ => exact e
theorem allC_cons {x : V} {r : List V} (h : allC (x :: r) = true) : x.okC = true ∧ allC r = true := by
  simp only [allC] at h
  cases e : x.okC with
  | false => rw [e] at h; cases h
  | true => rw [e] at h; exact ⟨rfl, h⟩
theorem allC_owns {B : BE} {r : PH} {H : Nat → PH} : ∀ {l : List V} {vs : List Value} {h : PH}, allC l = true → V.rels B (Zf r H) l vs → V.owns B r h l vs
  | [], _, _, _, e => e
  | x :: l, _, h, c, e => by
    obtain ⟨a, t, e1, e2, e3⟩ := e
    obtain ⟨c1, c2⟩ := allC_cons c
    exact ⟨a, t, PH.emp, h, e1, PH.emp_le _, PH.le_refl _, PH.emp_dj _, okC_own c1 e2, allC_owns c2 e3⟩
theorem allC_one {B : BE} {Z : Tg → PH} : ∀ {l : List V} {vs : List Value}, allC l = true → V.rels B Z l vs → ∀ v ∈ vs, oneV v = true
  | [], vs, _, e, v, hv => by have e : vs = [] := e; rw [e] at hv; cases hv
  | x :: l, _, c, e, v, hv => by
    obtain ⟨a, t, rfl, e2, e3⟩ := e
    obtain ⟨c1, c2⟩ := allC_cons c
    cases hv with
    | head => exact okC_one c1 e2
    | tail _ hv => exact allC_one c2 e3 v hv
theorem owns_paste {B : BE} {r : PH} {H : Nat → PH} : ∀ {l : List V} {vs : List Value} {h : PH} {o : Nat} {cs : List V} {us : List Value} {l' : List V}, V.owns B r h l vs → allC cs = true → V.rels B (Zf r H) cs us → paste l o cs = some l' → ∃ vs', paste vs o us = some vs' ∧ V.owns B r h l' vs'
  | l, vs, h, 0, [], us, l', e, _, k, p => by
    have k : us = [] := k
    subst k
    have : l' = l := by cases l <;> simpa [paste] using p.symm
    subst this
    exact ⟨vs, by cases vs <;> rfl, e⟩
  | [], _, _, 0, y :: ys, _, _, _, _, _, p => by simp [paste] at p
  | [], _, _, o + 1, ys, _, _, _, _, _, p => by simp [paste] at p
  | x :: l, _, h, 0, y :: ys, _, l', e, c, k, p => by
    obtain ⟨a, t, h1, h2, rfl, e2, e3, e4, e5, e6⟩ := e
    obtain ⟨u, us, rfl, k2, k3⟩ := k
    obtain ⟨c1, c2⟩ := allC_cons c
    simp only [paste] at p ⊢
    cases q : paste l 0 ys with
    | none => rw [q] at p; cases p
    | some m =>
      rw [q] at p; injection p with p; subst p
      obtain ⟨ms, g1, g2⟩ := owns_paste e6 c2 k3 q
      rw [g1]
      exact ⟨_, rfl, u, ms, PH.emp, h2, rfl, PH.emp_le _, e3, PH.emp_dj _, okC_own c1 k2, g2⟩
  | x :: l, _, h, o + 1, ys, _, l', e, c, k, p => by
    obtain ⟨a, t, h1, h2, rfl, e2, e3, e4, e5, e6⟩ := e
    simp only [paste] at p ⊢
    cases q : paste l o ys with
    | none => rw [q] at p; cases p
    | some m =>
      rw [q] at p; injection p with p; subst p
      obtain ⟨ms, g1, g2⟩ := owns_paste e6 c k q
      rw [g1]
      exact ⟨_, rfl, a, ms, h1, h2, rfl, e2, e3, e4, e5, g2⟩
theorem flatC_spec {B : BE} {Z : Tg → PH} : ∀ {l : List V} {ds : List D}, flatC l = some ds → ∀ {vs : List Value}, V.rels B Z l vs → ds = vs.map D.v ∧ ∀ v ∈ vs, oneV v = true
  | [], ds, h, vs, e => by
    have e : vs = [] := e
    subst e
    simp [flatC] at h; subst h
    exact ⟨rfl, fun v hv => by cases hv⟩
  | .v x :: r, ds, h, vs, e => by
    obtain ⟨a, t, rfl, e2, e3⟩ := e
    have e2 : a = x := e2
    subst e2
    simp only [flatC] at h
    cases c : flatC r with
    | none => rw [c] at h; cases h
    | some l =>
      rw [c] at h
      simp only at h
      cases c2 : oneV a with
      | false => rw [c2] at h; cases h
      | true =>
        rw [c2] at h; simp at h; subst h
        obtain ⟨g1, g2⟩ := flatC_spec c e3
        exact ⟨by rw [g1]; rfl, fun v hv => by cases hv with | head => exact c2 | tail _ hv => exact g2 v hv⟩
  | .s .. :: _, _, h, _, _ => by simp [flatC] at h
  | .g .. :: _, _, h, _, _ => by simp [flatC] at h
  | .p .. :: _, _, h, _, _ => by simp [flatC] at h
  | .pe .. :: _, _, h, _, _ => by simp [flatC] at h
  | .sb .. :: _, _, h, _, _ => by simp [flatC] at h
  | .gl .. :: _, _, h, _, _ => by simp [flatC] at h
  | .rp .. :: _, _, h, _, _ => by simp [flatC] at h
  | .any :: _, _, h, _, _ => by simp [flatC] at h
theorem downs_paste : ∀ {l : List D} {vs : List Value} {h : PH} {o : Nat} {us : List Value} {l' : List D}, D.owns h l vs → paste l o (us.map D.v) = some l' → ∃ vs', paste vs o us = some vs' ∧ D.owns h l' vs'
  | l, vs, h, 0, [], l', e, p => by
    have : l' = l := by cases l <;> simpa [paste] using p.symm
    subst this
    exact ⟨vs, by cases vs <;> rfl, e⟩
  | [], _, _, 0, y :: ys, _, _, p => by simp [paste] at p
  | [], _, _, o + 1, ys, _, _, p => by simp [paste] at p
  | x :: l, _, h, 0, u :: us, l', e, p => by
    obtain ⟨a, t, h1, h2, rfl, e2, e3, e4, e5, e6⟩ := e
    simp only [paste, List.map_cons] at p ⊢
    cases q : paste l 0 (us.map D.v) with
    | none => rw [q] at p; cases p
    | some m =>
      rw [q] at p; injection p with p; subst p
      obtain ⟨ms, g1, g2⟩ := downs_paste e6 q
      rw [g1]
      exact ⟨_, rfl, u, ms, PH.emp, h2, rfl, PH.emp_le _, e3, PH.emp_dj _, rfl, g2⟩
  | x :: l, _, h, o + 1, us, l', e, p => by
    obtain ⟨a, t, h1, h2, rfl, e2, e3, e4, e5, e6⟩ := e
    simp only [paste] at p ⊢
    cases q : paste l o (us.map D.v) with
    | none => rw [q] at p; cases p
    | some m =>
      rw [q] at p; injection p with p; subst p
      obtain ⟨ms, g1, g2⟩ := downs_paste e6 q
      rw [g1]
      exact ⟨_, rfl, a, ms, h1, h2, rfl, e2, e3, e4, e5, g2⟩
theorem allC_bnot {k : Nat} {l : List V} {fr : Fr} {gf : GF} {mu : Mu} {ks : List Nat} (h : (allC l && unnamed k fr gf mu ks && !(anyL (V.uses k) l)) = true) : allC l = true ∧ unnamed k fr gf mu ks = true ∧ anyL (V.uses k) l = false := by
  simp only [Bool.and_eq_true, Bool.not_eq_true'] at h
  exact ⟨h.1.1, h.1.2, h.2⟩
theorem vcellsL_uses (k : Nat) (z : Value) : anyL (V.uses k) (vcellsL z) = false := by
  have : ∀ l : List Value, anyL (V.uses k) (l.map V.v) = false := fun l => by
    induction l with
    | nil => rfl
    | cons x r ih => simp only [List.map_cons, anyL, ih]; rfl
  cases z <;> first | exact this _ | rfl
section
variable {E : Env} {B : BE} {mu mu' : Mu} {w : World} {H : Nat → PH} {TT : List TI} {fr fr' : Fr} {gf gf' : GF} {a : Act}
theorem newrow_ok (f : FitsE E B H fr gf a) (m : Mem E B mu w H) {k : Nat} (hu : unnamed k fr gf mu E.A.ks = true) {l : List V} (hl : anyL (V.uses k) l = false) (hc : allC l = true) (hmu : mset k (.row l) mu = some mu') (T : TypeId) {cs : Array Value} (hcs : V.rels B (Zf E.r H) l cs.toList) :
    ∃ w' B' H', (newRow T cs).run E.P w = .ok ⟨w.heap.size, 0, none⟩ w' ∧ B' k = .pointer (some ⟨w.heap.size, 0, none⟩) ∧ Mem E B' mu' w' H' ∧ FitsE E B' H' fr gf a ∧ ∀ j, j ≠ k → B' j = B j ∧ H' j = H j := by
  obtain ⟨h1, h2, h3, h4⟩ := unnamed_spec hu
  have e0 : cs = cs.toList.toArray := by simp
  have hf : FitO (PH.row w.heap.size 0 cs.toList) (w.alloc (.cells cs T)) := by
    have := FitO.alloc w cs.toList T
    rwa [← e0] at this
  refine ⟨w.alloc (.cells cs T), BE.set B k (.pointer (some ⟨w.heap.size, 0, none⟩)), HF.set H k (PH.row w.heap.size 0 cs.toList), ?_, BE.set_eq _ _ _, ?_, FitsE.new f _ _ h1 h2, fun j hj => ⟨BE.set_ne _ _ hj, HF.set_ne _ _ hj⟩⟩
  · simp only [newRow, Sem.run_bind, run_newObj, Result.andThen_ok, Sem.run_pure]; rfl
  · refine m.put hmu (.inr ⟨muAny_mono (fun x hx => (uses_out hx).1) h3, h4⟩) ?_ hf ((Keep.alloc w _).mono fun _ _ _ h => h.elim) fun b o hb => .inr (by rw [PH.row_ne hb]; exact Nat.le_refl _)
    refine ⟨w.heap.size, 0, cs.toList, PH.emp, BE.set_eq _ _ _, ?_, PH.emp_le _, fun j hj => ⟨?_, rfl⟩⟩
    · exact V.owns_congr (φ := V.uses k) (fun x h y hx => V.own_setB _ (uses_out hx).1) hl (allC_owns hc hcs)
    · rw [PH.row_at]
theorem mst_ok (hT : TOk E.P TT) (f : FitsE E B H fr gf a) (m : Mem E B mu w H) {o : Oper} {xo : Option SV} {nw : Bool} {k : Nat} {c : Ch} {q : Ob} (h : mst TT E.A.ks fr gf mu o.dst o.op = some (xo, nw, k, c, q)) (hq : Alls q) (hmu : mset k c mu = some mu') (hcut : cutF nw k fr gf = some (fr', gf')) :
    ∃ nx w' B' H', (execOp a.eval o).run E.P w = .ok nx w' ∧ (∀ x, xo = some x → ∃ v, nx = .value v ∧ SV.rel E.P B' (Zf E.r H') x v) ∧ (xo = none → nx = .skip) ∧ Mem E B' mu' w' H' ∧ FitsE E B' H' fr' gf' a ∧ ∀ j, j ≠ k → B' j = B j ∧ H' j = H j := by
  obtain ⟨dst, op, type, pos, after, guard⟩ := o
  simp only at h
  have Ev : ∀ {x : Operand} {y : SV}, ev [] fr gf x = some y → SV.rel E.P B (Zf E.r H) y (a.eval x) := fun h => f.ev (g := []) (fun _ _ hm => by cases hm) h
  unfold mst at h
  split at h
  · rename_i t x k'
    split at h
    · rename_i y e1
      split at h
      · rename_i l e2
        cases c : (allC l && unnamed k' fr gf mu E.A.ks && !(anyL (V.uses k') l)) with
        | false => rw [c] at h; cases h
        | true =>
          rw [c] at h
          simp at h
          obtain ⟨rfl, rfl, rfl, rfl, rfl⟩ := h
          obtain ⟨c1, c2, c3⟩ := allC_bnot c
          simp [cutF] at hcut
          obtain ⟨rfl, rfl⟩ := hcut
          obtain ⟨w', B', H', r1, r2, r3, r4, r5⟩ := newrow_ok f m c2 c3 c1 hmu t (cells_rel e2 (Ev e1))
          refine ⟨.value (.pointer (some ⟨w.heap.size, 0, none⟩)), w', B', H', ?_, fun x hx => ⟨_, rfl, ?_⟩, fun e => (by cases e), r3, r4, r5⟩
          · simp only [execOp]
            refine run_value2 ?_
            simp only [Instr.box, newVar, Sem.run_bind, r1, Result.andThen_ok, Sem.run_pure]
          · injection hx with hx; subst hx
            refine ⟨?_, rfl⟩
            rw [r2]; rfl
      · cases h
    · cases h
  · rename_i t k'
    split at h
    · rename_i ti e1
      simp only [vcells_eq] at h
      cases c : (allC (vcellsL ti.zero) && unnamed k' fr gf mu E.A.ks) with
      | false => rw [c] at h; cases h
      | true =>
        rw [c] at h
        simp at h
        obtain ⟨rfl, rfl, rfl, rfl, rfl⟩ := h
        simp only [Bool.and_eq_true] at c
        simp [cutF] at hcut
        obtain ⟨rfl, rfl⟩ := hcut
        obtain ⟨t1, t2⟩ := hT.get e1
        obtain ⟨i, i1, _, _, i4⟩ := t2.info
        rw [t1] at i1
        obtain ⟨w', B', H', r1, r2, r3, r4, r5⟩ := newrow_ok f m c.2 (vcellsL_uses _ _) c.1 hmu t (vcellsL_rel ti.zero)
        refine ⟨.value (.pointer (some ⟨w.heap.size, 0, none⟩)), w', B', H', ?_, fun x hx => ⟨_, rfl, ?_⟩, fun e => (by cases e), r3, r4, r5⟩
        · simp only [execOp]
          refine run_value2 ?_
          have hz : (zeroValue t).run E.P w = .ok ti.zero w := by simp only [zeroValue, Sem.run_bind, run_info i1, Result.andThen_ok, i4, Sem.run_pure]
          simp only [Instr.alloc, newVar, Sem.run_bind, hz, r1, Result.andThen_ok, Sem.run_pure]
        · injection hx with hx; subst hx
          refine ⟨?_, rfl⟩
          rw [r2]; rfl
    · cases h
  · rename_i t ad x
    split at h
    · rename_i k' o y ti e1 e2 e3
      split at h
      · rename_i l cs e4 e5
        cases c : (lenEq cs ti.sz && allC cs) with
        | false => rw [c] at h; cases h
        | true =>
          rw [c] at h
          simp only [cond_true] at h
          simp only [Bool.and_eq_true] at c
          split at h
          · rename_i l' e6
            simp at h
            obtain ⟨rfl, rfl, rfl, rfl, rfl⟩ := h
            simp only [cutF, cond_false] at hcut
            split at hcut
            · rename_i fr2 gf2 hc1 hc2
              simp at hcut; obtain ⟨rfl, rfl⟩ := hcut
              obtain ⟨t1, t2⟩ := hT.get e3
              obtain ⟨b, off, vs, hp, s1, s2, s3, s4⟩ := m.mm.sat k' _ e4
              have hlen := V.owns_length s2
              have hcs := cells_rel e5 (Ev e2)
              obtain ⟨vs', p1, p2⟩ := owns_paste s2 c.2 hcs e6
              obtain ⟨q1, q2, q3, q4⟩ := paste_spec _ _ _ _ p1
              have hcl := V.rels_length hcs
              have hin : ∀ j, j < (a.eval x).cells.toList.length → H k' b (off + o + j) ≠ none := fun j hj => by
                have := (s4 (o + j) (by omega)).1
                rw [Nat.add_assoc, this, List.getElem?_eq_getElem (by omega)]; simp
              obtain ⟨w', r1, r2, r3, r4⟩ := run_storeVar (P := E.P) t2 rfl (by rw [hcl]; exact lenEq_spec _ _ c.1) (m.mm.fit k').fit hin (allC_one c.2 hcs)
              have hmem := m.put (v := B k') (h' := (H k').updL b (off + o) (a.eval x).cells.toList) (w' := w') hmu (.inl rfl) ?_ ((m.mm.fit k').turn r2 r3 fun b o hb => ⟨o, PH.updL_ne hin hb⟩) (r3.mono ?_) (fun b o hb => .inl (PH.updL_ne hin hb))
              · refine ⟨.skip, w', _, _, ?_, fun x hx => (by cases hx), fun _ => rfl, hmem, FitsE.anew f _ hc1 hc2, fun j hj => ⟨BE.set_ne _ _ hj, HF.set_ne _ _ hj⟩⟩
                have he : a.eval ad = .pointer (some ⟨b, off + o, none⟩) := by
                  rw [(show a.eval ad = addP (B k') o ∧ _ from Ev e1).1, s1]; simp [addP, add_mk]
                simp only [execOp, he]
                simp only [Instr.storeAt, Instr.sureAddr, Sem.run_bind, Sem.run_pure, Result.andThen_ok]
                rw [← t1, r1]
                rfl
              · rw [BE.set_self]
                have hll : l'.length = l.length := by have := V.owns_length p2; omega
                refine ⟨b, off, vs', hp, s1, p2, fun x y v hv => ?_, fun j hj => ⟨?_, (s4 j (by omega)).2⟩⟩
                · rw [PH.updL_out]
                  · exact s3 x y v hv
                  · rintro ⟨rfl, g1, g2⟩
                    have := (s4 (y - off) (by omega)).2
                    rw [show off + (y - off) = y from by omega, hv] at this
                    cases this
                · by_cases hj2 : o ≤ j ∧ j < o + (a.eval x).cells.toList.length
                  · have := q3 (j - o) (by omega)
                    rw [show o + (j - o) = j from by omega] at this
                    rw [this, show off + j = off + o + (j - o) from by omega, PH.updL_in _ _ _ _ (by omega)]
                  · rw [PH.updL_out _ (by omega), (s4 j (by omega)).1]
                    exact (q4 j (by omega)).symm
              · rintro x' _ y' ⟨rfl, g1, g2⟩
                have := hin (y' - (off + o)) (by omega)
                rwa [show off + o + (y' - (off + o)) = y' from by omega] at this
            · cases hcut
          · cases h
      · cases h
    · rename_i k' sz i o y ti e1 e2 e3
      split at h
      · rename_i sz' n g cs e4 e5
        obtain ⟨cv, e5a, e5b⟩ := Option.bind_eq_some_iff.1 e5
        cases c1 : lenEq cs ti.sz with
        | false => rw [c1] at h; cases h
        | true =>
          rw [c1] at h
          simp only [cond_true] at h
          split at h
          · rename_i l' e7
            simp at h
            obtain ⟨rfl, rfl, rfl, rfl, rfl⟩ := h
            simp only [cutF, cond_false] at hcut
            split at hcut
            · rename_i fr2 gf2 hc1 hc2
              simp at hcut; obtain ⟨rfl, rfl⟩ := hcut
              obtain ⟨rfl, ⟨q1, q2⟩, _⟩ := hq
              obtain ⟨t1, t2⟩ := hT.get e3
              obtain ⟨A, cp, s1, s2, s3, s4⟩ := (show D.own _ _ _ from m.mm.sat k' _ e4)
              rcases s4 with s4 | ⟨b, off, row, G, rfl, g1, g2, g3⟩
              · omega
              · have hcs := cells_rel e5a (Ev e2)
                obtain ⟨hds, hone⟩ := flatC_spec e5b hcs
                have hlen : (a.eval x).cells.toList.length = ti.sz := by
                  have := lenEq_spec _ _ c1
                  rw [hds, List.length_map] at this; exact this
                obtain ⟨r1, r2, r3⟩ := g1 i.toNat (by omega)
                rw [hds] at e7
                obtain ⟨vs', p1, p2⟩ := downs_paste r1 e7
                obtain ⟨k1, k2, k3, k4⟩ := paste_spec _ _ _ _ p1
                have hin : ∀ j, j < (a.eval x).cells.toList.length → H k' b (off + i.toNat * sz + o + j) ≠ none := fun j hj => by
                  have := r3 (o + j) (by omega)
                  rw [Nat.add_assoc, this, List.getElem?_eq_getElem (by omega)]; simp
                obtain ⟨w', u1, u2, u3, u4⟩ := run_storeVar (P := E.P) t2 rfl hlen (m.mm.fit k').fit hin hone
                have hmem := m.put (v := B k') (h' := (H k').updL b (off + i.toNat * sz + o) (a.eval x).cells.toList) (w' := w') hmu (.inl rfl) ?_ ((m.mm.fit k').turn u2 u3 fun b o hb => ⟨o, PH.updL_ne hin hb⟩) (u3.mono ?_) (fun b o hb => .inl (PH.updL_ne hin hb))
                · refine ⟨.skip, w', _, _, ?_, fun x hx => (by cases hx), fun _ => rfl, hmem, FitsE.anew f _ hc1 hc2, fun j hj => ⟨BE.set_ne _ _ hj, HF.set_ne _ _ hj⟩⟩
                  have he : a.eval ad = .pointer (some ⟨b, off + i.toNat * sz + o, none⟩) := by
                    rw [(show a.eval ad = elP (B k') sz i o ∧ _ from Ev e1).1, s1, elP_slice]
                  simp only [execOp, he]
                  simp only [Instr.storeAt, Instr.sureAddr, Sem.run_bind, Sem.run_pure, Result.andThen_ok]
                  rw [← t1, u1]
                  rfl
                · rw [BE.set_self]
                  refine ⟨_, cp, s1, s2, s3, .inr ⟨b, off, fun j => if j = i.toNat then vs' else row j, G, rfl, fun j hj => ?_, fun j hj hj2 x hx => ?_, fun j x y v hv => ?_, g3.2⟩⟩
                  · by_cases hji : j = i.toNat
                    · subst hji
                      simp only [Nat.beq_refl, cond_true, if_true]
                      refine ⟨p2, by omega, fun x' hx => ?_⟩
                      by_cases hx2 : o ≤ x' ∧ x' < o + (a.eval x).cells.toList.length
                      · rw [show off + i.toNat * sz + x' = off + i.toNat * sz + o + (x' - o) from by omega, PH.updL_in _ _ _ _ (by omega)]
                        have := k3 (x' - o) (by omega)
                        rw [show o + (x' - o) = x' from by omega] at this
                        exact this.symm
                      · rw [PH.updL_out _ (by omega), r3 x' hx]
                        exact (k4 x' (by omega)).symm
                    · have hb : Nat.beq j i.toNat = false := by
                        cases e : Nat.beq j i.toNat with
                        | false => rfl
                        | true => exact absurd (Nat.eq_of_beq_eq_true e) hji
                      simp only [hb, cond_false, if_neg hji]
                      obtain ⟨j1, j2, j3⟩ := g1 j hj
                      refine ⟨j1, j2, fun x' hx => ?_⟩
                      rw [PH.updL_out _ (by
                        rintro ⟨_, h6, h7⟩
                        rcases Nat.lt_or_gt_of_ne hji with h8 | h8
                        · have := Nat.mul_le_mul_right sz (show j + 1 ≤ i.toNat from h8)
                          rw [Nat.add_mul, Nat.one_mul] at this
                          omega
                        · have := Nat.mul_le_mul_right sz (show i.toNat + 1 ≤ j from h8)
                          rw [Nat.add_mul, Nat.one_mul] at this
                          omega)]
                      exact j3 x' hx
                  · rw [PH.updL_out _ (by
                      rintro ⟨_, h6, h7⟩
                      have := Nat.mul_le_mul_right sz (show i.toNat + 1 ≤ j from by omega)
                      rw [Nat.add_mul, Nat.one_mul] at this
                      omega)]
                    exact g2 j hj hj2 x hx
                  · rw [PH.updL_out]
                    · exact g3.1 j x y v hv
                    · rintro ⟨rfl, z1, z2⟩
                      have z3 : (i.toNat + 1) * sz ≤ cp * sz := Nat.mul_le_mul_right _ (by omega)
                      rw [Nat.add_mul, Nat.one_mul] at z3
                      rw [g3.2.2 j y (by omega) (by omega)] at hv; cases hv
                · rintro x' _ y' ⟨rfl, g1, g2⟩
                  have := hin (y' - (off + i.toNat * sz + o)) (by omega)
                  rwa [show off + i.toNat * sz + o + (y' - (off + i.toNat * sz + o)) = y' from by omega] at this
            · cases hcut
          · cases h
      · cases h
    · cases h
  · cases h
end
end
end Go.Proofs.YthpjoddhlkcciaaGreat
