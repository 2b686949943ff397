
/-
  The symbolic machine is right, continued: one theorem for all operations that leave the world alone.
-/
import Derived.Test.YtiegllklalplnaaGreatW5
namespace Go.Proofs.YtiegllklalplnaaGreat
open Go Go.RowKit
set_option linter.unusedVariables false
set_option linter.unusedSimpArgs false

section
variable {P : Program} {w : World} {B : BE} {r : PH} {mu : Mu} {H : Nat → PH} {TT : List TI} {N : Nat} {fr : Fr} {gf : GF} {a : Act}
theorem allF_spec (hT : TOk P TT) : ∀ {fs : List (Nat × Nat)}, allF TT fs = true → ∀ p ∈ fs, ∃ i, P.info? p.2 = some i
  | [], _, p, hp => by cases hp
  | (o, t) :: r, h, p, hp => by
    simp only [allF] at h
    cases e : tlk t TT with
    | none => rw [e] at h; cases h
    | some ti =>
      rw [e] at h
      cases hp with
      | head =>
        obtain ⟨e1, e2⟩ := hT.get e
        obtain ⟨i, h1, _⟩ := e2.info
        exact ⟨i, by rw [← e1]; exact h1⟩
      | tail _ hm => exact allF_spec hT h p hm
theorem evParts_spec {Z : Tg → PH} (f : Fits P B Z N fr gf a) {g : Gd} (hg : ∀ d w, (d, w) ∈ g → a.tmps.getD d undef = .bool w) : ∀ {l : List (Nat × Operand)} {ps : List (Nat × SV)}, evParts g fr gf l = some ps → (l.map fun p => (p.1, a.eval p.2)).map (·.1) = ps.map (·.1) ∧ SV.rels P B Z (ps.map (·.2)) ((l.map fun p => (p.1, a.eval p.2)).map (·.2))
  | [], ps, h => by simp only [evParts] at h; injection h with h; subst h; exact ⟨rfl, rfl⟩
  | (i, x) :: r, ps, h => by
    simp only [evParts] at h
    cases e : ev g fr gf x with
    | none => rw [e] at h; cases h
    | some y =>
      cases e2 : evParts g fr gf r with
      | none => rw [e, e2] at h; cases h
      | some l =>
        rw [e, e2] at h; injection h with h; subst h
        obtain ⟨h1, h2⟩ := evParts_spec f hg e2
        exact ⟨by simp only [List.map_cons, h1], _, _, rfl, f.ev hg e, h2⟩
theorem vsA_spec {Z : Tg → PH} : ∀ {l : List SV} {m : List V}, vsA l = some m → ∀ {vs : List Value}, SV.rels P B Z l vs → V.rels B Z m vs
  | [], m, h, vs, r => by simp only [vsA] at h; injection h with h; subst h; exact r
  | .a x :: l, m, h, vs, r => by
    simp only [vsA] at h
    cases e : vsA l with
    | none => rw [e] at h; cases h
    | some l' =>
      rw [e] at h; injection h with h; subst h
      obtain ⟨y, t, rfl, r2, r3⟩ := r
      exact ⟨y, t, rfl, r2, vsA_spec e r3⟩
  | .ag _ :: _, m, h, _, _ => by simp [vsA] at h
  | .fn _ _ :: _, m, h, _, _ => by simp [vsA] at h
  | .fb _ :: _, m, h, _, _ => by simp [vsA] at h
  | .tu _ :: _, m, h, _, _ => by simp [vsA] at h
  | .un :: _, m, h, _, _ => by simp [vsA] at h
theorem agL_rel {Z : Tg → PH} {x : SV} {l : List V} (h : x.agL = some l) {y : Value} (r : SV.rel P B Z x y) : ∃ cs : Array Value, y = .agg cs ∧ V.rels B Z l cs.toList := by
  cases x with
  | un => simp [SV.agL] at h
  | fn f l => simp [SV.agL] at h
  | fb f => simp [SV.agL] at h
  | tu l => simp [SV.agL] at h
  | ag l' => simp [SV.agL] at h; subst h; obtain ⟨vs, rfl, r2⟩ := r; exact ⟨_, rfl, by simpa using r2⟩
  | a u =>
    cases u with
    | v x =>
      have r : y = x := r
      subst r
      cases y <;> simp [SV.agL, layV_eq] at h
      subst h; exact ⟨_, rfl, rels_v _⟩
    | _ => simp [SV.agL] at h
theorem nilCheck_ok {x : Operand} {p : Addr} (h : a.eval x = .pointer (some p)) (d : Option Tmp) (ty : TypeId) (pos : String) (after : Array Edge) (gd : Option (Nat × Bool)) :
    (execOp a.eval ⟨d, .nilCheck x, ty, pos, after, gd⟩).run P w = .ok (.value (.pointer (some p))) w := by
  simp only [execOp, h, Sem.run_pure]
theorem run_build {Z : Tg → PH} {t : TypeId} {fs : Array Field} (hu : P.underlying t = some (.struct fs)) {l : List (Nat × Nat)} (e : fs.toList.map (fun f => (f.offset, f.type)) = l) (hT : TOk P TT) (hall : allF TT l = true) {i : TypeInfo} (hi : P.info? t = some i) {z : Value} (hz : i.zero = some z)
    {ps : List (Nat × SV)} {m : List V} (h : fillParts TT l ps (vcellsL z) = some m) (parts : Array (Nat × Value)) (hp1 : parts.toList.map (·.1) = ps.map (·.1)) (hp2 : SV.rels P B Z (ps.map (·.2)) (parts.toList.map (·.2))) :
    ∃ ms : List Value, (∀ w, (Instr.build t parts).run P w = .ok (.agg ms.toArray) w) ∧ V.rels B Z m ms := by
  have hall' : ∀ f ∈ fs.toList, ∃ i, P.info? f.type = some i := fun f hf => allF_spec hT hall (f.offset, f.type) (by rw [← e]; exact List.mem_map_of_mem hf)
  obtain ⟨pl, p1, p2⟩ := run_mapM_places (P := P) fs.toList hall'
  have hm : ∀ w, (fs.mapM fun (f : Field) => do pure (f.offset, ← sizeOf f.type) : Sem (Array (Nat × Nat))).run P w = .ok pl.toArray w := fun w => by
    rw [Array.mapM_eq_mapM_toList, Sem.run_map, p1, Result.andThen_ok]
  obtain ⟨ms, hf, hr⟩ := fill_ok hT (fs := l) (place := (pl.toArray[·]?)) (fun i o t ti h1 h2 => by
    obtain ⟨f, f1, f2, f3⟩ := field_get e h1
    obtain ⟨g1, g2⟩ := hT.get h2
    obtain ⟨inf, g3, g4, _⟩ := g2.info
    have := p2 i f (by simpa using f1) inf (by rw [f3, ← g1]; exact g3)
    simp only [List.getElem?_toArray, this, f2, g4]) ps parts.toList (vcellsL z) m z.cells.toList hp1 hp2 (vcellsL_rel z) h
  have hz2 : ∀ w, (zeroValue t).run P w = .ok z w := fun w => by simp only [zeroValue, Sem.run_bind, run_info hi, Result.andThen_ok, hz, Sem.run_pure]
  refine ⟨ms, fun w => ?_, hr⟩
  have hc : z.cells.toList.toArray = z.cells := by simp
  rw [hc] at hf
  simp only [Instr.build, Sem.run_bind, hz2, Result.andThen_ok, run_underlying hu, hm, hf, Sem.run_pure]
theorem part_one {ti : TI} (hti : ti.ok P) (hag : ti.isAg = false) {cs : Array Value} {d : Nat} {v : Value} (h : cs[d]? = some v) : (part ti.id cs d).run P w = .ok v w := by
  simp only [part, Sem.run_bind, run_isAgg hti, Result.andThen_ok, hag]
  rw [if_neg (by simp)]
  simp only [h, Sem.run_pure]
/-- two structs of numbers and truths are compared -/
theorem eqFs_ok {Z : Tg → PH} (hT : TOk P TT) {d : Nat} {l m : List V} {xs ys : Array Value} (hl : V.rels B Z l xs.toList) (hm : V.rels B Z m ys.toList) : ∀ {fs : List Field} {b : Bool}, (∀ f ∈ fs, (f.name != "_") = true) → eqFs TT l m (fs.map fun f => (f.offset, f.type)) = some b → (Op.eqFields (d + 1) xs ys fs).run P w = .ok b w
  | [], b, _, h => by simp [eqFs] at h; subst h; simp [Op.eqFields]
  | f :: fs, b, hn, h => by
    have hne : f.name ≠ "_" := by simpa using hn f List.mem_cons_self
    have ih := fun {b} => eqFs_ok (d := d) hT hl hm (fs := fs) (b := b) fun f hf => hn f (List.mem_cons_of_mem _ hf)
    simp only [List.map_cons, eqFs] at h
    split at h
    · rename_i id by_ k z q k1 a k2 b' zz e1 e2 e3 e4
      split at h
      · simp at h
        subst h
        obtain ⟨t1, t2⟩ := hT.get e1
        obtain ⟨dd, d1, d2⟩ := t2.desc
        simp only at t1 d1 d2
        obtain rfl := shapeK_it d2
        obtain ⟨v1, v2, v3⟩ := nth_rels hl e2
        obtain ⟨u1, u2, u3⟩ := nth_rels hm e3
        obtain rfl : v1 = _ := v3
        obtain rfl : u1 = _ := u3
        rw [t1] at d1
        have p1 := part_one (w := w) t2 rfl (cs := xs) (d := f.offset) (by simpa using v2)
        have p2 := part_one (w := w) t2 rfl (cs := ys) (d := f.offset) (by simpa using u2)
        simp only [t1] at p1 p2
        simp only [Op.eqFields, ne_eq, hne, not_false_eq_true, if_true, Sem.run_bind, p1, p2, Result.andThen_ok, run_equalIn_int w d f.type _ _ _ _ d1]
        cases hc : (a == b') with
        | true => simp only [Bool.not_true, Bool.false_eq_true, if_false, cond_true, Bool.true_and, ih e4]
        | false => simp only [Bool.not_false, if_true, cond_false, Bool.false_and, Sem.run_pure]
      · cases h
    · rename_i id by_ z q a b' zz e1 e2 e3 e4
      simp at h
      subst h
      obtain ⟨t1, t2⟩ := hT.get e1
      obtain ⟨dd, d1, d2⟩ := t2.desc
      simp only at t1 d1 d2
      obtain rfl := shapeK_bo d2
      obtain ⟨v1, v2, v3⟩ := nth_rels hl e2
      obtain ⟨u1, u2, u3⟩ := nth_rels hm e3
      obtain rfl : v1 = _ := v3
      obtain rfl : u1 = _ := u3
      rw [t1] at d1
      have p1 := part_one (w := w) t2 rfl (cs := xs) (d := f.offset) (by simpa using v2)
      have p2 := part_one (w := w) t2 rfl (cs := ys) (d := f.offset) (by simpa using u2)
      simp only [t1] at p1 p2
      simp only [Op.eqFields, ne_eq, hne, not_false_eq_true, if_true, Sem.run_bind, p1, p2, Result.andThen_ok, run_equalIn_bool' w d f.type _ _ d1]
      cases hc : (a == b') with
      | true => simp only [Bool.not_true, Bool.false_eq_true, if_false, cond_true, Bool.true_and, ih e4]
      | false => simp only [Bool.not_false, if_true, cond_false, Bool.false_and, Sem.run_pure]
    · cases h
theorem eqSt_ok {Z : Tg → PH} (hT : TOk P TT) {ti : TI} (hti : ti.ok P) {o : BinOp} {x y : SV} {v : Value} (h : eqSt TT ti o x y = some v) (ox oy : Operand) {u u' : Value} (hu : SV.rel P B Z x u) (hu' : SV.rel P B Z y u') :
    (do eqGuard o ti.id ox oy u u'; binOp o ti.id u u' : Sem Value).run P w = .ok v w := by
  unfold eqSt at h
  split at h
  · rename_i fs l m e1 e2 e3
    obtain ⟨cs, rfl, r1⟩ := agL_rel e2 hu
    obtain ⟨ds, rfl, r2⟩ := agL_rel e3 hu'
    cases hq : ti.eqf with
    | false => rw [hq] at h; cases h
    | true =>
      rw [hq] at h
      simp only [cond_true] at h
      obtain ⟨d, d1, d2⟩ := hti.desc
      rw [e1] at d2
      obtain ⟨fa, rfl, d3⟩ := shapeK_st d2
      have hpl := hti.2.2.2 hq
      simp only [eqPlain, d1, Bool.and_eq_true, Bool.not_eq_true', Array.all_eq_true'] at hpl
      obtain ⟨⟨g1, g2⟩, g3⟩ := hpl
      have hfo : P.fieldsOf ti.id = fa := by simp [Program.fieldsOf, d1]
      have run : ∀ {b}, eqFs TT l m fs = some b → (Op.equalIn 10000 ti.id (.agg cs) (.agg ds)).run P w = .ok b w := fun {b} hb => by
        rw [run_equalIn_agg w 9999 ti.id cs ds (by rw [hfo]; exact d1) g1, hfo]
        rw [← d3] at hb
        exact eqFs_ok hT r1 r2 (fun f hf => g3 f (by simpa using hf)) hb
      split at h
      · rename_i b hb
        injection h with h; subst h
        rw [Sem.run_bind, run_eqGuard_agg w _ _ _ _ _ _ g2, Result.andThen_ok, run_eql_struct, run hb]; rfl
      · rename_i b hb
        injection h with h; subst h
        rw [Sem.run_bind, run_eqGuard_agg w _ _ _ _ _ _ g2, Result.andThen_ok, run_neq_struct, run hb]; rfl
      · cases h
  · cases h
/-- part of a slice that is read -/
theorem rd_cut {h : PH} {sz n : Nat} {f : Nat → List D} {A : Option Addr} {m c l x : Nat} (e : D.rd h (.sl sz n f) (.slice A m c)) (hl : l ≤ x) (hx : x ≤ n) : D.rd h (.sl sz (x - l) fun i => f (l + i)) (.slice (if c = l then A else A.map (·.add (l * sz))) (x - l) (c - l)) := by
  obtain ⟨A', c', e1, e2, e3, e4⟩ := e
  injection e1 with e5 e6 e7
  subst e5; subst e6; subst e7
  refine ⟨_, _, rfl, by omega, by omega, ?_⟩
  rcases e4 with e4 | ⟨b, o, rfl, g⟩
  · exact .inl (by omega)
  · by_cases h0 : x - l = 0
    · exact .inl h0
    · refine .inr ⟨b, o + l * sz, ?_, fun i hi => ?_⟩
      · rw [if_neg (by omega)]; simp [add_mk]
      · obtain ⟨row, r1, r2, r3⟩ := g (l + i) (by omega)
        refine ⟨row, r1, r2, fun j hj => ?_⟩
        have := r3 j hj
        rwa [Nat.add_mul, ← Nat.add_assoc] at this
theorem sb_rd {h : PH} {sz n : Nat} {f : Nat → List D} {u : Value} {lo hi : Int} (e : D.rd h (.sl sz n f) u) (h1 : 0 ≤ lo) (h2 : lo ≤ hi) (h3 : hi ≤ n) : D.rd h (.sl sz (hi - lo).toNat fun i => f (lo.toNat + i)) (sbV u sz lo.toNat (hi - lo).toNat) := by
  obtain ⟨A, c, rfl, e4⟩ := (show ∃ A c, u = .slice A n c ∧ _ from e)
  have := rd_cut (l := lo.toNat) (x := hi.toNat) e (by omega) (by omega)
  have e : (hi - lo).toNat = hi.toNat - lo.toNat := by omega
  rw [e]; exact this
theorem slR_spec (m : Ms B r mu H) {x : V} {q : Tg} {sz n : Nat} {f : Nat → List D} {ob : Ob} (h : slR mu x = some (q, sz, n, f, ob)) (ho : Alls ob) {u : Value} (hu : x.rel B (Zf r H) u) : D.rd (Zf r H q) (.sl sz n f) u := by
  cases x with
  | s q' sz' n' f' => simp [slR] at h; obtain ⟨rfl, rfl, rfl, rfl, rfl⟩ := h; exact hu
  | g k =>
    obtain ⟨rfl, _⟩ := (show u = B k ∧ _ from hu)
    simp only [slR] at h
    split at h
    · rename_i sz' n' f' e; simp at h; obtain ⟨rfl, rfl, rfl, rfl, rfl⟩ := h; exact D.own_rd _ (m.sat k _ e)
    · rename_i sz' n' f' e; simp at h; obtain ⟨rfl, rfl, rfl, rfl, rfl⟩ := h; exact m.sat k _ e
    · cases h
  | sb k sz lo hi =>
    obtain ⟨rfl, _⟩ := (show u = sbV (B k) sz _ _ ∧ _ from hu)
    simp only [slR] at h
    split at h
    · rename_i sz' n' f' e
      simp at h; obtain ⟨rfl, rfl, rfl, rfl, rfl⟩ := h
      obtain ⟨rfl, ⟨q1, q2, q3⟩, _⟩ := ho
      exact sb_rd (D.own_rd _ (m.sat k _ e)) q1 q2 q3
    · cases h
  | _ => simp [slR] at h
theorem bndV_spec {Z : Tg → PH} (f : Fits P B Z N fr gf a) {g : Gd} (hg : ∀ d w, (d, w) ∈ g → a.tmps.getD d undef = .bool w) {d i : Int} {x : Operand} (h : bndV g fr gf d (some x) = some i) : ∃ k, a.eval x = .int k i := by
  simp only [bndV] at h
  split at h
  · rename_i k j e; injection h with h; subst h; exact ⟨k, f.ev hg e⟩
  · cases h
theorem run_bound {k : IntKind} {i : Int} {y : Nat} (h : 0 ≤ i ∧ i ≤ y) (c : BoundsCode) : (Instr.sliceBound (.int k i) y c).run P w = .ok i.toNat w := by
  simp only [Instr.sliceBound, asIntOf, Sem.run_bind, Sem.run_pure, Result.andThen_ok]
  rw [if_pos h]; rfl
end
end Go.Proofs.YtiegllklalplnaaGreat
