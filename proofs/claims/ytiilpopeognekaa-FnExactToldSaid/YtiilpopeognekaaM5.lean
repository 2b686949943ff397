/-
  The symbolic machine is right, continued: one theorem for all pure operations.
-/
import Derived.Test.YtiilpopeognekaaM4
namespace Go.Proofs.Ytiilpopeognekaa
open Go Go.RowKit
set_option linter.unusedVariables false
set_option linter.unusedSimpArgs false

section
variable {P : Program} {w w0 : World} {B : BE} {r : PH} {D : Nat → Nat → Prop} {mu : Mu} {ga : Ga} {H : Nat → PH} {TT : List TI} {N : Nat} {fr : Fr} {gf : GF} {a : Act}
theorem allF_spec (hT : TOk P TT) : ∀ {fs : List (Nat × Nat)}, allF TT fs = true → ∀ p ∈ fs, ∃ i, P.info? p.2 = some i
  | [], _, p, hp => by cases hp
  | (o, t) :: r, h, p, hp => by
    simp only [allF] at h
    cases e : tlk t TT with
    | none => rw [e] at h; cases h
    | some ti =>
      rw [e] at h
      cases hp with
      | head =>
        obtain ⟨e1, e2⟩ := hT.get e
        obtain ⟨i, h1, _⟩ := e2.info
        exact ⟨i, by rw [← e1]; exact h1⟩
      | tail _ hm => exact allF_spec hT h p hm
theorem evParts_spec (f : Fits B N fr gf a) {g : Gd} (hg : ∀ d w, (d, w) ∈ g → a.tmps.getD d undef = .bool w) : ∀ {l : List (Nat × Operand)} {ps : List (Nat × SV)}, evParts g fr gf l = some ps → l.map (fun p => (p.1, a.eval p.2)) = ps.map fun p => (p.1, p.2.den B)
  | [], ps, h => by simp only [evParts] at h; injection h with h; subst h; rfl
  | (i, x) :: r, ps, h => by
    simp only [evParts] at h
    cases e : ev g fr gf x with
    | none => rw [e] at h; cases h
    | some y =>
      cases e2 : evParts g fr gf r with
      | none => rw [e, e2] at h; cases h
      | some l =>
        rw [e, e2] at h; injection h with h; subst h
        simp [f.ev hg e, evParts_spec f hg e2]
theorem avs_spec : ∀ {l : List SV} {m : List AV}, avs l = some m → l.map (SV.den B) = m.map (AV.den B)
  | [], m, h => by simp only [avs] at h; injection h with h; subst h; rfl
  | .a x :: r, m, h => by
    simp only [avs] at h
    cases e : avs r with
    | none => rw [e] at h; cases h
    | some l => rw [e] at h; injection h with h; subst h; simp [avs_spec e, SV.den]
  | .ag _ :: _, m, h => by simp [avs] at h
  | .fn _ _ :: _, m, h => by simp [avs] at h
  | .un :: _, m, h => by simp [avs] at h
theorem agL_den {x : SV} {l : List AV} (h : x.agL = some l) (B : BE) : ∃ cs : Array Value, x.den B = .agg cs ∧ cs.toList = l.map (AV.den B) := by
  cases x with
  | un => simp [SV.agL] at h
  | fn f l => simp [SV.agL] at h
  | ag l' => simp [SV.agL] at h; subst h; exact ⟨_, rfl, by simp⟩
  | a y =>
    cases y with
    | v x => cases x <;> simp [SV.agL, layV_eq] at h; subst h; exact ⟨_, rfl, by simp [Function.comp_def, AV.den]⟩
    | _ => simp [SV.agL] at h
theorem nilCheck_ok {x : Operand} {p : Addr} (h : a.eval x = .pointer (some p)) (d : Option Tmp) (ty : TypeId) (pos : String) (after : Array Edge) (gd : Option (Nat × Bool)) :
    (execOp a.eval ⟨d, .nilCheck x, ty, pos, after, gd⟩).run P w = .ok (.value (.pointer (some p))) w := by
  simp only [execOp, h, Sem.run_pure]
theorem run_build {t : TypeId} {fs : Array Field} (hu : P.underlying t = some (.struct fs)) {l : List (Nat × Nat)} (e : fs.toList.map (fun f => (f.offset, f.type)) = l) (hT : TOk P TT) (hall : allF TT l = true) {i : TypeInfo} (hi : P.info? t = some i) {z : Value} (hz : i.zero = some z)
    {ps : List (Nat × SV)} {m : List AV} (h : fillParts TT l ps (vcellsL z) = some m) (parts : Array (Nat × Value)) (hp : parts.toList = ps.map fun p => (p.1, p.2.den B)) :
    (Instr.build t parts).run P w = .ok (.agg (m.map (AV.den B)).toArray) w := by
  have hall' : ∀ f ∈ fs.toList, ∃ i, P.info? f.type = some i := fun f hf => allF_spec hT hall (f.offset, f.type) (by rw [← e]; exact List.mem_map_of_mem hf)
  obtain ⟨pl, p1, p2⟩ := run_mapM_places (P := P) (w := w) fs.toList hall'
  have hm : (fs.mapM fun (f : Field) => do pure (f.offset, ← sizeOf f.type) : Sem (Array (Nat × Nat))).run P w = .ok pl.toArray w := by
    rw [Array.mapM_eq_mapM_toList, Sem.run_map, p1, Result.andThen_ok]
  have hf := fill_ok hT (fs := l) (place := (pl.toArray[·]?)) (fun i o t ti h1 h2 => by
    obtain ⟨f, f1, f2, f3⟩ := field_get e h1
    obtain ⟨g1, g2⟩ := hT.get h2
    obtain ⟨inf, g3, g4, _⟩ := g2.info
    have := p2 i f (by simpa using f1) inf (by rw [f3, ← g1]; exact g3)
    simp only [List.getElem?_toArray, this, f2, g4]) B ps (vcellsL z) m h
  rw [vcells_den] at hf
  have hz2 : (zeroValue t).run P w = .ok z w := by simp only [zeroValue, Sem.run_bind, run_info hi, Result.andThen_ok, hz, Sem.run_pure]
  simp only [Instr.build, Sem.run_bind, hz2, Result.andThen_ok, run_underlying hu, hm, hp, hf, Sem.run_pure]

/-- every pure operation yields what the machine says, and leaves the world alone -/
theorem pst_ok (hT : TOk P TT) (f : Fits B N fr gf a) (hga : GaOk r ga) (m : Mr B r mu w H) {g : Gd} (hg : ∀ d w, (d, w) ∈ g → a.tmps.getD d undef = .bool w) {o : Oper} {x : SV} {q : Ob}
    (h : pst TT fr gf mu ga g o.op = some (x, q)) (hq : Alls q) : (execOp a.eval o).run P w = .ok (.value (x.den B)) w := by
  obtain ⟨dst, op, type, pos, after, guard⟩ := o
  simp only at h
  have E : ∀ {x : Operand} {y : SV}, ev g fr gf x = some y → a.eval x = y.den B := fun h => f.ev hg h
  unfold pst at h
  split at h
  -- move
  · split at h
    · rename_i e; simp at h; obtain ⟨rfl, rfl⟩ := h; simp only [execOp, E e, Sem.run_pure]
    · cases h
  -- assign
  · split at h
    · rename_i e; simp at h; obtain ⟨rfl, rfl⟩ := h; simp only [execOp, E e, Sem.run_pure]
    · cases h
  -- pick
  · rename_i c x y
    split at h
    · rename_i b ct e
      split at h
      · rename_i p q' e1 e2
        simp at h; obtain ⟨rfl, rfl⟩ := h
        have hc := E e
        simp only [SV.den, AV.den] at hc
        have hct : a.tmps.getD ct undef = .bool b := hc
        simp only [execOp, hc, asBool, Sem.run_bind, Sem.run_pure, Result.andThen_ok]
        cases b with
        | true =>
          have := f.ev (g := (ct, true) :: g) (fun d w e => by cases e with | head => exact hct | tail _ e => exact hg d w e) e1
          simp only [if_true, this, SV.den, AV.den, cond_true]
        | false =>
          have := f.ev (g := (ct, false) :: g) (fun d w e => by cases e with | head => exact hct | tail _ e => exact hg d w e) e2
          simp only [Bool.false_eq_true, if_false, this, SV.den, AV.den, cond_false]
      · cases h
    · cases h
  -- nilCheck
  · rename_i x
    split at h
    · rename_i e; simp at h; obtain ⟨rfl, rfl⟩ := h; exact nilCheck_ok (E e) _ _ _ _ _
    · rename_i k A n i sz o e
      simp at h; obtain ⟨rfl, rfl⟩ := h
      exact nilCheck_ok (E e) _ _ _ _ _
    · rename_i k A n i sz o e
      simp at h; obtain ⟨rfl, rfl⟩ := h
      exact nilCheck_ok (E e) _ _ _ _ _
    · rename_i e; simp at h; obtain ⟨rfl, rfl⟩ := h; exact nilCheck_ok (E e) _ _ _ _ _
    · cases h
  -- binOp
  · rename_i op t x y yt
    split at h
    · rename_i x' y' ti e1 e2 e3
      split at h
      · rename_i v q' e4
        simp at h; obtain ⟨rfl, rfl⟩ := h
        obtain ⟨t1, t2⟩ := hT.get e3
        obtain ⟨d, d1, d2⟩ := t2.desc
        rw [t1] at d1
        have hx := E e1
        have hy := E e2
        simp only [execOp, hx, hy]
        exact run_value (bop_ok d1 d2 e4 hq B x y)
      · cases h
    · cases h
  -- unOp
  · split at h
    · rename_i b e
      simp at h; obtain ⟨rfl, rfl⟩ := h
      simp only [execOp, E e]
      exact run_value (by simp [Op.unary, SV.den, AV.den])
    · rename_i x' e
      simp at h; obtain ⟨rfl, rfl⟩ := h
      simp only [execOp, E e]
      refine run_value ?_
      have := hq.1
      simp [Op.unary, Op.intArith, SV.den, AV.den, wrap_in this]
    · cases h
  -- fieldAddr
  · rename_i t x fi
    split at h
    · rename_i y id sz by_ fs z e1 e2
      split at h
      · rename_i d ft e3
        split at h
        · rename_i tf e4
          cases e5 : Nat.beq tf.sz 0 with
          | true => rw [e5] at h; cases h
          | false =>
            rw [e5] at h
            simp only [cond_false] at h
            obtain ⟨t1, t2⟩ := hT.get e2
            obtain ⟨fa, fa1, fa2⟩ := TI.ok.stc t2
            simp only at t1
            subst t1
            obtain ⟨fl, f1, f2, f3⟩ := field_get fa2 e3
            obtain ⟨g1, g2⟩ := hT.get e4
            obtain ⟨inf, g3, g4, _⟩ := g2.info
            have hn : inf.size ≠ 0 := by
              rw [g4]; intro h0; rw [h0] at e5; cases e5
            have R := fun (b : Addr) => run_fieldAt (P := P) (w := w) fa1 f1 (by rw [f3, ← g1]; exact g3) hn b
            have hx := E e1
            split at h
            · rename_i k o
              simp at h; obtain ⟨rfl, rfl⟩ := h
              simp only [execOp, hx]
              refine run_value ?_
              simp only [SV.den, AV.den, R, f2, p_add]
            · rename_i k A n i sz' o
              simp at h; obtain ⟨rfl, rfl⟩ := h
              obtain ⟨p, p1, p2⟩ := elP_add (A := A) (i := i) (sz := sz') (o := o) (d := d)
              simp only [execOp, hx]
              refine run_value ?_
              simp only [SV.den, AV.den, p1, p2, R, f2]
            · rename_i k A n i sz' o
              simp at h; obtain ⟨rfl, rfl⟩ := h
              obtain ⟨p, p1, p2⟩ := elP_add (A := A) (i := i) (sz := sz') (o := o) (d := d)
              simp only [execOp, hx]
              refine run_value ?_
              simp only [SV.den, AV.den, p1, p2, R, f2]
            · cases h
        · cases h
      · cases h
    · cases h
  -- field
  · rename_i t x fi
    split at h
    · rename_i y id sz by_ fs z e1 e2
      split at h
      · rename_i l d ft e3 e4
        split at h
        · rename_i tf e5
          split at h
          · rename_i l' e6
            split at h
            · rename_i z' e7
              simp at h; obtain ⟨rfl, rfl⟩ := h
              obtain ⟨t1, t2⟩ := hT.get e2
              obtain ⟨fa, fa1, fa2⟩ := TI.ok.stc t2
              simp only at t1
              subst t1
              obtain ⟨fl, f1, f2, f3⟩ := field_get fa2 e4
              obtain ⟨g1, g2⟩ := hT.get e5
              have hx := E e1
              obtain ⟨cs, c1, c2⟩ := agL_den e3 B
              rw [c1] at hx
              simp only [execOp, hx]
              refine run_value ?_
              simp only [Instr.field, Sem.run_bind, run_underlying fa1, Result.andThen_ok, f1, asAgg, Sem.run_pure, f2, f3, ← g1]
              refine run_part g2 cs d (l'.map (AV.den B)) (by rw [c2]; exact cut_map _ _ _ _ _ e6) _ ?_
              rcases svOf_spec e7 B with ⟨k1, rfl⟩ | ⟨k1, y', rfl, rfl⟩
              · exact .inl ⟨k1, rfl⟩
              · exact .inr ⟨k1, rfl⟩
            · cases h
          · cases h
        · cases h
      · cases h
    · cases h
  -- indexAddr
  · rename_i t x ix
    split at h
    · rename_i y k' j id sz by_ e z e1 e2 e3
      split at h
      · rename_i te e4
        obtain ⟨t1, t2⟩ := hT.get e3
        obtain ⟨d, d1, d2⟩ := t2.desc
        simp only at t1 d1 d2
        subst t1
        obtain rfl := shapeK_slc d2
        obtain ⟨g1, g2⟩ := hT.get e4
        obtain ⟨inf, g3, g4, _⟩ := g2.info
        rw [g1] at g3
        have hx := E e1
        have hi := E e2
        simp only [SV.den, AV.den] at hi
        split at h
        · rename_i k A n c
          split at h
          · rename_i A' n' sz' row e5
            simp at h; obtain ⟨rfl, rfl⟩ := h
            obtain ⟨q1, q2, q3, _⟩ := hq
            simp only [OB.p] at q1 q2 q3
            subst q1; subst q2
            obtain ⟨b, o, e6, _⟩ := hga k _ e5 j.toNat (by simp; omega)
            simp only [execOp, hx, hi]
            refine run_value ?_
            have := run_indexAt (P := P) (w := w) d1 g3 A n c k' j q3 ⟨b, o, e6⟩
            rw [g4] at this
            exact this
          · cases h
        · rename_i k A n c
          split at h
          · rename_i A' n' c' sz' rows e5
            simp at h; obtain ⟨rfl, rfl⟩ := h
            obtain ⟨q1, q2, q3, _⟩ := hq
            simp only [OB.p] at q1 q2 q3
            subst q1; subst q2
            obtain ⟨_, s1, _⟩ := m.sat k _ e5
            obtain ⟨b, o, e6, _⟩ := s1 j.toNat (by omega)
            simp only [execOp, hx, hi]
            refine run_value ?_
            have := run_indexAt (P := P) (w := w) d1 g3 A n c k' j q3 ⟨b, o, e6⟩
            rw [g4] at this
            exact this
          · cases h
        · cases h
      · cases h
    · cases h
  -- load
  · split at h
    · rename_i t x y ti e1 e2
      obtain ⟨t1, t2⟩ := hT.get e2
      subst t1
      obtain ⟨p, p1, p2⟩ := ld_ok hga m t2 h hq
      have hx := E e1
      rw [p1] at hx
      simp only [execOp, hx]
      refine run_value ?_
      simp only [Instr.loadAt, Instr.sureAddr, Sem.run_bind, Sem.run_pure, Result.andThen_ok, p2]
    · cases h
  -- extract
  · rename_i x ix
    split at h
    · rename_i vs e
      split at h
      · rename_i v e2
        simp at h; obtain ⟨rfl, rfl⟩ := h
        have hx := E e
        simp only [SV.den, AV.den] at hx
        rw [nth_eq] at e2
        simp only [execOp, hx]
        refine run_value ?_
        have : vs[ix]? = some v := by simpa using e2
        simp only [Instr.extract, this, Sem.run_pure]
        rfl
      · cases h
    · cases h
  -- build
  · rename_i t parts
    split at h
    · rename_i ps id sz by_ fs z e1 e2
      cases hall : allF TT fs with
      | false => rw [hall] at h; cases h
      | true =>
        rw [hall] at h
        simp only [cond_true] at h
        rw [vcells_eq, Option.bind_some] at h
        split at h
        · rename_i l e3
          simp at h; obtain ⟨rfl, rfl⟩ := h
          obtain ⟨t1, t2⟩ := hT.get e2
          simp only at t1
          subst t1
          obtain ⟨fa, fa1, fa2⟩ := TI.ok.stc t2
          obtain ⟨inf, i1, _, _, i4⟩ := t2.info
          simp only [execOp]
          refine run_value ?_
          refine run_build fa1 fa2 hT hall i1 i4 e3 _ ?_
          rw [Array.toList_map]
          exact evParts_spec f hg e1
        · cases h
    · cases h
  -- makeFunc
  · rename_i fn first caps
    split at h
    · rename_i l e1 e2
      split at h
      · rename_i l' e3
        simp at h; obtain ⟨rfl, rfl⟩ := h
        have h1 : first = #[] := by simpa using e1
        have h2 := f.evs hg e2
        have h3 := avs_spec (B := B) e3
        simp only [execOp, Instr.makeFunc]
        refine run_value ?_
        simp only [Sem.run_pure, SV.den, h1, Array.map_empty]
        have : caps.map a.eval = (l'.map (AV.den B)).toArray := by
          rw [← h3, ← h2]
          exact Array.ext' (by rw [Array.toList_map])
        rw [this]
      · cases h
    · cases h
  -- call of a builtin
  · rename_i c
    obtain ⟨callee, args, ats⟩ := c
    simp only at h
    split at h
    · rename_i x ha
      have ha' : args = #[x] := by rw [← Array.toArray_toList (xs := args), ha]
      subst ha'
      split at h
      · rename_i k A n c id sz by_ e z e1 e2
        simp at h; obtain ⟨rfl, rfl⟩ := h
        obtain ⟨t, e3, e4⟩ := Option.bind_eq_some_iff.1 e2
        obtain ⟨t1, t2⟩ := hT.get e4
        obtain ⟨d, d1, d2⟩ := t2.desc
        simp only at t1 d1 d2; subst t1; obtain rfl := shapeK_slc d2
        simp only [execOp, resolve, Sem.run_bind, Sem.run_pure, Result.andThen_ok, invoke, builtin, Builtin.len_, e3, List.map_toArray, List.map_cons, List.map_nil, E e1, SV.den, AV.den, List.getElem?_toArray, List.getElem?_cons_zero, run_underlying d1]
        rfl
      · rename_i k A n c id sz by_ e z e1 e2
        simp at h; obtain ⟨rfl, rfl⟩ := h
        obtain ⟨t, e3, e4⟩ := Option.bind_eq_some_iff.1 e2
        obtain ⟨t1, t2⟩ := hT.get e4
        obtain ⟨d, d1, d2⟩ := t2.desc
        simp only at t1 d1 d2; subst t1; obtain rfl := shapeK_slc d2
        simp only [execOp, resolve, Sem.run_bind, Sem.run_pure, Result.andThen_ok, invoke, builtin, Builtin.len_, e3, List.map_toArray, List.map_cons, List.map_nil, E e1, SV.den, AV.den, List.getElem?_toArray, List.getElem?_cons_zero, run_underlying d1]
        rfl
      · rename_i A n c id sz by_ e z e1 e2
        simp at h; obtain ⟨rfl, rfl⟩ := h
        obtain ⟨t, e3, e4⟩ := Option.bind_eq_some_iff.1 e2
        obtain ⟨t1, t2⟩ := hT.get e4
        obtain ⟨d, d1, d2⟩ := t2.desc
        simp only at t1 d1 d2; subst t1; obtain rfl := shapeK_slc d2
        simp only [execOp, resolve, Sem.run_bind, Sem.run_pure, Result.andThen_ok, invoke, builtin, Builtin.len_, e3, List.map_toArray, List.map_cons, List.map_nil, E e1, SV.den, AV.den, List.getElem?_toArray, List.getElem?_cons_zero, run_underlying d1]
        rfl
      · rename_i s id sz by_ z e1 e2
        simp at h; obtain ⟨rfl, rfl⟩ := h
        obtain ⟨t, e3, e4⟩ := Option.bind_eq_some_iff.1 e2
        obtain ⟨t1, t2⟩ := hT.get e4
        obtain ⟨d, d1, d2⟩ := t2.desc
        simp only at t1 d1 d2; subst t1; obtain rfl := shapeK_str d2
        simp only [execOp, resolve, Sem.run_bind, Sem.run_pure, Result.andThen_ok, invoke, builtin, Builtin.len_, e3, List.map_toArray, List.map_cons, List.map_nil, E e1, SV.den, AV.den, List.getElem?_toArray, List.getElem?_cons_zero, run_underlying d1]
        rfl
      · cases h
    · rename_i x y ha
      have ha' : args = #[x, y] := by rw [← Array.toArray_toList (xs := args), ha]
      subst ha'
      split at h
      · rename_i p q' e1 e2
        simp at h; obtain ⟨rfl, rfl⟩ := h
        simp only [execOp, resolve, Sem.run_bind, Sem.run_pure, Result.andThen_ok, invoke, builtin, Builtin.max_, List.map_toArray, List.map_cons, List.map_nil, E e1, E e2, SV.den, AV.den, List.foldlM_cons, List.foldlM_nil, Builtin.max2]
      · cases h
    · rename_i x y ha
      have ha' : args = #[x, y] := by rw [← Array.toArray_toList (xs := args), ha]
      subst ha'
      split at h
      · rename_i p q' e1 e2
        simp at h; obtain ⟨rfl, rfl⟩ := h
        simp only [execOp, resolve, Sem.run_bind, Sem.run_pure, Result.andThen_ok, invoke, builtin, Builtin.min_, List.map_toArray, List.map_cons, List.map_nil, E e1, E e2, SV.den, AV.den, List.foldlM_cons, List.foldlM_nil, Builtin.min2]
      · cases h
    · cases h
  -- convert
  · rename_i s d x
    split at h
    · rename_i k n i1 sz1 b1 k1 z1 i2 sz2 b2 z2 e1 e2 e3
      simp at h; obtain ⟨rfl, rfl⟩ := h
      obtain ⟨t1, t2⟩ := hT.get e2
      obtain ⟨d', d1, d2⟩ := t2.desc
      obtain ⟨u1, u2⟩ := hT.get e3
      obtain ⟨d'', d3, d4⟩ := u2.desc
      simp only at t1 d1 d2 u1 d3 d4
      subst t1; subst u1
      obtain rfl := shapeK_it d2
      obtain rfl := shapeK_it d4
      simp only [execOp, E e1, SV.den, AV.den]
      refine run_value ?_
      simp only [convert, Sem.run_bind, run_underlying d1, run_underlying d3, Result.andThen_ok, Conv.intToInt, Sem.run_pure, wrap_in hq.1]
    · rename_i k n i1 sz1 b1 k1 z1 i2 sz2 b2 z2 e1 e2 e3
      simp at h; obtain ⟨rfl, rfl⟩ := h
      obtain ⟨t1, t2⟩ := hT.get e2
      obtain ⟨d', d1, d2⟩ := t2.desc
      obtain ⟨u1, u2⟩ := hT.get e3
      obtain ⟨d'', d3, d4⟩ := u2.desc
      simp only at t1 d1 d2 u1 d3 d4
      subst t1; subst u1
      obtain rfl := shapeK_it d2
      obtain rfl := shapeK_it d4
      simp only [execOp, E e1, SV.den, AV.den]
      refine run_value ?_
      simp only [convert, Sem.run_bind, run_underlying d1, run_underlying d3, Result.andThen_ok, Conv.intToInt, Sem.run_pure]
    · cases h
  -- index of a string
  · rename_i t x ix
    split at h
    · rename_i s k j id sz by_ z e1 e2 e3
      simp at h; obtain ⟨rfl, rfl⟩ := h
      obtain ⟨⟨q1, q2⟩, _⟩ := hq
      obtain ⟨t1, t2⟩ := hT.get e3
      obtain ⟨d, d1, d2⟩ := t2.desc
      simp only at t1 d1 d2; subst t1; obtain rfl := shapeK_str d2
      simp only [execOp, E e1, E e2, SV.den, AV.den]
      refine run_value ?_
      have hs : s[j.toNat]? = some (s.data.toList.getD j.toNat 0) := by
        have hlt : j.toNat < s.size := by omega
        rw [getElem?_pos s j.toNat hlt]
        have hl : j.toNat < s.data.toList.length := by simpa using hlt
        rw [List.getD_eq_getElem?_getD, List.getElem?_eq_getElem hl]
        rfl
      simp only [Instr.index, asIntOf, Sem.run_bind, Sem.run_pure, Result.andThen_ok, run_underlying d1, if_pos q1, hs]
      simp
    · cases h
  -- slice of a string
  · rename_i t x lo hi
    split at h
    · rename_i s id sz by_ z e1 e3
      obtain ⟨t1, t2⟩ := hT.get e3
      obtain ⟨d, d1, d2⟩ := t2.desc
      simp only at t1 d1 d2; subst t1; obtain rfl := shapeK_str d2
      have hx := E e1
      simp only [SV.den, AV.den] at hx
      have SB : ∀ (k : IntKind) (i : Int) (y : Nat) (code : BoundsCode), 0 ≤ i ∧ i ≤ (y : Int) → (Instr.sliceBound (.int k i) y code).run P w = .ok i.toNat w := by
        intro k i y code hi
        simp only [Instr.sliceBound, asIntOf, Sem.run_bind, Sem.run_pure, Result.andThen_ok, if_pos hi]
      split at h
      · rename_i l hh
        split at h
        · rename_i ka aa kb bb e4 e5
          simp at h; obtain ⟨rfl, rfl⟩ := h
          have hl := E e4
          have hr := E e5
          simp only [SV.den, AV.den] at hl hr
          obtain ⟨⟨q1, q2, q3⟩, _⟩ := hq
          have h1 := SB kb bb s.size .sliceAlen (by omega)
          have h2 := SB ka aa bb.toNat .sliceB (by omega)
          simp only [execOp, hx, Option.map_some, Option.map_none, hl, hr]
          refine run_value ?_
          simp only [Instr.sliceAt, Instr.slice, Instr.sliceBounds, Sem.run_bind, run_underlying d1, Result.andThen_ok, Option.isSome_none, Bool.false_eq_true, if_false, Sem.run_pure, h1, h2]
          rfl
        · cases h
      · rename_i l
        split at h
        · rename_i ka aa e4
          simp at h; obtain ⟨rfl, rfl⟩ := h
          have hl := E e4
          simp only [SV.den, AV.den] at hl
          obtain ⟨⟨q1, q2⟩, _⟩ := hq
          have h2 := SB ka aa s.size .sliceB (by omega)
          simp only [execOp, hx, Option.map_some, Option.map_none, hl]
          refine run_value ?_
          simp only [Instr.sliceAt, Instr.slice, Instr.sliceBounds, Sem.run_bind, run_underlying d1, Result.andThen_ok, Option.isSome_none, Bool.false_eq_true, if_false, Sem.run_pure, h2]
          rfl
        · cases h
      · rename_i hh
        split at h
        · rename_i kb bb e5
          simp at h; obtain ⟨rfl, rfl⟩ := h
          have hr := E e5
          simp only [SV.den, AV.den] at hr
          obtain ⟨⟨q1, q2⟩, _⟩ := hq
          have h1 := SB kb bb s.size .sliceAlen (by omega)
          simp only [execOp, hx, Option.map_some, Option.map_none, hr]
          refine run_value ?_
          simp only [Instr.sliceAt, Instr.slice, Instr.sliceBounds, Sem.run_bind, run_underlying d1, Result.andThen_ok, Option.isSome_none, Bool.false_eq_true, if_false, Sem.run_pure, h1]
          rfl
        · cases h
      · cases h
    · cases h
  · cases h
end
end Go.Proofs.Ytiilpopeognekaa
