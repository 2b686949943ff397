
/-
  The symbolic machine is right: one theorem for all operations that leave the world alone.
-/
import Derived.Test.YtiegllklalplnaaGreatW6
namespace Go.Proofs.YtiegllklalplnaaGreat
open Go Go.RowKit
set_option linter.unusedVariables false
set_option linter.unusedSimpArgs false

theorem elP_add {x : Value} {sz : Nat} {i : Int} {o d : Nat} {p : Addr} (h : elP x sz i o = .pointer (some p)) (hs : ∃ A n c, x = .slice A n c) : elP x sz i (o + d) = .pointer (some (p.add d)) := by
  obtain ⟨A, n, c, rfl⟩ := hs
  simp only [elP] at h ⊢
  injection h with h
  injection h with h
  rw [← h, p_add]
section
variable {P : Program} {w : World} {B : BE} {r : PH} {mu : Mu} {H : Nat → PH} {TT : List TI} {N : Nat} {fr : Fr} {gf : GF} {a : Act}
theorem run_sliceBounds {b : Bool} {len cap : Nat} {lo hi : Option Value} {l h : Int} (hlo : (lo = none ∧ l = 0) ∨ ∃ k, lo = some (.int k l)) (hhi : (hi = none ∧ h = len) ∨ ∃ k, hi = some (.int k h)) (h1 : 0 ≤ l ∧ l ≤ h) (h2 : h ≤ cap) : (Instr.sliceBounds b len cap lo hi none).run P w = .ok (l.toNat, h.toNat, cap) w := by
  have B1 : ∀ (k : IntKind) (code : BoundsCode), (Instr.sliceBound (.int k h) cap code).run P w = .ok h.toNat w := fun k code => run_bound (by omega) code
  have B2 : ∀ (k : IntKind) (code : BoundsCode), (Instr.sliceBound (.int k l) h.toNat code).run P w = .ok l.toNat w := fun k code => run_bound (by omega) code
  rcases hlo with ⟨rfl, rfl⟩ | ⟨k, rfl⟩ <;> rcases hhi with ⟨rfl, rfl⟩ | ⟨k', rfl⟩
  · simp only [Instr.sliceBounds, Sem.run_bind, Sem.run_pure, Result.andThen_ok]; rfl
  · simp only [Instr.sliceBounds, Sem.run_bind, Sem.run_pure, Result.andThen_ok, B1]; rfl
  · have := B2 k .sliceB
    rw [show ((len : Int)).toNat = len from rfl] at this
    simp only [Instr.sliceBounds, Sem.run_bind, Sem.run_pure, Result.andThen_ok, Option.isSome_none, Bool.false_eq_true, if_false, this]; rfl
  · simp only [Instr.sliceBounds, Sem.run_bind, Sem.run_pure, Result.andThen_ok, Option.isSome_none, Bool.false_eq_true, if_false, B1, B2]
theorem bnd_run {Z : Tg → PH} (f : Fits P B Z N fr gf a) {g : Gd} (hg : ∀ d w, (d, w) ∈ g → a.tmps.getD d undef = .bool w) {d i : Int} {o : Option Operand} (h : bndV g fr gf d o = some i) : (o.map a.eval = none ∧ i = d) ∨ ∃ k, o.map a.eval = some (.int k i) := by
  cases o with
  | none => simp [bndV] at h; exact .inl ⟨rfl, h.symm⟩
  | some x => obtain ⟨k, e⟩ := bndV_spec f hg h; exact .inr ⟨k, by rw [Option.map_some, e]⟩
theorem nilP_slice (m : Ms B r mu H) {k sz : Nat} {i : Int} {o : Nat} (h : isNilP mu (.pe k sz i o) = some false) : ∃ A n c, B k = .slice A n c := by
  simp only [isNilP] at h
  split at h
  · rename_i e; obtain ⟨A, c, e1, _⟩ := own_slice (m.sat k _ e); exact ⟨_, _, _, e1⟩
  · rename_i e; obtain ⟨A, c, e1, _⟩ := fit_slice (m.sat k _ e); exact ⟨_, _, _, e1⟩
  · rename_i e; obtain ⟨A, c, e1, _⟩ := m.sat k _ e; exact ⟨_, _, _, e1⟩
  · cases h
/-- every pure operation yields what the machine says, and leaves the world alone -/
theorem pst_ok (hT : TOk P TT) (f : Fits P B (Zf r H) N fr gf a) (m : Ms B r mu H) {g : Gd} (hg : ∀ d w, (d, w) ∈ g → a.tmps.getD d undef = .bool w) {o : Oper} {x : SV} {q : Ob}
    (h : pst TT fr gf mu g o.op = some (x, q)) (hq : Alls q) : ∃ v, (∀ w, Fw r mu H w → (execOp a.eval o).run P w = .ok (.value v) w) ∧ SV.rel P B (Zf r H) x v := by
  obtain ⟨dst, op, type, pos, after, guard⟩ := o
  simp only at h
  have E : ∀ {x : Operand} {y : SV}, ev g fr gf x = some y → SV.rel P B (Zf r H) y (a.eval x) := fun h => f.ev hg h
  unfold pst at h
  split at h
  -- move
  · split at h
    · rename_i e; simp at h; obtain ⟨rfl, rfl⟩ := h; exact ⟨_, fun w hw => by simp only [execOp, Sem.run_pure], E e⟩
    · cases h
  -- assign
  · split at h
    · rename_i e; simp at h; obtain ⟨rfl, rfl⟩ := h; exact ⟨_, fun w hw => by simp only [execOp, Sem.run_pure], E e⟩
    · cases h
  -- pick
  · rename_i c x y
    split at h
    · rename_i b ct e
      split at h
      · rename_i p q' e1 e2
        simp at h; obtain ⟨rfl, rfl⟩ := h
        have hc : a.eval (.tmp ct) = .bool b := E e
        have hct : a.tmps.getD ct undef = .bool b := hc
        refine ⟨_, fun w hw => ?_, rfl⟩
        simp only [execOp, hc, asBool, Sem.run_bind, Sem.run_pure, Result.andThen_ok]
        cases b with
        | true =>
          have : a.eval x = _ := f.ev (g := (ct, true) :: g) (fun d w e => by cases e with | head => exact hct | tail _ e => exact hg d w e) e1
          simp only [if_true, this, cond_true]
        | false =>
          have : a.eval y = _ := f.ev (g := (ct, false) :: g) (fun d w e => by cases e with | head => exact hct | tail _ e => exact hg d w e) e2
          simp only [Bool.false_eq_true, if_false, this, cond_false]
      · cases h
    · cases h
  -- nilCheck
  · rename_i x
    split at h
    · rename_i y e
      split at h
      · rename_i e1
        simp at h; obtain ⟨rfl, rfl⟩ := h
        obtain ⟨A, e2, e3⟩ := isNilP_spec m e1 (E e)
        cases A with
        | none => cases e3
        | some A => exact ⟨_, fun w hw => nilCheck_ok e2 _ _ _ _ _, by rw [← e2]; exact E e⟩
      · cases h
    · rename_i fn l e
      simp at h; obtain ⟨rfl, rfl⟩ := h
      obtain ⟨vs, e1, e2⟩ := (show _ from E e)
      refine ⟨_, fun w hw => ?_, vs, rfl, e2⟩
      simp only [execOp, e1, Sem.run_pure]
    · rename_i φ e
      simp at h; obtain ⟨rfl, rfl⟩ := h
      obtain ⟨fn, vs, e1, e2⟩ := (show _ from E e)
      refine ⟨_, fun w hw => ?_, fn, vs, rfl, e2⟩
      simp only [execOp, e1, Sem.run_pure]
    · cases h
  -- binOp
  · rename_i op t x y yt
    split at h
    · rename_i x' y' ti e1 e2 e3
      obtain ⟨t1, t2⟩ := hT.get e3
      obtain ⟨d, d1, d2⟩ := t2.desc
      split at h
      · rename_i v q' e4
        simp at h; obtain ⟨rfl, rfl⟩ := h
        rw [t1] at d1
        refine ⟨v, fun w hw => ?_, rfl⟩
        simp only [execOp]
        exact run_value (bop_ok m d1 d2 e4 hq x y (E e1) (E e2))
      · split at h
        · rename_i v e4
          simp at h; obtain ⟨rfl, rfl⟩ := h
          refine ⟨v, fun w hw => ?_, rfl⟩
          simp only [execOp]
          have := eqSt_ok (w := w) hT t2 e4 x y (E e1) (E e2)
          rw [t1] at this
          exact run_value this
        · cases h
    · rename_i x' y' ti hno e1 e2 e3
      obtain ⟨t1, t2⟩ := hT.get e3
      split at h
      · rename_i v e4
        simp at h; obtain ⟨rfl, rfl⟩ := h
        refine ⟨v, fun w hw => ?_, rfl⟩
        simp only [execOp]
        have := eqSt_ok (w := w) hT t2 e4 x y (E e1) (E e2)
        rw [t1] at this
        exact run_value this
      · cases h
    · cases h
  -- unOp
  · split at h
    · rename_i b e
      simp at h; obtain ⟨rfl, rfl⟩ := h
      have e := E e
      refine ⟨_, fun w hw => ?_, rfl⟩
      simp only [execOp, show _ = _ from e]
      exact run_value (by simp [Op.unary])
    · rename_i x' e
      simp at h; obtain ⟨rfl, rfl⟩ := h
      have e := E e
      refine ⟨_, fun w hw => ?_, rfl⟩
      simp only [execOp, show _ = _ from e]
      refine run_value ?_
      have := hq.1
      simp [Op.unary, Op.intArith, wrap_in this]
    · cases h
  -- fieldAddr
  · rename_i t x fi
    split at h
    · rename_i y id sz by_ fs z ef e1 e2
      split at h
      · rename_i d ft e3
        split at h
        · rename_i tf e4
          cases e5 : Nat.beq tf.sz 0 with
          | true => rw [e5] at h; cases h
          | false =>
            rw [e5] at h
            simp only [cond_false] at h
            obtain ⟨t1, t2⟩ := hT.get e2
            obtain ⟨fa, fa1, fa2⟩ := TI.ok.stc t2
            simp only at t1
            subst t1
            obtain ⟨fl, f1, f2, f3⟩ := field_get fa2 e3
            obtain ⟨g1, g2⟩ := hT.get e4
            obtain ⟨inf, g3, g4, _⟩ := g2.info
            have hn : inf.size ≠ 0 := by
              rw [g4]; intro h0; rw [h0] at e5; cases e5
            have R := fun (w : World) (b : Addr) => run_fieldAt (P := P) (w := w) fa1 f1 (by rw [f3, ← g1]; exact g3) hn b
            have hx := E e1
            split at h
            · rename_i k o e6
              simp at h; obtain ⟨rfl, rfl⟩ := h
              obtain ⟨A, e7, e8⟩ := isNilP_spec m e6 hx
              cases A with
              | none => cases e8
              | some A =>
                refine ⟨.pointer (some (A.add d)), fun w hw => ?_, ?_, rfl⟩
                · simp only [execOp, e7]; exact run_value (by rw [R, f2])
                · have : a.eval x = addP (B k) o := hx.1
                  rw [← addP_add, ← this, e7]; rfl
            · rename_i k sz' i o e6
              simp at h; obtain ⟨rfl, rfl⟩ := h
              obtain ⟨A, e7, e8⟩ := isNilP_spec m e6 hx
              cases A with
              | none => cases e8
              | some A =>
                refine ⟨.pointer (some (A.add d)), fun w hw => ?_, ?_, rfl⟩
                · simp only [execOp, e7]; exact run_value (by rw [R, f2])
                · have : a.eval x = elP (B k) sz' i o := hx.1
                  rw [this] at e7
                  exact (elP_add e7 (nilP_slice m e6)).symm
            · rename_i q' l o e6
              simp at h; obtain ⟨rfl, rfl⟩ := h
              obtain ⟨b, x', vs, e7, e8, e9⟩ := (show _ from hx)
              refine ⟨.pointer (some ⟨b, x' + o + d, none⟩), fun w hw => ?_, b, x', vs, ?_, e8, e9⟩
              · simp only [execOp, e7]; exact run_value (by rw [R, f2, add_mk])
              · rw [Nat.add_assoc]
            · cases h
        · cases h
      · cases h
    · cases h
  -- field
  · rename_i t x fi
    split at h
    · rename_i y id sz by_ fs z ef e1 e2
      split at h
      · rename_i l d ft e3 e4
        split at h
        · rename_i tf e5
          split at h
          · rename_i l' e6
            split at h
            · rename_i z' e7
              simp at h; obtain ⟨rfl, rfl⟩ := h
              obtain ⟨t1, t2⟩ := hT.get e2
              obtain ⟨fa, fa1, fa2⟩ := TI.ok.stc t2
              simp only at t1
              subst t1
              obtain ⟨fl, f1, f2, f3⟩ := field_get fa2 e4
              obtain ⟨g1, g2⟩ := hT.get e5
              obtain ⟨cs, c1, c2⟩ := agL_rel e3 (E e1)
              obtain ⟨ms, k1, k2⟩ := cut_rels c2 e6
              have fin : ∀ {v : Value}, ((tf.isAg = true ∧ v = .agg ms.toArray) ∨ (tf.isAg = false ∧ ms = [v])) → ∀ w, (Instr.field id (.agg cs) fi).run P w = .ok v w := fun hv w => by
                simp only [Instr.field, Sem.run_bind, run_underlying fa1, Result.andThen_ok, f1, asAgg, Sem.run_pure, f2, f3, ← g1]
                exact run_part g2 cs d ms k1 _ hv
              rcases svOf_spec e7 with ⟨j1, rfl⟩ | ⟨j1, y', rfl, rfl⟩
              · refine ⟨_, fun w hw => ?_, ms, rfl, k2⟩
                simp only [execOp, c1]
                exact run_value (fin (.inl ⟨j1, rfl⟩) w)
              · obtain ⟨v, t, rfl, k3, k4⟩ := k2
                have k4 : t = [] := k4
                subst k4
                refine ⟨v, fun w hw => ?_, k3⟩
                simp only [execOp, c1]
                exact run_value (fin (.inr ⟨j1, rfl⟩) w)
            · cases h
          · cases h
        · cases h
      · cases h
    · cases h
  -- indexAddr
  · rename_i t x ix
    split at h
    · rename_i y k' j id sz by_ e z ef e1 e2 e3
      split at h
      · rename_i te e4
        obtain ⟨t1, t2⟩ := hT.get e3
        obtain ⟨d, d1, d2⟩ := t2.desc
        simp only at t1 d1 d2
        subst t1
        obtain rfl := shapeK_slc d2
        obtain ⟨g1, g2⟩ := hT.get e4
        obtain ⟨inf, g3, g4, _⟩ := g2.info
        rw [g1] at g3
        have hx := E e1
        have hi : a.eval ix = .int k' j := E e2
        have fin : ∀ {b o n c : Nat}, a.eval x = .slice (some ⟨b, o, none⟩) n c → 0 ≤ j ∧ j < n → ∀ w, (execOp a.eval ⟨dst, .indexAddr id x ix, type, pos, after, guard⟩).run P w = .ok (.value (.pointer (some ⟨b, o + j.toNat * te.sz, none⟩))) w := fun {b o n c} h1 h2 w => by
          simp only [execOp, h1, hi]
          refine run_value ?_
          have := run_indexAt (P := P) (w := w) d1 g3 b o n c k' j h2
          rw [g4] at this
          exact this
        split at h
        · rename_i q' sz' n f'
          simp at h; obtain ⟨rfl, rfl⟩ := h
          obtain ⟨rfl, q3, _⟩ := hq
          simp only [OB.p] at q3
          obtain ⟨A, c, k1, k2, k3, k4⟩ := (show D.rd _ _ _ from hx)
          rcases k4 with k4 | ⟨b, o, rfl, k5⟩
          · omega
          · obtain ⟨row, r1, r2, r3⟩ := k5 j.toNat (by omega)
            exact ⟨_, fun w _ => fin k1 q3 w, b, o + j.toNat * te.sz, row, rfl, r1, fun i hi => r3 i (by omega)⟩
        · rename_i k
          obtain ⟨hB, _⟩ := (show a.eval x = B k ∧ _ from hx)
          split at h
          · rename_i sz' n f' e5
            simp at h; obtain ⟨rfl, rfl⟩ := h
            obtain ⟨q3, _⟩ := hq
            simp only [OB.p] at q3
            obtain ⟨A, c, k1, k2, k3, k4⟩ := (show D.own _ _ _ from m.sat k _ e5)
            rcases k4 with k4 | ⟨b, o, row, G, rfl, k5⟩
            · omega
            · exact ⟨_, fun w _ => fin (hB.trans k1) q3 w, by rw [k1, elP_slice]; rfl, rfl⟩
          · rename_i sz' n f' i0 k20 e5
            simp at h; obtain ⟨rfl, rfl⟩ := h
            obtain ⟨q3, _⟩ := hq
            simp only [OB.p] at q3
            obtain ⟨A, c, k1, k2, k3, k4, _, b, o, row, G, rfl, _⟩ := m.sat k _ e5
            exact ⟨_, fun w _ => fin (hB.trans k1) q3 w, by rw [k1, elP_slice]; rfl, rfl⟩
          · rename_i sz' n f' e5
            simp at h; obtain ⟨rfl, rfl⟩ := h
            obtain ⟨q3, _⟩ := hq
            simp only [OB.p] at q3
            obtain ⟨A, c, k1, k2, k3, k4⟩ := (show D.rd _ _ _ from m.sat k _ e5)
            rcases k4 with k4 | ⟨b, o, rfl, k5⟩
            · omega
            · exact ⟨_, fun w _ => fin (hB.trans k1) q3 w, by rw [k1, elP_slice]; rfl, rfl⟩
          · cases h
        · rename_i k sz2 lo hi
          obtain ⟨hB, _⟩ := (show a.eval x = sbV (B k) sz2 _ _ ∧ _ from hx)
          split at h
          · rename_i sz' n f' e5
            simp at h; obtain ⟨rfl, rfl⟩ := h
            obtain ⟨q0, q3, q4, _⟩ := hq
            simp only [OB.p] at q0 q3 q4
            subst q0
            obtain ⟨A, c, k1, k2, k3, k4⟩ := (show D.own _ _ _ from m.sat k _ e5)
            rcases k4 with k4 | ⟨b, o, row, G, rfl, k5⟩
            · omega
            · rw [k1, sbV, if_neg (by omega)] at hB
              simp only [Option.map_some, add_mk] at hB
              refine ⟨_, fun w _ => fin hB (by omega) w, ?_, rfl⟩
              rw [k1, elP_slice]
              have : o + lo.toNat * te.sz + j.toNat * te.sz = o + (lo + j).toNat * te.sz + 0 := by
                rw [Nat.add_zero, Nat.add_assoc, ← Nat.add_mul]; congr 2; omega
              rw [this]
          · cases h
        · cases h
      · cases h
    · cases h
  -- load
  · split at h
    · rename_i t x y ti e1 e2
      obtain ⟨t1, t2⟩ := hT.get e2
      subst t1
      obtain ⟨p, v, p1, p2, p3⟩ := ld_ok m t2 h hq (E e1)
      refine ⟨v, fun w hw => ?_, p3⟩
      simp only [execOp, p1]
      refine run_value ?_
      simp only [Instr.loadAt, Instr.sureAddr, Sem.run_bind, Sem.run_pure, Result.andThen_ok, p2 w hw]
    · cases h
  -- extract
  · rename_i x ix
    split at h
    · rename_i l e
      split at h
      · rename_i v e2
        simp at h; obtain ⟨rfl, rfl⟩ := h
        obtain ⟨vs, e3, e4⟩ := (show ∃ vs, _ from E e)
        rw [nth_eq] at e2
        obtain ⟨u, u1, u2⟩ := SV.rels_get e4 e2
        refine ⟨u, fun w hw => ?_, u2⟩
        simp only [execOp, e3]
        refine run_value ?_
        have : vs.toArray[ix]? = some u := by simpa using u1
        simp only [Instr.extract, this, Sem.run_pure]
      · cases h
    · cases h
  -- build
  · rename_i t parts
    split at h
    · rename_i ps id sz by_ fs z ef e1 e2
      cases hall : allF TT fs with
      | false => rw [hall] at h; cases h
      | true =>
        rw [hall] at h
        simp only [cond_true] at h
        rw [vcells_eq, Option.bind_some] at h
        split at h
        · rename_i l e3
          simp at h; obtain ⟨rfl, rfl⟩ := h
          obtain ⟨t1, t2⟩ := hT.get e2
          simp only at t1
          subst t1
          obtain ⟨fa, fa1, fa2⟩ := TI.ok.stc t2
          obtain ⟨inf, i1, _, _, i4⟩ := t2.info
          obtain ⟨p1, p2⟩ := evParts_spec f hg e1
          obtain ⟨ms, b1, b2⟩ := run_build (B := B) fa1 fa2 hT hall i1 i4 e3 (parts.map fun p => (p.1, a.eval p.2)) (by rw [Array.toList_map]; exact p1) (by rw [Array.toList_map]; exact p2)
          refine ⟨_, fun w hw => ?_, ms, rfl, b2⟩
          simp only [execOp]
          exact run_value (b1 w)
        · cases h
    · cases h
  -- makeFunc
  · rename_i fn first caps
    split at h
    · rename_i l e1 e2
      split at h
      · rename_i l' e3
        simp at h; obtain ⟨rfl, rfl⟩ := h
        have h1 : first = #[] := by simpa using e1
        have h2 := vsA_spec e3 (f.evs hg e2)
        refine ⟨_, fun w hw => ?_, _, rfl, h2⟩
        simp only [execOp, Instr.makeFunc]
        refine run_value ?_
        simp only [Sem.run_pure, h1, Array.map_empty]
        have : caps.map a.eval = (caps.toList.map a.eval).toArray := Array.ext' (by rw [Array.toList_map])
        rw [this]
      · cases h
    · cases h
  -- call of a builtin
  · rename_i c
    obtain ⟨callee, args, ats⟩ := c
    simp only at h
    split at h
    · rename_i x ha
      have ha' : args = #[x] := by rw [← Array.toArray_toList (xs := args), ha]
      subst ha'
      have fin : ∀ {A : Option Addr} {n c : Nat} {t e : TypeId}, a.eval x = .slice A n c → ats[0]? = some t → P.underlying t = some (.slice e) → ∀ w, (execOp a.eval ⟨dst, .call ⟨.builtin .len, #[x], ats⟩, type, pos, after, guard⟩).run P w = .ok (.value (.int .i64 n)) w := fun h1 h2 h3 w => by
        simp only [execOp, resolve, Sem.run_bind, Sem.run_pure, Result.andThen_ok, invoke, builtin, Builtin.len_, h2, List.map_toArray, List.map_cons, List.map_nil, h1, List.getElem?_toArray, List.getElem?_cons_zero, run_underlying h3]
        rfl
      have tyS : ∀ {id sz by_ e : Nat} {z : Value} {ef : Bool}, ((ats[0]?).bind (tlk · TT)) = some ⟨id, sz, by_, .slc e, z, ef⟩ → ∃ t, ats[0]? = some t ∧ P.underlying t = some (.slice e) := fun e2 => by
        obtain ⟨t, e3, e4⟩ := Option.bind_eq_some_iff.1 e2
        obtain ⟨t1, t2⟩ := hT.get e4
        obtain ⟨d, d1, d2⟩ := t2.desc
        simp only at t1 d1 d2; subst t1; obtain rfl := shapeK_slc d2
        exact ⟨_, e3, d1⟩
      split at h
      · rename_i q' sz' n f' id sz by_ e z ef e1 e2
        simp at h; obtain ⟨rfl, rfl⟩ := h
        obtain ⟨t, e3, e4⟩ := tyS e2
        obtain ⟨A, c, k1, _⟩ := (show D.rd _ _ _ from E e1)
        exact ⟨_, fun w _ => fin k1 e3 e4 w, rfl⟩
      · rename_i k id sz by_ e z ef e1 e2
        obtain ⟨t, e3, e4⟩ := tyS e2
        obtain ⟨hB, _⟩ := (show a.eval x = B k ∧ _ from E e1)
        split at h
        · rename_i sz' n f' e5
          simp at h; obtain ⟨rfl, rfl⟩ := h
          obtain ⟨A, c, k1, _⟩ := (show D.own _ _ _ from m.sat k _ e5)
          exact ⟨_, fun w _ => fin (hB.trans k1) e3 e4 w, rfl⟩
        · rename_i sz' n f' e5
          simp at h; obtain ⟨rfl, rfl⟩ := h
          obtain ⟨A, c, k1, _⟩ := (show D.rd _ _ _ from m.sat k _ e5)
          exact ⟨_, fun w _ => fin (hB.trans k1) e3 e4 w, rfl⟩
        · rename_i sz' n f' i0 k20 e5
          simp at h; obtain ⟨rfl, rfl⟩ := h
          obtain ⟨A, c, k1, _⟩ := m.sat k _ e5
          exact ⟨_, fun w _ => fin (hB.trans k1) e3 e4 w, rfl⟩
        · cases h
      · rename_i k sz2 lo hi id sz by_ e z ef e1 e2
        obtain ⟨t, e3, e4⟩ := tyS e2
        obtain ⟨hB, _⟩ := (show a.eval x = sbV (B k) sz2 _ _ ∧ _ from E e1)
        split at h
        · rename_i sz' n f' e5
          simp at h; obtain ⟨rfl, rfl⟩ := h
          obtain ⟨A, c, k1, _⟩ := own_slice (m.sat k _ e5)
          rw [k1] at hB
          exact ⟨_, fun w _ => fin hB e3 e4 w, by show Value.int _ _ = Value.int _ _; congr 1; omega⟩
        · cases h
      · rename_i k2 n2 id sz by_ e z ef e1 e2
        simp at h; obtain ⟨rfl, rfl⟩ := h
        obtain ⟨t, e3, e4⟩ := tyS e2
        obtain ⟨_, _, A, c, k1⟩ := (show a.eval x = B _ ∧ _ ∧ _ from E e1)
        exact ⟨_, fun w _ => fin k1 e3 e4 w, rfl⟩
      · rename_i A n c id sz by_ e z ef e1 e2
        simp at h; obtain ⟨rfl, rfl⟩ := h
        obtain ⟨t, e3, e4⟩ := tyS e2
        exact ⟨_, fun w _ => fin (E e1) e3 e4 w, rfl⟩
      · rename_i s id sz by_ z ef e1 e2
        simp at h; obtain ⟨rfl, rfl⟩ := h
        obtain ⟨t, e3, e4⟩ := Option.bind_eq_some_iff.1 e2
        obtain ⟨t1, t2⟩ := hT.get e4
        obtain ⟨d, d1, d2⟩ := t2.desc
        simp only at t1 d1 d2; subst t1; obtain rfl := shapeK_str d2
        have e1 : a.eval x = _ := E e1
        refine ⟨_, fun w hw => ?_, rfl⟩
        simp only [execOp, resolve, Sem.run_bind, Sem.run_pure, Result.andThen_ok, invoke, builtin, Builtin.len_, e3, List.map_toArray, List.map_cons, List.map_nil, e1, List.getElem?_toArray, List.getElem?_cons_zero, run_underlying d1]
        rfl
      · cases h
    · rename_i x y ha
      have ha' : args = #[x, y] := by rw [← Array.toArray_toList (xs := args), ha]
      subst ha'
      split at h
      · rename_i p q' e1 e2
        simp at h; obtain ⟨rfl, rfl⟩ := h
        have e1 : a.eval x = _ := E e1
        have e2 : a.eval y = _ := E e2
        refine ⟨_, fun w hw => ?_, rfl⟩
        simp only [execOp, resolve, Sem.run_bind, Sem.run_pure, Result.andThen_ok, invoke, builtin, Builtin.max_, List.map_toArray, List.map_cons, List.map_nil, e1, e2, List.foldlM_cons, List.foldlM_nil, Builtin.max2]
      · cases h
    · rename_i x y ha
      have ha' : args = #[x, y] := by rw [← Array.toArray_toList (xs := args), ha]
      subst ha'
      split at h
      · rename_i p q' e1 e2
        simp at h; obtain ⟨rfl, rfl⟩ := h
        have e1 : a.eval x = _ := E e1
        have e2 : a.eval y = _ := E e2
        refine ⟨_, fun w hw => ?_, rfl⟩
        simp only [execOp, resolve, Sem.run_bind, Sem.run_pure, Result.andThen_ok, invoke, builtin, Builtin.min_, List.map_toArray, List.map_cons, List.map_nil, e1, e2, List.foldlM_cons, List.foldlM_nil, Builtin.min2]
      · cases h
    · cases h
  -- convert
  · rename_i s d x
    split at h
    · rename_i k n i1 sz1 b1 k1 z1 f1 i2 sz2 b2 z2 f2 e1 e2 e3
      simp at h; obtain ⟨rfl, rfl⟩ := h
      obtain ⟨t1, t2⟩ := hT.get e2
      obtain ⟨d', d1, d2⟩ := t2.desc
      obtain ⟨u1, u2⟩ := hT.get e3
      obtain ⟨d'', d3, d4⟩ := u2.desc
      simp only at t1 d1 d2 u1 d3 d4
      subst t1; subst u1
      obtain rfl := shapeK_it d2
      obtain rfl := shapeK_it d4
      have e1 : a.eval x = _ := E e1
      refine ⟨_, fun w hw => ?_, rfl⟩
      simp only [execOp, e1]
      refine run_value ?_
      simp only [convert, Sem.run_bind, run_underlying d1, run_underlying d3, Result.andThen_ok, Conv.intToInt, Sem.run_pure, wrap_in hq.1]
    · rename_i k n i1 sz1 b1 k1 z1 f1 i2 sz2 b2 z2 f2 e1 e2 e3
      simp at h; obtain ⟨rfl, rfl⟩ := h
      obtain ⟨t1, t2⟩ := hT.get e2
      obtain ⟨d', d1, d2⟩ := t2.desc
      obtain ⟨u1, u2⟩ := hT.get e3
      obtain ⟨d'', d3, d4⟩ := u2.desc
      simp only at t1 d1 d2 u1 d3 d4
      subst t1; subst u1
      obtain rfl := shapeK_it d2
      obtain rfl := shapeK_it d4
      have e1 : a.eval x = _ := E e1
      refine ⟨_, fun w hw => ?_, rfl⟩
      simp only [execOp, e1]
      refine run_value ?_
      simp only [convert, Sem.run_bind, run_underlying d1, run_underlying d3, Result.andThen_ok, Conv.intToInt, Sem.run_pure]
    · rename_i k n i1 sz1 b1 k1 z1 f1 i2 sz2 b2 z2 f2 e1 e2 e3
      simp at h; obtain ⟨rfl, rfl⟩ := h
      obtain ⟨t1, t2⟩ := hT.get e2
      obtain ⟨d', d1, d2⟩ := t2.desc
      obtain ⟨u1, u2⟩ := hT.get e3
      obtain ⟨d'', d3, d4⟩ := u2.desc
      simp only at t1 d1 d2 u1 d3 d4
      subst t1; subst u1
      obtain rfl := shapeK_it d2
      obtain rfl := shapeK_it d4
      have e1 : a.eval x = _ := E e1
      refine ⟨_, fun w hw => ?_, rfl⟩
      simp only [execOp, e1]
      refine run_value ?_
      have hw64 : IntKind.u64.wrap n = n := by
        obtain ⟨⟨q1, q2⟩, _⟩ := hq
        show n.emod (2 ^ 64) = n
        exact Int.emod_eq_of_lt q1 (by have : (2:Int)^64 = 18446744073709551616 := by decide
                                       omega)
      simp only [convert, Sem.run_bind, run_underlying d1, run_underlying d3, Result.andThen_ok, Conv.intToInt, Sem.run_pure, hw64]
    · cases h
  -- index of a string
  · rename_i t x ix
    split at h
    · rename_i s k j id sz by_ z ef e1 e2 e3
      simp at h; obtain ⟨rfl, rfl⟩ := h
      obtain ⟨⟨q1, q2⟩, _⟩ := hq
      obtain ⟨t1, t2⟩ := hT.get e3
      obtain ⟨d, d1, d2⟩ := t2.desc
      simp only at t1 d1 d2; subst t1; obtain rfl := shapeK_str d2
      have e1 : a.eval x = _ := E e1
      have e2 : a.eval ix = _ := E e2
      refine ⟨_, fun w hw => ?_, rfl⟩
      simp only [execOp, e1, e2]
      refine run_value ?_
      have hs : s[j.toNat]? = some (s.data.toList.getD j.toNat 0) := by
        have hlt : j.toNat < s.size := by omega
        rw [getElem?_pos s j.toNat hlt]
        have hl : j.toNat < s.data.toList.length := by simpa using hlt
        rw [List.getD_eq_getElem?_getD, List.getElem?_eq_getElem hl]
        rfl
      simp only [Instr.index, asIntOf, Sem.run_bind, Sem.run_pure, Result.andThen_ok, run_underlying d1, if_pos q1, hs]
      simp
    · cases h
  -- slices
  · rename_i t x lo hi
    split at h
    · rename_i s id sz by_ z ef e1 e3
      obtain ⟨t1, t2⟩ := hT.get e3
      obtain ⟨d, d1, d2⟩ := t2.desc
      simp only at t1 d1 d2; subst t1; obtain rfl := shapeK_str d2
      have hx : a.eval x = _ := E e1
      split at h
      · rename_i l hh e4 e5
        simp at h; obtain ⟨rfl, rfl⟩ := h
        obtain ⟨⟨q1, q2, q3⟩, _⟩ := hq
        refine ⟨_, fun w hw => ?_, rfl⟩
        have := run_sliceBounds (P := P) (w := w) (b := false) (len := s.size) (cap := s.size) (bnd_run f hg e4) (bnd_run f hg e5) ⟨q1, q2⟩ q3
        simp only [execOp, hx, Option.map_none]
        refine run_value ?_
        simp only [Instr.sliceAt, Instr.slice, Sem.run_bind, run_underlying d1, Result.andThen_ok, Option.isSome_none, Bool.false_eq_true, if_false, Sem.run_pure, this]
      · cases h
    · rename_i y id sz by_ e z ef e1 e3
      obtain ⟨t1, t2⟩ := hT.get e3
      obtain ⟨d, d1, d2⟩ := t2.desc
      simp only at t1 d1 d2; subst t1; obtain rfl := shapeK_slc d2
      split at h
      · rename_i k' sz' n te e4 e5
        obtain ⟨u1, u2⟩ := hT.get e5
        obtain ⟨i, i1, i2, _⟩ := u2.info
        rw [u1] at i1
        have own : ∃ f, y = .g k' ∧ mlk k' mu = some (.arr sz' n f) := by
          unfold ownA at e4
          split at e4
          · rename_i k2
            split at e4
            · rename_i sz2 n2 f2 e6
              simp at e4; obtain ⟨rfl, rfl, rfl⟩ := e4
              exact ⟨_, rfl, e6⟩
            · cases e4
          · cases e4
        obtain ⟨f', rfl, e6⟩ := own
        obtain ⟨A, c, hx, c1, c2, c3⟩ := (show D.own _ _ _ from m.sat k' _ e6)
        obtain ⟨hB, _⟩ := (show a.eval x = B k' ∧ _ from E e1)
        split at h
        · rename_i l hh e7 e8
          simp at h; obtain ⟨rfl, rfl⟩ := h
          obtain ⟨rfl, ⟨q1, q2, q3⟩, _⟩ := hq
          refine ⟨_, fun w _ => ?_, rfl, by rw [hx]; rfl⟩
          have := run_sliceBounds (P := P) (w := w) (b := true) (len := n) (cap := c) (bnd_run f hg e7) (bnd_run f hg e8) ⟨q1, q2⟩ (by omega)
          simp only [execOp, hB, hx, Option.map_none]
          refine run_value ?_
          simp only [Instr.sliceAt, Instr.slice, Sem.run_bind, run_underlying d1, Result.andThen_ok, Sem.run_pure, this, run_size i1, i2]
          have e : (hh - l).toNat = hh.toNat - l.toNat := by omega
          rw [e]; rfl
        · cases h
      · rename_i te e4 e5
        split at h
        · rename_i q' sz' n f' ob e6
          have fin : ∀ {A : Option Addr} {c : Nat} {l hh : Int}, a.eval x = .slice A n c → n ≤ c → bndV g fr gf 0 lo = some l → bndV g fr gf n hi = some hh → 0 ≤ l ∧ l ≤ hh ∧ hh ≤ n → ∀ w, (execOp a.eval ⟨dst, .slice id x lo hi none, type, pos, after, guard⟩).run P w = .ok (.value (.slice (if c = l.toNat then A else A.map (·.add (l.toNat * te.sz))) (hh.toNat - l.toNat) (c - l.toNat))) w := fun {A c l hh} hx c1 h1 h2 h3 w => by
            obtain ⟨u1, u2⟩ := hT.get e5
            obtain ⟨i, i1, i2, _⟩ := u2.info
            rw [u1] at i1
            have := run_sliceBounds (P := P) (w := w) (b := true) (len := n) (bnd_run f hg h1) (bnd_run f hg h2) ⟨h3.1, h3.2.1⟩ (Int.le_trans h3.2.2 (Int.ofNat_le.2 c1))
            simp only [execOp, hx, Option.map_none]
            refine run_value ?_
            simp only [Instr.sliceAt, Instr.slice, Sem.run_bind, run_underlying d1, Result.andThen_ok, Sem.run_pure, this, run_size i1, i2]
          split at h
          · split at h
            · rename_i hh e7
              simp at h; obtain ⟨rfl, rfl⟩ := h
              obtain ⟨rfl, q1, q2⟩ := hq
              simp only [OB.p] at q1
              have hr := slR_spec m e6 q2 (E e1)
              obtain ⟨A, c, hx, c1, c2, c3⟩ := (show D.rd _ _ _ from hr)
              rw [hx] at hr
              refine ⟨_, fun w _ => fin hx c1 rfl e7 (by omega) w, ?_⟩
              have := rd_cut (l := 0) (x := hh.toNat) hr (by omega) (by omega)
              simp only [Nat.sub_zero, Nat.zero_add] at this
              exact this
            · cases h
          · rename_i lo'
            split at h
            · rename_i l hh e7 e8
              simp at h; obtain ⟨rfl, rfl⟩ := h
              obtain ⟨rfl, q1, q2⟩ := hq
              simp only [OB.p] at q1
              have hr := slR_spec m e6 q2 (E e1)
              obtain ⟨A, c, hx, c1, c2, c3⟩ := (show D.rd _ _ _ from hr)
              rw [hx] at hr
              refine ⟨_, fun w _ => fin hx c1 e7 e8 q1 w, ?_⟩
              have := rd_cut (l := l.toNat) (x := hh.toNat) hr (by omega) (by omega)
              have e : (hh - l).toNat = hh.toNat - l.toNat := by omega
              show D.rd _ (.sl _ (hh - l).toNat _) _
              rw [e]
              exact this
            · cases h
        · cases h
      · cases h
    · cases h
  · cases h
end
end Go.Proofs.YtiegllklalplnaaGreat
