
/-
  The operations that change memory are right.
-/
import Derived.Test.YtiegllklalplnaaGreatW9
namespace Go.Proofs.YtiegllklalplnaaGreat
open Go Go.RowKit
set_option linter.unusedVariables false
set_option linter.unusedSimpArgs false

theorem run_value2 {P : Program} {w w' : World} {s : Sem Value} {x : Value} (h : s.run P w = .ok x w') : (do pure (.value (← s)) : Sem Next).run P w = .ok (.value x) w' := by
  simp only [Sem.run_bind, h, Result.andThen_ok, Sem.run_pure]
theorem okC_one {B : BE} {Z : Tg → PH} {x : V} {y : Value} (h : x.okC = true) (e : x.rel B Z y) : oneV y = true := by
  cases x with
  | v x => have e : y = x := e; rw [e]; exact h
  | s q sz n f => obtain ⟨A, c, rfl, _⟩ := (show D.rd _ _ _ from e); rfl
  | g k => exact e.2
  | p k o => exact e.2
  | pe k sz i o => exact e.2
  | sb k sz lo hi => exact e.2
  | gl k n => cases h
  | rp q l o => obtain ⟨b, x, vs, rfl, _⟩ := (show _ from e); rfl
  | any => cases h
theorem okC_own {B : BE} {r : PH} {H : Nat → PH} {h : PH} {x : V} {y : Value} (c : x.okC = true) (e : x.rel B (Zf r H) y) : x.own B r h y := by
  cases x with
  | s q sz n f =>
    cases q with
    | r => exact .inr ⟨rfl, e⟩
    | _ => cases c
  | rp q l o =>
    cases q with
    | r => exact ⟨rfl, e⟩
    | _ => cases c
  | any => cases c
  | _ => exact e
theorem allC_cons {x : V} {r : List V} (h : allC (x :: r) = true) : x.okC = true ∧ allC r = true := by
  simp only [allC] at h
  cases e : x.okC with
  | false => rw [e] at h; cases h
  | true => rw [e] at h; exact ⟨rfl, h⟩
theorem allC_owns {B : BE} {r : PH} {H : Nat → PH} : ∀ {l : List V} {vs : List Value} {h : PH}, allC l = true → V.rels B (Zf r H) l vs → V.owns B r h l vs
  | [], _, _, _, e => e
  | x :: l, _, h, c, e => by
    obtain ⟨a, t, e1, e2, e3⟩ := e
    obtain ⟨c1, c2⟩ := allC_cons c
    exact ⟨a, t, PH.emp, h, e1, PH.emp_le _, PH.le_refl _, PH.emp_dj _, okC_own c1 e2, allC_owns c2 e3⟩
theorem allC_one {B : BE} {Z : Tg → PH} : ∀ {l : List V} {vs : List Value}, allC l = true → V.rels B Z l vs → ∀ v ∈ vs, oneV v = true
  | [], vs, _, e, v, hv => by have e : vs = [] := e; rw [e] at hv; cases hv
  | x :: l, _, c, e, v, hv => by
    obtain ⟨a, t, rfl, e2, e3⟩ := e
    obtain ⟨c1, c2⟩ := allC_cons c
    cases hv with
    | head => exact okC_one c1 e2
    | tail _ hv => exact allC_one c2 e3 v hv
theorem owns_paste {B : BE} {r : PH} {H : Nat → PH} : ∀ {l : List V} {vs : List Value} {h : PH} {o : Nat} {cs : List V} {us : List Value} {l' : List V}, V.owns B r h l vs → allC cs = true → V.rels B (Zf r H) cs us → paste l o cs = some l' → ∃ vs', paste vs o us = some vs' ∧ V.owns B r h l' vs'
  | l, vs, h, 0, [], us, l', e, _, k, p => by
    have k : us = [] := k
    subst k
    have : l' = l := by cases l <;> simpa [paste] using p.symm
    subst this
    exact ⟨vs, by cases vs <;> rfl, e⟩
  | [], _, _, 0, y :: ys, _, _, _, _, _, p => by simp [paste] at p
  | [], _, _, o + 1, ys, _, _, _, _, _, p => by simp [paste] at p
  | x :: l, _, h, 0, y :: ys, _, l', e, c, k, p => by
    obtain ⟨a, t, h1, h2, rfl, e2, e3, e4, e5, e6⟩ := e
    obtain ⟨u, us, rfl, k2, k3⟩ := k
    obtain ⟨c1, c2⟩ := allC_cons c
    simp only [paste] at p ⊢
    cases q : paste l 0 ys with
    | none => rw [q] at p; cases p
    | some m =>
      rw [q] at p; injection p with p; subst p
      obtain ⟨ms, g1, g2⟩ := owns_paste e6 c2 k3 q
      rw [g1]
      exact ⟨_, rfl, u, ms, PH.emp, h2, rfl, PH.emp_le _, e3, PH.emp_dj _, okC_own c1 k2, g2⟩
  | x :: l, _, h, o + 1, ys, _, l', e, c, k, p => by
    obtain ⟨a, t, h1, h2, rfl, e2, e3, e4, e5, e6⟩ := e
    simp only [paste] at p ⊢
    cases q : paste l o ys with
    | none => rw [q] at p; cases p
    | some m =>
      rw [q] at p; injection p with p; subst p
      obtain ⟨ms, g1, g2⟩ := owns_paste e6 c k q
      rw [g1]
      exact ⟨_, rfl, a, ms, h1, h2, rfl, e2, e3, e4, e5, g2⟩
theorem flatC_spec {B : BE} {Z : Tg → PH} : ∀ {l : List V} {ds : List D}, flatC l = some ds → ∀ {vs : List Value}, V.rels B Z l vs → ds = vs.map D.v ∧ ∀ v ∈ vs, oneV v = true
  | [], ds, h, vs, e => by
    have e : vs = [] := e
    subst e
    simp [flatC] at h; subst h
    exact ⟨rfl, fun v hv => by cases hv⟩
  | .v x :: r, ds, h, vs, e => by
    obtain ⟨a, t, rfl, e2, e3⟩ := e
    have e2 : a = x := e2
    subst e2
    simp only [flatC] at h
    cases c : flatC r with
    | none => rw [c] at h; cases h
    | some l =>
      rw [c] at h
      simp only at h
      cases c2 : oneV a with
      | false => rw [c2] at h; cases h
      | true =>
        rw [c2] at h; simp at h; subst h
        obtain ⟨g1, g2⟩ := flatC_spec c e3
        exact ⟨by rw [g1]; rfl, fun v hv => by cases hv with | head => exact c2 | tail _ hv => exact g2 v hv⟩
  | .s .. :: _, _, h, _, _ => by simp [flatC] at h
  | .g .. :: _, _, h, _, _ => by simp [flatC] at h
  | .p .. :: _, _, h, _, _ => by simp [flatC] at h
  | .pe .. :: _, _, h, _, _ => by simp [flatC] at h
  | .sb .. :: _, _, h, _, _ => by simp [flatC] at h
  | .gl .. :: _, _, h, _, _ => by simp [flatC] at h
  | .rp .. :: _, _, h, _, _ => by simp [flatC] at h
  | .any :: _, _, h, _, _ => by simp [flatC] at h
theorem downs_paste : ∀ {l : List D} {vs : List Value} {h : PH} {o : Nat} {us : List Value} {l' : List D}, D.owns h l vs → paste l o (us.map D.v) = some l' → ∃ vs', paste vs o us = some vs' ∧ D.owns h l' vs'
  | l, vs, h, 0, [], l', e, p => by
    have : l' = l := by cases l <;> simpa [paste] using p.symm
    subst this
    exact ⟨vs, by cases vs <;> rfl, e⟩
  | [], _, _, 0, y :: ys, _, _, p => by simp [paste] at p
  | [], _, _, o + 1, ys, _, _, p => by simp [paste] at p
  | x :: l, _, h, 0, u :: us, l', e, p => by
    obtain ⟨a, t, h1, h2, rfl, e2, e3, e4, e5, e6⟩ := e
    simp only [paste, List.map_cons] at p ⊢
    cases q : paste l 0 (us.map D.v) with
    | none => rw [q] at p; cases p
    | some m =>
      rw [q] at p; injection p with p; subst p
      obtain ⟨ms, g1, g2⟩ := downs_paste e6 q
      rw [g1]
      exact ⟨_, rfl, u, ms, PH.emp, h2, rfl, PH.emp_le _, e3, PH.emp_dj _, rfl, g2⟩
  | x :: l, _, h, o + 1, us, l', e, p => by
    obtain ⟨a, t, h1, h2, rfl, e2, e3, e4, e5, e6⟩ := e
    simp only [paste] at p ⊢
    cases q : paste l o (us.map D.v) with
    | none => rw [q] at p; cases p
    | some m =>
      rw [q] at p; injection p with p; subst p
      obtain ⟨ms, g1, g2⟩ := downs_paste e6 q
      rw [g1]
      exact ⟨_, rfl, a, ms, h1, h2, rfl, e2, e3, e4, e5, g2⟩
theorem allC_bnot {k : Nat} {l : List V} {fr : Fr} {gf : GF} {mu : Mu} {ks : List Nat} (h : (allC l && unnamed k fr gf mu ks && !(anyL (V.uses k) l)) = true) : allC l = true ∧ unnamed k fr gf mu ks = true ∧ anyL (V.uses k) l = false := by
  simp only [Bool.and_eq_true, Bool.not_eq_true'] at h
  exact ⟨h.1.1, h.1.2, h.2⟩
theorem vcellsL_uses (k : Nat) (z : Value) : anyL (V.uses k) (vcellsL z) = false := by
  have : ∀ l : List Value, anyL (V.uses k) (l.map V.v) = false := fun l => by
    induction l with
    | nil => rfl
    | cons x r ih => simp only [List.map_cons, anyL, ih]; rfl
  cases z <;> first | exact this _ | rfl
section
variable {E : Env} {B : BE} {mu mu' : Mu} {w : World} {H : Nat → PH} {TT : List TI} {fr fr' : Fr} {gf gf' : GF} {a : Act}
theorem newrow_ok (f : FitsE E B H fr gf a) (m : Mem E B mu w H) {k : Nat} (hu : unnamed k fr gf mu E.A.ks = true) {l : List V} (hl : anyL (V.uses k) l = false) (hc : allC l = true) (hmu : mset k (.row l) mu = some mu') (T : TypeId) {cs : Array Value} (hcs : V.rels B (Zf E.r H) l cs.toList) :
    ∃ w' B' H', (newRow T cs).run E.P w = .ok ⟨w.heap.size, 0, none⟩ w' ∧ B' k = .pointer (some ⟨w.heap.size, 0, none⟩) ∧ Mem E B' mu' w' H' ∧ FitsE E B' H' fr gf a ∧ ∀ j, j ≠ k → B' j = B j ∧ H' j = H j := by
  obtain ⟨h1, h2, h3, h4⟩ := unnamed_spec hu
  have e0 : cs = cs.toList.toArray := by simp
  have hf : Fit (PH.row w.heap.size 0 cs.toList) (w.alloc (.cells cs T)) := by
    have := Fit.alloc w cs.toList T
    rwa [← e0] at this
  refine ⟨w.alloc (.cells cs T), BE.set B k (.pointer (some ⟨w.heap.size, 0, none⟩)), HF.set H k (PH.row w.heap.size 0 cs.toList), ?_, BE.set_eq _ _ _, ?_, FitsE.new f _ _ h1 h2, fun j hj => ⟨BE.set_ne _ _ hj, HF.set_ne _ _ hj⟩⟩
  · simp only [newRow, Sem.run_bind, run_newObj, Result.andThen_ok, Sem.run_pure]; rfl
  · refine m.put hmu (.inr ⟨muAny_mono (fun x hx => (uses_out hx).1) h3, h4⟩) ?_ hf ((Keep.alloc w _).mono fun _ _ _ h => h.elim) fun b o hb => .inr (by rw [PH.row_ne hb]; exact Nat.le_refl _)
    refine ⟨w.heap.size, 0, cs.toList, PH.emp, BE.set_eq _ _ _, ?_, PH.emp_le _, fun j hj => ⟨?_, rfl⟩⟩
    · exact V.owns_congr (φ := V.uses k) (fun x h y hx => V.own_setB _ (uses_out hx).1) hl (allC_owns hc hcs)
    · rw [PH.row_at]
theorem mst_ok (hT : TOk E.P TT) (f : FitsE E B H fr gf a) (m : Mem E B mu w H) {o : Oper} {xo : Option SV} {nw : Bool} {k : Nat} {c : Ch} {q : Ob} (h : mst TT E.A.ks fr gf mu o.dst o.op = some (xo, nw, k, c, q)) (hq : Alls q) (hmu : mset k c mu = some mu') (hcut : cutF nw k fr gf = some (fr', gf')) :
    ∃ nx w' B' H', (execOp a.eval o).run E.P w = .ok nx w' ∧ (∀ x, xo = some x → ∃ v, nx = .value v ∧ SV.rel E.P B' (Zf E.r H') x v) ∧ (xo = none → nx = .skip) ∧ Mem E B' mu' w' H' ∧ FitsE E B' H' fr' gf' a ∧ ∀ j, j ≠ k → B' j = B j ∧ H' j = H j := by
  obtain ⟨dst, op, type, pos, after, guard⟩ := o
  simp only at h
  have Ev : ∀ {x : Operand} {y : SV}, ev [] fr gf x = some y → SV.rel E.P B (Zf E.r H) y (a.eval x) := fun h => f.ev (g := []) (fun _ _ hm => by cases hm) h
  unfold mst at h
  split at h
  -- box
  · rename_i t x k'
    split at h
    · rename_i y e1
      split at h
      · rename_i l e2
        cases c : (allC l && unnamed k' fr gf mu E.A.ks && !(anyL (V.uses k') l)) with
        | false => rw [c] at h; cases h
        | true =>
          rw [c] at h
          simp at h
          obtain ⟨rfl, rfl, rfl, rfl, rfl⟩ := h
          obtain ⟨c1, c2, c3⟩ := allC_bnot c
          simp [cutF] at hcut
          obtain ⟨rfl, rfl⟩ := hcut
          obtain ⟨w', B', H', r1, r2, r3, r4, r5⟩ := newrow_ok f m c2 c3 c1 hmu t (cells_rel e2 (Ev e1))
          refine ⟨.value (.pointer (some ⟨w.heap.size, 0, none⟩)), w', B', H', ?_, fun x hx => ⟨_, rfl, ?_⟩, fun e => (by cases e), r3, r4, r5⟩
          · simp only [execOp]
            refine run_value2 ?_
            simp only [Instr.box, newVar, Sem.run_bind, r1, Result.andThen_ok, Sem.run_pure]
          · injection hx with hx; subst hx
            refine ⟨?_, rfl⟩
            rw [r2]; rfl
      · cases h
    · cases h
  -- alloc
  · rename_i t k'
    split at h
    · rename_i ti e1
      simp only [vcells_eq] at h
      cases c : (allC (vcellsL ti.zero) && unnamed k' fr gf mu E.A.ks) with
      | false => rw [c] at h; cases h
      | true =>
        rw [c] at h
        simp at h
        obtain ⟨rfl, rfl, rfl, rfl, rfl⟩ := h
        simp only [Bool.and_eq_true] at c
        simp [cutF] at hcut
        obtain ⟨rfl, rfl⟩ := hcut
        obtain ⟨t1, t2⟩ := hT.get e1
        obtain ⟨i, i1, _, _, i4⟩ := t2.info
        rw [t1] at i1
        obtain ⟨w', B', H', r1, r2, r3, r4, r5⟩ := newrow_ok f m c.2 (vcellsL_uses _ _) c.1 hmu t (vcellsL_rel ti.zero)
        refine ⟨.value (.pointer (some ⟨w.heap.size, 0, none⟩)), w', B', H', ?_, fun x hx => ⟨_, rfl, ?_⟩, fun e => (by cases e), r3, r4, r5⟩
        · simp only [execOp]
          refine run_value2 ?_
          have hz : (zeroValue t).run E.P w = .ok ti.zero w := by simp only [zeroValue, Sem.run_bind, run_info i1, Result.andThen_ok, i4, Sem.run_pure]
          simp only [Instr.alloc, newVar, Sem.run_bind, hz, r1, Result.andThen_ok, Sem.run_pure]
        · injection hx with hx; subst hx
          refine ⟨?_, rfl⟩
          rw [r2]; rfl
    · cases h
  -- store
  · rename_i t ad x
    split at h
    · rename_i k' o y ti e1 e2 e3
      split at h
      · rename_i l cs e4 e5
        cases c : (lenEq cs ti.sz && allC cs) with
        | false => rw [c] at h; cases h
        | true =>
          rw [c] at h
          simp only [cond_true] at h
          simp only [Bool.and_eq_true] at c
          split at h
          · rename_i l' e6
            simp at h
            obtain ⟨rfl, rfl, rfl, rfl, rfl⟩ := h
            simp only [cutF, cond_false] at hcut
            split at hcut
            · rename_i fr2 gf2 hc1 hc2
              simp at hcut; obtain ⟨rfl, rfl⟩ := hcut
              obtain ⟨t1, t2⟩ := hT.get e3
              obtain ⟨b, off, vs, hp, s1, s2, s3, s4⟩ := m.mm.sat k' _ e4
              have hlen := V.owns_length s2
              have hcs := cells_rel e5 (Ev e2)
              obtain ⟨vs', p1, p2⟩ := owns_paste s2 c.2 hcs e6
              obtain ⟨q1, q2, q3, q4⟩ := paste_spec _ _ _ _ p1
              have hcl := V.rels_length hcs
              have hin : ∀ j, j < (a.eval x).cells.toList.length → H k' b (off + o + j) ≠ none := fun j hj => by
                have := (s4 (o + j) (by omega)).1
                rw [Nat.add_assoc, this, List.getElem?_eq_getElem (by omega)]; simp
              obtain ⟨w', r1, r2, r3, r4⟩ := run_storeVar (P := E.P) t2 rfl (by rw [hcl]; exact lenEq_spec _ _ c.1) (m.mm.fit k') hin (allC_one c.2 hcs)
              have hmem := m.put (v := B k') (h' := (H k').updL b (off + o) (a.eval x).cells.toList) (w' := w') hmu (.inl rfl) ?_ r2 (r3.mono ?_) (fun b o hb => .inl (PH.updL_ne hin hb))
              · refine ⟨.skip, w', _, _, ?_, fun x hx => (by cases hx), fun _ => rfl, hmem, FitsE.anew f _ hc1 hc2, fun j hj => ⟨BE.set_ne _ _ hj, HF.set_ne _ _ hj⟩⟩
                have he : a.eval ad = .pointer (some ⟨b, off + o, none⟩) := by
                  rw [(show a.eval ad = addP (B k') o ∧ _ from Ev e1).1, s1]; simp [addP, add_mk]
                simp only [execOp, he]
                simp only [Instr.storeAt, Instr.sureAddr, Sem.run_bind, Sem.run_pure, Result.andThen_ok]
                rw [← t1, r1]
                rfl
              · rw [BE.set_self]
                have hll : l'.length = l.length := by have := V.owns_length p2; omega
                refine ⟨b, off, vs', hp, s1, p2, fun x y v hv => ?_, fun j hj => ⟨?_, (s4 j (by omega)).2⟩⟩
                · rw [PH.updL_out]
                  · exact s3 x y v hv
                  · rintro ⟨rfl, g1, g2⟩
                    have := (s4 (y - off) (by omega)).2
                    rw [show off + (y - off) = y from by omega, hv] at this
                    cases this
                · by_cases hj2 : o ≤ j ∧ j < o + (a.eval x).cells.toList.length
                  · have := q3 (j - o) (by omega)
                    rw [show o + (j - o) = j from by omega] at this
                    rw [this, show off + j = off + o + (j - o) from by omega, PH.updL_in _ _ _ _ (by omega)]
                  · rw [PH.updL_out _ (by omega), (s4 j (by omega)).1]
                    exact (q4 j (by omega)).symm
              · rintro x' _ y' ⟨rfl, g1, g2⟩
                have := hin (y' - (off + o)) (by omega)
                rwa [show off + o + (y' - (off + o)) = y' from by omega] at this
            · cases hcut
          · cases h
      · cases h
    · rename_i k' sz i o y ti e1 e2 e3
      split at h
      · rename_i sz' n g cs e4 e5
        obtain ⟨cv, e5a, e5b⟩ := Option.bind_eq_some_iff.1 e5
        cases c1 : lenEq cs ti.sz with
        | false => rw [c1] at h; cases h
        | true =>
          rw [c1] at h
          simp only [cond_true] at h
          split at h
          · rename_i l' e7
            simp at h
            obtain ⟨rfl, rfl, rfl, rfl, rfl⟩ := h
            simp only [cutF, cond_false] at hcut
            split at hcut
            · rename_i fr2 gf2 hc1 hc2
              simp at hcut; obtain ⟨rfl, rfl⟩ := hcut
              obtain ⟨rfl, ⟨q1, q2⟩, _⟩ := hq
              obtain ⟨t1, t2⟩ := hT.get e3
              obtain ⟨A, cp, s1, s2, s3, s4⟩ := (show D.own _ _ _ from m.mm.sat k' _ e4)
              rcases s4 with s4 | ⟨b, off, row, G, rfl, g1, g2, g3⟩
              · omega
              · have hcs := cells_rel e5a (Ev e2)
                obtain ⟨hds, hone⟩ := flatC_spec e5b hcs
                have hlen : (a.eval x).cells.toList.length = ti.sz := by
                  have := lenEq_spec _ _ c1
                  rw [hds, List.length_map] at this; exact this
                obtain ⟨r1, r2, r3⟩ := g1 i.toNat (by omega)
                rw [hds] at e7
                obtain ⟨vs', p1, p2⟩ := downs_paste r1 e7
                obtain ⟨k1, k2, k3, k4⟩ := paste_spec _ _ _ _ p1
                have hin : ∀ j, j < (a.eval x).cells.toList.length → H k' b (off + i.toNat * sz + o + j) ≠ none := fun j hj => by
                  have := r3 (o + j) (by omega)
                  rw [Nat.add_assoc, this, List.getElem?_eq_getElem (by omega)]; simp
                obtain ⟨w', u1, u2, u3, u4⟩ := run_storeVar (P := E.P) t2 rfl hlen (m.mm.fit k') hin hone
                have hmem := m.put (v := B k') (h' := (H k').updL b (off + i.toNat * sz + o) (a.eval x).cells.toList) (w' := w') hmu (.inl rfl) ?_ u2 (u3.mono ?_) (fun b o hb => .inl (PH.updL_ne hin hb))
                · refine ⟨.skip, w', _, _, ?_, fun x hx => (by cases hx), fun _ => rfl, hmem, FitsE.anew f _ hc1 hc2, fun j hj => ⟨BE.set_ne _ _ hj, HF.set_ne _ _ hj⟩⟩
                  have he : a.eval ad = .pointer (some ⟨b, off + i.toNat * sz + o, none⟩) := by
                    rw [(show a.eval ad = elP (B k') sz i o ∧ _ from Ev e1).1, s1, elP_slice]
                  simp only [execOp, he]
                  simp only [Instr.storeAt, Instr.sureAddr, Sem.run_bind, Sem.run_pure, Result.andThen_ok]
                  rw [← t1, u1]
                  rfl
                · rw [BE.set_self]
                  refine ⟨_, cp, s1, s2, s3, .inr ⟨b, off, fun j => if j = i.toNat then vs' else row j, G, rfl, fun j hj => ?_, fun j hj hj2 x hx => ?_, fun j x y v hv => ?_, g3.2⟩⟩
                  · by_cases hji : j = i.toNat
                    · subst hji
                      simp only [Nat.beq_refl, cond_true, if_true]
                      refine ⟨p2, by omega, fun x' hx => ?_⟩
                      by_cases hx2 : o ≤ x' ∧ x' < o + (a.eval x).cells.toList.length
                      · rw [show off + i.toNat * sz + x' = off + i.toNat * sz + o + (x' - o) from by omega, PH.updL_in _ _ _ _ (by omega)]
                        have := k3 (x' - o) (by omega)
                        rw [show o + (x' - o) = x' from by omega] at this
                        exact this.symm
                      · rw [PH.updL_out _ (by omega), r3 x' hx]
                        exact (k4 x' (by omega)).symm
                    · have hb : Nat.beq j i.toNat = false := by
                        cases e : Nat.beq j i.toNat with
                        | false => rfl
                        | true => exact absurd (Nat.eq_of_beq_eq_true e) hji
                      simp only [hb, cond_false, if_neg hji]
                      obtain ⟨j1, j2, j3⟩ := g1 j hj
                      refine ⟨j1, j2, fun x' hx => ?_⟩
                      rw [PH.updL_out _ (by
                        rintro ⟨_, h6, h7⟩
                        rcases Nat.lt_or_gt_of_ne hji with h8 | h8
                        · have := Nat.mul_le_mul_right sz (show j + 1 ≤ i.toNat from h8)
                          rw [Nat.add_mul, Nat.one_mul] at this
                          omega
                        · have := Nat.mul_le_mul_right sz (show i.toNat + 1 ≤ j from h8)
                          rw [Nat.add_mul, Nat.one_mul] at this
                          omega)]
                      exact j3 x' hx
                  · rw [PH.updL_out _ (by
                      rintro ⟨_, h6, h7⟩
                      have := Nat.mul_le_mul_right sz (show i.toNat + 1 ≤ j from by omega)
                      rw [Nat.add_mul, Nat.one_mul] at this
                      omega)]
                    exact g2 j hj hj2 x hx
                  · rw [PH.updL_out]
                    · exact g3.1 j x y v hv
                    · rintro ⟨rfl, z1, z2⟩
                      have z3 : (i.toNat + 1) * sz ≤ cp * sz := Nat.mul_le_mul_right _ (by omega)
                      rw [Nat.add_mul, Nat.one_mul] at z3
                      rw [g3.2.2 j y (by omega) (by omega)] at hv; cases hv
                · rintro x' _ y' ⟨rfl, g1, g2⟩
                  have := hin (y' - (off + i.toNat * sz + o)) (by omega)
                  rwa [show off + i.toNat * sz + o + (y' - (off + i.toNat * sz + o)) = y' from by omega] at this
            · cases hcut
          · cases h
      · cases h
    · cases h
  · cases h
end
end Go.Proofs.YtiegllklalplnaaGreat
