/-
  Stepping through a region in the order of the text is right.
-/
import Derived.Test.YtiilpopeognekaaM7
namespace Go.Proofs.Ytiilpopeognekaa
open Go Go.RowKit
set_option linter.unusedVariables false
set_option linter.unusedSimpArgs false

theorem avVals_spec {B : BE} : ∀ {l : List AV} {m : List Value}, avVals l = some m → l.map (AV.den B) = m
  | [], m, h => by simp [avVals] at h; subst h; rfl
  | .p _ _ :: _, m, h => by simp [avVals] at h
  | .v x :: r, m, h => by
    simp only [avVals] at h
    cases e : avVals r with
    | none => rw [e] at h; cases h
    | some l => rw [e] at h; injection h with h; subst h; simp [avVals_spec e, AV.den]
  | .sl k A n c :: r, m, h => by
    simp only [avVals] at h
    cases e : avVals r with
    | none => rw [e] at h; cases h
    | some l => rw [e] at h; injection h with h; subst h; simp [avVals_spec e, AV.den]
  | .rs k A n c :: r, m, h => by
    simp only [avVals] at h
    cases e : avVals r with
    | none => rw [e] at h; cases h
    | some l => rw [e] at h; injection h with h; subst h; simp [avVals_spec e, AV.den]
  | .pe k A n i sz o :: r, m, h => by
    simp only [avVals] at h
    cases e : avVals r with
    | none => rw [e] at h; cases h
    | some l => rw [e] at h; injection h with h; subst h; simp [avVals_spec e, AV.den]
  | .re k A n i sz o :: r, m, h => by
    simp only [avVals] at h
    cases e : avVals r with
    | none => rw [e] at h; cases h
    | some l => rw [e] at h; injection h with h; subst h; simp [avVals_spec e, AV.den]
theorem allOneV_spec : ∀ {l : List Value}, allOneV l = true → ∀ v ∈ l, oneV v = true
  | [], _, _, h => by cases h
  | x :: r, h, v, hm => by
    simp only [allOneV] at h
    cases e : oneV x with
    | false => rw [e] at h; cases h
    | true =>
      rw [e] at h
      cases hm with
      | head => exact e
      | tail _ hm => exact allOneV_spec h v hm
theorem AV.one_den {x : AV} (h : x.one = true) (B : BE) : oneV (x.den B) = true := by
  cases x with
  | v x => exact h
  | _ => rfl
theorem vcells_names (k : Nat) (z : Value) : namesL k (vcellsL z) = false := by
  have : ∀ l : List Value, namesL k (l.map AV.v) = false := fun l => by
    induction l with
    | nil => rfl
    | cons x r ih => simp [namesL, AV.names, ih]
  cases z <;> first | exact this _ | rfl
theorem run_value2 {P : Program} {w w' : World} {s : Sem Value} {x : Value} (h : s.run P w = .ok x w') : (do pure (.value (← s)) : Sem Next).run P w = .ok (.value x) w' := by
  simp only [Sem.run_bind, h, Result.andThen_ok, Sem.run_pure]
section
variable {P : Program} {w w0 : World} {B : BE} {r : PH} {D : Nat → Nat → Prop} {mu : Mu} {ga : Ga} {H : Nat → PH} {TT : List TI} {N : Nat} {fr : Fr} {gf : GF} {a : Act}
theorem unnamed_spec {k : Nat} (h : unnamed k fr gf mu = true) : frNames k fr = false ∧ gfNames k gf = false ∧ muNames k mu = false := by
  simp only [unnamed, Bool.and_eq_true, Bool.not_eq_true'] at h
  exact ⟨h.1.1, h.1.2, h.2⟩
theorem new_ok (f : Fits B N fr gf a) (m : Mem B r D w0 mu w H) {k : Nat} (hu : unnamed k fr gf mu = true) {l : List AV} (hl : namesL k l = false) (T : TypeId) {cs : Array Value} (hcs : cs = (l.map (AV.den B)).toArray) :
    ∃ w' B' H', (newRow T cs).run P w = .ok ⟨w.heap.size, 0, none⟩ w' ∧ B' k = ⟨w.heap.size, 0, none⟩ ∧ Mem B' r D w0 ((k, .cells l) :: mu) w' H' ∧ Fits B' N fr gf a ∧ ∀ j, j ≠ k → B' j = B j ∧ H' j = H j := by
  obtain ⟨h1, h2, h3⟩ := unnamed_spec hu
  subst hcs
  exact ⟨_, _, _, by simp only [newRow, Sem.run_bind, run_newObj, Result.andThen_ok, Sem.run_pure]; rfl, by simp [BE.set], m.new h3 hl T, f.setB h1 h2 _, fun j hj => ⟨by simp [BE.set, hj], by simp [HF.set, hj]⟩⟩
theorem mst_ok (hT : TOk P TT) (f : Fits B N fr gf a) (m : Mem B r D w0 mu w H) {o : Oper} {xo : Option SV} {mu' : Mu} {q : Ob} (h : mst TT fr gf mu o.dst o.op = some (xo, mu', q)) (hq : Alls q) :
    ∃ nx w' B' H', (execOp a.eval o).run P w = .ok nx w' ∧ (∀ x, xo = some x → nx = .value (x.den B')) ∧ (xo = none → nx = .skip) ∧ Mem B' r D w0 mu' w' H' ∧ Fits B' N fr gf a ∧ ∃ kk c, mu' = (kk, c) :: mu ∧ ∀ j, j ≠ kk → B' j = B j ∧ H' j = H j := by
  obtain ⟨dst, op, type, pos, after, guard⟩ := o
  simp only at h
  have E : ∀ {x : Operand} {y : SV}, ev [] fr gf x = some y → a.eval x = y.den B := fun h => f.ev (g := []) (fun _ _ hm => by cases hm) h
  unfold mst at h
  split at h
  -- box
  · rename_i t x k
    split at h
    · rename_i y e1
      split at h
      · rename_i l e2
        cases c : (unnamed k fr gf mu && !(namesL k l)) with
        | false => rw [c] at h; cases h
        | true =>
          rw [c] at h
          simp at h
          obtain ⟨rfl, rfl, rfl⟩ := h
          simp only [Bool.and_eq_true, Bool.not_eq_true'] at c
          have hc : (y.den B).cells = (l.map (AV.den B)).toArray := by rw [← cells_den e2 B]
          obtain ⟨w', B', H', r1, r2, r3, r4, r5⟩ := new_ok (P := P) f m c.1 c.2 t hc
          refine ⟨.value (.pointer (some ⟨w.heap.size, 0, none⟩)), w', B', H', ?_, ?_, fun e => by (cases e), r3, r4, _, _, rfl, r5⟩
          · simp only [execOp, E e1]
            refine run_value2 ?_
            simp only [Instr.box, newVar, Sem.run_bind, r1, Result.andThen_ok, Sem.run_pure]
          · intro x hx; injection hx with hx; subst hx; simp [SV.den, AV.den, r2, Addr.add]
      · cases h
    · cases h
  -- alloc
  · rename_i t k
    split at h
    · rename_i ti e1
      simp only [vcells_eq] at h
      cases c : unnamed k fr gf mu with
      | false => rw [c] at h; cases h
      | true =>
        rw [c] at h
        simp at h
        obtain ⟨rfl, rfl, rfl⟩ := h
        obtain ⟨t1, t2⟩ := hT.get e1
        obtain ⟨i, i1, _, _, i4⟩ := t2.info
        rw [t1] at i1
        obtain ⟨w', B', H', r1, r2, r3, r4, r5⟩ := new_ok (P := P) f m c (vcells_names k ti.zero) t (vcells_den ti.zero B).symm
        refine ⟨.value (.pointer (some ⟨w.heap.size, 0, none⟩)), w', B', H', ?_, ?_, fun e => by (cases e), r3, r4, _, _, rfl, r5⟩
        · simp only [execOp]
          refine run_value2 ?_
          have hz : (zeroValue t).run P w = .ok ti.zero w := by simp only [zeroValue, Sem.run_bind, run_info i1, Result.andThen_ok, i4, Sem.run_pure]
          simp only [Instr.alloc, newVar, Sem.run_bind, hz, r1, Result.andThen_ok, Sem.run_pure]
        · intro x hx; injection hx with hx; subst hx; simp [SV.den, AV.den, r2, Addr.add]
    · cases h
  -- store
  · rename_i t ad x
    split at h
    · rename_i k o y ti e1 e2 e3
      split at h
      · rename_i l cs e4 e5
        cases c : (lenEq cs ti.sz && allOne cs) with
        | false => rw [c] at h; cases h
        | true =>
          rw [c] at h
          simp only [cond_true] at h
          simp only [Bool.and_eq_true] at c
          split at h
          · rename_i l' e6
            simp at h
            obtain ⟨rfl, rfl, rfl⟩ := h
            obtain ⟨t1, t2⟩ := hT.get e3
            obtain ⟨hs, hc⟩ := m.sat k _ e4
            obtain ⟨p1, p2, p3, p4⟩ := paste_spec l o cs l' e6
            have hin : ∀ j, j < (cs.map (AV.den B)).length → H k (B k).block ((B k).off + o + j) ≠ none := fun j hj => by
              rw [List.length_map] at hj
              have hlt : o + j < l.length := by omega
              have := hc (o + j) l[o + j] (by simp [hlt])
              rw [Nat.add_assoc, this]; simp
            obtain ⟨w', r1, r2, r3, r4⟩ := run_storeVar (P := P) t2 (cells_den e5 B) (by rw [List.length_map]; exact lenEq_spec _ _ c.1) (m.fit k) hin
              (fun v hv => by obtain ⟨av, h1, rfl⟩ := List.mem_map.1 hv; exact AV.one_den (allOne_spec c.2 av h1) B)
            refine ⟨.skip, w', B, _, ?_, fun x hx => by (cases hx), fun _ => rfl, m.write r2 r3 hin ?_, f, _, _, rfl, fun j hj => ⟨rfl, by simp [HF.set, hj]⟩⟩
            · simp only [execOp, E e1, E e2]
              rw [show SV.den B (.a (.p k o)) = .pointer (some ((B k).add o)) from rfl]
              simp only [Instr.storeAt, Instr.sureAddr, Sem.run_bind, Sem.run_pure, Result.andThen_ok, add_none hs]
              rw [← t1, r1]
              rfl
            · refine ⟨hs, fun j x hx => ?_⟩
              by_cases hj : o ≤ j ∧ j < o + cs.length
              · have := p3 (j - o) (by omega)
                rw [show o + (j - o) = j from by omega, hx] at this
                rw [show (B k).off + j = (B k).off + o + (j - o) from by omega, PH.updL_in _ _ _ _ (by rw [List.length_map]; omega), List.getElem?_map, ← this]
                rfl
              · have := p4 j (by omega)
                rw [PH.updL_out _ (by rw [List.length_map]; omega)]
                exact hc j x (by rw [← this]; exact hx)
          · cases h
      · cases h
    · rename_i k A n i sz o y ti e1 e2 e3
      split at h
      · rename_i A' n' c sz' rows cs e4 e5
        cases c1 : lenEq cs ti.sz with
        | false => rw [c1] at h; cases h
        | true =>
          rw [c1] at h
          simp only [cond_true] at h
          split at h
          · rename_i vs e6
            cases c2 : allOneV vs with
            | false => rw [c2] at h; cases h
            | true =>
              rw [c2] at h
              simp only [cond_true] at h
              split at h
              · rename_i l' e7
                simp at h
                obtain ⟨rfl, rfl, rfl⟩ := h
                obtain ⟨rfl, rfl, rfl, ⟨q1, q2⟩, _⟩ := hq
                obtain ⟨t1, t2⟩ := hT.get e3
                obtain ⟨s0, s1, s2⟩ := m.sat k _ e4
                obtain ⟨b, o', rfl, g1, g2⟩ := s1 i.toNat (by omega)
                obtain ⟨p1, p2, p3, p4⟩ := paste_spec _ o vs l' e7
                have hvs := avVals_spec (B := B) e6
                have hlen : vs.length = cs.length := by rw [← hvs]; simp
                have hin : ∀ j, j < vs.length → H k b (o' + i.toNat * sz + o + j) ≠ none := fun j hj => by
                  have := g2 (o + j) (by omega)
                  rw [Nat.add_assoc, this, List.getElem?_eq_getElem (by omega)]; simp
                obtain ⟨w', r1, r2, r3, r4⟩ := run_storeVar (P := P) t2 ((cells_den e5 B).trans hvs) (by rw [hlen]; exact lenEq_spec _ _ c1) (m.fit k) hin (allOneV_spec c2)
                refine ⟨.skip, w', B, _, ?_, fun x hx => by (cases hx), fun _ => rfl, m.write r2 r3 hin ?_, f, _, _, rfl, fun j hj => ⟨rfl, by simp [HF.set, hj]⟩⟩
                · simp only [execOp, E e1, E e2]
                  rw [show SV.den B (.a (.pe k (some ⟨b, o', none⟩) n i sz o)) = .pointer (some ⟨b, o' + i.toNat * sz + o, none⟩) from elP_mk b o' i sz o]
                  simp only [Instr.storeAt, Instr.sureAddr, Sem.run_bind, Sem.run_pure, Result.andThen_ok]
                  rw [← t1, r1]
                  rfl
                · refine ⟨s0, fun j hj => ?_, fun j hj hj2 => ?_⟩
                  · refine ⟨b, o', rfl, ?_⟩
                    by_cases hji : j = i.toNat
                    · subst hji
                      simp only [Nat.beq_refl, cond_true]
                      refine ⟨by rw [p1]; exact g1, fun x hx => ?_⟩
                      by_cases hx2 : o ≤ x ∧ x < o + vs.length
                      · rw [show o' + i.toNat * sz + x = o' + i.toNat * sz + o + (x - o) from by omega, PH.updL_in _ _ _ _ (by omega)]
                        have := p3 (x - o) (by omega)
                        rw [show o + (x - o) = x from by omega] at this
                        exact this.symm
                      · rw [PH.updL_out _ (by omega), g2 x hx]
                        exact (p4 x (by omega)).symm
                    · have hb : Nat.beq j i.toNat = false := by
                        cases e : Nat.beq j i.toNat with
                        | false => rfl
                        | true => exact absurd (Nat.eq_of_beq_eq_true e) hji
                      simp only [hb, cond_false]
                      obtain ⟨b2, o2, e9, g3, g4⟩ := s1 j hj
                      injection e9 with e9
                      injection e9 with e10 e11
                      subst e10; subst e11
                      refine ⟨g3, fun x hx => ?_⟩
                      rw [PH.updL_out _ (by
                        have h5 : o + vs.length ≤ sz := by omega
                        rintro ⟨_, h6, h7⟩
                        rcases Nat.lt_or_gt_of_ne hji with h8 | h8
                        · have := Nat.mul_le_mul_right sz (show j + 1 ≤ i.toNat from h8)
                          rw [Nat.add_mul, Nat.one_mul] at this
                          omega
                        · have := Nat.mul_le_mul_right sz (show i.toNat + 1 ≤ j from h8)
                          rw [Nat.add_mul, Nat.one_mul] at this
                          omega)]
                      exact g4 x hx
                  · obtain ⟨b2, o2, e9, g3⟩ := s2 j hj hj2
                    refine ⟨b2, o2, e9, fun x hx => ?_⟩
                    injection e9 with e9
                    injection e9 with e10 e11
                    subst e10; subst e11
                    rw [PH.updL_out _ (by
                      rintro ⟨_, h6, h7⟩
                      have := Nat.mul_le_mul_right sz (show i.toNat + 1 ≤ j from by omega)
                      rw [Nat.add_mul, Nat.one_mul] at this
                      omega)]
                    exact g3 x hx
              · cases h
          · cases h
      · cases h
    · cases h
  · cases h
end
end Go.Proofs.Ytiilpopeognekaa
