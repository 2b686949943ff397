/-
  The symbolic machine is right, continued: one theorem for all pure operations.
-/
import Derived.Test.YtiilpopeognekaaM3
namespace Go.Proofs.Ytiilpopeognekaa
open Go Go.RowKit
set_option linter.unusedVariables false
set_option linter.unusedSimpArgs false

theorem allOne_spec : ∀ {l : List AV}, allOne l = true → ∀ x ∈ l, x.one = true
  | [], _, _, h => by cases h
  | x :: r, h, y, hy => by
    simp only [allOne] at h
    cases e : x.one with
    | false => rw [e] at h; cases h
    | true =>
      rw [e] at h
      cases hy with
      | head => exact e
      | tail _ hm => exact allOne_spec h y hm
/-- the cells of a value, as the model takes them -/
theorem cells_den {x : SV} {l : List AV} (h : x.cells = some l) (B : BE) : (x.den B).cells.toList = l.map (AV.den B) := by
  cases x with
  | un => simp [SV.cells] at h
  | fn f l => simp [SV.cells] at h
  | ag l' => simp [SV.cells] at h; subst h; simp [SV.den, Value.cells]
  | a y =>
    cases y with
    | v x =>
      simp [SV.cells, vcells_eq] at h; subst h
      cases x <;> first
        | rfl
        | (simp [SV.den, AV.den, Value.cells, vcellsL]; rfl)
        | (simp [SV.den, AV.den, Value.cells, vcellsL, Function.comp_def])
    | pe k A n i sz o =>
      simp [SV.cells] at h; subst h; rfl
    | re k A n i sz o =>
      simp [SV.cells] at h; subst h; rfl
    | _ => simp [SV.cells] at h; subst h; rfl

section
variable {P : Program} {w : World}
theorem run_value {s : Sem Value} {x : Value} (h : s.run P w = .ok x w) : (do pure (.value (← s)) : Sem Next).run P w = .ok (.value x) w := by
  simp only [Sem.run_bind, h, Result.andThen_ok, Sem.run_pure]
theorem TI.ok.stc {id sz by_ : Nat} {l : List (Nat × Nat)} {z : Value} (h : (TI.mk id sz by_ (.st l) z).ok P) : ∃ fs : Array Field, P.underlying id = some (.struct fs) ∧ fs.toList.map (fun f => (f.offset, f.type)) = l := by
  obtain ⟨d, h1, h2⟩ := TI.ok.desc h
  obtain ⟨fs, rfl, e⟩ := shapeK_st h2
  exact ⟨fs, h1, e⟩
theorem field_get {fs : Array Field} {l : List (Nat × Nat)} (e : fs.toList.map (fun f => (f.offset, f.type)) = l) {n d t : Nat} (h : nth l n = some (d, t)) : ∃ f, fs[n]? = some f ∧ f.offset = d ∧ f.type = t := by
  rw [nth_eq, ← e, List.getElem?_map] at h
  cases x : fs.toList[n]? with
  | none => rw [x] at h; cases h
  | some f => rw [x] at h; simp at h; exact ⟨f, by simpa using x, h.1, h.2⟩
theorem run_fieldAt {t : TypeId} {fs : Array Field} (hu : P.underlying t = some (.struct fs)) {n : Nat} {f : Field} (hf : fs[n]? = some f) {i : TypeInfo} (hi : P.info? f.type = some i) (hn : i.size ≠ 0) (a : Addr) :
    (Instr.fieldAt t (.pointer (some a)) n).run P w = .ok (.pointer (some (a.add f.offset))) w := by
  simp only [Instr.fieldAt, Sem.run_bind, run_underlying hu, Result.andThen_ok, hf, Instr.sureAddr, Sem.run_pure, fieldPlace, run_size hi]
  rw [if_neg hn]
  simp only [Sem.run_pure, Result.andThen_ok]
theorem run_indexAt {t e : TypeId} (hu : P.underlying t = some (.slice e)) {i : TypeInfo} (hi : P.info? e = some i) (A : Option Addr) (n c : Nat) (k : IntKind) (j : Int) (h0 : 0 ≤ j ∧ j < n) (hA : ∃ b o, A = some ⟨b, o, none⟩) :
    (Instr.indexAt t (.slice A n c) (.int k j)).run P w = .ok (elP A j i.size 0) w := by
  obtain ⟨b, o, rfl⟩ := hA
  simp only [Instr.indexAt, asIntOf, Sem.run_bind, Sem.run_pure, run_underlying hu, Result.andThen_ok]
  rw [if_pos h0]
  simp only [Sem.run_bind, run_size hi, Result.andThen_ok, Sem.run_pure, elP]
  rfl
theorem addr_add_add (a : Addr) (m n : Nat) : (a.add m).add n = if m + n = 0 then a else { a with off := a.off + m + n, spot := none } := by
  unfold Addr.add
  by_cases h1 : m = 0 <;> by_cases h2 : n = 0 <;> simp [h1, h2]
theorem elP_add {A : Option Addr} {i : Int} {sz o d : Nat} : ∃ a, elP A i sz o = .pointer (some a) ∧ elP A i sz (o + d) = .pointer (some (a.add d)) := by
  refine ⟨_, rfl, ?_⟩
  simp only [elP]
  congr 2
  generalize (A.getD ⟨0, 0, none⟩).add (i.toNat * sz) = b
  rw [addr_add_add]
  unfold Addr.add
  by_cases h : o + d = 0
  · rw [if_pos h, if_pos h]
  · rw [if_neg h, if_neg h]; simp
theorem p_add (a : Addr) (o d : Nat) : a.add (o + d) = (a.add o).add d := by
  rw [addr_add_add]; unfold Addr.add
  by_cases h : o + d = 0
  · rw [if_pos h, if_pos h]
  · rw [if_neg h, if_neg h]; simp [Nat.add_assoc]
theorem run_part {ti : TI} (hti : ti.ok P) (cs : Array Value) (d : Nat) (l : List Value) (hl : cut cs.toList d ti.sz = some l) (x : Value) (hx : (ti.isAg = true ∧ x = .agg l.toArray) ∨ (ti.isAg = false ∧ l = [x])) :
    (part ti.id cs d).run P w = .ok x w := by
  obtain ⟨i, h1, h2, _, _⟩ := hti.info
  obtain ⟨c1, c2⟩ := cut_spec _ _ _ _ hl
  simp only [part, Sem.run_bind, run_isAgg hti, Result.andThen_ok]
  rcases hx with ⟨e, rfl⟩ | ⟨e, rfl⟩
  · rw [e, if_pos rfl]
    simp only [Sem.run_bind, run_size h1, Result.andThen_ok, Sem.run_pure, h2]
    congr 2
    apply Array.ext_getElem?
    intro j
    by_cases hj : j < ti.sz
    · have := c2 j hj
      simp only [Array.getElem?_toList] at this
      simp only [List.getElem?_toArray, this]
      rw [Array.getElem?_extract]
      rw [if_pos]
      have hs : (l[j]?).isSome := by rw [List.getElem?_eq_getElem (by omega)]; rfl
      rw [this] at hs
      have : d + j < cs.size := by
        cases hc : cs[d + j]? with
        | none => rw [hc] at hs; cases hs
        | some u => exact (Array.getElem?_eq_some_iff.1 hc).1
      omega
    · rw [Array.getElem?_eq_none (by simp; omega), Array.getElem?_eq_none (by simp; omega)]
  · rw [e, if_neg (by simp)]
    have hz : ti.sz = 1 := by simpa using c1.symm
    have := c2 0 (by omega)
    simp at this
    simp only [← this, Sem.run_pure]

/-! ### struct literals -/
theorem foldl_set (o : Nat) : ∀ (ys : List Value) (k : Nat) (cs : Array Value), ((ys.zipIdx k).foldl (fun cs p => cs.setIfInBounds (o + p.2) p.1) cs).size = cs.size ∧
    ∀ i, ((ys.zipIdx k).foldl (fun cs p => cs.setIfInBounds (o + p.2) p.1) cs)[i]? = if o + k ≤ i ∧ i < o + k + ys.length ∧ i < cs.size then ys[i - (o + k)]? else cs[i]?
  | [], k, cs => ⟨rfl, fun i => by simp only [List.zipIdx_nil, List.foldl_nil, List.length_nil]; rw [if_neg (by omega)]⟩
  | y :: ys, k, cs => by
    simp only [List.zipIdx_cons, List.foldl_cons]
    obtain ⟨h1, h2⟩ := foldl_set o ys (k + 1) (cs.setIfInBounds (o + k) y)
    refine ⟨by rw [h1]; simp, fun i => ?_⟩
    rw [h2 i]
    simp only [Array.size_setIfInBounds, List.length_cons]
    by_cases c1 : i = o + k
    · subst c1
      rw [if_neg (by omega)]
      by_cases c2 : o + k < cs.size
      · rw [if_pos (by omega)]; simp [c2]
      · rw [if_neg (by omega)]; rw [Array.getElem?_eq_none (by simp; omega), Array.getElem?_eq_none (by omega)]
    · by_cases c2 : o + (k + 1) ≤ i ∧ i < o + (k + 1) + ys.length ∧ i < cs.size
      · rw [if_pos c2, if_pos (by omega), show i - (o + k) = (i - (o + (k + 1))) + 1 from by omega, List.getElem?_cons_succ]
      · rw [if_neg c2, if_neg (by omega)]
        exact Array.getElem?_setIfInBounds_ne (by omega)
theorem paste_fold {l ys m : List Value} {o : Nat} (h : paste l o ys = some m) : (ys.toArray.zipIdx.foldl (fun cs p => cs.setIfInBounds (o + p.2) p.1) l.toArray) = m.toArray := by
  obtain ⟨h1, h2, h3, h4⟩ := paste_spec l o ys m h
  rw [← Array.foldl_toList]
  simp only [Array.toList_zipIdx]
  obtain ⟨e1, e2⟩ := foldl_set o ys 0 l.toArray
  apply Array.ext_getElem?
  intro i
  rw [e2 i]
  simp only [List.size_toArray, Nat.add_zero, List.getElem?_toArray]
  by_cases c : o ≤ i ∧ i < o + ys.length ∧ i < l.length
  · rw [if_pos c]
    have := h3 (i - o) (by omega)
    rw [show o + (i - o) = i from by omega] at this
    exact this.symm
  · rw [if_neg c]
    by_cases c2 : i < l.length
    · exact (h4 i (by omega)).symm
    · rw [List.getElem?_eq_none (by omega), List.getElem?_eq_none (by omega)]
theorem paste_map {α β : Type} (f : α → β) : ∀ (l : List α) (o : Nat) (ys m : List α), paste l o ys = some m → paste (l.map f) o (ys.map f) = some (m.map f)
  | l, 0, [], m, h => by cases l <;> (simp [paste] at h; subst h; simp [paste])
  | [], 0, y :: ys, m, h => by simp [paste] at h
  | [], o + 1, ys, m, h => by simp [paste] at h
  | x :: r, 0, y :: ys, m, h => by
    simp only [paste, List.map_cons] at h ⊢
    cases e : paste r 0 ys with
    | none => rw [e] at h; cases h
    | some l => rw [e] at h; injection h with h; subst h; rw [paste_map f r 0 ys l e]; rfl
  | x :: r, o + 1, ys, m, h => by
    simp only [paste, List.map_cons] at h ⊢
    cases e : paste r o ys with
    | none => rw [e] at h; cases h
    | some l => rw [e] at h; injection h with h; subst h; rw [paste_map f r o ys l e]; rfl
theorem vcells_den (z : Value) (B : BE) : ((vcellsL z).map (AV.den B)).toArray = z.cells := by
  cases z <;> first
    | rfl
    | (simp [vcellsL, Value.cells, AV.den, Function.comp_def])
theorem fill_ok {TT : List TI} (hT : TOk P TT) {fs : List (Nat × Nat)} {place : Nat → Option (Nat × Nat)} (hp : ∀ i o t ti, nth fs i = some (o, t) → tlk t TT = some ti → place i = some (o, ti.sz)) (B : BE) :
    ∀ (ps : List (Nat × SV)) (l m : List AV), fillParts TT fs ps l = some m → Instr.fill place (l.map (AV.den B)).toArray (ps.map fun p => (p.1, p.2.den B)) = some (m.map (AV.den B)).toArray
  | [], l, m, h => by simp [fillParts] at h; subst h; rfl
  | (i, x) :: r, l, m, h => by
    simp only [fillParts] at h
    cases e1 : nth fs i with
    | none => rw [e1] at h; cases h
    | some q =>
      obtain ⟨o, ft⟩ := q
      cases e2 : x.cells with
      | none => rw [e1, e2] at h; cases h
      | some cs =>
        rw [e1, e2] at h
        simp only at h
        cases e3 : tlk ft TT with
        | none => rw [e3] at h; cases h
        | some tf =>
          rw [e3] at h
          simp only at h
          cases e4 : lenEq cs tf.sz with
          | false => rw [e4] at h; cases h
          | true =>
            rw [e4] at h
            simp only [cond_true] at h
            cases e5 : paste l o cs with
            | none => rw [e5] at h; cases h
            | some l' =>
              rw [e5] at h
              have hc := cells_den e2 B
              have hlen := lenEq_spec _ _ e4
              have hsz : (x.den B).cells.size = tf.sz := by rw [← Array.length_toList, hc]; simpa using hlen
              have hA : (x.den B).cells = (cs.map (AV.den B)).toArray := by rw [← hc]
              obtain ⟨p1, p2, _, _⟩ := paste_spec l o cs l' e5
              simp only [List.map_cons, Instr.fill, hp i o ft tf e1 e3]
              rw [if_neg (by
                simp only [hsz, ne_eq, not_true_eq_false, decide_false, Bool.false_or, decide_eq_true_eq, List.size_toArray, List.length_map]
                omega)]
              rw [hA, paste_fold (paste_map (AV.den B) l o cs l' e5)]
              exact fill_ok hT hp B r l' m h
theorem run_mapM_places : ∀ (fs : List Field), (∀ f ∈ fs, ∃ i, P.info? f.type = some i) → ∃ ps : List (Nat × Nat), (fs.mapM fun (f : Field) => do pure (f.offset, ← sizeOf f.type) : Sem (List (Nat × Nat))).run P w = .ok ps w ∧ ∀ (i : Nat) (f : Field), fs[i]? = some f → ∀ inf, P.info? f.type = some inf → ps[i]? = some (f.offset, inf.size)
  | [], _ => ⟨[], by simp, fun i f h => by simp at h⟩
  | f :: r, h => by
    obtain ⟨i, hi⟩ := h f List.mem_cons_self
    obtain ⟨ps, h1, h2⟩ := run_mapM_places r (fun g hg => h g (List.mem_cons_of_mem _ hg))
    refine ⟨(f.offset, i.size) :: ps, ?_, ?_⟩
    · simp only [List.mapM_cons, Sem.run_bind, run_size hi, Result.andThen_ok, Sem.run_pure, h1]
    · intro j g hj inf hinf
      cases j with
      | zero => simp at hj; subst hj; rw [hi] at hinf; injection hinf with hinf; subst hinf; rfl
      | succ j => simp at hj ⊢; exact h2 j g hj inf hinf
end
end Go.Proofs.Ytiilpopeognekaa
