/-
  append; arrays that a literal makes; nil slices as arrays.
-/
import Derived.Test.YtiilpopeognekaaC2
import Derived.Deep.AppendSrc
namespace Go.Proofs.Ytiilpopeognekaa
open Go Go.RowKit
set_option linter.unusedVariables false
set_option linter.unusedSimpArgs false

/-- the rows one behind the other -/
def flatR (rows : Nat → List Value) : Nat → List Value
  | 0 => []
  | n + 1 => flatR rows n ++ rows n
theorem flatR_length {rows : Nat → List Value} {sz : Nat} : ∀ {n : Nat}, (∀ i, i < n → (rows i).length = sz) → (flatR rows n).length = n * sz
  | 0, _ => by simp [flatR]
  | n + 1, h => by rw [flatR, List.length_append, flatR_length fun i hi => h i (by omega), h n (by omega), Nat.add_mul, Nat.one_mul]
theorem flatR_get {rows : Nat → List Value} {sz : Nat} : ∀ {n : Nat}, (∀ i, i < n → (rows i).length = sz) → ∀ {i j : Nat}, i < n → j < sz → (flatR rows n)[i * sz + j]? = (rows i)[j]?
  | 0, _, _, _, hi, _ => absurd hi (Nat.not_lt_zero _)
  | n + 1, h, i, j, hi, hj => by
    have hl := flatR_length (rows := rows) (sz := sz) (n := n) fun i hi => h i (by omega)
    rw [flatR]
    by_cases hin : i < n
    · have h1 : (i + 1) * sz ≤ n * sz := Nat.mul_le_mul_right _ hin
      rw [Nat.add_mul, Nat.one_mul] at h1
      rw [List.getElem?_append_left (by omega)]
      exact flatR_get (fun i hi => h i (by omega)) hin hj
    · have : i = n := by omega
      subst this
      rw [List.getElem?_append_right (by omega), hl]
      congr 1; omega
theorem flatR_cell {rows : Nat → List Value} {sz : Nat} {n k : Nat} (h : ∀ i, i < n → (rows i).length = sz) (hpos : 0 < sz) (hk : k < n * sz) : ∃ q p, q < n ∧ p < sz ∧ k = q * sz + p :=
  ⟨k / sz, k % sz, Nat.div_lt_of_lt_mul (by rwa [Nat.mul_comm]), Nat.mod_lt _ hpos, by rw [Nat.mul_comm]; exact (Nat.div_add_mod k sz).symm⟩
/-- the rows behind an append -/
def appR (n : Nat) (f g : Nat → List Value) : Nat → List Value := fun i => bif Nat.blt i n then f i else g (i - n)
theorem appR_lt {n : Nat} {f g : Nat → List Value} {i : Nat} (h : i < n) : appR n f g i = f i := by
  have : Nat.blt i n = true := by simpa [Nat.blt_eq] using h
  simp [appR, this]
theorem appR_ge {n : Nat} {f g : Nat → List Value} {i : Nat} (h : n ≤ i) : appR n f g i = g (i - n) := by
  have : Nat.blt i n = false := by
    cases e : Nat.blt i n with
    | false => rfl
    | true => rw [Nat.blt_eq] at e; omega
  simp [appR, this]
section
variable {G : AG} {J : Act → World → Prop} {P : Program} {w w0 : World} {B : BE} {r : PH} {D : Nat → Nat → Prop} {mu mu' : Mu} {ga : Ga} {H : Nat → PH} {TT : List TI} {N : Nat} {fr fr' : Fr} {gf gf' : GF} {a : Act} {all : List Oper} {Q : Exit → Act → World → Prop} {rest : List Oper} {o : Oper} {R : Exit → Act → World → Prop} {K : List KF}
theorem run_append {t tx ty : TypeId} {te : TI} (ht : P.underlying t = some (.slice te.id)) (hti : te.ok P) (hpos : 0 < te.sz) (hzs : te.zero.cells.size = te.sz) {key : Nat} {h : PH} {A : Option Addr} {n c : Nat} {f : Nat → List Value} (s : (Ch.arr A n c te.sz f).sat B key h) (hf : Fit h w)
    {x : Value} {m : Nat} {g : Nat → List Value} (hg : ∀ i, i < m → (g i).length = te.sz) (hs : Src P te.sz tx x m (flatR g m) w) (hb : (n + m) * te.by_ ≤ 140737488355328) (hm : n + m ≤ maxL) :
    ∃ A' c' w' h', (Builtin.append_ #[t, tx] ty #[.slice A n c, x]).run P w = .ok (.slice A' (n + m) c') w' ∧ (Ch.arr A' (n + m) c' te.sz (appR n f g)).sat B key h' ∧ Fit h' w' ∧ Keep (fun b o => h b o ≠ none) w w' ∧ ∀ b o, h' b o ≠ none → h b o ≠ none ∨ w.heap.size ≤ b := by
  obtain ⟨i, i1, i2, i3, i4⟩ := hti.info
  obtain ⟨s0, s1, s2⟩ := s
  have hnl := flatR_length hg
  by_cases hroom : n + m ≤ c
  · by_cases h0 : m = 0
    · subst h0
      refine ⟨A, c, w, h, ?_, ⟨hroom, fun i hi => ?_, fun i hi hi2 => s2 i (by omega) hi2⟩, hf, Keep.refl _ _, fun b o hb => .inl hb⟩
      · have hsc := hs.cells
        rw [← i2] at hsc
        simp only [flatR] at hsc
        cases A with
        | none => rcases hs.kind with ⟨e', hk⟩ | hk <;> simp [Builtin.append_, run_underlying ht, run_underlying hk, sizeOf, typeInfo, i1, hs.len, s0, hsc]
        | some a => rcases hs.kind with ⟨e', hk⟩ | hk <;> simp [Builtin.append_, run_underlying ht, run_underlying hk, sizeOf, typeInfo, i1, hs.len, s0, hsc, storeCells]
      · rw [appR_lt (by omega)]; exact s1 i (by omega)
    · obtain ⟨b, o, rfl, hsp⟩ := s2 n (Nat.le_refl _) (by omega)
      have hin : ∀ j, j < (flatR g m).length → h b (o + n * te.sz + j) ≠ none := fun j hj => by
        rw [hnl] at hj
        obtain ⟨q, p, c1, c2, rfl⟩ := flatR_cell hg hpos hj
        obtain ⟨b', o', e, hsp'⟩ := s2 (n + q) (by omega) (by omega)
        injection e with e
        injection e with e1 e2
        subst e1; subst e2
        have := hsp' _ c2
        rwa [Nat.add_mul, show o + (n * te.sz + q * te.sz) + p = o + n * te.sz + (q * te.sz + p) from by omega] at this
      have hcell : ∀ j, j < (flatR g m).length → (w.cell? ⟨b, o + n * te.sz + j, none⟩).isSome = true ∧ w.frozen? ⟨b, o + n * te.sz + j, none⟩ = false := fun j hj => by
        cases e : h b (o + n * te.sz + j) with
        | none => exact absurd e (hin j hj)
        | some v => obtain ⟨f1, f2⟩ := hf _ _ _ e; exact ⟨by rw [f1]; rfl, f2⟩
      have hrun := run_append_room_src (P := P) w t tx ty te.id i ht i1 b o n c x m (flatR g m) (by rw [i2]; exact hs) hroom (by rw [i2]; exact fun j hj => (hcell j hj).1) (by rw [i2]; exact fun j hj => (hcell j hj).2)
      rw [i2] at hrun
      have hone : ∀ v ∈ flatR g m, oneV v = true := fun v hv => by
        have := hs.one v hv
        cases v <;> first | rfl | cases this
      obtain ⟨w', r1, r2, r3, r4⟩ := run_storeCells (P := P) (flatR g m) w b (o + n * te.sz) 0 h hf (by simpa using hin) hone
      have r1' := run_storeCells_cells (P := P) b (o + n * te.sz) (flatR g m) 0 w (by simpa using fun j hj => (hcell j hj).1) (by simpa using fun j hj => (hcell j hj).2) hs.one
      rw [r1'] at r1
      injection r1 with _ r1
      simp only [Nat.add_zero] at r1 r2 r3
      subst r1
      refine ⟨_, c, _, _, hrun, ⟨hroom, fun k hk => ?_, fun k hk hk2 => ?_⟩, r2, r3.mono fun x _ y hxy => ?_, fun b' o' hb' => .inl (PH.updL_ne hin hb')⟩
      · refine ⟨b, o, rfl, ?_⟩
        by_cases hkn : k < n
        · rw [appR_lt hkn]
          obtain ⟨b', o', e, q1, q2⟩ := s1 k hkn
          injection e with e
          injection e with e1 e2
          subst e1; subst e2
          refine ⟨q1, fun j hj => ?_⟩
          have h1 : (k + 1) * te.sz ≤ n * te.sz := Nat.mul_le_mul_right _ hkn
          rw [Nat.add_mul, Nat.one_mul] at h1
          rw [PH.updL_out _ (by omega)]
          exact q2 j hj
        · rw [appR_ge (by omega)]
          refine ⟨hg _ (by omega), fun j hj => ?_⟩
          have h1 : (k - n + 1) * te.sz ≤ m * te.sz := Nat.mul_le_mul_right _ (by omega)
          rw [Nat.add_mul, Nat.one_mul] at h1
          have h2 : k * te.sz = n * te.sz + (k - n) * te.sz := by rw [← Nat.add_mul]; congr 1; omega
          rw [show o + k * te.sz + j = o + n * te.sz + ((k - n) * te.sz + j) from by omega, PH.updL_in _ _ _ _ (by omega), flatR_get hg (by omega) hj]
      · obtain ⟨b', o', e, q⟩ := s2 k (by omega) hk2
        injection e with e
        injection e with e1 e2
        subst e1; subst e2
        refine ⟨b, o, rfl, fun j hj => ?_⟩
        by_cases c : o + n * te.sz ≤ o + k * te.sz + j ∧ o + k * te.sz + j < o + n * te.sz + (flatR g m).length
        · rw [show o + k * te.sz + j = o + n * te.sz + (k * te.sz + j - n * te.sz) from by omega, PH.updL_in _ _ _ _ (by omega), List.getElem?_eq_getElem (by omega)]; simp
        · rw [PH.updL_out _ (by omega)]; exact q j hj
      · obtain ⟨rfl, c1, c2⟩ := hxy
        have := hin (y - (o + n * te.sz)) (by omega)
        rwa [show o + n * te.sz + (y - (o + n * te.sz)) = y from by omega] at this
  · have hol : (flatR f n).length = n * te.sz := flatR_length fun i hi => by obtain ⟨_, _, _, q, _⟩ := s1 i hi; exact q
    have hold : (Builtin.firstCells i.size n (.slice A n c)).run P w.drew = .ok (flatR f n).toArray w.drew := by
      cases A with
      | none =>
        have h0 : n = 0 := by
          rcases Nat.eq_zero_or_pos n with h | h
          · exact h
          · obtain ⟨_, _, e, _⟩ := s1 0 h; cases e
        subst h0
        exact run_firstCells_none w.drew i.size 0 0 c
      | some ad =>
        refine run_firstCells_some (P := P) w.drew i.size n ad n c (flatR f n) (by rw [i2]; exact hol) fun k v hk => ?_
        have hlt : k < n * te.sz := by rw [← hol]; exact (List.getElem?_eq_some_iff.1 hk).1
        have hlen : ∀ i, i < n → (f i).length = te.sz := fun i hi => by obtain ⟨_, _, _, q, _⟩ := s1 i hi; exact q
        obtain ⟨q, p, c1, c2, rfl⟩ := flatR_cell hlen hpos hlt
        obtain ⟨b, o, e, q1, q2⟩ := s1 _ c1
        injection e with e
        subst e
        have h1 := flatR_get hlen c1 c2
        rw [hk, ← q2 _ c2] at h1
        have h2 := (hf _ _ _ h1.symm).1
        rw [add_mk, ← Nat.add_assoc]
        exact h2
    have hrun := run_append_grow_src (P := P) w t tx ty te.id i te.zero ht i1 i4 A n c (flatR f n) hold x m (flatR g m) (by rw [i2]; exact hs) (by omega) (by unfold maxL at hm; omega) (growslice_fits (by omega) (by rw [i3]; exact hb))
    generalize hcc : grownCap w (n + m) c te.id = cc at hrun
    have hge : n + m ≤ cc := by rw [← hcc]; exact grownCap_ge _ _ _ _
    generalize hcs : ((flatR f n ++ flatR g m).toArray ++ Builtin.zeroCells te.zero.cells (cc - (n + m))) = cs at hrun
    have hsz : cs.size = cc * te.sz := by
      rw [← hcs]
      simp only [Array.size_append, List.size_toArray, List.length_append, size_zeroCells, hzs, hol, hnl, ← Nat.add_mul]
      congr 1; omega
    have hfit : Fit (PH.row w.heap.size 0 cs.toList) (w.drew.alloc (.cells cs te.id)) := by
      have := Fit.alloc w.drew cs.toList te.id
      simpa using this
    have hrow : ∀ k, PH.row w.heap.size 0 cs.toList w.heap.size k = cs[k]? := fun k => by
      have := PH.row_at (b := w.heap.size) (off := 0) (l := cs.toList) k
      rw [Nat.zero_add] at this
      rw [this, Array.getElem?_toList]
    have hlen : ∀ i, i < n → (f i).length = te.sz := fun i hi => by obtain ⟨_, _, _, q, _⟩ := s1 i hi; exact q
    refine ⟨_, cc, _, _, hrun, ⟨hge, fun k hk => ⟨w.heap.size, 0, rfl, ?_⟩, fun k hk hk2 => ⟨w.heap.size, 0, rfl, fun j hj => ?_⟩⟩, hfit, ?_, fun b o hb => .inr (by rw [PH.row_ne hb]; exact Nat.le_refl _)⟩
    · have hcsk : ∀ q, q < (n + m) * te.sz → cs[q]? = (flatR f n ++ flatR g m)[q]? := fun q hq => by
        rw [← hcs, Array.getElem?_append_left (by simp only [List.size_toArray, List.length_append, hol, hnl, ← Nat.add_mul]; exact hq)]
        simp
      have hkq : ∀ j, j < te.sz → k * te.sz + j < (n + m) * te.sz := fun j hj => by
        have h1 : (k + 1) * te.sz ≤ (n + m) * te.sz := Nat.mul_le_mul_right _ hk
        rw [Nat.add_mul, Nat.one_mul] at h1
        omega
      by_cases hkn : k < n
      · rw [appR_lt hkn]
        refine ⟨hlen k hkn, fun j hj => ?_⟩
        have h1 : (k + 1) * te.sz ≤ n * te.sz := Nat.mul_le_mul_right _ hkn
        rw [Nat.add_mul, Nat.one_mul] at h1
        rw [Nat.zero_add, hrow, hcsk _ (hkq j hj), List.getElem?_append_left (by omega), flatR_get hlen hkn hj]
      · rw [appR_ge (by omega)]
        refine ⟨hg _ (by omega), fun j hj => ?_⟩
        have h2 : k * te.sz = n * te.sz + (k - n) * te.sz := by rw [← Nat.add_mul]; congr 1; omega
        rw [Nat.zero_add, hrow, hcsk _ (hkq j hj), List.getElem?_append_right (by omega), hol, show k * te.sz + j - n * te.sz = (k - n) * te.sz + j from by omega, flatR_get hg (by omega) hj]
    · have h1 : (k + 1) * te.sz ≤ cc * te.sz := Nat.mul_le_mul_right _ hk2
      rw [Nat.add_mul, Nat.one_mul] at h1
      rw [Nat.zero_add, hrow, Array.getElem?_eq_getElem (by omega)]; simp
    · exact ((Keep.drew w).mono fun _ _ _ h => h.elim).trans (Keep.alloc w.drew _) fun _ _ h => h.elim
end
end Go.Proofs.Ytiilpopeognekaa
