
/-
  append, and what it rests on.
  Operations that make or turn arrays.
  Views that take a chunk and give a chunk; clear; a slice against nil.
  clear; a slice against nil; append of what is read; make; literals.
-/
import Derived.Test.YtpfcfepbhdkpdaaGreatWD
import Derived.Deep.AppendSrc
namespace Go.Proofs.YtpfcfepbhdkpdaaGreat
open Go Go.RowKit
set_option linter.unusedVariables false
set_option linter.unusedSimpArgs false

section
/-- the rows one behind the other -/
def flatR (rows : Nat → List Value) : Nat → List Value
  | 0 => []
  | n + 1 => flatR rows n ++ rows n
theorem flatR_length {rows : Nat → List Value} {sz : Nat} : ∀ {n : Nat}, (∀ i, i < n → (rows i).length = sz) → (flatR rows n).length = n * sz
  | 0, _ => by simp [flatR]
  | n + 1, h => by rw [flatR, List.length_append, flatR_length fun i hi => h i (by omega), h n (by omega), Nat.add_mul, Nat.one_mul]
theorem flatR_get {rows : Nat → List Value} {sz : Nat} : ∀ {n : Nat}, (∀ i, i < n → (rows i).length = sz) → ∀ {i j : Nat}, i < n → j < sz → (flatR rows n)[i * sz + j]? = (rows i)[j]?
  | 0, _, _, _, hi, _ => absurd hi (Nat.not_lt_zero _)
  | n + 1, h, i, j, hi, hj => by
    have hl := flatR_length (rows := rows) (sz := sz) (n := n) fun i hi => h i (by omega)
    rw [flatR]
    by_cases hin : i < n
    · have h1 : (i + 1) * sz ≤ n * sz := Nat.mul_le_mul_right _ hin
      rw [Nat.add_mul, Nat.one_mul] at h1
      rw [List.getElem?_append_left (by omega)]
      exact flatR_get (fun i hi => h i (by omega)) hin hj
    · have : i = n := by omega
      subst this
      rw [List.getElem?_append_right (by omega), hl]
      congr 1; omega
theorem flatR_cell {rows : Nat → List Value} {sz : Nat} {n k : Nat} (h : ∀ i, i < n → (rows i).length = sz) (hpos : 0 < sz) (hk : k < n * sz) : ∃ q p, q < n ∧ p < sz ∧ k = q * sz + p :=
  ⟨k / sz, k % sz, Nat.div_lt_of_lt_mul (by rwa [Nat.mul_comm]), Nat.mod_lt _ hpos, by rw [Nat.mul_comm]; exact (Nat.div_add_mod k sz).symm⟩
/-- the rows behind an append -/
def appR (n : Nat) (f g : Nat → List Value) : Nat → List Value := fun i => bif Nat.blt i n then f i else g (i - n)
theorem appR_lt {n : Nat} {f g : Nat → List Value} {i : Nat} (h : i < n) : appR n f g i = f i := by
  have : Nat.blt i n = true := by simpa [Nat.blt_eq] using h
  simp [appR, this]
theorem appR_ge {n : Nat} {f g : Nat → List Value} {i : Nat} (h : n ≤ i) : appR n f g i = g (i - n) := by
  have : Nat.blt i n = false := by
    cases e : Nat.blt i n with
    | false => rfl
    | true => rw [Nat.blt_eq] at e; omega
  simp [appR, this]
/-- an array's cells -/
def VA (A : Option Addr) (n c sz : Nat) (rows : Nat → List Value) (h : PH) : Prop := n ≤ c ∧ (∀ i, i < n → ∃ b o, A = some ⟨b, o, none⟩ ∧ (rows i).length = sz ∧ ∀ j, j < sz → h b (o + i * sz + j) = (rows i)[j]?) ∧
  (∀ i, n ≤ i → i < c → ∃ b o, A = some ⟨b, o, none⟩ ∧ ∀ j, j < sz → h b (o + i * sz + j) ≠ none)
section
variable {P : Program} {w : World}
theorem run_append {t tx ty : TypeId} {te : TI} (ht : P.underlying t = some (.slice te.id)) (hti : te.ok P) (hpos : 0 < te.sz) (hzs : te.zero.cells.size = te.sz) {h : PH} {A : Option Addr} {n c : Nat} {f : Nat → List Value} (s : VA A n c te.sz f h) (hf : FitO h w)
    {x : Value} {m : Nat} {g : Nat → List Value} (hg : ∀ i, i < m → (g i).length = te.sz) (hs : Src P te.sz tx x m (flatR g m) w) (hb : (n + m) * te.by_ ≤ 140737488355328) (hm : n + m ≤ maxL) :
    ∃ A' c' w' h', (Builtin.append_ #[t, tx] ty #[.slice A n c, x]).run P w = .ok (.slice A' (n + m) c') w' ∧ VA A' (n + m) c' te.sz (appR n f g) h' ∧ FitO h' w' ∧ Keep (fun b o => h b o ≠ none) w w' ∧ ∀ b o, h' b o ≠ none → h b o ≠ none ∨ w.heap.size ≤ b := by
  obtain ⟨i, i1, i2, i3, i4⟩ := hti.info
  obtain ⟨s0, s1, s2⟩ := s
  have hnl := flatR_length hg
  by_cases hroom : n + m ≤ c
  · by_cases h0 : m = 0
    · subst h0
      refine ⟨A, c, w, h, ?_, ⟨hroom, fun i hi => ?_, fun i hi hi2 => s2 i (by omega) hi2⟩, hf, Keep.refl _ _, fun b o hb => .inl hb⟩
      · have hsc := hs.cells
        rw [← i2] at hsc
        simp only [flatR] at hsc
        cases A with
        | none => rcases hs.kind with ⟨e', hk⟩ | hk <;> simp [Builtin.append_, run_underlying ht, run_underlying hk, sizeOf, typeInfo, i1, hs.len, s0, hsc]
        | some a => rcases hs.kind with ⟨e', hk⟩ | hk <;> simp [Builtin.append_, run_underlying ht, run_underlying hk, sizeOf, typeInfo, i1, hs.len, s0, hsc, storeCells]
      · rw [appR_lt (by omega)]; exact s1 i (by omega)
    · obtain ⟨b, o, rfl, hsp⟩ := s2 n (Nat.le_refl _) (by omega)
      have hin : ∀ j, j < (flatR g m).length → h b (o + n * te.sz + j) ≠ none := fun j hj => by
        rw [hnl] at hj
        obtain ⟨q, p, c1, c2, rfl⟩ := flatR_cell hg hpos hj
        obtain ⟨b', o', e, hsp'⟩ := s2 (n + q) (by omega) (by omega)
        injection e with e
        injection e with e1 e2
        subst e1; subst e2
        have := hsp' _ c2
        rwa [Nat.add_mul, show o + (n * te.sz + q * te.sz) + p = o + n * te.sz + (q * te.sz + p) from by omega] at this
      have hcell : ∀ j, j < (flatR g m).length → (w.cell? ⟨b, o + n * te.sz + j, none⟩).isSome = true ∧ w.frozen? ⟨b, o + n * te.sz + j, none⟩ = false := fun j hj => by
        cases e : h b (o + n * te.sz + j) with
        | none => exact absurd e (hin j hj)
        | some v => obtain ⟨f1, f2⟩ := hf.fit _ _ _ e; exact ⟨by rw [f1]; rfl, f2⟩
      have hrun := run_append_room_src (P := P) w t tx ty te.id i ht i1 b o n c x m (flatR g m) (by rw [i2]; exact hs) hroom (by rw [i2]; exact fun j hj => (hcell j hj).1) (by rw [i2]; exact fun j hj => (hcell j hj).2)
      rw [i2] at hrun
      have hone : ∀ v ∈ flatR g m, oneV v = true := fun v hv => by
        have := hs.one v hv
        cases v <;> first | rfl | cases this
      obtain ⟨w', r1, r2, r3, r4⟩ := run_storeCells (P := P) (flatR g m) w b (o + n * te.sz) 0 h hf.fit (by simpa using hin) hone
      have r1' := run_storeCells_cells (P := P) b (o + n * te.sz) (flatR g m) 0 w (by simpa using fun j hj => (hcell j hj).1) (by simpa using fun j hj => (hcell j hj).2) hs.one
      rw [r1'] at r1
      injection r1 with _ r1
      simp only [Nat.add_zero] at r1 r2 r3
      subst r1
      refine ⟨_, c, _, _, hrun, ⟨hroom, fun k hk => ?_, fun k hk hk2 => ?_⟩, hf.turn r2 r3 fun b' o' hb' => ⟨o', PH.updL_ne hin hb'⟩, r3.mono fun x _ y hxy => ?_, fun b' o' hb' => .inl (PH.updL_ne hin hb')⟩
      · refine ⟨b, o, rfl, ?_⟩
        by_cases hkn : k < n
        · rw [appR_lt hkn]
          obtain ⟨b', o', e, q1, q2⟩ := s1 k hkn
          injection e with e
          injection e with e1 e2
          subst e1; subst e2
          refine ⟨q1, fun j hj => ?_⟩
          have h1 : (k + 1) * te.sz ≤ n * te.sz := Nat.mul_le_mul_right _ hkn
          rw [Nat.add_mul, Nat.one_mul] at h1
          rw [PH.updL_out _ (by omega)]
          exact q2 j hj
        · rw [appR_ge (by omega)]
          refine ⟨hg _ (by omega), fun j hj => ?_⟩
          have h1 : (k - n + 1) * te.sz ≤ m * te.sz := Nat.mul_le_mul_right _ (by omega)
          rw [Nat.add_mul, Nat.one_mul] at h1
          have h2 : k * te.sz = n * te.sz + (k - n) * te.sz := by rw [← Nat.add_mul]; congr 1; omega
          rw [show o + k * te.sz + j = o + n * te.sz + ((k - n) * te.sz + j) from by omega, PH.updL_in _ _ _ _ (by omega), flatR_get hg (by omega) hj]
      · obtain ⟨b', o', e, q⟩ := s2 k (by omega) hk2
        injection e with e
        injection e with e1 e2
        subst e1; subst e2
        refine ⟨b, o, rfl, fun j hj => ?_⟩
        by_cases c : o + n * te.sz ≤ o + k * te.sz + j ∧ o + k * te.sz + j < o + n * te.sz + (flatR g m).length
        · rw [show o + k * te.sz + j = o + n * te.sz + (k * te.sz + j - n * te.sz) from by omega, PH.updL_in _ _ _ _ (by omega), List.getElem?_eq_getElem (by omega)]; simp
        · rw [PH.updL_out _ (by omega)]; exact q j hj
      · obtain ⟨rfl, c1, c2⟩ := hxy
        have := hin (y - (o + n * te.sz)) (by omega)
        rwa [show o + n * te.sz + (y - (o + n * te.sz)) = y from by omega] at this
  · have hol : (flatR f n).length = n * te.sz := flatR_length fun i hi => by obtain ⟨_, _, _, q, _⟩ := s1 i hi; exact q
    have hold : (Builtin.firstCells i.size n (.slice A n c)).run P w.drew = .ok (flatR f n).toArray w.drew := by
      cases A with
      | none =>
        have h0 : n = 0 := by
          rcases Nat.eq_zero_or_pos n with h | h
          · exact h
          · obtain ⟨_, _, e, _⟩ := s1 0 h; cases e
        subst h0
        exact run_firstCells_none w.drew i.size 0 0 c
      | some ad =>
        refine run_firstCells_some (P := P) w.drew i.size n ad n c (flatR f n) (by rw [i2]; exact hol) fun k v hk => ?_
        have hlt : k < n * te.sz := by rw [← hol]; exact (List.getElem?_eq_some_iff.1 hk).1
        have hlen : ∀ i, i < n → (f i).length = te.sz := fun i hi => by obtain ⟨_, _, _, q, _⟩ := s1 i hi; exact q
        obtain ⟨q, p, c1, c2, rfl⟩ := flatR_cell hlen hpos hlt
        obtain ⟨b, o, e, q1, q2⟩ := s1 _ c1
        injection e with e
        subst e
        have h1 := flatR_get hlen c1 c2
        rw [hk, ← q2 _ c2] at h1
        have h2 := (hf.fit _ _ _ h1.symm).1
        rw [add_mk, ← Nat.add_assoc]
        exact h2
    have hrun := run_append_grow_src (P := P) w t tx ty te.id i te.zero ht i1 i4 A n c (flatR f n) hold x m (flatR g m) (by rw [i2]; exact hs) (by omega) (by unfold maxL at hm; omega) (growslice_fits (by omega) (by rw [i3]; exact hb))
    generalize hcc : grownCap w (n + m) c te.id = cc at hrun
    have hge : n + m ≤ cc := by rw [← hcc]; exact grownCap_ge _ _ _ _
    generalize hcs : ((flatR f n ++ flatR g m).toArray ++ Builtin.zeroCells te.zero.cells (cc - (n + m))) = cs at hrun
    have hsz : cs.size = cc * te.sz := by
      rw [← hcs]
      simp only [Array.size_append, List.size_toArray, List.length_append, size_zeroCells, hzs, hol, hnl, ← Nat.add_mul]
      congr 1; omega
    have hfit : FitO (PH.row w.heap.size 0 cs.toList) (w.drew.alloc (.cells cs te.id)) := by
      have := FitO.alloc w.drew cs.toList te.id
      simpa using this
    have hrow : ∀ k, PH.row w.heap.size 0 cs.toList w.heap.size k = cs[k]? := fun k => by
      have := PH.row_at (b := w.heap.size) (off := 0) (l := cs.toList) k
      rw [Nat.zero_add] at this
      rw [this, Array.getElem?_toList]
    have hlen : ∀ i, i < n → (f i).length = te.sz := fun i hi => by obtain ⟨_, _, _, q, _⟩ := s1 i hi; exact q
    refine ⟨_, cc, _, _, hrun, ⟨hge, fun k hk => ⟨w.heap.size, 0, rfl, ?_⟩, fun k hk hk2 => ⟨w.heap.size, 0, rfl, fun j hj => ?_⟩⟩, hfit, ?_, fun b o hb => .inr (by rw [PH.row_ne hb]; exact Nat.le_refl _)⟩
    · have hcsk : ∀ q, q < (n + m) * te.sz → cs[q]? = (flatR f n ++ flatR g m)[q]? := fun q hq => by
        rw [← hcs, Array.getElem?_append_left (by simp only [List.size_toArray, List.length_append, hol, hnl, ← Nat.add_mul]; exact hq)]
        simp
      have hkq : ∀ j, j < te.sz → k * te.sz + j < (n + m) * te.sz := fun j hj => by
        have h1 : (k + 1) * te.sz ≤ (n + m) * te.sz := Nat.mul_le_mul_right _ hk
        rw [Nat.add_mul, Nat.one_mul] at h1
        omega
      by_cases hkn : k < n
      · rw [appR_lt hkn]
        refine ⟨hlen k hkn, fun j hj => ?_⟩
        have h1 : (k + 1) * te.sz ≤ n * te.sz := Nat.mul_le_mul_right _ hkn
        rw [Nat.add_mul, Nat.one_mul] at h1
        rw [Nat.zero_add, hrow, hcsk _ (hkq j hj), List.getElem?_append_left (by omega), flatR_get hlen hkn hj]
      · rw [appR_ge (by omega)]
        refine ⟨hg _ (by omega), fun j hj => ?_⟩
        have h2 : k * te.sz = n * te.sz + (k - n) * te.sz := by rw [← Nat.add_mul]; congr 1; omega
        rw [Nat.zero_add, hrow, hcsk _ (hkq j hj), List.getElem?_append_right (by omega), hol, show k * te.sz + j - n * te.sz = (k - n) * te.sz + j from by omega, flatR_get hg (by omega) hj]
    · have h1 : (k + 1) * te.sz ≤ cc * te.sz := Nat.mul_le_mul_right _ hk2
      rw [Nat.add_mul, Nat.one_mul] at h1
      rw [Nat.zero_add, hrow, Array.getElem?_eq_getElem (by omega)]; simp
    · exact ((Keep.drew w).mono fun _ _ _ h => h.elim).trans (Keep.alloc w.drew _) fun _ _ h => h.elim
end
/-- an owned slice: its cells, and its elements' parts -/
theorem own_VA {h : PH} {sz n : Nat} {f : Nat → List D} {y : Value} (e : D.own h (.sl sz n f) y) : ∃ (A : Option Addr) (c : Nat) (row : Nat → List Value) (hc hp : PH) (G : Nat → PH), y = .slice A n c ∧ n ≤ maxL ∧ VA A n c sz row hc ∧ hc.le h ∧ hp.le h ∧ hc.dj hp ∧ (∀ i, i < n → D.owns (G i) (f i) (row i) ∧ (row i).length = sz) ∧ (∀ i, (G i).le hp) ∧ ∀ i j, i ≠ j → (G i).dj (G j) := by
  obtain ⟨A, c, e1, e2, e3, e4⟩ := e
  rcases e4 with rfl | ⟨b, o, row, G, rfl, g1, g2, g3⟩
  · have : n = 0 := by omega
    subst this
    exact ⟨A, 0, fun _ => [], PH.emp, PH.emp, fun _ => PH.emp, e1, e3, ⟨Nat.le_refl _, fun i hi => absurd hi (Nat.not_lt_zero _), fun i _ hi => absurd hi (Nat.not_lt_zero _)⟩, PH.emp_le _, PH.emp_le _, PH.emp_dj _, fun i hi => absurd hi (Nat.not_lt_zero _), fun _ => PH.emp_le _, fun _ _ _ => PH.emp_dj _⟩
  · have hcap : ∀ j : Nat, j < c → j * sz + sz ≤ c * sz := fun j hj => by
      have := Nat.mul_le_mul_right sz (show j + 1 ≤ c from hj)
      rwa [Nat.add_mul, Nat.one_mul] at this
    let hc : PH := fun x y => if x = b ∧ o ≤ y ∧ y < o + c * sz then h x y else none
    have lc : hc.le h := fun x y v hv => by
      simp only [hc] at hv
      split at hv
      · exact hv
      · cases hv
    have inC : ∀ i j, i < c → j < sz → hc b (o + i * sz + j) = h b (o + i * sz + j) := fun i j hi hj => by
      have := hcap i hi
      simp only [hc]
      rw [if_pos ⟨trivial, by omega, by omega⟩]
    refine ⟨some ⟨b, o, none⟩, c, row, hc, h.sub hc, G, e1, e3, ⟨e2, fun i hi => ⟨b, o, rfl, (g1 i hi).2.1, fun j hj => ?_⟩, fun i hi hi2 => ⟨b, o, rfl, fun j hj => ?_⟩⟩, lc, PH.sub_le _ _, PH.dj_symm (PH.sub_dj _ _), fun i hi => ⟨(g1 i hi).1, (g1 i hi).2.1⟩, fun i => PH.le_sub (g3.1 i) fun x y => ?_, g3.2.1⟩
    · rw [inC i j (by omega) hj]; exact (g1 i hi).2.2 j hj
    · rw [inC i j hi2 hj]; exact g2 i hi hi2 j hj
    · simp only [hc]
      split
      · rename_i hx; left; rw [hx.1]; exact g3.2.2 i y hx.2.1 hx.2.2
      · exact .inr rfl
theorem VA_own {A : Option Addr} {n c sz : Nat} {row : Nat → List Value} {hc hp h : PH} {G : Nat → PH} {f : Nat → List D} (va : VA A n c sz row hc) (hn : n ≤ maxL) (lc : hc.le h) (lp : hp.le h) (d : hc.dj hp) (ho : ∀ i, i < n → D.owns (G i) (f i) (row i)) (hG : ∀ i, i < n → (G i).le hp) (hd : ∀ i j, i < n → j < n → i ≠ j → (G i).dj (G j)) : D.own h (.sl sz n f) (.slice A n c) := by
  obtain ⟨v1, v2, v3⟩ := va
  refine ⟨A, c, rfl, v1, hn, ?_⟩
  rcases Nat.eq_zero_or_pos c with h0 | h0
  · exact .inl h0
  · obtain ⟨b, o, rfl⟩ : ∃ b o, A = some ⟨b, o, none⟩ := by
      rcases Nat.eq_zero_or_pos n with h1 | h1
      · obtain ⟨b, o, e, _⟩ := v3 0 (by omega) h0; exact ⟨b, o, e⟩
      · obtain ⟨b, o, e, _⟩ := v2 0 h1; exact ⟨b, o, e⟩
    have inC : ∀ y, o ≤ y → y < o + c * sz → hc b y ≠ none := fun y y1 y2 => by
      have hz : 0 < sz := by
        rcases Nat.eq_zero_or_pos sz with h | h
        · subst h; simp at y2; omega
        · exact h
      have hq : (y - o) / sz < c := Nat.div_lt_of_lt_mul (by rw [Nat.mul_comm]; omega)
      have hm : (y - o) % sz < sz := Nat.mod_lt _ hz
      have hy : y = o + (y - o) / sz * sz + (y - o) % sz := by
        have := Nat.div_add_mod (y - o) sz
        rw [Nat.mul_comm] at this
        omega
      by_cases hjn : (y - o) / sz < n
      · obtain ⟨b', o', e, s2, s3⟩ := v2 _ hjn
        injection e with e
        injection e with e5 e6
        subst e5; subst e6
        have := s3 _ hm
        rw [← hy] at this
        rw [this, List.getElem?_eq_getElem (by omega)]; simp
      · obtain ⟨b', o', e, s3⟩ := v3 _ (by omega) hq
        injection e with e
        injection e with e5 e6
        subst e5; subst e6
        have := s3 _ hm
        rwa [← hy] at this
    refine .inr ⟨b, o, row, fun i => if i < n then G i else PH.emp, rfl, fun i hi => ?_, fun i hi hi2 j hj => ?_, fun i => ?_, fun i j hij => ?_, fun i x x1 x2 => ?_⟩
    · obtain ⟨b', o', e, s2, s3⟩ := v2 i hi
      injection e with e
      injection e with e5 e6
      subst e5; subst e6
      exact ⟨by dsimp only; rw [if_pos hi]; exact ho i hi, s2, fun j hj => le_cell lc s2 hj (s3 j hj)⟩
    · obtain ⟨b', o', e, s3⟩ := v3 i hi hi2
      injection e with e
      injection e with e5 e6
      subst e5; subst e6
      exact le_ne lc (s3 j hj)
    · dsimp only
      by_cases hi : i < n
      · rw [if_pos hi]; exact PH.le_trans (hG i hi) lp
      · rw [if_neg hi]; exact PH.emp_le _
    · dsimp only
      by_cases hi : i < n
      · rw [if_pos hi]
        by_cases hj : j < n
        · rw [if_pos hj]; exact hd i j hi hj hij
        · rw [if_neg hj]; exact PH.dj_emp _
      · rw [if_neg hi]; exact PH.emp_dj _
    · dsimp only
      by_cases hi : i < n
      · rw [if_pos hi]
        cases e : G i b x with
        | none => rfl
        | some u =>
          have h1 := hG i hi b x u e
          rcases d b x with h2 | h2
          · exact absurd h2 (inC x x1 x2)
          · rw [h1] at h2; cases h2
      · rw [if_neg hi]; rfl
def appD (n : Nat) (f g : Nat → List D) : Nat → List D := fun i => bif Nat.blt i n then f i else g (i - n)
theorem appD_lt {n : Nat} {f g : Nat → List D} {i : Nat} (h : i < n) : appD n f g i = f i := by
  have : Nat.blt i n = true := by simpa [Nat.blt_eq] using h
  simp [appD, this]
theorem appD_ge {n : Nat} {f g : Nat → List D} {i : Nat} (h : n ≤ i) : appD n f g i = g (i - n) := by
  have : Nat.blt i n = false := by
    cases e : Nat.blt i n with
    | false => rfl
    | true => rw [Nat.blt_eq] at e; omega
  simp [appD, this]
theorem flat_owns {h : PH} : ∀ {l : List Value}, D.owns h (l.map D.v) l
  | [] => rfl
  | x :: r => ⟨x, r, PH.emp, h, rfl, PH.emp_le _, PH.le_refl _, PH.emp_dj _, rfl, flat_owns⟩
theorem flat_rds {h : PH} : ∀ {l m : List Value}, D.rds h (l.map D.v) m → m = l
  | [], _, e => e
  | x :: r, _, e => by
    obtain ⟨a, t, rfl, e2, e3⟩ := e
    have e2 : a = x := e2
    rw [e2, flat_rds e3]
section
variable {P : Program} {w : World}
/-- append, where the source's elements come along with their parts (lying in hx, apart from h) -/
theorem run_appD {t tx ty : TypeId} {te : TI} (ht : P.underlying t = some (.slice te.id)) (hti : te.ok P) (hpos : 0 < te.sz) (hzs : te.zero.cells.size = te.sz) {h : PH} {n : Nat} {f : Nat → List D} {y : Value} (s : D.own h (.sl te.sz n f) y) (hf : FitO h w)
    {x : Value} {m : Nat} {g : Nat → List D} {rx : Nat → List Value} {hx : PH} {G : Nat → PH} (hs : Src P te.sz tx x m (flatR rx m) w) (hg : ∀ i, i < m → D.owns (G i) (g i) (rx i) ∧ (rx i).length = te.sz) (hGl : ∀ i, i < m → (G i).le hx) (hGd : ∀ i j, i ≠ j → (G i).dj (G j)) (hfx : FitO hx w) (hd : h.dj hx) (hb : (n + m) * te.by_ ≤ 140737488355328) (hm : n + m ≤ maxL) :
    ∃ v w' h', (Builtin.append_ #[t, tx] ty #[y, x]).run P w = .ok v w' ∧ oneV v = true ∧ D.own h' (.sl te.sz (n + m) (appD n f g)) v ∧ FitO h' w' ∧ Keep (fun b o => h b o ≠ none) w w' ∧ ∀ b o, h' b o ≠ none → h b o ≠ none ∨ hx b o ≠ none ∨ w.heap.size ≤ b := by
  obtain ⟨A, c, row, hc, hp, Gs, rfl, s1, va, lc, lp, dcp, s2, s3, s4⟩ := own_VA s
  obtain ⟨A', c', w', h1, r1, r2, r3, r4, r5⟩ := run_append (P := P) (w := w) (ty := ty) ht hti hpos hzs va (hf.le lc) (fun i hi => (hg i hi).2) hs hb hm
  have keep : ∀ k : PH, FitO k w → hc.dj k → FitO k w' := fun k fk d => fk.keep r4 fun b o e h2 => by
    rcases d b o with h3 | h3
    · exact h2 h3
    · exact e h3
  have d1 : ∀ k : PH, FitO k w → hc.dj k → h1.dj k := fun k fk d b o => by
    cases e : k b o with
    | none => exact .inr rfl
    | some u =>
      left
      cases e2 : h1 b o with
      | none => rfl
      | some u2 =>
        rcases r5 b o (by rw [e2]; simp) with h3 | h3
        · rcases d b o with h4 | h4
          · exact absurd h4 h3
          · rw [e] at h4; cases h4
        · have := fk.lt (b := b) (o := o) (by rw [e]; simp)
          omega
  have dpx : hp.dj hx := PH.dj_le hd lp (PH.le_refl _)
  have dcx : hc.dj hx := PH.dj_le hd lc (PH.le_refl _)
  have da : h1.dj (hp.un hx) := PH.dj_un (d1 _ (hf.le lp) dcp) (d1 _ hfx dcx)
  refine ⟨_, w', h1.un (hp.un hx), r1, rfl, VA_own (G := fun i => if i < n then Gs i else G (i - n)) r2 hm (PH.le_un_left _ _) (PH.le_un_right da) da (fun i hi => ?_) (fun i hi => ?_) (fun i j hi hj hij => ?_), r3.un ((keep _ (hf.le lp) dcp).un (keep _ hfx dcx)), r4.mono fun b _ o h => le_ne lc h, fun b o e => ?_⟩
  · by_cases h : i < n
    · rw [if_pos h, appD_lt h, appR_lt h]; exact (s2 i h).1
    · rw [if_neg h, appD_ge (by omega), appR_ge (by omega)]; exact (hg (i - n) (by omega)).1
  · by_cases h : i < n
    · rw [if_pos h]; exact PH.le_trans (s3 i) (PH.le_un_left _ _)
    · rw [if_neg h]; exact PH.le_trans (hGl (i - n) (by omega)) (PH.le_un_right dpx)
  · by_cases h : i < n
    · rw [if_pos h]
      by_cases h' : j < n
      · rw [if_pos h']; exact s4 i j hij
      · rw [if_neg h']; exact PH.dj_le dpx (s3 i) (hGl (j - n) (by omega))
    · rw [if_neg h]
      by_cases h' : j < n
      · rw [if_pos h']; exact PH.dj_symm (PH.dj_le dpx (s3 j) (hGl (i - n) (by omega)))
      · rw [if_neg h']; exact hGd _ _ (by omega)
  · rcases PH.un_ne e with h2 | h2
    · rcases r5 b o h2 with h3 | h3
      · exact .inl (le_ne lc h3)
      · exact .inr (.inr h3)
    · rcases PH.un_ne h2 with h3 | h3
      · exact .inl (le_ne lp h3)
      · exact .inr (.inl h3)
theorem flatR_one {rows : Nat → List Value} : ∀ {n : Nat}, (∀ i, i < n → ∀ u ∈ rows i, oneV u = true) → ∀ u ∈ flatR rows n, oneV u = true
  | 0, _, u, h => by cases h
  | n + 1, h1, u, h => by
    rw [flatR, List.mem_append] at h
    rcases h with h | h
    · exact flatR_one (fun i hi => h1 i (by omega)) u h
    · exact h1 n (by omega) u h
theorem oneV_cell' {v : Value} (h : oneV v = true) : v.oneCell' = true := by cases v <;> first | rfl | cases h
/-- what is behind a slice that is read -/
theorem Src_rd {te : TI} {tx : Nat} {e' : TypeId} (hu : P.underlying tx = some (.slice e')) {A : Option Addr} {m c : Nat} {rx : Nat → List Value} {h : PH} (hA : 0 < m → ∃ b o, A = some ⟨b, o, none⟩ ∧ ∀ i, i < m → (rx i).length = te.sz ∧ ∀ j, j < te.sz → h b (o + i * te.sz + j) = (rx i)[j]?) (hf : Fit h w) (hpos : 0 < te.sz) (h1 : ∀ i, i < m → ∀ u ∈ rx i, oneV u = true) : Src P te.sz tx (.slice A m c) m (flatR rx m) w := by
  rcases Nat.eq_zero_or_pos m with h0 | h0
  · subst h0
    cases A with
    | none => exact Src.ofNil w hu c
    | some a => exact Src.ofSlice w hu a 0 c [] (by simp) (fun j u e => by cases e) (fun u h => by cases h)
  · obtain ⟨b, o, rfl, hr⟩ := hA h0
    have hlen : ∀ i, i < m → (rx i).length = te.sz := fun i hi => (hr i hi).1
    refine Src.ofSlice w hu _ m c _ (flatR_length hlen) (fun k v hk => ?_) fun u hu => oneV_cell' (flatR_one h1 u hu)
    have hlt : k < m * te.sz := by rw [← flatR_length hlen]; exact (List.getElem?_eq_some_iff.1 hk).1
    obtain ⟨q, p, c1, c2, rfl⟩ := flatR_cell hlen hpos hlt
    have h2 := flatR_get hlen c1 c2
    rw [hk, ← (hr q c1).2 p c2] at h2
    have h3 := (hf _ _ _ h2.symm).1
    rw [add_mk, ← Nat.add_assoc]
    exact h3
theorem owns_one {h : PH} : ∀ {l : List D} {vs : List Value}, D.owns h l vs → (∀ x ∈ l, ∀ v, x = .v v → oneV v = true) → ∀ u ∈ vs, oneV u = true
  | [], vs, e, _, u, hu => by have e : vs = [] := e; rw [e] at hu; cases hu
  | x :: l, vs, e, h1, u, hu => by
    obtain ⟨a, t, g1, g2, rfl, _, _, _, e5, e6⟩ := e
    cases hu with
    | head =>
      cases x with
      | v y => have e5 : u = y := e5; rw [e5]; exact h1 _ List.mem_cons_self y rfl
      | sl sz n f => obtain ⟨A, c, rfl, _⟩ := (show D.own _ (.sl sz n f) _ from e5); rfl
      | pt m o => exact (show False from e5).elim
    | tail _ hu => exact owns_one e6 (fun x hx => h1 x (List.mem_cons_of_mem _ hx)) u hu
end
end

section
def oneDs : List D → Bool
  | [] => true
  | .v x :: r => bif oneV x then oneDs r else false
  | _ :: r => oneDs r
def flatDs : List D → Option (List Value)
  | [] => some []
  | .v x :: r => match flatDs r with
    | some l => bif oneV x then some (x :: l) else none
    | none => none
  | _ :: _ => none
theorem oneDs_ok : ∀ {l : List D}, oneDs l = true → ∀ x ∈ l, ∀ v, x = .v v → oneV v = true
  | [], _, x, h, _, _ => by cases h
  | y :: r, h, x, hm, v, e => by
    cases y with
    | v u =>
      simp only [oneDs] at h
      cases c : oneV u with
      | false => rw [c] at h; cases h
      | true =>
        rw [c] at h
        cases hm with
        | head => injection e with e; rw [← e]; exact c
        | tail _ hm => exact oneDs_ok h x hm v e
    | sl sz n f =>
      cases hm with
      | head => cases e
      | tail _ hm => exact oneDs_ok (l := r) h x hm v e
    | pt l o =>
      cases hm with
      | head => cases e
      | tail _ hm => exact oneDs_ok (l := r) h x hm v e
theorem flatDs_ok : ∀ {l : List D} {m : List Value}, flatDs l = some m → l = m.map D.v ∧ ∀ u ∈ m, oneV u = true
  | [], m, h => by simp [flatDs] at h; subst h; exact ⟨rfl, fun u h => by cases h⟩
  | .v x :: r, m, h => by
    simp only [flatDs] at h
    cases c : flatDs r with
    | none => rw [c] at h; cases h
    | some l =>
      rw [c] at h
      simp only at h
      cases c2 : oneV x with
      | false => rw [c2] at h; cases h
      | true =>
        rw [c2] at h; simp at h; subst h
        obtain ⟨h1, h2⟩ := flatDs_ok c
        exact ⟨by rw [h1]; rfl, fun u hu => by cases hu with | head => exact c2 | tail _ hu => exact h2 u hu⟩
  | .sl _ _ _ :: _, _, h => by simp [flatDs] at h
  | .pt _ _ :: _, _, h => by simp [flatDs] at h
section
variable {E : Env} {B : BE} {mu mu' : Mu} {w : World} {H : Nat → PH} {TT : List TI} {fr fr' : Fr} {gf gf' : GF} {a : Act} {all rest : List Oper} {Q : Exit → Act → World → Prop} {o : Oper} {J : Act → World → Prop} {G : AG} {R : Exit → Act → World → Prop} {K : List KF}
theorem OJ_B {ι : Type} {ks nk : List Nat} {mu1 : Mu} {φ : ι → Prop} {res : ι → SV} {mu1' : ι → Mu} {t : Nat} {md : Mu}
    (hop : ∀ B a w H, FitsE E B H fr gf a → Mem E B mu w H → ∃ y v w' B' H', (execOp a.eval o).run E.P w = .ok (.value v) w' ∧ Ret1 E.P ks B (AllP E.r (keysO mu1) H) mu1 w (onlyK (keysO mu1) H) φ res mu1' y v w' B' H')
    (hg : o.guard = none) (hd : o.dst = some t) (ht : Nat.blt t E.N = true) (hgd : gdrop t gf = some gf') (hnk : ∀ y, keysOf (mu1' y) = nk) (hkeys : keysB ks nk mu1 fr gf mu E.A.ks G.ks = true) (hout : ∀ y, ((res y).inK (appK ks nk) && muIn (appK ks nk) (mu1' y)) = true)
    (hmd : mdropKs (appK (keysO mu1) nk) mu = some md) {fr' : Fr} {gf2 : GF} (hcut : cutKs (keysO mu1) fr gf' = some (fr', gf2))
    (k : ∀ y, φ y → SJ G J E ((t, res y) :: fr') gf2 (appM (mu1' y) md)) : OJ G E all Q J o fr gf mu := fun B a w H f m gg => by
  obtain ⟨y, v, w', B', H', h1, h2⟩ := hop B a w H f m
  refine one_val (wanted_none hg) h1 ?_
  rw [hd]
  exact back_J hgd (by simpa [Nat.blt_eq] using ht) f m gg hnk hkeys hout hmd hcut k h2
/-- a new array that holds what it holds -/
theorem Ret1.new {k' : Nat} {ks : List Nat} {s : PH} {mu1 : Mu} {H1 : Nat → PH} {sz n : Nat} {f : Nat → List D} {v : Value} {w w' : World} {h' : PH} {P : Program} (hs : Fit s w) (hk : hasK k' ks = false) (hds : ∀ j, hasK j (keysO mu1) = true → (H1 j).dj s) (h1 : oneV v = true) (h2 : D.own h' (.sl sz n f) v) (h3 : FitO h' w') (h4 : Keep (ownD mu1 H1) w w') (h5 : ∀ b o, h' b o ≠ none → ownD mu1 H1 b o ∨ w.heap.size ≤ b) :
    Ret1 P ks B s mu1 w H1 (fun _ : Unit => True) (fun _ => .a (.g k')) (fun _ => [(k', .arr sz n f)]) () v w' (BE.set B k' v) (fun j => if j = k' then h' else PH.emp) := by
  have hfs : Fit s w' := hs.keep h4 fun b o e ⟨j, j1, j2⟩ => by
    rcases hds j j1 b o with h | h
    · exact j2 h
    · exact e h
  refine ⟨trivial, ⟨(BE.set_eq B k' v).symm, h1⟩, ⟨fun k c e => ?_, fun k => ?_, fun i j hij => ?_, fun k => ?_, hfs⟩, fun k hk2 => ?_, h4, fun k b o e => ?_⟩
  · rw [mlk_cons] at e
    by_cases h : k' = k
    · subst h
      rw [if_pos rfl] at e
      injection e with e
      subst e
      rw [if_pos rfl]
      show D.own h' _ (BE.set B _ v _)
      rw [BE.set_eq]; exact h2
    · rw [if_neg h] at e; cases e
  · split
    · exact h3
    · exact FitO.emp w'
  · by_cases h : i = k'
    · rw [if_pos h, if_neg (fun e => hij (h.trans e.symm))]; exact PH.dj_emp _
    · rw [if_neg h]; exact PH.emp_dj _
  · split
    · intro b o
      cases e : s b o with
      | none => exact .inr rfl
      | some u =>
        left
        cases e2 : h' b o with
        | none => rfl
        | some u2 =>
          rcases h5 b o (by rw [e2]; simp) with ⟨j, j1, j2⟩ | h
          · rcases hds j j1 b o with h | h
            · exact absurd h j2
            · rw [e] at h; cases h
          · have := hs.lt (b := b) (o := o) (by rw [e]; simp)
            omega
    · exact PH.emp_dj _
  · exact BE.set_ne B v fun e => by rw [e, hk] at hk2; cases hk2
  · by_cases h : k = k'
    · rw [if_pos h] at e; exact h5 b o e
    · rw [if_neg h] at e; exact absurd rfl e
theorem onlyK_dj (m : Mem E B mu w H) (ko : List Nat) : ∀ j, hasK j ko = true → (onlyK ko H j).dj (AllP E.r ko H) := fun j hj => by
  unfold onlyK; rw [hj]; exact AllP_dj m.mm hj
theorem zero_sz {te : TI} (hz : (vcells te.zero).map (·.length) = some te.sz) : te.zero.cells.size = te.sz := by
  have h := V.rels_length (vcellsL_rel (B := fun _ => undef) (Z := fun _ => PH.emp) te.zero)
  rw [vcells_eq] at hz
  simp only [Option.map_some, Option.some.injEq] at hz
  rw [← hz, ← h, Array.length_toList]
/-- it names this own array -/
def gK : SV → Option Nat
  | .a (.g k) => some k
  | .a (.gl k _ _) => some k
  | _ => none
theorem gK_ev {P : Program} {B : BE} {Z : Tg → PH} {N : Nat} {fr : Fr} {gf : GF} {a : Act} (f : Fits P B Z N fr gf a) {s : Operand} {k : Nat} (h : (ev [] fr gf s).bind gK = some k) : a.eval s = B k := by
  obtain ⟨y, h1, h2⟩ := Option.bind_eq_some_iff.1 h
  have hr := f.ev (g := []) (fun _ _ hm => by cases hm) h1
  unfold gK at h2
  split at h2
  · injection h2 with h2; subst h2; exact (show _ ∧ _ from hr).1
  · injection h2 with h2; subst h2; exact (show _ ∧ _ ∧ _ from hr).1
  · cases h2
/-- append: another array's elements come along -/
theorem OJ_appM (hT : TOk E.P TT) (k kb k' : Nat) {t0 ts tx : Nat} {s x : Operand} {n m : Nat} {f g : Nat → List D} {id sz1 by1 e : Nat} {z : Value} {ef : Bool} {te ti2 : TI} {md : Mu} {fr' : Fr} {gf2 : GF}
    (hop : o.op = .call { callee := .builtin .append, args := #[s, x], argTypes := #[ts, tx] }) (hs : (ev [] fr gf s).bind gK = some k) (hx : ev [] fr gf x = some (.a (.g kb))) (h1 : tlk ts TT = some ⟨id, sz1, by1, .slc e, z, ef⟩) (h2 : tlk e TT = some te) (h3 : tlk tx TT = some ti2) (h4 : ti2.kind = .slc e) (hk : mlk k mu = some (.arr te.sz n f)) (hkb : mlk kb mu = some (.arr te.sz m g)) (hgd : gdrop t0 gf = some gf')
    (hmd : mdropKs [k, kb, k'] mu = some md) (hcut : cutKs [k, kb] fr gf' = some (fr', gf2)) (hb : (n + m) * te.by_ ≤ 140737488355328 ∧ n + m ≤ maxL)
    (kk : SJ G J E ((t0, .a (.g k')) :: fr') gf2 ((k', .arr te.sz (n + m) (appD n f g)) :: md)) (hone : ∀ i, i < m → oneDs (g i) = true := by exact fun _ _ => rfl) (hz : (vcells te.zero).map (·.length) = some te.sz := by exact rfl) (hpos : 0 < te.sz := by exact Nat.lt_of_sub_eq_succ rfl) (hkeys : keysB [k, kb] [k'] [(k, .arr te.sz n f), (kb, .arr te.sz m g)] fr gf mu E.A.ks G.ks = true := by exact rfl) (hne : (Nat.beq k kb || hasK k' [k, kb]) = false := by exact rfl)
    (hg : o.guard = none := by exact rfl) (hd : o.dst = some t0 := by exact rfl) (ht : Nat.blt t0 E.N = true := by exact rfl) : OJ G E all Q J o fr gf mu := by
  simp only [Bool.or_eq_false_iff] at hne
  refine OJ_B (ι := Unit) (ks := [k, kb]) (nk := [k']) (mu1 := [(k, .arr te.sz n f), (kb, .arr te.sz m g)]) (φ := fun _ => True) (res := fun _ => .a (.g k')) (mu1' := fun _ => [(k', .arr te.sz (n + m) (appD n f g))]) (fun B a w H ff mm => ?_) hg hd ht hgd (fun _ => rfl) hkeys (fun _ => ?_) hmd hcut fun _ _ => kk
  · obtain ⟨t1, t2⟩ := hT.get h1
    obtain ⟨d, d1, d2⟩ := t2.desc
    simp only at t1 d1 d2
    subst t1
    obtain rfl := shapeK_slc d2
    obtain ⟨u1, u2⟩ := hT.get h2
    subst u1
    obtain ⟨v1, v2⟩ := hT.get h3
    obtain ⟨dx, dx1, dx2⟩ := v2.desc
    rw [h4] at dx2
    obtain rfl := shapeK_slc dx2
    rw [v1] at dx1
    have e1 : a.eval s = B k := gK_ev ff hs
    have e2 : a.eval x = B kb := (show _ ∧ _ from ff.ev (g := []) (fun _ _ hm => by cases hm) hx).1
    have sk : D.own (H k) (.sl te.sz n f) (B k) := mm.mm.sat k _ hk
    obtain ⟨Ax, cx, rx, hcx, hpx, Gx, bx, q1, va, lcx, lpx, dcpx, q2, q3, q4⟩ := own_VA (show D.own (H kb) (.sl te.sz m g) (B kb) from mm.mm.sat kb _ hkb)
    have hdd : (H k).dj (H kb) := mm.mm.dj k kb (beq_ne hne.1)
    have src : Src E.P te.sz tx (B kb) m (flatR rx m) w := by
      rw [bx]
      refine Src_rd dx1 (fun h0 => ?_) ((mm.mm.fit kb).le lcx).fit hpos fun i hi => owns_one (q2 i hi).1 (oneDs_ok (hone i hi))
      obtain ⟨b, o, e, _⟩ := va.2.1 0 h0
      refine ⟨b, o, e, fun i hi => ?_⟩
      obtain ⟨b', o', e', g1, g2⟩ := va.2.1 i hi
      rw [e] at e'
      injection e' with e'
      injection e' with e5 e6
      subst e5; subst e6
      exact ⟨g1, g2⟩
    obtain ⟨v, w', h', r1, r2, r3, r4, r5, r6⟩ := run_appD (P := E.P) (w := w) (ty := o.type) d1 u2 hpos (zero_sz hz) sk (mm.mm.fit k) src q2 (fun i _ => q3 i) q4 ((mm.mm.fit kb).le lpx) (PH.dj_le hdd (PH.le_refl _) lpx) hb.1 hb.2
    refine ⟨(), v, w', _, _, ?_, Ret1.new (AllP_fit mm.mm) hne.2 (onlyK_dj mm _) r2 r3 r4 (r5.mono fun b _ o h => ⟨k, by simp [keysO, Ch.own?, hasK, Nat.beq_refl], by unfold onlyK; simp only [keysO, Ch.own?, cond_true, hasK, Nat.beq_refl]; exact h⟩) fun b o h => ?_⟩
    · obtain ⟨dst, op, type, pos, after, guard⟩ := o
      simp only at hop r1
      subst hop
      simp only [execOp, resolve, Sem.run_bind, Sem.run_pure, Result.andThen_ok, invoke, builtin, List.map_toArray, List.map_cons, List.map_nil, e1, e2, r1]
    · rcases r6 b o h with h | h | h
      · exact .inl ⟨k, by simp [keysO, Ch.own?, hasK, Nat.beq_refl], by unfold onlyK; simp only [keysO, Ch.own?, cond_true, hasK, Nat.beq_refl]; exact h⟩
      · refine .inl ⟨kb, by simp [keysO, Ch.own?, hasK, Nat.beq_refl], ?_⟩
        unfold onlyK
        rw [show hasK kb (keysO [(k, .arr te.sz n f), (kb, .arr te.sz m g)]) = true from by simp [keysO, Ch.own?, hasK, Nat.beq_refl]]
        exact le_ne lpx h
      · exact .inr h
  · simp [SV.inK, V.inK, muIn, Ch.own?, Ch.rowL, allL, appK, hasK, Nat.beq_refl]
end
end

section
theorem put_self {a : Act} {t : Nat} (h : t < a.tmps.size) : a.put (some t) (a.tmps.getD t undef) = a := by
  have : a.tmps.setIfInBounds t (a.tmps.getD t undef) = a.tmps := by
    apply Array.ext_getElem?
    intro i
    rw [Array.getElem?_setIfInBounds]
    split
    · rename_i e; subst e; simp [h]
    · rfl
  simp only [Act.put]
  rw [this]
def zsD (z : Value) : List D := z.cells.toList.map D.v
section
variable {E : Env} {B : BE} {mu mu' : Mu} {w : World} {H : Nat → PH} {TT : List TI} {fr fr' : Fr} {gf gf' : GF} {a : Act} {all rest : List Oper} {Q : Exit → Act → World → Prop} {o : Oper} {J : Act → World → Prop} {G : AG} {R : Exit → Act → World → Prop} {K : List KF}
/-- an operation without a place for its value; what is known of slot t is forgotten -/
theorem OJ_B0 {ι : Type} {ks nk : List Nat} {mu1 : Mu} {φ : ι → Prop} {res : ι → SV} {mu1' : ι → Mu} (t : Nat) {md : Mu}
    (hop : ∀ B a w H, FitsE E B H fr gf a → Mem E B mu w H → ∃ y v w' B' H', (execOp a.eval o).run E.P w = .ok (.value v) w' ∧ Ret1 E.P ks B (AllP E.r (keysO mu1) H) mu1 w (onlyK (keysO mu1) H) φ res mu1' y (a.tmps.getD t undef) w' B' H')
    (hg : o.guard = none) (hd : o.dst = none) (ht : Nat.blt t E.N = true) (hgd : gdrop t gf = some gf') (hnk : ∀ y, keysOf (mu1' y) = nk) (hkeys : keysB ks nk mu1 fr gf mu E.A.ks G.ks = true) (hout : ∀ y, ((res y).inK (appK ks nk) && muIn (appK ks nk) (mu1' y)) = true)
    (hmd : mdropKs (appK (keysO mu1) nk) mu = some md) {fr' : Fr} {gf2 : GF} (hcut : cutKs (keysO mu1) fr gf' = some (fr', gf2))
    (k : ∀ y, φ y → SJ G J E ((t, res y) :: fr') gf2 (appM (mu1' y) md)) : OJ G E all Q J o fr gf mu := fun B a w H f m gg => by
  obtain ⟨y, v, w', B', H', h1, h2⟩ := hop B a w H f m
  refine one_val (wanted_none hg) h1 ?_
  rw [hd]
  have ht : t < E.N := by simpa [Nat.blt_eq] using ht
  have := back_J hgd ht f m gg hnk hkeys hout hmd hcut k h2
  rw [put_self (by rw [f.size]; exact ht)] at this
  exact this
/-- the world lies still: slot t and a chunk are told anew -/
theorem V_B {ks nk : List Nat} {mu1 : Mu} {res : SV} {mu1' : Mu} (t : Nat) {md : Mu}
    (hop : ∀ B a w H, FitsE E B H fr gf a → Mem E B mu w H → ∃ B' H', Ret1 E.P ks B (AllP E.r (keysO mu1) H) mu1 w (onlyK (keysO mu1) H) (fun _ : Unit => True) (fun _ => res) (fun _ => mu1') () (a.tmps.getD t undef) w B' H')
    (ht : Nat.blt t E.N = true) (hgd : gdrop t gf = some gf') (hnk : keysOf mu1' = nk) (hkeys : keysB ks nk mu1 fr gf mu E.A.ks [] = true) (hout : (res.inK (appK ks nk) && muIn (appK ks nk) mu1') = true)
    (hmd : mdropKs (appK (keysO mu1) nk) mu = some md) {fr' : Fr} {gf2 : GF} (hcut : cutKs (keysO mu1) fr gf' = some (fr', gf2)) : View E fr gf mu ((t, res) :: fr') gf2 (appM mu1' md) := fun B w H a f m => by
  obtain ⟨B', H', h2⟩ := hop B a w H f m
  have ht : t < E.N := by simpa [Nat.blt_eq] using ht
  have := back_J (J := fun a w => ∃ B H, FitsE E B H ((t, res) :: fr') gf2 a ∧ Mem E B (appM mu1' md) w H) hgd ht f m (AG.nil_ok B H) (fun _ => hnk) hkeys (fun _ => hout) hmd hcut (fun y _ B a w H f m _ => ⟨B, H, f, m⟩) h2
  rw [put_self (by rw [f.size]; exact ht)] at this
  exact this
theorem V_imp (k : Nat) {c c' : Ch} (hk : mlk k mu = some c) (h : c.imp c') (hmu : mset k c' mu = some mu') : View E fr gf mu fr gf mu' := fun B w H a f m =>
  ⟨B, H, f, ⟨⟨fun j d e => by
    rw [mset_spec hmu j] at e
    by_cases hj : j = k
    · rw [if_pos hj] at e; injection e with e; subst e; subst hj; exact h _ _ _ _ (m.mm.sat j c hk)
    · rw [if_neg hj] at e; exact m.mm.sat j d e, m.mm.fit, m.mm.dj, m.mm.djr, m.mm.fitr⟩, m.keep, m.dom, m.anch⟩⟩
theorem onlyK_self (k : Nat) {ko : List Nat} (h : hasK k ko = true) (H : Nat → PH) : onlyK ko H k = H k := by unfold onlyK; rw [h]; rfl
theorem own_new {sz n : Nat} {f : Nat → List D} {y : Value} {h : PH} (e : D.own h (.sl sz n f) y) : oneV y = true := by obtain ⟨A, c, rfl, _⟩ := e; rfl
/-- a part of an own array becomes the whole -/
theorem own_cut {h : PH} {sz n : Nat} {f : Nat → List D} {y : Value} {lo hi : Int} (e : D.own h (.sl sz n f) y) (h1 : 0 ≤ lo) (h2 : lo ≤ hi) (h3 : hi ≤ n) : D.own h (.sl sz (hi - lo).toNat fun i => f (lo.toNat + i)) (sbV y sz lo.toNat (hi - lo).toNat) := by
  obtain ⟨A, c, rfl, e2, e3, e4⟩ := e
  refine ⟨_, _, rfl, by omega, by omega, ?_⟩
  by_cases hc : c = lo.toNat
  · exact .inl (by omega)
  rcases e4 with e4 | ⟨b, o, row, G, rfl, g1, g2, g3, g4, g5⟩
  · omega
  refine .inr ⟨b, o + lo.toNat * sz, fun i => row (lo.toNat + i), fun i => G (lo.toNat + i), ?_, fun i hi' => ?_, fun i hi1 hi2 j hj => ?_, fun i => g3 _, fun i j hij => g4 _ _ (by omega), fun i x x1 x2 => g5 _ _ (by omega) ?_⟩
  · rw [if_neg hc]; simp [add_mk]
  · obtain ⟨r1, r2, r3⟩ := g1 (lo.toNat + i) (by omega)
    refine ⟨r1, r2, fun j hj => ?_⟩
    have := r3 j hj
    rwa [Nat.add_mul, ← Nat.add_assoc] at this
  · by_cases hin : lo.toNat + i < n
    · obtain ⟨r1, r2, r3⟩ := g1 _ hin
      have := r3 j hj
      rw [Nat.add_mul, ← Nat.add_assoc] at this
      rw [this, List.getElem?_eq_getElem (by omega)]; simp
    · have := g2 (lo.toNat + i) (by omega) (by omega) j hj
      rwa [Nat.add_mul, ← Nat.add_assoc] at this
  · have : lo.toNat * sz + (c - lo.toNat) * sz = c * sz := by rw [← Nat.add_mul]; congr 1; omega
    omega
/-- slot t holds a part of own array k: it becomes an array of its own; what else was there of k is lost -/
theorem V_cut (t k k' : Nat) {sz n : Nat} {f : Nat → List D} {lo hi : Int} {md : Mu} {fr' : Fr} {gf2 : GF} (hx : mlk t fr = some (.a (.sb k sz lo hi))) (hg : glk t gf = none) (hk : mlk k mu = some (.arr sz n f)) (hb : 0 ≤ lo ∧ lo ≤ hi ∧ hi ≤ n)
    (hgd : gdrop t gf = some gf') (hmd : mdropKs [k, k'] mu = some md) (hcut : cutKs [k] fr gf' = some (fr', gf2)) (ht : Nat.blt t E.N = true := by exact rfl) (hkeys : keysB [k] [k'] [(k, .arr sz n f)] fr gf mu E.A.ks [] = true := by exact rfl) (hne : hasK k' [k] = false := by exact rfl) :
    View E fr gf mu ((t, .a (.g k')) :: fr') gf2 ((k', .arr sz (hi - lo).toNat fun i => f (lo.toNat + i)) :: md) := by
  refine V_B (ks := [k]) (nk := [k']) (mu1 := [(k, .arr sz n f)]) (res := .a (.g k')) (mu1' := [(k', .arr sz (hi - lo).toNat fun i => f (lo.toNat + i))]) t (fun B a w H ff m => ?_) ht hgd rfl hkeys ?_ hmd hcut
  · have sk : D.own (H k) (.sl sz n f) (B k) := m.mm.sat k _ hk
    have e1 : a.tmps.getD t undef = _ ∧ _ := ff.vfr t _ hx hg
    rw [e1.1]
    refine ⟨_, _, Ret1.new (AllP_fit m.mm) hne (onlyK_dj m _) (own_new (own_cut sk hb.1 hb.2.1 hb.2.2)) (own_cut sk hb.1 hb.2.1 hb.2.2) (m.mm.fit k) (Keep.refl _ _) fun b o h => .inl ⟨k, by simp [keysO, Ch.own?, hasK, Nat.beq_refl], by rw [onlyK_self k (by simp [keysO, Ch.own?, hasK, Nat.beq_refl])]; exact h⟩⟩
  · simp [SV.inK, V.inK, muIn, Ch.own?, Ch.rowL, allL, appK, hasK, Nat.beq_refl]
/-- slot t names own array k: it goes by another key from now on -/
theorem V_ren (t k k' : Nat) {sz n : Nat} {f : Nat → List D} {md : Mu} {fr' : Fr} {gf2 : GF} (hx : mlk t fr = some (.a (.g k))) (hg : glk t gf = none) (hk : mlk k mu = some (.arr sz n f))
    (hgd : gdrop t gf = some gf') (hmd : mdropKs [k, k'] mu = some md) (hcut : cutKs [k] fr gf' = some (fr', gf2)) (ht : Nat.blt t E.N = true := by exact rfl) (hkeys : keysB [k] [k'] [(k, .arr sz n f)] fr gf mu E.A.ks [] = true := by exact rfl) (hne : hasK k' [k] = false := by exact rfl) :
    View E fr gf mu ((t, .a (.g k')) :: fr') gf2 ((k', .arr sz n f) :: md) := by
  refine V_B (ks := [k]) (nk := [k']) (mu1 := [(k, .arr sz n f)]) (res := .a (.g k')) (mu1' := [(k', .arr sz n f)]) t (fun B a w H ff m => ?_) ht hgd rfl hkeys ?_ hmd hcut
  · have sk : D.own (H k) (.sl sz n f) (B k) := m.mm.sat k _ hk
    have e1 : a.tmps.getD t undef = _ ∧ _ := ff.vfr t _ hx hg
    rw [e1.1]
    refine ⟨_, _, Ret1.new (AllP_fit m.mm) hne (onlyK_dj m _) (own_new sk) sk (m.mm.fit k) (Keep.refl _ _) fun b o h => .inl ⟨k, by simp [keysO, Ch.own?, hasK, Nat.beq_refl], by rw [onlyK_self k (by simp [keysO, Ch.own?, hasK, Nat.beq_refl])]; exact h⟩⟩
  · simp [SV.inK, V.inK, muIn, Ch.own?, Ch.rowL, allL, appK, hasK, Nat.beq_refl]
/-- slot t holds nil: an array of no elements -/
theorem V_nil (t k' sz : Nat) (f : Nat → List D) {A : Option Addr} {md : Mu} (hx : mlk t fr = some (.a (.v (.slice A 0 0)))) (hg : glk t gf = none)
    (hgd : gdrop t gf = some gf') (hmd : mdropKs [k'] mu = some md) (ht : Nat.blt t E.N = true := by exact rfl) (hkeys : keysB [] [k'] [] fr gf mu E.A.ks [] = true := by exact rfl) :
    View E fr gf mu ((t, .a (.g k')) :: fr) gf' ((k', .arr sz 0 f) :: md) := by
  refine V_B (ks := []) (nk := [k']) (mu1 := []) (res := .a (.g k')) (mu1' := [(k', .arr sz 0 f)]) t (fun B a w H ff m => ?_) ht hgd rfl hkeys ?_ hmd rfl
  · have e1 : a.tmps.getD t undef = _ := ff.vfr t _ hx hg
    rw [e1]
    exact ⟨_, _, Ret1.new (AllP_fit m.mm) rfl (onlyK_dj m _) rfl (h' := PH.emp) ⟨A, 0, rfl, Nat.le_refl _, Nat.zero_le _, .inl rfl⟩ (FitO.emp _) (Keep.refl _ _) fun b o h => absurd rfl h⟩
  · simp [SV.inK, V.inK, muIn, Ch.own?, Ch.rowL, allL, appK, hasK, Nat.beq_refl]
/-- the chunk is changed in its place -/
theorem Ret1.sameK {k : Nat} {s : PH} {c c' : Ch} {H1 : Nat → PH} {v : Value} {w w' : World} {h' : PH} {P : Program} (hs : Fit s w) (hc : keysO [(k, c)] = [k]) (hds : ∀ j, hasK j (keysO [(k, c)]) = true → (H1 j).dj s) (h2 : c'.sat B s h' k) (h3 : FitO h' w') (h4 : Keep (fun b o => H1 k b o ≠ none) w w') (h5 : ∀ b o, h' b o ≠ none → H1 k b o ≠ none ∨ w.heap.size ≤ b) :
    Ret1 P [k] B s [(k, c)] w H1 (fun _ : Unit => True) (fun _ => .a .any) (fun _ => [(k, c')]) () v w' B (fun j => if j = k then h' else PH.emp) := by
  have kk : hasK k (keysO [(k, c)]) = true := by rw [hc]; simp [hasK, Nat.beq_refl]
  have hfs : Fit s w' := hs.keep h4 fun b o e h => by
    rcases hds k kk b o with h' | h'
    · exact h h'
    · exact e h'
  refine ⟨trivial, trivial, ⟨fun j d e => ?_, fun k => ?_, fun i j hij => ?_, fun j => ?_, hfs⟩, fun _ _ => rfl, h4.mono fun b _ o h => ⟨k, kk, h⟩, fun j b o e => ?_⟩
  · rw [mlk_cons] at e
    by_cases h : k = j
    · subst h
      rw [if_pos rfl] at e
      injection e with e
      subst e
      rw [if_pos rfl]; exact h2
    · rw [if_neg h] at e; cases e
  · split
    · exact h3
    · exact FitO.emp w'
  · by_cases h : i = k
    · rw [if_pos h, if_neg (fun e => hij (h.trans e.symm))]; exact PH.dj_emp _
    · rw [if_neg h]; exact PH.emp_dj _
  · split
    · intro b o
      cases e : s b o with
      | none => exact .inr rfl
      | some u =>
        left
        cases e2 : h' b o with
        | none => rfl
        | some u2 =>
          rcases h5 b o (by rw [e2]; simp) with h | h
          · rcases hds k kk b o with h' | h'
            · exact absurd h' h
            · rw [e] at h'; cases h'
          · have := hs.lt (b := b) (o := o) (by rw [e]; simp)
            omega
    · exact PH.emp_dj _
  · by_cases h : j = k
    · rw [if_pos h] at e
      rcases h5 b o e with h | h
      · exact .inl ⟨k, kk, h⟩
      · exact .inr h
    · rw [if_neg h] at e; exact absurd rfl e
theorem zeroCells_get {z : Array Value} {n i j : Nat} (hi : i < n) (hj : j < z.size) : (Builtin.zeroCells z n).toList[i * z.size + j]? = z.toList[j]? := by
  have h1 : (i + 1) * z.size ≤ n * z.size := Nat.mul_le_mul_right _ hi
  rw [Nat.add_mul, Nat.one_mul] at h1
  have h2 : (i * z.size + j) % z.size = j := by rw [Nat.mul_comm, Nat.mul_add_mod]; exact Nat.mod_eq_of_lt hj
  simp only [Builtin.zeroCells, Array.toList_map, List.getElem?_map, Array.toList_range, List.getElem?_range (show i * z.size + j < n * z.size by omega), Option.map_some, h2]
  simp [hj]
theorem zeroCells_mem {z : Array Value} {n : Nat} {v : Value} (h : v ∈ (Builtin.zeroCells z n).toList) : v ∈ z.toList := by
  simp only [Builtin.zeroCells, Array.toList_map, List.mem_map] at h
  obtain ⟨i, hi, rfl⟩ := h
  have hi : i < n * z.size := by simpa using hi
  have hz : 0 < z.size := by
    rcases Nat.eq_zero_or_pos z.size with h | h
    · rw [h] at hi; omega
    · exact h
  have : i % z.size < z.size := Nat.mod_lt _ hz
  simp [this]
/-- zeros are laid over elements lo .. hi of an own array -/
theorem own_clear {h : PH} {sz n : Nat} {f : Nat → List D} {A : Option Addr} {m c : Nat} {lo hi : Int} {z : Value} (e : D.own h (.sl sz n f) (.slice A m c)) (h1 : 0 ≤ lo) (h2 : lo ≤ hi) (h3 : hi ≤ n) (hpos : lo < hi) (hz : z.cells.size = sz) (hsz : 0 < sz) :
    ∃ b o, A = some ⟨b, o, none⟩ ∧ (∀ j, j < (Builtin.zeroCells z.cells (hi - lo).toNat).toList.length → h b (o + lo.toNat * sz + j) ≠ none) ∧
      D.own (h.updL b (o + lo.toNat * sz) (Builtin.zeroCells z.cells (hi - lo).toNat).toList) (.sl sz n fun (i : Nat) => if lo ≤ (i : Int) ∧ (i : Int) < hi then zsD z else f i) (.slice A m c) := by
  obtain ⟨A', c', e1, e2, e3, e4⟩ := e
  injection e1 with e5 e6 e7
  subst e5; subst e6; subst e7
  rcases e4 with e4 | ⟨b, o, row, G, rfl, g1, g2, g3, g4, g5⟩
  · omega
  have hl : (Builtin.zeroCells z.cells (hi - lo).toNat).toList.length = (hi - lo).toNat * sz := by rw [Array.length_toList, size_zeroCells, hz]
  have hin : ∀ j, j < (hi - lo).toNat * sz → ∃ i p, i < (hi - lo).toNat ∧ p < sz ∧ j = i * sz + p := fun j hj =>
    ⟨j / sz, j % sz, Nat.div_lt_of_lt_mul (by rwa [Nat.mul_comm]), Nat.mod_lt _ hsz, by rw [Nat.mul_comm]; exact (Nat.div_add_mod j sz).symm⟩
  have hcell : ∀ i p, i < (hi - lo).toNat → p < sz → o + lo.toNat * sz + (i * sz + p) = o + (lo.toNat + i) * sz + p := fun i p _ _ => by rw [Nat.add_mul]; omega
  have hlen : (hi - lo).toNat * sz + lo.toNat * sz ≤ m * sz := by rw [← Nat.add_mul]; exact Nat.mul_le_mul_right _ (by omega)
  refine ⟨b, o, rfl, fun j hj => ?_, ?_⟩
  · rw [hl] at hj
    obtain ⟨i, p, i1, i2, rfl⟩ := hin j hj
    rw [hcell i p i1 i2]
    obtain ⟨r1, r2, r3⟩ := g1 (lo.toNat + i) (by omega)
    rw [r3 p i2, List.getElem?_eq_getElem (by omega)]; simp
  · have Gle : ∀ i, (G i).le (h.updL b (o + lo.toNat * sz) (Builtin.zeroCells z.cells (hi - lo).toNat).toList) := fun i x y v hv => by
      rw [PH.updL_out]
      · exact g3 i x y v hv
      · rintro ⟨rfl, q1, q2⟩
        rw [hl] at q2
        have hcs : m * sz ≤ c * sz := Nat.mul_le_mul_right _ e2
        rw [g5 i y (by omega) (by omega)] at hv; cases hv
    refine ⟨_, c, rfl, e2, e3, .inr ⟨b, o, fun (i : Nat) => if lo ≤ (i : Int) ∧ (i : Int) < hi then z.cells.toList else row i, fun (i : Nat) => if lo ≤ (i : Int) ∧ (i : Int) < hi then PH.emp else G i, rfl, fun i hi' => ?_, fun i hi1 hi2 j hj => ?_, fun i => ?_, fun i j hij => ?_, fun i x x1 x2 => ?_⟩⟩
    · dsimp only
      by_cases c1 : lo ≤ (i : Int) ∧ (i : Int) < hi
      · rw [if_pos c1, if_pos c1, if_pos c1]
        refine ⟨flat_owns, by rw [Array.length_toList, hz], fun j hj => ?_⟩
        have hi2 : i - lo.toNat < (hi - lo).toNat := by omega
        have e := hcell (i - lo.toNat) j hi2 hj
        have hii : lo.toNat + (i - lo.toNat) = i := by omega
        have h4 : (i - lo.toNat + 1) * sz ≤ (hi - lo).toNat * sz := Nat.mul_le_mul_right _ hi2
        rw [Nat.add_mul, Nat.one_mul] at h4
        rw [hii] at e
        rw [← e, PH.updL_in _ _ _ _ (by rw [hl]; omega)]
        have := zeroCells_get (z := z.cells) hi2 (j := j) (by omega)
        rw [hz] at this
        exact this
      · rw [if_neg c1, if_neg c1, if_neg c1]
        obtain ⟨r1, r2, r3⟩ := g1 i hi'
        refine ⟨r1, r2, fun j hj => ?_⟩
        rw [PH.updL_out, r3 j hj]
        rintro ⟨_, q1, q2⟩
        rw [hl] at q2
        apply c1
        have k1 : lo.toNat ≤ i := by
          rcases Nat.lt_or_ge i lo.toNat with h | h
          · have := Nat.mul_le_mul_right sz (show i + 1 ≤ lo.toNat from h)
            rw [Nat.add_mul, Nat.one_mul] at this; omega
          · exact h
        have k2 : i < hi.toNat := by
          rcases Nat.lt_or_ge i hi.toNat with h | h
          · exact h
          · have := Nat.mul_le_mul_right sz h
            have e : hi.toNat * sz = lo.toNat * sz + (hi - lo).toNat * sz := by rw [← Nat.add_mul]; congr 1; omega
            omega
        omega
    · have := g2 i hi1 hi2 j hj
      rw [PH.updL_out]
      · exact this
      · rintro ⟨_, q1, q2⟩
        rw [hl] at q2
        have := Nat.mul_le_mul_right sz hi1
        omega
    · dsimp only
      split
      · exact PH.emp_le _
      · exact Gle i
    · dsimp only
      split
      · exact PH.emp_dj _
      · split
        · exact PH.dj_emp _
        · exact g4 i j hij
    · dsimp only
      split
      · rfl
      · exact g5 i x x1 x2
end
end

section
theorem vcells_sz {z : Value} {l : List V} (h : vcells z = some l) : z.cells.size = l.length := by
  have := V.rels_length (vcellsL_rel (B := fun _ => undef) (Z := fun _ => PH.emp) z)
  rw [vcells_eq] at h
  injection h with h
  rw [← h, ← this, Array.length_toList]
theorem vcells_zs {z : Value} {zs : List Value} (h : vcells z = some (zs.map V.v)) : z.cells.toList = zs := by
  have := vcellsL_rel (B := fun _ => undef) (Z := fun _ => PH.emp) z
  rw [vcells_eq] at h
  injection h with h
  rw [h] at this
  have key : ∀ {l m : List Value}, V.rels (fun _ => undef) (fun _ => PH.emp) (l.map V.v) m → m = l := fun {l} => by
    induction l with
    | nil => intro m h; exact h
    | cons x l ih =>
      rintro m ⟨y, t, rfl, h1, h2⟩
      have h1 : y = x := h1
      rw [h1, ih h2]
  exact key this
def zerosV (zs : List Value) : Nat → List V
  | 0 => []
  | n + 1 => zs.map V.v ++ zerosV zs n
section
variable {E : Env} {B : BE} {mu mu' : Mu} {w : World} {H : Nat → PH} {TT : List TI} {fr fr' : Fr} {gf gf' : GF} {a : Act} {all rest : List Oper} {Q : Exit → Act → World → Prop} {o : Oper} {J : Act → World → Prop} {G : AG} {R : Exit → Act → World → Prop} {K : List KF}
theorem slc_of (hT : TOk E.P TT) {ts : Nat} {id sz1 by1 e : Nat} {z : Value} {ef : Bool} {te : TI} (h1 : tlk ts TT = some ⟨id, sz1, by1, .slc e, z, ef⟩) (h2 : tlk e TT = some te) : E.P.underlying ts = some (.slice te.id) ∧ te.ok E.P := by
  obtain ⟨t1, t2⟩ := hT.get h1
  obtain ⟨d, d1, d2⟩ := t2.desc
  simp only at t1 d1 d2
  subst t1
  obtain rfl := shapeK_slc d2
  obtain ⟨u1, u2⟩ := hT.get h2
  subst u1
  exact ⟨d1, u2⟩
/-- clear of a part of an own array; t is the slot that names the part -/
theorem OJ_clear (hT : TOk E.P TT) (t k : Nat) {ts : Nat} {n : Nat} {f : Nat → List D} {lo hi : Int} {id sz1 by1 e : Nat} {z : Value} {ef : Bool} {te : TI} {md : Mu} {fr' : Fr} {gf2 : GF} {l : List V}
    (hop : o.op = .call { callee := .builtin .clear, args := #[.tmp t], argTypes := #[ts] }) (hx : mlk t fr = some (.a (.sb k te.sz lo hi))) (hgt : glk t gf = none) (h1 : tlk ts TT = some ⟨id, sz1, by1, .slc e, z, ef⟩) (h2 : tlk e TT = some te) (hk : mlk k mu = some (.arr te.sz n f)) (hb : 0 ≤ lo ∧ lo ≤ hi ∧ hi ≤ n) (hgd : gdrop t gf = some gf')
    (hmd : mdropKs [k, k] mu = some md) (hcut : cutKs [k] fr gf' = some (fr', gf2)) (hz : vcells te.zero = some l)
    (kk : SJ G J E ((t, .a .any) :: fr') gf2 ((k, .arr te.sz n fun i => if lo ≤ (i : Int) ∧ (i : Int) < hi then zsD te.zero else f i) :: md)) (hzl : lenEq l te.sz = true := by exact rfl) (hone : allC l = true := by exact rfl) (hpos : 0 < te.sz := by exact Nat.lt_of_sub_eq_succ rfl) (hkeys : keysB [k] [k] [(k, .arr te.sz n f)] fr gf mu E.A.ks G.ks = true := by exact rfl)
    (hg : o.guard = none := by exact rfl) (hd : o.dst = none := by exact rfl) (ht : Nat.blt t E.N = true := by exact rfl) : OJ G E all Q J o fr gf mu := by
  have kself : keysO [(k, Ch.arr te.sz n f)] = [k] := rfl
  refine OJ_B0 (ι := Unit) (ks := [k]) (nk := [k]) (mu1 := [(k, .arr te.sz n f)]) (φ := fun _ => True) (res := fun _ => .a .any) (mu1' := fun _ => [(k, .arr te.sz n fun i => if lo ≤ (i : Int) ∧ (i : Int) < hi then zsD te.zero else f i)]) t (fun B a w H ff mm => ?_) hg hd ht hgd (fun _ => rfl) hkeys (fun _ => ?_) hmd hcut fun _ _ => kk
  · obtain ⟨d1, u2⟩ := slc_of hT h1 h2
    obtain ⟨i, i1, i2, i3, i4⟩ := u2.info
    have hzz : te.zero.cells.size = te.sz := by rw [vcells_sz hz, lenEq_spec _ _ hzl]
    have hone' : ∀ v ∈ te.zero.cells.toList, oneV v = true := by
      have h0 := vcellsL_rel (B := fun _ => undef) (Z := fun _ => PH.emp) te.zero
      rw [vcells_eq] at hz
      injection hz with hz
      rw [hz] at h0
      have key : ∀ {l : List V} {m : List Value}, allC l = true → V.rels (fun _ => undef) (fun _ => PH.emp) l m → ∀ v ∈ m, oneV v = true := fun {l} => by
        induction l with
        | nil => intro m _ h v hv; have h : m = [] := h; rw [h] at hv; cases hv
        | cons x l ih =>
          rintro m hc ⟨y, t, rfl, q1, q2⟩ v hv
          simp only [allC] at hc
          cases c : x.okC with
          | false => rw [c] at hc; cases hc
          | true =>
            rw [c] at hc
            cases hv with
            | head => exact okC_one c q1
            | tail _ hv => exact ih hc q2 v hv
      exact key hone h0
    have e1 : a.tmps.getD t undef = sbV (B k) te.sz lo.toNat (hi - lo).toNat ∧ _ := ff.vfr t _ hx hgt
    have e2 : a.eval (.tmp t) = sbV (B k) te.sz lo.toNat (hi - lo).toNat := e1.1
    have sk : D.own (H k) (.sl te.sz n f) (B k) := mm.mm.sat k _ hk
    obtain ⟨A, c, hB, _⟩ := own_slice sk
    have hz0 : (zeroValue te.id).run E.P w = .ok te.zero w := by simp only [zeroValue, Sem.run_bind, run_info i1, Result.andThen_ok, i4, Sem.run_pure]
    have fin : ∀ {w' : World} {h' : PH}, (Builtin.clear_ #[ts] o.type #[a.eval (.tmp t)]).run E.P w = .ok (.tuple #[]) w' → D.own h' (.sl te.sz n fun (i : Nat) => if lo ≤ (i : Int) ∧ (i : Int) < hi then zsD te.zero else f i) (B k) → FitO h' w' → Keep (fun b o => H k b o ≠ none) w w' → (∀ b o, h' b o ≠ none → H k b o ≠ none ∨ w.heap.size ≤ b) →
        ∃ y v w' B' H', (execOp a.eval o).run E.P w = .ok (.value v) w' ∧ Ret1 E.P [k] B (AllP E.r (keysO [(k, Ch.arr te.sz n f)]) H) [(k, .arr te.sz n f)] w (onlyK (keysO [(k, Ch.arr te.sz n f)]) H) (fun _ : Unit => True) (fun _ => .a .any) (fun _ => [(k, .arr te.sz n fun (i : Nat) => if lo ≤ (i : Int) ∧ (i : Int) < hi then zsD te.zero else f i)]) y (a.tmps.getD t undef) w' B' H' := fun {w' h'} q1 q2 q3 q4 q5 => by
      have hon : onlyK (keysO [(k, Ch.arr te.sz n f)]) H k = H k := onlyK_self k (by simp [kself, hasK, Nat.beq_refl]) H
      refine ⟨(), .tuple #[], w', _, _, ?_, Ret1.sameK (B := B) (h' := h') (AllP_fit mm.mm) kself (onlyK_dj mm _) q2 q3 (q4.mono fun b _ o h => by rw [hon]; exact h) fun b o h => by rw [hon]; exact q5 b o h⟩
      obtain ⟨dst, op, type, pos, after, guard⟩ := o
      simp only at hop q1
      subst hop
      simp only [execOp, resolve, Sem.run_bind, Sem.run_pure, Result.andThen_ok, invoke, builtin, List.map_toArray, List.map_cons, List.map_nil, q1]
    rw [hB] at sk e2
    by_cases hl : lo < hi
    · obtain ⟨b, off, rfl, g1, g2⟩ := own_clear sk hb.1 hb.2.1 hb.2.2 hl hzz hpos
      obtain ⟨A', c', e5, e6, _⟩ := sk
      injection e5 with e5 e7 e8
      have hcl : ¬ c = lo.toNat := by omega
      rw [sbV, if_neg hcl] at e2
      simp only [Option.map_some, add_mk] at e2
      obtain ⟨w', r1, r2, r3, r4⟩ := run_storeCells (P := E.P) (Builtin.zeroCells te.zero.cells (hi - lo).toNat).toList w b (off + lo.toNat * te.sz) 0 (H k) (mm.mm.fit k).fit (by simpa using g1) (fun v hv => hone' v (zeroCells_mem hv))
      refine fin (w' := w') (h' := (H k).updL b (off + lo.toNat * te.sz) (Builtin.zeroCells te.zero.cells (hi - lo).toNat).toList) ?_ (by rw [hB]; exact g2) ((mm.mm.fit k).turn (by simpa using r2) r3 fun b' o' hb' => ⟨o', PH.updL_ne g1 hb'⟩) (r3.mono fun x _ y hxy => ?_) fun b' o' hb' => .inl (PH.updL_ne g1 hb')
      · rw [e2]
        obtain ⟨m, hm⟩ : ∃ m, (hi - lo).toNat = m + 1 := ⟨(hi - lo).toNat - 1, by omega⟩
        rw [hm] at r1 ⊢
        simp only [Builtin.clear_, Sem.run_bind, run_underlying d1, Result.andThen_ok, List.getElem?_toArray, List.getElem?_cons_zero, hz0, storeCells] at r1 ⊢
        rw [r1]; rfl
      · obtain ⟨rfl, c1, c2⟩ := hxy
        have := g1 (y - (off + lo.toNat * te.sz)) (by omega)
        rwa [show off + lo.toNat * te.sz + (y - (off + lo.toNat * te.sz)) = y from by omega] at this
    · have hm : (hi - lo).toNat = 0 := by omega
      refine fin (w' := w) (h' := H k) ?_ ?_ (mm.mm.fit k) (Keep.refl _ _) fun b o h => .inl h
      · rw [e2, sbV, hm]
        cases A with
        | none =>
          have : (if c = lo.toNat then none else Option.map (fun x : Addr => x.add (lo.toNat * te.sz)) none) = none := by split <;> rfl
          rw [this]
          simp [Builtin.clear_, run_underlying d1]
        | some A =>
          have : ∃ A', (if c = lo.toNat then some A else Option.map (fun x : Addr => x.add (lo.toNat * te.sz)) (some A)) = some A' := by split <;> exact ⟨_, rfl⟩
          obtain ⟨A', this⟩ := this
          rw [this]
          simp [Builtin.clear_, run_underlying d1]
      · rw [hB]
        refine D.own_congr (fun i hi' => ?_) sk
        rw [if_neg (by omega)]
  · simp [SV.inK, V.inK, muIn, Ch.own?, Ch.rowL, allL, appK, hasK, Nat.beq_refl]
end
end
end Go.Proofs.YtpfcfepbhdkpdaaGreat
