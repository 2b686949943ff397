
/-
  append, and what it rests on.
-/
import Derived.Test.YtiegllklalplnaaGreatW17b
import Derived.Deep.AppendSrc
namespace Go.Proofs.YtiegllklalplnaaGreat
open Go Go.RowKit
set_option linter.unusedVariables false
set_option linter.unusedSimpArgs false

/-- the rows one behind the other -/
def flatR (rows : Nat → List Value) : Nat → List Value
  | 0 => []
  | n + 1 => flatR rows n ++ rows n
theorem flatR_length {rows : Nat → List Value} {sz : Nat} : ∀ {n : Nat}, (∀ i, i < n → (rows i).length = sz) → (flatR rows n).length = n * sz
  | 0, _ => by simp [flatR]
  | n + 1, h => by rw [flatR, List.length_append, flatR_length fun i hi => h i (by omega), h n (by omega), Nat.add_mul, Nat.one_mul]
theorem flatR_get {rows : Nat → List Value} {sz : Nat} : ∀ {n : Nat}, (∀ i, i < n → (rows i).length = sz) → ∀ {i j : Nat}, i < n → j < sz → (flatR rows n)[i * sz + j]? = (rows i)[j]?
  | 0, _, _, _, hi, _ => absurd hi (Nat.not_lt_zero _)
  | n + 1, h, i, j, hi, hj => by
    have hl := flatR_length (rows := rows) (sz := sz) (n := n) fun i hi => h i (by omega)
    rw [flatR]
    by_cases hin : i < n
    · have h1 : (i + 1) * sz ≤ n * sz := Nat.mul_le_mul_right _ hin
      rw [Nat.add_mul, Nat.one_mul] at h1
      rw [List.getElem?_append_left (by omega)]
      exact flatR_get (fun i hi => h i (by omega)) hin hj
    · have : i = n := by omega
      subst this
      rw [List.getElem?_append_right (by omega), hl]
      congr 1; omega
theorem flatR_cell {rows : Nat → List Value} {sz : Nat} {n k : Nat} (h : ∀ i, i < n → (rows i).length = sz) (hpos : 0 < sz) (hk : k < n * sz) : ∃ q p, q < n ∧ p < sz ∧ k = q * sz + p :=
  ⟨k / sz, k % sz, Nat.div_lt_of_lt_mul (by rwa [Nat.mul_comm]), Nat.mod_lt _ hpos, by rw [Nat.mul_comm]; exact (Nat.div_add_mod k sz).symm⟩
/-- the rows behind an append -/
def appR (n : Nat) (f g : Nat → List Value) : Nat → List Value := fun i => bif Nat.blt i n then f i else g (i - n)
theorem appR_lt {n : Nat} {f g : Nat → List Value} {i : Nat} (h : i < n) : appR n f g i = f i := by
  have : Nat.blt i n = true := by simpa [Nat.blt_eq] using h
  simp [appR, this]
theorem appR_ge {n : Nat} {f g : Nat → List Value} {i : Nat} (h : n ≤ i) : appR n f g i = g (i - n) := by
  have : Nat.blt i n = false := by
    cases e : Nat.blt i n with
    | false => rfl
    | true => rw [Nat.blt_eq] at e; omega
  simp [appR, this]
/-- an array's cells -/
def VA (A : Option Addr) (n c sz : Nat) (rows : Nat → List Value) (h : PH) : Prop := n ≤ c ∧ (∀ i, i < n → ∃ b o, A = some ⟨b, o, none⟩ ∧ (rows i).length = sz ∧ ∀ j, j < sz → h b (o + i * sz + j) = (rows i)[j]?) ∧
  (∀ i, n ≤ i → i < c → ∃ b o, A = some ⟨b, o, none⟩ ∧ ∀ j, j < sz → h b (o + i * sz + j) ≠ none)
section
variable {P : Program} {w : World}
theorem run_append {t tx ty : TypeId} {te : TI} (ht : P.underlying t = some (.slice te.id)) (hti : te.ok P) (hpos : 0 < te.sz) (hzs : te.zero.cells.size = te.sz) {h : PH} {A : Option Addr} {n c : Nat} {f : Nat → List Value} (s : VA A n c te.sz f h) (hf : Fit h w)
    {x : Value} {m : Nat} {g : Nat → List Value} (hg : ∀ i, i < m → (g i).length = te.sz) (hs : Src P te.sz tx x m (flatR g m) w) (hb : (n + m) * te.by_ ≤ 140737488355328) (hm : n + m ≤ maxL) :
    ∃ A' c' w' h', (Builtin.append_ #[t, tx] ty #[.slice A n c, x]).run P w = .ok (.slice A' (n + m) c') w' ∧ VA A' (n + m) c' te.sz (appR n f g) h' ∧ Fit h' w' ∧ Keep (fun b o => h b o ≠ none) w w' ∧ ∀ b o, h' b o ≠ none → h b o ≠ none ∨ w.heap.size ≤ b := by
  obtain ⟨i, i1, i2, i3, i4⟩ := hti.info
  obtain ⟨s0, s1, s2⟩ := s
  have hnl := flatR_length hg
  by_cases hroom : n + m ≤ c
  · by_cases h0 : m = 0
    · subst h0
      refine ⟨A, c, w, h, ?_, ⟨hroom, fun i hi => ?_, fun i hi hi2 => s2 i (by omega) hi2⟩, hf, Keep.refl _ _, fun b o hb => .inl hb⟩
      · have hsc := hs.cells
        rw [← i2] at hsc
        simp only [flatR] at hsc
        cases A with
        | none => rcases hs.kind with ⟨e', hk⟩ | hk <;> simp [Builtin.append_, run_underlying ht, run_underlying hk, sizeOf, typeInfo, i1, hs.len, s0, hsc]
        | some a => rcases hs.kind with ⟨e', hk⟩ | hk <;> simp [Builtin.append_, run_underlying ht, run_underlying hk, sizeOf, typeInfo, i1, hs.len, s0, hsc, storeCells]
      · rw [appR_lt (by omega)]; exact s1 i (by omega)
    · obtain ⟨b, o, rfl, hsp⟩ := s2 n (Nat.le_refl _) (by omega)
      have hin : ∀ j, j < (flatR g m).length → h b (o + n * te.sz + j) ≠ none := fun j hj => by
        rw [hnl] at hj
        obtain ⟨q, p, c1, c2, rfl⟩ := flatR_cell hg hpos hj
        obtain ⟨b', o', e, hsp'⟩ := s2 (n + q) (by omega) (by omega)
        injection e with e
        injection e with e1 e2
        subst e1; subst e2
        have := hsp' _ c2
        rwa [Nat.add_mul, show o + (n * te.sz + q * te.sz) + p = o + n * te.sz + (q * te.sz + p) from by omega] at this
      have hcell : ∀ j, j < (flatR g m).length → (w.cell? ⟨b, o + n * te.sz + j, none⟩).isSome = true ∧ w.frozen? ⟨b, o + n * te.sz + j, none⟩ = false := fun j hj => by
        cases e : h b (o + n * te.sz + j) with
        | none => exact absurd e (hin j hj)
        | some v => obtain ⟨f1, f2⟩ := hf _ _ _ e; exact ⟨by rw [f1]; rfl, f2⟩
      have hrun := run_append_room_src (P := P) w t tx ty te.id i ht i1 b o n c x m (flatR g m) (by rw [i2]; exact hs) hroom (by rw [i2]; exact fun j hj => (hcell j hj).1) (by rw [i2]; exact fun j hj => (hcell j hj).2)
      rw [i2] at hrun
      have hone : ∀ v ∈ flatR g m, oneV v = true := fun v hv => by
        have := hs.one v hv
        cases v <;> first | rfl | cases this
      obtain ⟨w', r1, r2, r3, r4⟩ := run_storeCells (P := P) (flatR g m) w b (o + n * te.sz) 0 h hf (by simpa using hin) hone
      have r1' := run_storeCells_cells (P := P) b (o + n * te.sz) (flatR g m) 0 w (by simpa using fun j hj => (hcell j hj).1) (by simpa using fun j hj => (hcell j hj).2) hs.one
      rw [r1'] at r1
      injection r1 with _ r1
      simp only [Nat.add_zero] at r1 r2 r3
      subst r1
      refine ⟨_, c, _, _, hrun, ⟨hroom, fun k hk => ?_, fun k hk hk2 => ?_⟩, r2, r3.mono fun x _ y hxy => ?_, fun b' o' hb' => .inl (PH.updL_ne hin hb')⟩
      · refine ⟨b, o, rfl, ?_⟩
        by_cases hkn : k < n
        · rw [appR_lt hkn]
          obtain ⟨b', o', e, q1, q2⟩ := s1 k hkn
          injection e with e
          injection e with e1 e2
          subst e1; subst e2
          refine ⟨q1, fun j hj => ?_⟩
          have h1 : (k + 1) * te.sz ≤ n * te.sz := Nat.mul_le_mul_right _ hkn
          rw [Nat.add_mul, Nat.one_mul] at h1
          rw [PH.updL_out _ (by omega)]
          exact q2 j hj
        · rw [appR_ge (by omega)]
          refine ⟨hg _ (by omega), fun j hj => ?_⟩
          have h1 : (k - n + 1) * te.sz ≤ m * te.sz := Nat.mul_le_mul_right _ (by omega)
          rw [Nat.add_mul, Nat.one_mul] at h1
          have h2 : k * te.sz = n * te.sz + (k - n) * te.sz := by rw [← Nat.add_mul]; congr 1; omega
          rw [show o + k * te.sz + j = o + n * te.sz + ((k - n) * te.sz + j) from by omega, PH.updL_in _ _ _ _ (by omega), flatR_get hg (by omega) hj]
      · obtain ⟨b', o', e, q⟩ := s2 k (by omega) hk2
        injection e with e
        injection e with e1 e2
        subst e1; subst e2
        refine ⟨b, o, rfl, fun j hj => ?_⟩
        by_cases c : o + n * te.sz ≤ o + k * te.sz + j ∧ o + k * te.sz + j < o + n * te.sz + (flatR g m).length
        · rw [show o + k * te.sz + j = o + n * te.sz + (k * te.sz + j - n * te.sz) from by omega, PH.updL_in _ _ _ _ (by omega), List.getElem?_eq_getElem (by omega)]; simp
        · rw [PH.updL_out _ (by omega)]; exact q j hj
      · obtain ⟨rfl, c1, c2⟩ := hxy
        have := hin (y - (o + n * te.sz)) (by omega)
        rwa [show o + n * te.sz + (y - (o + n * te.sz)) = y from by omega] at this
  · have hol : (flatR f n).length = n * te.sz := flatR_length fun i hi => by obtain ⟨_, _, _, q, _⟩ := s1 i hi; exact q
    have hold : (Builtin.firstCells i.size n (.slice A n c)).run P w.drew = .ok (flatR f n).toArray w.drew := by
      cases A with
      | none =>
        have h0 : n = 0 := by
          rcases Nat.eq_zero_or_pos n with h | h
          · exact h
          · obtain ⟨_, _, e, _⟩ := s1 0 h; cases e
        subst h0
        exact run_firstCells_none w.drew i.size 0 0 c
      | some ad =>
        refine run_firstCells_some (P := P) w.drew i.size n ad n c (flatR f n) (by rw [i2]; exact hol) fun k v hk => ?_
        have hlt : k < n * te.sz := by rw [← hol]; exact (List.getElem?_eq_some_iff.1 hk).1
        have hlen : ∀ i, i < n → (f i).length = te.sz := fun i hi => by obtain ⟨_, _, _, q, _⟩ := s1 i hi; exact q
        obtain ⟨q, p, c1, c2, rfl⟩ := flatR_cell hlen hpos hlt
        obtain ⟨b, o, e, q1, q2⟩ := s1 _ c1
        injection e with e
        subst e
        have h1 := flatR_get hlen c1 c2
        rw [hk, ← q2 _ c2] at h1
        have h2 := (hf _ _ _ h1.symm).1
        rw [add_mk, ← Nat.add_assoc]
        exact h2
    have hrun := run_append_grow_src (P := P) w t tx ty te.id i te.zero ht i1 i4 A n c (flatR f n) hold x m (flatR g m) (by rw [i2]; exact hs) (by omega) (by unfold maxL at hm; omega) (growslice_fits (by omega) (by rw [i3]; exact hb))
    generalize hcc : grownCap w (n + m) c te.id = cc at hrun
    have hge : n + m ≤ cc := by rw [← hcc]; exact grownCap_ge _ _ _ _
    generalize hcs : ((flatR f n ++ flatR g m).toArray ++ Builtin.zeroCells te.zero.cells (cc - (n + m))) = cs at hrun
    have hsz : cs.size = cc * te.sz := by
      rw [← hcs]
      simp only [Array.size_append, List.size_toArray, List.length_append, size_zeroCells, hzs, hol, hnl, ← Nat.add_mul]
      congr 1; omega
    have hfit : Fit (PH.row w.heap.size 0 cs.toList) (w.drew.alloc (.cells cs te.id)) := by
      have := Fit.alloc w.drew cs.toList te.id
      simpa using this
    have hrow : ∀ k, PH.row w.heap.size 0 cs.toList w.heap.size k = cs[k]? := fun k => by
      have := PH.row_at (b := w.heap.size) (off := 0) (l := cs.toList) k
      rw [Nat.zero_add] at this
      rw [this, Array.getElem?_toList]
    have hlen : ∀ i, i < n → (f i).length = te.sz := fun i hi => by obtain ⟨_, _, _, q, _⟩ := s1 i hi; exact q
    refine ⟨_, cc, _, _, hrun, ⟨hge, fun k hk => ⟨w.heap.size, 0, rfl, ?_⟩, fun k hk hk2 => ⟨w.heap.size, 0, rfl, fun j hj => ?_⟩⟩, hfit, ?_, fun b o hb => .inr (by rw [PH.row_ne hb]; exact Nat.le_refl _)⟩
    · have hcsk : ∀ q, q < (n + m) * te.sz → cs[q]? = (flatR f n ++ flatR g m)[q]? := fun q hq => by
        rw [← hcs, Array.getElem?_append_left (by simp only [List.size_toArray, List.length_append, hol, hnl, ← Nat.add_mul]; exact hq)]
        simp
      have hkq : ∀ j, j < te.sz → k * te.sz + j < (n + m) * te.sz := fun j hj => by
        have h1 : (k + 1) * te.sz ≤ (n + m) * te.sz := Nat.mul_le_mul_right _ hk
        rw [Nat.add_mul, Nat.one_mul] at h1
        omega
      by_cases hkn : k < n
      · rw [appR_lt hkn]
        refine ⟨hlen k hkn, fun j hj => ?_⟩
        have h1 : (k + 1) * te.sz ≤ n * te.sz := Nat.mul_le_mul_right _ hkn
        rw [Nat.add_mul, Nat.one_mul] at h1
        rw [Nat.zero_add, hrow, hcsk _ (hkq j hj), List.getElem?_append_left (by omega), flatR_get hlen hkn hj]
      · rw [appR_ge (by omega)]
        refine ⟨hg _ (by omega), fun j hj => ?_⟩
        have h2 : k * te.sz = n * te.sz + (k - n) * te.sz := by rw [← Nat.add_mul]; congr 1; omega
        rw [Nat.zero_add, hrow, hcsk _ (hkq j hj), List.getElem?_append_right (by omega), hol, show k * te.sz + j - n * te.sz = (k - n) * te.sz + j from by omega, flatR_get hg (by omega) hj]
    · have h1 : (k + 1) * te.sz ≤ cc * te.sz := Nat.mul_le_mul_right _ hk2
      rw [Nat.add_mul, Nat.one_mul] at h1
      rw [Nat.zero_add, hrow, Array.getElem?_eq_getElem (by omega)]; simp
    · exact ((Keep.drew w).mono fun _ _ _ h => h.elim).trans (Keep.alloc w.drew _) fun _ _ h => h.elim
end
/-- an owned slice: its cells, and its elements' parts -/
theorem own_VA {h : PH} {sz n : Nat} {f : Nat → List D} {y : Value} (e : D.own h (.sl sz n f) y) : ∃ (A : Option Addr) (c : Nat) (row : Nat → List Value) (hc hp : PH) (G : Nat → PH), y = .slice A n c ∧ n ≤ maxL ∧ VA A n c sz row hc ∧ hc.le h ∧ hp.le h ∧ hc.dj hp ∧ (∀ i, i < n → D.owns (G i) (f i) (row i) ∧ (row i).length = sz) ∧ (∀ i, (G i).le hp) ∧ ∀ i j, i ≠ j → (G i).dj (G j) := by
  obtain ⟨A, c, e1, e2, e3, e4⟩ := e
  rcases e4 with rfl | ⟨b, o, row, G, rfl, g1, g2, g3⟩
  · have : n = 0 := by omega
    subst this
    exact ⟨A, 0, fun _ => [], PH.emp, PH.emp, fun _ => PH.emp, e1, e3, ⟨Nat.le_refl _, fun i hi => absurd hi (Nat.not_lt_zero _), fun i _ hi => absurd hi (Nat.not_lt_zero _)⟩, PH.emp_le _, PH.emp_le _, PH.emp_dj _, fun i hi => absurd hi (Nat.not_lt_zero _), fun _ => PH.emp_le _, fun _ _ _ => PH.emp_dj _⟩
  · have hcap : ∀ j : Nat, j < c → j * sz + sz ≤ c * sz := fun j hj => by
      have := Nat.mul_le_mul_right sz (show j + 1 ≤ c from hj)
      rwa [Nat.add_mul, Nat.one_mul] at this
    let hc : PH := fun x y => if x = b ∧ o ≤ y ∧ y < o + c * sz then h x y else none
    have lc : hc.le h := fun x y v hv => by
      simp only [hc] at hv
      split at hv
      · exact hv
      · cases hv
    have inC : ∀ i j, i < c → j < sz → hc b (o + i * sz + j) = h b (o + i * sz + j) := fun i j hi hj => by
      have := hcap i hi
      simp only [hc]
      rw [if_pos ⟨trivial, by omega, by omega⟩]
    refine ⟨some ⟨b, o, none⟩, c, row, hc, h.sub hc, G, e1, e3, ⟨e2, fun i hi => ⟨b, o, rfl, (g1 i hi).2.1, fun j hj => ?_⟩, fun i hi hi2 => ⟨b, o, rfl, fun j hj => ?_⟩⟩, lc, PH.sub_le _ _, PH.dj_symm (PH.sub_dj _ _), fun i hi => ⟨(g1 i hi).1, (g1 i hi).2.1⟩, fun i => PH.le_sub (g3.1 i) fun x y => ?_, g3.2.1⟩
    · rw [inC i j (by omega) hj]; exact (g1 i hi).2.2 j hj
    · rw [inC i j hi2 hj]; exact g2 i hi hi2 j hj
    · simp only [hc]
      split
      · rename_i hx; left; rw [hx.1]; exact g3.2.2 i y hx.2.1 hx.2.2
      · exact .inr rfl
theorem VA_own {A : Option Addr} {n c sz : Nat} {row : Nat → List Value} {hc hp h : PH} {G : Nat → PH} {f : Nat → List D} (va : VA A n c sz row hc) (hn : n ≤ maxL) (lc : hc.le h) (lp : hp.le h) (d : hc.dj hp) (ho : ∀ i, i < n → D.owns (G i) (f i) (row i)) (hG : ∀ i, i < n → (G i).le hp) (hd : ∀ i j, i < n → j < n → i ≠ j → (G i).dj (G j)) : D.own h (.sl sz n f) (.slice A n c) := by
  obtain ⟨v1, v2, v3⟩ := va
  refine ⟨A, c, rfl, v1, hn, ?_⟩
  rcases Nat.eq_zero_or_pos c with h0 | h0
  · exact .inl h0
  · obtain ⟨b, o, rfl⟩ : ∃ b o, A = some ⟨b, o, none⟩ := by
      rcases Nat.eq_zero_or_pos n with h1 | h1
      · obtain ⟨b, o, e, _⟩ := v3 0 (by omega) h0; exact ⟨b, o, e⟩
      · obtain ⟨b, o, e, _⟩ := v2 0 h1; exact ⟨b, o, e⟩
    have inC : ∀ y, o ≤ y → y < o + c * sz → hc b y ≠ none := fun y y1 y2 => by
      have hz : 0 < sz := by
        rcases Nat.eq_zero_or_pos sz with h | h
        · subst h; simp at y2; omega
        · exact h
      have hq : (y - o) / sz < c := Nat.div_lt_of_lt_mul (by rw [Nat.mul_comm]; omega)
      have hm : (y - o) % sz < sz := Nat.mod_lt _ hz
      have hy : y = o + (y - o) / sz * sz + (y - o) % sz := by
        have := Nat.div_add_mod (y - o) sz
        rw [Nat.mul_comm] at this
        omega
      by_cases hjn : (y - o) / sz < n
      · obtain ⟨b', o', e, s2, s3⟩ := v2 _ hjn
        injection e with e
        injection e with e5 e6
        subst e5; subst e6
        have := s3 _ hm
        rw [← hy] at this
        rw [this, List.getElem?_eq_getElem (by omega)]; simp
      · obtain ⟨b', o', e, s3⟩ := v3 _ (by omega) hq
        injection e with e
        injection e with e5 e6
        subst e5; subst e6
        have := s3 _ hm
        rwa [← hy] at this
    refine .inr ⟨b, o, row, fun i => if i < n then G i else PH.emp, rfl, fun i hi => ?_, fun i hi hi2 j hj => ?_, fun i => ?_, fun i j hij => ?_, fun i x x1 x2 => ?_⟩
    · obtain ⟨b', o', e, s2, s3⟩ := v2 i hi
      injection e with e
      injection e with e5 e6
      subst e5; subst e6
      exact ⟨by dsimp only; rw [if_pos hi]; exact ho i hi, s2, fun j hj => le_cell lc s2 hj (s3 j hj)⟩
    · obtain ⟨b', o', e, s3⟩ := v3 i hi hi2
      injection e with e
      injection e with e5 e6
      subst e5; subst e6
      exact le_ne lc (s3 j hj)
    · dsimp only
      by_cases hi : i < n
      · rw [if_pos hi]; exact PH.le_trans (hG i hi) lp
      · rw [if_neg hi]; exact PH.emp_le _
    · dsimp only
      by_cases hi : i < n
      · rw [if_pos hi]
        by_cases hj : j < n
        · rw [if_pos hj]; exact hd i j hi hj hij
        · rw [if_neg hj]; exact PH.dj_emp _
      · rw [if_neg hi]; exact PH.emp_dj _
    · dsimp only
      by_cases hi : i < n
      · rw [if_pos hi]
        cases e : G i b x with
        | none => rfl
        | some u =>
          have h1 := hG i hi b x u e
          rcases d b x with h2 | h2
          · exact absurd h2 (inC x x1 x2)
          · rw [h1] at h2; cases h2
      · rw [if_neg hi]; rfl
def appD (n : Nat) (f g : Nat → List D) : Nat → List D := fun i => bif Nat.blt i n then f i else g (i - n)
theorem appD_lt {n : Nat} {f g : Nat → List D} {i : Nat} (h : i < n) : appD n f g i = f i := by
  have : Nat.blt i n = true := by simpa [Nat.blt_eq] using h
  simp [appD, this]
theorem appD_ge {n : Nat} {f g : Nat → List D} {i : Nat} (h : n ≤ i) : appD n f g i = g (i - n) := by
  have : Nat.blt i n = false := by
    cases e : Nat.blt i n with
    | false => rfl
    | true => rw [Nat.blt_eq] at e; omega
  simp [appD, this]
theorem flat_owns {h : PH} : ∀ {l : List Value}, D.owns h (l.map D.v) l
  | [] => rfl
  | x :: r => ⟨x, r, PH.emp, h, rfl, PH.emp_le _, PH.le_refl _, PH.emp_dj _, rfl, flat_owns⟩
theorem flat_rds {h : PH} : ∀ {l m : List Value}, D.rds h (l.map D.v) m → m = l
  | [], _, e => e
  | x :: r, _, e => by
    obtain ⟨a, t, rfl, e2, e3⟩ := e
    have e2 : a = x := e2
    rw [e2, flat_rds e3]
section
variable {P : Program} {w : World}
/-- append, where the source's elements come along with their parts (lying in hx, apart from h) -/
theorem run_appD {t tx ty : TypeId} {te : TI} (ht : P.underlying t = some (.slice te.id)) (hti : te.ok P) (hpos : 0 < te.sz) (hzs : te.zero.cells.size = te.sz) {h : PH} {n : Nat} {f : Nat → List D} {y : Value} (s : D.own h (.sl te.sz n f) y) (hf : Fit h w)
    {x : Value} {m : Nat} {g : Nat → List D} {rx : Nat → List Value} {hx : PH} {G : Nat → PH} (hs : Src P te.sz tx x m (flatR rx m) w) (hg : ∀ i, i < m → D.owns (G i) (g i) (rx i) ∧ (rx i).length = te.sz) (hGl : ∀ i, i < m → (G i).le hx) (hGd : ∀ i j, i ≠ j → (G i).dj (G j)) (hfx : Fit hx w) (hd : h.dj hx) (hb : (n + m) * te.by_ ≤ 140737488355328) (hm : n + m ≤ maxL) :
    ∃ v w' h', (Builtin.append_ #[t, tx] ty #[y, x]).run P w = .ok v w' ∧ oneV v = true ∧ D.own h' (.sl te.sz (n + m) (appD n f g)) v ∧ Fit h' w' ∧ Keep (fun b o => h b o ≠ none) w w' ∧ ∀ b o, h' b o ≠ none → h b o ≠ none ∨ hx b o ≠ none ∨ w.heap.size ≤ b := by
  obtain ⟨A, c, row, hc, hp, Gs, rfl, s1, va, lc, lp, dcp, s2, s3, s4⟩ := own_VA s
  obtain ⟨A', c', w', h1, r1, r2, r3, r4, r5⟩ := run_append (P := P) (w := w) (ty := ty) ht hti hpos hzs va (hf.le lc) (fun i hi => (hg i hi).2) hs hb hm
  have keep : ∀ k : PH, Fit k w → hc.dj k → Fit k w' := fun k fk d => fk.keep r4 fun b o e h2 => by
    rcases d b o with h3 | h3
    · exact h2 h3
    · exact e h3
  have d1 : ∀ k : PH, Fit k w → hc.dj k → h1.dj k := fun k fk d b o => by
    cases e : k b o with
    | none => exact .inr rfl
    | some u =>
      left
      cases e2 : h1 b o with
      | none => rfl
      | some u2 =>
        rcases r5 b o (by rw [e2]; simp) with h3 | h3
        · rcases d b o with h4 | h4
          · exact absurd h4 h3
          · rw [e] at h4; cases h4
        · have := fk.lt (b := b) (o := o) (by rw [e]; simp)
          omega
  have dpx : hp.dj hx := PH.dj_le hd lp (PH.le_refl _)
  have dcx : hc.dj hx := PH.dj_le hd lc (PH.le_refl _)
  have da : h1.dj (hp.un hx) := PH.dj_un (d1 _ (hf.le lp) dcp) (d1 _ hfx dcx)
  refine ⟨_, w', h1.un (hp.un hx), r1, rfl, VA_own (G := fun i => if i < n then Gs i else G (i - n)) r2 hm (PH.le_un_left _ _) (PH.le_un_right da) da (fun i hi => ?_) (fun i hi => ?_) (fun i j hi hj hij => ?_), r3.un ((keep _ (hf.le lp) dcp).un (keep _ hfx dcx)), r4.mono fun b _ o h => le_ne lc h, fun b o e => ?_⟩
  · by_cases h : i < n
    · rw [if_pos h, appD_lt h, appR_lt h]; exact (s2 i h).1
    · rw [if_neg h, appD_ge (by omega), appR_ge (by omega)]; exact (hg (i - n) (by omega)).1
  · by_cases h : i < n
    · rw [if_pos h]; exact PH.le_trans (s3 i) (PH.le_un_left _ _)
    · rw [if_neg h]; exact PH.le_trans (hGl (i - n) (by omega)) (PH.le_un_right dpx)
  · by_cases h : i < n
    · rw [if_pos h]
      by_cases h' : j < n
      · rw [if_pos h']; exact s4 i j hij
      · rw [if_neg h']; exact PH.dj_le dpx (s3 i) (hGl (j - n) (by omega))
    · rw [if_neg h]
      by_cases h' : j < n
      · rw [if_pos h']; exact PH.dj_symm (PH.dj_le dpx (s3 j) (hGl (i - n) (by omega)))
      · rw [if_neg h']; exact hGd _ _ (by omega)
  · rcases PH.un_ne e with h2 | h2
    · rcases r5 b o h2 with h3 | h3
      · exact .inl (le_ne lc h3)
      · exact .inr (.inr h3)
    · rcases PH.un_ne h2 with h3 | h3
      · exact .inl (le_ne lp h3)
      · exact .inr (.inl h3)
theorem flatR_one {rows : Nat → List Value} : ∀ {n : Nat}, (∀ i, i < n → ∀ u ∈ rows i, oneV u = true) → ∀ u ∈ flatR rows n, oneV u = true
  | 0, _, u, h => by cases h
  | n + 1, h1, u, h => by
    rw [flatR, List.mem_append] at h
    rcases h with h | h
    · exact flatR_one (fun i hi => h1 i (by omega)) u h
    · exact h1 n (by omega) u h
theorem oneV_cell' {v : Value} (h : oneV v = true) : v.oneCell' = true := by cases v <;> first | rfl | cases h
/-- what is behind a slice that is read -/
theorem Src_rd {te : TI} {tx : Nat} {e' : TypeId} (hu : P.underlying tx = some (.slice e')) {A : Option Addr} {m c : Nat} {rx : Nat → List Value} {h : PH} (hA : 0 < m → ∃ b o, A = some ⟨b, o, none⟩ ∧ ∀ i, i < m → (rx i).length = te.sz ∧ ∀ j, j < te.sz → h b (o + i * te.sz + j) = (rx i)[j]?) (hf : Fit h w) (hpos : 0 < te.sz) (h1 : ∀ i, i < m → ∀ u ∈ rx i, oneV u = true) : Src P te.sz tx (.slice A m c) m (flatR rx m) w := by
  rcases Nat.eq_zero_or_pos m with h0 | h0
  · subst h0
    cases A with
    | none => exact Src.ofNil w hu c
    | some a => exact Src.ofSlice w hu a 0 c [] (by simp) (fun j u e => by cases e) (fun u h => by cases h)
  · obtain ⟨b, o, rfl, hr⟩ := hA h0
    have hlen : ∀ i, i < m → (rx i).length = te.sz := fun i hi => (hr i hi).1
    refine Src.ofSlice w hu _ m c _ (flatR_length hlen) (fun k v hk => ?_) fun u hu => oneV_cell' (flatR_one h1 u hu)
    have hlt : k < m * te.sz := by rw [← flatR_length hlen]; exact (List.getElem?_eq_some_iff.1 hk).1
    obtain ⟨q, p, c1, c2, rfl⟩ := flatR_cell hlen hpos hlt
    have h2 := flatR_get hlen c1 c2
    rw [hk, ← (hr q c1).2 p c2] at h2
    have h3 := (hf _ _ _ h2.symm).1
    rw [add_mk, ← Nat.add_assoc]
    exact h3
theorem owns_one {h : PH} : ∀ {l : List D} {vs : List Value}, D.owns h l vs → (∀ x ∈ l, ∀ v, x = .v v → oneV v = true) → ∀ u ∈ vs, oneV u = true
  | [], vs, e, _, u, hu => by have e : vs = [] := e; rw [e] at hu; cases hu
  | x :: l, vs, e, h1, u, hu => by
    obtain ⟨a, t, g1, g2, rfl, _, _, _, e5, e6⟩ := e
    cases hu with
    | head =>
      cases x with
      | v y => have e5 : u = y := e5; rw [e5]; exact h1 _ List.mem_cons_self y rfl
      | sl sz n f => obtain ⟨A, c, rfl, _⟩ := (show D.own _ (.sl sz n f) _ from e5); rfl
      | pt m o => exact (show False from e5).elim
    | tail _ hu => exact owns_one e6 (fun x hx => h1 x (List.mem_cons_of_mem _ hx)) u hu
end
end Go.Proofs.YtiegllklalplnaaGreat
