/-
  Part D of what the claim leans on: memory, data, walks through the program, plain laws.
-/
import Derived.Test.YthpjoddhlkcciaaGreatMSC
import Derived.Deep.AppendSrc
import Derived.Test.YthpjoddhlkcciaaGreatProg
namespace Go.Proofs.YthpjoddhlkcciaaGreat
open Go Go.RowKit
set_option linter.unusedVariables false
set_option linter.unusedSimpArgs false
section
def flatR (rows : Nat → List Value) : Nat → List Value
  | 0 => []
  | n + 1 => flatR rows n ++ rows n
theorem flatR_length {rows : Nat → List Value} {sz : Nat} : ∀ {n : Nat}, (∀ i, i < n → (rows i).length = sz) → (flatR rows n).length = n * sz
  | 0, _ => by simp [flatR]
  | n + 1, h => by rw [flatR, List.length_append, flatR_length fun i hi => h i (by omega), h n (by omega), Nat.add_mul, Nat.one_mul]
theorem flatR_get {rows : Nat → List Value} {sz : Nat} : ∀ {n : Nat}, (∀ i, i < n → (rows i).length = sz) → ∀ {i j : Nat}, i < n → j < sz → (flatR rows n)[i * sz + j]? = (rows i)[j]?
  | 0, _, _, _, hi, _ => absurd hi (Nat.not_lt_zero _)
  | n + 1, h, i, j, hi, hj => by
    have hl := flatR_length (rows := rows) (sz := sz) (n := n) fun i hi => h i (by omega)
    rw [flatR]
    by_cases hin : i < n
    · have h1 : (i + 1) * sz ≤ n * sz := Nat.mul_le_mul_right _ hin
      rw [Nat.add_mul, Nat.one_mul] at h1
      rw [List.getElem?_append_left (by omega)]
      exact flatR_get (fun i hi => h i (by omega)) hin hj
    · have : i = n := by omega
      subst this
      rw [List.getElem?_append_right (by omega), hl]
      congr 1; omega
theorem flatR_cell {rows : Nat → List Value} {sz : Nat} {n k : Nat} (h : ∀ i, i < n → (rows i).length = sz) (hpos : 0 < sz) (hk : k < n * sz) : ∃ q p, q < n ∧ p < sz ∧ k = q * sz + p :=
  ⟨k / sz, k % sz, Nat.div_lt_of_lt_mul (by rwa [Nat.mul_comm]), Nat.mod_lt _ hpos, by rw [Nat.mul_comm]; exact (Nat.div_add_mod k sz).symm⟩
def appR (n : Nat) (f g : Nat → List Value) : Nat → List Value := fun i => bif Nat.blt i n then f i else g (i - n)
theorem appR_lt {n : Nat} {f g : Nat → List Value} {i : Nat} (h : i < n) : appR n f g i = f i := by
  have : Nat.blt i n = true := by simpa [Nat.blt_eq] using h
  simp [appR, this]
theorem appR_ge {n : Nat} {f g : Nat → List Value} {i : Nat} (h : n ≤ i) : appR n f g i = g (i - n) := by
  have : Nat.blt i n = false := by
    cases e : Nat.blt i n with
    | false => rfl
    | true => rw [Nat.blt_eq] at e; omega
  simp [appR, this]
def VA (A : Option Addr) (n c sz : Nat) (rows : Nat → List Value) (h : PH) : Prop := n ≤ c ∧ (∀ i, i < n → ∃ b o, A = some ⟨b, o, none⟩ ∧ (rows i).length = sz ∧ ∀ j, j < sz → h b (o + i * sz + j) = (rows i)[j]?) ∧
  (∀ i, n ≤ i → i < c → ∃ b o, A = some ⟨b, o, none⟩ ∧ ∀ j, j < sz → h b (o + i * sz + j) ≠ none)
section
variable {P : Program} {w : World}
theorem run_append {t tx ty : TypeId} {te : TI} (ht : P.underlying t = some (.slice te.id)) (hti : te.ok P) (hpos : 0 < te.sz) (hzs : te.zero.cells.size = te.sz) {h : PH} {A : Option Addr} {n c : Nat} {f : Nat → List Value} (s : VA A n c te.sz f h) (hf : FitO h w)
    {x : Value} {m : Nat} {g : Nat → List Value} (hg : ∀ i, i < m → (g i).length = te.sz) (hs : Src P te.sz tx x m (flatR g m) w) (hb : (n + m) * te.by_ ≤ 140737488355328) (hm : n + m ≤ maxL) :
    ∃ A' c' w' h', (Builtin.append_ #[t, tx] ty #[.slice A n c, x]).run P w = .ok (.slice A' (n + m) c') w' ∧ VA A' (n + m) c' te.sz (appR n f g) h' ∧ FitO h' w' ∧ Keep (fun b o => h b o ≠ none) w w' ∧ ∀ b o, h' b o ≠ none → h b o ≠ none ∨ w.heap.size ≤ b := by
  obtain ⟨i, i1, i2, i3, i4⟩ := hti.info
  obtain ⟨s0, s1, s2⟩ := s
  have hnl := flatR_length hg
  by_cases hroom : n + m ≤ c
  · by_cases h0 : m = 0
    · subst h0
      refine ⟨A, c, w, h, ?_, ⟨hroom, fun i hi => ?_, fun i hi hi2 => s2 i (by omega) hi2⟩, hf, Keep.refl _ _, fun b o hb => .inl hb⟩
      · have hsc := hs.cells
        rw [← i2] at hsc
        simp only [flatR] at hsc
        cases A with
        | none => rcases hs.kind with ⟨e', hk⟩ | hk <;> simp [Builtin.append_, run_underlying ht, run_underlying hk, sizeOf, typeInfo, i1, hs.len, s0, hsc]
        | some a => rcases hs.kind with ⟨e', hk⟩ | hk <;> simp [Builtin.append_, run_underlying ht, run_underlying hk, sizeOf, typeInfo, i1, hs.len, s0, hsc, storeCells]
      · rw [appR_lt (by omega)]; exact s1 i (by omega)
    · obtain ⟨b, o, rfl, hsp⟩ := s2 n (Nat.le_refl _) (by omega)
      have hin : ∀ j, j < (flatR g m).length → h b (o + n * te.sz + j) ≠ none := fun j hj => by
        rw [hnl] at hj
        obtain ⟨q, p, c1, c2, rfl⟩ := flatR_cell hg hpos hj
        obtain ⟨b', o', e, hsp'⟩ := s2 (n + q) (by omega) (by omega)
        injection e with e
        injection e with e1 e2
        subst e1; subst e2
        have := hsp' _ c2
        rwa [Nat.add_mul, show o + (n * te.sz + q * te.sz) + p = o + n * te.sz + (q * te.sz + p) from by omega] at this
      have hcell : ∀ j, j < (flatR g m).length → (w.cell? ⟨b, o + n * te.sz + j, none⟩).isSome = true ∧ w.frozen? ⟨b, o + n * te.sz + j, none⟩ = false := fun j hj => by
        cases e : h b (o + n * te.sz + j) with
        | none => exact absurd e (hin j hj)
        | some v => obtain ⟨f1, f2⟩ := hf.fit _ _ _ e; exact ⟨by rw [f1]; rfl, f2⟩
      have hrun := run_append_room_src (P := P) w t tx ty te.id i ht i1 b o n c x m (flatR g m) (by rw [i2]; exact hs) hroom (by rw [i2]; exact fun j hj => (hcell j hj).1) (by rw [i2]; exact fun j hj => (hcell j hj).2)
      rw [i2] at hrun
      have hone : ∀ v ∈ flatR g m, oneV v = true := fun v hv => by
        have := hs.one v hv
        cases v <;> first | rfl | cases this
      obtain ⟨w', r1, r2, r3, r4⟩ := run_storeCells (P := P) (flatR g m) w b (o + n * te.sz) 0 h hf.fit (by simpa using hin) hone
      have r1' := run_storeCells_cells (P := P) b (o + n * te.sz) (flatR g m) 0 w (by simpa using fun j hj => (hcell j hj).1) (by simpa using fun j hj => (hcell j hj).2) hs.one
      rw [r1'] at r1
      injection r1 with _ r1
      simp only [Nat.add_zero] at r1 r2 r3
      subst r1
      refine ⟨_, c, _, _, hrun, ⟨hroom, fun k hk => ?_, fun k hk hk2 => ?_⟩, hf.turn r2 r3 fun b' o' hb' => ⟨o', PH.updL_ne hin hb'⟩, r3.mono fun x _ y hxy => ?_, fun b' o' hb' => .inl (PH.updL_ne hin hb')⟩
      · refine ⟨b, o, rfl, ?_⟩
        by_cases hkn : k < n
        · rw [appR_lt hkn]
          obtain ⟨b', o', e, q1, q2⟩ := s1 k hkn
          injection e with e
          injection e with e1 e2
          subst e1; subst e2
          refine ⟨q1, fun j hj => ?_⟩
          have h1 : (k + 1) * te.sz ≤ n * te.sz := Nat.mul_le_mul_right _ hkn
          rw [Nat.add_mul, Nat.one_mul] at h1
          rw [PH.updL_out _ (by omega)]
          exact q2 j hj
        · rw [appR_ge (by omega)]
          refine ⟨hg _ (by omega), fun j hj => ?_⟩
          have h1 : (k - n + 1) * te.sz ≤ m * te.sz := Nat.mul_le_mul_right _ (by omega)
          rw [Nat.add_mul, Nat.one_mul] at h1
          have h2 : k * te.sz = n * te.sz + (k - n) * te.sz := by rw [← Nat.add_mul]; congr 1; omega
          rw [show o + k * te.sz + j = o + n * te.sz + ((k - n) * te.sz + j) from by omega, PH.updL_in _ _ _ _ (by omega), flatR_get hg (by omega) hj]
      · obtain ⟨b', o', e, q⟩ := s2 k (by omega) hk2
        injection e with e
        injection e with e1 e2
        subst e1; subst e2
        refine ⟨b, o, rfl, fun j hj => ?_⟩
        by_cases c : o + n * te.sz ≤ o + k * te.sz + j ∧ o + k * te.sz + j < o + n * te.sz + (flatR g m).length
        · rw [show o + k * te.sz + j = o + n * te.sz + (k * te.sz + j - n * te.sz) from by omega, PH.updL_in _ _ _ _ (by omega), List.getElem?_eq_getElem (by omega)]; simp
        · rw [PH.updL_out _ (by omega)]; exact q j hj
      · obtain ⟨rfl, c1, c2⟩ := hxy
        have := hin (y - (o + n * te.sz)) (by omega)
        rwa [show o + n * te.sz + (y - (o + n * te.sz)) = y from by omega] at this
  · have hol : (flatR f n).length = n * te.sz := flatR_length fun i hi => by obtain ⟨_, _, _, q, _⟩ := s1 i hi; exact q
    have hold : (Builtin.firstCells i.size n (.slice A n c)).run P w.drew = .ok (flatR f n).toArray w.drew := by
      cases A with
      | none =>
        have h0 : n = 0 := by
          rcases Nat.eq_zero_or_pos n with h | h
          · exact h
          · obtain ⟨_, _, e, _⟩ := s1 0 h; cases e
        subst h0
        exact run_firstCells_none w.drew i.size 0 0 c
      | some ad =>
        refine run_firstCells_some (P := P) w.drew i.size n ad n c (flatR f n) (by rw [i2]; exact hol) fun k v hk => ?_
        have hlt : k < n * te.sz := by rw [← hol]; exact (List.getElem?_eq_some_iff.1 hk).1
        have hlen : ∀ i, i < n → (f i).length = te.sz := fun i hi => by obtain ⟨_, _, _, q, _⟩ := s1 i hi; exact q
        obtain ⟨q, p, c1, c2, rfl⟩ := flatR_cell hlen hpos hlt
        obtain ⟨b, o, e, q1, q2⟩ := s1 _ c1
        injection e with e
        subst e
        have h1 := flatR_get hlen c1 c2
        rw [hk, ← q2 _ c2] at h1
        have h2 := (hf.fit _ _ _ h1.symm).1
        rw [add_mk, ← Nat.add_assoc]
        exact h2
    have hrun := run_append_grow_src (P := P) w t tx ty te.id i te.zero ht i1 i4 A n c (flatR f n) hold x m (flatR g m) (by rw [i2]; exact hs) (by omega) (by unfold maxL at hm; omega) (growslice_fits (by omega) (by rw [i3]; exact hb))
    generalize hcc : grownCap w (n + m) c te.id = cc at hrun
    have hge : n + m ≤ cc := by rw [← hcc]; exact grownCap_ge _ _ _ _
    generalize hcs : ((flatR f n ++ flatR g m).toArray ++ Builtin.zeroCells te.zero.cells (cc - (n + m))) = cs at hrun
    have hsz : cs.size = cc * te.sz := by
      rw [← hcs]
      simp only [Array.size_append, List.size_toArray, List.length_append, size_zeroCells, hzs, hol, hnl, ← Nat.add_mul]
      congr 1; omega
    have hfit : FitO (PH.row w.heap.size 0 cs.toList) (w.drew.alloc (.cells cs te.id)) := by
      have := FitO.alloc w.drew cs.toList te.id
      simpa using this
    have hrow : ∀ k, PH.row w.heap.size 0 cs.toList w.heap.size k = cs[k]? := fun k => by
      have := PH.row_at (b := w.heap.size) (off := 0) (l := cs.toList) k
      rw [Nat.zero_add] at this
      rw [this, Array.getElem?_toList]
    have hlen : ∀ i, i < n → (f i).length = te.sz := fun i hi => by obtain ⟨_, _, _, q, _⟩ := s1 i hi; exact q
    refine ⟨_, cc, _, _, hrun, ⟨hge, fun k hk => ⟨w.heap.size, 0, rfl, ?_⟩, fun k hk hk2 => ⟨w.heap.size, 0, rfl, fun j hj => ?_⟩⟩, hfit, ?_, fun b o hb => .inr (by rw [PH.row_ne hb]; exact Nat.le_refl _)⟩
    · have hcsk : ∀ q, q < (n + m) * te.sz → cs[q]? = (flatR f n ++ flatR g m)[q]? := fun q hq => by
        rw [← hcs, Array.getElem?_append_left (by simp only [List.size_toArray, List.length_append, hol, hnl, ← Nat.add_mul]; exact hq)]
        simp
      have hkq : ∀ j, j < te.sz → k * te.sz + j < (n + m) * te.sz := fun j hj => by
        have h1 : (k + 1) * te.sz ≤ (n + m) * te.sz := Nat.mul_le_mul_right _ hk
        rw [Nat.add_mul, Nat.one_mul] at h1
        omega
      by_cases hkn : k < n
      · rw [appR_lt hkn]
        refine ⟨hlen k hkn, fun j hj => ?_⟩
        have h1 : (k + 1) * te.sz ≤ n * te.sz := Nat.mul_le_mul_right _ hkn
        rw [Nat.add_mul, Nat.one_mul] at h1
        rw [Nat.zero_add, hrow, hcsk _ (hkq j hj), List.getElem?_append_left (by omega), flatR_get hlen hkn hj]
      · rw [appR_ge (by omega)]
        refine ⟨hg _ (by omega), fun j hj => ?_⟩
        have h2 : k * te.sz = n * te.sz + (k - n) * te.sz := by rw [← Nat.add_mul]; congr 1; omega
        rw [Nat.zero_add, hrow, hcsk _ (hkq j hj), List.getElem?_append_right (by omega), hol, show k * te.sz + j - n * te.sz = (k - n) * te.sz + j from by omega, flatR_get hg (by omega) hj]
    · have h1 : (k + 1) * te.sz ≤ cc * te.sz := Nat.mul_le_mul_right _ hk2
      rw [Nat.add_mul, Nat.one_mul] at h1
      rw [Nat.zero_add, hrow, Array.getElem?_eq_getElem (by omega)]; simp
    · exact ((Keep.drew w).mono fun _ _ _ h => h.elim).trans (Keep.alloc w.drew _) fun _ _ h => h.elim
end
theorem own_VA {h : PH} {sz n : Nat} {f : Nat → List D} {y : Value} (e : D.own h (.sl sz n f) y) : ∃ (A : Option Addr) (c : Nat) (row : Nat → List Value) (hc hp : PH) (G : Nat → PH), y = .slice A n c ∧ n ≤ maxL ∧ VA A n c sz row hc ∧ hc.le h ∧ hp.le h ∧ hc.dj hp ∧ (∀ i, i < n → D.owns (G i) (f i) (row i) ∧ (row i).length = sz) ∧ (∀ i, (G i).le hp) ∧ ∀ i j, i ≠ j → (G i).dj (G j) := by
  obtain ⟨A, c, e1, e2, e3, e4⟩ := e
  rcases e4 with rfl | ⟨b, o, row, G, rfl, g1, g2, g3⟩
  · have : n = 0 := by omega
    subst this
    exact ⟨A, 0, fun _ => [], PH.emp, PH.emp, fun _ => PH.emp, e1, e3, ⟨Nat.le_refl _, fun i hi => absurd hi (Nat.not_lt_zero _), fun i _ hi => absurd hi (Nat.not_lt_zero _)⟩, PH.emp_le _, PH.emp_le _, PH.emp_dj _, fun i hi => absurd hi (Nat.not_lt_zero _), fun _ => PH.emp_le _, fun _ _ _ => PH.emp_dj _⟩
  · have hcap : ∀ j : Nat, j < c → j * sz + sz ≤ c * sz := fun j hj => by
      have := Nat.mul_le_mul_right sz (show j + 1 ≤ c from hj)
      rwa [Nat.add_mul, Nat.one_mul] at this
    let hc : PH := fun x y => if x = b ∧ o ≤ y ∧ y < o + c * sz then h x y else none
    have lc : hc.le h := fun x y v hv => by
      simp only [hc] at hv
      split at hv
      · exact hv
      · cases hv
    have inC : ∀ i j, i < c → j < sz → hc b (o + i * sz + j) = h b (o + i * sz + j) := fun i j hi hj => by
      have := hcap i hi
      simp only [hc]
      rw [if_pos ⟨trivial, by omega, by omega⟩]
    refine ⟨some ⟨b, o, none⟩, c, row, hc, h.sub hc, G, e1, e3, ⟨e2, fun i hi => ⟨b, o, rfl, (g1 i hi).2.1, fun j hj => ?_⟩, fun i hi hi2 => ⟨b, o, rfl, fun j hj => ?_⟩⟩, lc, PH.sub_le _ _, PH.dj_symm (PH.sub_dj _ _), fun i hi => ⟨(g1 i hi).1, (g1 i hi).2.1⟩, fun i => PH.le_sub (g3.1 i) fun x y => ?_, g3.2.1⟩
    · rw [inC i j (by omega) hj]; exact (g1 i hi).2.2 j hj
    · rw [inC i j hi2 hj]; exact g2 i hi hi2 j hj
    · simp only [hc]
      split
      · rename_i hx; left; rw [hx.1]; exact g3.2.2 i y hx.2.1 hx.2.2
      · exact .inr rfl
theorem VA_own {A : Option Addr} {n c sz : Nat} {row : Nat → List Value} {hc hp h : PH} {G : Nat → PH} {f : Nat → List D} (va : VA A n c sz row hc) (hn : n ≤ maxL) (lc : hc.le h) (lp : hp.le h) (d : hc.dj hp) (ho : ∀ i, i < n → D.owns (G i) (f i) (row i)) (hG : ∀ i, i < n → (G i).le hp) (hd : ∀ i j, i < n → j < n → i ≠ j → (G i).dj (G j)) : D.own h (.sl sz n f) (.slice A n c) := by
  obtain ⟨v1, v2, v3⟩ := va
  refine ⟨A, c, rfl, v1, hn, ?_⟩
  rcases Nat.eq_zero_or_pos c with h0 | h0
  · exact .inl h0
  · obtain ⟨b, o, rfl⟩ : ∃ b o, A = some ⟨b, o, none⟩ := by
      rcases Nat.eq_zero_or_pos n with h1 | h1
      · obtain ⟨b, o, e, _⟩ := v3 0 (by omega) h0; exact ⟨b, o, e⟩
      · obtain ⟨b, o, e, _⟩ := v2 0 h1; exact ⟨b, o, e⟩
    have inC : ∀ y, o ≤ y → y < o + c * sz → hc b y ≠ none := fun y y1 y2 => by
      have hz : 0 < sz := by
        rcases Nat.eq_zero_or_pos sz with h | h
        · subst h; simp at y2; omega
        · exact h
      have hq : (y - o) / sz < c := Nat.div_lt_of_lt_mul (by rw [Nat.mul_comm]; omega)
      have hm : (y - o) % sz < sz := Nat.mod_lt _ hz
      have hy : y = o + (y - o) / sz * sz + (y - o) % sz := by
        have := Nat.div_add_mod (y - o) sz
        rw [Nat.mul_comm] at this
        omega
      by_cases hjn : (y - o) / sz < n
      · obtain ⟨b', o', e, s2, s3⟩ := v2 _ hjn
        injection e with e
        injection e with e5 e6
        subst e5; subst e6
        have := s3 _ hm
        rw [← hy] at this
        rw [this, List.getElem?_eq_getElem (by omega)]; simp
      · obtain ⟨b', o', e, s3⟩ := v3 _ (by omega) hq
        injection e with e
        injection e with e5 e6
        subst e5; subst e6
        have := s3 _ hm
        rwa [← hy] at this
    refine .inr ⟨b, o, row, fun i => if i < n then G i else PH.emp, rfl, fun i hi => ?_, fun i hi hi2 j hj => ?_, fun i => ?_, fun i j hij => ?_, fun i x x1 x2 => ?_⟩
    · obtain ⟨b', o', e, s2, s3⟩ := v2 i hi
      injection e with e
      injection e with e5 e6
      subst e5; subst e6
      exact ⟨by dsimp only; rw [if_pos hi]; exact ho i hi, s2, fun j hj => le_cell lc s2 hj (s3 j hj)⟩
    · obtain ⟨b', o', e, s3⟩ := v3 i hi hi2
      injection e with e
      injection e with e5 e6
      subst e5; subst e6
      exact le_ne lc (s3 j hj)
    · dsimp only
      by_cases hi : i < n
      · rw [if_pos hi]; exact PH.le_trans (hG i hi) lp
      · rw [if_neg hi]; exact PH.emp_le _
    · dsimp only
      by_cases hi : i < n
      · rw [if_pos hi]
        by_cases hj : j < n
        · rw [if_pos hj]; exact hd i j hi hj hij
        · rw [if_neg hj]; exact PH.dj_emp _
      · rw [if_neg hi]; exact PH.emp_dj _
    · dsimp only
      by_cases hi : i < n
      · rw [if_pos hi]
        cases e : G i b x with
        | none => rfl
        | some u =>
          have h1 := hG i hi b x u e
          rcases d b x with h2 | h2
          · exact absurd h2 (inC x x1 x2)
          · rw [h1] at h2; cases h2
      · rw [if_neg hi]; rfl
def appD (n : Nat) (f g : Nat → List D) : Nat → List D := fun i => bif Nat.blt i n then f i else g (i - n)
theorem appD_lt {n : Nat} {f g : Nat → List D} {i : Nat} (h : i < n) : appD n f g i = f i := by
  have : Nat.blt i n = true := by simpa [Nat.blt_eq] using h
  simp [appD, this]
theorem appD_ge {n : Nat} {f g : Nat → List D} {i : Nat} (h : n ≤ i) : appD n f g i = g (i - n) := by
  have : Nat.blt i n = false := by
    cases e : Nat.blt i n with
    | false => rfl
    | true => rw [Nat.blt_eq] at e; omega
  simp [appD, this]
theorem flat_owns {h : PH} : ∀ {l : List Value}, D.owns h (l.map D.v) l
  | [] => rfl
  | x :: r => ⟨x, r, PH.emp, h, rfl, PH.emp_le _, PH.le_refl _, PH.emp_dj _, rfl, flat_owns⟩
theorem flat_rds {h : PH} : ∀ {l m : List Value}, D.rds h (l.map D.v) m → m = l
  | [], _, e => e
  | x :: r, _, e => by
    obtain ⟨a, t, rfl, e2, e3⟩ := e
    have e2 : a = x := e2
    rw [e2, flat_rds e3]
section
variable {P : Program} {w : World}
theorem run_appD {t tx ty : TypeId} {te : TI} (ht : P.underlying t = some (.slice te.id)) (hti : te.ok P) (hpos : 0 < te.sz) (hzs : te.zero.cells.size = te.sz) {h : PH} {n : Nat} {f : Nat → List D} {y : Value} (s : D.own h (.sl te.sz n f) y) (hf : FitO h w)
    {x : Value} {m : Nat} {g : Nat → List D} {rx : Nat → List Value} {hx : PH} {G : Nat → PH} (hs : Src P te.sz tx x m (flatR rx m) w) (hg : ∀ i, i < m → D.owns (G i) (g i) (rx i) ∧ (rx i).length = te.sz) (hGl : ∀ i, i < m → (G i).le hx) (hGd : ∀ i j, i ≠ j → (G i).dj (G j)) (hfx : FitO hx w) (hd : h.dj hx) (hb : (n + m) * te.by_ ≤ 140737488355328) (hm : n + m ≤ maxL) :
    ∃ v w' h', (Builtin.append_ #[t, tx] ty #[y, x]).run P w = .ok v w' ∧ oneV v = true ∧ D.own h' (.sl te.sz (n + m) (appD n f g)) v ∧ FitO h' w' ∧ Keep (fun b o => h b o ≠ none) w w' ∧ ∀ b o, h' b o ≠ none → h b o ≠ none ∨ hx b o ≠ none ∨ w.heap.size ≤ b := by
  obtain ⟨A, c, row, hc, hp, Gs, rfl, s1, va, lc, lp, dcp, s2, s3, s4⟩ := own_VA s
  obtain ⟨A', c', w', h1, r1, r2, r3, r4, r5⟩ := run_append (P := P) (w := w) (ty := ty) ht hti hpos hzs va (hf.le lc) (fun i hi => (hg i hi).2) hs hb hm
  have keep : ∀ k : PH, FitO k w → hc.dj k → FitO k w' := fun k fk d => fk.keep r4 fun b o e h2 => by
    rcases d b o with h3 | h3
    · exact h2 h3
    · exact e h3
  have d1 : ∀ k : PH, FitO k w → hc.dj k → h1.dj k := fun k fk d b o => by
    cases e : k b o with
    | none => exact .inr rfl
    | some u =>
      left
      cases e2 : h1 b o with
      | none => rfl
      | some u2 =>
        rcases r5 b o (by rw [e2]; simp) with h3 | h3
        · rcases d b o with h4 | h4
          · exact absurd h4 h3
          · rw [e] at h4; cases h4
        · have := fk.lt (b := b) (o := o) (by rw [e]; simp)
          omega
  have dpx : hp.dj hx := PH.dj_le hd lp (PH.le_refl _)
  have dcx : hc.dj hx := PH.dj_le hd lc (PH.le_refl _)
  have da : h1.dj (hp.un hx) := PH.dj_un (d1 _ (hf.le lp) dcp) (d1 _ hfx dcx)
  refine ⟨_, w', h1.un (hp.un hx), r1, rfl, VA_own (G := fun i => if i < n then Gs i else G (i - n)) r2 hm (PH.le_un_left _ _) (PH.le_un_right da) da (fun i hi => ?_) (fun i hi => ?_) (fun i j hi hj hij => ?_), r3.un ((keep _ (hf.le lp) dcp).un (keep _ hfx dcx)), r4.mono fun b _ o h => le_ne lc h, fun b o e => ?_⟩
  · by_cases h : i < n
    · rw [if_pos h, appD_lt h, appR_lt h]; exact (s2 i h).1
    · rw [if_neg h, appD_ge (by omega), appR_ge (by omega)]; exact (hg (i - n) (by omega)).1
  · by_cases h : i < n
    · rw [if_pos h]; exact PH.le_trans (s3 i) (PH.le_un_left _ _)
    · rw [if_neg h]; exact PH.le_trans (hGl (i - n) (by omega)) (PH.le_un_right dpx)
  · by_cases h : i < n
    · rw [if_pos h]
      by_cases h' : j < n
      · rw [if_pos h']; exact s4 i j hij
      · rw [if_neg h']; exact PH.dj_le dpx (s3 i) (hGl (j - n) (by omega))
    · rw [if_neg h]
      by_cases h' : j < n
      · rw [if_pos h']; exact PH.dj_symm (PH.dj_le dpx (s3 j) (hGl (i - n) (by omega)))
      · rw [if_neg h']; exact hGd _ _ (by omega)
  · rcases PH.un_ne e with h2 | h2
    · rcases r5 b o h2 with h3 | h3
      · exact .inl (le_ne lc h3)
      · exact .inr (.inr h3)
    · rcases PH.un_ne h2 with h3 | h3
      · exact .inl (le_ne lp h3)
      · exact .inr (.inl h3)
theorem flatR_one {rows : Nat → List Value} : ∀ {n : Nat}, (∀ i, i < n → ∀ u ∈ rows i, oneV u = true) → ∀ u ∈ flatR rows n, oneV u = true
  | 0, _, u, h => by cases h
  | n + 1, h1, u, h => by
    rw [flatR, List.mem_append] at h
    rcases h with h | h
    · exact flatR_one (fun i hi => h1 i (by omega)) u h
    · exact h1 n (by omega) u h
theorem oneV_cell' {v : Value} (h : oneV v = true) : v.oneCell' = true := by cases v <;> first | rfl | cases h
theorem Src_rd {te : TI} {tx : Nat} {e' : TypeId} (hu : P.underlying tx = some (.slice e')) {A : Option Addr} {m c : Nat} {rx : Nat → List Value} {h : PH} (hA : 0 < m → ∃ b o, A = some ⟨b, o, none⟩ ∧ ∀ i, i < m → (rx i).length = te.sz ∧ ∀ j, j < te.sz → h b (o + i * te.sz + j) = (rx i)[j]?) (hf : Fit h w) (hpos : 0 < te.sz) (h1 : ∀ i, i < m → ∀ u ∈ rx i, oneV u = true) : Src P te.sz tx (.slice A m c) m (flatR rx m) w := by
  rcases Nat.eq_zero_or_pos m with h0 | h0
  · subst h0
    cases A with
    | none => exact Src.ofNil w hu c
    | some a => exact Src.ofSlice w hu a 0 c [] (by simp) (fun j u e => by cases e) (fun u h => by cases h)
  · obtain ⟨b, o, rfl, hr⟩ := hA h0
    have hlen : ∀ i, i < m → (rx i).length = te.sz := fun i hi => (hr i hi).1
    refine Src.ofSlice w hu _ m c _ (flatR_length hlen) (fun k v hk => ?_) fun u hu => oneV_cell' (flatR_one h1 u hu)
    have hlt : k < m * te.sz := by rw [← flatR_length hlen]; exact (List.getElem?_eq_some_iff.1 hk).1
    obtain ⟨q, p, c1, c2, rfl⟩ := flatR_cell hlen hpos hlt
    have h2 := flatR_get hlen c1 c2
    rw [hk, ← (hr q c1).2 p c2] at h2
    have h3 := (hf _ _ _ h2.symm).1
    rw [add_mk, ← Nat.add_assoc]
    exact h3
theorem owns_one {h : PH} : ∀ {l : List D} {vs : List Value}, D.owns h l vs → (∀ x ∈ l, ∀ v, x = .v v → oneV v = true) → ∀ u ∈ vs, oneV u = true
  | [], vs, e, _, u, hu => by have e : vs = [] := e; rw [e] at hu; cases hu
  | x :: l, vs, e, h1, u, hu => by
    obtain ⟨a, t, g1, g2, rfl, _, _, _, e5, e6⟩ := e
    cases hu with
    | head =>
      cases x with
      | v y => have e5 : u = y := e5; rw [e5]; exact h1 _ List.mem_cons_self y rfl
      | sl sz n f => obtain ⟨A, c, rfl, _⟩ := (show D.own _ (.sl sz n f) _ from e5); rfl
      | pt m o => exact (show False from e5).elim
    | tail _ hu => exact owns_one e6 (fun x hx => h1 x (List.mem_cons_of_mem _ hx)) u hu
end
end
section
def oneDs : List D → Bool
  | [] => true
  | .v x :: r => bif oneV x then oneDs r else false
  | _ :: r => oneDs r
def flatDs : List D → Option (List Value)
  | [] => some []
  | .v x :: r => match flatDs r with
    | some l => bif oneV x then some (x :: l) else none
    | none => none
  | _ :: _ => none
theorem oneDs_ok : ∀ {l : List D}, oneDs l = true → ∀ x ∈ l, ∀ v, x = .v v → oneV v = true
  | [], _, x, h, _, _ => by cases h
  | y :: r, h, x, hm, v, e => by
    cases y with
    | v u =>
      simp only [oneDs] at h
      cases c : oneV u with
      | false => rw [c] at h; cases h
      | true =>
        rw [c] at h
        cases hm with
        | head => injection e with e; rw [← e]; exact c
        | tail _ hm => exact oneDs_ok h x hm v e
    | sl sz n f =>
      cases hm with
      | head => cases e
      | tail _ hm => exact oneDs_ok (l := r) h x hm v e
    | pt l o =>
      cases hm with
      | head => cases e
      | tail _ hm => exact oneDs_ok (l := r) h x hm v e
theorem flatDs_ok : ∀ {l : List D} {m : List Value}, flatDs l = some m → l = m.map D.v ∧ ∀ u ∈ m, oneV u = true
  | [], m, h => by simp [flatDs] at h; subst h; exact ⟨rfl, fun u h => by cases h⟩
  | .v x :: r, m, h => by
    simp only [flatDs] at h
    cases c : flatDs r with
    | none => rw [c] at h; cases h
    | some l =>
      rw [c] at h
      simp only at h
      cases c2 : oneV x with
      | false => rw [c2] at h; cases h
      | true =>
        rw [c2] at h; simp at h; subst h
        obtain ⟨h1, h2⟩ := flatDs_ok c
        exact ⟨by rw [h1]; rfl, fun u hu => by cases hu with | head => exact c2 | tail _ hu => exact h2 u hu⟩
  | .sl _ _ _ :: _, _, h => by simp [flatDs] at h
  | .pt _ _ :: _, _, h => by simp [flatDs] at h
section
variable {E : Env} {B : BE} {mu mu' : Mu} {w : World} {H : Nat → PH} {TT : List TI} {fr fr' : Fr} {gf gf' : GF} {a : Act} {all rest : List Oper} {Q : Exit → Act → World → Prop} {o : Oper} {J : Act → World → Prop} {G : AG} {R : Exit → Act → World → Prop} {K : List KF}
theorem OJ_B {ι : Type} {ks nk : List Nat} {mu1 : Mu} {φ : ι → Prop} {res : ι → SV} {mu1' : ι → Mu} {t : Nat} {md : Mu}
    (hop : ∀ B a w H, FitsE E B H fr gf a → Mem E B mu w H → ∃ y v w' B' H', (execOp a.eval o).run E.P w = .ok (.value v) w' ∧ Ret1 E.P ks B (AllP E.r (keysO mu1) H) mu1 w (onlyK (keysO mu1) H) φ res mu1' y v w' B' H')
    (hg : o.guard = none) (hd : o.dst = some t) (ht : Nat.blt t E.N = true) (hgd : gdrop t gf = some gf') (hnk : ∀ y, keysOf (mu1' y) = nk) (hkeys : keysB ks nk mu1 fr gf mu E.A.ks G.ks = true) (hout : ∀ y, ((res y).inK (appK ks nk) && muIn (appK ks nk) (mu1' y)) = true)
    (hmd : mdropKs (appK (keysO mu1) nk) mu = some md) {fr' : Fr} {gf2 : GF} (hcut : cutKs (keysO mu1) fr gf' = some (fr', gf2))
    (k : ∀ y, φ y → SJ G J E ((t, res y) :: fr') gf2 (appM (mu1' y) md)) : OJ G E all Q J o fr gf mu := fun B a w H f m gg => by
  obtain ⟨y, v, w', B', H', h1, h2⟩ := hop B a w H f m
  refine one_val (wanted_none hg) h1 ?_
  rw [hd]
  exact back_J hgd (by simpa [Nat.blt_eq] using ht) f m gg hnk hkeys hout hmd hcut k h2
theorem Ret1.new {k' : Nat} {ks : List Nat} {s : PH} {mu1 : Mu} {H1 : Nat → PH} {sz n : Nat} {f : Nat → List D} {v : Value} {w w' : World} {h' : PH} {P : Program} (hs : Fit s w) (hk : hasK k' ks = false) (hds : ∀ j, hasK j (keysO mu1) = true → (H1 j).dj s) (h1 : oneV v = true) (h2 : D.own h' (.sl sz n f) v) (h3 : FitO h' w') (h4 : Keep (ownD mu1 H1) w w') (h5 : ∀ b o, h' b o ≠ none → ownD mu1 H1 b o ∨ w.heap.size ≤ b) :
    Ret1 P ks B s mu1 w H1 (fun _ : Unit => True) (fun _ => .a (.g k')) (fun _ => [(k', .arr sz n f)]) () v w' (BE.set B k' v) (fun j => if j = k' then h' else PH.emp) := by
  have hfs : Fit s w' := hs.keep h4 fun b o e ⟨j, j1, j2⟩ => by
    rcases hds j j1 b o with h | h
    · exact j2 h
    · exact e h
  refine ⟨trivial, ⟨(BE.set_eq B k' v).symm, h1⟩, ⟨fun k c e => ?_, fun k => ?_, fun i j hij => ?_, fun k => ?_, hfs⟩, fun k hk2 => ?_, h4, fun k b o e => ?_⟩
  · rw [mlk_cons] at e
    by_cases h : k' = k
    · subst h
      rw [if_pos rfl] at e
      injection e with e
      subst e
      rw [if_pos rfl]
      show D.own h' _ (BE.set B _ v _)
      rw [BE.set_eq]; exact h2
    · rw [if_neg h] at e; cases e
  · split
    · exact h3
    · exact FitO.emp w'
  · by_cases h : i = k'
    · rw [if_pos h, if_neg (fun e => hij (h.trans e.symm))]; exact PH.dj_emp _
    · rw [if_neg h]; exact PH.emp_dj _
  · split
    · intro b o
      cases e : s b o with
      | none => exact .inr rfl
      | some u =>
        left
        cases e2 : h' b o with
        | none => rfl
        | some u2 =>
          rcases h5 b o (by rw [e2]; simp) with ⟨j, j1, j2⟩ | h
          · rcases hds j j1 b o with h | h
            · exact absurd h j2
            · rw [e] at h; cases h
          · have := hs.lt (b := b) (o := o) (by rw [e]; simp)
            omega
    · exact PH.emp_dj _
  · exact BE.set_ne B v fun e => by rw [e, hk] at hk2; cases hk2
  · by_cases h : k = k'
    · rw [if_pos h] at e; exact h5 b o e
    · rw [if_neg h] at e; exact absurd rfl e
theorem onlyK_dj (m : Mem E B mu w H) (ko : List Nat) : ∀ j, hasK j ko = true → (onlyK ko H j).dj (AllP E.r ko H) := fun j hj => by
  unfold onlyK; rw [hj]; exact AllP_dj m.mm hj
theorem zero_sz {te : TI} (hz : (vcells te.zero).map (·.length) = some te.sz) : te.zero.cells.size = te.sz := by
  have h := V.rels_length (vcellsL_rel (B := fun _ => undef) (Z := fun _ => PH.emp) te.zero)
  rw [vcells_eq] at hz
  simp only [Option.map_some, Option.some.injEq] at hz
  rw [← hz, ← h, Array.length_toList]
def gK : SV → Option Nat
  | .a (.g k) => some k
  | .a (.gl k _ _) => some k
  | _ => none
theorem gK_ev {P : Program} {B : BE} {Z : Tg → PH} {N : Nat} {fr : Fr} {gf : GF} {a : Act} (f : Fits P B Z N fr gf a) {s : Operand} {k : Nat} (h : (ev [] fr gf s).bind gK = some k) : a.eval s = B k := by
  obtain ⟨y, h1, h2⟩ := Option.bind_eq_some_iff.1 h
  have hr := f.ev (g := []) (fun _ _ hm => by cases hm) h1
  unfold gK at h2
  split at h2
  · injection h2 with h2; subst h2; exact (show _ ∧ _ from hr).1
  · injection h2 with h2; subst h2; exact (show _ ∧ _ ∧ _ from hr).1
  · cases h2
theorem OJ_appM (hT : TOk E.P TT) (k kb k' : Nat) {t0 ts tx : Nat} {s x : Operand} {n m : Nat} {f g : Nat → List D} {id sz1 by1 e : Nat} {z : Value} {ef : Bool} {te ti2 : TI} {md : Mu} {fr' : Fr} {gf2 : GF}
    (hop : o.op = .call { callee := .builtin .append, args := #[s, x], argTypes := #[ts, tx] }) (hs : (ev [] fr gf s).bind gK = some k) (hx : ev [] fr gf x = some (.a (.g kb))) (h1 : tlk ts TT = some ⟨id, sz1, by1, .slc e, z, ef⟩) (h2 : tlk e TT = some te) (h3 : tlk tx TT = some ti2) (h4 : ti2.kind = .slc e) (hk : mlk k mu = some (.arr te.sz n f)) (hkb : mlk kb mu = some (.arr te.sz m g)) (hgd : gdrop t0 gf = some gf')
    (hmd : mdropKs [k, kb, k'] mu = some md) (hcut : cutKs [k, kb] fr gf' = some (fr', gf2)) (hb : (n + m) * te.by_ ≤ 140737488355328 ∧ n + m ≤ maxL)
    (kk : SJ G J E ((t0, .a (.g k')) :: fr') gf2 ((k', .arr te.sz (n + m) (appD n f g)) :: md)) (hone : ∀ i, i < m → oneDs (g i) = true := by exact fun _ _ => rfl) (hz : (vcells te.zero).map (·.length) = some te.sz := by exact rfl) (hpos : 0 < te.sz := by exact Nat.lt_of_sub_eq_succ rfl) (hkeys : keysB [k, kb] [k'] [(k, .arr te.sz n f), (kb, .arr te.sz m g)] fr gf mu E.A.ks G.ks = true := by exact rfl) (hne : (Nat.beq k kb || hasK k' [k, kb]) = false := by exact rfl)
    (hg : o.guard = none := by exact rfl) (hd : o.dst = some t0 := by exact rfl) (ht : Nat.blt t0 E.N = true := by exact rfl) : OJ G E all Q J o fr gf mu := by
  simp only [Bool.or_eq_false_iff] at hne
  refine OJ_B (ι := Unit) (ks := [k, kb]) (nk := [k']) (mu1 := [(k, .arr te.sz n f), (kb, .arr te.sz m g)]) (φ := fun _ => True) (res := fun _ => .a (.g k')) (mu1' := fun _ => [(k', .arr te.sz (n + m) (appD n f g))]) (fun B a w H ff mm => ?_) hg hd ht hgd (fun _ => rfl) hkeys (fun _ => ?_) hmd hcut fun _ _ => kk
  · obtain ⟨t1, t2⟩ := hT.get h1
    obtain ⟨d, d1, d2⟩ := t2.desc
    simp only at t1 d1 d2
    subst t1
    obtain rfl := shapeK_slc d2
    obtain ⟨u1, u2⟩ := hT.get h2
    subst u1
    obtain ⟨v1, v2⟩ := hT.get h3
    obtain ⟨dx, dx1, dx2⟩ := v2.desc
    rw [h4] at dx2
    obtain rfl := shapeK_slc dx2
    rw [v1] at dx1
    have e1 : a.eval s = B k := gK_ev ff hs
    have e2 : a.eval x = B kb := (show _ ∧ _ from ff.ev (g := []) (fun _ _ hm => by cases hm) hx).1
    have sk : D.own (H k) (.sl te.sz n f) (B k) := mm.mm.sat k _ hk
    obtain ⟨Ax, cx, rx, hcx, hpx, Gx, bx, q1, va, lcx, lpx, dcpx, q2, q3, q4⟩ := own_VA (show D.own (H kb) (.sl te.sz m g) (B kb) from mm.mm.sat kb _ hkb)
    have hdd : (H k).dj (H kb) := mm.mm.dj k kb (beq_ne hne.1)
    have src : Src E.P te.sz tx (B kb) m (flatR rx m) w := by
      rw [bx]
      refine Src_rd dx1 (fun h0 => ?_) ((mm.mm.fit kb).le lcx).fit hpos fun i hi => owns_one (q2 i hi).1 (oneDs_ok (hone i hi))
      obtain ⟨b, o, e, _⟩ := va.2.1 0 h0
      refine ⟨b, o, e, fun i hi => ?_⟩
      obtain ⟨b', o', e', g1, g2⟩ := va.2.1 i hi
      rw [e] at e'
      injection e' with e'
      injection e' with e5 e6
      subst e5; subst e6
      exact ⟨g1, g2⟩
    obtain ⟨v, w', h', r1, r2, r3, r4, r5, r6⟩ := run_appD (P := E.P) (w := w) (ty := o.type) d1 u2 hpos (zero_sz hz) sk (mm.mm.fit k) src q2 (fun i _ => q3 i) q4 ((mm.mm.fit kb).le lpx) (PH.dj_le hdd (PH.le_refl _) lpx) hb.1 hb.2
    refine ⟨(), v, w', _, _, ?_, Ret1.new (AllP_fit mm.mm) hne.2 (onlyK_dj mm _) r2 r3 r4 (r5.mono fun b _ o h => ⟨k, by simp [keysO, Ch.own?, hasK, Nat.beq_refl], by unfold onlyK; simp only [keysO, Ch.own?, cond_true, hasK, Nat.beq_refl]; exact h⟩) fun b o h => ?_⟩
    · obtain ⟨dst, op, type, pos, after, guard⟩ := o
      simp only at hop r1
      subst hop
      simp only [execOp, resolve, Sem.run_bind, Sem.run_pure, Result.andThen_ok, invoke, builtin, List.map_toArray, List.map_cons, List.map_nil, e1, e2, r1]
    · rcases r6 b o h with h | h | h
      · exact .inl ⟨k, by simp [keysO, Ch.own?, hasK, Nat.beq_refl], by unfold onlyK; simp only [keysO, Ch.own?, cond_true, hasK, Nat.beq_refl]; exact h⟩
      · refine .inl ⟨kb, by simp [keysO, Ch.own?, hasK, Nat.beq_refl], ?_⟩
        unfold onlyK
        rw [show hasK kb (keysO [(k, .arr te.sz n f), (kb, .arr te.sz m g)]) = true from by simp [keysO, Ch.own?, hasK, Nat.beq_refl]]
        exact le_ne lpx h
      · exact .inr h
  · simp [SV.inK, V.inK, muIn, Ch.own?, Ch.rowL, allL, appK, hasK, Nat.beq_refl]
end
end
section
theorem put_self {a : Act} {t : Nat} (h : t < a.tmps.size) : a.put (some t) (a.tmps.getD t undef) = a := by
  have : a.tmps.setIfInBounds t (a.tmps.getD t undef) = a.tmps := by
    apply Array.ext_getElem?
    intro i
    rw [Array.getElem?_setIfInBounds]
    split
    · rename_i e; subst e; simp [h]
    · rfl
  simp only [Act.put]
  rw [this]
def zsD (z : Value) : List D := z.cells.toList.map D.v
section
variable {E : Env} {B : BE} {mu mu' : Mu} {w : World} {H : Nat → PH} {TT : List TI} {fr fr' : Fr} {gf gf' : GF} {a : Act} {all rest : List Oper} {Q : Exit → Act → World → Prop} {o : Oper} {J : Act → World → Prop} {G : AG} {R : Exit → Act → World → Prop} {K : List KF}
theorem V_B {ks nk : List Nat} {mu1 : Mu} {res : SV} {mu1' : Mu} (t : Nat) {md : Mu}
    (hop : ∀ B a w H, FitsE E B H fr gf a → Mem E B mu w H → ∃ B' H', Ret1 E.P ks B (AllP E.r (keysO mu1) H) mu1 w (onlyK (keysO mu1) H) (fun _ : Unit => True) (fun _ => res) (fun _ => mu1') () (a.tmps.getD t undef) w B' H')
    (ht : Nat.blt t E.N = true) (hgd : gdrop t gf = some gf') (hnk : keysOf mu1' = nk) (hkeys : keysB ks nk mu1 fr gf mu E.A.ks [] = true) (hout : (res.inK (appK ks nk) && muIn (appK ks nk) mu1') = true)
    (hmd : mdropKs (appK (keysO mu1) nk) mu = some md) {fr' : Fr} {gf2 : GF} (hcut : cutKs (keysO mu1) fr gf' = some (fr', gf2)) : View E fr gf mu ((t, res) :: fr') gf2 (appM mu1' md) := fun B w H a f m => by
  obtain ⟨B', H', h2⟩ := hop B a w H f m
  have ht : t < E.N := by simpa [Nat.blt_eq] using ht
  have := back_J (J := fun a w => ∃ B H, FitsE E B H ((t, res) :: fr') gf2 a ∧ Mem E B (appM mu1' md) w H) hgd ht f m (AG.nil_ok B H) (fun _ => hnk) hkeys (fun _ => hout) hmd hcut (fun y _ B a w H f m _ => ⟨B, H, f, m⟩) h2
  rw [put_self (by rw [f.size]; exact ht)] at this
  exact this
theorem V_imp (k : Nat) {c c' : Ch} (hk : mlk k mu = some c) (h : c.imp c') (hmu : mset k c' mu = some mu') : View E fr gf mu fr gf mu' := fun B w H a f m =>
  ⟨B, H, f, ⟨⟨fun j d e => by
    rw [mset_spec hmu j] at e
    by_cases hj : j = k
    · rw [if_pos hj] at e; injection e with e; subst e; subst hj; exact h _ _ _ _ (m.mm.sat j c hk)
    · rw [if_neg hj] at e; exact m.mm.sat j d e, m.mm.fit, m.mm.dj, m.mm.djr, m.mm.fitr⟩, m.keep, m.dom, m.anch⟩⟩
theorem V_nil (t k' sz : Nat) (f : Nat → List D) {A : Option Addr} {md : Mu} (hx : mlk t fr = some (.a (.v (.slice A 0 0)))) (hg : glk t gf = none)
    (hgd : gdrop t gf = some gf') (hmd : mdropKs [k'] mu = some md) (ht : Nat.blt t E.N = true := by exact rfl) (hkeys : keysB [] [k'] [] fr gf mu E.A.ks [] = true := by exact rfl) :
    View E fr gf mu ((t, .a (.g k')) :: fr) gf' ((k', .arr sz 0 f) :: md) := by
  refine V_B (ks := []) (nk := [k']) (mu1 := []) (res := .a (.g k')) (mu1' := [(k', .arr sz 0 f)]) t (fun B a w H ff m => ?_) ht hgd rfl hkeys ?_ hmd rfl
  · have e1 : a.tmps.getD t undef = _ := ff.vfr t _ hx hg
    rw [e1]
    exact ⟨_, _, Ret1.new (AllP_fit m.mm) rfl (onlyK_dj m _) rfl (h' := PH.emp) ⟨A, 0, rfl, Nat.le_refl _, Nat.zero_le _, .inl rfl⟩ (FitO.emp _) (Keep.refl _ _) fun b o h => absurd rfl h⟩
  · simp [SV.inK, V.inK, muIn, Ch.own?, Ch.rowL, allL, appK, hasK, Nat.beq_refl]
end
end
section
def zerosV (zs : List Value) : Nat → List V
  | 0 => []
  | n + 1 => zs.map V.v ++ zerosV zs n
section
variable {E : Env} {B : BE} {mu mu' : Mu} {w : World} {H : Nat → PH} {TT : List TI} {fr fr' : Fr} {gf gf' : GF} {a : Act} {all rest : List Oper} {Q : Exit → Act → World → Prop} {o : Oper} {J : Act → World → Prop} {G : AG} {R : Exit → Act → World → Prop} {K : List KF}
theorem slc_of (hT : TOk E.P TT) {ts : Nat} {id sz1 by1 e : Nat} {z : Value} {ef : Bool} {te : TI} (h1 : tlk ts TT = some ⟨id, sz1, by1, .slc e, z, ef⟩) (h2 : tlk e TT = some te) : E.P.underlying ts = some (.slice te.id) ∧ te.ok E.P := by
  obtain ⟨t1, t2⟩ := hT.get h1
  obtain ⟨d, d1, d2⟩ := t2.desc
  simp only at t1 d1 d2
  subst t1
  obtain rfl := shapeK_slc d2
  obtain ⟨u1, u2⟩ := hT.get h2
  subst u1
  exact ⟨d1, u2⟩
end
end
end Go.Proofs.YthpjoddhlkcciaaGreat
namespace Go.Proofs.YthpjoddhlkcciaaGreat
open Go Go.RowKit
set_option linter.unusedVariables false
set_option linter.unusedSimpArgs false
section
def bsV (sz : Nat) : List (Nat × SV) → List V → Option (List V)
  | [], l => some l
  | (i, x) :: r, l => match x.cells with
    | some vs => bif lenEq vs sz then match paste l (i * sz) vs with
        | some l' => bsV sz r l'
        | none => none
      else none
    | none => none
def absL (mu : Mu) : List V → Option (List D × List Nat)
  | [] => some ([], [])
  | .v x :: r => match absL mu r with
    | some (l, ks) => bif oneV x then some (.v x :: l, ks) else none
    | none => none
  | .g k :: r => match mlk k mu, absL mu r with
    | some (.arr sz n f), some (l, ks) => bif hasK k ks then none else some (.sl sz n f :: l, k :: ks)
    | _, _ => none
  | _ :: _ => none
def unK (H : Nat → PH) : List Nat → PH
  | [] => PH.emp
  | k :: r => (H k).un (unK H r)
theorem unK_dj {H : Nat → PH} (d : ∀ j k, j ≠ k → (H j).dj (H k)) {k : Nat} : ∀ {ks : List Nat}, hasK k ks = false → (H k).dj (unK H ks)
  | [], _ => PH.dj_emp _
  | j :: r, h => by
    simp only [hasK] at h
    cases c : Nat.beq j k with
    | true => rw [c] at h; cases h
    | false =>
      rw [c] at h
      exact PH.dj_un (d k j (fun e => by rw [e, Nat.beq_refl] at c; cases c)) (unK_dj d h)
theorem unK_fit {H : Nat → PH} {w : World} (f : ∀ k, FitO (H k) w) : ∀ ks : List Nat, FitO (unK H ks) w
  | [] => FitO.emp w
  | k :: r => (f k).un (unK_fit f r)
theorem unK_ne {H : Nat → PH} {b o : Nat} : ∀ {ks : List Nat}, unK H ks b o ≠ none → ∃ k, hasK k ks = true ∧ H k b o ≠ none
  | [], h => absurd rfl h
  | k :: r, h => by
    rcases PH.un_ne h with h | h
    · exact ⟨k, by simp [hasK, Nat.beq_refl], h⟩
    · obtain ⟨j, j1, j2⟩ := unK_ne h
      exact ⟨j, by simp only [hasK, j1]; cases Nat.beq k j <;> rfl, j2⟩
theorem absL_ok {B : BE} {r : PH} {mu : Mu} {w : World} {H : Nat → PH} (m : Mm B r mu w H) {Z : Tg → PH} : ∀ {l : List V} {ds : List D} {ks : List Nat}, absL mu l = some (ds, ks) → ∀ {vs : List Value}, V.rels B Z l vs → D.owns (unK H ks) ds vs
  | [], ds, ks, h, vs, e => by simp [absL] at h; obtain ⟨rfl, rfl⟩ := h; exact e
  | x :: l, ds, ks, h, vs, e => by
    obtain ⟨v, t, rfl, e2, e3⟩ := e
    cases x with
    | v x =>
      simp only [absL] at h
      split at h
      · rename_i l' ks' c
        cases c2 : oneV x with
        | false => rw [c2] at h; cases h
        | true =>
          rw [c2] at h; simp at h; obtain ⟨rfl, rfl⟩ := h
          exact ⟨v, t, PH.emp, _, rfl, PH.emp_le _, PH.le_refl _, PH.emp_dj _, e2, absL_ok m c e3⟩
      · cases h
    | g k =>
      simp only [absL] at h
      split at h
      · rename_i sz n f l' ks' c1 c
        cases c2 : hasK k ks' with
        | true => rw [c2] at h; cases h
        | false =>
          rw [c2] at h; simp at h; obtain ⟨rfl, rfl⟩ := h
          have d := unK_dj m.dj c2
          have e2 : v = B k := e2.1
          refine ⟨v, t, H k, unK H ks', rfl, PH.le_un_left _ _, PH.le_un_right d, d, ?_, absL_ok m c e3⟩
          rw [e2]; exact m.sat k _ c1
      · cases h
    | _ => simp [absL] at h
theorem absL_one {B : BE} {mu : Mu} {Z : Tg → PH} : ∀ {l : List V} {ds : List D} {ks : List Nat}, absL mu l = some (ds, ks) → ∀ {vs : List Value}, V.rels B Z l vs → ∀ v ∈ vs, oneV v = true
  | [], ds, ks, h, vs, e, v, hv => by have e : vs = [] := e; rw [e] at hv; cases hv
  | x :: l, ds, ks, h, vs, e, u, hu => by
    obtain ⟨v, t, rfl, e2, e3⟩ := e
    cases x with
    | v x =>
      simp only [absL] at h
      split at h
      · rename_i l' ks' c
        cases c2 : oneV x with
        | false => rw [c2] at h; cases h
        | true =>
          cases hu with
          | head => have e2 : u = x := e2; rw [e2]; exact c2
          | tail _ hu => exact absL_one c e3 u hu
      · cases h
    | g k =>
      simp only [absL] at h
      split at h
      · rename_i sz n f l' ks' c1 c
        cases hu with
        | head => exact e2.2
        | tail _ hu => exact absL_one c e3 u hu
      · cases h
    | _ => simp [absL] at h
theorem owns_split {h : PH} : ∀ {l m : List D} {vs : List Value}, D.owns h (l ++ m) vs → ∃ v1 v2 h1 h2, vs = v1 ++ v2 ∧ h1.le h ∧ h2.le h ∧ h1.dj h2 ∧ D.owns h1 l v1 ∧ D.owns h2 m v2
  | [], m, vs, e => ⟨[], vs, PH.emp, h, rfl, PH.emp_le _, PH.le_refl _, PH.emp_dj _, rfl, e⟩
  | x :: l, m, vs, e => by
    obtain ⟨a, t, g1, g2, rfl, e2, e3, e4, e5, e6⟩ := e
    obtain ⟨v1, v2, h1, h2, rfl, q1, q2, q3, q4, q5⟩ := owns_split e6
    exact ⟨a :: v1, v2, g1.un h1, h2, rfl, PH.un_le e2 (PH.le_trans q1 e3), PH.le_trans q2 e3, PH.un_dj (PH.dj_le e4 (PH.le_refl _) q2) q3, ⟨a, v1, g1, h1, rfl, PH.le_un_left _ _, PH.le_un_right (PH.dj_le e4 (PH.le_refl _) q1), PH.dj_le e4 (PH.le_refl _) q1, e5, q4⟩, q5⟩
theorem owns_rows (sz : Nat) : ∀ (n : Nat) {h : PH} {F : List D} {vs : List Value}, D.owns h F vs → F.length = n * sz → ∃ G : Nat → PH, (∀ i, (G i).le h) ∧ (∀ i j, i ≠ j → (G i).dj (G j)) ∧ ∀ i, i < n → D.owns (G i) ((F.drop (i * sz)).take sz) ((vs.drop (i * sz)).take sz)
  | 0, h, F, vs, e, hl => ⟨fun _ => PH.emp, fun _ => PH.emp_le _, fun _ _ _ => PH.emp_dj _, fun i hi => absurd hi (Nat.not_lt_zero _)⟩
  | n + 1, h, F, vs, e, hl => by
    rw [← List.take_append_drop sz F] at e
    obtain ⟨v1, v2, h1, h2, rfl, q1, q2, q3, q4, q5⟩ := owns_split e
    rw [Nat.add_mul, Nat.one_mul] at hl
    have l1 : v1.length = sz := by rw [D.owns_length q4, List.length_take]; omega
    obtain ⟨G, g1, g2, g3⟩ := owns_rows sz n q5 (by rw [List.length_drop]; omega)
    refine ⟨fun i => match i with | 0 => h1 | i + 1 => G i, fun i => ?_, fun i j hij => ?_, fun i hi => ?_⟩
    · cases i with
      | zero => exact q1
      | succ i => exact PH.le_trans (g1 i) q2
    · cases i with
      | zero =>
        cases j with
        | zero => exact absurd rfl hij
        | succ j => exact PH.dj_le q3 (PH.le_refl _) (g1 j)
      | succ i =>
        cases j with
        | zero => exact PH.dj_symm (PH.dj_le q3 (PH.le_refl _) (g1 i))
        | succ j => exact g2 i j (by omega)
    · cases i with
      | zero =>
        simp only [Nat.zero_mul, List.drop_zero]
        rw [← l1, List.take_left, l1]; exact q4
      | succ i =>
        have := g3 i (by omega)
        rw [List.drop_drop] at this
        have e2 : sz + i * sz = (i + 1) * sz := by rw [Nat.add_mul, Nat.one_mul]; omega
        have e3 : (v1 ++ v2).drop ((i + 1) * sz) = v2.drop (i * sz) := by rw [← e2, List.drop_append, List.drop_eq_nil_of_le (by omega), List.nil_append]; congr 1; omega
        rw [e2] at this
        show D.owns (G i) _ (((v1 ++ v2).drop ((i + 1) * sz)).take sz)
        rw [e3]; exact this
theorem fill_bsV {P : Program} {B : BE} {Z : Tg → PH} {sz : Nat} : ∀ {ps : List (Nat × SV)} {qs : List (Nat × Value)} {l m : List V} {vs : List Value}, (qs.map (·.1) = ps.map (·.1)) → SV.rels P B Z (ps.map (·.2)) (qs.map (·.2)) → V.rels B Z l vs → bsV sz ps l = some m → ∃ ms, Instr.fill (fun i => some (i * sz, sz)) vs.toArray qs = some ms.toArray ∧ V.rels B Z m ms
  | [], qs, l, m, vs, hq, _, hl, h => by
    have : qs = [] := by simpa using hq
    subst this
    simp [bsV] at h; subst h; exact ⟨vs, rfl, hl⟩
  | (i, x) :: r, [], l, m, vs, hq, hr, hl, h => by simp at hq
  | (i, x) :: r, (i', y) :: qs, l, m, vs, hq, hr, hl, h => by
    simp only [List.map_cons, List.cons.injEq] at hq
    obtain ⟨rfl, hq⟩ := hq
    obtain ⟨y', t', e0, hx, hr⟩ := hr
    simp only [List.map_cons, List.cons.injEq] at e0
    obtain ⟨rfl, rfl⟩ := e0
    simp only [bsV] at h
    split at h
    · rename_i cs e2
      cases e4 : lenEq cs sz with
      | false => rw [e4] at h; cases h
      | true =>
        rw [e4] at h
        simp only [cond_true] at h
        split at h
        · rename_i l' e5
          have hc := cells_rel e2 hx
          have hlen := lenEq_spec _ _ e4
          have hsz : y.cells.size = sz := by rw [← Array.length_toList, V.rels_length hc]; exact hlen
          obtain ⟨ms, g1, g2⟩ := paste_rels hl hc e5
          obtain ⟨p1, p2, _, _⟩ := paste_spec _ _ _ _ g1
          have hA : y.cells = y.cells.toList.toArray := by simp
          simp only [Instr.fill]
          rw [if_neg (by
            simp only [hsz, ne_eq, not_true_eq_false, decide_false, Bool.false_or, decide_eq_true_eq, List.size_toArray]
            have h9 : y.cells.toList.length = sz := by rw [Array.length_toList]; exact hsz
            omega)]
          rw [hA, paste_fold g1]
          exact fill_bsV hq hr g2 h
        · cases h
    · cases h
theorem bsV_length {sz : Nat} : ∀ {ps : List (Nat × SV)} {l m : List V}, bsV sz ps l = some m → m.length = l.length
  | [], l, m, h => by simp [bsV] at h; rw [h]
  | (i, x) :: r, l, m, h => by
    simp only [bsV] at h
    split at h
    · rename_i cs e2
      cases e4 : lenEq cs sz with
      | false => rw [e4] at h; cases h
      | true =>
        rw [e4] at h
        simp only [cond_true] at h
        split at h
        · rename_i l' e5
          obtain ⟨p1, p2, _, _⟩ := paste_spec _ _ _ _ e5
          rw [bsV_length h, p1]
        · cases h
    · cases h
theorem absL_length {mu : Mu} : ∀ {l : List V} {ds : List D} {ks : List Nat}, absL mu l = some (ds, ks) → ds.length = l.length
  | [], ds, ks, h => by simp [absL] at h; rw [h.1]; rfl
  | x :: l, ds, ks, h => by
    cases x with
    | v x =>
      simp only [absL] at h
      split at h
      · rename_i l' ks' c
        cases c2 : oneV x with
        | false => rw [c2] at h; cases h
        | true => rw [c2] at h; simp at h; obtain ⟨rfl, rfl⟩ := h; simp [absL_length c]
      · cases h
    | g k =>
      simp only [absL] at h
      split at h
      · rename_i sz n f l' ks' c1 c
        cases c2 : hasK k ks' with
        | true => rw [c2] at h; cases h
        | false => rw [c2] at h; simp at h; obtain ⟨rfl, rfl⟩ := h; simp [absL_length c]
      · cases h
    | _ => simp [absL] at h
theorem zerosV_length (zs : List Value) : ∀ n, (zerosV zs n).length = n * zs.length
  | 0 => by simp [zerosV]
  | n + 1 => by rw [zerosV, List.length_append, List.length_map, zerosV_length zs n, Nat.add_mul, Nat.one_mul, Nat.add_comm]
def zeroL (zs : List Value) : Nat → List Value
  | 0 => []
  | n + 1 => zs ++ zeroL zs n
theorem zeroL_length (zs : List Value) : ∀ n, (zeroL zs n).length = n * zs.length
  | 0 => by simp [zeroL]
  | n + 1 => by rw [zeroL, List.length_append, zeroL_length zs n, Nat.add_mul, Nat.one_mul, Nat.add_comm]
theorem zeroL_get {zs : List Value} : ∀ {n i : Nat}, i < n * zs.length → (zeroL zs n)[i]? = zs[i % zs.length]?
  | 0, i, h => by omega
  | n + 1, i, h => by
    rw [zeroL]
    by_cases c : i < zs.length
    · rw [List.getElem?_append_left c, Nat.mod_eq_of_lt c]
    · rw [Nat.add_mul, Nat.one_mul] at h
      rw [List.getElem?_append_right (by omega), zeroL_get (by omega)]
      congr 1
      exact (Nat.mod_eq_sub_mod (by omega)).symm
theorem zerosV_rels {B : BE} {Z : Tg → PH} (zs : List Value) : ∀ n, V.rels B Z (zerosV zs n) (zeroL zs n)
  | 0 => rfl
  | n + 1 => V.rels_append (rels_v zs) (zerosV_rels zs n)
theorem fill_zero {zs : List Value} {n sz : Nat} (hz : zs.length = sz) (hpos : 0 < sz) : (Array.range (n * sz)).map ((if n * sz = 0 then (#[] : Array Value) else zs.toArray)[· % (if n * sz = 0 then (#[] : Array Value) else zs.toArray).size]!) = (zeroL zs n).toArray := by
  apply Array.ext_getElem?
  intro j
  rw [Array.getElem?_map]
  by_cases hj : j < n * sz
  · have hne : n * sz ≠ 0 := by omega
    rw [Array.getElem?_range, if_pos hj]
    simp only [hne, if_false, Option.map_some, List.getElem?_toArray]
    rw [zeroL_get (by rw [hz]; exact hj)]
    have hm : j % zs.length < zs.length := Nat.mod_lt _ (by omega)
    simp [hm]
  · rw [Array.getElem?_range, if_neg hj]
    simp only [Option.map_none, List.getElem?_toArray]
    rw [List.getElem?_eq_none (by rw [zeroL_length, hz]; omega)]
section
variable {E : Env} {B : BE} {mu mu' : Mu} {w : World} {H : Nat → PH} {TT : List TI} {fr fr' : Fr} {gf gf' : GF} {a : Act} {all rest : List Oper} {Q : Exit → Act → World → Prop} {o : Oper} {J : Act → World → Prop} {G : AG} {R : Exit → Act → World → Prop} {K : List KF}
theorem evParts_rel (f : FitsE E B H fr gf a) {g : Gd} (hg : ∀ d w, (d, w) ∈ g → a.tmps.getD d undef = .bool w) : ∀ {l : List (Nat × Operand)} {ps : List (Nat × SV)}, evParts g fr gf l = some ps → ((l.map fun p => (p.1, a.eval p.2)).map (·.1) = ps.map (·.1)) ∧ SV.rels E.P B (Zf E.r H) (ps.map (·.2)) ((l.map fun p => (p.1, a.eval p.2)).map (·.2))
  | [], ps, h => by simp [evParts] at h; subst h; exact ⟨rfl, rfl⟩
  | (i, x) :: l, ps, h => by
    simp only [evParts] at h
    split at h
    · rename_i y l' e1 e2
      injection h with h; subst h
      obtain ⟨h1, h2⟩ := evParts_rel f hg e2
      simp only [List.map_cons]
      exact ⟨by rw [h1], _, _, rfl, f.ev hg e1, h2⟩
    · cases h
theorem Zf_fit (m : Mem E B mu w H) (q : Tg) : Fit (Zf E.r H q) w := by
  cases q with
  | k j => exact (m.mm.fit j).fit
  | _ => exact m.mm.fitr
def flatB (g : Nat → List D) (i : Nat) : List Value := (flatDs (g i)).getD []
theorem OJ_appC (hT : TOk E.P TT) (k k' : Nat) {t0 ts tx : Nat} {s x : Operand} {n m : Nat} {f g : Nat → List D} {id sz1 by1 e : Nat} {z : Value} {ef : Bool} {te ti2 : TI} {md : Mu} {fr' : Fr} {gf2 : GF} {vx : V} {q : Tg} {ob : Ob}
    (hop : o.op = .call { callee := .builtin .append, args := #[s, x], argTypes := #[ts, tx] }) (hs : (ev [] fr gf s).bind gK = some k) (hx : ev [] fr gf x = some (.a vx)) (h1 : tlk ts TT = some ⟨id, sz1, by1, .slc e, z, ef⟩) (h2 : tlk e TT = some te) (h3 : tlk tx TT = some ti2) (h4 : ti2.kind = .slc e) (hk : mlk k mu = some (.arr te.sz n f)) (hkx : slR mu vx = some (q, te.sz, m, g, ob)) (hgd : gdrop t0 gf = some gf')
    (hmd : mdropKs [k, k'] mu = some md) (hcut : cutKs [k] fr gf' = some (fr', gf2)) (hb : (n + m) * te.by_ ≤ 140737488355328 ∧ n + m ≤ maxL)
    (kk : SJ G J E ((t0, .a (.g k')) :: fr') gf2 ((k', .arr te.sz (n + m) (appD n f g)) :: md)) (hone : ∀ i, i < m → ∃ l, flatDs (g i) = some l := by exact fun _ _ => ⟨_, rfl⟩) (hz : (vcells te.zero).map (·.length) = some te.sz := by exact rfl) (hpos : 0 < te.sz := by exact Nat.lt_of_sub_eq_succ rfl) (hkeys : keysB [k] [k'] [(k, .arr te.sz n f)] fr gf mu E.A.ks G.ks = true := by exact rfl) (hne : hasK k' [k] = false := by exact rfl) (hob : Alls ob := by repeat (first | exact trivial | refine And.intro rfl ?_))
    (hg : o.guard = none := by exact rfl) (hd : o.dst = some t0 := by exact rfl) (ht : Nat.blt t0 E.N = true := by exact rfl) : OJ G E all Q J o fr gf mu := by
  refine OJ_B (ι := Unit) (ks := [k]) (nk := [k']) (mu1 := [(k, .arr te.sz n f)]) (φ := fun _ => True) (res := fun _ => .a (.g k')) (mu1' := fun _ => [(k', .arr te.sz (n + m) (appD n f g))]) (fun B a w H ff mm => ?_) hg hd ht hgd (fun _ => rfl) hkeys (fun _ => ?_) hmd hcut fun _ _ => kk
  · obtain ⟨d1, u2⟩ := slc_of hT h1 h2
    obtain ⟨v1, v2⟩ := hT.get h3
    obtain ⟨dx, dx1, dx2⟩ := v2.desc
    rw [h4] at dx2
    obtain rfl := shapeK_slc dx2
    rw [v1] at dx1
    have e1 : a.eval s = B k := gK_ev ff hs
    have sk : D.own (H k) (.sl te.sz n f) (B k) := mm.mm.sat k _ hk
    have hr := slR_spec mm.mr.ms hkx hob (show vx.rel B (Zf E.r H) (a.eval x) from ff.ev (g := []) (fun _ _ hm => by cases hm) hx)
    obtain ⟨A, c, ex, _, _, hcells⟩ := (show D.rd _ (.sl te.sz m g) _ from hr)
    have hrow : ∀ i, i < m → g i = (flatB g i).map D.v ∧ ∀ u ∈ flatB g i, oneV u = true := fun i hi => by
      obtain ⟨l, hl⟩ := hone i hi
      have := flatDs_ok hl
      unfold flatB
      rw [hl]; exact this
    have hlies : 0 < m → ∃ b o, A = some ⟨b, o, none⟩ ∧ ∀ i, i < m → (flatB g i).length = te.sz ∧ ∀ j, j < te.sz → Zf E.r H q b (o + i * te.sz + j) = (flatB g i)[j]? := fun h0 => by
      rcases hcells with h | ⟨b, o, rfl, hr⟩
      · omega
      · refine ⟨b, o, rfl, fun i hi => ?_⟩
        obtain ⟨row, r1, r2, r3⟩ := hr i hi
        rw [(hrow i hi).1] at r1
        rw [flat_rds r1] at r2 r3
        exact ⟨r2, r3⟩
    have src : Src E.P te.sz tx (a.eval x) m (flatR (flatB g) m) w := by
      rw [ex]
      exact Src_rd dx1 hlies (Zf_fit mm q) hpos fun i hi => (hrow i hi).2
    obtain ⟨v, w', h', r1, r2, r3, r4, r5, r6⟩ := run_appD (P := E.P) (w := w) (ty := o.type) d1 u2 hpos (zero_sz hz) sk (mm.mm.fit k) src (G := fun _ => PH.emp) (hx := PH.emp) (g := g) (fun i hi => ⟨by rw [(hrow i hi).1]; exact flat_owns, (hlies (by omega)).elim fun b h => h.elim fun o h => (h.2 i hi).1⟩) (fun i _ => PH.emp_le _) (fun _ _ _ => PH.emp_dj _) (FitO.emp _) (PH.dj_emp _) hb.1 hb.2
    refine ⟨(), v, w', _, _, ?_, Ret1.new (AllP_fit mm.mm) hne (onlyK_dj mm _) r2 r3 r4 (r5.mono fun b _ o h => ⟨k, by simp [keysO, Ch.own?, hasK, Nat.beq_refl], by unfold onlyK; simp only [keysO, Ch.own?, cond_true, hasK, Nat.beq_refl]; exact h⟩) fun b o h => ?_⟩
    · obtain ⟨dst, op, type, pos, after, guard⟩ := o
      simp only at hop r1
      subst hop
      simp only [execOp, resolve, Sem.run_bind, Sem.run_pure, Result.andThen_ok, invoke, builtin, List.map_toArray, List.map_cons, List.map_nil, e1, r1]
    · rcases r6 b o h with h | h | h
      · exact .inl ⟨k, by simp [keysO, Ch.own?, hasK, Nat.beq_refl], by unfold onlyK; simp only [keysO, Ch.own?, cond_true, hasK, Nat.beq_refl]; exact h⟩
      · exact absurd rfl h
      · exact .inr h
  · simp [SV.inK, V.inK, muIn, Ch.own?, Ch.rowL, allL, appK, hasK, Nat.beq_refl]
theorem OJ_bs (hT : TOk E.P TT) (k' : Nat) {t0 ts n : Nat} {parts : Array (Nat × Operand)} {ps : List (Nat × SV)} {id sz1 by1 e : Nat} {z : Value} {ef : Bool} {te : TI} {F0 : List V} {F : List D} {ks : List Nat} {mu1 md : Mu} {fr' : Fr} {gf2 : GF} (f : Nat → List D)
    (hop : o.op = .buildSlice ts n parts) (hp : evParts [] fr gf parts.toList = some ps)
    (h1 : tlk ts TT = some ⟨id, sz1, by1, .slc e, z, ef⟩) (h2 : tlk e TT = some te) (hgd : gdrop t0 gf = some gf') (hF : bsV te.sz ps (zerosV te.zero.cells.toList n) = some F0) (hA : absL mu F0 = some (F, ks)) (hf : ∀ i, i < n → (F.drop (i * te.sz)).take te.sz = f i)
    (hm1 : keysO mu1 = ks) (hmd : mdropKs (appK ks [k']) mu = some md) (hcut : cutKs ks fr gf' = some (fr', gf2))
    (kk : SJ G J E ((t0, .a (.g k')) :: fr') gf2 ((k', .arr te.sz n f) :: md)) (hz : (vcells te.zero).map (·.length) = some te.sz := by exact rfl) (hpos : 0 < te.sz := by exact Nat.lt_of_sub_eq_succ rfl) (hn : Nat.ble (n * te.sz) 16777216 = true := by exact rfl) (hkeys : keysB ks [k'] mu1 fr gf mu E.A.ks G.ks = true := by exact rfl) (hne : hasK k' ks = false := by exact rfl)
    (hg : o.guard = none := by exact rfl) (hd : o.dst = some t0 := by exact rfl) (ht : Nat.blt t0 E.N = true := by exact rfl) : OJ G E all Q J o fr gf mu := by
  subst hm1
  refine OJ_B (ι := Unit) (ks := keysO mu1) (nk := [k']) (mu1 := mu1) (φ := fun _ => True) (res := fun _ => .a (.g k')) (mu1' := fun _ => [(k', .arr te.sz n f)]) (fun B a w H ff mm => ?_) hg hd ht hgd (fun _ => rfl) hkeys (fun _ => ?_) hmd hcut fun _ _ => kk
  · obtain ⟨d1, u2⟩ := slc_of hT h1 h2
    obtain ⟨i, i1, i2, i3, i4⟩ := u2.info
    have hzs : te.zero.cells.toList.length = te.sz := by rw [Array.length_toList]; exact zero_sz hz
    have hzv : te.zero.cells = te.zero.cells.toList.toArray := by simp
    obtain ⟨p1, p2⟩ := evParts_rel ff (g := []) (fun _ _ hm => by cases hm) hp
    obtain ⟨ms, g1, g2⟩ := fill_bsV (P := E.P) (B := B) (Z := Zf E.r H) p1 p2 (zerosV_rels te.zero.cells.toList n) hF
    have hml : ms.length = n * te.sz := by rw [V.rels_length g2, bsV_length hF, zerosV_length, hzs]
    have hown := absL_ok mm.mm hA g2
    have hone := absL_one hA g2
    obtain ⟨Gr, r1, r2, r3⟩ := owns_rows te.sz n hown (by rw [absL_length hA, bsV_length hF, zerosV_length, hzs])
    have hn' : n * te.sz ≤ 16777216 := Nat.le_of_ble_eq_true hn
    have hfit : FitO (PH.row w.heap.size 0 ms) (w.alloc (.cells ms.toArray te.id)) := FitO.alloc w ms te.id
    have hfo : FitO (unK H (keysO mu1)) w := unK_fit mm.mm.fit _
    have hdd : (PH.row w.heap.size 0 ms).dj (unK H (keysO mu1)) := fun b o => by
      cases c : unK H (keysO mu1) b o with
      | none => exact .inr rfl
      | some u =>
        left
        have := hfo.lt (b := b) (o := o) (by rw [c]; simp)
        cases c2 : PH.row w.heap.size 0 ms b o with
        | none => rfl
        | some u2 => have := PH.row_ne (x := b) (y := o) (by rw [c2]; simp); omega
    have hfin : FitO ((PH.row w.heap.size 0 ms).un (unK H (keysO mu1))) (w.alloc (.cells ms.toArray te.id)) := hfit.un (hfo.ext (Below.ofAlloc w _))
    refine ⟨(), .slice (some ⟨w.heap.size, 0, none⟩) n n, w.alloc (.cells ms.toArray te.id), _, _, ?_, Ret1.new (AllP_fit mm.mm) hne (onlyK_dj mm _) rfl (h' := (PH.row w.heap.size 0 ms).un (unK H (keysO mu1))) (VA_own (hc := PH.row w.heap.size 0 ms) (hp := unK H (keysO mu1)) (G := Gr) (row := fun i => (ms.drop (i * te.sz)).take te.sz) ⟨Nat.le_refl _, fun i hi => ⟨_, _, rfl, ?_, fun j hj => ?_⟩, fun i q1 q2 => by omega⟩ ?_ (PH.le_un_left _ _) (PH.le_un_right hdd) hdd (fun i hi => by rw [← hf i hi]; exact r3 i hi) (fun i _ => r1 i) fun i j _ _ hij => r2 i j hij) hfin ((Keep.alloc w _).mono fun _ _ _ h => h.elim) fun b o h => ?_⟩
    · obtain ⟨dst, op, type, pos, after, guard⟩ := o
      simp only at hop
      subst hop
      have e2 : (parts.map fun p => (p.1, a.eval p.2)).toList = parts.toList.map fun p => (p.1, a.eval p.2) := Array.toList_map
      have hinit := fill_zero (n := n) hzs hpos
      simp only [execOp]
      have run2 : ∀ {s : Sem Value} {x : Value} {w' : World}, s.run E.P w = .ok x w' → (do pure (.value (← s)) : Sem Next).run E.P w = .ok (.value x) w' := fun h => by simp only [Sem.run_bind, h, Result.andThen_ok, Sem.run_pure]
      refine run2 ?_
      simp only [Instr.buildSlice, Sem.run_bind, run_underlying d1, Result.andThen_ok, run_size i1, i2]
      rw [if_neg (by omega)]
      by_cases c : n * te.sz = 0
      · rw [if_pos c] at hinit
        rw [if_pos c]
        simp only [Sem.run_bind, Sem.run_pure, Result.andThen_ok]
        rw [hinit, e2, g1]
        simp only [Sem.run_bind, newRow, run_newObj, Result.andThen_ok, Sem.run_pure]
        rfl
      · rw [if_neg c] at hinit
        rw [if_neg c]
        simp only [Sem.run_bind, zeroValue, run_info i1, i4, Sem.run_pure, Result.andThen_ok]
        rw [hzv, hinit, e2, g1]
        simp only [Sem.run_bind, newRow, run_newObj, Result.andThen_ok, Sem.run_pure]
        rfl
    · have h1 : (i + 1) * te.sz ≤ n * te.sz := Nat.mul_le_mul_right _ hi
      rw [Nat.add_mul, Nat.one_mul] at h1
      simp only [List.length_take, List.length_drop]; omega
    · have := PH.row_at (b := w.heap.size) (off := 0) (l := ms) (i * te.sz + j)
      rw [show (0 : Nat) + i * te.sz + j = 0 + (i * te.sz + j) from by omega, this]
      rw [List.getElem?_take_of_lt hj, List.getElem?_drop]
    · have : n ≤ n * te.sz := Nat.le_mul_of_pos_right _ hpos
      unfold maxL; omega
    · rcases PH.un_ne h with h | h
      · exact .inr (by rw [PH.row_ne h]; exact Nat.le_refl _)
      · obtain ⟨j, j1, j2⟩ := unK_ne h
        exact .inl ⟨j, j1, by unfold onlyK; rw [j1]; exact j2⟩
  · have : hasK k' (appK (keysO mu1) [k']) = true := hasK_app.2 (.inr (by simp [hasK, Nat.beq_refl]))
    simp [SV.inK, V.inK, muIn, Ch.own?, Ch.rowL, allL, this]
end
end
section
section
variable {E : Env} {B : BE} {mu mu' : Mu} {w : World} {H : Nat → PH} {TT : List TI} {fr fr' : Fr} {gf gf' : GF} {a : Act} {all rest : List Oper} {Q : Exit → Act → World → Prop} {o : Oper} {J : Act → World → Prop} {G : AG} {R : Exit → Act → World → Prop} {K : List KF}
theorem OJ_make (hT : TOk E.P TT) (k' : Nat) {t0 ts : Nat} {l c : Operand} (n : Nat) {id sz1 by1 e : Nat} {z : Value} {ef : Bool} {te : TI} {md : Mu}
    (hop : o.op = .makeSlice ts l c) (hl : ev [] fr gf l = some (.a (.v (.int .i64 n)))) (hc : ev [] fr gf c = some (.a (.v (.int .i64 n)))) (h1 : tlk ts TT = some ⟨id, sz1, by1, .slc e, z, ef⟩) (h2 : tlk e TT = some te) (hgd : gdrop t0 gf = some gf') (hmd : mdropKs [k'] mu = some md) (hn : n * te.by_ ≤ 140737488355328 ∧ n ≤ maxL)
    (kk : SJ G J E ((t0, .a (.g k')) :: fr) gf' ((k', .arr te.sz n fun _ => zsD te.zero) :: md)) (hz : (vcells te.zero).map (·.length) = some te.sz := by exact rfl) (hpos : 0 < te.sz := by exact Nat.lt_of_sub_eq_succ rfl) (hkeys : keysB [] [k'] [] fr gf mu E.A.ks G.ks = true := by exact rfl)
    (hg : o.guard = none := by exact rfl) (hd : o.dst = some t0 := by exact rfl) (ht : Nat.blt t0 E.N = true := by exact rfl) : OJ G E all Q J o fr gf mu := by
  refine OJ_B (ι := Unit) (ks := []) (nk := [k']) (mu1 := []) (φ := fun _ => True) (res := fun _ => .a (.g k')) (mu1' := fun _ => [(k', .arr te.sz n fun _ => zsD te.zero)]) (fun B a w H ff mm => ?_) hg hd ht hgd (fun _ => rfl) hkeys (fun _ => ?_) hmd rfl fun _ _ => kk
  · obtain ⟨d1, u2⟩ := slc_of hT h1 h2
    obtain ⟨i, i1, i2, i3, i4⟩ := u2.info
    have hzz := zero_sz hz
    have hw : IntKind.i64.wrap (n : Int) = n := IntWalk.i64_in _ (by unfold maxL at hn; omega)
    have hzr : (zeroValue te.id).run E.P w = .ok te.zero w := by simp only [zeroValue, Sem.run_bind, run_info i1, Result.andThen_ok, i4, Sem.run_pure]
    have hcs := fill_zero (n := n) (zs := te.zero.cells.toList) (by rw [Array.length_toList]; exact hzz) hpos
    have e1 : a.eval l = _ := ff.ev (g := []) (fun _ _ hm => by cases hm) hl
    have e2 : a.eval c = _ := ff.ev (g := []) (fun _ _ hm => by cases hm) hc
    have hrun : (Instr.makeSlice ts (.int .i64 n) (.int .i64 n)).run E.P w = .ok (.slice (some ⟨w.heap.size, 0, none⟩) n n) (w.alloc (.cells (zeroL te.zero.cells.toList n).toArray te.id)) := by
      simp only [Instr.makeSlice, asInt, asIntOf, Sem.run_bind, Sem.run_pure, run_underlying d1, Result.andThen_ok, run_info i1, hw, i3]
      have c1 : (decide ((n : Int) < 0) || decide (((te.by_ : Int) * (n : Int)) > 2 ^ 48)) = false := by
        simp only [Bool.or_eq_false_iff, decide_eq_false_iff_not]
        refine ⟨by omega, ?_⟩
        have : ((te.by_ : Int) * (n : Int)) = ((n * te.by_ : Nat) : Int) := by push_cast; rw [Int.mul_comm]
        rw [this]
        have : (2 : Int) ^ 48 = 281474976710656 := by decide
        omega
      have c2 : decide ((n : Int) < 0) = false := by simp
      have c3 : decide ((n : Int) > (n : Int)) = false := by simp
      rw [if_neg (by rw [c1]; simp)]
      simp only [Sem.run_bind, run_askRoom, Result.andThen_ok, run_size i1, i2, Int.toNat_natCast]
      by_cases h0 : n * te.sz = 0
      · rw [if_pos h0] at hcs
        simp only [h0, if_true, Sem.run_pure, Result.andThen_ok, newRow, Sem.run_bind, run_newObj]
        rw [← hcs]
        simp only [h0]
        rfl
      · rw [if_neg h0] at hcs
        simp only [h0, if_false, Sem.run_bind, hzr, Sem.run_pure, Result.andThen_ok, newRow, run_newObj]
        rw [← hcs]
        rfl
    have hzl : (zeroL te.zero.cells.toList n).length = n * te.sz := by rw [zeroL_length, Array.length_toList, hzz]
    refine ⟨(), .slice (some ⟨w.heap.size, 0, none⟩) n n, w.alloc (.cells (zeroL te.zero.cells.toList n).toArray te.id), _, _, ?_, Ret1.new (AllP_fit mm.mm) rfl (onlyK_dj mm _) rfl (h' := PH.row w.heap.size 0 (zeroL te.zero.cells.toList n)) (VA_own (hc := PH.row w.heap.size 0 (zeroL te.zero.cells.toList n)) (hp := PH.emp) (G := fun _ => PH.emp) (row := fun _ => te.zero.cells.toList) ⟨Nat.le_refl _, fun i hi => ⟨_, _, rfl, by rw [Array.length_toList]; exact hzz, fun j hj => ?_⟩, fun i q1 q2 => by omega⟩ hn.2 (PH.le_refl _) (PH.emp_le _) (PH.dj_emp _) (fun i hi => flat_owns) (fun i _ => PH.emp_le _) fun i j _ _ hij => PH.emp_dj _) (FitO.alloc w _ te.id) ((Keep.alloc w _).mono fun _ _ _ h => h.elim) fun b o h => .inr (by rw [PH.row_ne h]; exact Nat.le_refl _)⟩
    · obtain ⟨dst, op, type, pos, after, guard⟩ := o
      simp only at hop
      subst hop
      simp only [execOp, e1, e2]
      simp only [Sem.run_bind, hrun, Result.andThen_ok, Sem.run_pure]
    · have := PH.row_at (b := w.heap.size) (off := 0) (l := zeroL te.zero.cells.toList n) (i * te.sz + j)
      have h1 : (i + 1) * te.sz ≤ n * te.sz := Nat.mul_le_mul_right _ hi
      rw [Nat.add_mul, Nat.one_mul] at h1
      rw [show (0 : Nat) + i * te.sz + j = 0 + (i * te.sz + j) from by omega, this, zeroL_get (by rw [Array.length_toList, hzz]; omega)]
      congr 1
      rw [Array.length_toList, hzz, Nat.mul_comm, Nat.mul_add_mod]; exact Nat.mod_eq_of_lt hj
  · simp [SV.inK, V.inK, muIn, Ch.own?, Ch.rowL, allL, appK, hasK, Nat.beq_refl]
theorem RJ_appM (hT : TOk E.P TT) (k kb k' : Nat) {t0 ts tx : Nat} {s x : Operand} {n m : Nat} {f g : Nat → List D} {id sz1 by1 e : Nat} {z : Value} {ef : Bool} {te ti2 : TI} {md : Mu} {fr' : Fr} {gf2 : GF}
    (hop : o.op = .call { callee := .builtin .append, args := #[s, x], argTypes := #[ts, tx] }) (hs : (ev [] fr gf s).bind gK = some k) (hx : ev [] fr gf x = some (.a (.g kb))) (h1 : tlk ts TT = some ⟨id, sz1, by1, .slc e, z, ef⟩) (h2 : tlk e TT = some te) (h3 : tlk tx TT = some ti2) (h4 : ti2.kind = .slc e) (hk : mlk k mu = some (.arr te.sz n f)) (hkb : mlk kb mu = some (.arr te.sz m g)) (hgd : gdrop t0 gf = some gf')
    (hmd : mdropKs [k, kb, k'] mu = some md) (hcut : cutKs [k, kb] fr gf' = some (fr', gf2)) (hb : (n + m) * te.by_ ≤ 140737488355328 ∧ n + m ≤ maxL)
    (kk : RJ E all (KQ E.P R K) rest ((t0, .a (.g k')) :: fr') gf2 ((k', .arr te.sz (n + m) (appD n f g)) :: md)) (hone : ∀ i, i < m → oneDs (g i) = true := by exact fun _ _ => rfl) (hz : (vcells te.zero).map (·.length) = some te.sz := by exact rfl) (hpos : 0 < te.sz := by exact Nat.lt_of_sub_eq_succ rfl) (hkeys : keysB [k, kb] [k'] [(k, .arr te.sz n f), (kb, .arr te.sz m g)] fr gf mu E.A.ks [] = true := by exact rfl) (hne : (Nat.beq k kb || hasK k' [k, kb]) = false := by exact rfl)
    (hg : o.guard = none := by exact rfl) (hd : o.dst = some t0 := by exact rfl) (ht : Nat.blt t0 E.N = true := by exact rfl) : RJ E all (KQ E.P R K) (o :: rest) fr gf mu :=
  RJ_of (OJ_appM (G := AG.nil) hT k kb k' hop hs hx h1 h2 h3 h4 hk hkb hgd hmd hcut hb (SJ_of kk) hone hz hpos hkeys hne hg hd ht)
theorem RJ_appC (hT : TOk E.P TT) (k k' : Nat) {t0 ts tx : Nat} {s x : Operand} {n m : Nat} {f g : Nat → List D} {id sz1 by1 e : Nat} {z : Value} {ef : Bool} {te ti2 : TI} {md : Mu} {fr' : Fr} {gf2 : GF} {vx : V} {q : Tg} {ob : Ob}
    (hop : o.op = .call { callee := .builtin .append, args := #[s, x], argTypes := #[ts, tx] }) (hs : (ev [] fr gf s).bind gK = some k) (hx : ev [] fr gf x = some (.a vx)) (h1 : tlk ts TT = some ⟨id, sz1, by1, .slc e, z, ef⟩) (h2 : tlk e TT = some te) (h3 : tlk tx TT = some ti2) (h4 : ti2.kind = .slc e) (hk : mlk k mu = some (.arr te.sz n f)) (hkx : slR mu vx = some (q, te.sz, m, g, ob)) (hgd : gdrop t0 gf = some gf')
    (hmd : mdropKs [k, k'] mu = some md) (hcut : cutKs [k] fr gf' = some (fr', gf2)) (hb : (n + m) * te.by_ ≤ 140737488355328 ∧ n + m ≤ maxL)
    (kk : RJ E all (KQ E.P R K) rest ((t0, .a (.g k')) :: fr') gf2 ((k', .arr te.sz (n + m) (appD n f g)) :: md)) (hone : ∀ i, i < m → ∃ l, flatDs (g i) = some l := by exact fun _ _ => ⟨_, rfl⟩) (hz : (vcells te.zero).map (·.length) = some te.sz := by exact rfl) (hpos : 0 < te.sz := by exact Nat.lt_of_sub_eq_succ rfl) (hkeys : keysB [k] [k'] [(k, .arr te.sz n f)] fr gf mu E.A.ks [] = true := by exact rfl) (hne : hasK k' [k] = false := by exact rfl) (hob : Alls ob := by repeat (first | exact trivial | refine And.intro rfl ?_))
    (hg : o.guard = none := by exact rfl) (hd : o.dst = some t0 := by exact rfl) (ht : Nat.blt t0 E.N = true := by exact rfl) : RJ E all (KQ E.P R K) (o :: rest) fr gf mu :=
  RJ_of (OJ_appC (G := AG.nil) hT k k' hop hs hx h1 h2 h3 h4 hk hkx hgd hmd hcut hb (SJ_of kk) hone hz hpos hkeys hne hob hg hd ht)
theorem RJ_bs (hT : TOk E.P TT) (k' : Nat) {t0 ts n : Nat} {parts : Array (Nat × Operand)} {ps : List (Nat × SV)} {id sz1 by1 e : Nat} {z : Value} {ef : Bool} {te : TI} {F0 : List V} {F : List D} {ks : List Nat} {mu1 md : Mu} {fr' : Fr} {gf2 : GF} (f : Nat → List D)
    (hop : o.op = .buildSlice ts n parts) (hp : evParts [] fr gf parts.toList = some ps)
    (h1 : tlk ts TT = some ⟨id, sz1, by1, .slc e, z, ef⟩) (h2 : tlk e TT = some te) (hgd : gdrop t0 gf = some gf') (hF : bsV te.sz ps (zerosV te.zero.cells.toList n) = some F0) (hA : absL mu F0 = some (F, ks)) (hf : ∀ i, i < n → (F.drop (i * te.sz)).take te.sz = f i)
    (hm1 : keysO mu1 = ks) (hmd : mdropKs (appK ks [k']) mu = some md) (hcut : cutKs ks fr gf' = some (fr', gf2))
    (kk : RJ E all (KQ E.P R K) rest ((t0, .a (.g k')) :: fr') gf2 ((k', .arr te.sz n f) :: md)) (hz : (vcells te.zero).map (·.length) = some te.sz := by exact rfl) (hpos : 0 < te.sz := by exact Nat.lt_of_sub_eq_succ rfl) (hn : Nat.ble (n * te.sz) 16777216 = true := by exact rfl) (hkeys : keysB ks [k'] mu1 fr gf mu E.A.ks [] = true := by exact rfl) (hne : hasK k' ks = false := by exact rfl)
    (hg : o.guard = none := by exact rfl) (hd : o.dst = some t0 := by exact rfl) (ht : Nat.blt t0 E.N = true := by exact rfl) : RJ E all (KQ E.P R K) (o :: rest) fr gf mu :=
  RJ_of (OJ_bs (G := AG.nil) hT k' f hop hp h1 h2 hgd hF hA hf hm1 hmd hcut (SJ_of kk) hz hpos hn hkeys hne hg hd ht)
theorem RJ_make (hT : TOk E.P TT) (k' : Nat) {t0 ts : Nat} {l c : Operand} (n : Nat) {id sz1 by1 e : Nat} {z : Value} {ef : Bool} {te : TI} {md : Mu}
    (hop : o.op = .makeSlice ts l c) (hl : ev [] fr gf l = some (.a (.v (.int .i64 n)))) (hc : ev [] fr gf c = some (.a (.v (.int .i64 n)))) (h1 : tlk ts TT = some ⟨id, sz1, by1, .slc e, z, ef⟩) (h2 : tlk e TT = some te) (hgd : gdrop t0 gf = some gf') (hmd : mdropKs [k'] mu = some md) (hn : n * te.by_ ≤ 140737488355328 ∧ n ≤ maxL)
    (kk : RJ E all (KQ E.P R K) rest ((t0, .a (.g k')) :: fr) gf' ((k', .arr te.sz n fun _ => zsD te.zero) :: md)) (hz : (vcells te.zero).map (·.length) = some te.sz := by exact rfl) (hpos : 0 < te.sz := by exact Nat.lt_of_sub_eq_succ rfl) (hkeys : keysB [] [k'] [] fr gf mu E.A.ks [] = true := by exact rfl)
    (hg : o.guard = none := by exact rfl) (hd : o.dst = some t0 := by exact rfl) (ht : Nat.blt t0 E.N = true := by exact rfl) : RJ E all (KQ E.P R K) (o :: rest) fr gf mu :=
  RJ_of (OJ_make (G := AG.nil) hT k' n hop hl hc h1 h2 hgd hmd hn (SJ_of kk) hz hpos hkeys hg hd ht)
end
end
section
section
variable {P : Program} {ops : Array Oper} {Q : Exit → Act → World → Prop} {S : World → Prop}
def afB (ops : Array Oper) (k j : Nat) : Bool := match ops[k]? with
  | some o => o.after.any fun e => Region.binds .any e && Nat.beq e.on j
  | none => false
def afT (ops : Array Oper) : Nat → Nat → Nat → Bool
  | 0, k, j => afB ops k j
  | n + 1, k, j => afB ops k j || (List.range ops.size).any fun m => afB ops k m && afT ops n m j
def cmpB (ops : Array Oper) (i : Nat) : Bool := (List.range ops.size).all fun k => Nat.beq k i || afB ops i k || afB ops k i || afT ops 3 i k || afT ops 3 k i
def Lw (P : Program) (ops : Array Oper) (Q : Exit → Act → World → Prop) (S : World → Prop) : Nat → Array Bool → Act → World → Prop
  | 0, l, a, w => ∀ w', Below w.heap.size w w' → Region.ready .any ops l = [] ∧ Q .normal a w'
  | n + 1, l, a, w => ∀ w', Below w.heap.size w w' → (Region.ready .any ops l = [] → Q .normal a w') ∧
    ∀ i ∈ Region.ready .any ops l, wpOp P ops Q i (fun a' w' => ∃ S', (S' = S ∨ cmpB ops i = true) ∧ S' w' ∧ Lw P ops Q S' n (l.setIfInBounds i true) a' w') a w'
theorem Below.later {a b c : World} (h : Below a.heap.size a b) (k : Below b.heap.size b c) : Below a.heap.size a c := h.trans (k.mono h.size)
theorem Lw.up {w w' : World} (hb : Below w.heap.size w w') : ∀ {n : Nat} {l : Array Bool} {a : Act}, Lw P ops Q S n l a w → Lw P ops Q S n l a w'
  | 0, _, _, h => fun w2 hb2 => h w2 (Below.later hb hb2)
  | _ + 1, _, _, h => fun w2 hb2 => h w2 (Below.later hb hb2)
theorem Lw.any : ∀ {S : World → Prop} {n : Nat} {l : Array Bool} {a : Act} {w : World}, Lw P ops Q S n l a w → wpAny P .any ops Q n l a w
  | _, 0, _, _, w, h => h w (Below.refl _ _)
  | _, n + 1, l, a, w, h => ⟨(h w (Below.refl _ _)).1, fun i hi => wpOp_mono (fun a' w' ⟨_, _, _, h'⟩ => Lw.any h') ((h w (Below.refl _ _)).2 i hi)⟩
def Qu (P : Program) (s : Sem Next) (v : Value) (w : World) : Prop :=
  s.run P w = .ok (.value v) w ∨ ∃ f args, s.run P w = .ok (.enter f args) w ∧ Calls P f args w fun e w' => e = .returned v ∧ Below w.heap.size w w'
def Yi (P : Program) (ops : Array Oper) (S : World → Prop) (o : Oper) (v : Value) (a : Act) : Prop :=
  (Region.wanted o (yielded ops a.tmps) = true ∧ ∀ w, S w → Qu P (execOp a.eval o) v w) ∨ (Region.wanted o (yielded ops a.tmps) = false ∧ v = undef)
theorem Yi.wpOp {i : Nat} {o : Oper} {v : Value} {a : Act} (hi : ops[i]? = some o) (hy : Yi P ops S o v a) {K : Act → World → Prop} {w : World} (hw : S w) (h : ∀ w', Below w.heap.size w w' → K (a.put o.dst v) w') : wpOp P ops Q i K a w := by
  unfold Go.wpOp
  simp only [hi]
  rcases hy with ⟨h1, h2⟩ | ⟨h1, rfl⟩
  · rw [if_pos h1]
    refine .inl ?_
    unfold Oper.wp
    rcases h2 w hw with h3 | ⟨f, args, h3, h4⟩
    · rw [h3]; exact h w (Below.refl _ _)
    · rw [h3]
      exact h4.mono fun e w' ⟨e1, e2⟩ => by subst e1; exact h w' e2
  · simp only [h1, Bool.false_eq_true, if_false]; exact h w (Below.refl _ _)
theorem Yi.of_same {o : Oper} {v : Value} {a a' : Act} (hy : Yi P ops S o v a) (he : execOp a'.eval o = execOp a.eval o) (hw : Region.wanted o (yielded ops a'.tmps) = Region.wanted o (yielded ops a.tmps)) : Yi P ops S o v a' := by
  unfold Yi at *
  rw [he, hw]
  exact hy
theorem wpOp_putI {j : Nat} {oi oj : Oper} {v : Value} (hj : ops[j]? = some oj) (hap : oi.apart ops oj = true) (hsi : ∀ cs b, oi.op ≠ .select cs b) (hsj : ∀ cs b, oj.op ≠ .select cs b)
    (hQ : ∀ c a w, Q (.panic c) (a.put oi.dst v) w → Q (.panic c) a w) {K : Act → World → Prop} {a : Act} {w : World} (hy : Yi P ops S oi v a) (h : wpOp P ops Q j K (a.put oi.dst v) w) :
    wpOp P ops Q j (fun a' w' => Yi P ops S oi v a' ∧ K (a'.put oi.dst v) w') a w := by
  obtain ⟨h1, h2, h3⟩ := Oper.apart_spec hap
  have keep : ∀ (a : Act), Yi P ops S oi v a → ∀ u, Yi P ops S oi v (a.put oj.dst u) := fun a hy u => hy.of_same (execOp_put oi hsi a oj.dst u h3) (wanted_put oi a oj.dst u h3)
  have keepD : ∀ d, Yi P ops S oi v { a with defers := d :: a.defers } := fun d => hy.of_same rfl rfl
  unfold wpOp at *
  simp only [hj] at *
  rw [wanted_put oj a oi.dst v h1] at h
  split
  · rename_i hw
    simp only [hw, if_true] at h
    rcases h with h | ⟨hasks, hlets⟩
    case inr => exact .inr ⟨by unfold Oper.asks at *; rw [execOp_put oj hsj a oi.dst v h1] at hasks; exact hasks, hlets⟩
    refine .inl ?_
    unfold Oper.wp at *
    rw [execOp_put oj hsj a oi.dst v h1] at h
    generalize (execOp a.eval oj).run P w = r at *
    cases r with
    | ok n w' =>
      cases n <;> simp only [Oper.upon] at h ⊢
      case value u => exact ⟨keep a hy u, by rw [← Act.put_comm a v u h2]; exact h⟩
      case skip => exact ⟨keep a hy _, by rw [← Act.put_comm a v undef h2]; exact h⟩
      case defer d =>
        refine ⟨keep _ (keepD d) _, ?_⟩
        rw [← Act.put_comm _ v undef h2, ← Act.put_defers]
        exact h
      case enter f args =>
        refine Calls.mono h fun e w'' he => ?_
        cases e with
        | returned u => exact ⟨keep a hy u, by rw [← Act.put_comm a v u h2]; exact he⟩
        | panicked c => exact hQ _ _ _ he
        | outgrown => exact he
      case row row args => exact Rows.mono h fun u w'' he => ⟨keep a hy u, by rw [← Act.put_comm a v u h2]; exact he⟩
    | halt x w' =>
      cases x <;> simp only [Oper.upon] at h ⊢
      case panic u => exact hQ _ _ _ h
  · rename_i hw
    simp only [hw] at h
    exact ⟨keep a hy _, by rw [← Act.put_comm a v undef h2]; exact h⟩
def Closed (ops : Array Oper) (l : Array Bool) : Prop := ∀ j oj, ops[j]? = some oj → l.getD j false = true → ∀ e ∈ oj.after, Region.binds .any e = true → l.getD e.on false = true
theorem Closed.set {l : Array Bool} {i : Nat} (h : Closed ops l) (hi : i ∈ Region.ready .any ops l) : Closed ops (l.setIfInBounds i true) := by
  obtain ⟨_, oi, hoi, hall⟩ := mem_ready.1 hi
  intro j oj hj hl e he hb
  by_cases hij : i = j
  · subst hij
    rw [hj] at hoi
    injection hoi with hoi
    subst hoi
    exact getD_set_true (hall e he hb)
  · rw [getD_set_ne false hij] at hl
    exact getD_set_true (h j oj hj hl e he hb)
def closedL (ops : Array Oper) (l : Array Bool) : Bool := (List.range ops.size).all fun j => !(l.getD j false) || match ops[j]? with
  | some o => o.after.all fun e => !Region.binds .any e || l.getD e.on false
  | none => true
theorem closedL_spec {l : Array Bool} (h : closedL ops l = true) : Closed ops l := fun j oj hj hl e he hb => by
  have h1 := List.all_eq_true.1 h j (List.mem_range.2 (Array.getElem?_eq_some_iff.1 hj).1)
  rw [hl, hj] at h1
  simp only [Bool.not_true, Bool.false_or] at h1
  have h2 := Array.all_eq_true'.1 h1 e he
  rw [hb] at h2
  simpa using h2
theorem Closed.un {l : Array Bool} {m i : Nat} (h : Closed ops l) (hm : l.getD m false = true) (ha : afB ops m i = true) : l.getD i false = true := by
  unfold afB at ha
  split at ha
  · rename_i o ho
    obtain ⟨e, he, hb⟩ := Array.any_eq_true'.1 ha
    simp only [Bool.and_eq_true] at hb
    have := h m o ho hm e he hb.1
    rwa [Nat.eq_of_beq_eq_true hb.2] at this
  · cases ha
theorem Closed.chain {l : Array Bool} (h : Closed ops l) : ∀ {n m i : Nat}, l.getD m false = true → afT ops n m i = true → l.getD i false = true
  | 0, _, _, hm, ha => h.un hm ha
  | n + 1, _, _, hm, ha => by
    simp only [afT, Bool.or_eq_true] at ha
    rcases ha with ha | ha
    · exact h.un hm ha
    · obtain ⟨x, _, hx⟩ := List.any_eq_true.1 ha
      simp only [Bool.and_eq_true] at hx
      exact h.chain (h.un hm hx.1) hx.2
theorem ready_af {l : Array Bool} {j m : Nat} (hj : j ∈ Region.ready .any ops l) (ha : afB ops j m = true) : l.getD m false = true := by
  obtain ⟨_, oj, hoj, hall⟩ := mem_ready.1 hj
  unfold afB at ha
  rw [hoj] at ha
  obtain ⟨e, he, hb⟩ := Array.any_eq_true'.1 ha
  simp only [Bool.and_eq_true] at hb
  have := hall e he hb.1
  rw [Nat.eq_of_beq_eq_true hb.2] at this
  rw [Array.getD_eq_getD_getElem?]
  first
    | exact this
    | (rw [Array.getD_eq_getD_getElem?] at this; cases x : l[m]? <;> simp_all)
theorem ready_chain {l : Array Bool} {j : Nat} (hcl : Closed ops l) (hj : j ∈ Region.ready .any ops l) : ∀ {n i : Nat}, afT ops n j i = true → l.getD i false = true
  | 0, _, ha => ready_af hj ha
  | n + 1, _, ha => by
    simp only [afT, Bool.or_eq_true] at ha
    rcases ha with ha | ha
    · exact ready_af hj ha
    · obtain ⟨x, _, hx⟩ := List.any_eq_true.1 ha
      simp only [Bool.and_eq_true] at hx
      exact hcl.chain (ready_af hj hx.1) hx.2
theorem Lw_first (hup : ∀ w w', Below w.heap.size w w' → S w → S w') {i : Nat} {oi : Oper} {v : Value} (hi : ops[i]? = some oi) (hsel : ∀ (j : Nat) (o : Oper) cs b, ops[j]? = some o → o.op ≠ .select cs b) (hQ : ∀ c a w, Q (.panic c) (a.put oi.dst v) w → Q (.panic c) a w) :
    ∀ (n : Nat) (l : Array Bool) (a : Act) (w : World), (∀ j oj, ops[j]? = some oj → j ≠ i → l.getD j true = false → (∀ e ∈ oj.after, Region.binds .any e = true → e.on ≠ i) → oi.apart ops oj = true) →
      i ∈ Region.ready .any ops l → Closed ops l → Yi P ops S oi v a → S w → Lw P ops Q S n (l.setIfInBounds i true) (a.put oi.dst v) w → Lw P ops Q S (n + 1) l a w := by
  intro n
  induction n with
  | zero =>
    intro l a w _ hr _ hy hS H w2 hb
    have hS2 := hup w w2 hb hS
    refine ⟨fun h => (by rw [h] at hr; cases hr), fun j hj => ?_⟩
    by_cases hji : j = i
    · subst hji; exact hy.wpOp hi hS2 fun w3 hb3 => ⟨S, .inl rfl, hup w2 w3 hb3 hS2, Lw.up (Below.later hb hb3) H⟩
    · have := ready_mono hj hji
      rw [(H w2 hb).1] at this
      cases this
  | succ n ih =>
    intro l a w hfree hr hcl hy hS H w2 hb
    have hS2 := hup w w2 hb hS
    refine ⟨fun h => (by rw [h] at hr; cases hr), fun j hj => ?_⟩
    by_cases hji : j = i
    · subst hji; exact hy.wpOp hi hS2 fun w3 hb3 => ⟨S, .inl rfl, hup w2 w3 hb3 hS2, Lw.up (Below.later hb hb3) H⟩
    · have h1 := (H w2 hb).2 j (ready_mono hj hji)
      obtain ⟨hjun, oj, hoj, hall⟩ := mem_ready.1 hj
      have hiun := (mem_ready.1 hr).1
      have hnot : ∀ e ∈ oj.after, Region.binds .any e = true → e.on ≠ i := fun e he hb heq => by
        have h1 := hall e he hb
        rw [heq] at h1
        rcases Nat.lt_or_ge i l.size with h' | h'
        · simp [h'] at hiun h1; rw [hiun] at h1; cases h1
        · simp [Array.getElem?_eq_none h'] at h1
      have h2 := wpOp_putI (S := S) hoj (hfree j oj hoj hji hjun hnot) (fun cs b => hsel i oi cs b hi) (fun cs b => hsel j oj cs b hoj) hQ hy h1
      have hfree' : ∀ k ok, ops[k]? = some ok → k ≠ i → (l.setIfInBounds j true).getD k true = false → (∀ e ∈ ok.after, Region.binds .any e = true → e.on ≠ i) → oi.apart ops ok = true := fun k ok hk hki hun hno => by
        refine hfree k ok hk hki ?_ hno
        by_cases hjk : j = k
        · subst hjk; exact hjun
        · rw [getD_set_ne true hjk] at hun; exact hun
      have hno : ¬ cmpB ops j = true := fun hc => by
        have hin : i < ops.size := (Array.getElem?_eq_some_iff.1 hi).1
        have hc := List.all_eq_true.1 hc i (List.mem_range.2 hin)
        simp only [Bool.or_eq_true] at hc
        rcases hc with (((hc | hc) | hc) | hc) | hc
        · exact hji (Nat.eq_of_beq_eq_true hc).symm
        · unfold afB at hc
          rw [hoj] at hc
          obtain ⟨e, he, hb2⟩ := Array.any_eq_true'.1 hc
          simp only [Bool.and_eq_true] at hb2
          exact hnot e he hb2.1 (Nat.eq_of_beq_eq_true hb2.2)
        · unfold afB at hc
          rw [hi] at hc
          obtain ⟨e, he, hb2⟩ := Array.any_eq_true'.1 hc
          simp only [Bool.and_eq_true] at hb2
          obtain ⟨_, oi', hoi', hall'⟩ := mem_ready.1 hr
          rw [hi] at hoi'
          injection hoi' with hoi'
          subst hoi'
          have h5 := hall' e he hb2.1
          rw [Nat.eq_of_beq_eq_true hb2.2] at h5
          rcases Nat.lt_or_ge j l.size with h' | h'
          · simp [h'] at hjun h5; rw [hjun] at h5; cases h5
          · simp [Array.getElem?_eq_none h'] at h5
        · have := ready_chain hcl hj hc
          rcases Nat.lt_or_ge i l.size with h' | h'
          · simp [h'] at hiun this; rw [hiun] at this; cases this
          · simp [Array.getElem?_eq_none h'] at this
        · have := ready_chain hcl hr hc
          rcases Nat.lt_or_ge j l.size with h' | h'
          · simp [h'] at hjun this; rw [hjun] at this; cases this
          · simp [Array.getElem?_eq_none h'] at this
      refine wpOp_mono (fun a' w' ⟨h30, S', hS', h31, h32⟩ => ?_) h2
      obtain rfl : S' = S := hS'.resolve_right hno
      refine ⟨S', .inl rfl, h31, ih (l.setIfInBounds j true) a' w' hfree' (ready_mono hr (Ne.symm hji)) (hcl.set hj) h30 h31 ?_⟩
      rw [Array.setIfInBounds_comm _ _ hji]
      exact h32
def mk (n : Nat) (tk : List Nat) : Array Bool := (Array.range n).map fun i => tk.any (Nat.beq · i)
theorem mk_set (n i : Nat) (tk : List Nat) : (mk n tk).setIfInBounds i true = mk n (i :: tk) := by
  apply Array.ext_getElem?
  intro j
  by_cases hij : i = j
  · subst hij
    by_cases hn : i < n
    · simp [mk, hn, Nat.beq_refl]
    · simp [mk, hn]
  · rw [Array.getElem?_setIfInBounds_ne hij]
    unfold mk
    rw [Array.getElem?_map, Array.getElem?_map]
    by_cases hn : j < n
    · rw [Array.getElem?_range, if_pos hn]
      simp [hij, Nat.beq_eq]
    · rw [Array.getElem?_range, if_neg hn]; rfl
theorem mk_nil (n : Nat) : Array.replicate n false = mk n [] := by
  apply Array.ext_getElem?
  intro j
  by_cases hn : j < n <;> simp [mk, hn]
def takeB (ops : Array Oper) (tk : List Nat) (i : Nat) : Bool :=
  (Region.ready .any ops (mk ops.size tk)).contains i && Region.free .any ops (mk ops.size tk) i && Region.noSelect ops && closedL ops (mk ops.size tk)
def oneB (ops : Array Oper) (tk : List Nat) (i : Nat) : Bool := match Region.ready .any ops (mk ops.size tk) with
  | [j] => Nat.beq j i
  | _ => false
end
section
variable {E : Env} {B : BE} {mu mu' : Mu} {w : World} {H : Nat → PH} {TT : List TI} {fr fr' : Fr} {gf gf' : GF} {a : Act} {all rest : List Oper} {o : Oper} {J : Act → World → Prop} {G : AG} {R : Exit → Act → World → Prop} {K : List KF}
def PQ (R : Exit → Act → World → Prop) : Prop := ∀ c a d v w, R (.panic c) (a.put d v) w → R (.panic c) a w
theorem pq_body {P : Program} (fn : Func) (Rp : Ending → World → Prop) : PQ (bodyPost P fn Rp) := fun c a d v w h => by
  cases d <;> exact h
theorem pq_K {P : Program} (hR : PQ R) : ∀ K : List KF, PQ (KQ P R K)
  | [] => hR
  | .seq c :: K => fun c a d v w h => pq_K hR K c a d v w h
  | .blk id :: K => fun c a d v w h => pq_K hR K c a d v w h
  | .loop I :: K => fun c a d v w h => pq_K hR K c a d v w h
def muR (ks : List Nat) : Mu → Mu
  | [] => []
  | (k, c) :: r => bif hasK k ks then (k, c) :: muR ks r else muR ks r
theorem muR_get {ks : List Nat} : ∀ {mu : Mu} {k : Nat} {c : Ch}, mlk k (muR ks mu) = some c → hasK k ks = true ∧ mlk k mu = some c
  | [], _, _, h => by cases h
  | (j, d) :: r, k, c, h => by
    simp only [muR] at h
    cases e : hasK j ks with
    | true =>
      rw [e] at h
      simp only [cond_true] at h
      rw [mlk_cons] at h ⊢
      by_cases hj : j = k
      · subst hj; rw [if_pos rfl] at h ⊢; exact ⟨e, h⟩
      · rw [if_neg hj] at h ⊢; exact muR_get h
    | false =>
      rw [e] at h
      simp only [cond_false] at h
      obtain ⟨h1, h2⟩ := muR_get h
      rw [mlk_cons]
      by_cases hj : j = k
      · subst hj; rw [e] at h1; cases h1
      · rw [if_neg hj]; exact ⟨h1, h2⟩
def keysX (ex : List Nat) : Mu → List Nat
  | [] => []
  | (k, _) :: r => bif hasK k ex then keysX ex r else k :: keysX ex r
def Sr (G : AG) (r : PH) (w : World) : Prop := Fit r w ∧ ∀ k, hasK k G.ks = true → Fit (G.H k) w
theorem Sr.up {r : PH} {w w' : World} (hb : Below w.heap.size w w') (h : Sr G r w) : Sr G r w' := ⟨h.1.ext hb, fun k hk => (h.2 k hk).ext hb⟩
theorem Mem.sr (m : Mem E B mu w H) (g : G.ok B H) : Sr G E.r w := ⟨m.mm.fitr, fun k hk => by rw [← (g k hk).2]; exact (m.mm.fit k).fit⟩
theorem Mem.msR (m : Mem E B mu w H) (ks : List Nat) : Ms B E.r (muR ks mu) H := ⟨fun k c e => m.mm.sat k c (muR_get e).2, m.mm.dj, m.mm.djr⟩
theorem Sr.fw {w' : World} {r : PH} (g : G.ok B H) (h : Sr G r w') : Fw r (muR G.ks mu) H w' := ⟨fun k c e => by rw [(g k (muR_get e).1).2]; exact h.2 k (muR_get e).1, h.1⟩
def DJ (G : AG) (E : Env) (all : List Oper) (Q : Exit → Act → World → Prop) (n : Nat) (tk : List Nat) (fr : Fr) (gf : GF) (mu : Mu) : Prop :=
  SJ G (Lw E.P all.toArray Q (Sr G E.r) n (mk all.toArray.size tk)) E fr gf mu
theorem T_draw {id : Nat} {l : List Oper} (ex : List Nat) (n : Nat) (hm : E.P.follows .mixedOrders = true) (hn : l.toArray.size = n) {ks : List Nat} (hks : keysX ex mu = ks) (h : ∀ B0 H0, DJ ⟨ks, B0, H0⟩ E l (KQ E.P R K) n [] fr [] mu) : T E R (.region id l.toArray true) fr mu K := fun B a w H f m => by
  subst hn
  refine wp_region_any hm ?_
  rw [mk_nil]
  exact (h B H B a _ H f (m.below (Keep.drew w).below) fun _ _ => ⟨rfl, rfl⟩).any
theorem DJ_first (hR : PQ R) (i : Nat) {n : Nat} {tk : List Nat} {o : Oper} (hi : nth all i = some o) (hB : takeB all.toArray tk i = true)
    (h : ∀ B a w H, FitsE E B H fr gf a → Mem E B mu w H → G.ok B H → ∃ v, Yi E.P all.toArray (Sr G E.r) o v a ∧ FitsE E B H fr' gf' (a.put o.dst v))
    (k : DJ G E all (KQ E.P R K) n (i :: tk) fr' gf' mu) : DJ G E all (KQ E.P R K) (n + 1) tk fr gf mu := fun B a w H f m gg => by
  simp only [takeB, Bool.and_eq_true] at hB
  obtain ⟨⟨⟨b1, b2⟩, b3⟩, b4⟩ := hB
  have hi' : all.toArray[i]? = some o := by rw [nth_eq] at hi; simpa using hi
  obtain ⟨v, hy, hf⟩ := h B a w H f m gg
  refine Lw_first (fun w w' hb m => m.up hb) hi' (Region.noSelect_spec b3) (fun c a w h => pq_K hR K c a _ _ w h) n _ a w (Region.free_spec hi' b2) (by simpa using b1) (closedL_spec b4) hy (m.sr gg) ?_
  rw [mk_set]
  exact k B _ w H hf m gg
theorem DJ_take (hT : TOk E.P TT) (hR : PQ R) (i : Nat) {n : Nat} {tk : List Nat} {o : Oper} {t : Nat} {x : SV} {q : Ob} (hi : nth all i = some o) (hB : takeB all.toArray tk i = true) (hg : o.guard = none) (hd : o.dst = some t) (ht : Nat.blt t E.N = true)
    (hp : pst TT fr gf (muR G.ks mu) [] o.op = some (x, q)) {es es' : List Prop} {gs gs' : List GO} (hs : splitO fr gf [] q es gs = some (es', gs')) (he : PAlls es') (ho : GAlls gs') (hgd : gdrop t gf = some gf')
    (k : DJ G E all (KQ E.P R K) n (i :: tk) ((t, x) :: fr) gf' mu) : DJ G E all (KQ E.P R K) (n + 1) tk fr gf mu :=
  DJ_first hR i hi hB (fun B a w H f m gg => by
    obtain ⟨v, r1, r2⟩ := pst_ok hT f (m.msR G.ks) (g := []) (fun _ _ hm => by cases hm) hp (splitO_ok f (fun _ _ hm => by cases hm) hs he ho)
    exact ⟨v, .inl ⟨wanted_none hg, fun w' s' => .inl (r1 w' (s'.fw gg))⟩, by rw [hd]; exact Fits.put f (by simpa [Nat.blt_eq] using ht) r2 hgd⟩) k
theorem DJ_takeG (hT : TOk E.P TT) (hR : PQ R) (i : Nat) {n : Nat} {tk : List Nat} {o : Oper} {t j d : Nat} {b : Bool} {x : SV} {q : Ob} (hi : nth all i = some o) (hB : takeB all.toArray tk i = true) (hg : o.guard = some (j, b)) (hsl : gSlot all j = some d) (hd : o.dst = some t) (ht : (Nat.blt t E.N && !(Nat.beq t d)) = true) (hn : mlk t fr = none)
    (hp : pst TT fr gf (muR G.ks mu) (acts 6 gf d b) o.op = some (x, q)) {es es' : List Prop} {gs gs' : List GO} (hs : splitO fr gf (acts 6 gf d b) q es gs = some (es', gs')) (he : PAlls es') (ho : GAlls gs') (hgd : gdrop t gf = some gf')
    (k : DJ G E all (KQ E.P R K) n (i :: tk) fr ((t, d, b, x) :: gf') mu) : DJ G E all (KQ E.P R K) (n + 1) tk fr gf mu :=
  DJ_first hR i hi hB (fun B a w H f m gg => by
    simp only [Bool.and_eq_true, Bool.not_eq_true'] at ht
    have htd : t ≠ d := Nat.ne_of_beq_eq_false ht.2
    have htN : t < E.N := by simpa [Nat.blt_eq] using ht.1
    have hw := wanted_some (ops := all.toArray) (a := a) hg (gslot_ops hsl)
    by_cases hyes : a.tmps.getD d undef = .bool b
    · have hacts := acts_ok f 6 d b hyes
      obtain ⟨v, r1, r2⟩ := pst_ok hT f (m.msR G.ks) hacts hp (splitO_ok f hacts hs he ho)
      refine ⟨v, .inl ⟨hw.2 hyes, fun w' s' => .inl (r1 w' (s'.fw gg))⟩, ?_⟩
      rw [hd]; exact Fits.putG f htN htd hn hgd (.inl ⟨hyes, r2⟩)
    · refine ⟨undef, .inr ⟨?_, rfl⟩, ?_⟩
      · cases e : Region.wanted o (yielded all.toArray a.tmps) with
        | false => rfl
        | true => exact absurd (hw.1 e) hyes
      · rw [hd]; exact Fits.putG f htN htd hn hgd (.inr ⟨hyes, rfl⟩)) k
def exL : List V → Option (List Value)
  | [] => some []
  | .v x :: r => match exL r with
    | some l => some (x :: l)
    | none => none
  | _ :: _ => none
mutual
def exV : SV → Option Value
  | .a (.v x) => some x
  | .ag l => match exL l with
    | some m => some (.agg m.toArray)
    | none => none
  | .tu l => match exVs l with
    | some m => some (.tuple m.toArray)
    | none => none
  | _ => none
def exVs : List SV → Option (List Value)
  | [] => some []
  | x :: r => match exV x, exVs r with
    | some y, some l => some (y :: l)
    | _, _ => none
end
theorem exL_ok {Z : Tg → PH} : ∀ {l : List V} {m : List Value}, exL l = some m → ∀ {vs : List Value}, V.rels B Z l vs → vs = m
  | [], m, h, vs, e => by simp [exL] at h; subst h; exact e
  | .v x :: r, m, h, vs, e => by
    simp only [exL] at h
    cases c : exL r with
    | none => rw [c] at h; cases h
    | some l =>
      rw [c] at h; injection h with h; subst h
      obtain ⟨a, t, rfl, e2, e3⟩ := e
      have e2 : a = x := e2
      rw [e2, exL_ok c e3]
  | .s .. :: _, _, h, _, _ => by simp [exL] at h
  | .g .. :: _, _, h, _, _ => by simp [exL] at h
  | .p .. :: _, _, h, _, _ => by simp [exL] at h
  | .pe .. :: _, _, h, _, _ => by simp [exL] at h
  | .sb .. :: _, _, h, _, _ => by simp [exL] at h
  | .gl .. :: _, _, h, _, _ => by simp [exL] at h
  | .rp .. :: _, _, h, _, _ => by simp [exL] at h
  | .any :: _, _, h, _, _ => by simp [exL] at h
mutual
theorem exV_ok {P : Program} {Z : Tg → PH} : ∀ {x : SV} {y : Value}, exV x = some y → ∀ {v : Value}, SV.rel P B Z x v → v = y
  | .a (.v x), y, h, v, e => by simp [exV] at h; subst h; exact e
  | .ag l, y, h, v, e => by
    simp only [exV] at h
    cases c : exL l with
    | none => rw [c] at h; cases h
    | some m =>
      rw [c] at h; injection h with h; subst h
      obtain ⟨vs, rfl, e2⟩ := e
      rw [exL_ok c e2]
  | .tu l, y, h, v, e => by
    simp only [exV] at h
    cases c : exVs l with
    | none => rw [c] at h; cases h
    | some m =>
      rw [c] at h; injection h with h; subst h
      obtain ⟨vs, rfl, e2⟩ := e
      rw [exVs_ok c e2]
  | .a (.s ..), _, h, _, _ => by simp [exV] at h
  | .a (.g ..), _, h, _, _ => by simp [exV] at h
  | .a (.p ..), _, h, _, _ => by simp [exV] at h
  | .a (.pe ..), _, h, _, _ => by simp [exV] at h
  | .a (.sb ..), _, h, _, _ => by simp [exV] at h
  | .a (.gl ..), _, h, _, _ => by simp [exV] at h
  | .a (.rp ..), _, h, _, _ => by simp [exV] at h
  | .a .any, _, h, _, _ => by simp [exV] at h
  | .fn .., _, h, _, _ => by simp [exV] at h
  | .fb .., _, h, _, _ => by simp [exV] at h
  | .un, _, h, _, _ => by simp [exV] at h
theorem exVs_ok {P : Program} {Z : Tg → PH} : ∀ {x : List SV} {y : List Value}, exVs x = some y → ∀ {v : List Value}, SV.rels P B Z x v → v = y
  | [], y, h, v, e => by simp [exVs] at h; subst h; exact e
  | x :: r, y, h, v, e => by
    simp only [exVs] at h
    split at h
    · rename_i y' l c1 c2
      injection h with h; subst h
      obtain ⟨a, t, rfl, e2, e3⟩ := e
      rw [exV_ok c1 e2, exVs_ok c2 e3]
    · cases h
end
theorem DJ_q (hR : PQ R) (i : Nat) {n : Nat} {tk : List Nat} {o : Oper} {f : Nat} {ks : List Nat} {args : List SV} {mu1 : Mu} {res : SV} (C : Ans E.P f ks args mu1 res) {x : Value} (hx : exV res = some x) {svs args' : List SV} {g : Option (Nat × Nat × Bool)} {t : Nat} {q : Ob} {gd : Gd} {es : List Prop} {gs : List GO} (hi : nth all i = some o) (hB : takeB all.toArray tk i = true)
    (hc : callC E.N all fr gf o = some (f, svs, g, t, gf')) (hgd : gd = match g with | none => [] | some (_, d, b) => acts 6 gf d b) (hen : Enters E.P f) (hko : keysO mu1 = []) (hres : res.inK ks = true)
    (hw : wkSL (muR G.ks mu) [] ks svs = some (args', q)) (ha : SVs.imp E.P args' args) (hs : splitO fr gf gd q [] [] = some (es, gs)) (he : PAlls es) (ho : GAlls gs) (hin : WkIn (muR G.ks mu) mu1)
    (k : DJ G E all (KQ E.P R K) n (i :: tk) (frQ fr g t res) (gfQ gf' g t res) mu) : DJ G E all (KQ E.P R K) (n + 1) tk fr gf mu := by
  have go : ∀ {B a w H}, FitsE E B H fr gf a → Mem E B mu w H → G.ok B H → (∀ d w, (d, w) ∈ gd → a.tmps.getD d undef = .bool w) → callsOf gd fr gf o.op = some (f, svs) → SV.rel E.P B (Zf E.r H) res x ∧ ∀ w', Sr G E.r w' → Qu E.P (execOp a.eval o) x w' := fun {B a w H} ff m gg hgd0 hcall => by
    have main : ∀ w', Sr G E.r w' → ∃ vals : List Value, (execOp a.eval o).run E.P w' = .ok (.enter f vals.toArray) w' ∧ Calls E.P f vals.toArray w' fun e w2 => ∃ v, e = .returned v ∧ (∀ Z, SV.rel E.P B Z res v) ∧ Below w'.heap.size w' w2 := fun w' s' => by
      obtain ⟨vals, r1, r2⟩ := callsOf_run (w := w') ff hgd0 hcall hen
      have ms := m.msR G.ks
      have fw := s'.fw (mu := mu) gg
      exact ⟨vals, r1, ans_run C hko hres ⟨ms.sat, fw.fit, fw.fitr, ms.dj, ms.djr⟩ hw ha (splitO_ok ff hgd0 hs he ho) hin r2⟩
    refine ⟨?_, fun w' s' => ?_⟩
    · have : ∀ (r : SV) (x : Value), exV r = some x → SV.rel E.P B (Zf E.r H) r x := by
        intro r
        have hl : ∀ {l : List V} {m : List Value}, exL l = some m → V.rels B (Zf E.r H) l m := fun {l} => by
          induction l with
          | nil => intro m h; simp [exL] at h; subst h; rfl
          | cons y r ih =>
            intro m h
            cases y <;> simp only [exL] at h <;> first | (cases h; done) | skip
            cases c : exL r with
            | none => rw [c] at h; cases h
            | some l => rw [c] at h; injection h with h; subst h; exact ⟨_, _, rfl, rfl, ih c⟩
        refine SV.rec (motive_1 := fun r => ∀ (x : Value), exV r = some x → SV.rel E.P B (Zf E.r H) r x) (motive_2 := fun l => ∀ (m : List Value), exVs l = some m → SV.rels E.P B (Zf E.r H) l m) ?_ ?_ ?_ ?_ ?_ ?_ ?_ ?_ r
        · intro y x h
          cases y <;> simp [exV] at h
          subst h; rfl
        · intro l x h
          simp only [exV] at h
          cases c : exL l with
          | none => rw [c] at h; cases h
          | some m => rw [c] at h; injection h with h; subst h; exact ⟨m, rfl, hl c⟩
        · intro f l x h; simp [exV] at h
        · intro φ x h; simp [exV] at h
        · intro l ih x h
          simp only [exV] at h
          cases c : exVs l with
          | none => rw [c] at h; cases h
          | some m => rw [c] at h; injection h with h; subst h; exact ⟨m, rfl, ih m c⟩
        · intro x h; simp [exV] at h
        · intro m h; simp [exVs] at h; subst h; rfl
        · intro y l h1 h2 m h
          simp only [exVs] at h
          split at h
          · rename_i y' l' c1 c2
            injection h with h; subst h
            exact ⟨_, _, rfl, h1 _ c1, h2 _ c2⟩
          · cases h
      exact this _ _ hx
    · obtain ⟨vals, r1, r2⟩ := main w' s'
      exact .inr ⟨f, _, r1, r2.mono fun e w2 ⟨v, c1, c2, c3⟩ => ⟨by rw [c1, exV_ok hx (c2 (Zf E.r H))], c3⟩⟩
  match g, hc, hgd, k with
  | none, hc, hgd, k =>
    subst hgd
    obtain ⟨h1, h2, h3, h4, h5⟩ := callC_none hc
    refine DJ_first hR i hi hB (fun B a w H ff m gg => ?_) k
    obtain ⟨g1, g2⟩ := go ff m gg (fun _ _ hm => by cases hm) h4
    exact ⟨x, .inl ⟨wanted_none h1, g2⟩, by rw [h2]; exact Fits.put ff (by simpa [Nat.blt_eq] using h3) g1 h5⟩
  | some (j, d, b), hc, hgd, k =>
    subst hgd
    obtain ⟨h1, h2, h3, h4, h5, h6, h7⟩ := callC_some hc
    simp only [Bool.and_eq_true, Bool.not_eq_true'] at h4
    have htd : t ≠ d := Nat.ne_of_beq_eq_false h4.2
    have htN : t < E.N := by simpa [Nat.blt_eq] using h4.1
    refine DJ_first hR i hi hB (fun B a w H ff m gg => ?_) k
    have hwt := wanted_some (ops := all.toArray) (a := a) h1 (gslot_ops h2)
    by_cases hyes : a.tmps.getD d undef = .bool b
    · have hacts := acts_ok ff 6 d b hyes
      obtain ⟨g1, g2⟩ := go ff m gg hacts h6
      refine ⟨x, .inl ⟨hwt.2 hyes, g2⟩, ?_⟩
      rw [h3]; exact Fits.putG ff htN htd h5 h7 (.inl ⟨hyes, g1⟩)
    · refine ⟨undef, .inr ⟨?_, rfl⟩, ?_⟩
      · cases e : Region.wanted o (yielded all.toArray a.tmps) with
        | false => rfl
        | true => exact absurd (hwt.1 e) hyes
      · rw [h3]; exact Fits.putG ff htN htd h5 h7 (.inr ⟨hyes, rfl⟩)
def drun (TT : List TI) (N : Nat) (all : List Oper) (mu : Mu) : List Nat → Fr → GF → List Nat → List Prop → List GO → Option (List Nat × Fr × GF × List Nat × List Prop × List GO)
  | [], fr, gf, tk, es, gs => some ([], fr, gf, tk, es, gs)
  | i :: r, fr, gf, tk, es, gs => match nth all i with
    | none => none
    | some o => match o.guard with
      | none => match pst TT fr gf mu [] o.op, o.dst with
        | some (x, q), some t => match splitO fr gf [] q es gs, gdrop t gf with
          | some (es', gs'), some gf' => bif Nat.blt t N then drun TT N all mu r ((t, x) :: fr) gf' (i :: tk) es' gs' else none
          | _, _ => none
        | _, _ => some (i :: r, fr, gf, tk, es, gs)
      | some (j, w) => match gSlot all j with
        | some d => match pst TT fr gf mu (acts 6 gf d w) o.op, o.dst with
          | some (x, q), some t => match mlk t fr with
            | none => match splitO fr gf (acts 6 gf d w) q es gs, gdrop t gf with
              | some (es', gs'), some gf' => bif (Nat.blt t N && !(Nat.beq t d)) then drun TT N all mu r fr ((t, d, w, x) :: gf') (i :: tk) es' gs' else none
              | _, _ => none
            | some _ => none
          | _, _ => some (i :: r, fr, gf, tk, es, gs)
        | none => none
def iota : Nat → Nat → List Nat
  | _, 0 => []
  | i, n + 1 => i :: iota (i + 1) n
def tookB (ops : Array Oper) : List Nat → List Nat → List Nat → Bool
  | [], _, _ => true
  | i :: is, is', tk => bif Nat.beq is.length.succ is'.length then true else (takeB ops tk i && tookB ops is is' (i :: tk))
theorem drun_took (hT : TOk E.P TT) (hR : PQ R) : ∀ (is : List Nat) (fr : Fr) (gf : GF) (tk : List Nat) (es : List Prop) (gs : List GO) {is' : List Nat} {fr' : Fr} {gf' : GF} {tk' : List Nat} {es' : List Prop} {gs' : List GO}, drun TT E.N all (muR G.ks mu) is fr gf tk es gs = some (is', fr', gf', tk', es', gs') → is'.length ≤ is.length ∧ (tookB all.toArray is is' tk = true → PAlls es' ∧ GAlls gs' →
    (PAlls es ∧ GAlls gs) ∧ (DJ G E all (KQ E.P R K) is'.length tk' fr' gf' mu → DJ G E all (KQ E.P R K) is.length tk fr gf mu))
  | [], fr, gf, tk, es, gs, is', fr', gf', tk', es', gs', h => by
    simp only [drun, Option.some.injEq, Prod.mk.injEq] at h
    obtain ⟨rfl, rfl, rfl, rfl, rfl, rfl⟩ := h
    exact ⟨Nat.le_refl _, fun _ ho => ⟨ho, id⟩⟩
  | i :: is, fr, gf, tk, es, gs, is', fr', gf', tk', es', gs', h => by
    have stop : some (i :: is, fr, gf, tk, es, gs) = some (is', fr', gf', tk', es', gs') → is'.length ≤ (i :: is).length ∧ (tookB all.toArray (i :: is) is' tk = true → PAlls es' ∧ GAlls gs' → (PAlls es ∧ GAlls gs) ∧ (DJ G E all (KQ E.P R K) is'.length tk' fr' gf' mu → DJ G E all (KQ E.P R K) (i :: is).length tk fr gf mu)) := fun h => by
      simp only [Option.some.injEq, Prod.mk.injEq] at h
      obtain ⟨rfl, rfl, rfl, rfl, rfl, rfl⟩ := h
      exact ⟨Nat.le_refl _, fun _ ho => ⟨ho, id⟩⟩
    have go : ∀ {fr2 gf2 es2 gs2}, drun TT E.N all (muR G.ks mu) is fr2 gf2 (i :: tk) es2 gs2 = some (is', fr', gf', tk', es', gs') → (takeB all.toArray tk i = true → PAlls es2 ∧ GAlls gs2 → (PAlls es ∧ GAlls gs) ∧ (DJ G E all (KQ E.P R K) is.length (i :: tk) fr2 gf2 mu → DJ G E all (KQ E.P R K) (is.length + 1) tk fr gf mu)) →
        is'.length ≤ (i :: is).length ∧ (tookB all.toArray (i :: is) is' tk = true → PAlls es' ∧ GAlls gs' → (PAlls es ∧ GAlls gs) ∧ (DJ G E all (KQ E.P R K) is'.length tk' fr' gf' mu → DJ G E all (KQ E.P R K) (i :: is).length tk fr gf mu)) := fun h2 hk => by
      obtain ⟨h3, h4⟩ := drun_took hT hR is _ _ _ _ _ h2
      refine ⟨Nat.le_trans h3 (by simp), fun hb ho => ?_⟩
      simp only [tookB] at hb
      have : Nat.beq is.length.succ is'.length = false := by
        cases e : Nat.beq is.length.succ is'.length with
        | false => rfl
        | true => have := Nat.eq_of_beq_eq_true e; omega
      rw [this] at hb
      simp only [cond_false, Bool.and_eq_true] at hb
      obtain ⟨h5, h6⟩ := h4 hb.2 ho
      obtain ⟨h7, h8⟩ := hk hb.1 h5
      exact ⟨h7, fun k => h8 (h6 k)⟩
    simp only [drun] at h
    split at h
    · cases h
    · rename_i o hi
      split at h
      · rename_i hg
        split at h
        · rename_i x q t hp hd
          split at h
          · rename_i es2 gs2 gf2 hs hgd
            cases hbt : Nat.blt t E.N with
            | false => rw [hbt] at h; cases h
            | true =>
              rw [hbt] at h
              simp only [cond_true] at h
              exact go h fun hb h1 => ⟨splitO_mono hs h1, fun k => DJ_take hT hR i hi hb hg hd hbt hp hs h1.1 h1.2 hgd k⟩
          · cases h
        · exact stop h
      · rename_i j w hg
        split at h
        · rename_i d hsl
          split at h
          · rename_i x q t hp hd
            split at h
            · rename_i hn
              split at h
              · rename_i es2 gs2 gf2 hs hgd
                cases hbt : (Nat.blt t E.N && !(Nat.beq t d)) with
                | false => rw [hbt] at h; cases h
                | true =>
                  rw [hbt] at h
                  simp only [cond_true] at h
                  exact go h fun hb h1 => ⟨splitO_mono hs h1, fun k => DJ_takeG hT hR i hi hb hg hsl hd hbt hn hp hs h1.1 h1.2 hgd k⟩
              · cases h
            · cases h
          · exact stop h
        · cases h
theorem iota_length : ∀ i n, (iota i n).length = n
  | _, 0 => rfl
  | i, n + 1 => by rw [iota, List.length_cons, iota_length]
theorem oneB_spec {tk : List Nat} {i : Nat} (h : oneB all.toArray tk i = true) : Region.ready .any all.toArray (mk all.toArray.size tk) = [i] := by
  unfold oneB at h
  split at h
  · rename_i j e; rw [e, Nat.eq_of_beq_eq_true h]
  · cases h
theorem One.mono {P : Program} {ops : Array Oper} {Q : Exit → Act → World → Prop} {o : Oper} {J J' : Act → World → Prop} {a : Act} {w : World} (hJ : ∀ a w, J a w → J' a w) (h : One P ops Q o J a w) : One P ops Q o J' a w := by
  unfold One at *
  split
  · rename_i hw
    rw [if_pos hw] at h
    exact h.imp (fun h => Oper.wp_mono hJ h) id
  · rename_i hw
    rw [if_neg hw] at h
    exact hJ _ _ h
theorem DJ_one (i : Nat) {n : Nat} {tk : List Nat} {o : Oper} {Q : Exit → Act → World → Prop} (hi : nth all i = some o) (hB : oneB all.toArray tk i = true) (h : OJ G E all Q (fun a' w' => Sr G E.r w' ∧ Lw E.P all.toArray Q (Sr G E.r) n (mk all.toArray.size (i :: tk)) a' w') o fr gf mu) : DJ G E all Q (n + 1) tk fr gf mu := fun B a w H f m gg w2 hb => by
  have hr := oneB_spec hB
  have hi' : all.toArray[i]? = some o := by rw [nth_eq] at hi; simpa using hi
  refine ⟨fun h0 => (by rw [hr] at h0; cases h0), fun j hj => ?_⟩
  rw [hr] at hj
  obtain rfl := List.mem_singleton.1 hj
  have h1 := One.mono (fun a' w' (h : Sr G E.r w' ∧ Lw E.P all.toArray Q (Sr G E.r) n (mk all.toArray.size (j :: tk)) a' w') => (⟨_, .inl rfl, h.1, h.2⟩ : ∃ S', (S' = Sr G E.r ∨ cmpB all.toArray j = true) ∧ S' w' ∧ Lw E.P all.toArray Q S' n (mk all.toArray.size (j :: tk)) a' w')) (h B a w2 H f (m.below hb) gg)
  unfold One at h1
  unfold wpOp
  rw [hi', mk_set]
  exact h1
theorem DJ_two (i j : Nat) {n : Nat} {tk : List Nat} {o p : Oper} {Q : Exit → Act → World → Prop} (hi : nth all i = some o) (hj : nth all j = some p) (hB : Region.ready .any all.toArray (mk all.toArray.size tk) = [i, j])
    (h : OJ G E all Q (fun a' w' => Sr G E.r w' ∧ Lw E.P all.toArray Q (Sr G E.r) n (mk all.toArray.size (i :: tk)) a' w') o fr gf mu)
    (h2 : OJ G E all Q (fun a' w' => Sr G E.r w' ∧ Lw E.P all.toArray Q (Sr G E.r) n (mk all.toArray.size (j :: tk)) a' w') p fr gf mu) : DJ G E all Q (n + 1) tk fr gf mu := fun B a w H f m gg w2 hb => by
  have hi' : all.toArray[i]? = some o := by rw [nth_eq] at hi; simpa using hi
  have hj' : all.toArray[j]? = some p := by rw [nth_eq] at hj; simpa using hj
  refine ⟨fun h0 => (by rw [hB] at h0; cases h0), fun k hk => ?_⟩
  rw [hB] at hk
  rcases List.mem_cons.1 hk with rfl | hk
  · have h1 := One.mono (fun a' w' (h : Sr G E.r w' ∧ Lw E.P all.toArray Q (Sr G E.r) n (mk all.toArray.size (k :: tk)) a' w') => (⟨_, .inl rfl, h.1, h.2⟩ : ∃ S', (S' = Sr G E.r ∨ cmpB all.toArray k = true) ∧ S' w' ∧ Lw E.P all.toArray Q S' n (mk all.toArray.size (k :: tk)) a' w')) (h B a w2 H f (m.below hb) gg)
    unfold One at h1
    unfold wpOp
    rw [hi', mk_set]
    exact h1
  · obtain rfl := List.mem_singleton.1 hk
    have h1 := One.mono (fun a' w' (h : Sr G E.r w' ∧ Lw E.P all.toArray Q (Sr G E.r) n (mk all.toArray.size (k :: tk)) a' w') => (⟨_, .inl rfl, h.1, h.2⟩ : ∃ S', (S' = Sr G E.r ∨ cmpB all.toArray k = true) ∧ S' w' ∧ Lw E.P all.toArray Q S' n (mk all.toArray.size (k :: tk)) a' w')) (h2 B a w2 H f (m.below hb) gg)
    unfold One at h1
    unfold wpOp
    rw [hj', mk_set]
    exact h1
theorem SJ_dj {n : Nat} {tk : List Nat} {Q : Exit → Act → World → Prop} (h : DJ G E all Q n tk fr gf mu) : SJ G (fun a' w' => Sr G E.r w' ∧ Lw E.P all.toArray Q (Sr G E.r) n (mk all.toArray.size tk) a' w') E fr gf mu := fun B a w H f m gg => ⟨m.sr gg, h B a w H f m gg⟩
theorem DJ_end {n : Nat} {tk : List Nat} (hr : (Region.ready .any all.toArray (mk all.toArray.size tk)).isEmpty = true) (h : X E R (nxN K) fr mu) : DJ G E all (KQ E.P R K) n tk fr gf mu := fun B a w H f m gg => by
  have hr' : Region.ready .any all.toArray (mk all.toArray.size tk) = [] := by simpa using hr
  have hq := fun w' hb => nxN_ok (h B a w' H (Fits.ungf f) (m.below hb))
  cases n with
  | zero => exact fun w' hb => ⟨hr', hq w' hb⟩
  | succ n => exact fun w' hb => ⟨fun _ => hq w' hb, fun i hi => by rw [hr'] at hi; cases hi⟩
theorem T_drawA (hT : TOk E.P TT) (ex : List Nat) {id : Nat} {l : List Oper} {ks is' tk' : List Nat} {es : List Prop} {gs : List GO} (hks : keysX ex mu = ks) (ha : drun TT E.N l (muR ks mu) (iota 0 l.length) fr [] [] [] [] = some (is', fr', gf', tk', es, gs))
    (k : ∀ B0 H0, DJ ⟨ks, B0, H0⟩ E l (KQ E.P R K) is'.length tk' fr' gf' mu) (hR : PQ R := by exact pq_body _ _) (hm : E.P.follows .mixedOrders = true := by kernel_rfl) (hb : tookB l.toArray (iota 0 l.length) is' [] = true := by kernel_rfl)
    (he : PAlls es := by repeat (first | exact trivial | refine And.intro rfl ?_)) (ho : GAlls gs := by first | exact trivial | ((simp only [GAlls, GO.p, InR]; (repeat' (first | exact trivial | refine And.intro ?_ ?_ | refine fun _ => ?_)) <;> first | omega | (simp only [decide_eq_true_eq, decide_eq_false_iff_not, Int.toNat_natCast] at *; omega) | (simp at *; omega)))) : T E R (.region id l.toArray true) fr mu K :=
  T_draw ex l.length hm (by simp) hks fun B0 H0 => by
    have := (drun_took (G := ⟨ks, B0, H0⟩) (K := K) hT hR _ _ _ _ _ _ ha).2 hb ⟨he, ho⟩
    rw [iota_length] at this
    exact this.2 (k B0 H0)
theorem DJ_Q (hT : TOk E.P TT) {n : Nat} {tk is' tk' : List Nat} {f : Nat} {ks : List Nat} {args : List SV} {mu1 : Mu} {res : SV} (C : Ans E.P f ks args mu1 res) {svs args' : List SV} {g : Option (Nat × Nat × Bool)} {t : Nat} {q : Ob} {es0 es : List Prop} {gs0 gs : List GO} (hi : nth all tk.length = some o)
    (hc : callC E.N all fr gf o = some (f, svs, g, t, gf')) (hw : wkSL (muR G.ks mu) [] ks svs = some (args', q)) (hae : args' = args) (hs : splitO fr gf (match g with | none => [] | some (_, d, b) => acts 6 gf d b) q [] [] = some (es0, gs0)) {gf3 : GF}
    (ha : drun TT E.N all (muR G.ks mu) (iota (tk.length + 1) n) (frQ fr g t res) (gfQ gf' g t res) (tk.length :: tk) es0 gs0 = some (is', fr', gf3, tk', es, gs)) (k : DJ G E all (KQ E.P R K) is'.length tk' fr' gf3 mu)
    {x : Value} (hx : exV res = some x := by exact rfl) (hR : PQ R := by exact pq_body _ _) (hb : (takeB all.toArray tk tk.length && tookB all.toArray (iota (tk.length + 1) n) is' (tk.length :: tk)) = true := by kernel_rfl)
    (hko : keysO mu1 = [] := by exact rfl) (hres : res.inK ks = true := by exact rfl) (hin : WkIn (muR G.ks mu) mu1 := by repeat (first | exact trivial | refine And.intro ⟨_, rfl, ro_arr⟩ ?_ | refine And.intro ⟨_, rfl, ro_ro⟩ ?_ | refine And.intro ⟨_, rfl, ro_row⟩ ?_ | refine And.intro ⟨_, rfl, Ch.imp_refl _⟩ ?_)) (hen : Enters E.P f := by exact enters_B (by kernel_rfl)) (he : PAlls es := by repeat (first | exact trivial | refine And.intro rfl ?_)) (ho : GAlls gs := by first | exact trivial | ((simp only [GAlls, GO.p, InR]; (repeat' (first | exact trivial | refine And.intro ?_ ?_ | refine fun _ => ?_)) <;> first | omega | (simp only [decide_eq_true_eq, decide_eq_false_iff_not, Int.toNat_natCast] at *; omega) | (simp at *; omega)))) : DJ G E all (KQ E.P R K) (n + 1) tk fr gf mu := by
  simp only [Bool.and_eq_true] at hb
  subst hae
  obtain ⟨h3, h2⟩ := (drun_took (G := G) (K := K) hT hR _ _ _ _ _ _ ha).2 hb.2 ⟨he, ho⟩
  have h2 := h2 k
  rw [iota_length] at h2
  exact DJ_q hR _ C hx hi hb.1 hc rfl hen hko hres hw (SVs.imp_refl _) hs h3.1 h3.2 hin h2
theorem DJ_on (hT : TOk E.P TT) {n : Nat} {tk is' tk' : List Nat} {es : List Prop} {gs : List GO} (ha : drun TT E.N all (muR G.ks mu) (iota tk.length n) fr gf tk [] [] = some (is', fr', gf', tk', es, gs)) (k : DJ G E all (KQ E.P R K) is'.length tk' fr' gf' mu) (hR : PQ R := by exact pq_body _ _) (hb : tookB all.toArray (iota tk.length n) is' tk = true := by kernel_rfl)
    (he : PAlls es := by repeat (first | exact trivial | refine And.intro rfl ?_)) (ho : GAlls gs := by first | exact trivial | ((simp only [GAlls, GO.p, InR]; (repeat' (first | exact trivial | refine And.intro ?_ ?_ | refine fun _ => ?_)) <;> first | omega | (simp only [decide_eq_true_eq, decide_eq_false_iff_not, Int.toNat_natCast] at *; omega) | (simp at *; omega)))) : DJ G E all (KQ E.P R K) n tk fr gf mu := by
  have h2 := ((drun_took (G := G) (K := K) hT hR _ _ _ _ _ _ ha).2 hb ⟨he, ho⟩).2 k
  rw [iota_length] at h2
  exact h2
theorem DJ_endA (hT : TOk E.P TT) {n : Nat} {tk : List Nat} {js : JS} {es : List Prop} {gs : List GO} (ha : goNx (auto TT E.N E.A.ks 400) (nxN K) fr mu [] [] = some (js, es, gs)) (k : js.ok E R) (hr : (Region.ready .any all.toArray (mk all.toArray.size tk)).isEmpty = true := by kernel_rfl)
    (he : PAlls es := by repeat (first | exact trivial | refine And.intro rfl ?_)) (ho : GAlls gs := by first | exact trivial | ((simp only [GAlls, GO.p, InR]; (repeat' (first | exact trivial | refine And.intro ?_ ?_ | refine fun _ => ?_)) <;> first | omega | (simp only [decide_eq_true_eq, decide_eq_false_iff_not, Int.toNat_natCast] at *; omega) | (simp at *; omega)))) : DJ G E all (KQ E.P R K) n tk fr gf mu := DJ_end hr ((goNx_ok (auto_ok hT 400) ha ⟨he, ho⟩).2 k)
end
end
end Go.Proofs.YthpjoddhlkcciaaGreat
namespace Go.Proofs.YthpjoddhlkcciaaGreat
open Go Go.RowKit
set_option linter.unusedVariables false
set_option linter.unusedSimpArgs false
set_option maxRecDepth 100000
def TT : List TI := [
  ⟨2, 1, 8, .it .i64, .int .i64 0, false⟩,
  ⟨3, 1, 8, .it .i64, .int .i64 0, false⟩,
  ⟨4, 1, 1, .bo, .bool false, false⟩,
  ⟨5, 1, 1, .it .u8, .int .u8 0, false⟩,
  ⟨22, 1, 24, .slc 116, .slice none 0 0, false⟩,
  ⟨23, 1, 24, .slc 121, .slice none 0 0, false⟩,
  ⟨24, 1, 24, .slc 126, .slice none 0 0, false⟩,
  ⟨26, 6, 96, .st [(0, 2), (1, 2), (2, 22), (3, 23), (4, 24), (5, 4)], .agg #[.int .i64 0, .int .i64 0, .slice none 0 0, .slice none 0 0, .slice none 0 0, .bool false], false⟩,
  ⟨29, 1, 24, .slc 95, .slice none 0 0, false⟩,
  ⟨30, 1, 24, .slc 85, .slice none 0 0, false⟩,
  ⟨31, 1, 24, .slc 57, .slice none 0 0, false⟩,
  ⟨33, 6, 96, .st [(0, 2), (1, 2), (2, 29), (3, 30), (4, 31), (5, 4)], .agg #[.int .i64 0, .int .i64 0, .slice none 0 0, .slice none 0 0, .slice none 0 0, .bool false], false⟩,
  ⟨37, 1, 24, .slc 2, .slice none 0 0, false⟩,
  ⟨42, 1, 24, .slc 88, .slice none 0 0, false⟩,
  ⟨48, 1, 24, .slc 5, .slice none 0 0, false⟩,
  ⟨54, 1, 24, .slc 104, .slice none 0 0, false⟩,
  ⟨55, 1, 24, .slc 112, .slice none 0 0, false⟩,
  ⟨57, 7, 88, .st [(0, 2), (1, 2), (2, 2), (3, 2), (4, 54), (5, 55), (6, 2)], .agg #[.int .i64 0, .int .i64 0, .int .i64 0, .int .i64 0, .slice none 0 0, .slice none 0 0, .int .i64 0], false⟩,
  ⟨63, 1, 24, .slc 42, .slice none 0 0, false⟩,
  ⟨81, 2, 32, .st [(0, 2), (1, 42)], .agg #[.int .i64 0, .slice none 0 0], false⟩,
  ⟨82, 1, 24, .slc 81, .slice none 0 0, false⟩,
  ⟨83, 1, 24, .slc 165, .slice none 0 0, false⟩,
  ⟨85, 4, 80, .st [(0, 4), (1, 82), (2, 83), (3, 37)], .agg #[.bool false, .slice none 0 0, .slice none 0 0, .slice none 0 0], false⟩,
  ⟨88, 2, 16, .st [(0, 2), (1, 2)], .agg #[.int .i64 0, .int .i64 0], true⟩,
  ⟨95, 1, 24, .st [(0, 37)], .agg #[.slice none 0 0], false⟩,
  ⟨104, 5, 40, .st [(0, 2), (1, 2), (2, 2), (3, 2), (4, 4)], .agg #[.int .i64 0, .int .i64 0, .int .i64 0, .int .i64 0, .bool false], true⟩,
  ⟨112, 5, 40, .st [(0, 2), (1, 2), (2, 2), (3, 4), (4, 2)], .agg #[.int .i64 0, .int .i64 0, .int .i64 0, .bool false, .int .i64 0], true⟩,
  ⟨116, 1, 24, .st [(0, 37)], .agg #[.slice none 0 0], false⟩,
  ⟨118, 1, 24, .slc 206, .slice none 0 0, false⟩,
  ⟨119, 1, 24, .slc 209, .slice none 0 0, false⟩,
  ⟨121, 4, 80, .st [(0, 4), (1, 118), (2, 119), (3, 37)], .agg #[.bool false, .slice none 0 0, .slice none 0 0, .slice none 0 0], false⟩,
  ⟨123, 1, 24, .slc 213, .slice none 0 0, false⟩,
  ⟨124, 1, 24, .slc 215, .slice none 0 0, false⟩,
  ⟨126, 7, 88, .st [(0, 2), (1, 2), (2, 2), (3, 2), (4, 123), (5, 124), (6, 2)], .agg #[.int .i64 0, .int .i64 0, .int .i64 0, .int .i64 0, .slice none 0 0, .slice none 0 0, .int .i64 0], false⟩,
  ⟨154, 3, 40, .st [(0, 48), (1, 3), (2, 2)], .agg #[.slice none 0 0, .int .i64 0, .int .i64 0], false⟩,
  ⟨165, 4, 48, .st [(0, 2), (1, 2), (2, 2), (3, 55)], .agg #[.int .i64 0, .int .i64 0, .int .i64 0, .slice none 0 0], false⟩,
  ⟨190, 1, 24, .slc 232, .slice none 0 0, false⟩,
  ⟨201, 1, 8, .it .u64, .int .u64 0, false⟩,
  ⟨204, 1, 24, .slc 251, .slice none 0 0, false⟩,
  ⟨206, 2, 32, .st [(0, 2), (1, 204)], .agg #[.int .i64 0, .slice none 0 0], false⟩,
  ⟨209, 4, 48, .st [(0, 2), (1, 2), (2, 2), (3, 124)], .agg #[.int .i64 0, .int .i64 0, .int .i64 0, .slice none 0 0], false⟩,
  ⟨213, 5, 40, .st [(0, 2), (1, 2), (2, 2), (3, 2), (4, 4)], .agg #[.int .i64 0, .int .i64 0, .int .i64 0, .int .i64 0, .bool false], true⟩,
  ⟨215, 5, 40, .st [(0, 2), (1, 2), (2, 2), (3, 4), (4, 2)], .agg #[.int .i64 0, .int .i64 0, .int .i64 0, .bool false, .int .i64 0], true⟩,
  ⟨232, 5, 40, .st [(0, 2), (1, 2), (2, 2), (3, 2), (4, 2)], .agg #[.int .i64 0, .int .i64 0, .int .i64 0, .int .i64 0, .int .i64 0], true⟩,
  ⟨240, 1, 24, .slc 3, .slice none 0 0, false⟩,
  ⟨251, 2, 16, .st [(0, 2), (1, 2)], .agg #[.int .i64 0, .int .i64 0], true⟩,
  ⟨261, 1, 24, .slc 4, .slice none 0 0, false⟩]
theorem tiOk {ti : TI} (h1 : (Tryz.prog.underlying ti.id).map shapeK = some ti.kind) (h2 : (Tryz.prog.info? ti.id).map (fun i => (i.size, i.bytes)) = some (ti.sz, ti.by_)) (h3 : (Tryz.prog.info? ti.id).bind (·.zero) = some ti.zero) (h4 : (!ti.eqf || eqPlain Tryz.prog ti.id) = true) : ti.ok Tryz.prog := ⟨h1, h2, h3, fun e => by rw [e] at h4; exact h4⟩
theorem TT_ok : TOk Tryz.prog TT := by
  unfold TT
  repeat' first
    | exact trivial
    | refine ⟨tiOk (by kernel_rfl) (by kernel_rfl) (by kernel_rfl) (by kernel_rfl), ?_⟩
end Go.Proofs.YthpjoddhlkcciaaGreat
namespace Go.Proofs.YthpjoddhlkcciaaGreat
open Go Go.RowKit
set_option linter.unusedVariables false
set_option linter.unusedSimpArgs false
section
abbrev vI (n : Int) : SV := .a (.v (.int .i64 n))
abbrev vB (b : Bool) : SV := .a (.v (.bool b))
abbrev vR (l : List D) : SV := .ag (l.map (D.toV .r))
abbrev vL {α : Type} (sz : Nat) (enc : α → List D) (z : α) (xs : List α) : SV := .a (.s .r sz xs.length fun i => enc (xs.getD i z))
abbrev dL {α : Type} (sz : Nat) (enc : α → List D) (z : α) (xs : List α) : D := .sl sz xs.length fun i => enc (xs.getD i z)
abbrev vP (l : List D) : SV := .a (.rp .r l 0)
section
variable {E : Env} {mu : Mu} {TT : List TI} {fr : Fr} {K : List KF}
theorem T_ans {fn : Func} {res : SV} (hT : TOk E.P TT) (ts : List (Nat × Option Nat)) (hr : fn.results = (ts.map rvOf).toArray) {x : SV} (hl : allGetC TT fr mu ts = some [x]) (hx : x = res) :
    T E (bodyPost E.P fn (RetP E (fun _ : Unit => True) (fun _ => [res]) fun _ => [])) .ret fr mu K :=
  T_ret hT () ts hr hl ⟨_, _, rfl, SV.imp_of hx, rfl⟩ trivial trivial
theorem T_ansB {fn : Func} {b b' : Bool} (hT : TOk E.P TT) (ts : List (Nat × Option Nat)) (hr : fn.results = (ts.map rvOf).toArray) (hl : allGetC TT fr mu ts = some [vB b]) (hx : b = b') :
    T E (bodyPost E.P fn (RetP E (fun _ : Unit => True) (fun _ => [vB b']) fun _ => [])) .ret fr mu K := T_ans hT ts hr hl (by rw [hx])
theorem T_ansI {fn : Func} {b b' : Int} (hT : TOk E.P TT) (ts : List (Nat × Option Nat)) (hr : fn.results = (ts.map rvOf).toArray) (hl : allGetC TT fr mu ts = some [vI b]) (hx : b = b') :
    T E (bodyPost E.P fn (RetP E (fun _ : Unit => True) (fun _ => [vI b']) fun _ => [])) .ret fr mu K := T_ans hT ts hr hl (by rw [hx])
end
end
section
abbrev arrC {α : Type} (sz : Nat) (enc : α → List D) (z : α) (xs : List α) : Ch := .arr sz xs.length fun i => enc (xs.getD i z)
abbrev MkL {α : Type} (P : Program) (f : Nat) (args : List SV) (sz : Nat) (enc : α → List D) (z : α) (xs : List α) : Prop := Con P f [] args [] (fun _ : Unit => True) (fun _ => [.a (.g 900)]) fun _ => [(900, arrC sz enc z xs)]
theorem Ch.imp_len {sz n m : Nat} {f g : Nat → List D} (h : n = m) (e : ∀ i, i < n → f i = g i) : (Ch.arr sz n f).imp (.arr sz m g) := by subst h; exact Ch.imp_arr e
theorem imp_list {α : Type} {sz : Nat} {enc : α → List D} {z : α} {xs ys : List α} (h : xs = ys) : (arrC sz enc z xs).imp (arrC sz enc z ys) := by subst h; exact Ch.imp_refl _
theorem imp_app1 {α : Type} {sz : Nat} {enc : α → List D} {z x : α} {ys rs : List α} {g : Nat → List D} (h : rs = ys ++ [x]) (hg : g 0 = enc x) : (Ch.arr sz (ys.length + 1) (appD ys.length (fun i => enc (ys.getD i z)) g)).imp (arrC sz enc z rs) := by
  subst h
  refine Ch.imp_len (by simp) fun i hi => ?_
  by_cases c : i < ys.length
  · rw [appD_lt c]; congr 1; simp [List.getElem?_append_left c]
  · have : i = ys.length := by omega
    subst this
    rw [appD_ge (by omega), Nat.sub_self, hg]; congr 1; simp
theorem take_succ_getD {α : Type} {z : α} {xs : List α} {i : Nat} (h : i < xs.length) : xs.take (i + 1) = xs.take i ++ [xs.getD i z] := by
  rw [List.take_add_one]; simp [h]
abbrev fbO {α : Type} (rd : α → List RD) (q : α → Value) : SV := .fb fun args v => ∃ x, args = rd x ∧ v = q x
def idxI {α : Type} (p : α → Bool) : List α → Int
  | [] => -1
  | x :: r => if p x then 0 else if idxI p r = -1 then -1 else idxI p r + 1
theorem idxI_no {α : Type} {p : α → Bool} {z : α} : ∀ {xs : List α}, (∀ j, j < xs.length → p (xs.getD j z) = false) → idxI p xs = -1
  | [], _ => rfl
  | x :: r, h => by
    have h0 : p x = false := by simpa using h 0 (by simp)
    have := idxI_no (p := p) (z := z) (xs := r) fun j hj => by simpa using h (j + 1) (by simpa using hj)
    simp [idxI, h0, this]
theorem idxI_at {α : Type} {p : α → Bool} {z : α} : ∀ {xs : List α} {i : Nat}, i < xs.length → (∀ j, j < i → p (xs.getD j z) = false) → p (xs.getD i z) = true → idxI p xs = i
  | x :: r, 0, _, _, h => by simp at h; simp [idxI, h]
  | x :: r, i + 1, hi, h0, h => by
    have hx : p x = false := by simpa using h0 0 (by omega)
    have := idxI_at (p := p) (z := z) (xs := r) (i := i) (by simpa using hi) (fun j hj => by simpa using h0 (j + 1) (by omega)) (by simpa using h)
    simp only [idxI, hx, this]
    simp
theorem idxI_cases {α : Type} (p : α → Bool) (z : α) (xs : List α) : (idxI p xs = -1 ∧ ∀ j, j < xs.length → p (xs.getD j z) = false) ∨ ∃ i : Nat, i < xs.length ∧ idxI p xs = i ∧ (∀ j, j < i → p (xs.getD j z) = false) ∧ p (xs.getD i z) = true := by
  by_cases h : ∃ i, i < xs.length ∧ p (xs.getD i z) = true
  · right
    have hw : ∃ i, (i < xs.length ∧ p (xs.getD i z) = true) ∧ ∀ j, j < i → ¬ (j < xs.length ∧ p (xs.getD j z) = true) := by
      obtain ⟨n, hn⟩ := h
      have : ∀ n, (n < xs.length ∧ p (xs.getD n z) = true) → ∃ i, (i < xs.length ∧ p (xs.getD i z) = true) ∧ ∀ j, j < i → ¬ (j < xs.length ∧ p (xs.getD j z) = true) := fun n => by
        induction n using Nat.strongRecOn with
        | ind n ih =>
          intro hn
          by_cases h : ∃ j, j < n ∧ (j < xs.length ∧ p (xs.getD j z) = true)
          · obtain ⟨j, h1, h2⟩ := h; exact ih j h1 h2
          · exact ⟨n, hn, fun j hj hc => h ⟨j, hj, hc⟩⟩
      exact this n hn
    obtain ⟨i, ⟨h1, h2⟩, h3⟩ := hw
    have h4 : ∀ j, j < i → p (xs.getD j z) = false := fun j hj => by
      cases c : p (xs.getD j z) with
      | false => rfl
      | true => exact absurd ⟨by omega, c⟩ (h3 j hj)
    exact ⟨i, h1, idxI_at h1 h4 h2, h4, h2⟩
  · left
    have h4 : ∀ j, j < xs.length → p (xs.getD j z) = false := fun j hj => by
      cases c : p (xs.getD j z) with
      | false => rfl
      | true => exact absurd ⟨j, hj, c⟩ h
    exact ⟨idxI_no h4, h4⟩
theorem getD_take {α : Type} {z : α} {xs : List α} {i k : Nat} (h : k < (xs.take i).length) : (xs.take i).getD k z = xs.getD k z := by
  rw [List.length_take] at h
  simp only [List.getD_eq_getElem?_getD]
  rw [List.getElem?_take_of_lt (by omega)]
def szI (l : Int) (n : Nat) : Int := if l - n < 0 then -1 else l - n
theorem szI_neg {l : Int} {n : Nat} : szI l n < 0 ↔ l < n := by
  unfold szI; split <;> omega
theorem fill_step {α : Type} {z : α} {xs : List α} {i k : Nat} (enc : α → List D) {l : List D} (h : l = enc (xs.getD i z)) : (bif Nat.beq k ((i : Int).toNat) then l else enc (if k < i then xs.getD k z else z)) = enc (if k < i + 1 then xs.getD k z else z) := by
  by_cases c : k = i
  · subst c
    rw [Int.toNat_natCast, Nat.beq_refl, h, if_pos (Nat.lt_succ_self _)]; rfl
  · have e : Nat.beq k ((i : Int).toNat) = false := by
      rw [Int.toNat_natCast]
      cases e : Nat.beq k i with
      | false => rfl
      | true => exact absurd (Nat.eq_of_beq_eq_true e) c
    rw [e]
    by_cases c2 : k < i
    · rw [if_pos c2, if_pos (by omega)]; rfl
    · rw [if_neg c2, if_neg (by omega)]; rfl
theorem vI_eq {a b : Int} (h : a = b) : vI a = vI b := by rw [h]
theorem fill_step2 {α : Type} {i k : Nat} (enc : α → List D) (g : Nat → α) {o : Nat → α} {l : List D} (h : l = enc (g i)) : (bif Nat.beq k ((i : Int).toNat) then l else enc (if k < i then g k else o k)) = enc (if k < i + 1 then g k else o k) := by
  by_cases c : k = i
  · subst c
    rw [Int.toNat_natCast, Nat.beq_refl, h, if_pos (Nat.lt_succ_self _)]; rfl
  · have e : Nat.beq k ((i : Int).toNat) = false := by
      rw [Int.toNat_natCast]
      cases e : Nat.beq k i with
      | false => rfl
      | true => exact absurd (Nat.eq_of_beq_eq_true e) c
    rw [e]
    by_cases c2 : k < i
    · rw [if_pos c2, if_pos (by omega)]; rfl
    · rw [if_neg c2, if_neg (by omega)]; rfl
section
variable {E : Env} {mu mu' : Mu} {TT : List TI} {fr fr' : Fr} {gf gf' : GF} {all rest : List Oper} {Q : Exit → Act → World → Prop} {o : Oper} {G : AG}
theorem DJ_C {ι : Type} (i : Nat) {n : Nat} {tk : List Nat} {f : Nat} {ks nk : List Nat} {args : List SV} {mu1 : Mu} {φ : ι → Prop} {res : ι → List SV} {mu1' : ι → Mu} (C : Con E.P f ks args mu1 φ res mu1') {svs args' : List SV} {g : Option (Nat × Nat × Bool)} {t : Nat} {q : Ob} {es : List Prop} {gs : List GO} {md : Mu}
    (hi : nth all i = some o) (hc : callC E.N all fr gf o = some (f, svs, g, t, gf')) (hw : wkSL mu (keysO mu1) ks svs = some (args', q)) (ha : SVs.imp E.P args' args) (hnk : ∀ y, keysOf (mu1' y) = nk) (hs : splitO fr gf [] q [] [] = some (es, gs)) (hmd : mdropKs (appK (keysO mu1) nk) mu = some md) {fr' : Fr} {gf2 : GF} (hcut : cutKs (keysO mu1) fr gf' = some (fr', gf2))
    (k : ∀ y, φ y → DJ G E all Q n (i :: tk) ((t, resS (res y)) :: fr') gf2 (appM (mu1' y) md)) (hB : oneB all.toArray tk i = true := by kernel_rfl)
    (hin : WkIn mu mu1 := by repeat (first | exact trivial | refine And.intro ⟨_, rfl, ro_arr⟩ ?_ | refine And.intro ⟨_, rfl, ro_ro⟩ ?_ | refine And.intro ⟨_, rfl, ro_row⟩ ?_ | refine And.intro ⟨_, rfl, Ch.imp_refl _⟩ ?_)) (hg : litG fr gf g := by first | exact trivial | exact ⟨rfl, rfl⟩) (hkeys : keysB ks nk mu1 fr gf mu E.A.ks G.ks = true := by exact rfl) (hout : ∀ y, (SV.inKL (appK ks nk) (res y) && muIn (appK ks nk) (mu1' y)) = true := by exact fun _ => rfl) (hen : Enters E.P f := by exact enters_B (by kernel_rfl)) (he : PAlls es := by repeat (first | exact trivial | refine And.intro rfl ?_)) (ho : GAlls gs := by first | exact trivial | ((simp only [GAlls, GO.p, InR]; (repeat' (first | exact trivial | refine And.intro ?_ ?_ | refine fun _ => ?_)) <;> first | omega | (simp only [decide_eq_true_eq, decide_eq_false_iff_not, Int.toNat_natCast] at *; omega) | (simp at *; omega)))) :
    DJ G E all Q (n + 1) tk fr gf mu :=
  DJ_one i hi hB (OJ_C C hc hg hen hw ha hs he ho hin hnk hkeys hout hmd hcut fun y hy => SJ_dj (k y hy))
theorem DJ_Q1 (i : Nat) {n : Nat} {tk : List Nat} {f : Nat} {ks : List Nat} {args : List SV} {mu1 : Mu} {res : SV} (C : Ans E.P f ks args mu1 res) {svs args' : List SV} {g : Option (Nat × Nat × Bool)} {t : Nat} {q : Ob} {es : List Prop} {gs : List GO}
    (hi : nth all i = some o) (hc : callC E.N all fr gf o = some (f, svs, g, t, gf')) (hw : wkSL mu [] ks svs = some (args', q)) (hae : args' = args) (hs : splitO fr gf (match g with | none => [] | some (_, d, b) => acts 6 gf d b) q [] [] = some (es, gs))
    (k : DJ G E all Q n (i :: tk) (frQ fr g t res) (gfQ gf' g t res) mu) (hB : oneB all.toArray tk i = true := by kernel_rfl) (hko : keysO mu1 = [] := by exact rfl) (hres : res.inK ks = true := by exact rfl) (hin : WkIn mu mu1 := by repeat (first | exact trivial | refine And.intro ⟨_, rfl, ro_arr⟩ ?_ | refine And.intro ⟨_, rfl, ro_ro⟩ ?_ | refine And.intro ⟨_, rfl, ro_row⟩ ?_ | refine And.intro ⟨_, rfl, Ch.imp_refl _⟩ ?_)) (hen : Enters E.P f := by exact enters_B (by kernel_rfl)) (he : PAlls es := by repeat (first | exact trivial | refine And.intro rfl ?_)) (ho : GAlls gs := by first | exact trivial | ((simp only [GAlls, GO.p, InR]; (repeat' (first | exact trivial | refine And.intro ?_ ?_ | refine fun _ => ?_)) <;> first | omega | (simp only [decide_eq_true_eq, decide_eq_false_iff_not, Int.toNat_natCast] at *; omega) | (simp at *; omega)))) :
    DJ G E all Q (n + 1) tk fr gf mu := by
  subst hae
  exact DJ_one i hi hB (OJ_Q C hc rfl hen hko hres hw (SVs.imp_refl _) hs he ho hin (SJ_dj k))
end
end
section
section
variable {E : Env} {mu mu' : Mu} {TT : List TI} {fr fr' : Fr} {gf gf' : GF} {all rest : List Oper} {Q : Exit → Act → World → Prop} {o : Oper} {J : Act → World → Prop} {G : AG}
theorem OJ_FG {φ : List RD → Value → Prop} {args : List SV} {rds : List RD} {t j d : Nat} {b : Bool} {x : Value} (hg : o.guard = some (j, b)) (hsl : gSlot all j = some d) (hc : fbOf (acts 6 gf d b) fr gf o.op = some (φ, args)) (hr : rdSs args = some rds) (hgd : gdrop t gf = some gf') (hx : φ rds x)
    (k : SJ G J E fr ((t, d, b, .a (.v x)) :: gf') mu) (hd : o.dst = some t := by exact rfl) (hn : mlk t fr = none := by exact rfl) (ht : (Nat.blt t E.N && !(Nat.beq t d)) = true := by exact rfl) : OJ G E all Q J o fr gf mu := fun B a w H f m gg => by
  simp only [Bool.and_eq_true, Bool.not_eq_true'] at ht
  have htd : t ≠ d := Nat.ne_of_beq_eq_false ht.2
  have htN : t < E.N := by simpa [Nat.blt_eq] using ht.1
  have hwt := wanted_some (ops := all.toArray) (a := a) hg (gslot_ops hsl)
  by_cases hyes : a.tmps.getD d undef = .bool b
  · have hacts := acts_ok f 6 d b hyes
    have hw := hwt.2 hyes
    obtain ⟨dst, op, type, pos, after, guard⟩ := o
    simp only at hc hd
    subst hd
    unfold fbOf at hc
    split at hc
    · rename_i c
      obtain ⟨callee, cargs, ats⟩ := c
      simp only at hc
      split at hc
      · rename_i y hy
        split at hc
        · rename_i φ' l e1 e2
          simp only [Option.some.injEq, Prod.mk.injEq] at hc
          obtain ⟨rfl, rfl⟩ := hc
          obtain ⟨fn, cv, h1, h3, h4⟩ := (show ∃ f vs, _ from f.ev hacts e1)
          have h2 := f.evs hacts e2
          have ha : cargs.map a.eval = (cargs.toList.map a.eval).toArray := Array.ext' (by rw [Array.toList_map])
          refine one_call (n := fn) (args := (cargs.toList.map a.eval ++ cv).toArray) hw ?_ ((h4 rds x hx w E.r _ (PH.le_refl _) m.mm.fitr (rdSs_ok hr h2)).mono fun e w' ⟨g1, g2⟩ => ⟨x, g1, ?_⟩)
          · simp only [execOp, resolve, h1, Deferred.ofValue, Sem.run_bind, Sem.run_pure, Result.andThen_ok, invoke, ha, Array.empty_append]
            rw [h3]
            congr 2
            simp
          · exact k B _ w' H (Fits.putG f htN htd hn hgd (.inl ⟨hyes, show SV.rel E.P B (Zf E.r H) (.a (.v x)) x from rfl⟩)) (m.below g2) gg
        · cases hc
      · cases hc
    · cases hc
  · refine one_off (by
      cases e : Region.wanted o (yielded all.toArray a.tmps) with
      | false => rfl
      | true => exact absurd (hwt.1 e) hyes) ?_
    rw [hd]
    exact k B _ w H (Fits.putG f htN htd hn hgd (.inr ⟨hyes, rfl⟩)) m gg
end
end
section
theorem Con.wkA {ι : Type} {P : Program} {f : Nat} {ks : List Nat} {args args' : List SV} {mu : Mu} {φ : ι → Prop} {res : ι → List SV} {mu' : ι → Mu} (C : Con P f ks args mu φ res mu') (h : SVs.imp P args' args) : Con P f ks args' mu φ res mu' :=
  fun B r w H vals m he ha => C B r w H vals m he (SVs.imp_ok h ha)
theorem Mm.wk {B : BE} {r : PH} {mu mu' : Mu} {w : World} {H : Nat → PH} (m : Mm B r mu w H) (h : WkMu mu mu') : Mm B r mu' w H := ⟨fun k c e => by
  obtain ⟨d, h1, h2⟩ := h.get k c e
  exact h2 _ _ _ _ (m.sat k d h1), m.fit, m.dj, m.djr, m.fitr⟩
theorem Con.wkM {ι : Type} {P : Program} {f : Nat} {ks : List Nat} {args : List SV} {mu : Mu} {φ : ι → Prop} {res : ι → List SV} {mu' mu'' : ι → Mu} (C : Con P f ks args mu φ res mu') (h : ∀ y, φ y → WkMu (mu' y) (mu'' y)) : Con P f ks args mu φ res mu'' :=
  fun B r w H vals m he ha => (C B r w H vals m he ha).mono fun e w' ⟨y, B', H', out, h1, h2, h3, h4, h5⟩ => ⟨y, B', H', out, h1, h2, h3, h4.wk (h y h1), h5⟩
theorem Con.wkR {ι : Type} {P : Program} {f : Nat} {ks : List Nat} {args : List SV} {mu : Mu} {φ : ι → Prop} {res res' : ι → List SV} {mu' : ι → Mu} (C : Con P f ks args mu φ res mu') (h : ∀ y, φ y → SVs.imp P (res y) (res' y)) : Con P f ks args mu φ res' mu' :=
  fun B r w H vals m he ha => (C B r w H vals m he ha).mono fun e w' ⟨y, B', H', out, h1, h2, h3, h4⟩ => ⟨y, B', H', out, h1, h2, SVs.imp_ok (h y h1) h3, h4⟩
theorem SV.imp.trans {P : Program} {x y z : SV} (h : x.imp P y) (k : y.imp P z) : x.imp P z := fun _ _ _ e => k _ _ _ (h _ _ _ e)
def OwnI (l m : List D) : Prop := ∀ h vs, D.owns h l vs → D.owns h m vs
theorem OwnI.e : OwnI [] [] := fun _ _ e => e
theorem OwnI.refl (l : List D) : OwnI l l := fun _ _ e => e
theorem OwnI.c {x : D} {l m : List D} (k : OwnI l m) : OwnI (x :: l) (x :: m) := fun h vs ⟨y, t, h1, h2, e1, e2, e3, e4, e5, e6⟩ => ⟨y, t, h1, h2, e1, e2, e3, e4, e5, k _ _ e6⟩
theorem own_nil {h : PH} {sz : Nat} {f : Nat → List D} : D.own h (.sl sz 0 f) (.slice none 0 0) := ⟨none, 0, rfl, Nat.le_refl _, Nat.zero_le _, .inl rfl⟩
theorem OwnI.n {sz : Nat} {f : Nat → List D} {l m : List D} (k : OwnI l m) : OwnI (.v (.slice none 0 0) :: l) (.sl sz 0 f :: m) := fun h vs ⟨y, t, h1, h2, e1, e2, e3, e4, e5, e6⟩ => ⟨y, t, h1, h2, e1, e2, e3, e4, by
  have e5 : y = .slice none 0 0 := e5
  subst e5; exact own_nil, k _ _ e6⟩
theorem OwnI.of {l m : List D} (e : l = m) : OwnI l m := by subst e; exact OwnI.refl l
theorem Ch.imp_own {sz n m : Nat} {f g : Nat → List D} (hn : n = m) (k : ∀ i, i < n → OwnI (f i) (g i)) : (Ch.arr sz n f).imp (.arr sz m g) := by
  subst hn
  intro B r h j s
  obtain ⟨A, c, e1, e2, e3, e4⟩ := (show D.own _ _ _ from s)
  refine ⟨A, c, e1, e2, e3, e4.imp id fun ⟨b, o, rw0, H, e5, e6, e7, e8⟩ => ⟨b, o, rw0, H, e5, fun i hi => ?_, e7, e8⟩⟩
  obtain ⟨r1, r2, r3⟩ := e6 i hi
  exact ⟨k i hi _ _ r1, r2, r3⟩
abbrev fbP {α : Type} (S : α → Prop) (rd : α → List RD) (q : α → Value) : SV := .fb fun args v => ∃ x, S x ∧ args = rd x ∧ v = q x
section
variable {E : Env} {B : BE} {mu mu' : Mu} {w : World} {H : Nat → PH} {TT : List TI} {fr fr' : Fr} {gf gf' : GF} {a : Act} {all rest : List Oper} {Q : Exit → Act → World → Prop} {o : Oper} {J : Act → World → Prop} {G : AG} {R : Exit → Act → World → Prop} {K : List KF}
def V.rO : V → Bool
  | .v _ => true
  | .s .r _ _ _ => true
  | .rp .r _ _ => true
  | _ => false
def SV.rO : SV → Bool
  | .a x => x.rO
  | .ag l => allL V.rO l
  | .tu l => go l
  | _ => false
where go : List SV → Bool
  | [] => true
  | x :: r => SV.rO x && go r
theorem V.rO_rel {B B' : BE} {s : PH} {H H' : Nat → PH} : ∀ {x : V} {y : Value}, x.rO = true → x.rel B (Zf s H) y → x.rel B' (Zf s H') y
  | .v _, _, _, e => e
  | .s .r _ _ _, _, _, e => e
  | .rp .r _ _, _, _, e => e
theorem V.rO_rels {B B' : BE} {s : PH} {H H' : Nat → PH} : ∀ {l : List V} {y : List Value}, allL V.rO l = true → V.rels B (Zf s H) l y → V.rels B' (Zf s H') l y
  | [], _, _, e => e
  | x :: r, y, h, e => by
    obtain ⟨h1, h2⟩ := allL_cons h
    obtain ⟨a, t, e1, e2, e3⟩ := e
    exact ⟨a, t, e1, V.rO_rel h1 e2, V.rO_rels h2 e3⟩
mutual
theorem SV.rO_rel {P : Program} {B B' : BE} {s : PH} {H H' : Nat → PH} : ∀ (x : SV) {y : Value}, x.rO = true → SV.rel P B (Zf s H) x y → SV.rel P B' (Zf s H') x y
  | .a x, _, h, e => V.rO_rel h e
  | .ag l, _, h, e => by obtain ⟨vs, e1, e2⟩ := e; exact ⟨vs, e1, V.rO_rels h e2⟩
  | .tu l, _, h, e => by obtain ⟨vs, e1, e2⟩ := e; exact ⟨vs, e1, SV.rO_rels l h e2⟩
  | .fn _ _, _, h, _ => by cases h
  | .fb _, _, h, _ => by cases h
  | .un, _, h, _ => by cases h
theorem SV.rO_rels {P : Program} {B B' : BE} {s : PH} {H H' : Nat → PH} : ∀ (l : List SV) {y : List Value}, SV.rO.go l = true → SV.rels P B (Zf s H) l y → SV.rels P B' (Zf s H') l y
  | [], _, _, e => e
  | x :: r, y, h, e => by
    simp only [SV.rO.go, Bool.and_eq_true] at h
    obtain ⟨a, t, e1, e2, e3⟩ := e
    exact ⟨a, t, e1, SV.rO_rel x h.1 e2, SV.rO_rels r h.2 e3⟩
end
theorem Con.askR {P : Program} {f : Nat} {args : List SV} {res : SV} (C : Ans P f [] args [] res) (hres : res.rO = true) {B : BE} {s : PH} {w : World} {vals : List Value} (hf : Fit s w) (ha : SV.rels P B (Zf s fun _ => PH.emp) args vals) :
    Calls P f vals.toArray w fun e w' => ∃ v, e = .returned v ∧ (∀ B' H', SV.rel P B' (Zf s H') res v) ∧ Below w.heap.size w w' := by
  refine (C B s w (fun _ => PH.emp) vals ⟨(fun k c e => by cases e), fun _ => FitO.emp w, fun _ _ _ => PH.emp_dj _, fun _ => PH.emp_dj _, hf⟩ (fun _ _ => rfl) ha).mono ?_
  rintro e w' ⟨y, B1, H1, out, _, h2, h3, _, h5, h6, _⟩
  obtain ⟨v, t, rfl, h7, h8⟩ := h3
  have h8 : t = [] := h8
  subst h8
  exact ⟨v, h2, fun B' H' => SV.rO_rel res hres h7, Keep.none h6 fun b o ⟨k, h, _⟩ => by cases h⟩
theorem ans_runR {P : Program} {r : PH} {f : Nat} {args : List SV} {res : SV} (C : Ans P f [] args [] res) (hres : res.rO = true) (hf : Fit r w) {svs args' : List SV} {q : Ob} (hw : wkSL [] [] [] svs = some (args', q)) (ha : SVs.imp P args' args) (hq : Alls q) {vals : List Value} (hv : SV.rels P B (Zf r H) svs vals) :
    Calls P f vals.toArray w fun e w' => ∃ v, e = .returned v ∧ (∀ B' H', SV.rel P B' (Zf r H') res v) ∧ Below w.heap.size w w' := by
  have W : Wk B r [] H [] r := ⟨(fun k c e => by cases e), PH.le_refl _, (fun k c e => by cases e)⟩
  exact C.askR hres hf (SVs.imp_ok ha (wkSL_ok (Z := Zf r fun _ => PH.emp) W rfl hw hq hv))
theorem OJ_QR {f : Nat} {args : List SV} {res : SV} (C : Ans E.P f [] args [] res) {svs args' : List SV} {g : Option (Nat × Nat × Bool)} {t : Nat} {q : Ob} {gd : Gd} {es : List Prop} {gs : List GO}
    (hc : callC E.N all fr gf o = some (f, svs, g, t, gf')) (hgd : gd = match g with | none => [] | some (_, d, b) => acts 6 gf d b) (hen : Enters E.P f) (hres : res.rO = true)
    (hw : wkSL [] [] [] svs = some (args', q)) (ha : SVs.imp E.P args' args) (hs : splitO fr gf gd q [] [] = some (es, gs)) (he : PAlls es) (ho : GAlls gs)
    (k : SJ G J E (frQ fr g t res) (gfQ gf' g t res) mu) : OJ G E all Q J o fr gf mu := fun B a w H f m gg => by
  match g, hc, hgd with
  | none, hc, hgd =>
    subst hgd
    obtain ⟨h1, h2, h3, h4, h5⟩ := callC_none hc
    obtain ⟨vals, r1, r2⟩ := callsOf_run (w := w) f (fun _ _ hm => by cases hm) h4 hen
    refine one_call (wanted_none h1) r1 ((ans_runR C hres m.mr.fitr hw ha (splitO_ok f (fun _ _ hm => by cases hm) hs he ho) r2).mono fun e w' ⟨v, c1, c2, c3⟩ => ⟨v, c1, ?_⟩)
    rw [h2]
    exact k B _ w' H (Fits.put f (by simpa [Nat.blt_eq] using h3) (c2 _ _) h5) (m.below c3) gg
  | some (j, d, b), hc, hgd =>
    subst hgd
    obtain ⟨h1, h2, h3, h4, h5, h6, h7⟩ := callC_some hc
    simp only [Bool.and_eq_true, Bool.not_eq_true'] at h4
    have htd : t ≠ d := Nat.ne_of_beq_eq_false h4.2
    have htN : t < E.N := by simpa [Nat.blt_eq] using h4.1
    have hwt := wanted_some (ops := all.toArray) (a := a) h1 (gslot_ops h2)
    by_cases hyes : a.tmps.getD d undef = .bool b
    · have hacts := acts_ok f 6 d b hyes
      obtain ⟨vals, r1, r2⟩ := callsOf_run (w := w) f hacts h6 hen
      refine one_call (hwt.2 hyes) r1 ((ans_runR C hres m.mr.fitr hw ha (splitO_ok f hacts hs he ho) r2).mono fun e w' ⟨v, c1, c2, c3⟩ => ⟨v, c1, ?_⟩)
      rw [h3]
      exact k B _ w' H (Fits.putG f htN htd h5 h7 (.inl ⟨hyes, c2 _ _⟩)) (m.below c3) gg
    · refine one_off (by
        cases e : Region.wanted o (yielded all.toArray a.tmps) with
        | false => rfl
        | true => exact absurd (hwt.1 e) hyes) ?_
      rw [h3]
      exact k B _ w H (Fits.putG f htN htd h5 h7 (.inr ⟨hyes, rfl⟩)) m gg
theorem RJ_QR (hT : TOk E.P TT) {f : Nat} {args : List SV} {res : SV} (C : Ans E.P f [] args [] res) {svs args' : List SV} {g : Option (Nat × Nat × Bool)} {t : Nat} {q : Ob} {es0 : List Prop} {gs0 : List GO} {js : JS} {es : List Prop} {gs : List GO}
    (hc : callC E.N all fr gf o = some (f, svs, g, t, gf')) (hw : wkSL [] [] [] svs = some (args', q)) (ha : SVs.imp E.P args' args) (hs : splitO fr gf (match g with | none => [] | some (_, d, b) => acts 6 gf d b) q [] [] = some (es0, gs0))
    (hau : goR TT E.N E.A.ks (auto TT E.N E.A.ks 400) all rest (frQ fr g t res) (gfQ gf' g t res) mu K es0 gs0 = some (js, es, gs)) (k : js.ok E R)
    (hres : res.rO = true := by exact rfl) (hen : Enters E.P f := by exact enters_B (by kernel_rfl)) (he : PAlls es := by repeat (first | exact trivial | refine And.intro rfl ?_)) (ho : GAlls gs := by first | exact trivial | ((simp only [GAlls, GO.p, InR]; (repeat' (first | exact trivial | refine And.intro ?_ ?_ | refine fun _ => ?_)) <;> first | omega | (simp only [decide_eq_true_eq, decide_eq_false_iff_not, Int.toNat_natCast] at *; omega) | (simp at *; omega)))) :
    RJ E all (KQ E.P R K) (o :: rest) fr gf mu := by
  obtain ⟨h1, h2⟩ := goR_ok hT (auto_ok hT 400) hau ⟨he, ho⟩
  exact RJ_of (OJ_QR C hc rfl hen hres hw ha hs h1.1 h1.2 (SJ_of (h2 k)))
theorem DJ_QF (hT : TOk E.P TT) {n : Nat} {tk is' tk' : List Nat} {f : Nat} {ks : List Nat} {args : List SV} {mu1 : Mu} {res : SV} (C : Ans E.P f ks args mu1 res) {svs args' : List SV} {g : Option (Nat × Nat × Bool)} {t : Nat} {q : Ob} {es0 es : List Prop} {gs0 gs : List GO} (hi : nth all tk.length = some o)
    (hc : callC E.N all fr gf o = some (f, svs, g, t, gf')) (hw : wkSL (muR G.ks mu) [] ks svs = some (args', q)) (hae : SVs.imp E.P args' args) (hs : splitO fr gf (match g with | none => [] | some (_, d, b) => acts 6 gf d b) q [] [] = some (es0, gs0)) {gf3 : GF}
    (ha : drun TT E.N all (muR G.ks mu) (iota (tk.length + 1) n) (frQ fr g t res) (gfQ gf' g t res) (tk.length :: tk) es0 gs0 = some (is', fr', gf3, tk', es, gs)) (k : DJ G E all (KQ E.P R K) is'.length tk' fr' gf3 mu)
    {x : Value} (hx : exV res = some x := by exact rfl) (hR : PQ R := by exact pq_body _ _) (hb : (takeB all.toArray tk tk.length && tookB all.toArray (iota (tk.length + 1) n) is' (tk.length :: tk)) = true := by kernel_rfl)
    (hko : keysO mu1 = [] := by exact rfl) (hres : res.inK ks = true := by exact rfl) (hin : WkIn (muR G.ks mu) mu1 := by repeat (first | exact trivial | refine And.intro ⟨_, rfl, ro_arr⟩ ?_ | refine And.intro ⟨_, rfl, ro_ro⟩ ?_ | refine And.intro ⟨_, rfl, ro_row⟩ ?_ | refine And.intro ⟨_, rfl, Ch.imp_refl _⟩ ?_)) (hen : Enters E.P f := by exact enters_B (by kernel_rfl)) (he : PAlls es := by repeat (first | exact trivial | refine And.intro rfl ?_)) (ho : GAlls gs := by first | exact trivial | ((simp only [GAlls, GO.p, InR]; (repeat' (first | exact trivial | refine And.intro ?_ ?_ | refine fun _ => ?_)) <;> first | omega | (simp only [decide_eq_true_eq, decide_eq_false_iff_not, Int.toNat_natCast] at *; omega) | (simp at *; omega)))) : DJ G E all (KQ E.P R K) (n + 1) tk fr gf mu := by
  simp only [Bool.and_eq_true] at hb
  obtain ⟨h3, h2⟩ := (drun_took (G := G) (K := K) hT hR _ _ _ _ _ _ ha).2 hb.2 ⟨he, ho⟩
  have h2 := h2 k
  rw [iota_length] at h2
  exact DJ_q hR _ C hx hi hb.1 hc rfl hen hko hres hw hae hs h3.1 h3.2 hin h2
theorem RJ_nilG (hT : TOk E.P TT) {t0 ty : Nat} {x y : Operand} {yt : TypeId} {j d : Nat} {b : Bool} {sx : V} {q : Tg} {sz n : Nat} {f : Nat → List D} {ob : Ob} {n0 c0 : Nat} {id sz1 by1 e : Nat} {z : Value} {ef : Bool}
    (hop : o.op = .binOp .eql ty x y yt) (hg : o.guard = some (j, b)) (hsl : gSlot all j = some d) (hx : ev (acts 6 gf d b) fr gf x = some (.a sx)) (hy : ev (acts 6 gf d b) fr gf y = some (.a (.v (.slice none n0 c0)))) (h1 : tlk ty TT = some ⟨id, sz1, by1, .slc e, z, ef⟩) (hs : slR mu sx = some (q, sz, n, f, ob)) (hn : mlk t0 fr = none) (hgd : gdrop t0 gf = some gf') (hpos : 0 < n)
    (k : RJ E all (KQ E.P R K) rest fr ((t0, d, b, .a (.v (.bool false))) :: gf') mu) (hob : Alls ob := by repeat (first | exact trivial | refine And.intro rfl ?_)) (hd : o.dst = some t0 := by exact rfl) (ht : (Nat.blt t0 E.N && !(Nat.beq t0 d)) = true := by exact rfl) : RJ E all (KQ E.P R K) (o :: rest) fr gf mu := by
  refine RJ_of fun B a w H ff mm _ => ?_
  obtain ⟨t1, t2⟩ := hT.get h1
  obtain ⟨dd, d1, d2⟩ := t2.desc
  simp only at t1 d1 d2
  subst t1
  obtain rfl := shapeK_slc d2
  simp only [Bool.and_eq_true, Bool.not_eq_true'] at ht
  have htd : t0 ≠ d := Nat.ne_of_beq_eq_false ht.2
  have htN : t0 < E.N := by simpa [Nat.blt_eq] using ht.1
  have hw := wanted_some (ops := all.toArray) (a := a) hg (gslot_ops hsl)
  by_cases hyes : a.tmps.getD d undef = .bool b
  · have hacts := acts_ok ff 6 d b hyes
    have hr := slR_spec mm.mr.ms hs hob (show sx.rel B (Zf E.r H) (a.eval x) from ff.ev hacts hx)
    have ey : a.eval y = _ := ff.ev hacts hy
    obtain ⟨A, c, ex, e0⟩ := fit_slice hr
    refine one_val (hw.2 hyes) (v := .bool false) (w' := w) ?_ ?_
    · obtain ⟨dst, op', type, pos, after, guard⟩ := o
      simp only at hop
      subst hop
      simp only [execOp, ex, ey]
      refine run_value ?_
      show (do eqGuard .eql _ x y _ _; binOp .eql _ _ _ : Sem Value).run E.P w = _
      rw [Sem.run_bind, eqGuard_plain rfl, Result.andThen_ok]
      have hA : A.isNone = false := e0 hpos
      simp only [binOp, Sem.run_bind, equal_slice d1, Result.andThen_ok, Sem.run_pure, hA]
    · rw [hd]
      exact k B _ w H (Fits.putG ff htN htd hn hgd (.inl ⟨hyes, (show SV.rel _ _ _ (.a (.v _)) _ from rfl)⟩)) mm
  · refine one_off (by
      cases e : Region.wanted o (yielded all.toArray a.tmps) with
      | false => rfl
      | true => exact absurd (hw.1 e) hyes) ?_
    rw [hd]
    exact k B _ w H (Fits.putG ff htN htd hn hgd (.inr ⟨hyes, rfl⟩)) mm
end
end
section
def V.noR : V → Bool
  | .s (.k _) _ _ _ => true
  | .s _ _ _ _ => false
  | .rp (.k _) _ _ => true
  | .rp _ _ _ => false
  | _ => true
def V.noRo : V → Bool
  | .s .r _ _ _ => false
  | .rp _ _ _ => false
  | _ => true
def SV.noR : SV → Bool
  | .a x => x.noR
  | .ag l => allL V.noR l
  | .fn _ l => allL V.noR l
  | .tu l => go l
  | .un => true
  | .fb _ => false
where go : List SV → Bool
  | [] => true
  | x :: r => bif SV.noR x then go r else false
def Ch.noR : Ch → Bool
  | .row l => allL V.noRo l
  | .arr .. => true
  | .hole .. => true
  | .rd .. => true
  | .rw _ => true
  | _ => false
def muNoR : Mu → Bool
  | [] => true
  | (_, c) :: r => bif c.noR then muNoR r else false
theorem muNoR_get : ∀ {mu : Mu}, muNoR mu = true → ∀ k c, mlk k mu = some c → c.noR = true
  | [], _, _, _, h => by cases h
  | (j, d) :: r, h, k, c, e => by
    simp only [muNoR] at h
    cases hd : d.noR with
    | false => rw [hd] at h; cases h
    | true =>
      rw [hd] at h
      rw [mlk_cons] at e
      by_cases hj : j = k
      · rw [if_pos hj] at e; injection e with e; subst e; exact hd
      · rw [if_neg hj] at e; exact muNoR_get h k c e
section
variable {B : BE} {r s : PH} {H : Nat → PH}
theorem V.noR_rel : ∀ {x : V} {y : Value}, x.noR = true → x.rel B (Zf r H) y → x.rel B (Zf s H) y
  | .v _, _, _, e => e
  | .s (.k _) _ _ _, _, _, e => e
  | .g _, _, _, e => e
  | .p _ _, _, _, e => e
  | .pe _ _ _ _, _, _, e => e
  | .sb _ _ _ _, _, _, e => e
  | .gl _ _ _, _, _, e => e
  | .rp (.k _) _ _, _, _, e => e
  | .any, _, _, _ => trivial
theorem V.noR_rels : ∀ {l : List V} {y : List Value}, allL V.noR l = true → V.rels B (Zf r H) l y → V.rels B (Zf s H) l y
  | [], _, _, e => e
  | x :: l, y, h, e => by
    obtain ⟨h1, h2⟩ := allL_cons h
    obtain ⟨a, t, e1, e2, e3⟩ := e
    exact ⟨a, t, e1, V.noR_rel h1 e2, V.noR_rels h2 e3⟩
theorem V.noRo_own {h : PH} : ∀ {x : V} {y : Value}, x.noRo = true → x.own B r h y → x.own B s h y
  | .v _, _, _, e => e
  | .s .o _ _ _, _, _, e => by
    rcases e with e | ⟨e, _⟩
    · exact .inl e
    · cases e
  | .s (.k _) _ _ _, _, _, e => by rcases e with ⟨e, _⟩ | ⟨e, _⟩ <;> cases e
  | .g _, _, _, e => e
  | .p _ _, _, _, e => e
  | .pe _ _ _ _, _, _, e => e
  | .sb _ _ _ _, _, _, e => e
  | .gl _ _ _, _, _, e => e
  | .any, _, _, _ => trivial
theorem V.noRo_owns : ∀ {l : List V} {y : List Value} {h : PH}, allL V.noRo l = true → V.owns B r h l y → V.owns B s h l y
  | [], _, _, _, e => e
  | x :: l, y, _, h, e => by
    obtain ⟨h1, h2⟩ := allL_cons h
    obtain ⟨a, t, g1, g2, e1, e2, e3, e4, e5, e6⟩ := e
    exact ⟨a, t, g1, g2, e1, e2, e3, e4, V.noRo_own h1 e5, V.noRo_owns h2 e6⟩
mutual
theorem SV.noR_rel {P : Program} : ∀ (x : SV) {y : Value}, x.noR = true → SV.rel P B (Zf r H) x y → SV.rel P B (Zf s H) x y
  | .a x, _, h, e => V.noR_rel h e
  | .ag l, _, h, e => by obtain ⟨vs, e1, e2⟩ := e; exact ⟨vs, e1, V.noR_rels h e2⟩
  | .fn f l, _, h, e => by obtain ⟨vs, e1, e2⟩ := e; exact ⟨vs, e1, V.noR_rels h e2⟩
  | .tu l, _, h, e => by obtain ⟨vs, e1, e2⟩ := e; exact ⟨vs, e1, SV.noR_rels l h e2⟩
  | .un, _, _, e => e
  | .fb _, _, h, _ => by cases h
theorem SV.noR_rels {P : Program} : ∀ (l : List SV) {y : List Value}, SV.noR.go l = true → SV.rels P B (Zf r H) l y → SV.rels P B (Zf s H) l y
  | [], _, _, e => e
  | x :: l, y, h, e => by
    simp only [SV.noR.go] at h
    cases hx : x.noR with
    | false => rw [hx] at h; cases h
    | true =>
      rw [hx] at h
      obtain ⟨a, t, e1, e2, e3⟩ := e
      exact ⟨a, t, e1, SV.noR_rel x hx e2, SV.noR_rels l h e3⟩
end
theorem Ch.noR_sat {h : PH} {k : Nat} : ∀ {c : Ch}, c.noR = true → c.sat B r h k → c.sat B s h k
  | .row l, hc, ⟨b, o, vs, h', e1, e2, e3, e4⟩ => ⟨b, o, vs, h', e1, V.noRo_owns hc e2, e3, e4⟩
  | .arr .., _, e => e
  | .hole .., _, e => e
  | .rd .., _, e => e
  | .rw _, _, e => e
  | .ro .., h, _ => by cases h
  | .rrow _, h, _ => by cases h
theorem Ch.sat_monoR (l : r.le s) {h : PH} {k : Nat} : ∀ {c : Ch}, c.sat B r h k → c.sat B s h k
  | .row _, ⟨b, o, vs, h', e1, e2, e3, e4⟩ => ⟨b, o, vs, h', e1, V.owns_mono l (PH.le_refl _) e2, e3, e4⟩
  | .arr .., e => e
  | .hole .., e => e
  | .rd .., e => e
  | .rw _, e => e
  | .ro sz n f, e => D.rd_mono l (.sl sz n f) e
  | .rrow m, ⟨b, o, vs, e1, e2, e3⟩ => ⟨b, o, vs, e1, V.rels_mono (Zf_mono l fun _ => PH.le_refl _) e2, fun j hj => le_cell l (V.rels_length e2) hj (e3 j hj)⟩
end
theorem KQ_mono {P : Program} {R R' : Exit → Act → World → Prop} (h : ∀ e a w, R' e a w → R e a w) : ∀ {K : List KF} {e : Exit} {a : Act} {w : World}, KQ P R' K e a w → KQ P R K e a w
  | [], _, _, _, q => h _ _ _ q
  | .seq c :: K, e, a, w, q => by
    cases e with
    | normal => exact wp_mono (show c.wp P (KQ P R' K) a w from q) fun _ _ _ q => KQ_mono h q
    | exit id => exact KQ_mono (K := K) h (show KQ P R' K (.exit id) a w from q)
    | goto l => exact KQ_mono (K := K) h (show KQ P R' K (.goto l) a w from q)
    | ret => exact KQ_mono (K := K) h (show KQ P R' K .ret a w from q)
    | panic ch => exact KQ_mono (K := K) h (show KQ P R' K (.panic ch) a w from q)
    | outgrown => exact KQ_mono (K := K) h (show KQ P R' K .outgrown a w from q)
  | .blk id :: K, e, a, w, q => by
    cases e with
    | exit j =>
      simp only [KQ, Exit.inBlock] at q ⊢
      split
      · rename_i hj; rw [if_pos hj] at q; exact KQ_mono (K := K) h q
      · rename_i hj; rw [if_neg hj] at q; exact KQ_mono (K := K) h q
    | normal => exact KQ_mono (K := K) h q
    | goto l => exact KQ_mono (K := K) h q
    | ret => exact KQ_mono (K := K) h q
    | panic ch => exact KQ_mono (K := K) h q
    | outgrown => exact KQ_mono (K := K) h q
  | .loop I :: K, e, a, w, q => by
    cases e with
    | normal => exact q
    | exit id => exact KQ_mono (K := K) h (show KQ P R' K (.exit id) a w from q)
    | goto l => exact KQ_mono (K := K) h (show KQ P R' K (.goto l) a w from q)
    | ret => exact KQ_mono (K := K) h (show KQ P R' K .ret a w from q)
    | panic ch => exact KQ_mono (K := K) h (show KQ P R' K (.panic ch) a w from q)
    | outgrown => exact KQ_mono (K := K) h (show KQ P R' K .outgrown a w from q)
theorem bodyPost_mono {P : Program} {fn : Func} {R R' : Ending → World → Prop} (h : ∀ e w, R' e w → R e w) : ∀ e a w, bodyPost P fn R' e a w → bodyPost P fn R e a w := fun e a w q => by
  cases e with
  | ret =>
    simp only [bodyPost] at q ⊢
    obtain ⟨h1, v, h2, h3⟩ := q
    exact ⟨h1, v, h2, h _ _ h3⟩
  | _ => first | exact q | exact h _ _ q | (simp only [bodyPost] at q ⊢; first | exact q | exact h _ _ q | (obtain ⟨h1, h2⟩ := q; exact ⟨h1, h _ _ h2⟩) | (obtain ⟨h1, v, h2, h3⟩ := q; exact ⟨h1, v, h2, h _ _ h3⟩))
theorem RetP.noR {ι : Type} {E : Env} {r : PH} (hr : E.r.le r) {φ : ι → Prop} {res : ι → List SV} {mu' : ι → Mu} (h1 : ∀ y, SV.noR.go (res y) = true) (h2 : ∀ y, muNoR (mu' y) = true) {e : Ending} {w' : World} (q : RetP { E with r := r } φ res mu' e w') : RetP E φ res mu' e w' := by
  obtain ⟨y, B', H', out, q1, q2, q3, q4⟩ := q
  refine ⟨y, B', H', out, q1, q2, SV.noR_rels _ (h1 y) q3, ⟨⟨fun k c hc => Ch.noR_sat (muNoR_get (h2 y) k c hc) (q4.mm.sat k c hc), q4.mm.fit, q4.mm.dj, fun k => PH.dj_le (q4.mm.djr k) (PH.le_refl _) hr, q4.mm.fitr.le hr⟩, q4.keep, q4.dom, q4.anch⟩⟩
def zV (k : Nat) (m : List D) : SV → SV
  | .a (.p j o) => bif Nat.beq j k then .a (.rp .r m o) else .a (.p j o)
  | x => x
def frZ (k : Nat) (m : List D) : Fr → Fr
  | [] => []
  | (t, x) :: r => (t, zV k m x) :: frZ k m r
theorem mlk_frZ {k : Nat} {m : List D} (t : Nat) : ∀ fr : Fr, mlk t (frZ k m fr) = (mlk t fr).map (zV k m)
  | [] => rfl
  | (j, x) :: r => by
    simp only [frZ]
    rw [mlk_cons, mlk_cons]
    by_cases h : j = t
    · rw [if_pos h, if_pos h]; rfl
    · rw [if_neg h, if_neg h]; exact mlk_frZ t r
theorem owns_rdL {B : BE} {r : PH} {H : Nat → PH} : ∀ {l : List V} {m : List D}, rdL l = some m → ∀ {vs : List Value} {h : PH}, V.owns B r h l vs → V.rels B (Zf r H) l vs
  | [], _, _, _, _, e => e
  | x :: l, m, hm, vs, h, e => by
    obtain ⟨a, t, g1, g2, e1, e2, e3, e4, e5, e6⟩ := e
    simp only [rdL] at hm
    split at hm
    · rename_i y l' h1 h2
      refine ⟨a, t, e1, ?_, owns_rdL h2 e6⟩
      cases x with
      | v x => exact e5
      | s q sz n f =>
        cases q with
        | r => rcases e5 with ⟨c, _⟩ | ⟨_, e⟩
               · cases c
               · exact e
        | _ => simp [rdV] at h1
      | rp q l o =>
        cases q with
        | r => exact e5.2
        | _ => simp [rdV] at h1
      | _ => simp [rdV] at h1
    · cases hm
theorem T_freeze (k : Nat) {ι : Type} {E : Env} {fn : Func} {φ : ι → Prop} {res : ι → List SV} {mu1 : ι → Mu} {c : Code} {fr fr0 : Fr} {mu mu' : Mu} {K : List KF} {l : List V} {m : List D}
    (hk : mlk k mu = some (.row l)) (hm : rdL l = some m) (hmd : mdrop k mu = some mu') (hc : frCut (V.usesT k) fr = some fr0) (h1 : ∀ y, SV.noR.go (res y) = true) (h2 : ∀ y, muNoR (mu1 y) = true)
    (h : ∀ r', T { E with r := r' } (bodyPost E.P fn (RetP { E with r := r' } φ res mu1)) c (frZ k m fr0) mu' K) : T E (bodyPost E.P fn (RetP E φ res mu1)) c fr mu K := fun B a w H f me => by
  obtain ⟨b, off, vs, h', e1, e2, e3, e4⟩ := me.mm.sat k _ hk
  have hvl := V.owns_length e2
  have hdj : E.r.dj (H k) := PH.dj_symm (me.mm.djr k)
  have hr : E.r.le (E.r.un (H k)) := PH.le_un_left _ _
  have hkr : (H k).le (E.r.un (H k)) := PH.le_un_right hdj
  refine wp_mono (h (E.r.un (H k)) B a w (HF.set H k PH.emp) ?_ ?_) fun e a w q => KQ_mono (bodyPost_mono fun e w q => RetP.noR hr h1 h2 q) q
  · have f1 := FitsE.anew f (k := k) PH.emp hc (by rfl : gfCut (V.usesT k) [] = some [])
    rw [BE.set_self] at f1
    have hz : ∀ q, (Zf E.r (HF.set H k PH.emp) q).le (Zf (E.r.un (H k)) (HF.set H k PH.emp) q) := Zf_mono hr fun _ => PH.le_refl _
    refine ⟨f1.size, f1.defers, fun t x ex _ => ?_, fun _ _ _ _ h => (by cases h), fun _ _ _ _ h => (by cases h), fun _ _ _ _ h => (by cases h)⟩
    rw [mlk_frZ] at ex
    cases hx : mlk t fr0 with
    | none => rw [hx] at ex; cases ex
    | some x0 =>
      rw [hx] at ex
      simp only [Option.map_some, Option.some.injEq] at ex
      subst ex
      have g := SV.rel_mono hz x0 (f1.vfr t x0 hx rfl)
      unfold zV
      split
      · rename_i j o
        cases hj : Nat.beq j k with
        | false => exact g
        | true =>
          have hj := Nat.eq_of_beq_eq_true hj
          subst hj
          obtain ⟨g1, _⟩ := (show _ = addP (B j) o ∧ _ from g)
          simp only [cond_true]
          refine ⟨b, off, vs, ?_, D.rds_mono hr m (rdL_ok (Z := Zf E.r H) hm (owns_rdL hm e2)), fun i hi => ?_⟩
          · rw [g1, e1]; simp [addP, add_mk]
          · have hil : i < l.length := by omega
            exact le_cell hkr rfl hi (e4 i hil).1
      · exact g
  · refine ⟨⟨fun j cc hcc => ?_, fun j => ?_, fun i j hij => ?_, fun j => ?_, ?_⟩, me.keep, fun j b o hne => ?_, me.anch⟩
    · have hs := mdrop_spec hmd j
      by_cases hj : j = k
      · rw [if_pos hj] at hs; rw [hs] at hcc; cases hcc
      · rw [if_neg hj] at hs; rw [hs] at hcc
        rw [HF.set_ne _ _ hj]
        exact Ch.sat_monoR hr (me.mm.sat j cc hcc)
    · by_cases hj : j = k
      · subst hj; rw [HF.set_eq]; exact FitO.emp w
      · rw [HF.set_ne _ _ hj]; exact me.mm.fit j
    · by_cases hi : i = k
      · subst hi; rw [HF.set_eq]; exact PH.emp_dj _
      · rw [HF.set_ne _ _ hi]
        by_cases hj : j = k
        · subst hj; rw [HF.set_eq]; exact PH.dj_emp _
        · rw [HF.set_ne _ _ hj]; exact me.mm.dj i j hij
    · by_cases hj : j = k
      · subst hj; rw [HF.set_eq]; exact PH.emp_dj _
      · rw [HF.set_ne _ _ hj]; exact PH.dj_un (me.mm.djr j) (me.mm.dj j k hj)
    · exact me.mm.fitr.un (me.mm.fit k)
    · by_cases hj : j = k
      · subst hj; rw [HF.set_eq] at hne; exact absurd rfl hne
      · rw [HF.set_ne _ _ hj] at hne; exact me.dom j b o hne
end
section
def depth1 : Code → Nat
  | .seq a _ => depth1 a + 1
  | .block _ a => depth1 a + 1
  | _ => 1
theorem T_auto1 {E : Env} {TT : List TI} {fr : Fr} {mu : Mu} {K : List KF} {R : Exit → Act → World → Prop} (hT : TOk E.P TT) {c : Code} {js : JS} {es : List Prop} {gs : List GO} (h : auto TT E.N E.A.ks (depth1 c) c fr mu K [] [] = some (js, es, gs)) (k : js.ok E R) (he : PAlls es := by repeat (first | exact trivial | refine And.intro rfl ?_)) (ho : GAlls gs := by first | exact trivial | ((simp only [GAlls, GO.p, InR]; (repeat' (first | exact trivial | refine And.intro ?_ ?_ | refine fun _ => ?_)) <;> first | omega | (simp only [decide_eq_true_eq, decide_eq_false_iff_not, Int.toNat_natCast] at *; omega) | (simp at *; omega)))) : T E R c fr mu K :=
  (auto_ok hT _ _ _ _ _ _ _ _ _ _ h ⟨he, ho⟩).2 k
end
end Go.Proofs.YthpjoddhlkcciaaGreat
