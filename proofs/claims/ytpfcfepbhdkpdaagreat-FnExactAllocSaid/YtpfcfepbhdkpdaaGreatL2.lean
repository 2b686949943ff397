
/-
  Notes and Sets that are added, plainly.
-/
import Derived.Test.YtpfcfepbhdkpdaaGreatP20
namespace Go.Proofs.YtpfcfepbhdkpdaaGreat
open Go Go.RowKit
set_option linter.unusedVariables false
set_option linter.unusedSimpArgs false
set_option maxRecDepth 4000

theorem cut_ex {α : Type} {c : α → Int} {z : α} {xs : List α} (h : rising c z xs) : ∃ i, cutAt c z xs i := by
  have key : ∀ k, k ≤ xs.length → (∃ i, cutAt c z xs i) ∨ ∀ a, a < k → c (xs.getD a z) < 0 := fun k => by
    induction k with
    | zero => exact fun _ => .inr fun a ha => absurd ha (Nat.not_lt_zero _)
    | succ k ih =>
      intro hk
      rcases ih (by omega) with h1 | h1
      · exact .inl h1
      · by_cases h2 : c (xs.getD k z) < 0
        · exact .inr fun a ha => by
            by_cases e : a = k
            · subst e; exact h2
            · exact h1 a (by omega)
        · exact .inl ⟨k, by omega, h1, fun a a1 a2 a3 => h2 (h k a a1 a2 a3)⟩
  rcases key xs.length (Nat.le_refl _) with h1 | h1
  · exact h1
  · exact ⟨xs.length, Nat.le_refl _, h1, fun a a1 a2 => by omega⟩
theorem posA_cut {α : Type} {c : α → Int} {z : α} {xs : List α} (h : rising c z xs) : cutAt c z xs (posA c z xs) := by
  obtain ⟨i, hi⟩ := cut_ex h
  rw [posA_eq hi]; exact hi
section
variable {α : Type} {reg slot : α → Int} {z x : α} {xs : List α}
/-- one cell ahead of another -/
def lexL (reg slot : α → Int) (a b : α) : Prop := reg a < reg b ∨ reg a = reg b ∧ slot a < slot b
theorem mem_insL {p : Nat} {y : α} : y ∈ insL p x xs ↔ y = x ∨ y ∈ xs := by
  unfold insL
  rw [List.mem_append, List.mem_cons]
  constructor
  · rintro (h | h | h)
    · exact .inr (List.mem_of_mem_take h)
    · exact .inl h
    · exact .inr (List.mem_of_mem_drop h)
  · rintro (h | h)
    · exact .inr (.inl h)
    · rw [← List.take_append_drop p xs, List.mem_append] at h
      rcases h with h | h
      · exact .inl h
      · exact .inr (.inr h)
theorem ins_sorted {p : Nat} (hs : xs.Pairwise (lexL reg slot)) (hc : cutAt (fun y => cmpC (reg y) (slot y) (reg x) (slot x)) z xs p) (hn : ∀ y ∈ xs, ¬ (reg y = reg x ∧ slot y = slot x)) : (insL p x xs).Pairwise (lexL reg slot) := by
  obtain ⟨c1, c2, c3⟩ := hc
  have ht : ∀ y ∈ xs.take p, lexL reg slot y x := fun y hy => by
    obtain ⟨a, ha, rfl⟩ := List.mem_iff_getElem.1 hy
    have hap : a < p := by rw [List.length_take] at ha; omega
    have := c2 a hap
    rw [cmpC_lt] at this
    rw [List.getElem_take]
    simp only [List.getD_eq_getElem?_getD, List.getElem?_eq_getElem (show a < xs.length by omega), Option.getD_some] at this
    exact this
  have hd : ∀ y ∈ xs.drop p, lexL reg slot x y := fun y hy => by
    have hm := hn y (List.mem_of_mem_drop hy)
    obtain ⟨a, ha, rfl⟩ := List.mem_iff_getElem.1 hy
    have hl : p + a < xs.length := by rw [List.length_drop] at ha; omega
    have := c3 (p + a) (by omega) hl
    rw [cmpC_lt] at this
    rw [List.getElem_drop] at hm ⊢
    simp only [List.getD_eq_getElem?_getD, List.getElem?_eq_getElem hl, Option.getD_some] at this
    unfold lexL
    omega
  unfold insL
  refine List.pairwise_append.2 ⟨hs.sublist (List.take_sublist p xs), List.pairwise_cons.2 ⟨hd, hs.sublist (List.drop_sublist p xs)⟩, fun a ha b hb => ?_⟩
  rcases List.mem_cons.1 hb with rfl | hb
  · exact ht a ha
  · rw [← List.take_append_drop p xs] at hs
    exact (List.pairwise_append.1 hs).2.2 a ha b hb
theorem pair_get {R : α → α → Prop} (h : xs.Pairwise R) {a b : Nat} (hab : a < b) (hb : b < xs.length) : R (xs.getD a z) (xs.getD b z) := by
  have := List.pairwise_iff_getElem.1 h a b (by omega) hb hab
  simpa [hb, show a < xs.length by omega] using this
end
theorem pair_of {α : Type} {R : α → α → Prop} {z : α} : ∀ {xs : List α}, (∀ a b, a < b → b < xs.length → R (xs.getD a z) (xs.getD b z)) → xs.Pairwise R := fun {xs} h => by
  rw [List.pairwise_iff_getElem]
  intro i j hi hj hij
  have := h i j hij hj
  simpa [hi, hj] using this
theorem getD_mem {α : Type} {z : α} {xs : List α} {i : Nat} (h : i < xs.length) : xs.getD i z ∈ xs := by simp [h]
/-- right notes, told of all and of pairs -/
theorem readsOk_iff {xs : List GNote} : readsOk xs xs.length ↔ (∀ n ∈ xs, noteB n = true) ∧ xs.Pairwise lessN := by
  constructor
  · intro h
    refine ⟨fun n hn => ?_, pair_of (z := GNote.z) (sortedN_of h)⟩
    obtain ⟨i, hi, rfl⟩ := List.mem_iff_getElem.1 hn
    simpa [hi] using (h i hi).1
  · rintro ⟨h1, h2⟩ j hj
    exact ⟨h1 _ (getD_mem hj), fun h0 => pair_get (z := GNote.z) h2 (by omega) hj⟩
theorem setsOk_iff {xs : List GSet} : setsOk xs xs.length ↔ (∀ n ∈ xs, setB n = true) ∧ xs.Pairwise lessS := by
  constructor
  · intro h
    refine ⟨fun n hn => ?_, pair_of (z := GSet.z) (sortedS_of h)⟩
    obtain ⟨i, hi, rfl⟩ := List.mem_iff_getElem.1 hn
    simpa [hi] using (h i hi).1
  · rintro ⟨h1, h2⟩ j hj
    exact ⟨h1 _ (getD_mem hj), fun h0 => pair_get (z := GSet.z) h2 (by omega) hj⟩
theorem not_any_note {xs : List GNote} {r s : Int} (h : xs.any (atNote r s) = false) : ∀ y ∈ xs, ¬ (y.region = r ∧ y.slot = s) := fun y hy e => by
  have : xs.any (atNote r s) = true := List.any_eq_true.2 ⟨y, hy, atNote_iff.2 e⟩
  rw [h] at this; cases this
theorem not_any_cell {xs : List GSet} {r s : Int} (h : xs.any (atCell r s) = false) : ∀ y ∈ xs, ¬ (y.region = r ∧ y.slot = s) := fun y hy e => by
  have : xs.any (atCell r s) = true := List.any_eq_true.2 ⟨y, hy, atCell_iff.2 e⟩
  rw [h] at this; cases this
/-- a note that is added: right again, and it is there -/
theorem addRead_ok {t : GTx} (ht : TxOk t) {n : GNote} (hn : noteB n = true) : TxOk (addRead' t n).1 ∧ (addRead' t n).1.reads.length ≤ t.reads.length + 1 ∧ ((addRead' t n).2 = true → (addRead' t n).1.reads.any (atNote n.region n.slot) = true) := by
  have hs := sortedN_of ht.2.1
  unfold addRead'
  cases h1 : t.reads.any (atNote n.region n.slot) with
  | true => exact ⟨ht, Nat.le_succ _, fun _ => h1⟩
  | false =>
    by_cases h2 : (t.reads.length : Int) = 12
    · rw [decide_eq_true h2]; exact ⟨ht, Nat.le_succ _, fun h => by cases h⟩
    · rw [decide_eq_false h2]
      have hc := posA_cut (cellN_rising hs n.region n.slot)
      have hl := insL_length (x := n) hc.1
      have h12 := ht.1.2.2.2.2.2.1
      have hr := readsOk_iff.1 ht.2.1
      refine ⟨⟨⟨ht.1.1, ht.1.2.1, ht.1.2.2.1, ht.1.2.2.2.1, ht.1.2.2.2.2.1, ?_, ht.1.2.2.2.2.2.2⟩, readsOk_iff.2 ⟨fun y hy => ?_, ?_⟩, ht.2.2⟩, ?_, fun _ => ?_⟩
      · show (insL _ n t.reads).length ≤ 12; omega
      · rcases mem_insL.1 hy with rfl | hy
        · exact hn
        · exact hr.1 y hy
      · exact ins_sorted (reg := GNote.region) (slot := GNote.slot) (z := GNote.z) hr.2 hc (not_any_note h1)
      · show (insL _ n t.reads).length ≤ _; omega
      · exact List.any_eq_true.2 ⟨n, mem_insL.2 (.inl rfl), atNote_iff.2 ⟨rfl, rfl⟩⟩
theorem addReadM_of {t : GTx} {n : GNote} (h : (addReadM t n).2 = true) : TxOk t ∧ noteB n = true ∧ (addRead' t n).2 = true ∧ addReadM t n = ((addRead' t n).1, true) := by
  unfold addReadM at h ⊢
  split at h
  · rename_i hc
    rw [if_pos hc]; exact ⟨hc.1, hc.2.1, hc.2.2, rfl⟩
  · cases h
theorem addRead_twice {t : GTx} {n : GNote} (h : (addReadM t n).2 = true) : TxOk (addReadM t n).1 ∧ (addReadM t n).1.reads.length ≤ t.reads.length + 1 ∧ addReadM (addReadM t n).1 n = ((addReadM t n).1, true) := by
  obtain ⟨h1, h2, h3, h4⟩ := addReadM_of h
  obtain ⟨g1, g2, g3⟩ := addRead_ok h1 h2
  have ha := g3 h3
  rw [h4]
  dsimp only
  generalize (addRead' t n).1 = z at g1 g2 ha ⊢
  have e : addRead' z n = (z, true) := by unfold addRead'; rw [ha]; rfl
  exact ⟨g1, g2, by unfold addReadM; rw [if_pos ⟨g1, h2, by rw [e]⟩, e]⟩
theorem set_get {α : Type} {z y : α} {xs : List α} {p : Nat} (hp : p < xs.length) (i : Nat) : (xs.set p y).getD i z = if i = p then y else xs.getD i z := by
  by_cases c : i = p
  · subst c; rw [if_pos rfl]; simp [hp]
  · rw [if_neg c]; simp [List.getElem?_set_ne (Ne.symm c)]
theorem putAt_ok {t : GTx} (ht : TxOk t) {s : GSet} (hs : setB s = true) {p : Nat} (hp : p < t.sets.length) (e : (t.sets.getD p GSet.z).region = s.region ∧ (t.sets.getD p GSet.z).slot = s.slot) : TxOk (putAt t s p) := by
  have hr := setsOk_iff.1 ht.2.2
  have hb : setB ⟨s.region, s.slot, s.value, s.used, (t.sets.getD p GSet.z).version⟩ = true := by
    have h1 := hr.1 _ (getD_mem (z := GSet.z) hp)
    have f : ∀ x : GSet, setB x = true ↔ (0 ≤ x.region ∧ x.region ≤ 5) ∧ (0 ≤ x.slot ∧ x.slot ≤ 5) ∧ (-1000000000 ≤ x.value ∧ x.value ≤ 1000000000) ∧ (0 ≤ x.version ∧ x.version ≤ 999999) := fun x => by
      rw [← inB_iff, ← inB_iff, ← inB_iff, ← inB_iff]
      unfold setB
      cases inB x.region 0 5 <;> cases inB x.slot 0 5 <;> cases inB x.value (-1000000000) 1000000000 <;> cases inB x.version 0 999999 <;> simp
    rw [f] at h1 hs ⊢
    exact ⟨hs.1, hs.2.1, hs.2.2.1, h1.2.2.2⟩
  refine ⟨⟨ht.1.1, ht.1.2.1, ht.1.2.2.1, ht.1.2.2.2.1, ht.1.2.2.2.2.1, ht.1.2.2.2.2.2.1, ?_⟩, ht.2.1, setsOk_iff.2 ⟨fun y hy => ?_, ?_⟩⟩
  · show (t.sets.set p _).length ≤ 12
    rw [List.length_set]; exact ht.1.2.2.2.2.2.2
  · rcases List.mem_or_eq_of_mem_set hy with hy | rfl
    · exact hr.1 y hy
    · exact hb
  · refine pair_of (z := GSet.z) fun a b hab hbl => ?_
    have hbl' : b < t.sets.length := by simpa [putAt] using hbl
    have hq := pair_get (z := GSet.z) hr.2 hab hbl'
    show lessS ((t.sets.set p _).getD a GSet.z) ((t.sets.set p _).getD b GSet.z)
    rw [set_get hp, set_get hp]
    by_cases ca : a = p
    · subst ca
      rw [if_pos rfl, if_neg (by omega)]
      unfold lessS at hq ⊢
      dsimp only
      rw [← e.1, ← e.2]; exact hq
    · rw [if_neg ca]
      by_cases cb : b = p
      · subst cb
        rw [if_pos rfl]
        unfold lessS at hq ⊢
        dsimp only
        rw [← e.1, ← e.2]; exact hq
      · rw [if_neg cb]; exact hq
theorem posA_any {xs : List GSet} (hs : sortedS xs) {r s : Int} (h : xs.any (atCell r s) = true) : posA (cellC r s) GSet.z xs < xs.length ∧ atCell r s (xs.getD (posA (cellC r s) GSet.z xs) GSet.z) = true := by
  have hc := posA_cut (cellC_rising hs r s)
  obtain ⟨y, hy, hy2⟩ := List.any_eq_true.1 h
  obtain ⟨a, ha, rfl⟩ := List.mem_iff_getElem.1 hy
  have e2 : atCell r s (xs.getD a GSet.z) = true := by simpa [ha] using hy2
  have e1 := atCell_iff.1 e2
  have key : posA (cellC r s) GSet.z xs = a := by
    refine posA_eq ⟨Nat.le_of_lt ha, fun b hb => ?_, fun b b1 b2 b3 => ?_⟩
    · have := hs b a hb ha
      unfold cellC; rw [cmpC_lt]; unfold lessS at this; rw [e1.1, e1.2] at this; exact this
    · unfold cellC at b3
      rw [cmpC_lt] at b3
      by_cases c : b = a
      · subst c; rw [e1.1, e1.2] at b3; omega
      · have := hs a b (by omega) b2
        unfold lessS at this; rw [e1.1, e1.2] at this; omega
  rw [key]; exact ⟨ha, e2⟩
/-- a Set that is added: right again, it is there, and no more than one more -/
theorem addSet_ok {t : GTx} (ht : TxOk t) {s : GSet} (hn : setB s = true) : TxOk (addSet' t s).1 ∧ (addSet' t s).1.sets.length ≤ t.sets.length + 1 ∧ ((addSet' t s).2 = true → (addSet' t s).1.sets.any (atCell s.region s.slot) = true) := by
  have hs := sortedS_of ht.2.2
  unfold addSet'
  cases h1 : t.sets.any (atCell s.region s.slot) with
  | true =>
    obtain ⟨p1, p2⟩ := posA_any hs h1
    have p3 := atCell_iff.1 p2
    refine ⟨putAt_ok ht hn p1 p3, ?_, fun _ => ?_⟩
    · show (t.sets.set _ _).length ≤ _; rw [List.length_set]; omega
    · refine List.any_eq_true.2 ⟨⟨s.region, s.slot, s.value, s.used, (t.sets.getD (posA (cellC s.region s.slot) GSet.z t.sets) GSet.z).version⟩, ?_, atCell_iff.2 ⟨rfl, rfl⟩⟩
      exact List.mem_set p1 _
  | false =>
    by_cases h2 : (t.sets.length : Int) = 12
    · rw [decide_eq_true h2]; exact ⟨ht, Nat.le_succ _, fun h => by cases h⟩
    · rw [decide_eq_false h2]
      have hc := posA_cut (cellC_rising hs s.region s.slot)
      have hl := insL_length (x := s) hc.1
      have h12 := ht.1.2.2.2.2.2.2
      have hr := setsOk_iff.1 ht.2.2
      refine ⟨⟨⟨ht.1.1, ht.1.2.1, ht.1.2.2.1, ht.1.2.2.2.1, ht.1.2.2.2.2.1, ht.1.2.2.2.2.2.1, ?_⟩, ht.2.1, setsOk_iff.2 ⟨fun y hy => ?_, ?_⟩⟩, ?_, fun _ => ?_⟩
      · show (insL _ s t.sets).length ≤ 12; omega
      · rcases mem_insL.1 hy with rfl | hy
        · exact hn
        · exact hr.1 y hy
      · exact ins_sorted (reg := GSet.region) (slot := GSet.slot) (z := GSet.z) hr.2 hc (not_any_cell h1)
      · show (insL _ s t.sets).length ≤ _; omega
      · exact List.any_eq_true.2 ⟨s, mem_insL.2 (.inl rfl), atCell_iff.2 ⟨rfl, rfl⟩⟩
theorem addSetM_of {t : GTx} {s : GSet} (h : (addSetM t s).2 = true) : TxOk t ∧ setB s = true ∧ (addSet' t s).2 = true ∧ addSetM t s = ((addSet' t s).1, true) := by
  unfold addSetM at h ⊢
  split at h
  · rename_i hc
    rw [if_pos hc]; exact ⟨hc.1, hc.2.1, hc.2.2, rfl⟩
  · cases h
/-- a Set added behind one of the same cell: as many Sets, of the same versions -/
theorem addSet_twice {t : GTx} {s w : GSet} (h : (addSetM t s).2 = true) (hw : setB w = true) (e1 : w.region = s.region) (e2 : w.slot = s.slot) :
    TxOk (addSetM t s).1 ∧ (addSetM (addSetM t s).1 w).2 = true ∧ (addSetM (addSetM t s).1 w).1.sets.length = (addSetM t s).1.sets.length ∧ ∀ i, ((addSetM (addSetM t s).1 w).1.sets.getD i GSet.z).version = ((addSetM t s).1.sets.getD i GSet.z).version := by
  obtain ⟨h1, h2, h3, h4⟩ := addSetM_of h
  obtain ⟨g1, g2, g3⟩ := addSet_ok h1 h2
  have ha := g3 h3
  rw [h4]
  generalize (addSet' t s).1 = z at g1 ha
  rw [← e1, ← e2] at ha
  obtain ⟨p1, p2⟩ := posA_any (sortedS_of g1.2.2) ha
  have e : addSet' z w = (putAt z w (posA (cellC w.region w.slot) GSet.z z.sets), true) := by unfold addSet'; rw [ha]; rfl
  have eM : addSetM z w = (putAt z w (posA (cellC w.region w.slot) GSet.z z.sets), true) := by unfold addSetM; rw [if_pos ⟨g1, hw, by rw [e]⟩, e]
  rw [eM]
  refine ⟨g1, rfl, by simp [putAt], fun i => ?_⟩
  show ((z.sets.set _ _).getD i GSet.z).version = _
  rw [set_get p1]
  split
  · rename_i c; subst c; rfl
  · rfl
theorem setB_iff {x : GSet} : setB x = true ↔ (0 ≤ x.region ∧ x.region ≤ 5) ∧ (0 ≤ x.slot ∧ x.slot ≤ 5) ∧ (-1000000000 ≤ x.value ∧ x.value ≤ 1000000000) ∧ (0 ≤ x.version ∧ x.version ≤ 999999) := by
  rw [← inB_iff, ← inB_iff, ← inB_iff, ← inB_iff]
  unfold setB
  cases inB x.region 0 5 <;> cases inB x.slot 0 5 <;> cases inB x.value (-1000000000) 1000000000 <;> cases inB x.version 0 999999 <;> simp
end Go.Proofs.YtpfcfepbhdkpdaaGreat
