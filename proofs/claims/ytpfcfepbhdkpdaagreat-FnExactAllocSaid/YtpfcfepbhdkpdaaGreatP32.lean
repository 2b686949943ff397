
/-
  Alloc, in the program.
-/
import Derived.Test.YtpfcfepbhdkpdaaGreatP30
namespace Go.Proofs.YtpfcfepbhdkpdaaGreat
open Go Go.RowKit
set_option linter.unusedVariables false
set_option linter.unusedSimpArgs false
set_option maxRecDepth 4000

/-- the first slot that is free and not taken, or -1 -/
def freeP (xs : List GCell) (b : Int → Bool) (s : Nat) : Bool := bif (bif !usedB (xs.getD s GCell.z).head then !lockedB (xs.getD s GCell.z).head else false) then !b s else false
def freeI (xs : List GCell) (b : Int → Bool) : Int := idxI (freeP xs b) (List.range 6)
theorem range_getD {n i : Nat} (h : i < n) : (List.range n).getD i 0 = i := by simp [h]
theorem freeI_at {xs : List GCell} {b : Int → Bool} {i : Nat} (hi : i < 6) (h : ∀ j, j < i → freeP xs b j = false) (k : freeP xs b i = true) : freeI xs b = i := by
  unfold freeI
  exact idxI_at (z := 0) (by simpa using hi) (fun j hj => by rw [range_getD (by omega)]; exact h j hj) (by rw [range_getD hi]; exact k)
theorem freeI_no {xs : List GCell} {b : Int → Bool} (h : ∀ j, j < 6 → freeP xs b j = false) : freeI xs b = -1 := by
  unfold freeI
  exact idxI_no (z := 0) fun j hj => by
    have hj : j < 6 := by simpa using hj
    rw [range_getD hj]; exact h j hj
theorem freeI_in {xs : List GCell} {b : Int → Bool} : (freeI xs b = -1 ∧ ∀ j, j < 6 → freeP xs b j = false) ∨ ∃ i : Nat, i < 6 ∧ freeI xs b = i ∧ freeP xs b i = true := by
  unfold freeI
  rcases idxI_cases (freeP xs b) 0 (List.range 6) with ⟨h1, h2⟩ | ⟨i, h1, h2, _, h4⟩
  · refine .inl ⟨h1, fun j hj => ?_⟩
    have := h2 j (by simpa using hj)
    rwa [range_getD hj] at this
  · have hi : i < 6 := by simpa using h1
    exact .inr ⟨i, hi, h2, by rwa [range_getD hi] at h4⟩
theorem freeI_congr {xs : List GCell} {b b' : Int → Bool} (h : ∀ s : Nat, s < 6 → b s = b' s) : freeI xs b = freeI xs b' := by
  have hp : ∀ s, s < 6 → freeP xs b s = freeP xs b' s := fun s hs => by unfold freeP; rw [h s hs]
  rcases freeI_in (xs := xs) (b := b) with ⟨h1, h2⟩ | ⟨i, h1, h2, h3⟩
  · rw [h1, freeI_no fun j hj => by rw [← hp j hj]; exact h2 j hj]
  · rw [h2]
    have hl : ∀ j, j < i → freeP xs b j = false := fun j hj => by
      unfold freeI at h2
      rcases idxI_cases (freeP xs b) 0 (List.range 6) with ⟨g1, _⟩ | ⟨k, g1, g2, g3, _⟩
      · omega
      · have : k = i := by omega
        subst this
        have := g3 j hj
        rwa [range_getD (by omega)] at this
    exact (freeI_at h1 (fun j hj => by rw [← hp j (by omega)]; exact hl j hj) (by rw [← hp i h1]; exact h3)).symm
theorem land3 (a : Nat) : a &&& 3 = a % 4 := by
  have := Nat.and_two_pow_sub_one_eq_mod a 2
  simpa using this
theorem and3 {h : Int} (k : headB h = true) : (andI h 3 == 0) = (bif !usedB h then !lockedB h else false) := by
  obtain ⟨h1, h2⟩ := headB_iff.1 k
  have e : andI h 3 = h % 4 := by
    obtain ⟨a, rfl⟩ := Int.eq_ofNat_of_zero_le h1
    rw [show (3 : Int) = ((3 : Nat) : Int) from rfl, andI_nat (by omega) (by decide), land3]; omega
  unfold usedB lockedB
  rw [k, e, tdiv_nn h1, tmod_nn (by omega), tmod_nn h1, Bool.eq_iff_iff]
  simp
  omega
theorem freeSlot_q (xs : List GCell) (hx : xs.length = 6) (hh : ∀ s, s < 6 → headB (xs.getD s GCell.z).head = true) (but : List Int) (hl : but.length ≤ 1048576) : Ans Tryz.prog 118 [] [vL 2 cCell GCell.z xs, vL 1 cInt 0 but] [] (vI (freeI xs fun s => decide (s ∈ but))) := by
  refine con_enter Tryz.func118 rfl rfl rfl fun B0 r_ D_ w0 => ?_
  refine T_auto TT_ok rfl ?_
  refine T_loopA (ι := Nat) (fun i => [(6, vI i)]) (fun _ => []) (fun i => i ≤ 6 ∧ ∀ j, j < i → freeP xs (fun s => decide (s ∈ but)) j = false) (fun i => 6 - i) 0 [] [] rfl rfl ⟨Nat.zero_le _, fun j hj => absurd hj (Nat.not_lt_zero _)⟩ (by repeat (first | exact trivial | refine And.intro ⟨_, rfl, SV.imp_refl _⟩ ?_)) (by repeat (first | exact trivial | refine And.intro ⟨_, rfl, Ch.imp_refl _⟩ ?_)) ?_
  intro i ⟨h1, h2⟩
  refine T_auto TT_ok rfl ?_
  refine T_condD rfl (fun e => ?_) (fun e => ?_)
  · have hi : i < 6 := by omega
    have h3 := hh i hi
    have h4 := and3 h3
    refine T_auto TT_ok rfl ?_
    refine RJ_Q TT_ok (contains_Int_q but hl _) rfl rfl rfl rfl rfl ?_
    rw [show ((i : Int)).toNat = i from rfl, h4]
    refine T_cond (b := freeP xs (fun s => decide (s ∈ but)) i) rfl (fun e2 => ?_) (fun e2 => ?_)
    · refine T_auto TT_ok rfl ?_
      exact T_ansI TT_ok [(4, none)] rfl rfl ((freeI_at hi h2 e2).symm)
    · refine T_auto TT_ok rfl ?_
      exact X_inv (i + 1) ⟨hi, before_succ h2 e2⟩ (by omega) (by repeat (first | exact trivial | refine And.intro ⟨_, rfl, SV.imp_refl _⟩ ?_)) (by repeat (first | exact trivial | refine And.intro ⟨_, rfl, Ch.imp_refl _⟩ ?_))
  · refine T_auto TT_ok rfl ?_
    exact T_ansI TT_ok [(4, none)] rfl rfl ((freeI_no fun j hj => h2 j (by omega)).symm)
/-- the slots of region r among notes and Sets -/
def butL (t : GTx) (r : Int) : List Int := (t.reads.filter fun n => n.region == r).map GNote.slot ++ (t.sets.filter fun n => n.region == r).map GSet.slot
def takenB (t : GTx) (r s : Int) : Bool := bif t.reads.any (atNote r s) then true else t.sets.any (atCell r s)
theorem mem_butL {t : GTx} {r s : Int} : decide (s ∈ butL t r) = takenB t r s := by
  rw [Bool.eq_iff_iff, decide_eq_true_iff]
  unfold butL takenB
  rw [List.mem_append, List.mem_map, List.mem_map]
  constructor
  · rintro (⟨n, h1, h2⟩ | ⟨n, h1, h2⟩)
    · obtain ⟨g1, g2⟩ := List.mem_filter.1 h1
      rw [List.any_eq_true.2 ⟨n, g1, atNote_iff.2 ⟨by simpa using g2, h2⟩⟩]; rfl
    · obtain ⟨g1, g2⟩ := List.mem_filter.1 h1
      rw [List.any_eq_true.2 ⟨n, g1, atCell_iff.2 ⟨by simpa using g2, h2⟩⟩]
      cases t.reads.any (atNote r s) <;> rfl
  · intro h
    cases c : t.reads.any (atNote r s) with
    | true =>
      obtain ⟨n, h1, h2⟩ := List.any_eq_true.1 c
      have h3 := atNote_iff.1 h2
      exact .inl ⟨n, List.mem_filter.2 ⟨h1, by simp [h3.1]⟩, h3.2⟩
    | false =>
      rw [c] at h
      obtain ⟨n, h1, h2⟩ := List.any_eq_true.1 (show t.sets.any (atCell r s) = true from h)
      have h3 := atCell_iff.1 h2
      exact .inr ⟨n, List.mem_filter.2 ⟨h1, by simp [h3.1]⟩, h3.2⟩
theorem butL_len (t : GTx) (r : Int) : (butL t r).length ≤ t.reads.length + t.sets.length := by
  unfold butL
  rw [List.length_append, List.length_map, List.length_map]
  exact Nat.add_le_add (List.length_filter_le _ _) (List.length_filter_le _ _)
def slotF (c : GCluster) (t : GTx) (r : Int) : Int := freeI (cellsOf (machAt c r.toNat 0) r) (takenB t r)
def verF (c : GCluster) (t : GTx) (r : Int) : Int := (cellAt c r (slotF c t r)).head.tdiv 4
def noteF (c : GCluster) (t : GTx) (r : Int) : GNote := ⟨r, slotF c t r, verF c t r, 0, false⟩
def setF (c : GCluster) (t : GTx) (r : Int) : GSet := ⟨r, slotF c t r, 0, true, verF c t r⟩
noncomputable def allocT (c : GCluster) (t : GTx) (r : Int) : GTx := (addSet' (addRead' t (noteF c t r)).1 (setF c t r)).1
noncomputable def allocN (c : GCluster) (t : GTx) (r : Int) : Int :=
  bif !inB r 0 ((c.places.length : Int) - 1) then 5 else bif !(machAt c r.toNat 0).alive then 6 else bif decide (slotF c t r < 0) then 9
  else bif !(addRead' t (noteF c t r)).2 then 9 else bif !setB (setF c t r) then 9 else bif !(addSet' (addRead' t (noteF c t r)).1 (setF c t r)).2 then 9 else 0
theorem alloc_k (c : GCluster) (hb : D.bds bigN (cCluster c)) (hok : ClusOk c) (t : GTx) (ht : TxOk t) (r : Int) :
    Con Tryz.prog 55 [900, 901, 902, 77, 78, 79] [.a (.p 900 0), .a (.p 77 0), vI r] [(900, .rrow (rowC c 901 902 903)), (901, roC 1 cPlace GPlace.z c.places), (902, roC 4 cMachine GMachine.z c.machines), (77, .row (rowT t 78 79)), (78, arrC 5 cNote GNote.z t.reads), (79, arrC 5 cSet GSet.z t.sets)]
      (fun u : GTx => allocN c t r = 0 → u = allocT c t r) (fun _ => [vI (if allocN c t r = 0 then slotF c t r else 0), vI (allocN c t r)]) fun u => [(77, .row (rowT u 80 81)), (80, arrC 5 cNote GNote.z u.reads), (81, arrC 5 cSet GSet.z u.sets)] := by
  have hsS := sortedS_of ht.2.2
  have hsN := sortedN_of ht.2.1
  have hl1 := ht.1.2.2.2.2.2.1
  have hl2 := ht.1.2.2.2.2.2.2
  have b1 : c.places.length ≤ 1048576 := hb.2.2.1.1
  refine con_enter Tryz.func55 rfl rfl rfl fun B0 r_ D_ w0 => ?_
  refine T_auto TT_ok rfl ?_
  refine RJ_Q TT_ok (sizePlace_q _) rfl rfl rfl rfl rfl ?_
  refine RJ_Q TT_ok (impl_within_q _ _ _) rfl rfl rfl rfl rfl ?_
  refine T_cond (b := !inB r 0 ((c.places.length : Int) - 1)) rfl (fun e => ?_) (fun e => ?_)
  · rw [show allocN c t r = 5 from by unfold allocN; rw [e]; rfl]
    refine T_auto TT_ok rfl ?_
    refine T_view (V_fold 77 4 78 rfl rfl rfl rfl rfl rfl rfl) ?_
    refine T_view (V_open 77 4 80 rfl rfl rfl rfl rfl rfl) ?_
    refine T_view (V_fold 77 5 79 rfl rfl rfl rfl rfl rfl rfl) ?_
    refine T_view (V_open 77 5 81 rfl rfl rfl rfl rfl rfl) ?_
    refine T_ret TT_ok (t) [(6, none), (7, none)] rfl rfl ?_ ?_ ?_
    · exact SVs.imp_refl _
    · exact ⟨⟨_, rfl, Ch.imp_refl _⟩, ⟨_, rfl, Ch.imp_refl _⟩, ⟨_, rfl, Ch.imp_refl _⟩, trivial⟩
    · intro h; cases h
  have hr := guard_in e
  have hpl := hok.pl (r := r.toNat) (by omega)
  have hm := (hok.at (r := r.toNat) (k := 0) (by omega) (by omega)).1
  have bm := bdM_any hb (mAt c r.toNat 0).toNat
  refine T_auto TT_ok rfl ?_
  refine RJ_C TT_ok (primary_k c hok r hr) rfl rfl (SVs.imp_refl _) (fun _ => rfl) rfl rfl rfl (fun _ _ => ?_) (hin := ⟨⟨_, rfl, ro_rrow⟩, ⟨_, rfl, ro_ro⟩, ⟨_, rfl, ro_ro⟩, trivial⟩)
  refine RJ_auto TT_ok rfl ?_
  refine T_cond (b := !(machAt c r.toNat 0).alive) rfl (fun e3 => ?_) (fun e3 => ?_)
  · rw [show allocN c t r = 6 from by unfold allocN; rw [e, e3]; rfl]
    refine T_auto TT_ok rfl ?_
    refine T_view (V_fold 77 4 78 rfl rfl rfl rfl rfl rfl rfl) ?_
    refine T_view (V_open 77 4 80 rfl rfl rfl rfl rfl rfl) ?_
    refine T_view (V_fold 77 5 79 rfl rfl rfl rfl rfl rfl rfl) ?_
    refine T_view (V_open 77 5 81 rfl rfl rfl rfl rfl rfl) ?_
    refine T_ret TT_ok (t) [(6, none), (7, none)] rfl rfl ?_ ?_ ?_
    · exact SVs.imp_refl _
    · exact ⟨⟨_, rfl, Ch.imp_refl _⟩, ⟨_, rfl, Ch.imp_refl _⟩, ⟨_, rfl, Ch.imp_refl _⟩, trivial⟩
    · intro h; cases h
  have ha : (machAt c r.toNat 0).alive = true := by simpa using e3
  refine T_view (V_unro (fr' := []) 8 902 rfl rfl rfl hm) ?_
  refine T_auto TT_ok rfl ?_
  refine T_view (V_nil 9 90 1 (fun i => cInt (([] : List Int).getD i 0)) rfl rfl rfl rfl) ?_
  refine T_loopA (ι := Nat) (fun i => [(40, vI i), (9, .a (.g 90))]) (fun i => [(90, arrC 1 cInt 0 (((t.reads.take i).filter fun n => n.region == r).map GNote.slot))]) (fun i => i ≤ t.reads.length) (fun i => t.reads.length - i) 0 [90] [90] rfl rfl (Nat.zero_le _) (by repeat (first | exact trivial | refine And.intro ⟨_, rfl, SV.imp_refl _⟩ ?_)) (by repeat (first | exact trivial | refine And.intro ⟨_, rfl, Ch.imp_refl _⟩ ?_)) ?_
  intro i h1
  refine T_auto TT_ok rfl ?_
  refine T_condD rfl (fun e => ?_) (fun e => ?_)
  · have hi : i < t.reads.length := by omega
    have hle : (((t.reads.take i).filter fun n => n.region == r).map GNote.slot).length ≤ i := by
      rw [List.length_map]
      exact Nat.le_trans (List.length_filter_le _ _) (by rw [List.length_take]; omega)
    have hstep := take_succ_getD (z := GNote.z) hi
    refine T_auto TT_ok rfl ?_
    refine T_cond (b := (t.reads.getD i GNote.z).region == r) rfl (fun e2 => ?_) (fun e2 => ?_)
    · refine T_auto TT_ok rfl ?_
      refine RJ_bs TT_ok 51 (fun _ => cInt (t.reads.getD i GNote.z).slot) rfl rfl rfl rfl rfl rfl rfl (fun i hi => by rcases i with _ | i <;> first | rfl | omega) (mu1 := []) rfl rfl rfl ?_
      refine RJ_auto TT_ok rfl ?_
      refine RJ_appM TT_ok 90 51 52 rfl rfl rfl rfl rfl rfl rfl rfl rfl rfl rfl rfl ⟨by simp; simp at hle; omega, by unfold maxL; omega⟩ ?_
      refine RJ_auto TT_ok rfl ?_
      refine X_view (V_sw 90 52) ?_
      exact X_inv (i + 1) hi (by omega) (by repeat (first | exact trivial | refine And.intro ⟨_, rfl, SV.imp_refl _⟩ ?_)) ⟨⟨_, rfl, imp_app1 (x := (t.reads.getD i GNote.z).slot) (by rw [hstep, List.filter_append, List.map_append]; simp only [List.filter_cons, List.filter_nil, e2, if_true, List.map_cons, List.map_nil]) rfl⟩, (by repeat (first | exact trivial | refine And.intro ⟨_, rfl, Ch.imp_refl _⟩ ?_))⟩
    · refine T_auto TT_ok rfl ?_
      exact X_inv (i + 1) hi (by omega) (by repeat (first | exact trivial | refine And.intro ⟨_, rfl, SV.imp_refl _⟩ ?_)) ⟨⟨_, rfl, imp_list (by rw [hstep, List.filter_append, show List.filter (fun n : GNote => n.region == r) [t.reads.getD i GNote.z] = [] from by rw [List.filter_cons, e2]; rfl, List.append_nil])⟩, (by repeat (first | exact trivial | refine And.intro ⟨_, rfl, Ch.imp_refl _⟩ ?_))⟩
  have hi : i = t.reads.length := by omega
  subst hi
  rw [List.take_length]
  refine T_auto TT_ok rfl ?_
  refine T_loopA (ι := Nat) (fun i => [(59, vI i), (9, .a (.g 90))]) (fun i => [(90, arrC 1 cInt 0 ((t.reads.filter fun n => n.region == r).map GNote.slot ++ ((t.sets.take i).filter fun n => n.region == r).map GSet.slot))]) (fun i => i ≤ t.sets.length) (fun i => t.sets.length - i) 0 [90] [90] rfl rfl (Nat.zero_le _) (by repeat (first | exact trivial | refine And.intro ⟨_, rfl, SV.imp_refl _⟩ ?_)) ⟨⟨_, rfl, imp_list (by simp)⟩, trivial⟩ ?_
  intro i h1
  refine T_auto TT_ok rfl ?_
  refine T_condD rfl (fun e => ?_) (fun e => ?_)
  · have hi : i < t.sets.length := by omega
    have hle : ((t.reads.filter fun n => n.region == r).map GNote.slot ++ ((t.sets.take i).filter fun n => n.region == r).map GSet.slot).length ≤ t.reads.length + i := by
      rw [List.length_append, List.length_map, List.length_map]
      exact Nat.add_le_add (List.length_filter_le _ _) (Nat.le_trans (List.length_filter_le _ _) (by rw [List.length_take]; omega))
    have hstep := take_succ_getD (z := GSet.z) hi
    refine T_auto TT_ok rfl ?_
    refine T_cond (b := (t.sets.getD i GSet.z).region == r) rfl (fun e2 => ?_) (fun e2 => ?_)
    · refine T_auto TT_ok rfl ?_
      refine RJ_bs TT_ok 70 (fun _ => cInt (t.sets.getD i GSet.z).slot) rfl rfl rfl rfl rfl rfl rfl (fun i hi => by rcases i with _ | i <;> first | rfl | omega) (mu1 := []) rfl rfl rfl ?_
      refine RJ_auto TT_ok rfl ?_
      refine RJ_appM TT_ok 90 70 71 rfl rfl rfl rfl rfl rfl rfl rfl rfl rfl rfl rfl ⟨by show (((t.reads.filter fun n => n.region == r).map GNote.slot ++ ((t.sets.take i).filter fun n => n.region == r).map GSet.slot).length + 1) * 8 ≤ _; omega, by unfold maxL; omega⟩ ?_
      refine RJ_auto TT_ok rfl ?_
      refine X_view (V_sw 90 71) ?_
      exact X_inv (i + 1) hi (by omega) (by repeat (first | exact trivial | refine And.intro ⟨_, rfl, SV.imp_refl _⟩ ?_)) ⟨⟨_, rfl, imp_app1 (x := (t.sets.getD i GSet.z).slot) (by rw [hstep, List.filter_append, List.map_append]; simp only [List.filter_cons, List.filter_nil, e2, if_true, List.map_cons, List.map_nil, List.append_assoc]) rfl⟩, (by repeat (first | exact trivial | refine And.intro ⟨_, rfl, Ch.imp_refl _⟩ ?_))⟩
    · refine T_auto TT_ok rfl ?_
      exact X_inv (i + 1) hi (by omega) (by repeat (first | exact trivial | refine And.intro ⟨_, rfl, SV.imp_refl _⟩ ?_)) ⟨⟨_, rfl, imp_list (by rw [hstep, List.filter_append, show List.filter (fun n : GSet => n.region == r) [t.sets.getD i GSet.z] = [] from by rw [List.filter_cons, e2]; rfl, List.append_nil])⟩, (by repeat (first | exact trivial | refine And.intro ⟨_, rfl, Ch.imp_refl _⟩ ?_))⟩
  have hi : i = t.sets.length := by omega
  subst hi
  rw [List.take_length]
  have hbl := butL_len t r
  have hc6 := (cell_ok (s := 0) hok hr (by decide) ha).1
  have hch : ∀ s, s < 6 → headB ((cellsOf (machAt c r.toNat 0) r).getD s GCell.z).head = true := fun s hs => (cell_ok (s := s) hok hr (by omega) ha).2.1
  refine T_auto TT_ok rfl ?_
  refine RJ_QR TT_ok (cells_q (machAt c r.toNat 0) bm.2.1.1 r) rfl rfl (SVs.imp_refl _) rfl rfl ?_
  refine RJ_Q TT_ok (freeSlot_q (cellsOf (machAt c r.toNat 0) r) hc6 hch (butL t r) (by omega)) rfl rfl rfl rfl rfl ?_
  rw [show freeI (cellsOf (machAt c r.toNat 0) r) (fun s => decide (s ∈ butL t r)) = slotF c t r from by unfold slotF; congr 1; exact funext fun s => mem_butL]
  refine T_condD rfl (fun e4 => ?_) (fun e4 => ?_)
  · rw [show allocN c t r = 9 from by unfold allocN; rw [‹(!inB r 0 ((c.places.length : Int) - 1)) = false›, e3, decide_eq_true e4]; rfl]
    refine T_auto TT_ok rfl ?_
    refine T_view (V_fold 77 4 78 rfl rfl rfl rfl rfl rfl rfl) ?_
    refine T_view (V_open 77 4 80 rfl rfl rfl rfl rfl rfl) ?_
    refine T_view (V_fold 77 5 79 rfl rfl rfl rfl rfl rfl rfl) ?_
    refine T_view (V_open 77 5 81 rfl rfl rfl rfl rfl rfl) ?_
    refine T_ret TT_ok (t) [(6, none), (7, none)] rfl rfl ?_ ?_ ?_
    · exact SVs.imp_refl _
    · exact ⟨⟨_, rfl, Ch.imp_refl _⟩, ⟨_, rfl, Ch.imp_refl _⟩, ⟨_, rfl, Ch.imp_refl _⟩, trivial⟩
    · intro h; cases h
  have hs : 0 ≤ slotF c t r ∧ slotF c t r ≤ 5 := by
    refine ⟨by omega, ?_⟩
    unfold slotF
    rcases freeI_in (xs := cellsOf (machAt c r.toNat 0) r) (b := takenB t r) with ⟨h1, _⟩ | ⟨i, h1, h2, _⟩ <;> omega
  obtain ⟨c1, c2, c3⟩ := cell_ok hok hr hs ha
  have hh := headB_iff.1 c2
  have hv : 0 ≤ ((cellsOf (machAt c r.toNat 0) r).getD (slotF c t r).toNat GCell.z).head.tdiv 4 ∧ ((cellsOf (machAt c r.toNat 0) r).getD (slotF c t r).toNat GCell.z).head.tdiv 4 ≤ 1000000 := by
    show 0 ≤ (cellAt c r (slotF c t r)).head.tdiv 4 ∧ (cellAt c r (slotF c t r)).head.tdiv 4 ≤ 1000000
    rw [Int.tdiv_eq_ediv_of_nonneg hh.1]; omega
  refine T_auto TT_ok rfl ?_
  refine RJ_C TT_ok (Con.sw 900 77 (Con.sw 901 78 (Con.sw 902 79 (Con.sw 904 80 (addRead_c t (noteF c t r) hl1 hsN))))) rfl rfl (SVs.imp_refl _) (fun _ => rfl) rfl rfl rfl fun _ _ => ?_
  refine RJ_auto TT_ok rfl ?_
  have hA : allocN c t r = bif !(addRead' t (noteF c t r)).2 then 9 else bif !setB (setF c t r) then 9 else bif !(addSet' (addRead' t (noteF c t r)).1 (setF c t r)).2 then 9 else 0 := by
    unfold allocN; rw [‹(!inB r 0 ((c.places.length : Int) - 1)) = false›, e3, decide_eq_false e4]; rfl
  cases h1 : (addRead' t (noteF c t r)).2 with
  | false =>
    rw [h1] at hA
    rw [show allocN c t r = 9 from hA]
    refine RJ_Q TT_ok (impl_isSet_q (setF c t r)) rfl rfl rfl rfl rfl ?_
    refine RJ_skip (vB true) rfl rfl rfl rfl (rfl) rfl rfl ?_
    refine RJ_auto TT_ok rfl ?_
    refine T_cond rfl (fun _ => ?_) (fun e => by cases e)
    refine T_auto TT_ok rfl ?_
    refine T_view (V_fold 77 5 79 rfl rfl rfl rfl rfl rfl rfl) ?_
    refine T_view (V_open 77 5 81 rfl rfl rfl rfl rfl rfl) ?_
    refine T_ret TT_ok (((addRead' t (noteF c t r)).1)) [(6, none), (7, none)] rfl rfl ?_ ?_ ?_
    · exact SVs.imp_refl _
    · exact ⟨⟨_, rfl, Ch.imp_refl _⟩, ⟨_, rfl, Ch.imp_refl _⟩, ⟨_, rfl, imp_list (addRead_sets _ _).symm⟩, trivial⟩
    · intro h; cases h
  | true =>
    rw [h1] at hA
    refine RJ_Q TT_ok (impl_isSet_q (setF c t r)) rfl rfl rfl rfl rfl ?_
    cases h2 : setB (setF c t r) with
    | false =>
      rw [h2] at hA
      rw [show allocN c t r = 9 from hA]
      refine RJ_skip (vB true) rfl rfl rfl rfl (rfl) rfl rfl ?_
      refine RJ_auto TT_ok rfl ?_
      refine T_cond rfl (fun _ => ?_) (fun e => by cases e)
      refine T_auto TT_ok rfl ?_
      refine T_view (V_fold 77 5 79 rfl rfl rfl rfl rfl rfl rfl) ?_
      refine T_view (V_open 77 5 81 rfl rfl rfl rfl rfl rfl) ?_
      refine T_ret TT_ok (((addRead' t (noteF c t r)).1)) [(6, none), (7, none)] rfl rfl ?_ ?_ ?_
      · exact SVs.imp_refl _
      · exact ⟨⟨_, rfl, Ch.imp_refl _⟩, ⟨_, rfl, Ch.imp_refl _⟩, ⟨_, rfl, imp_list (addRead_sets _ _).symm⟩, trivial⟩
      · intro h; cases h
    | true =>
      rw [h2] at hA
      have t1 := sortedS_of ht.2.2
      rw [← addRead_sets t (noteF c t r)] at t1
      have t2 : (addRead' t (noteF c t r)).1.sets.length ≤ 12 := by rw [addRead_sets]; exact hl2
      refine RJ_C TT_ok (Con.sw 900 77 (Con.sw 901 80 (Con.sw 902 79 (Con.sw 904 81 (addSet_c (addRead' t (noteF c t r)).1 (setF c t r) t2 t1))))) rfl rfl (SVs.imp_refl _) (fun _ => rfl) rfl rfl rfl (fun _ _ => ?_) (hin := ⟨⟨_, rfl, Ch.imp_refl _⟩, ⟨_, rfl, Ch.imp_refl _⟩, ⟨_, rfl, imp_list (addRead_sets t (noteF c t r)).symm⟩, trivial⟩)
      refine RJ_auto TT_ok rfl ?_
      cases h3 : (addSet' (addRead' t (noteF c t r)).1 (setF c t r)).2 with
      | false =>
        rw [h3] at hA
        rw [show allocN c t r = 9 from hA]
        refine T_cond rfl (fun _ => ?_) (fun e => by cases e)
        refine T_auto TT_ok rfl ?_
        refine T_ret TT_ok ((allocT c t r)) [(6, none), (7, none)] rfl rfl ?_ ?_ ?_
        · exact SVs.imp_refl _
        · exact ⟨⟨_, rfl, Ch.imp_refl _⟩, ⟨_, rfl, imp_list (addSet_reads _ _).symm⟩, ⟨_, rfl, Ch.imp_refl _⟩, trivial⟩
        · intro h; cases h
      | true =>
        rw [h3] at hA
        rw [show allocN c t r = 0 from hA]
        refine T_cond rfl (fun e => by cases e) (fun _ => ?_)
        refine T_auto TT_ok rfl ?_
        refine T_ret TT_ok ((allocT c t r)) [(6, none), (7, none)] rfl rfl ?_ ?_ ?_
        · exact SVs.imp_refl _
        · exact ⟨⟨_, rfl, Ch.imp_refl _⟩, ⟨_, rfl, imp_list (addSet_reads _ _).symm⟩, ⟨_, rfl, Ch.imp_refl _⟩, trivial⟩
        · intro _; rfl
open Classical in
noncomputable def allocM (c : GCluster) (id r : Int) : GCluster × Int × Int :=
  if ClusOk c then (if runC c id = 0 then (if allocN c (txAt c id) r = 0 then (putC c id (allocT c (txAt c id) r), slotF c (txAt c id) r, 0) else (c, -1, allocN c (txAt c id) r)) else (c, -1, runC c id)) else (GCluster.z, -1, 1)
theorem impl_Alloc_m (c : GCluster) (hb : D.bds bigN (cCluster c)) (id r : Int) : MkCII Tryz.prog 18 [vR (cCluster c), vI id, vI r] (allocM c id r).1 (allocM c id r).2.1 (allocM c id r).2.2 := by
  have b3 : c.txs.length ≤ 1048576 := hb.2.2.2.2.1.1
  refine con_enter Tryz.func18 rfl rfl rfl fun B0 r_ D_ w0 => ?_
  refine T_auto1 TT_ok rfl ?_
  refine T_freeze 3 rfl rfl rfl rfl (fun _ => rfl) (fun _ => rfl) fun r_ => ?_
  refine T_auto TT_ok rfl ?_
  refine RJ_Q TT_ok (impl_isCluster_q c hb) rfl rfl rfl rfl rfl ?_
  refine T_condX rfl (fun e => ?_) (fun e => ?_)
  · rw [show allocM c id r = (GCluster.z, -1, 1) from if_neg (dec_not.1 e)]
    refine T_auto TT_ok rfl ?_
    refine T_view (V_nilR 6 2 1 (fun i => cPlace (([] : List GPlace).getD i GPlace.z)) rfl rfl rfl) ?_
    refine T_view (V_nilR 6 3 4 (fun i => cMachine (([] : List GMachine).getD i GMachine.z)) rfl rfl rfl) ?_
    refine T_view (V_nilR 6 4 7 (fun i => cTx (([] : List GTx).getD i GTx.z)) rfl rfl rfl) ?_
    refine T_view (V_open 6 2 901 rfl rfl rfl rfl rfl rfl) ?_
    refine T_view (V_open 6 3 902 rfl rfl rfl rfl rfl rfl) ?_
    refine T_view (V_open 6 4 903 rfl rfl rfl rfl rfl rfl) ?_
    refine T_ret TT_ok (()) [(6, some 32), (7, none), (8, none)] rfl rfl ?_ ?_ ?_
    · exact SVs.imp_refl _
    · exact ⟨⟨_, rfl, Ch.imp_refl _⟩, ⟨_, rfl, Ch.imp_refl _⟩, ⟨_, rfl, Ch.imp_refl _⟩, trivial⟩
    · trivial
  have hok := dec_iff.1 e
  refine T_auto TT_ok rfl ?_
  refine RJ_C TT_ok (Con.sw 901 6001 (Con.sw 902 6002 (Con.sw 903 6003 (cloneCluster_m c hb)))) rfl rfl (SVs.imp_refl _) (fun _ => rfl) rfl rfl rfl fun _ _ => ?_
  refine RJ_auto TT_ok rfl ?_
  by_cases h0 : runC c id = 0
  · have hge := (live_of_run h0).2.2
    have hlt := findI_lt (c := c) (id := id)
    have hin := findI_in hge
    have ht := hok.tx hin.1
    refine RJ_C TT_ok (Con.sw 900 9 (Con.sw 901 6001 (Con.sw 902 6002 (Con.sw 903 6003 (running_yes c b3 hok id h0))))) rfl rfl (SVs.imp_refl _) (fun _ => rfl) rfl rfl rfl (fun _ _ => ?_)
    refine RJ_auto TT_ok rfl ?_
    refine T_cond rfl (fun _ => ?_) (fun e => by cases e)
    refine T_view (V_carve 6003 (findI c id) 77 rfl rfl rfl rfl rfl rfl ⟨hge, hlt⟩) ?_
    refine T_view (V_pe 10 rfl rfl rfl) ?_
    refine T_view (V_open 77 4 78 rfl rfl rfl rfl rfl rfl) ?_
    refine T_view (V_open 77 5 79 rfl rfl rfl rfl rfl rfl) ?_
    refine T_auto TT_ok rfl ?_
    refine RJ_C (nk := [77, 80, 81]) TT_ok (Con.sw 900 9 (Con.sw 901 6001 (Con.sw 902 6002 (Con.sw 903 6003 (alloc_k c hb hok (txAt c id) ht r))))) rfl rfl (SVs.imp_refl _) (fun _ => rfl) rfl rfl rfl fun u hu => ?_
    refine RJ_auto TT_ok rfl ?_
    by_cases hN : allocN c (txAt c id) r = 0
    · rw [show allocM c id r = (putC c id (allocT c (txAt c id) r), slotF c (txAt c id) r, 0) from by unfold allocM; rw [if_pos hok, if_pos h0, if_pos hN]]
      obtain rfl := hu hN
      rw [if_pos hN, hN]
      refine T_cond rfl (fun e => by cases e) (fun _ => ?_)
      refine T_auto TT_ok rfl ?_
      refine T_view (V_fold 77 4 80 rfl rfl rfl rfl rfl rfl rfl) ?_
      refine T_view (V_fold 77 5 81 rfl rfl rfl rfl rfl rfl rfl) ?_
      refine T_view (V_uncarve 6003 77 rfl rfl rfl rfl rfl rfl rfl) ?_
      refine T_view (V_sw 6001 901) ?_
      refine T_view (V_sw 6002 902) ?_
      refine T_view (V_sw 6003 903) ?_
      refine T_ret TT_ok (()) [(6, some 32), (7, none), (8, none)] rfl rfl ?_ ?_ ?_
      · exact SVs.imp_refl _
      · exact ⟨⟨_, rfl, Ch.imp_refl _⟩, ⟨_, rfl, Ch.imp_refl _⟩, ⟨_, rfl, imp_set (OwnI.refl _)⟩, trivial⟩
      · trivial
    · rw [show allocM c id r = (c, -1, allocN c (txAt c id) r) from by unfold allocM; rw [if_pos hok, if_pos h0, if_neg hN]]
      rw [if_neg hN]
      refine T_condN rfl (fun _ => ?_) (fun e => absurd e hN)
      refine T_auto TT_ok rfl ?_
      refine RJ_C TT_ok (cloneCluster_m c hb) rfl rfl (SVs.imp_refl _) (fun _ => rfl) rfl rfl rfl fun _ _ => ?_
      refine RJ_auto TT_ok rfl ?_
      refine T_ret TT_ok (()) [(6, some 32), (7, none), (8, none)] rfl rfl ?_ ?_ ?_
      · exact SVs.imp_refl _
      · exact ⟨⟨_, rfl, Ch.imp_refl _⟩, ⟨_, rfl, Ch.imp_refl _⟩, ⟨_, rfl, Ch.imp_refl _⟩, trivial⟩
      · trivial
  · rw [show allocM c id r = (c, -1, runC c id) from by unfold allocM; rw [if_pos hok, if_neg h0]]
    refine RJ_C TT_ok (Con.sw 900 9 (Con.sw 901 6001 (Con.sw 902 6002 (Con.sw 903 6003 (running_no c b3 hok id h0))))) rfl rfl (SVs.imp_refl _) (fun _ => rfl) rfl rfl rfl (fun _ _ => ?_)
    refine RJ_auto TT_ok rfl ?_
    refine T_condE rfl (fun e => absurd e h0) (fun _ => ?_)
    refine T_auto TT_ok rfl ?_
    refine T_condN rfl (fun _ => ?_) (fun e => absurd e h0)
    refine T_auto TT_ok rfl ?_
    refine RJ_C TT_ok (cloneCluster_m c hb) rfl rfl (SVs.imp_refl _) (fun _ => rfl) rfl rfl rfl fun _ _ => ?_
    refine RJ_auto TT_ok rfl ?_
    refine T_ret TT_ok (()) [(6, some 32), (7, none), (8, none)] rfl rfl ?_ ?_ ?_
    · exact SVs.imp_refl _
    · exact ⟨⟨_, rfl, Ch.imp_refl _⟩, ⟨_, rfl, Ch.imp_refl _⟩, ⟨_, rfl, Ch.imp_refl _⟩, trivial⟩
    · trivial
end Go.Proofs.YtpfcfepbhdkpdaaGreat
