
/-
  Where a note stands; AddRead and AddSet; on both sides.
-/
import Derived.Test.YtpfcfepbhdkpdaaGreatP19
import Derived.Test.YtpfcfepbhdkpdaaGreatS3
namespace Go.Proofs.YtpfcfepbhdkpdaaGreat
open Go Go.RowKit
set_option linter.unusedVariables false
set_option linter.unusedSimpArgs false
set_option maxRecDepth 4000

theorem searchNote_c (xs : List GNote) (hl : xs.length ≤ 1048576) (s0 : GNote) (c : GNote → Int) (hm : rising c GNote.z xs) : Con Tryz.prog 163 [] [vL 5 cNote GNote.z xs, vR (cNote s0), fbO (fun x => [RD.ag (cNote x), RD.ag (cNote s0)]) fun x => .int .i64 (c x)] [] (cutAt c GNote.z xs)
    (fun i => [vI i, vB (bif decide ((i : Int) < xs.length) then c (xs.getD i GNote.z) == 0 else false)]) fun _ => [] := by
  refine con_enter Tryz.func163 rfl rfl rfl fun B0 r_ D_ w0 => ?_
  refine T_auto TT_ok rfl ?_
  refine T_loopA (ι := Nat × Nat) (fun y => [(9, vI y.1), (10, vI y.2)]) (fun _ => []) (fun y => y.1 ≤ y.2 ∧ y.2 ≤ xs.length ∧ (∀ a, a < y.1 → c (xs.getD a GNote.z) < 0) ∧ ∀ a, y.2 ≤ a → a < xs.length → ¬ c (xs.getD a GNote.z) < 0) (fun y => y.2 - y.1) (0, xs.length) [] [] rfl rfl ⟨Nat.zero_le _, Nat.le_refl _, fun a h => absurd h (Nat.not_lt_zero _), fun a h1 h2 => by omega⟩ (by repeat (first | exact trivial | refine And.intro ⟨_, rfl, SV.imp_refl _⟩ ?_)) (by repeat (first | exact trivial | refine And.intro ⟨_, rfl, Ch.imp_refl _⟩ ?_)) ?_
  rintro ⟨i, j⟩ ⟨h1, h2, h3, h4⟩
  dsimp only at h1 h2 h3 h4 ⊢
  refine T_auto TT_ok rfl ?_
  refine T_condD rfl (fun e => ?_) (fun e => ?_)
  · have hij : i < j := by omega
    have hh : (((i : Int) + j) / 2).toNat = (i + j) / 2 := by omega
    refine T_auto TT_ok rfl ?_
    refine T_drawA TT_ok [] rfl rfl fun B0 H0 => ?_
    refine DJ_one 6 rfl (by kernel_rfl) (OJ_F rfl rfl rfl ⟨xs.getD (((i : Int) + j) / 2).toNat GNote.z, rfl, rfl⟩ (SJ_dj ?_))
    refine DJ_on TT_ok rfl ?_
    refine DJ_endA TT_ok rfl ?_
    rw [hh]
    refine T_condD rfl (fun e2 => ?_) (fun e2 => ?_)
    · refine T_auto TT_ok rfl ?_
      refine X_inv ((i + j) / 2 + 1, j) ⟨by dsimp only; omega, h2, fun a ha => ?_, h4⟩ (by show j - ((i + j) / 2 + 1) < j - i; omega) ⟨⟨_, rfl, SV.imp_of (vI_eq (by dsimp only; omega))⟩, ⟨_, rfl, SV.imp_refl _⟩, (by repeat (first | exact trivial | refine And.intro ⟨_, rfl, SV.imp_refl _⟩ ?_))⟩ (by repeat (first | exact trivial | refine And.intro ⟨_, rfl, Ch.imp_refl _⟩ ?_))
      exact hm a ((i + j) / 2) (by dsimp only at ha; omega) (by omega) e2
    · refine T_auto TT_ok rfl ?_
      refine X_inv (i, (i + j) / 2) ⟨by dsimp only; omega, by dsimp only; omega, h3, fun a a1 a2 hc => ?_⟩ (by show (i + j) / 2 - i < j - i; omega) ⟨⟨_, rfl, SV.imp_refl _⟩, ⟨_, rfl, SV.imp_of (vI_eq (by dsimp only; omega))⟩, (by repeat (first | exact trivial | refine And.intro ⟨_, rfl, SV.imp_refl _⟩ ?_))⟩ (by repeat (first | exact trivial | refine And.intro ⟨_, rfl, Ch.imp_refl _⟩ ?_))
      exact e2 (hm ((i + j) / 2) a (by dsimp only at a1; omega) a2 hc)
  · have hij : i = j := by omega
    subst hij
    refine T_auto TT_ok rfl ?_
    refine T_drawA TT_ok [] rfl rfl fun B0 H0 => ?_
    refine DJ_one 11 rfl (by kernel_rfl) (OJ_FG rfl rfl rfl rfl rfl ⟨xs.getD i GNote.z, rfl, rfl⟩ (SJ_dj ?_))
    refine DJ_on TT_ok rfl ?_
    refine DJ_endA TT_ok rfl ?_
    refine T_ret TT_ok (i) [(6, none), (7, none)] rfl rfl ?_ ?_ ?_
    · exact SVs.imp_refl _
    · trivial
    · exact ⟨h2, h3, h4⟩
def sortedN (xs : List GNote) : Prop := ∀ a b, a < b → b < xs.length → lessN (xs.getD a GNote.z) (xs.getD b GNote.z)
theorem sortedN_of {xs : List GNote} (h : readsOk xs xs.length) : sortedN xs := fun a b hab hb => by
  induction b with
  | zero => omega
  | succ b ih =>
    have h1 := (h (b + 1) hb).2 (by omega)
    rw [Nat.add_sub_cancel] at h1
    by_cases c : a = b
    · subst c; exact h1
    · have h2 := ih (by omega) (by omega)
      unfold lessN at h1 h2 ⊢
      omega
theorem read1_q (a b : GNote) : Ans Tryz.prog 164 [] [vR (cNote a), vR (cNote b)] [] (vI (cmpC a.region a.slot b.region b.slot)) := by
  refine con_enter Tryz.func164 rfl rfl rfl fun B0 r_ D_ w0 => ?_
  refine T_auto TT_ok rfl ?_
  refine RJ_Q TT_ok (compareCells_q _ _ _ _) rfl rfl rfl rfl rfl ?_
  exact T_ansI TT_ok [(4, none)] rfl rfl (rfl)
def cellN (r s : Int) (x : GNote) : Int := cmpC x.region x.slot r s
theorem cellN_rising {xs : List GNote} (h : sortedN xs) (r s : Int) : rising (cellN r s) GNote.z xs := fun a b hab hb hc => by
  by_cases c : a = b
  · subst c; exact hc
  · have := h a b (by omega) hb
    unfold cellN at hc ⊢
    rw [cmpC_lt] at hc ⊢
    unfold lessN at this
    omega
theorem read_c (t : GTx) (hl : t.reads.length ≤ 1048576) (r0 s0 : Int) (hs : sortedN t.reads) : Con Tryz.prog 107 [] [vP (cTx t), vI r0, vI s0] [] (cutAt (cellN r0 s0) GNote.z t.reads)
    (fun i => [vI i, vB (bif decide ((i : Int) < t.reads.length) then cellN r0 s0 (t.reads.getD i GNote.z) == 0 else false)]) fun _ => [] := by
  refine con_enter Tryz.func107 rfl rfl rfl fun B0 r_ D_ w0 => ?_
  refine T_auto TT_ok rfl ?_
  refine RJ_C TT_ok (searchNote_c t.reads hl ⟨r0, s0, 0, 0, false⟩ (cellN r0 s0) (cellN_rising hs r0 s0)) rfl rfl (SVs.cons (SV.imp_refl _) (SVs.cons (SV.imp_refl _) (SVs.cons (imp_fb (enters_B (by kernel_rfl)) rfl fun args x ⟨s, h1, h2⟩ => by subst h1; subst h2; exact read1_q s ⟨r0, s0, 0, 0, false⟩) rfl))) (fun _ => rfl) rfl rfl rfl fun i hi => ?_
  refine RJ_auto TT_ok rfl ?_
  refine T_ret TT_ok (i) [(6, none), (7, none)] rfl rfl ?_ ?_ ?_
  · exact SVs.imp_refl _
  · trivial
  · exact hi
def atNote (r s : Int) (x : GNote) : Bool := bif x.region == r then x.slot == s else false
theorem atNote_iff {r s : Int} {x : GNote} : atNote r s x = true ↔ x.region = r ∧ x.slot = s := by
  unfold atNote
  by_cases h : x.region = r <;> simp [h]
theorem foundN_eq {xs : List GNote} (hs : sortedN xs) {r s : Int} {i : Nat} (h : cutAt (cellN r s) GNote.z xs i) : (bif decide ((i : Int) < xs.length) then cellN r s (xs.getD i GNote.z) == 0 else false) = xs.any (atNote r s) := by
  obtain ⟨h1, h2, h3⟩ := h
  rw [Bool.eq_iff_iff, List.any_eq_true]
  constructor
  · intro e
    have hi : i < xs.length := by
      by_cases c : i < xs.length
      · exact c
      · rw [decide_eq_false (by omega)] at e; cases e
    rw [decide_eq_true (by omega)] at e
    have e : cellN r s (xs.getD i GNote.z) = 0 := by simpa using e
    refine ⟨xs.getD i GNote.z, by simp [hi], atNote_iff.2 (cmpC_zero.1 e)⟩
  · rintro ⟨x, hx, hc⟩
    obtain ⟨a, ha, rfl⟩ := List.mem_iff_getElem.1 hx
    have hxa : xs.getD a GNote.z = xs[a] := by simp [ha]
    rw [← hxa] at hc
    have hc := atNote_iff.1 hc
    have hz : cellN r s (xs.getD a GNote.z) = 0 := cmpC_zero.2 hc
    have hia : i ≤ a := by
      rcases Nat.lt_or_ge a i with h | h
      · have := h2 a h; omega
      · exact h
    have hi : i < xs.length := by omega
    rw [decide_eq_true (by omega)]
    have : cellN r s (xs.getD i GNote.z) = 0 := by
      by_cases c : i = a
      · subst c; exact hz
      · exfalso
        have h4 := hs i a (by omega) ha
        have h5 := h3 i (Nat.le_refl _) hi
        unfold cellN at h5
        rw [cmpC_lt] at h5
        unfold lessN at h4
        omega
    show (cellN r s (xs.getD i GNote.z) == 0) = true
    rw [this]; rfl
theorem l7Read_q (t : GTx) (hl : t.reads.length ≤ 1048576) (r0 s0 : Int) : Ans Tryz.prog 49 [] [vR (cTx t), vI r0, vI s0] [] (vI (idxI (atNote r0 s0) t.reads)) := by
  refine con_enter Tryz.func49 rfl rfl rfl fun B0 r_ D_ w0 => ?_
  refine T_auto TT_ok rfl ?_
  refine T_loopA (ι := Nat) (fun i => [(7, vI i)]) (fun _ => []) (fun i => i ≤ t.reads.length ∧ ∀ j, j < i → atNote r0 s0 (t.reads.getD j GNote.z) = false) (fun i => t.reads.length - i) 0 [] [] rfl rfl ⟨Nat.zero_le _, fun j hj => absurd hj (Nat.not_lt_zero _)⟩ (by repeat (first | exact trivial | refine And.intro ⟨_, rfl, SV.imp_refl _⟩ ?_)) (by repeat (first | exact trivial | refine And.intro ⟨_, rfl, Ch.imp_refl _⟩ ?_)) ?_
  intro i ⟨h1, h2⟩
  refine T_auto TT_ok rfl ?_
  refine T_condD rfl (fun e => ?_) (fun e => ?_)
  · have hi : i < t.reads.length := by omega
    refine T_auto TT_ok rfl ?_
    refine T_cond rfl (fun e2 => ?_) (fun e2 => ?_)
    · refine T_auto TT_ok rfl ?_
      exact T_ansI TT_ok [(6, none)] rfl rfl ((idxI_at hi h2 e2).symm)
    · refine T_auto TT_ok rfl ?_
      exact X_inv (i + 1) ⟨hi, before_succ h2 e2⟩ (by omega) (by repeat (first | exact trivial | refine And.intro ⟨_, rfl, SV.imp_refl _⟩ ?_)) (by repeat (first | exact trivial | refine And.intro ⟨_, rfl, Ch.imp_refl _⟩ ?_))
  · refine T_auto TT_ok rfl ?_
    exact T_ansI TT_ok [(6, none)] rfl rfl ((idxI_no fun j hj => h2 j (by omega)).symm)

theorem cutAt_uniq {α : Type} {c : α → Int} {z : α} {xs : List α} {i j : Nat} (h : cutAt c z xs i) (k : cutAt c z xs j) : i = j := by
  rcases Nat.lt_trichotomy i j with h1 | h1 | h1
  · exact absurd (k.2.1 i h1) (h.2.2 i (Nat.le_refl _) (by have := k.1; omega))
  · exact h1
  · exact absurd (h.2.1 j h1) (k.2.2 j (Nat.le_refl _) (by have := h.1; omega))
open Classical in
noncomputable def posA {α : Type} (c : α → Int) (z : α) (xs : List α) : Nat := if h : ∃ i, cutAt c z xs i then h.choose else 0
theorem posA_eq {α : Type} {c : α → Int} {z : α} {xs : List α} {i : Nat} (h : cutAt c z xs i) : posA c z xs = i := by
  have hx : ∃ i, cutAt c z xs i := ⟨i, h⟩
  unfold posA
  rw [dif_pos hx]
  exact cutAt_uniq hx.choose_spec h
def insL {α : Type} (p : Nat) (x : α) (xs : List α) : List α := xs.take p ++ x :: xs.drop p
theorem insL_length {α : Type} {p : Nat} {x : α} {xs : List α} (h : p ≤ xs.length) : (insL p x xs).length = xs.length + 1 := by simp [insL]; omega
theorem insL_getD {α : Type} {p : Nat} {x z : α} {xs : List α} (h : p ≤ xs.length) (j : Nat) : (insL p x xs).getD j z = if j < p then xs.getD j z else if j < p + 1 then x else xs.getD (j - 1) z := by
  unfold insL
  by_cases a : j < p
  · rw [if_pos a]
    simp only [List.getD_eq_getElem?_getD]
    rw [List.getElem?_append_left (by simp; omega), List.getElem?_take_of_lt a]
  · rw [if_neg a]
    simp only [List.getD_eq_getElem?_getD]
    rw [List.getElem?_append_right (by simp; omega)]
    have hl : (xs.take p).length = p := by simp; omega
    rw [hl]
    by_cases b : j < p + 1
    · rw [if_pos b]
      have : j - p = 0 := by omega
      rw [this]; simp
    · rw [if_neg b]
      obtain ⟨k, hk⟩ : ∃ k, j - p = k + 1 := ⟨j - p - 1, by omega⟩
      rw [hk, List.getElem?_cons_succ, List.getElem?_drop]
      congr 2; omega
theorem imp_ins {α : Type} {sz : Nat} {enc : α → List D} {z x : α} {p : Nat} {xs : List α} (h : p ≤ xs.length) : (Ch.arr sz (xs.length + 1) (insD p 1 (fun _ => enc x) fun j => enc (xs.getD j z))).imp (arrC sz enc z (insL p x xs)) :=
  Ch.imp_len (by rw [insL_length h]) fun j hj => by
    rw [insL_getD h]
    unfold insD
    by_cases a : j < p
    · rw [if_pos a, if_pos a]
    · rw [if_neg a, if_neg a]
      by_cases b : j < p + 1
      · rw [if_pos b, if_pos b]
      · rw [if_neg b, if_neg b]
theorem idxI_in {α : Type} {p : α → Bool} {z : α} {xs : List α} (h : 0 ≤ idxI p xs) : (idxI p xs).toNat < xs.length ∧ p (xs.getD (idxI p xs).toNat z) = true := by
  rcases idxI_cases p z xs with ⟨h1, _⟩ | ⟨i, h1, h2, _, h4⟩
  · rw [h1] at h; omega
  · rw [h2]; exact ⟨by simpa using h1, by simpa using h4⟩
theorem any_idx {α : Type} {p : α → Bool} {z : α} {xs : List α} : 0 ≤ idxI p xs ↔ xs.any p = true := by
  constructor
  · intro h
    obtain ⟨h1, h2⟩ := idxI_in (z := z) h
    exact List.any_eq_true.2 ⟨xs.getD (idxI p xs).toNat z, by simp [h1], h2⟩
  · intro h
    rcases idxI_cases p z xs with ⟨h1, h2⟩ | ⟨i, h1, h2, _⟩
    · obtain ⟨x, hx, hp⟩ := List.any_eq_true.1 h
      obtain ⟨a, ha, rfl⟩ := List.mem_iff_getElem.1 hx
      have := h2 a ha
      simp [ha] at this
      rw [this] at hp; cases hp
    · omega
/-- a transaction's row, its parts under these keys -/
abbrev rowT (t : GTx) (k1 k2 : Nat) : List V := [.v (.int .i64 t.id), .v (.int .i64 t.home), .v (.int .i64 t.phase), .v (.int .i64 t.done), .g k1, .g k2, .v (.int .i64 t.stamp)]

/-! ### a note is added -/
noncomputable def addRead' (t : GTx) (n : GNote) : GTx × Bool := bif t.reads.any (atNote n.region n.slot) then (t, true) else bif decide ((t.reads.length : Int) = 12) then (t, false) else ({ t with reads := insL (posA (cellN n.region n.slot) GNote.z t.reads) n t.reads }, true)
theorem addRead_c (t : GTx) (n : GNote) (hl : t.reads.length ≤ 12) (hs : sortedN t.reads) : Con Tryz.prog 109 [900, 901, 902] [.a (.p 900 0), vR (cNote n)] [(900, .row (rowT t 901 902)), (901, arrC 5 cNote GNote.z t.reads), (902, arrC 5 cSet GSet.z t.sets)] (fun _ : Unit => True) (fun _ => [vB (addRead' t n).2])
    fun _ => [(900, .row (rowT (addRead' t n).1 904 902)), (904, arrC 5 cNote GNote.z (addRead' t n).1.reads), (902, arrC 5 cSet GSet.z t.sets)] := by
  refine con_enter Tryz.func109 rfl rfl rfl fun B0 r_ D_ w0 => ?_
  refine T_auto TT_ok rfl ?_
  refine RJ_C TT_ok (read_c t (by omega) n.region n.slot hs) rfl rfl (SVs.imp_refl _) (fun _ => rfl) rfl rfl rfl fun i hi => ?_
  rw [foundN_eq hs hi]
  refine RJ_auto TT_ok rfl ?_
  refine T_cond (b := t.reads.any (atNote n.region n.slot)) rfl (fun e => ?_) (fun e => ?_)
  · rw [show addRead' t n = (t, true) from by unfold addRead'; rw [e]; rfl]
    refine T_auto TT_ok rfl ?_
    refine T_view (V_fold 900 4 901 rfl rfl rfl rfl rfl rfl rfl) ?_
    refine T_view (V_open 900 4 904 rfl rfl rfl rfl rfl rfl) ?_
    refine T_ret TT_ok (()) [(4, none)] rfl rfl ?_ ?_ ?_
    · exact SVs.imp_refl _
    · exact ⟨⟨_, rfl, Ch.imp_refl _⟩, ⟨_, rfl, Ch.imp_refl _⟩, ⟨_, rfl, Ch.imp_refl _⟩, trivial⟩
    · trivial
  refine T_auto TT_ok rfl ?_
  refine T_condD rfl (fun e2 => ?_) (fun e2 => ?_)
  · rw [show addRead' t n = (t, false) from by unfold addRead'; rw [e, decide_eq_true e2]; rfl]
    refine T_auto TT_ok rfl ?_
    refine T_view (V_fold 900 4 901 rfl rfl rfl rfl rfl rfl rfl) ?_
    refine T_view (V_open 900 4 904 rfl rfl rfl rfl rfl rfl) ?_
    refine T_ret TT_ok (()) [(4, none)] rfl rfl ?_ ?_ ?_
    · exact SVs.imp_refl _
    · exact ⟨⟨_, rfl, Ch.imp_refl _⟩, ⟨_, rfl, Ch.imp_refl _⟩, ⟨_, rfl, Ch.imp_refl _⟩, trivial⟩
    · trivial
  rw [show addRead' t n = ({ t with reads := insL i n t.reads }, true) from by unfold addRead'; rw [e, decide_eq_false e2, posA_eq hi]; rfl]
  refine T_auto TT_ok rfl ?_
  refine T_drawL TT_ok [901] [0, 1, 2, 3, 4, 5, 6, 7, 8, 9, 10, 11] rfl rfl fun B0 H0 => ?_
  refine DJ_one 7 rfl (by kernel_rfl) (OJ_bs TT_ok 30 (fun _ => cNote n) rfl rfl rfl rfl rfl rfl rfl (fun j hj => by rcases j with _ | j <;> first | rfl | omega) (mu1 := []) rfl rfl rfl (SJ_dj ?_))
  refine DJ_C 8 (Con.sw 902 904 (Con.sw 900 901 (Con.sw 901 30 (insertNote_c t.reads.length 1 i (fun j => cNote (t.reads.getD j GNote.z)) (fun _ => cNote n) (by omega) (by omega) (by omega) hi.1 (fun _ _ => ⟨_, rfl⟩) (fun _ _ => ⟨_, rfl⟩))))) rfl rfl rfl (SVs.imp_refl _) (fun _ => rfl) rfl rfl rfl fun _ _ => ?_
  refine DJ_onL TT_ok [9, 10, 11] rfl ?_
  refine DJ_sw2 11 rfl (by kernel_rfl) (by kernel_rfl) (OJ_M TT_ok rfl rfl rfl rfl rfl rfl (SJ_sw [] fun B0 H0 => ?_))
  refine DJ_endA TT_ok rfl ?_
  refine T_ret TT_ok (()) [(4, none)] rfl rfl ?_ ?_ ?_
  · exact SVs.imp_refl _
  · exact ⟨⟨_, rfl, Ch.imp_refl _⟩, ⟨_, rfl, imp_ins hi.1⟩, ⟨_, rfl, Ch.imp_refl _⟩, trivial⟩
  · trivial
theorem addRead_sets (t : GTx) (n : GNote) : (addRead' t n).1.sets = t.sets := by
  unfold addRead'
  cases t.reads.any (atNote n.region n.slot) with
  | true => rfl
  | false => cases decide ((t.reads.length : Int) = 12) <;> rfl
open Classical in
noncomputable def addReadM (t : GTx) (n : GNote) : GTx × Bool := if TxOk t ∧ noteB n = true ∧ (addRead' t n).2 = true then ((addRead' t n).1, true) else (GTx.z, false)
theorem cell_less {r s q t : Int} : cmpC r s q t < 0 ↔ lessB r s q t = true := by rw [cmpC_lt, lessB_iff]
theorem imp_ins2 {α : Type} {sz : Nat} {enc : α → List D} {z x : α} {p : Nat} {xs : List α} (h : p ≤ xs.length) : (Ch.arr sz ((xs.take p).length + 1 + ((xs.length : Int) - ((xs.take p).length : Int)).toNat) (appD ((xs.take p).length + 1) (appD (xs.take p).length (fun i => enc ((xs.take p).getD i z)) fun _ => enc x) fun i => enc (xs.getD (((xs.take p).length : Int).toNat + i) z))).imp (arrC sz enc z (insL p x xs)) := by
  have hl : (xs.take p).length = p := by rw [List.length_take]; omega
  refine Ch.imp_len (by rw [insL_length h]; omega) fun j hj => ?_
  rw [insL_getD h, hl]
  by_cases a : j < p
  · rw [if_pos a, appD_lt (by omega), appD_lt a]
    congr 1
    simp only [List.getD_eq_getElem?_getD]
    rw [List.getElem?_take_of_lt a]
  · rw [if_neg a]
    by_cases b : j < p + 1
    · rw [if_pos b, appD_lt b, appD_ge (by omega)]
    · rw [if_neg b, appD_ge (by omega)]
      have : (p : Int).toNat + (j - (p + 1)) = j - 1 := by omega
      show enc (xs.getD ((p : Int).toNat + (j - (p + 1))) z) = _
      rw [this]
theorem spec_AddRead_m (t : GTx) (hb : D.bds bigN (cTx t)) (n : GNote) : MkTB Tryz.prog 53 [vR (cTx t), vR (cNote n)] (addReadM t n).1 (addReadM t n).2 := by
  have b1 : t.reads.length ≤ 1048576 := hb.2.2.2.2.1.1
  have b2 : t.sets.length ≤ 1048576 := hb.2.2.2.2.2.1.1
  refine con_enter Tryz.func53 rfl rfl rfl fun B0 r_ D_ w0 => ?_
  refine T_auto1 TT_ok rfl ?_
  refine T_freeze 2 rfl rfl rfl rfl (fun _ => rfl) (fun _ => rfl) fun r_ => ?_
  refine T_auto TT_ok rfl ?_
  refine RJ_Q TT_ok (spec_TxOk_q t) rfl rfl rfl rfl rfl ?_
  refine RJ_Q TT_ok (spec_l7Note_q n) rfl rfl rfl rfl rfl ?_
  by_cases hg : TxOk t ∧ noteB n = true
  · have e0 : (bif !dec (TxOk t) then true else !noteB n) = false := by rw [dec_true hg.1, hg.2]; rfl
    have hl := hg.1.1.2.2.2.2.2.1
    have hs := sortedN_of hg.1.2.1
    rw [e0]
    refine T_cond rfl (fun e => by cases e) (fun _ => ?_)
    refine T_auto TT_ok rfl ?_
    refine RJ_C TT_ok (l7Copy_m t b1 b2) rfl rfl (SVs.imp_refl _) (fun _ => rfl) rfl rfl rfl fun _ _ => ?_
    refine RJ_auto TT_ok rfl ?_
    refine RJ_Q TT_ok (l7Read_q t b1 n.region n.slot) rfl rfl rfl rfl rfl ?_
    refine T_condD rfl (fun e => ?_) (fun e => ?_)
    · have hany : t.reads.any (atNote n.region n.slot) = true := (any_idx (z := GNote.z)).1 e
      have hM : addRead' t n = (t, true) := by unfold addRead'; rw [hany]; rfl
      rw [show addReadM t n = (t, true) from by unfold addReadM; rw [if_pos ⟨hg.1, hg.2, by rw [hM]⟩, hM]]
      refine T_auto TT_ok rfl ?_
      refine T_ret TT_ok (()) [(4, some 56), (5, none)] rfl rfl ?_ ?_ ?_
      · exact SVs.imp_refl _
      · exact ⟨⟨_, rfl, Ch.imp_refl _⟩, ⟨_, rfl, Ch.imp_refl _⟩, trivial⟩
      · trivial
    have hany : t.reads.any (atNote n.region n.slot) = false := by
      cases h : t.reads.any (atNote n.region n.slot) with
      | false => rfl
      | true => exact absurd ((any_idx (z := GNote.z)).2 h) e
    refine T_auto TT_ok rfl ?_
    refine T_condD rfl (fun e2 => ?_) (fun e2 => ?_)
    · have hM : addRead' t n = (t, false) := by unfold addRead'; rw [hany, decide_eq_true e2]; rfl
      rw [show addReadM t n = (GTx.z, false) from if_neg fun h => by rw [hM] at h; exact absurd h.2.2 (by simp)]
      refine T_auto TT_ok rfl ?_
      refine T_view (V_nilR 4 4 5 (fun i => cNote (([] : List GNote).getD i GNote.z)) rfl rfl rfl) ?_
      refine T_view (V_nilR 4 5 5 (fun i => cSet (([] : List GSet).getD i GSet.z)) rfl rfl rfl) ?_
      refine T_view (V_open 4 4 911 rfl rfl rfl rfl rfl rfl) ?_
      refine T_view (V_open 4 5 912 rfl rfl rfl rfl rfl rfl) ?_
      refine T_view (V_sw 911 901) ?_
      refine T_view (V_sw 912 902) ?_
      refine T_ret TT_ok (()) [(4, some 56), (5, none)] rfl rfl ?_ ?_ ?_
      · exact SVs.imp_refl _
      · exact ⟨⟨_, rfl, Ch.imp_refl _⟩, ⟨_, rfl, Ch.imp_refl _⟩, trivial⟩
      · trivial
    refine T_auto TT_ok rfl ?_
    refine RJ_bs TT_ok 33 (fun i => cNote (([] : List GNote).getD i GNote.z)) rfl rfl rfl rfl rfl rfl rfl (fun i hi => absurd hi (Nat.not_lt_zero _)) (mu1 := []) rfl rfl rfl ?_
    refine RJ_auto TT_ok rfl ?_
    refine T_loopA (ι := Nat) (fun i => [(8, vI i), (7, .a (.g 33))]) (fun i => [(33, arrC 5 cNote GNote.z (t.reads.take i))]) (fun i => i ≤ t.reads.length ∧ ∀ a, a < i → cellN n.region n.slot (t.reads.getD a GNote.z) < 0) (fun i => t.reads.length - i) 0 [33] [33] rfl rfl ⟨Nat.zero_le _, fun a ha => absurd ha (Nat.not_lt_zero _)⟩ (by repeat (first | exact trivial | refine And.intro ⟨_, rfl, SV.imp_refl _⟩ ?_)) ⟨⟨_, rfl, imp_list (sz := 5) (enc := cNote) (z := GNote.z) (xs := []) rfl⟩, trivial⟩ ?_
    intro i ⟨h1, h2⟩
    refine T_auto TT_ok rfl ?_
    refine T_drawA TT_ok [] rfl rfl fun B0 H0 => ?_
    refine DJ_Q TT_ok (spec_l7Less_q _ _ _ _) rfl rfl rfl rfl rfl rfl ?_
    refine DJ_endA TT_ok rfl ?_
    refine T_cond rfl (fun e3 => ?_) (fun e3 => ?_)
    · have hi : i < t.reads.length := by
        rcases Nat.lt_or_ge i t.reads.length with h | h
        · exact h
        · rw [decide_eq_false (by omega)] at e3; cases e3
      have hlt : (t.reads.take i).length = i := by rw [List.length_take]; omega
      rw [decide_eq_true (by omega)] at e3
      refine T_auto TT_ok rfl ?_
      refine RJ_bs TT_ok 66 (fun _ => cNote (t.reads.getD i GNote.z)) rfl rfl rfl rfl rfl rfl rfl (fun i hi => by rcases i with _ | i <;> first | rfl | omega) (mu1 := []) rfl rfl rfl ?_
      refine RJ_auto TT_ok rfl ?_
      refine RJ_appM TT_ok 33 66 67 rfl rfl rfl rfl rfl rfl rfl rfl rfl rfl rfl rfl ⟨by show ((t.reads.take i).length + 1) * 40 ≤ _; omega, by unfold maxL; omega⟩ ?_
      refine RJ_auto TT_ok rfl ?_
      refine X_view (V_sw 33 67) ?_
      refine X_inv (i + 1) ⟨hi, fun a ha => ?_⟩ (by omega) (by repeat (first | exact trivial | refine And.intro ⟨_, rfl, SV.imp_refl _⟩ ?_)) ⟨⟨_, rfl, imp_app1 (x := t.reads.getD i GNote.z) (take_succ_getD hi) rfl⟩, (by repeat (first | exact trivial | refine And.intro ⟨_, rfl, Ch.imp_refl _⟩ ?_))⟩
      by_cases c : a < i
      · exact h2 a c
      · have : a = i := by omega
        subst this
        exact cell_less.2 e3
    have hc : cutAt (cellN n.region n.slot) GNote.z t.reads i := ⟨h1, h2, fun a ha hb2 hlt => by
      have h3 := cellN_rising hs n.region n.slot i a ha hb2 hlt
      have e4 : lessB (t.reads.getD i GNote.z).region (t.reads.getD i GNote.z).slot n.region n.slot = false := by rw [decide_eq_true (by omega)] at e3; exact e3
      rw [cell_less.1 h3] at e4
      cases e4⟩
    have hM : addRead' t n = ({ t with reads := insL i n t.reads }, true) := by unfold addRead'; rw [hany, decide_eq_false e2, posA_eq hc]; rfl
    rw [show addReadM t n = ({ t with reads := insL i n t.reads }, true) from by unfold addReadM; rw [if_pos ⟨hg.1, hg.2, by rw [hM]⟩, hM]]
    have hlt : (t.reads.take i).length = i := by rw [List.length_take]; omega
    refine T_auto TT_ok rfl ?_
    refine T_cap 7 33 rfl rfl fun cp _ => ?_
    refine T_drawL TT_ok [33] [0, 1, 4, 5, 6, 7, 8, 2, 3, 9, 10, 11] rfl rfl fun B0 H0 => ?_
    refine DJ_one 2 rfl (by kernel_rfl) (OJ_bs TT_ok 70 (fun _ => cNote n) rfl rfl rfl rfl rfl rfl rfl (fun j hj => by rcases j with _ | j <;> first | rfl | omega) (mu1 := []) rfl rfl rfl (SJ_dj ?_))
    refine DJ_one 3 rfl (by kernel_rfl) (OJ_appM TT_ok 33 70 71 rfl rfl rfl rfl rfl rfl rfl rfl rfl rfl rfl rfl ⟨by show ((t.reads.take i).length + 1) * 40 ≤ _; omega, by unfold maxL; omega⟩ (SJ_dj ?_))
    refine DJ_one 9 rfl (by kernel_rfl) (OJ_appC TT_ok 71 77 rfl rfl rfl rfl rfl rfl rfl rfl rfl rfl rfl rfl ⟨by show ((t.reads.take i).length + 1 + _) * 40 ≤ _; omega, by unfold maxL; omega⟩ (SJ_dj ?_))
    refine DJ_onL TT_ok [10, 11] rfl ?_
    refine DJ_sw2 11 rfl (by kernel_rfl) (by kernel_rfl) (OJ_M TT_ok rfl rfl rfl rfl rfl rfl (SJ_sw [] fun B0 H0 => ?_))
    refine DJ_endA TT_ok rfl ?_
    refine T_view (V_sw 77 901) ?_
    refine T_ret TT_ok (()) [(4, some 56), (5, none)] rfl rfl ?_ ?_ ?_
    · exact SVs.imp_refl _
    · exact ⟨⟨_, rfl, imp_ins2 h1⟩, ⟨_, rfl, Ch.imp_refl _⟩, trivial⟩
    · trivial
  · have e0 : (bif !dec (TxOk t) then true else !noteB n) = true := by
      by_cases h1 : TxOk t
      · rw [dec_true h1]
        cases h2 : noteB n with
        | true => exact absurd ⟨h1, h2⟩ hg
        | false => rfl
      · rw [dec_false h1]; rfl
    rw [show addReadM t n = (GTx.z, false) from if_neg fun h => hg ⟨h.1, h.2.1⟩]
    rw [e0]
    refine T_cond rfl (fun e => ?_) (fun e => by cases e)
    refine T_auto TT_ok rfl ?_
    refine T_view (V_nilR 4 4 5 (fun i => cNote (([] : List GNote).getD i GNote.z)) rfl rfl rfl) ?_
    refine T_view (V_nilR 4 5 5 (fun i => cSet (([] : List GSet).getD i GSet.z)) rfl rfl rfl) ?_
    refine T_view (V_open 4 4 911 rfl rfl rfl rfl rfl rfl) ?_
    refine T_view (V_open 4 5 912 rfl rfl rfl rfl rfl rfl) ?_
    refine T_view (V_sw 911 901) ?_
    refine T_view (V_sw 912 902) ?_
    refine T_ret TT_ok (()) [(4, some 56), (5, none)] rfl rfl ?_ ?_ ?_
    · exact SVs.imp_refl _
    · exact ⟨⟨_, rfl, Ch.imp_refl _⟩, ⟨_, rfl, Ch.imp_refl _⟩, trivial⟩
    · trivial

/-! ### a Set is added -/
theorem idx_cut {xs : List GSet} (hs : sortedS xs) {r s : Int} (h : 0 ≤ idxI (atCell r s) xs) : cutAt (cellC r s) GSet.z xs (idxI (atCell r s) xs).toNat ∧ (idxI (atCell r s) xs).toNat < xs.length := by
  obtain ⟨h1, h2⟩ := idxI_in (z := GSet.z) h
  obtain ⟨e1, e2⟩ := atCell_iff.1 h2
  refine ⟨⟨Nat.le_of_lt h1, fun a ha => ?_, fun a ha hb hc => ?_⟩, h1⟩
  · have := hs a _ ha h1
    unfold cellC
    rw [cmpC_lt]
    unfold lessS at this
    rw [e1, e2] at this
    exact this
  · unfold cellC at hc
    rw [cmpC_lt] at hc
    by_cases c : a = (idxI (atCell r s) xs).toNat
    · subst c; rw [e1, e2] at hc; omega
    · have := hs (idxI (atCell r s) xs).toNat a (by omega) hb
      unfold lessS at this
      rw [e1, e2] at this
      omega
noncomputable def putAt (t : GTx) (s : GSet) (p : Nat) : GTx := { t with sets := t.sets.set p ⟨s.region, s.slot, s.value, s.used, (t.sets.getD p GSet.z).version⟩ }
noncomputable def addSet' (t : GTx) (s : GSet) : GTx × Bool := bif t.sets.any (atCell s.region s.slot) then (putAt t s (posA (cellC s.region s.slot) GSet.z t.sets), true) else bif decide ((t.sets.length : Int) = 12) then (t, false) else ({ t with sets := insL (posA (cellC s.region s.slot) GSet.z t.sets) s t.sets }, true)
theorem addSet_c (t : GTx) (s : GSet) (hl : t.sets.length ≤ 12) (hs : sortedS t.sets) : Con Tryz.prog 120 [900, 901, 902] [.a (.p 900 0), vR (cSet s)] [(900, .row (rowT t 901 902)), (901, arrC 5 cNote GNote.z t.reads), (902, arrC 5 cSet GSet.z t.sets)] (fun _ : Unit => True) (fun _ => [vB (addSet' t s).2])
    fun _ => [(900, .row (rowT (addSet' t s).1 901 904)), (901, arrC 5 cNote GNote.z t.reads), (904, arrC 5 cSet GSet.z (addSet' t s).1.sets)] := by
  refine con_enter Tryz.func120 rfl rfl rfl fun B0 r_ D_ w0 => ?_
  refine T_auto TT_ok rfl ?_
  refine RJ_C TT_ok (set_c t (by omega) s.region s.slot hs) rfl rfl (SVs.imp_refl _) (fun _ => rfl) rfl rfl rfl fun i hi => ?_
  have hf := found_eq hs hi
  rw [hf]
  refine RJ_auto TT_ok rfl ?_
  refine T_cond (b := t.sets.any (atCell s.region s.slot)) rfl (fun e => ?_) (fun e => ?_)
  · have hil : i < t.sets.length := by
      rw [e] at hf
      rcases Nat.lt_or_ge i t.sets.length with h | h
      · exact h
      · rw [decide_eq_false (by omega)] at hf; cases hf
    rw [show addSet' t s = (putAt t s i, true) from by unfold addSet'; rw [e, posA_eq hi]; rfl]
    refine T_auto TT_ok rfl ?_
    refine T_drawL TT_ok [] [0, 1, 2, 3, 4, 5, 6, 7] rfl rfl fun B0 H0 => ?_
    refine DJ_sw2 7 rfl (by kernel_rfl) (by kernel_rfl) (OJ_M TT_ok rfl rfl rfl rfl rfl rfl (SJ_sw [] fun B0 H0 => ?_))
    refine DJ_endA TT_ok rfl ?_
    refine T_view (V_fold 900 5 902 rfl rfl rfl rfl rfl rfl rfl) ?_
    refine T_view (V_open 900 5 904 rfl rfl rfl rfl rfl rfl) ?_
    refine T_ret TT_ok (()) [(4, none)] rfl rfl ?_ ?_ ?_
    · exact SVs.imp_refl _
    · exact ⟨⟨_, rfl, Ch.imp_refl _⟩, ⟨_, rfl, Ch.imp_refl _⟩, ⟨_, rfl, imp_set (OwnI.refl _)⟩, trivial⟩
    · trivial
  refine T_auto TT_ok rfl ?_
  refine T_condD rfl (fun e2 => ?_) (fun e2 => ?_)
  · rw [show addSet' t s = (t, false) from by unfold addSet'; rw [e, decide_eq_true e2]; rfl]
    refine T_auto TT_ok rfl ?_
    refine T_view (V_fold 900 5 902 rfl rfl rfl rfl rfl rfl rfl) ?_
    refine T_view (V_open 900 5 904 rfl rfl rfl rfl rfl rfl) ?_
    refine T_ret TT_ok (()) [(4, none)] rfl rfl ?_ ?_ ?_
    · exact SVs.imp_refl _
    · exact ⟨⟨_, rfl, Ch.imp_refl _⟩, ⟨_, rfl, Ch.imp_refl _⟩, ⟨_, rfl, Ch.imp_refl _⟩, trivial⟩
    · trivial
  rw [show addSet' t s = ({ t with sets := insL i s t.sets }, true) from by unfold addSet'; rw [e, decide_eq_false e2, posA_eq hi]; rfl]
  refine T_auto TT_ok rfl ?_
  refine T_drawL TT_ok [902] [0, 1, 2, 3, 4, 5, 6, 7, 8, 9, 10, 11] rfl rfl fun B0 H0 => ?_
  refine DJ_one 7 rfl (by kernel_rfl) (OJ_bs TT_ok 30 (fun _ => cSet s) rfl rfl rfl rfl rfl rfl rfl (fun j hj => by rcases j with _ | j <;> first | rfl | omega) (mu1 := []) rfl rfl rfl (SJ_dj ?_))
  refine DJ_C 8 (Con.sw 900 902 (Con.sw 902 904 (Con.sw 901 30 (insertSet_c t.sets.length 1 i (fun j => cSet (t.sets.getD j GSet.z)) (fun _ => cSet s) (by omega) (by omega) (by omega) hi.1 (fun _ _ => ⟨_, rfl⟩) (fun _ _ => ⟨_, rfl⟩))))) rfl rfl rfl (SVs.imp_refl _) (fun _ => rfl) rfl rfl rfl fun _ _ => ?_
  refine DJ_onL TT_ok [9, 10, 11] rfl ?_
  refine DJ_sw2 11 rfl (by kernel_rfl) (by kernel_rfl) (OJ_M TT_ok rfl rfl rfl rfl rfl rfl (SJ_sw [] fun B0 H0 => ?_))
  refine DJ_endA TT_ok rfl ?_
  refine T_ret TT_ok (()) [(4, none)] rfl rfl ?_ ?_ ?_
  · exact SVs.imp_refl _
  · exact ⟨⟨_, rfl, Ch.imp_refl _⟩, ⟨_, rfl, Ch.imp_refl _⟩, ⟨_, rfl, imp_ins hi.1⟩, trivial⟩
  · trivial
theorem addSet_reads (t : GTx) (s : GSet) : (addSet' t s).1.reads = t.reads := by
  unfold addSet'
  cases t.sets.any (atCell s.region s.slot) with
  | true => rfl
  | false => cases decide ((t.sets.length : Int) = 12) <;> rfl
open Classical in
noncomputable def addSetM (t : GTx) (s : GSet) : GTx × Bool := if TxOk t ∧ setB s = true ∧ (addSet' t s).2 = true then ((addSet' t s).1, true) else (GTx.z, false)
theorem spec_AddSet_m (t : GTx) (hb : D.bds bigN (cTx t)) (s : GSet) : MkTB Tryz.prog 54 [vR (cTx t), vR (cSet s)] (addSetM t s).1 (addSetM t s).2 := by
  have b1 : t.reads.length ≤ 1048576 := hb.2.2.2.2.1.1
  have b2 : t.sets.length ≤ 1048576 := hb.2.2.2.2.2.1.1
  refine con_enter Tryz.func54 rfl rfl rfl fun B0 r_ D_ w0 => ?_
  refine T_auto1 TT_ok rfl ?_
  refine T_freeze 2 rfl rfl rfl rfl (fun _ => rfl) (fun _ => rfl) fun r_ => ?_
  refine T_auto TT_ok rfl ?_
  refine RJ_Q TT_ok (spec_TxOk_q t) rfl rfl rfl rfl rfl ?_
  refine RJ_Q TT_ok (spec_SetOk_q s) rfl rfl rfl rfl rfl ?_
  by_cases hg : TxOk t ∧ setB s = true
  · have e0 : (bif !dec (TxOk t) then true else !setB s) = false := by rw [dec_true hg.1, hg.2]; rfl
    have hl := hg.1.1.2.2.2.2.2.2
    have hs := sortedS_of hg.1.2.2
    rw [e0]
    refine T_cond rfl (fun e => by cases e) (fun _ => ?_)
    refine T_auto TT_ok rfl ?_
    refine RJ_C TT_ok (l7Copy_m t b1 b2) rfl rfl (SVs.imp_refl _) (fun _ => rfl) rfl rfl rfl fun _ _ => ?_
    refine RJ_auto TT_ok rfl ?_
    refine RJ_Q TT_ok (l7Set_q t b2 s.region s.slot) rfl rfl rfl rfl rfl ?_
    refine T_condD rfl (fun e => ?_) (fun e => ?_)
    · obtain ⟨hc, hil⟩ := idx_cut hs e
      have hin : 0 ≤ idxI (atCell s.region s.slot) t.sets ∧ idxI (atCell s.region s.slot) t.sets < t.sets.length := ⟨e, by omega⟩
      have hany : t.sets.any (atCell s.region s.slot) = true := (any_idx (z := GSet.z)).1 e
      have hM : addSet' t s = (putAt t s (idxI (atCell s.region s.slot) t.sets).toNat, true) := by unfold addSet'; rw [hany, posA_eq hc]; rfl
      rw [show addSetM t s = (putAt t s (idxI (atCell s.region s.slot) t.sets).toNat, true) from by unfold addSetM; rw [if_pos ⟨hg.1, hg.2, by rw [hM]⟩, hM]]
      refine T_auto TT_ok rfl ?_
      refine T_ret TT_ok (()) [(4, some 56), (5, none)] rfl rfl ?_ ?_ ?_
      · exact SVs.imp_refl _
      · exact ⟨⟨_, rfl, Ch.imp_refl _⟩, ⟨_, rfl, imp_set (OwnI.refl _)⟩, trivial⟩
      · trivial
    have hany : t.sets.any (atCell s.region s.slot) = false := by
      cases h : t.sets.any (atCell s.region s.slot) with
      | false => rfl
      | true => exact absurd ((any_idx (z := GSet.z)).2 h) e
    refine T_auto TT_ok rfl ?_
    refine T_condD rfl (fun e2 => ?_) (fun e2 => ?_)
    · have hM : addSet' t s = (t, false) := by unfold addSet'; rw [hany, decide_eq_true e2]; rfl
      rw [show addSetM t s = (GTx.z, false) from if_neg fun h => by rw [hM] at h; exact absurd h.2.2 (by simp)]
      refine T_auto TT_ok rfl ?_
      refine T_view (V_nilR 4 4 5 (fun i => cNote (([] : List GNote).getD i GNote.z)) rfl rfl rfl) ?_
      refine T_view (V_nilR 4 5 5 (fun i => cSet (([] : List GSet).getD i GSet.z)) rfl rfl rfl) ?_
      refine T_view (V_open 4 4 911 rfl rfl rfl rfl rfl rfl) ?_
      refine T_view (V_open 4 5 912 rfl rfl rfl rfl rfl rfl) ?_
      refine T_view (V_sw 911 901) ?_
      refine T_view (V_sw 912 902) ?_
      refine T_ret TT_ok (()) [(4, some 56), (5, none)] rfl rfl ?_ ?_ ?_
      · exact SVs.imp_refl _
      · exact ⟨⟨_, rfl, Ch.imp_refl _⟩, ⟨_, rfl, Ch.imp_refl _⟩, trivial⟩
      · trivial
    refine T_auto TT_ok rfl ?_
    refine RJ_bs TT_ok 47 (fun i => cSet (([] : List GSet).getD i GSet.z)) rfl rfl rfl rfl rfl rfl rfl (fun i hi => absurd hi (Nat.not_lt_zero _)) (mu1 := []) rfl rfl rfl ?_
    refine RJ_auto TT_ok rfl ?_
    refine T_loopA (ι := Nat) (fun i => [(9, vI i), (8, .a (.g 47))]) (fun i => [(47, arrC 5 cSet GSet.z (t.sets.take i))]) (fun i => i ≤ t.sets.length ∧ ∀ a, a < i → cellC s.region s.slot (t.sets.getD a GSet.z) < 0) (fun i => t.sets.length - i) 0 [47] [47] rfl rfl ⟨Nat.zero_le _, fun a ha => absurd ha (Nat.not_lt_zero _)⟩ (by repeat (first | exact trivial | refine And.intro ⟨_, rfl, SV.imp_refl _⟩ ?_)) ⟨⟨_, rfl, imp_list (sz := 5) (enc := cSet) (z := GSet.z) (xs := []) rfl⟩, trivial⟩ ?_
    intro i ⟨h1, h2⟩
    refine T_auto TT_ok rfl ?_
    refine T_drawA TT_ok [] rfl rfl fun B0 H0 => ?_
    refine DJ_Q TT_ok (spec_l7Less_q _ _ _ _) rfl rfl rfl rfl rfl rfl ?_
    refine DJ_endA TT_ok rfl ?_
    refine T_cond rfl (fun e3 => ?_) (fun e3 => ?_)
    · have hi : i < t.sets.length := by
        rcases Nat.lt_or_ge i t.sets.length with h | h
        · exact h
        · rw [decide_eq_false (by omega)] at e3; cases e3
      have hlt : (t.sets.take i).length = i := by rw [List.length_take]; omega
      rw [decide_eq_true (by omega)] at e3
      refine T_auto TT_ok rfl ?_
      refine RJ_bs TT_ok 80 (fun _ => cSet (t.sets.getD i GSet.z)) rfl rfl rfl rfl rfl rfl rfl (fun i hi => by rcases i with _ | i <;> first | rfl | omega) (mu1 := []) rfl rfl rfl ?_
      refine RJ_auto TT_ok rfl ?_
      refine RJ_appM TT_ok 47 80 81 rfl rfl rfl rfl rfl rfl rfl rfl rfl rfl rfl rfl ⟨by show ((t.sets.take i).length + 1) * 40 ≤ _; omega, by unfold maxL; omega⟩ ?_
      refine RJ_auto TT_ok rfl ?_
      refine X_view (V_sw 47 81) ?_
      refine X_inv (i + 1) ⟨hi, fun a ha => ?_⟩ (by omega) (by repeat (first | exact trivial | refine And.intro ⟨_, rfl, SV.imp_refl _⟩ ?_)) ⟨⟨_, rfl, imp_app1 (x := t.sets.getD i GSet.z) (take_succ_getD hi) rfl⟩, (by repeat (first | exact trivial | refine And.intro ⟨_, rfl, Ch.imp_refl _⟩ ?_))⟩
      by_cases c : a < i
      · exact h2 a c
      · have : a = i := by omega
        subst this
        exact cell_less.2 e3
    have hc : cutAt (cellC s.region s.slot) GSet.z t.sets i := ⟨h1, h2, fun a ha hb2 hlt => by
      have h3 := cellC_rising hs s.region s.slot i a ha hb2 hlt
      have e4 : lessB (t.sets.getD i GSet.z).region (t.sets.getD i GSet.z).slot s.region s.slot = false := by rw [decide_eq_true (by omega)] at e3; exact e3
      rw [cell_less.1 h3] at e4
      cases e4⟩
    have hM : addSet' t s = ({ t with sets := insL i s t.sets }, true) := by unfold addSet'; rw [hany, decide_eq_false e2, posA_eq hc]; rfl
    rw [show addSetM t s = ({ t with sets := insL i s t.sets }, true) from by unfold addSetM; rw [if_pos ⟨hg.1, hg.2, by rw [hM]⟩, hM]]
    have hlt : (t.sets.take i).length = i := by rw [List.length_take]; omega
    refine T_auto TT_ok rfl ?_
    refine T_cap 8 47 rfl rfl fun cp _ => ?_
    refine T_drawL TT_ok [47] [0, 1, 4, 5, 6, 7, 8, 2, 3, 9, 10, 11] rfl rfl fun B0 H0 => ?_
    refine DJ_one 2 rfl (by kernel_rfl) (OJ_bs TT_ok 84 (fun _ => cSet s) rfl rfl rfl rfl rfl rfl rfl (fun j hj => by rcases j with _ | j <;> first | rfl | omega) (mu1 := []) rfl rfl rfl (SJ_dj ?_))
    refine DJ_one 3 rfl (by kernel_rfl) (OJ_appM TT_ok 47 84 85 rfl rfl rfl rfl rfl rfl rfl rfl rfl rfl rfl rfl ⟨by show ((t.sets.take i).length + 1) * 40 ≤ _; omega, by unfold maxL; omega⟩ (SJ_dj ?_))
    refine DJ_one 9 rfl (by kernel_rfl) (OJ_appC TT_ok 85 91 rfl rfl rfl rfl rfl rfl rfl rfl rfl rfl rfl rfl ⟨by show ((t.sets.take i).length + 1 + _) * 40 ≤ _; omega, by unfold maxL; omega⟩ (SJ_dj ?_))
    refine DJ_onL TT_ok [10, 11] rfl ?_
    refine DJ_sw2 11 rfl (by kernel_rfl) (by kernel_rfl) (OJ_M TT_ok rfl rfl rfl rfl rfl rfl (SJ_sw [] fun B0 H0 => ?_))
    refine DJ_endA TT_ok rfl ?_
    refine T_view (V_sw 91 902) ?_
    refine T_ret TT_ok (()) [(4, some 56), (5, none)] rfl rfl ?_ ?_ ?_
    · exact SVs.imp_refl _
    · exact ⟨⟨_, rfl, Ch.imp_refl _⟩, ⟨_, rfl, imp_ins2 h1⟩, trivial⟩
    · trivial
  · have e0 : (bif !dec (TxOk t) then true else !setB s) = true := by
      by_cases h1 : TxOk t
      · rw [dec_true h1]
        cases h2 : setB s with
        | true => exact absurd ⟨h1, h2⟩ hg
        | false => rfl
      · rw [dec_false h1]; rfl
    rw [show addSetM t s = (GTx.z, false) from if_neg fun h => hg ⟨h.1, h.2.1⟩]
    rw [e0]
    refine T_cond rfl (fun e => ?_) (fun e => by cases e)
    refine T_auto TT_ok rfl ?_
    refine T_view (V_nilR 4 4 5 (fun i => cNote (([] : List GNote).getD i GNote.z)) rfl rfl rfl) ?_
    refine T_view (V_nilR 4 5 5 (fun i => cSet (([] : List GSet).getD i GSet.z)) rfl rfl rfl) ?_
    refine T_view (V_open 4 4 911 rfl rfl rfl rfl rfl rfl) ?_
    refine T_view (V_open 4 5 912 rfl rfl rfl rfl rfl rfl) ?_
    refine T_view (V_sw 911 901) ?_
    refine T_view (V_sw 912 902) ?_
    refine T_ret TT_ok (()) [(4, some 56), (5, none)] rfl rfl ?_ ?_ ?_
    · exact SVs.imp_refl _
    · exact ⟨⟨_, rfl, Ch.imp_refl _⟩, ⟨_, rfl, Ch.imp_refl _⟩, trivial⟩
    · trivial
end Go.Proofs.YtpfcfepbhdkpdaaGreat
