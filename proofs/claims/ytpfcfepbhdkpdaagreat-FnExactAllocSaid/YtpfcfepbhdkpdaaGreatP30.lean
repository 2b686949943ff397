
/-
  Read, in the program.
-/
import Derived.Test.YtpfcfepbhdkpdaaGreatP20
import Derived.Test.YtpfcfepbhdkpdaaGreatP22
import Derived.Test.YtpfcfepbhdkpdaaGreatWJ
import Derived.Test.YtpfcfepbhdkpdaaGreatL2
namespace Go.Proofs.YtpfcfepbhdkpdaaGreat
open Go Go.RowKit
set_option linter.unusedVariables false
set_option linter.unusedSimpArgs false
set_option maxRecDepth 4000

/-- it is no cell of the cluster -/
def cellB (c : GCluster) (r s : Int) : Bool := bif !inB r 0 ((c.places.length : Int) - 1) then true else !inB s 0 5
def cellN5 (c : GCluster) (r s : Int) : Int := bif cellB c r s then 5 else 0
def freeC (u : Bool) : Int := bif u then 0 else 8
theorem cellB_in {c : GCluster} {r s : Int} (h : cellB c r s = false) : (0 ≤ r ∧ r < c.places.length) ∧ 0 ≤ s ∧ s ≤ 5 := by
  unfold cellB at h
  cases h1 : inB r 0 ((c.places.length : Int) - 1) with
  | false => rw [h1] at h; cases h
  | true =>
    rw [h1] at h
    have h2 : inB s 0 5 = true := by simpa using h
    have := inB_iff.1 h1
    have := inB_iff.1 h2
    omega
def cellAt (c : GCluster) (r s : Int) : GCell := (cellsOf (machAt c r.toNat 0) r).getD s.toNat GCell.z
def noteAt (c : GCluster) (r s : Int) : GNote := ⟨r, s, (cellAt c r s).head.tdiv 4, (cellAt c r s).value, usedB (cellAt c r s).head⟩
def setIn (t : GTx) (r s : Int) : GSet := t.sets.getD (idxI (atCell r s) t.sets).toNat GSet.z
def noteIn (t : GTx) (r s : Int) : GNote := t.reads.getD (idxI (atNote r s) t.reads).toNat GNote.z
/-- the transaction, with a note perhaps; the version, the value, the code -/
noncomputable def readR (c : GCluster) (t : GTx) (r s : Int) : GTx × Int × Int × Int :=
  bif t.sets.any (atCell r s) then (t, (setIn t r s).version, (setIn t r s).value, freeC (setIn t r s).used)
  else bif t.reads.any (atNote r s) then (t, (noteIn t r s).version, (noteIn t r s).value, freeC (noteIn t r s).used)
  else bif !(machAt c r.toNat 0).alive then (t, 0, 0, 6)
  else bif lockedB (cellAt c r s).head then (t, 0, 0, 7)
  else bif !(addRead' t (noteAt c r s)).2 then (t, 0, 0, 9)
  else ((addRead' t (noteAt c r s)).1, (noteAt c r s).version, (noteAt c r s).value, freeC (noteAt c r s).used)
theorem used3 {h : Int} (k : headB h = true) : (andI h 2 != 0) = usedB h := by
  show (!(andI h 2 == 0)) = _
  rw [used2 k, Bool.not_not]
theorem idx_cutN {xs : List GNote} (hs : sortedN xs) {r s : Int} (h : 0 ≤ idxI (atNote r s) xs) : cutAt (cellN r s) GNote.z xs (idxI (atNote r s) xs).toNat ∧ (idxI (atNote r s) xs).toNat < xs.length := by
  obtain ⟨h1, h2⟩ := idxI_in (z := GNote.z) h
  obtain ⟨e1, e2⟩ := atNote_iff.1 h2
  refine ⟨⟨Nat.le_of_lt h1, fun a ha => ?_, fun a ha hb hc => ?_⟩, h1⟩
  · have := hs a _ ha h1
    unfold cellN
    rw [cmpC_lt]
    unfold lessN at this
    rw [e1, e2] at this
    exact this
  · unfold cellN at hc
    rw [cmpC_lt] at hc
    by_cases c : a = (idxI (atNote r s) xs).toNat
    · subst c; rw [e1, e2] at hc; omega
    · have := hs (idxI (atNote r s) xs).toNat a (by omega) hb
      unfold lessN at this
      rw [e1, e2] at this
      omega
theorem cell_ok {c : GCluster} (hok : ClusOk c) {r s : Int} (hr : 0 ≤ r ∧ r < c.places.length) (hs : 0 ≤ s ∧ s ≤ 5) (ha : (machAt c r.toNat 0).alive = true) :
    (cellsOf (machAt c r.toNat 0) r).length = 6 ∧ headB (cellAt c r s).head = true ∧ valB (cellAt c r s).value = true := by
  have hpl := hok.pl (r := r.toNat) (by omega)
  have h1 := hok.at (r := r.toNat) (k := 0) (by omega) (by omega)
  have h2 := h1.2 ha
  rw [Int.toNat_of_nonneg hr.1] at h2
  have h3 := cellsOf_len (hok.mach (r := r.toNat) (k := 0) (by omega) (by omega)) h2
  have h4 : cellAt c r s ∈ cellsOf (machAt c r.toNat 0) r := getD_mem (by omega)
  have h5 : (cellsOf (machAt c r.toNat 0) r).any badCell = false := by
    have := h3.2
    unfold cellsB at this
    rw [show (((cellsOf (machAt c r.toNat 0) r).length : Int) == 6) = true from beq_iff_eq.2 (by rw [h3.1]; rfl)] at this
    simpa using this
  have h6 : badCell (cellAt c r s) = false := by
    cases e : badCell (cellAt c r s) with
    | false => rfl
    | true => rw [List.any_eq_true.2 ⟨_, h4, e⟩] at h5; cases h5
  refine ⟨h3.1, ?_⟩
  unfold badCell at h6
  cases c1 : headB (cellAt c r s).head with
  | false => rw [c1] at h6; cases h6
  | true =>
    cases c2 : valB (cellAt c r s).value with
    | false => rw [c1, c2] at h6; cases h6
    | true => exact ⟨rfl, rfl⟩
theorem noteAt_ok {c : GCluster} (hok : ClusOk c) {r s : Int} (hr : 0 ≤ r ∧ r < c.places.length) (hs : 0 ≤ s ∧ s ≤ 5) (ha : (machAt c r.toNat 0).alive = true) : noteB (noteAt c r s) = true := by
  obtain ⟨_, c2, c3⟩ := cell_ok hok hr hs ha
  have hh := headB_iff.1 c2
  have hv : 0 ≤ (cellAt c r s).head.tdiv 4 ∧ (cellAt c r s).head.tdiv 4 ≤ 1000000 := by rw [Int.tdiv_eq_ediv_of_nonneg hh.1]; omega
  have h6 := hok.2.1.1.2
  unfold noteB noteAt
  rw [inB_iff.2 (show (0 : Int) ≤ r ∧ r ≤ 5 from by omega), inB_iff.2 (show (0 : Int) ≤ s ∧ s ≤ 5 from hs)]
  dsimp only
  rw [inB_iff.2 hv]
  exact c3
theorem freeCode_q (u : Bool) : Ans Tryz.prog 106 [] [vB u] [] (vI (freeC u)) := by
  refine con_enter Tryz.func106 rfl rfl rfl fun B0 r_ D_ w0 => ?_
  refine T_auto TT_ok rfl ?_
  refine T_cond rfl (fun e => ?_) (fun e => ?_)
  · subst e
    refine T_auto TT_ok rfl ?_
    exact T_ansI TT_ok [(2, none)] rfl rfl (rfl)
  · subst e
    refine T_auto TT_ok rfl ?_
    exact T_ansI TT_ok [(2, none)] rfl rfl (rfl)
theorem cellCode_k (c : GCluster) (b1 : c.places.length ≤ 1048576) (r s : Int) : Con Tryz.prog 45 [900, 901] [.a (.p 900 0), vI r, vI s] [(900, .rrow (rowC c 901 902 903)), (901, roC 1 cPlace GPlace.z c.places)] (fun _ : Unit => True) (fun _ => [vI (cellN5 c r s)]) fun _ => [] := by
  refine con_enter Tryz.func45 rfl rfl rfl fun B0 r_ D_ w0 => ?_
  refine T_auto TT_ok rfl ?_
  refine RJ_Q TT_ok (sizePlace_q _) rfl rfl rfl rfl rfl ?_
  refine RJ_Q TT_ok (impl_within_q _ _ _) rfl rfl rfl rfl rfl ?_
  refine RJ_Q TT_ok (impl_isSlot_q _) rfl rfl rfl rfl rfl ?_
  refine T_cond (b := cellB c r s) rfl (fun e => ?_) (fun e => ?_)
  · rw [show cellN5 c r s = 5 from by unfold cellN5; rw [e]; rfl]
    refine T_auto TT_ok rfl ?_
    refine T_ret TT_ok (()) [(6, none)] rfl rfl ?_ ?_ ?_
    · exact SVs.imp_refl _
    · trivial
    · trivial
  · rw [show cellN5 c r s = 0 from by unfold cellN5; rw [e]; rfl]
    refine T_auto TT_ok rfl ?_
    refine T_ret TT_ok (()) [(6, none)] rfl rfl ?_ ?_ ?_
    · exact SVs.imp_refl _
    · trivial
    · trivial
theorem primary_k (c : GCluster) (hok : ClusOk c) (r0 : Int) (hr : 0 ≤ r0 ∧ r0 < c.places.length) : Con Tryz.prog 108 [900, 901, 902] [.a (.p 900 0), vI r0] [(900, .rrow (rowC c 901 902 903)), (901, roC 1 cPlace GPlace.z c.places), (902, roC 4 cMachine GMachine.z c.machines)] (fun _ : Unit => True) (fun _ => [.a (.pe 902 4 (mAt c r0.toNat 0) 0)]) fun _ => [] := by
  have hpl := hok.pl (r := r0.toNat) (by omega)
  have hm := (hok.at (r := r0.toNat) (k := 0) (by omega) (by omega)).1
  refine con_enter Tryz.func108 rfl rfl rfl fun B0 r_ D_ w0 => ?_
  refine T_auto TT_ok rfl ?_
  refine T_drawL TT_ok [] [0, 1, 2, 3, 4, 5, 6, 7, 8, 9, 10, 11, 12, 13, 14, 15] rfl rfl fun B0 H0 => ?_
  refine DJ_endA TT_ok rfl ?_
  refine T_ret TT_ok (()) [(4, none)] rfl rfl ?_ ?_ ?_
  · exact SVs.imp_refl _
  · trivial
  · trivial
theorem readR_sets {c : GCluster} {t : GTx} {r s : Int} : (readR c t r s).1.sets = t.sets := by
  unfold readR
  cases t.sets.any (atCell r s) with
  | true => rfl
  | false =>
    cases t.reads.any (atNote r s) with
    | true => rfl
    | false =>
      cases (machAt c r.toNat 0).alive with
      | false => rfl
      | true =>
        cases lockedB (cellAt c r s).head with
        | true => rfl
        | false => cases (addRead' t (noteAt c r s)).2 <;> first | rfl | exact addRead_sets _ _
theorem read_k (c : GCluster) (hb : D.bds bigN (cCluster c)) (hok : ClusOk c) (t : GTx) (ht : TxOk t) (r s : Int) (hr : 0 ≤ r ∧ r < c.places.length) (hs : 0 ≤ s ∧ s ≤ 5) :
    Con Tryz.prog 46 [900, 901, 902, 77, 78, 79] [.a (.p 900 0), .a (.p 77 0), vI r, vI s] [(900, .rrow (rowC c 901 902 903)), (901, roC 1 cPlace GPlace.z c.places), (902, roC 4 cMachine GMachine.z c.machines), (77, .row (rowT t 78 79)), (78, arrC 5 cNote GNote.z t.reads), (79, arrC 5 cSet GSet.z t.sets)]
      (fun _ : Unit => True) (fun _ => [vI (readR c t r s).2.1, vI (readR c t r s).2.2.1, vI (readR c t r s).2.2.2]) fun _ => [(77, .row (rowT (readR c t r s).1 80 79)), (80, arrC 5 cNote GNote.z (readR c t r s).1.reads), (79, arrC 5 cSet GSet.z t.sets)] := by
  have hsS := sortedS_of ht.2.2
  have hsN := sortedN_of ht.2.1
  have hl1 := ht.1.2.2.2.2.2.1
  have hl2 := ht.1.2.2.2.2.2.2
  have hpl := hok.pl (r := r.toNat) (by omega)
  have hm := (hok.at (r := r.toNat) (k := 0) (by omega) (by omega)).1
  have bm := bdM_any hb (mAt c r.toNat 0).toNat
  refine con_enter Tryz.func46 rfl rfl rfl fun B0 r_ D_ w0 => ?_
  refine T_auto TT_ok rfl ?_
  refine RJ_C TT_ok (set_c t (by omega) r s hsS) rfl rfl (SVs.imp_refl _) (fun _ => rfl) rfl rfl rfl fun i hi => ?_
  rw [found_eq hsS hi]
  refine RJ_auto TT_ok rfl ?_
  refine T_cond (b := t.sets.any (atCell r s)) rfl (fun e => ?_) (fun e => ?_)
  · obtain ⟨h1, h2⟩ := idx_cut hsS ((any_idx (z := GSet.z)).2 e)
    obtain rfl := cutAt_uniq hi h1
    rw [show readR c t r s = (t, (setIn t r s).version, (setIn t r s).value, freeC (setIn t r s).used) from by unfold readR; rw [e]; rfl]
    refine T_auto TT_ok rfl ?_
    refine T_drawL TT_ok [] [0, 1, 2, 3, 4, 5, 6, 7, 8, 9] rfl rfl fun B0 H0 => ?_
    refine DJ_Qi 6 (freeCode_q _) rfl rfl rfl (SVs.imp_refl _) rfl ?_
    refine DJ_onL TT_ok [7, 8, 9] rfl ?_
    refine DJ_endA TT_ok rfl ?_
    refine T_view (V_fold 77 4 78 rfl rfl rfl rfl rfl rfl rfl) ?_
    refine T_view (V_open 77 4 80 rfl rfl rfl rfl rfl rfl) ?_
    refine T_ret TT_ok (()) [(8, none), (9, none), (10, none)] rfl rfl ?_ ?_ ?_
    · exact SVs.imp_refl _
    · exact ⟨⟨_, rfl, Ch.imp_refl _⟩, ⟨_, rfl, Ch.imp_refl _⟩, ⟨_, rfl, Ch.imp_refl _⟩, trivial⟩
    · trivial
  refine T_auto TT_ok rfl ?_
  refine RJ_C TT_ok (read_c t (by omega) r s hsN) rfl rfl (SVs.imp_refl _) (fun _ => rfl) rfl rfl rfl fun j hj => ?_
  rw [foundN_eq hsN hj]
  refine RJ_auto TT_ok rfl ?_
  refine T_cond (b := t.reads.any (atNote r s)) rfl (fun e2 => ?_) (fun e2 => ?_)
  · obtain ⟨h1, h2⟩ := idx_cutN hsN ((any_idx (z := GNote.z)).2 e2)
    obtain rfl := cutAt_uniq hj h1
    rw [show readR c t r s = (t, (noteIn t r s).version, (noteIn t r s).value, freeC (noteIn t r s).used) from by unfold readR; rw [e, e2]; rfl]
    refine T_auto TT_ok rfl ?_
    refine T_drawL TT_ok [] [0, 1, 2, 3, 4, 5, 6, 7, 8, 9] rfl rfl fun B0 H0 => ?_
    refine DJ_Qi 6 (freeCode_q _) rfl rfl rfl (SVs.imp_refl _) rfl ?_
    refine DJ_onL TT_ok [7, 8, 9] rfl ?_
    refine DJ_endA TT_ok rfl ?_
    refine T_view (V_fold 77 4 78 rfl rfl rfl rfl rfl rfl rfl) ?_
    refine T_view (V_open 77 4 80 rfl rfl rfl rfl rfl rfl) ?_
    refine T_ret TT_ok (()) [(8, none), (9, none), (10, none)] rfl rfl ?_ ?_ ?_
    · exact SVs.imp_refl _
    · exact ⟨⟨_, rfl, Ch.imp_refl _⟩, ⟨_, rfl, Ch.imp_refl _⟩, ⟨_, rfl, Ch.imp_refl _⟩, trivial⟩
    · trivial
  refine T_auto TT_ok rfl ?_
  refine RJ_C TT_ok (primary_k c hok r hr) rfl rfl (SVs.imp_refl _) (fun _ => rfl) rfl rfl rfl (fun _ _ => ?_) (hin := ⟨⟨_, rfl, ro_rrow⟩, ⟨_, rfl, ro_ro⟩, ⟨_, rfl, ro_ro⟩, trivial⟩)
  refine RJ_auto TT_ok rfl ?_
  refine T_cond (b := !(machAt c r.toNat 0).alive) rfl (fun e3 => ?_) (fun e3 => ?_)
  · rw [show readR c t r s = (t, 0, 0, 6) from by unfold readR; rw [e, e2, e3]; rfl]
    refine T_auto TT_ok rfl ?_
    refine T_view (V_fold 77 4 78 rfl rfl rfl rfl rfl rfl rfl) ?_
    refine T_view (V_open 77 4 80 rfl rfl rfl rfl rfl rfl) ?_
    refine T_ret TT_ok (()) [(8, none), (9, none), (10, none)] rfl rfl ?_ ?_ ?_
    · exact SVs.imp_refl _
    · exact ⟨⟨_, rfl, Ch.imp_refl _⟩, ⟨_, rfl, Ch.imp_refl _⟩, ⟨_, rfl, Ch.imp_refl _⟩, trivial⟩
    · trivial
  have ha : (machAt c r.toNat 0).alive = true := by simpa using e3
  obtain ⟨c1, c2, c3⟩ := cell_ok hok hr hs ha
  have hh := headB_iff.1 c2
  have hv : 0 ≤ (cellAt c r s).head.tdiv 4 ∧ (cellAt c r s).head.tdiv 4 ≤ 1000000 := by rw [Int.tdiv_eq_ediv_of_nonneg hh.1]; omega
  unfold cellAt at hv
  refine T_view (V_unro (fr' := []) 17 902 rfl rfl rfl hm) ?_
  refine T_auto TT_ok rfl ?_
  refine RJ_QR TT_ok (cells_q (machAt c r.toNat 0) bm.2.1.1 r) rfl rfl (SVs.imp_refl _) rfl rfl ?_
  have k1 := locked1 c2
  have k2 := used3 c2
  unfold cellAt at k1 k2
  rw [k1, k2]
  refine T_cond (b := lockedB (cellAt c r s).head) rfl (fun e4 => ?_) (fun e4 => ?_)
  · rw [show readR c t r s = (t, 0, 0, 7) from by unfold readR; rw [e, e2, e3, e4]; rfl]
    refine T_auto TT_ok rfl ?_
    refine T_view (V_fold 77 4 78 rfl rfl rfl rfl rfl rfl rfl) ?_
    refine T_view (V_open 77 4 80 rfl rfl rfl rfl rfl rfl) ?_
    refine T_ret TT_ok (()) [(8, none), (9, none), (10, none)] rfl rfl ?_ ?_ ?_
    · exact SVs.imp_refl _
    · exact ⟨⟨_, rfl, Ch.imp_refl _⟩, ⟨_, rfl, Ch.imp_refl _⟩, ⟨_, rfl, Ch.imp_refl _⟩, trivial⟩
    · trivial
  refine T_auto TT_ok rfl ?_
  refine RJ_C TT_ok (Con.sw 900 77 (Con.sw 901 78 (Con.sw 902 79 (Con.sw 904 80 (addRead_c t (noteAt c r s) hl1 hsN))))) rfl rfl (SVs.imp_refl _) (fun _ => rfl) rfl rfl rfl fun _ _ => ?_
  refine RJ_auto TT_ok rfl ?_
  refine T_cond (b := !(addRead' t (noteAt c r s)).2) rfl (fun e5 => ?_) (fun e5 => ?_)
  · have hsame : (addRead' t (noteAt c r s)).1 = t := by
      unfold addRead' at e5 ⊢
      cases d1 : t.reads.any (atNote (noteAt c r s).region (noteAt c r s).slot) with
      | true => rfl
      | false =>
        cases d2 : decide ((t.reads.length : Int) = 12) with
        | true => rfl
        | false => rw [d1, d2] at e5; cases e5
    rw [show readR c t r s = (t, 0, 0, 9) from by unfold readR; rw [e, e2, e3, e4, e5]; rfl, hsame]
    refine T_auto TT_ok rfl ?_
    refine T_ret TT_ok (()) [(8, none), (9, none), (10, none)] rfl rfl ?_ ?_ ?_
    · exact SVs.imp_refl _
    · exact ⟨⟨_, rfl, Ch.imp_refl _⟩, ⟨_, rfl, Ch.imp_refl _⟩, ⟨_, rfl, Ch.imp_refl _⟩, trivial⟩
    · trivial
  rw [show readR c t r s = ((addRead' t (noteAt c r s)).1, (noteAt c r s).version, (noteAt c r s).value, freeC (noteAt c r s).used) from by unfold readR; rw [e, e2, e3, e4, e5]; rfl]
  refine T_auto TT_ok rfl ?_
  refine T_drawL TT_ok [] [0, 1, 2, 3, 4, 5, 6, 7, 8, 9] rfl rfl fun B0 H0 => ?_
  refine DJ_Qi 6 (freeCode_q _) rfl rfl rfl (SVs.imp_refl _) rfl ?_
  refine DJ_onL TT_ok [7, 8, 9] rfl ?_
  refine DJ_endA TT_ok rfl ?_
  refine T_ret TT_ok (()) [(8, none), (9, none), (10, none)] rfl rfl ?_ ?_ ?_
  · exact SVs.imp_refl _
  · exact ⟨⟨_, rfl, Ch.imp_refl _⟩, ⟨_, rfl, Ch.imp_refl _⟩, ⟨_, rfl, Ch.imp_refl _⟩, trivial⟩
  · trivial
abbrev MkCII (P : Program) (f : Nat) (args : List SV) (c : GCluster) (v n : Int) : Prop := Con P f [] args [] (fun _ : Unit => True) (fun _ => [agClusterG c 901 902 903, vI v, vI n]) fun _ => [(901, arrC 1 cPlace GPlace.z c.places), (902, arrC 4 cMachine GMachine.z c.machines), (903, arrC 7 cTx GTx.z c.txs)]
/-- with another transaction in its place -/
noncomputable def putC (c : GCluster) (id : Int) (t : GTx) : GCluster := { c with txs := c.txs.set (findI c id).toNat t }
open Classical in
noncomputable def readM (c : GCluster) (id r s : Int) : GCluster × Int × Int :=
  if ClusOk c then (if runC c id = 0 then (bif cellB c r s then (c, 0, 5) else (putC c id (readR c (txAt c id) r s).1, (if (readR c (txAt c id) r s).2.2.2 = 0 then (readR c (txAt c id) r s).2.2.1 else 0), (readR c (txAt c id) r s).2.2.2)) else (c, 0, runC c id)) else (GCluster.z, 0, 1)
theorem impl_Read_m (c : GCluster) (hb : D.bds bigN (cCluster c)) (id r s : Int) : MkCII Tryz.prog 16 [vR (cCluster c), vI id, vI r, vI s] (readM c id r s).1 (readM c id r s).2.1 (readM c id r s).2.2 := by
  have b3 : c.txs.length ≤ 1048576 := hb.2.2.2.2.1.1
  refine con_enter Tryz.func16 rfl rfl rfl fun B0 r_ D_ w0 => ?_
  refine T_auto1 TT_ok rfl ?_
  refine T_freeze 4 rfl rfl rfl rfl (fun _ => rfl) (fun _ => rfl) fun r_ => ?_
  refine T_auto TT_ok rfl ?_
  refine RJ_Q TT_ok (impl_isCluster_q c hb) rfl rfl rfl rfl rfl ?_
  refine T_condX rfl (fun e => ?_) (fun e => ?_)
  · rw [show readM c id r s = (GCluster.z, 0, 1) from if_neg (dec_not.1 e)]
    refine T_auto TT_ok rfl ?_
    refine T_view (V_nilR 8 2 1 (fun i => cPlace (([] : List GPlace).getD i GPlace.z)) rfl rfl rfl) ?_
    refine T_view (V_nilR 8 3 4 (fun i => cMachine (([] : List GMachine).getD i GMachine.z)) rfl rfl rfl) ?_
    refine T_view (V_nilR 8 4 7 (fun i => cTx (([] : List GTx).getD i GTx.z)) rfl rfl rfl) ?_
    refine T_view (V_open 8 2 901 rfl rfl rfl rfl rfl rfl) ?_
    refine T_view (V_open 8 3 902 rfl rfl rfl rfl rfl rfl) ?_
    refine T_view (V_open 8 4 903 rfl rfl rfl rfl rfl rfl) ?_
    refine T_ret TT_ok (()) [(8, some 32), (9, none), (10, none)] rfl rfl ?_ ?_ ?_
    · exact SVs.imp_refl _
    · exact ⟨⟨_, rfl, Ch.imp_refl _⟩, ⟨_, rfl, Ch.imp_refl _⟩, ⟨_, rfl, Ch.imp_refl _⟩, trivial⟩
    · trivial
  have hok := dec_iff.1 e
  refine T_auto TT_ok rfl ?_
  refine RJ_C TT_ok (cloneCluster_m c hb) rfl rfl (SVs.imp_refl _) (fun _ => rfl) rfl rfl rfl fun _ _ => ?_
  refine RJ_auto TT_ok rfl ?_
  by_cases h0 : runC c id = 0
  · have hge := (live_of_run h0).2.2
    have hlt := findI_lt (c := c) (id := id)
    have hin := findI_in hge
    have ht := hok.tx hin.1
    refine RJ_C TT_ok (Con.sw 900 11 (running_yes c b3 hok id h0)) rfl rfl (SVs.imp_refl _) (fun _ => rfl) rfl rfl rfl (fun _ _ => ?_)
    refine RJ_auto TT_ok rfl ?_
    refine T_cond rfl (fun _ => ?_) (fun e => by cases e)
    refine T_auto TT_ok rfl ?_
    refine RJ_C TT_ok (Con.sw 900 11 (cellCode_k c hb.2.2.1.1 r s)) rfl rfl (SVs.imp_refl _) (fun _ => rfl) rfl rfl rfl fun _ _ => ?_
    refine RJ_auto TT_ok rfl ?_
    cases hc : cellB c r s with
    | true =>
      rw [show readM c id r s = (c, 0, 5) from by unfold readM; rw [if_pos hok, if_pos h0, hc]; rfl, show cellN5 c r s = 5 from by unfold cellN5; rw [hc]; rfl]
      refine T_cond rfl (fun _ => ?_) (fun e => by cases e)
      refine T_auto TT_ok rfl ?_
      refine T_ret TT_ok (()) [(8, some 32), (9, none), (10, none)] rfl rfl ?_ ?_ ?_
      · exact SVs.imp_refl _
      · exact ⟨⟨_, rfl, Ch.imp_refl _⟩, ⟨_, rfl, Ch.imp_refl _⟩, ⟨_, rfl, Ch.imp_refl _⟩, trivial⟩
      · trivial
    | false =>
      obtain ⟨hr, hs⟩ := cellB_in hc
      rw [show cellN5 c r s = 0 from by unfold cellN5; rw [hc]; rfl]
      refine T_cond rfl (fun e => by cases e) (fun _ => ?_)
      refine T_view (V_carve 903 (findI c id) 77 rfl rfl rfl rfl rfl rfl ⟨hge, hlt⟩) ?_
      refine T_view (V_pe 12 rfl rfl rfl) ?_
      refine T_view (V_open 77 4 78 rfl rfl rfl rfl rfl rfl) ?_
      refine T_view (V_open 77 5 79 rfl rfl rfl rfl rfl rfl) ?_
      refine T_auto TT_ok rfl ?_
      refine RJ_C TT_ok (Con.sw 900 11 (read_k c hb hok (txAt c id) ht r s hr hs)) rfl rfl (SVs.imp_refl _) (fun _ => rfl) rfl rfl rfl fun _ _ => ?_
      refine RJ_auto TT_ok rfl ?_
      have hq : readM c id r s = (putC c id (readR c (txAt c id) r s).1, (if (readR c (txAt c id) r s).2.2.2 = 0 then (readR c (txAt c id) r s).2.2.1 else 0), (readR c (txAt c id) r s).2.2.2) := by unfold readM; rw [if_pos hok, if_pos h0, hc]; rfl
      have hsets := readR_sets (c := c) (t := txAt c id) (r := r) (s := s)
      generalize readR c (txAt c id) r s = q at hq hsets ⊢
      rw [hq]
      refine T_condN rfl (fun e => ?_) (fun e => ?_)
      · rw [if_neg e]
        refine T_auto TT_ok rfl ?_
        refine T_view (V_fold 77 4 80 rfl rfl rfl rfl rfl rfl rfl) ?_
        refine T_view (V_fold 77 5 79 rfl rfl rfl rfl rfl rfl rfl) ?_
        refine T_view (V_uncarve 903 77 rfl rfl rfl rfl rfl rfl rfl) ?_
        rw [← hsets]
        refine T_ret TT_ok (()) [(8, some 32), (9, none), (10, none)] rfl rfl ?_ ?_ ?_
        · exact SVs.imp_refl _
        · exact ⟨⟨_, rfl, Ch.imp_refl _⟩, ⟨_, rfl, Ch.imp_refl _⟩, ⟨_, rfl, imp_set (OwnI.refl _)⟩, trivial⟩
        · trivial
      · rw [if_pos e, e]
        refine T_auto TT_ok rfl ?_
        refine T_view (V_fold 77 4 80 rfl rfl rfl rfl rfl rfl rfl) ?_
        refine T_view (V_fold 77 5 79 rfl rfl rfl rfl rfl rfl rfl) ?_
        refine T_view (V_uncarve 903 77 rfl rfl rfl rfl rfl rfl rfl) ?_
        rw [← hsets]
        refine T_ret TT_ok (()) [(8, some 32), (9, none), (10, none)] rfl rfl ?_ ?_ ?_
        · exact SVs.imp_refl _
        · exact ⟨⟨_, rfl, Ch.imp_refl _⟩, ⟨_, rfl, Ch.imp_refl _⟩, ⟨_, rfl, imp_set (OwnI.refl _)⟩, trivial⟩
        · trivial
  · rw [show readM c id r s = (c, 0, runC c id) from by unfold readM; rw [if_pos hok, if_neg h0]]
    refine RJ_C TT_ok (Con.sw 900 11 (running_no c b3 hok id h0)) rfl rfl (SVs.imp_refl _) (fun _ => rfl) rfl rfl rfl (fun _ _ => ?_)
    refine RJ_auto TT_ok rfl ?_
    refine T_condE rfl (fun e => absurd e h0) (fun _ => ?_)
    refine T_auto TT_ok rfl ?_
    refine T_condN rfl (fun _ => ?_) (fun e => absurd e h0)
    refine T_auto TT_ok rfl ?_
    refine T_ret TT_ok (()) [(8, some 32), (9, none), (10, none)] rfl rfl ?_ ?_ ?_
    · exact SVs.imp_refl _
    · exact ⟨⟨_, rfl, Ch.imp_refl _⟩, ⟨_, rfl, Ch.imp_refl _⟩, ⟨_, rfl, Ch.imp_refl _⟩, trivial⟩
    · trivial
end Go.Proofs.YtpfcfepbhdkpdaaGreat
