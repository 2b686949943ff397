
/-
  Commit; on both sides; who runs.
-/
import Derived.Test.YtpfcfepbhdkpdaaGreatP19
namespace Go.Proofs.YtpfcfepbhdkpdaaGreat
open Go Go.RowKit
set_option linter.unusedVariables false
set_option linter.unusedSimpArgs false
set_option maxRecDepth 4000

abbrev roC {α : Type} (sz : Nat) (enc : α → List D) (z : α) (xs : List α) : Ch := .ro sz xs.length fun i => enc (xs.getD i z)
theorem tx_some_k (c : GCluster) (hl : c.txs.length ≤ 1048576) (id : Int) (h : 0 ≤ findI c id) : Con Tryz.prog 153 [900, 903] [.a (.p 900 0), vI id] [(900, .rrow (rowC c 901 902 903)), (903, roC 7 cTx GTx.z c.txs)] (fun _ : Unit => True) (fun _ => [.a (.pe 903 7 (findI c id) 0)]) fun _ => [] := by
  have hin := findI_in h
  refine con_enter Tryz.func153 rfl rfl rfl fun B0 r_ D_ w0 => ?_
  refine T_auto TT_ok rfl ?_
  refine RJ_QF TT_ok (indexFuncTx_p c.txs hl (fun _ => True) (fun _ _ => trivial) fun t => t.id == id) rfl rfl (SVs.cons (SV.imp_refl _) (SVs.cons (imp_fb (enters_B (by kernel_rfl)) rfl fun args x ⟨n, _, e1, e2⟩ => by subst e1; subst e2; exact tx1_q n _) rfl)) rfl rfl ?_
  refine T_condD rfl (fun e => absurd h (Int.not_le.2 e)) (fun _ => ?_)
  have hx : 0 ≤ idxI (fun t : GTx => t.id == id) c.txs ∧ idxI (fun t : GTx => t.id == id) c.txs < c.txs.length := ⟨h, findI_lt⟩
  refine T_auto TT_ok rfl ?_
  refine T_ret TT_ok (()) [(4, none)] rfl rfl ?_ ?_ ?_
  · exact SVs.imp_refl _
  · trivial
  · trivial
theorem tx_none_k (c : GCluster) (hl : c.txs.length ≤ 1048576) (id : Int) (h : findI c id < 0) : Con Tryz.prog 153 [900, 903] [.a (.p 900 0), vI id] [(900, .rrow (rowC c 901 902 903)), (903, roC 7 cTx GTx.z c.txs)] (fun _ : Unit => True) (fun _ => [.a (.v (.pointer none))]) fun _ => [] := by
  refine con_enter Tryz.func153 rfl rfl rfl fun B0 r_ D_ w0 => ?_
  refine T_auto TT_ok rfl ?_
  refine RJ_QF TT_ok (indexFuncTx_p c.txs hl (fun _ => True) (fun _ _ => trivial) fun t => t.id == id) rfl rfl (SVs.cons (SV.imp_refl _) (SVs.cons (imp_fb (enters_B (by kernel_rfl)) rfl fun args x ⟨n, _, e1, e2⟩ => by subst e1; subst e2; exact tx1_q n _) rfl)) rfl rfl ?_
  refine T_condD rfl (fun _ => ?_) (fun e => absurd h e)
  refine T_auto TT_ok rfl ?_
  refine T_ret TT_ok (()) [(4, none)] rfl rfl ?_ ?_ ?_
  · exact SVs.imp_refl _
  · trivial
  · trivial
theorem ro_rrow {l : List V} : ∀ B r h s j, Ch.sat B r h j (.rrow l) → r.le s → h.le s → Ch.sat B s PH.emp j (.rrow l) := fun B r h s j ⟨b, o, vs, e1, e2, e4⟩ lr _ =>
  ⟨b, o, vs, e1, V.rels_mono (fun q => Zf_mono lr (fun _ => PH.le_refl _) q) e2, fun i hi => by
    have h1 := e4 i hi
    have h2 : i < vs.length := by have := V.rels_length e2; omega
    rw [List.getElem?_eq_getElem h2] at h1 ⊢
    exact lr _ _ _ h1⟩
abbrev txAt (c : GCluster) (id : Int) : GTx := c.txs.getD (findI c id).toNat GTx.z
abbrev homeUp (c : GCluster) (id : Int) : Bool := (c.machines.getD (txAt c id).home.toNat GMachine.z).alive
/-- may it be asked for? 0 if so -/
def liveC (c : GCluster) (id : Int) : Int := bif decide (findI c id < 0) then 2 else bif !homeUp c id then 3 else 0
def runC (c : GCluster) (id : Int) : Int := bif decide (findI c id < 0) then 2 else bif !homeUp c id then 3 else bif !((txAt c id).phase == 1) then 4 else 0
theorem ClusOk.home {c : GCluster} (h : ClusOk c) {i : Nat} (hi : i < c.txs.length) : 0 ≤ (c.txs.getD i GTx.z).home ∧ (c.txs.getD i GTx.z).home < c.machines.length := by
  have h1 := (h.tx hi).1.2.1
  have h2 := (h.2.2.2.2 i hi).1
  unfold badTx at h2
  refine ⟨h1.1, ?_⟩
  by_cases c1 : (c.txs.getD i GTx.z).home < c.machines.length
  · exact c1
  · rw [decide_eq_true (show (c.txs.getD i GTx.z).home ≥ (c.machines.length : Int) by omega)] at h2
    simp at h2
open Classical in
noncomputable def runI (c : GCluster) (id : Int) : Int × Int := if ClusOk c then (if runC c id = 0 then (findI c id, 0) else (-1, runC c id)) else (-1, 1)
theorem l9Runs_c (c : GCluster) (hb : D.bds bigN (cCluster c)) (id : Int) : Con Tryz.prog 26 [] [vR (cCluster c), vI id] [] (fun _ : Unit => True) (fun _ => [vI (runI c id).1, vI (runI c id).2]) fun _ => [] := by
  have b3 : c.txs.length ≤ 1048576 := hb.2.2.2.2.1.1
  refine con_enter Tryz.func26 rfl rfl rfl fun B0 r_ D_ w0 => ?_
  refine T_auto1 TT_ok rfl ?_
  refine T_freeze 2 rfl rfl rfl rfl (fun _ => rfl) (fun _ => rfl) fun r_ => ?_
  refine T_auto TT_ok rfl ?_
  refine RJ_Q TT_ok (spec_ClusterOk_q c hb) rfl rfl rfl rfl rfl ?_
  refine T_condX rfl (fun e => ?_) (fun e => ?_)
  · rw [show runI c id = (-1, 1) from if_neg (dec_not.1 e)]
    refine T_auto TT_ok rfl ?_
    refine T_ret TT_ok (()) [(4, none), (5, none)] rfl rfl ?_ ?_ ?_
    · exact SVs.imp_refl _
    · trivial
    · trivial
  have hok := dec_iff.1 e
  have hR : runI c id = if runC c id = 0 then (findI c id, 0) else (-1, runC c id) := if_pos hok
  refine T_auto TT_ok rfl ?_
  refine RJ_Q TT_ok (l8Find_q c b3 id) rfl rfl rfl rfl rfl ?_
  refine T_condD rfl (fun e1 => ?_) (fun e1 => ?_)
  · have h : runC c id = 2 := by unfold runC; rw [decide_eq_true e1]; rfl
    rw [show runI c id = (-1, runC c id) from by rw [hR, if_neg (by rw [h]; decide)], h]
    refine T_auto TT_ok rfl ?_
    refine T_ret TT_ok (()) [(4, none), (5, none)] rfl rfl ?_ ?_ ?_
    · exact SVs.imp_refl _
    · trivial
    · trivial
  have hin := findI_in (c := c) (id := id) (by omega)
  have hlt := findI_lt (c := c) (id := id)
  have hh := hok.home hin.1
  refine T_auto TT_ok rfl ?_
  refine T_drawL TT_ok [] [0, 1, 2, 3, 4, 5, 6, 7, 8, 9, 10, 11, 12] rfl rfl fun B0 H0 => ?_
  refine DJ_endA TT_ok rfl ?_
  refine T_cond (b := !homeUp c id) rfl (fun e2 => ?_) (fun e2 => ?_)
  · have h : runC c id = 3 := by unfold runC; rw [decide_eq_false e1, e2]; rfl
    rw [show runI c id = (-1, runC c id) from by rw [hR, if_neg (by rw [h]; decide)], h]
    refine T_auto TT_ok rfl ?_
    refine T_ret TT_ok (()) [(4, none), (5, none)] rfl rfl ?_ ?_ ?_
    · exact SVs.imp_refl _
    · trivial
    · trivial
  refine T_auto TT_ok rfl ?_
  refine T_cond (b := !((txAt c id).phase == 1)) rfl (fun e3 => ?_) (fun e3 => ?_)
  · have h : runC c id = 4 := by unfold runC; rw [decide_eq_false e1, e2, e3]; rfl
    rw [show runI c id = (-1, runC c id) from by rw [hR, if_neg (by rw [h]; decide)], h]
    refine T_auto TT_ok rfl ?_
    refine T_ret TT_ok (()) [(4, none), (5, none)] rfl rfl ?_ ?_ ?_
    · exact SVs.imp_refl _
    · trivial
    · trivial
  have h : runC c id = 0 := by unfold runC; rw [decide_eq_false e1, e2, e3]; rfl
  rw [show runI c id = (findI c id, 0) from by rw [hR, if_pos h]]
  refine T_auto TT_ok rfl ?_
  refine T_ret TT_ok (()) [(4, none), (5, none)] rfl rfl ?_ ?_ ?_
  · exact SVs.imp_refl _
  · trivial
  · trivial
theorem living_yes (c : GCluster) (hl : c.txs.length ≤ 1048576) (hok : ClusOk c) (id : Int) (h0 : liveC c id = 0) : Con Tryz.prog 87 [900, 902, 903] [.a (.p 900 0), vI id] [(900, .rrow (rowC c 901 902 903)), (902, roC 4 cMachine GMachine.z c.machines), (903, roC 7 cTx GTx.z c.txs)] (fun _ : Unit => True) (fun _ => [.a (.pe 903 7 (findI c id) 0), vI 0]) fun _ => [] := by
  refine con_enter Tryz.func87 rfl rfl rfl fun B0 r_ D_ w0 => ?_
  refine T_auto TT_ok rfl ?_
  by_cases hf : findI c id < 0
  · have h : liveC c id = 2 := by unfold liveC; rw [decide_eq_true hf]; rfl
    rw [h] at h0; cases h0
  have hin := findI_in (c := c) (id := id) (by omega)
  have hlt := findI_lt (c := c) (id := id)
  have hh := hok.home hin.1
  refine RJ_C TT_ok (tx_some_k c hl id (by omega)) rfl rfl (SVs.imp_refl _) (fun _ => rfl) rfl rfl rfl (fun _ _ => ?_) (hin := ⟨⟨_, rfl, ro_rrow⟩, ⟨_, rfl, ro_ro⟩, trivial⟩)
  refine RJ_auto TT_ok rfl ?_
  refine T_cond rfl (fun e => by cases e) (fun e => ?_)
  refine T_auto TT_ok rfl ?_
  refine T_drawL TT_ok [] [0, 1, 2, 3, 4, 5, 6, 7, 8, 9, 10, 11, 12] rfl rfl fun B0 H0 => ?_
  refine DJ_endA TT_ok rfl ?_
  refine T_cond (b := !homeUp c id) rfl (fun e2 => ?_) (fun e2 => ?_)
  · have h : liveC c id = 3 := by unfold liveC; rw [decide_eq_false hf, e2]; rfl
    rw [h] at h0; cases h0
  have h : liveC c id = 0 := by unfold liveC; rw [decide_eq_false hf, e2]; rfl
  refine T_auto TT_ok rfl ?_
  refine T_ret TT_ok (()) [(4, none), (5, none)] rfl rfl ?_ ?_ ?_
  · exact SVs.imp_refl _
  · trivial
  · trivial
theorem living_no (c : GCluster) (hl : c.txs.length ≤ 1048576) (hok : ClusOk c) (id : Int) (h0 : liveC c id ≠ 0) : Con Tryz.prog 87 [900, 902, 903] [.a (.p 900 0), vI id] [(900, .rrow (rowC c 901 902 903)), (902, roC 4 cMachine GMachine.z c.machines), (903, roC 7 cTx GTx.z c.txs)] (fun _ : Unit => True) (fun _ => [.a (.v (.pointer none)), vI (liveC c id)]) fun _ => [] := by
  refine con_enter Tryz.func87 rfl rfl rfl fun B0 r_ D_ w0 => ?_
  refine T_auto TT_ok rfl ?_
  by_cases hf : findI c id < 0
  · have h : liveC c id = 2 := by unfold liveC; rw [decide_eq_true hf]; rfl
    rw [h]
    refine RJ_C TT_ok (tx_none_k c hl id hf) rfl rfl (SVs.imp_refl _) (fun _ => rfl) rfl rfl rfl (fun _ _ => ?_) (hin := ⟨⟨_, rfl, ro_rrow⟩, ⟨_, rfl, ro_ro⟩, trivial⟩)
    refine RJ_auto TT_ok rfl ?_
    refine T_cond rfl (fun e => ?_) (fun e => by cases e)
    refine T_auto TT_ok rfl ?_
    refine T_ret TT_ok (()) [(4, none), (5, none)] rfl rfl ?_ ?_ ?_
    · exact SVs.imp_refl _
    · trivial
    · trivial
  have hin := findI_in (c := c) (id := id) (by omega)
  have hlt := findI_lt (c := c) (id := id)
  have hh := hok.home hin.1
  refine RJ_C TT_ok (tx_some_k c hl id (by omega)) rfl rfl (SVs.imp_refl _) (fun _ => rfl) rfl rfl rfl (fun _ _ => ?_) (hin := ⟨⟨_, rfl, ro_rrow⟩, ⟨_, rfl, ro_ro⟩, trivial⟩)
  refine RJ_auto TT_ok rfl ?_
  refine T_cond rfl (fun e => by cases e) (fun e => ?_)
  refine T_auto TT_ok rfl ?_
  refine T_drawL TT_ok [] [0, 1, 2, 3, 4, 5, 6, 7, 8, 9, 10, 11, 12] rfl rfl fun B0 H0 => ?_
  refine DJ_endA TT_ok rfl ?_
  refine T_cond (b := !homeUp c id) rfl (fun e2 => ?_) (fun e2 => ?_)
  · have h : liveC c id = 3 := by unfold liveC; rw [decide_eq_false hf, e2]; rfl
    rw [h]
    refine T_auto TT_ok rfl ?_
    refine T_ret TT_ok (()) [(4, none), (5, none)] rfl rfl ?_ ?_ ?_
    · exact SVs.imp_refl _
    · trivial
    · trivial
  exact absurd (show liveC c id = 0 from by unfold liveC; rw [decide_eq_false hf, e2]; rfl) h0
theorem live_of_run {c : GCluster} {id : Int} (h : runC c id = 0) : liveC c id = 0 ∧ (txAt c id).phase = 1 ∧ 0 ≤ findI c id := by
  unfold runC at h
  unfold liveC
  by_cases hf : findI c id < 0
  · rw [decide_eq_true hf] at h; cases h
  · rw [decide_eq_false hf] at h ⊢
    cases h2 : homeUp c id with
    | false => rw [h2] at h; cases h
    | true =>
      rw [h2] at h
      refine ⟨rfl, ?_, by omega⟩
      cases h3 : (txAt c id).phase == 1 with
      | true => simpa using h3
      | false => rw [h3] at h; cases h
theorem run_of_live {c : GCluster} {id : Int} (h : liveC c id ≠ 0) : runC c id = liveC c id := by
  unfold liveC at h ⊢
  unfold runC
  by_cases hf : findI c id < 0
  · rw [decide_eq_true hf]; rfl
  · rw [decide_eq_false hf] at h ⊢
    cases h2 : homeUp c id with
    | false => rfl
    | true => rw [h2] at h; exact absurd rfl h
theorem live_in {c : GCluster} {id : Int} (h : liveC c id = 0) : 0 ≤ findI c id := by
  unfold liveC at h
  by_cases hf : findI c id < 0
  · rw [decide_eq_true hf] at h; cases h
  · omega
theorem run_phase {c : GCluster} {id : Int} (h : liveC c id = 0) : runC c id = bif !((txAt c id).phase == 1) then 4 else 0 := by
  have hf := live_in h
  unfold liveC at h
  unfold runC
  rw [decide_eq_false (by omega)] at h ⊢
  cases h2 : homeUp c id with
  | false => rw [h2] at h; cases h
  | true => rfl
theorem running_yes (c : GCluster) (hl : c.txs.length ≤ 1048576) (hok : ClusOk c) (id : Int) (h0 : runC c id = 0) : Con Tryz.prog 34 [900, 902, 903] [.a (.p 900 0), vI id] [(900, .rrow (rowC c 901 902 903)), (902, roC 4 cMachine GMachine.z c.machines), (903, roC 7 cTx GTx.z c.txs)] (fun _ : Unit => True) (fun _ => [.a (.pe 903 7 (findI c id) 0), vI 0]) fun _ => [] := by
  have hL := (live_of_run h0).1
  have hin := findI_in (live_in hL)
  have hge := live_in hL
  have hlt := findI_lt (c := c) (id := id)
  refine con_enter Tryz.func34 rfl rfl rfl fun B0 r_ D_ w0 => ?_
  refine T_auto TT_ok rfl ?_
  refine RJ_C TT_ok (living_yes c hl hok id hL) rfl rfl (SVs.imp_refl _) (fun _ => rfl) rfl rfl rfl (fun _ _ => ?_) (hin := ⟨⟨_, rfl, ro_rrow⟩, ⟨_, rfl, ro_ro⟩, ⟨_, rfl, ro_ro⟩, trivial⟩)
  refine RJ_auto TT_ok rfl ?_
  refine T_cond (b := !((txAt c id).phase == 1)) rfl (fun e => ?_) (fun _ => ?_)
  · rw [(live_of_run h0).2.1] at e; cases e
  refine T_auto TT_ok rfl ?_
  refine T_ret TT_ok (()) [(4, none), (5, none)] rfl rfl ?_ ?_ ?_
  · exact SVs.imp_refl _
  · trivial
  · trivial
theorem running_no (c : GCluster) (hl : c.txs.length ≤ 1048576) (hok : ClusOk c) (id : Int) (h0 : runC c id ≠ 0) : Con Tryz.prog 34 [900, 902, 903] [.a (.p 900 0), vI id] [(900, .rrow (rowC c 901 902 903)), (902, roC 4 cMachine GMachine.z c.machines), (903, roC 7 cTx GTx.z c.txs)] (fun _ : Unit => True) (fun _ => [.a (.v (.pointer none)), vI (runC c id)]) fun _ => [] := by
  refine con_enter Tryz.func34 rfl rfl rfl fun B0 r_ D_ w0 => ?_
  refine T_auto TT_ok rfl ?_
  by_cases hL : liveC c id = 0
  · have hin := findI_in (live_in hL)
    have hge := live_in hL
    have hlt := findI_lt (c := c) (id := id)
    refine RJ_C TT_ok (living_yes c hl hok id hL) rfl rfl (SVs.imp_refl _) (fun _ => rfl) rfl rfl rfl (fun _ _ => ?_) (hin := ⟨⟨_, rfl, ro_rrow⟩, ⟨_, rfl, ro_ro⟩, ⟨_, rfl, ro_ro⟩, trivial⟩)
    refine RJ_auto TT_ok rfl ?_
    refine T_cond (b := !((txAt c id).phase == 1)) rfl (fun e => ?_) (fun e => ?_)
    · rw [show runC c id = 4 from by rw [run_phase hL, e]; rfl]
      refine T_auto TT_ok rfl ?_
      refine T_ret TT_ok (()) [(4, none), (5, none)] rfl rfl ?_ ?_ ?_
      · exact SVs.imp_refl _
      · trivial
      · trivial
    · exact absurd (show runC c id = 0 from by rw [run_phase hL, e]; rfl) h0
  · refine RJ_C TT_ok (living_no c hl hok id hL) rfl rfl (SVs.imp_refl _) (fun _ => rfl) rfl rfl rfl (fun _ _ => ?_) (hin := ⟨⟨_, rfl, ro_rrow⟩, ⟨_, rfl, ro_ro⟩, ⟨_, rfl, ro_ro⟩, trivial⟩)
    rw [run_of_live hL]
    refine RJ_auto TT_ok rfl ?_
    have hz : (liveC c id == 0) = !true := by simpa using hL
    refine RJ_skip (vI 0) rfl rfl rfl rfl (hz) rfl rfl ?_
    refine RJ_auto TT_ok rfl ?_
    refine RJ_skip (vI 0) rfl rfl rfl rfl (hz) rfl rfl ?_
    refine RJ_auto TT_ok rfl ?_
    refine RJ_skip (vI 0) rfl rfl rfl rfl (hz) rfl rfl ?_
    refine RJ_auto TT_ok rfl ?_
    refine T_cond rfl (fun e => by rw [hz] at e; cases e) (fun e => ?_)
    refine T_auto TT_ok rfl ?_
    refine T_ret TT_ok (()) [(4, none), (5, none)] rfl rfl ?_ ?_ ?_
    · exact SVs.imp_refl _
    · trivial
    · trivial
/-! ### Commit -/
def goT (t : GTx) : GTx := { t with phase := 2, done := 0 }
noncomputable def goC (c : GCluster) (id : Int) : GCluster := { c with txs := c.txs.set (findI c id).toNat (goT (txAt c id)) }
open Classical in
noncomputable def commitM (c : GCluster) (id : Int) : GCluster × Int := if ClusOk c then (if runC c id = 0 then (goC c id, 0) else (c, runC c id)) else (GCluster.z, 1)
theorem imp_setG {α : Type} {sz k : Nat} {enc : α → List D} {z y : α} {xs : List α} {g : Nat → List D} (h : ∀ j, j < xs.length → g j = if j = k then enc y else enc (xs.getD j z)) : (Ch.arr sz xs.length g).imp (arrC sz enc z (xs.set k y)) :=
  Ch.imp_len (by simp) fun j hj => by
    rw [h j hj]
    by_cases c : j = k
    · subst c; rw [if_pos rfl]; congr 1; simp [hj]
    · rw [if_neg c]; congr 1; simp [List.getElem?_set_ne (Ne.symm c)]
theorem spec_Commit_m (c : GCluster) (hb : D.bds bigN (cCluster c)) (id : Int) : MkCI Tryz.prog 9 [vR (cCluster c), vI id] (commitM c id).1 (commitM c id).2 := by
  have b3 : c.txs.length ≤ 1048576 := hb.2.2.2.2.1.1
  refine con_enter Tryz.func9 rfl rfl rfl fun B0 r_ D_ w0 => ?_
  refine T_auto1 TT_ok rfl ?_
  refine T_freeze 2 rfl rfl rfl rfl (fun _ => rfl) (fun _ => rfl) fun r_ => ?_
  refine T_auto TT_ok rfl ?_
  refine RJ_C TT_ok (l9Runs_c c hb id) rfl rfl (SVs.imp_refl _) (fun _ => rfl) rfl rfl rfl fun _ _ => ?_
  refine RJ_auto TT_ok rfl ?_
  by_cases hok : ClusOk c
  · by_cases h0 : runC c id = 0
    · rw [show commitM c id = (goC c id, 0) from by unfold commitM; rw [if_pos hok, if_pos h0]]
      have hge := (live_of_run h0).2.2
      have hlt := findI_lt (c := c) (id := id)
      have hin := findI_in hge
      rw [show runI c id = (findI c id, 0) from by unfold runI; rw [if_pos hok, if_pos h0]]
      refine T_cond rfl (fun e => by cases e) (fun _ => ?_)
      refine T_auto TT_ok rfl ?_
      refine RJ_C TT_ok (Con.sw 901 6001 (Con.sw 902 6002 (Con.sw 903 6003 (l8Copy_m c hb)))) rfl rfl (SVs.imp_refl _) (fun _ => rfl) rfl rfl rfl (fun _ _ => ?_)
      refine RJ_view (V_carve 6003 (findI c id) 77 rfl rfl rfl rfl rfl rfl ⟨hge, hlt⟩) ?_
      refine RJ_auto TT_ok rfl ?_
      refine RJ_view (V_pe 28 rfl rfl rfl) ?_
      refine RJ_auto TT_ok rfl ?_
      refine RJ_view (V_pe 33 rfl rfl rfl) ?_
      refine RJ_auto TT_ok rfl ?_
      refine T_view (V_uncarve 6003 77 rfl rfl rfl rfl rfl rfl rfl) ?_
      refine T_view (V_sw 6001 901) ?_
      refine T_view (V_sw 6002 902) ?_
      refine T_view (V_sw 6003 903) ?_
      refine T_ret TT_ok (()) [(4, some 32), (5, none)] rfl rfl ?_ ?_ ?_
      · exact SVs.imp_refl _
      · exact ⟨⟨_, rfl, Ch.imp_refl _⟩, ⟨_, rfl, Ch.imp_refl _⟩, ⟨_, rfl, imp_set (OwnI.refl _)⟩, trivial⟩
      · trivial
    · rw [show commitM c id = (c, runC c id) from by unfold commitM; rw [if_pos hok, if_neg h0]]
      rw [show runI c id = (-1, runC c id) from by unfold runI; rw [if_pos hok, if_neg h0]]
      refine T_cond (b := !(runC c id == 0)) rfl (fun e => ?_) (fun e => absurd (by simpa using e) h0)
      refine T_auto TT_ok rfl ?_
      have h1 : runC c id ≠ 1 := by
        unfold runC
        cases decide (findI c id < 0) <;> cases homeUp c id <;> cases (txAt c id).phase == 1 <;> decide
      refine RJ_C TT_ok (l9No_m c hb (runC c id) h1) rfl rfl (SVs.imp_refl _) (fun _ => rfl) rfl rfl rfl fun _ _ => ?_
      refine RJ_auto TT_ok rfl ?_
      refine T_ret TT_ok (()) [(4, some 32), (5, none)] rfl rfl ?_ ?_ ?_
      · exact SVs.imp_refl _
      · exact ⟨⟨_, rfl, Ch.imp_refl _⟩, ⟨_, rfl, Ch.imp_refl _⟩, ⟨_, rfl, Ch.imp_refl _⟩, trivial⟩
      · trivial
  · rw [show commitM c id = (GCluster.z, 1) from if_neg hok]
    rw [show runI c id = (-1, 1) from if_neg hok]
    refine T_cond rfl (fun _ => ?_) (fun e => by cases e)
    refine T_auto TT_ok rfl ?_
    refine RJ_C TT_ok (l9No1_m c) rfl rfl (SVs.imp_refl _) (fun _ => rfl) rfl rfl rfl fun _ _ => ?_
    refine RJ_auto TT_ok rfl ?_
    refine T_ret TT_ok (()) [(4, some 32), (5, none)] rfl rfl ?_ ?_ ?_
    · exact SVs.imp_refl _
    · exact ⟨⟨_, rfl, Ch.imp_refl _⟩, ⟨_, rfl, Ch.imp_refl _⟩, ⟨_, rfl, Ch.imp_refl _⟩, trivial⟩
    · trivial
theorem impl_Commit_m (c : GCluster) (hb : D.bds bigN (cCluster c)) (id : Int) : MkCI Tryz.prog 11 [vR (cCluster c), vI id] (commitM c id).1 (commitM c id).2 := by
  have b3 : c.txs.length ≤ 1048576 := hb.2.2.2.2.1.1
  refine con_enter Tryz.func11 rfl rfl rfl fun B0 r_ D_ w0 => ?_
  refine T_auto1 TT_ok rfl ?_
  refine T_freeze 2 rfl rfl rfl rfl (fun _ => rfl) (fun _ => rfl) fun r_ => ?_
  refine T_auto TT_ok rfl ?_
  refine RJ_Q TT_ok (impl_isCluster_q c hb) rfl rfl rfl rfl rfl ?_
  refine T_condX rfl (fun e => ?_) (fun e => ?_)
  · rw [show commitM c id = (GCluster.z, 1) from if_neg (dec_not.1 e)]
    refine T_auto TT_ok rfl ?_
    refine T_view (V_nilR 4 2 1 (fun i => cPlace (([] : List GPlace).getD i GPlace.z)) rfl rfl rfl) ?_
    refine T_view (V_nilR 4 3 4 (fun i => cMachine (([] : List GMachine).getD i GMachine.z)) rfl rfl rfl) ?_
    refine T_view (V_nilR 4 4 7 (fun i => cTx (([] : List GTx).getD i GTx.z)) rfl rfl rfl) ?_
    refine T_view (V_open 4 2 901 rfl rfl rfl rfl rfl rfl) ?_
    refine T_view (V_open 4 3 902 rfl rfl rfl rfl rfl rfl) ?_
    refine T_view (V_open 4 4 903 rfl rfl rfl rfl rfl rfl) ?_
    refine T_ret TT_ok (()) [(4, some 32), (5, none)] rfl rfl ?_ ?_ ?_
    · exact SVs.imp_refl _
    · exact ⟨⟨_, rfl, Ch.imp_refl _⟩, ⟨_, rfl, Ch.imp_refl _⟩, ⟨_, rfl, Ch.imp_refl _⟩, trivial⟩
    · trivial
  have hok := dec_iff.1 e
  refine T_auto TT_ok rfl ?_
  refine RJ_C TT_ok (cloneCluster_m c hb) rfl rfl (SVs.imp_refl _) (fun _ => rfl) rfl rfl rfl fun _ _ => ?_
  refine RJ_auto TT_ok rfl ?_
  by_cases h0 : runC c id = 0
  · rw [show commitM c id = (goC c id, 0) from by unfold commitM; rw [if_pos hok, if_pos h0]]
    have hge := (live_of_run h0).2.2
    have hlt := findI_lt (c := c) (id := id)
    have hin := findI_in hge
    refine RJ_C TT_ok (Con.sw 900 6 (running_yes c b3 hok id h0)) rfl rfl (SVs.imp_refl _) (fun _ => rfl) rfl rfl rfl (fun _ _ => ?_)
    refine RJ_auto TT_ok rfl ?_
    refine T_cond rfl (fun _ => ?_) (fun e => by cases e)
    refine T_view (V_carve 903 (findI c id) 77 rfl rfl rfl rfl rfl rfl ⟨hge, hlt⟩) ?_
    refine T_view (V_pe 7 rfl rfl rfl) ?_
    refine T_auto TT_ok rfl ?_
    refine T_view (V_uncarve 903 77 rfl rfl rfl rfl rfl rfl rfl) ?_
    refine T_ret TT_ok (()) [(4, some 32), (5, none)] rfl rfl ?_ ?_ ?_
    · exact SVs.imp_refl _
    · exact ⟨⟨_, rfl, Ch.imp_refl _⟩, ⟨_, rfl, Ch.imp_refl _⟩, ⟨_, rfl, imp_set (OwnI.refl _)⟩, trivial⟩
    · trivial
  · rw [show commitM c id = (c, runC c id) from by unfold commitM; rw [if_pos hok, if_neg h0]]
    refine RJ_C TT_ok (Con.sw 900 6 (running_no c b3 hok id h0)) rfl rfl (SVs.imp_refl _) (fun _ => rfl) rfl rfl rfl (fun _ _ => ?_)
    refine RJ_auto TT_ok rfl ?_
    refine T_condE rfl (fun e => absurd e h0) (fun _ => ?_)
    refine T_auto TT_ok rfl ?_
    refine T_ret TT_ok (()) [(4, some 32), (5, none)] rfl rfl ?_ ?_ ?_
    · exact SVs.imp_refl _
    · exact ⟨⟨_, rfl, Ch.imp_refl _⟩, ⟨_, rfl, Ch.imp_refl _⟩, ⟨_, rfl, Ch.imp_refl _⟩, trivial⟩
    · trivial
end Go.Proofs.YtpfcfepbhdkpdaaGreat
