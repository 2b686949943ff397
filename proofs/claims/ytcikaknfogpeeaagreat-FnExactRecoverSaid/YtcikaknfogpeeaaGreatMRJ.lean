/-
  Part J of what the claim leans on: memory, data, walks through the program, plain laws.
-/
import Derived.Test.YtcikaknfogpeeaaGreatMRI
import Derived.ChangeArms
import Derived.MapPlaces
namespace Go.Proofs.YtcikaknfogpeeaaGreat
open Go Go.RowKit
set_option linter.unusedVariables false
set_option linter.unusedSimpArgs false
set_option maxRecDepth 4000
def hdS : Value → Option Addr × Nat × Nat
  | .slice A n c => (A, n, c)
  | _ => (none, 0, 0)
theorem copy_rds {h : PH} {x : GCopy} {ys : List Value} (e : D.rds h (cCopy x) ys) : ∃ A n c, ys = [.int .i64 x.region, .slice A n c] := by
  obtain ⟨y, t, rfl, e1, z, t2, rfl, ⟨A, c, e2, _⟩, e3⟩ := e
  have e1 : y = .int .i64 x.region := e1
  have e3 : t2 = [] := e3
  subst e1; subst e2; subst e3
  exact ⟨A, _, c, rfl⟩
def rowsR (xs : List GCopy) (row : Nat → List Value) : List RW := (List.range xs.length).map fun i => ((xs.getD i GCopy.z).region, hdS ((row i).getD 1 undef))
theorem rowsR_len (xs : List GCopy) (row : Nat → List Value) : (rowsR xs row).length = xs.length := by unfold rowsR; rw [List.length_map, List.length_range]
theorem rowsR_at {xs : List GCopy} {row : Nat → List Value} {i : Nat} (h : i < xs.length) : (rowsR xs row).getD i zR = ((xs.getD i GCopy.z).region, hdS ((row i).getD 1 undef)) := by
  unfold rowsR
  rw [getD_map' (za := 0) _ (by rw [List.length_range]; exact h)]
  simp [List.getD_eq_getElem?_getD, h]
theorem rowsR_row {xs : List GCopy} {row : Nat → List Value} {i : Nat} (h : i < xs.length) {hp : PH} (e : D.rds hp (cCopy (xs.getD i GCopy.z)) (row i)) : (row i).map D.v = eR ((rowsR xs row).getD i zR) := by
  rw [rowsR_at h]
  obtain ⟨A, n, c, e⟩ := copy_rds e
  rw [e]; rfl
theorem l6ReplaceN_k (m : GMachine) (hM : MachOk m) (r : Int) (hn : hasB m r = false) (cs : List GCell) :
    Con Tryz.prog 47 [900, 901, 902, 903, 905] [.a (.p 900 0), vI r, .a (.g 905)] [(901, arrC 2 cCopy GCopy.z m.copies), (905, arrC 2 cCell GCell.z cs), (900, .row (rowM m 901 902 903))] (fun _ : Unit => True) (fun _ => [])
      fun _ => [(904, arrC 2 cCopy GCopy.z (replM m r cs).copies), (900, .row (rowM m 904 902 903))] := by
  have bk : m.copies.length ≤ 6 := hM.1.1
  have hc := posA_cut (cmpR_rising hM r)
  have hrep : (replM m r cs).copies = insL (posA (cmpR r) GCopy.z m.copies) ⟨r, cs⟩ m.copies := by
    unfold replM; rw [if_neg (by rw [hn]; simp)]
  rw [hrep]
  generalize posA (cmpR r) GCopy.z m.copies = p at hc
  have hC := Con.liftH (P := Tryz.prog) (ι := Unit) (f := 47) (sz := 2) (n := m.copies.length) (k := 901) (k3 := 905) (ko := 904) (sz3 := 2) (n3 := cs.length) (g := fun i => cCopy (m.copies.getD i GCopy.z)) (f3 := fun i => cCell (cs.getD i GCell.z)) (xD := cCopy ⟨r, cs⟩) (xr := fun v => [.int .i64 r, v]) (ks := [900, 901, 902, 903, 905])
    (args := [.a (.p 900 0), vI r, .a (.g 905)]) (args' := fun _ sv => [.a (.p 900 0), vI r, .a (.v sv)]) (rest := [(900, .row (rowM m 901 902 903))]) (rest' := fun _ => [(900, .row (rowM m 904 902 903))]) (φ := fun _ => True) (res := fun _ => []) (m := fun _ => m.copies.length + 1)
    (ρ := fun _ j => if j < p then some j else if j < p + 1 then none else some (j - 1)) (by decide)
    (fun j c e => by
      rw [mlk_cons] at e
      by_cases hj : 900 = j
      · subst hj; rw [if_pos rfl] at e; injection e with e; subst e; exact ⟨rfl, by decide, by decide⟩
      · rw [if_neg hj] at e; cases e)
    (fun _ j c e => by
      rw [mlk_cons] at e
      by_cases hj : 900 = j
      · subst hj; rw [if_pos rfl] at e; injection e with e; subst e; exact ⟨rfl, by decide⟩
      · rw [if_neg hj] at e; cases e)
    (fun _ _ => rfl)
    (fun h v e => ⟨_, _, PH.emp, h, rfl, PH.emp_le _, PH.le_refl _, PH.emp_dj _, rfl, _, _, h, PH.emp, rfl, PH.le_refl _, PH.emp_le _, PH.dj_emp _, e, rfl⟩)
    (fun _ _ j hj i e => by
      by_cases c1 : j < p
      · rw [if_pos c1] at e; injection e with e; have := hc.1; omega
      · rw [if_neg c1] at e
        by_cases c2 : j < p + 1
        · rw [if_pos c2] at e; cases e
        · rw [if_neg c2] at e; injection e with e; omega)
    (fun _ _ a b ha hb hab e => by
      by_cases c1 : a < p <;> by_cases c2 : a < p + 1 <;> by_cases c3 : b < p <;> by_cases c4 : b < p + 1 <;> simp [c1, c2, c3, c4] at e <;> omega)
    (fun B r1 r2 H H' vals row _ _ _ e => by
      obtain ⟨y1, t1, e1, e2, y2, t2, e3, e4, y3, t3, e5, e6, e7⟩ := e
      have e7 : t3 = [] := e7
      subst e1; subst e3; subst e5; subst e7
      exact ⟨_, _, rfl, e2, _, _, rfl, e4, _, _, rfl, e6.1, rfl⟩)
    (fun _ B r1 r2 H H' out e => e)
    (fun _ B r1 r2 h j c e hs => by
      rw [mlk_cons] at e
      by_cases hj : 900 = j
      · subst hj; rw [if_pos rfl] at e; injection e with e; subst e; exact hs
      · rw [if_neg hj] at e; cases e)
    (fun row sv h1 h2 ⟨A, cp, hsv⟩ h3 => ?_)
  · refine hC.wkM fun _ _ => ⟨⟨_, rfl, Ch.imp_len (by rw [insL_length hc.1]) fun j hj => ?_⟩, ⟨_, rfl, Ch.imp_refl _⟩, trivial⟩
    rw [insL_getD hc.1]
    by_cases c1 : j < p
    · rw [if_pos c1, if_pos c1]; rfl
    · by_cases c2 : j < p + 1
      · rw [if_neg c1, if_pos c2, if_neg c1, if_pos c2]; rfl
      · rw [if_neg c1, if_neg c2, if_neg c1, if_neg c2]; rfl
  · subst hsv
    have hl := rowsR_len m.copies row
    have hreg : ∀ i, i < m.copies.length → ((rowsR m.copies row).getD i zR).1 = (m.copies.getD i GCopy.z).region := fun i hi => by rw [rowsR_at hi]
    have hp : cutAt (fun x => x.1 - r) zR (rowsR m.copies row) p := ⟨by rw [hl]; exact hc.1, fun a ha => by
      have := hc.2.1 a ha
      show ((rowsR m.copies row).getD a zR).1 - r < 0
      rw [hreg a (by have := hc.1; omega)]; exact this, fun a ha hb => by
      rw [hl] at hb
      have := hc.2.2 a ha hb
      show ¬ ((rowsR m.copies row).getD a zR).1 - r < 0
      rw [hreg a hb]; exact this⟩
    have hri : rising (fun x => x.1 - r) zR (rowsR m.copies row) := fun a b hab hb h => by
      rw [hl] at hb
      have h : ((rowsR m.copies row).getD b zR).1 - r < 0 := h
      show ((rowsR m.copies row).getD a zR).1 - r < 0
      rw [hreg b hb] at h
      rw [hreg a (by omega)]
      exact cmpR_rising hM r a b hab hb h
    have hno : idxI (fun p => p.1 == r) (rowsR m.copies row) < 0 := by
      by_cases h : idxI (fun p => p.1 == r) (rowsR m.copies row) < 0
      · exact h
      · have h := (any_idx (z := zR)).1 (show 0 ≤ idxI (fun p => p.1 == r) (rowsR m.copies row) by omega)
        obtain ⟨x, hx, e⟩ := List.any_eq_true.1 h
        obtain ⟨i, hi, hxi⟩ := List.mem_iff_getElem.1 hx
        have hi2 : i < m.copies.length := by rw [← hl]; exact hi
        have h4 := hreg i hi2
        rw [List.getD_eq_getElem?_getD, List.getElem?_eq_getElem hi, Option.getD_some, hxi] at h4
        have h5 : x.1 = r := by simpa using e
        have : hasB m r = true := List.any_eq_true.2 ⟨_, getD_mem (z := GCopy.z) hi2, by show ((m.copies.getD i GCopy.z).region == r) = true; rw [← h4, h5]; simp⟩
        rw [hn] at this; cases this
    have hi1 : p ≤ (rowsR m.copies row).length := by rw [hl]; exact hc.1
    have hrow : ∀ i, i < m.copies.length → (row i).map D.v = eR ((rowsR m.copies row).getD i zR) := fun i hi => by
      obtain ⟨hh, e⟩ := h3 i hi
      exact rowsR_row hi e
    have hI := Con.inM (mu0 := [(901, .arr 2 m.copies.length fun i => (row i).map D.v), (900, .row (rowM m 901 902 903))]) (l6Ins_c (rowsR m.copies row) (by omega) m.alive r (A, cs.length, cp) p hp hri hno) rfl ⟨⟨_, rfl, Ch.imp_len hl.symm fun i hi => hrow i hi⟩, ⟨_, rfl, Ch.imp_refl _⟩, trivial⟩
    refine hI.wkM fun _ _ => ⟨⟨_, rfl, Ch.imp_len (by rw [insL_length hi1, hl]) fun j hj => ?_⟩, ⟨_, rfl, Ch.imp_refl _⟩, trivial⟩
    rw [insL_length hi1, hl] at hj
    rw [insL_getD hi1]
    by_cases c1 : j < p
    · rw [if_pos c1, if_pos c1]; exact (hrow j (by have := hc.1; omega)).symm
    · by_cases c2 : j < p + 1
      · rw [if_neg c1, if_pos c2, if_neg c1, if_pos c2]; rfl
      · rw [if_neg c1, if_neg c2, if_neg c1, if_neg c2]; exact (hrow (j - 1) (by omega)).symm
end Go.Proofs.YtcikaknfogpeeaaGreat
namespace Go.Proofs.YtcikaknfogpeeaaGreat
open Go Go.RowKit
set_option linter.unusedVariables false
set_option linter.unusedSimpArgs false
set_option maxRecDepth 4000
set_option maxHeartbeats 4000000 in
theorem spec_Recover_m (c : GCluster) (hb : D.bds bigN (cCluster c)) : MkClus Tryz.prog 15 [vR (cCluster c)] (recoverM c) := by
  refine con_enter Tryz.func15 rfl rfl rfl fun B0 r_ D_ w0 => ?_
  refine T_auto1 TT_ok rfl ?_
  refine T_freeze 1 rfl rfl rfl rfl (fun _ => rfl) (fun _ => rfl) fun r_ => ?_
  refine T_auto TT_ok rfl ?_
  refine RJ_Q TT_ok (spec_ClusterOk_q c hb) rfl rfl rfl rfl rfl ?_
  refine T_cond (b := bif !dec (ClusOk c) then true else c.config == 1000000) rfl (fun e => ?_) (fun e => ?_)
  · rw [recover_no (c := c) (fun h => by rw [dec_true h.1] at e; simp [h.2] at e)]
    refine T_auto TT_ok rfl ?_
    refine T_view (V_nilR 2 2 1 (fun i => cPlace (([] : List GPlace).getD i GPlace.z)) rfl rfl rfl) ?_
    refine T_view (V_nilR 2 3 4 (fun i => cMachine (([] : List GMachine).getD i GMachine.z)) rfl rfl rfl) ?_
    refine T_view (V_nilR 2 4 7 (fun i => cTx (([] : List GTx).getD i GTx.z)) rfl rfl rfl) ?_
    refine T_view (V_open 2 2 901 rfl rfl rfl rfl rfl rfl) ?_
    refine T_view (V_open 2 3 902 rfl rfl rfl rfl rfl rfl) ?_
    refine T_view (V_open 2 4 903 rfl rfl rfl rfl rfl rfl) ?_
    refine T_ret TT_ok (()) [(2, some 32)] rfl rfl ?_ ?_ ?_
    · exact SVs.imp_refl _
    · exact ⟨⟨_, rfl, Ch.imp_refl _⟩, ⟨_, rfl, Ch.imp_refl _⟩, ⟨_, rfl, Ch.imp_refl _⟩, trivial⟩
    · trivial
  have hok : ClusOk c := by
    cases h : dec (ClusOk c) with
    | true => exact dec_iff.1 h
    | false => rw [h] at e; cases e
  have hcf : c.config ≠ 1000000 := fun h => by rw [dec_true hok, h] at e; cases e
  clear e
  have hml := hok.1.2.2.1
  have htl := hok.1.2.2.2
  have hcg := hok.1.1
  have hal := aliveL_len c
  have hp6 := hok.2.1.1
  have hql : (placesN c).length = c.places.length := List.length_map _
  refine T_auto TT_ok rfl ?_
  refine RJ_C TT_ok (l8Copy_m c hb) rfl rfl (SVs.imp_refl _) (fun _ => rfl) rfl rfl rfl fun _ _ => ?_
  refine RJ_auto TT_ok rfl ?_
  refine RJ_bs TT_ok 40 (fun i => cBool (([] : List Bool).getD i false)) rfl rfl rfl rfl rfl rfl rfl (fun i hi => absurd hi (Nat.not_lt_zero _)) (mu1 := []) rfl rfl rfl ?_
  refine RJ_auto TT_ok rfl ?_
  refine T_loopA (ι := Nat) (fun k => [(5, vI k), (4, .a (.g 40))]) (fun k => [(40, arrC 1 cBool false ((aliveL c).take k))]) (fun k => k ≤ c.machines.length) (fun k => c.machines.length - k) 0 [40] [40] rfl rfl (Nat.zero_le _) (by repeat (first | exact trivial | refine And.intro ⟨_, rfl, SV.imp_refl _⟩ ?_)) ⟨⟨_, rfl, imp_list (sz := 1) (enc := cBool) (z := false) (xs := []) rfl⟩, trivial⟩ ?_
  intro k h1
  have hlt : ((aliveL c).take k).length = k := by rw [List.length_take]; omega
  refine T_auto TT_ok rfl ?_
  refine T_condD rfl (fun e => ?_) (fun e => ?_)
  · have hk : k < c.machines.length := by omega
    refine T_auto TT_ok rfl ?_
    refine RJ_bs TT_ok 41 (fun _ => cBool (c.machines.getD k GMachine.z).alive) rfl rfl rfl rfl rfl rfl rfl (fun i hi => by rcases i with _ | i <;> first | rfl | omega) (mu1 := []) rfl rfl rfl ?_
    refine RJ_auto TT_ok rfl ?_
    refine RJ_appM TT_ok 40 41 42 rfl rfl rfl rfl rfl rfl rfl rfl rfl rfl rfl rfl ⟨by show (((aliveL c).take k).length + 1) * 1 ≤ _; omega, by unfold maxL; omega⟩ ?_
    refine RJ_auto TT_ok rfl ?_
    refine X_view (V_sw 40 42) ?_
    exact X_inv (k + 1) hk (by omega) (by repeat (first | exact trivial | refine And.intro ⟨_, rfl, SV.imp_refl _⟩ ?_)) ⟨⟨_, rfl, imp_app1 (x := (c.machines.getD k GMachine.z).alive) (by rw [take_succ_getD (z := false) (by omega), aliveL_at c hk]) rfl⟩, (by repeat (first | exact trivial | refine And.intro ⟨_, rfl, Ch.imp_refl _⟩ ?_))⟩
  have hk : k = c.machines.length := by omega
  subst hk
  rw [List.take_of_length_le (show (aliveL c).length ≤ c.machines.length by omega)]
  refine T_auto TT_ok rfl ?_
  refine RJ_C TT_ok (spec_Remap_m c.places hok.2.1 (aliveL c) (by omega)) rfl rfl (SVs.imp_refl _) (fun _ => rfl) rfl rfl rfl fun _ _ => ?_
  refine RJ_auto TT_ok rfl ?_
  by_cases hl : (lostC c).length = 0
  · rw [recover_go hok hcf hl]
    refine T_condD rfl (fun e => absurd e (by show ¬ ((lostC c).length : Int) > 0; omega)) (fun _ => ?_)
    refine T_auto TT_ok rfl ?_
    refine T_loopA (ι := Nat) (fun i => [(8, vI i)]) (fun i => [(902, arrC 4 cMachine GMachine.z (recN c i).machines), (903, arrC 7 cTx GTx.z (recN c i).txs)]) (fun i => i ≤ c.txs.length) (fun i => c.txs.length - i) 0 [902, 903] [] rfl rfl (Nat.zero_le _) (by repeat (first | exact trivial | refine And.intro ⟨_, rfl, SV.imp_refl _⟩ ?_)) (by repeat (first | exact trivial | refine And.intro ⟨_, rfl, Ch.imp_refl _⟩ ?_)) ?_
    intro i h1
    have hR := recN_in hok i h1
    have hE := hR.eq
    have hlen := hR.len
    have hokd := hR.ok hok
    rw [hE] at hokd
    have hms : (recN c i).machines.length = c.machines.length := hR.like.len
    refine T_auto TT_ok rfl ?_
    refine T_condD rfl (fun e => ?_) (fun e => ?_)
    · have hi : i < c.txs.length := by omega
      refine T_auto TT_ok rfl ?_
      refine T_drawL TT_ok [] [0, 1, 2, 3, 4, 5, 6] rfl rfl fun B0 H0 => ?_
      refine DJ_Qi 6 (spec_l11Stricken_q c hb hok (c.txs.getD i GTx.z) (hok.txIn hi)) rfl rfl rfl (SVs.imp_refl _) rfl ?_
      refine DJ_endA TT_ok rfl ?_
      refine T_cond rfl (fun e2 => ?_) (fun e2 => ?_)
      · have hS := recN_yes e2
        refine T_auto TT_ok rfl ?_
        refine RJ_C TT_ok (Con.sw 900 3 (l12End_k (cwt c c.clock (recN c i).machines (recN c i).txs) hokd i (by show i < (recN c i).txs.length; omega))) rfl rfl (SVs.imp_refl _) (fun _ => rfl) rfl rfl rfl (fun _ _ => ?_) (hin := by repeat (first | exact trivial | refine And.intro ⟨_, rfl, ro_arr⟩ ?_ | refine And.intro ⟨_, rfl, ro_ro⟩ ?_ | refine And.intro ⟨_, rfl, ro_row⟩ ?_ | refine And.intro ⟨_, rfl, ro_rrow⟩ ?_ | refine And.intro ⟨_, rfl, Ch.imp_refl _⟩ ?_))
        refine RJ_auto TT_ok rfl ?_
        exact X_inv (i + 1) hi (by omega) (by repeat (first | exact trivial | refine And.intro ⟨_, rfl, SV.imp_refl _⟩ ?_)) ⟨⟨_, rfl, imp_list (by rw [hS, ← hE])⟩, ⟨_, rfl, imp_list (by rw [hS, ← hE])⟩, (by repeat (first | exact trivial | refine And.intro ⟨_, rfl, Ch.imp_refl _⟩ ?_))⟩
      · have hS := recN_no e2
        refine T_auto TT_ok rfl ?_
        exact X_inv (i + 1) hi (by omega) (by repeat (first | exact trivial | refine And.intro ⟨_, rfl, SV.imp_refl _⟩ ?_)) ⟨⟨_, rfl, imp_list (by rw [hS])⟩, ⟨_, rfl, imp_list (by rw [hS])⟩, (by repeat (first | exact trivial | refine And.intro ⟨_, rfl, Ch.imp_refl _⟩ ?_))⟩
    have hi : i = c.txs.length := by omega
    subst hi
    clear hE hokd hlen hms e h1
    have hM0 : More c.machines (recN c c.txs.length).machines := hR.like.more
    generalize hz0 : (recN c c.txs.length).machines = ms0 at hM0 ⊢
    generalize hz1 : (recN c c.txs.length).txs = ts0
    refine T_auto TT_ok rfl ?_
    refine T_loopA (ι := Nat) (fun r => [(9, vI r)]) (fun r => [(902, arrC 4 cMachine GMachine.z (newN c.places (placesN c) r ms0)), (910, arrC 1 cPlace GPlace.z (placesN c))]) (fun r => r ≤ c.places.length) (fun r => c.places.length - r) 0 [902, 910] [] rfl rfl (Nat.zero_le _) (by repeat (first | exact trivial | refine And.intro ⟨_, rfl, SV.imp_refl _⟩ ?_)) (by repeat (first | exact trivial | refine And.intro ⟨_, rfl, Ch.imp_refl _⟩ ?_)) ?_
    intro r h1
    refine T_auto TT_ok rfl ?_
    refine T_condD rfl (fun e => ?_) (fun e => ?_)
    · have e : (r : Int) < ((placesN c).length : Int) := e
      have hr : r < c.places.length := by omega
      have np := newPl hok hl hr
      have hMr := newN_more hok hl hM0 r (by omega)
      have hnw : newN c.places (placesN c) (r + 1) ms0 = newAt (c.places.getD r GPlace.z).machines ((placesN c).getD r GPlace.z).machines (r : Int) (cellsOf ((newN c.places (placesN c) r ms0).getD (fstQ c r).toNat GMachine.z) (r : Int)) ((placesN c).getD r GPlace.z).machines.length (newN c.places (placesN c) r ms0) := rfl
      generalize newN c.places (placesN c) r ms0 = ms at hMr hnw ⊢
      have hf : 0 ≤ fstQ c r ∧ fstQ c r < c.machines.length := np.rng _ (getD_mem (z := 0) np.pos)
      have hf2 : 0 ≤ fstQ c r ∧ fstQ c r < ms.length := by rw [hMr.len]; exact hf
      obtain ⟨hMo, hMa, hMh⟩ := hMr.ok (fstQ c r).toNat (by rw [hMr.len]; omega)
      have hhas := hMh _ np.has
      have hpl := hok.pl hr
      have hq3 := np.le
      have hq0 := np.pos
      have hrng := np.rng
      have hfo := np.fst
      generalize hm : ms.getD (fstQ c r).toNat GMachine.z = m at hMo hhas ⊢
      rw [hm] at hnw
      have bk : m.copies.length ≤ 6 := hMo.1.1
      obtain ⟨hc6, hcb⟩ := cellsOf_len hMo hhas
      have hix : 0 ≤ copyI m r ∧ copyI m r < m.copies.length := hasB_idx hhas
      have g4 : 0 ≤ idxI (atB (r : Int)) m.copies ∧ idxI (atB (r : Int)) m.copies < (m.copies.length : Int) := hix
      refine T_view (V_carve 910 (r : Int) 70 rfl rfl rfl rfl rfl rfl ⟨by omega, by omega⟩) ?_
      refine T_view (V_open 70 0 71 rfl rfl rfl rfl rfl rfl) ?_
      refine T_view (V_carve 902 (fstQ c r) 60 rfl rfl rfl rfl rfl rfl hf2) ?_
      rw [hm]
      refine T_view (V_open 60 1 61 rfl rfl rfl rfl rfl rfl) ?_
      refine T_view (V_open 60 2 62 rfl rfl rfl rfl rfl rfl) ?_
      refine T_view (V_open 60 3 63 rfl rfl rfl rfl rfl rfl) ?_
      refine T_auto TT_ok rfl ?_
      refine RJ_view (V_pe 79 rfl rfl rfl) ?_
      refine RJ_auto TT_ok rfl ?_
      refine T_drawL TT_ok [] [0, 1, 2, 3, 4, 5, 6, 7, 8] rfl rfl fun B0 H0 => ?_
      refine DJ_v0 (V_pe0 86 rfl rfl rfl) ?_
      refine DJ_onL TT_ok [6, 7, 8] rfl ?_
      refine DJ_one 7 rfl (by kernel_rfl) (OJ_M TT_ok rfl rfl rfl rfl rfl rfl (SJ_dj ?_))
      refine DJ_sw2 8 rfl (by kernel_rfl) (by kernel_rfl) (OJ_M TT_ok rfl rfl rfl rfl rfl rfl (SJ_sw [] fun B0 H0 => ?_))
      refine DJ_endA TT_ok rfl ?_
      refine T_drawL TT_ok [] [0, 1, 2, 3, 4, 5, 6, 7, 8] rfl rfl fun B0 H0 => ?_
      refine DJ_Qi 4 (l6At_q m (by omega) (r : Int)) rfl rfl rfl (SVs.imp_refl _) rfl ?_
      refine DJ_dp ?_
      refine DP_op TT_ok 5 rfl rfl rfl rfl ?_
      refine DP_op TT_ok 6 rfl rfl rfl rfl ?_
      refine DP_view (V_carve 61 (copyI m (r : Int)) 64 rfl rfl rfl rfl rfl rfl hix) ?_
      refine DP_view (V_open 64 1 65 rfl rfl rfl rfl rfl rfl) ?_
      refine DP_view (V_pe 94 rfl rfl rfl) ?_
      refine DP_op TT_ok 7 rfl rfl rfl rfl ?_
      refine DP_op TT_ok 8 rfl rfl rfl rfl ?_
      refine DP_endA TT_ok rfl ?_
      have hcel : cellsOf m (r : Int) = (m.copies.getD (copyI m (r : Int)).toNat GCopy.z).cells := cellsOf_has hhas
      rw [← hcel]
      refine T_anchor 65 rfl fun v => ?_
      refine T_view (V_gv 64 65 (v := v) rfl rfl rfl rfl) ?_
      refine T_view (V_drop 11 rfl) ?_
      refine T_view (V_uncarve 61 64 rfl rfl rfl rfl rfl rfl rfl) ?_
      refine T_view (V_fold 60 1 61 rfl rfl rfl rfl rfl rfl rfl) ?_
      refine T_view (V_fold 60 2 62 rfl rfl rfl rfl rfl rfl rfl) ?_
      refine T_view (V_fold 60 3 63 rfl rfl rfl rfl rfl rfl rfl) ?_
      refine T_view (V_uncarve 902 60 rfl rfl rfl rfl rfl rfl rfl) ?_
      generalize hcs : cellsOf m (r : Int) = cs at hc6 hcb hnw ⊢
      have hn1 : newAt (c.places.getD r GPlace.z).machines ((placesN c).getD r GPlace.z).machines (r : Int) cs 1 ms = ms := by rw [newAt, if_pos (show ((placesN c).getD r GPlace.z).machines.getD 0 0 ∈ (c.places.getD r GPlace.z).machines from hfo)]; rfl
      refine T_loopA (ι := Nat) (fun k => [(13, vI k)]) (fun k => [(902, pArr (newAt (c.places.getD r GPlace.z).machines ((placesN c).getD r GPlace.z).machines (r : Int) cs k ms) (fstQ c r) (pMach m (r : Int) v))]) (fun k => k ≤ ((placesN c).getD r GPlace.z).machines.length) (fun k => ((placesN c).getD r GPlace.z).machines.length - k) 1 [902] [] rfl rfl hq0 (by repeat (first | exact trivial | refine And.intro ⟨_, rfl, SV.imp_refl _⟩ ?_)) ⟨⟨_, rfl, by rw [hn1]; exact Ch.imp_refl _⟩, (by repeat (first | exact trivial | refine And.intro ⟨_, rfl, Ch.imp_refl _⟩ ?_))⟩ ?_
      intro k h2
      refine T_auto TT_ok rfl ?_
      refine T_condD rfl (fun e2 => ?_) (fun e2 => ?_)
      · have e2 : (k : Int) < (((placesN c).getD r GPlace.z).machines.length : Int) := e2
        have hk : k < ((placesN c).getD r GPlace.z).machines.length := by omega
        have hx := hrng _ (getD_mem (z := 0) hk)
        have hMk := newAt_more (old := (c.places.getD r GPlace.z).machines) (l := ((placesN c).getD r GPlace.z).machines) (r := (r : Int)) (by omega) hcb hrng hMr k (by omega)
        have hnk : newAt (c.places.getD r GPlace.z).machines ((placesN c).getD r GPlace.z).machines (r : Int) cs (k + 1) ms = if ((placesN c).getD r GPlace.z).machines.getD k 0 ∈ (c.places.getD r GPlace.z).machines then newAt (c.places.getD r GPlace.z).machines ((placesN c).getD r GPlace.z).machines (r : Int) cs k ms else (newAt (c.places.getD r GPlace.z).machines ((placesN c).getD r GPlace.z).machines (r : Int) cs k ms).set (((placesN c).getD r GPlace.z).machines.getD k 0).toNat (replM ((newAt (c.places.getD r GPlace.z).machines ((placesN c).getD r GPlace.z).machines (r : Int) cs k ms).getD (((placesN c).getD r GPlace.z).machines.getD k 0).toNat GMachine.z) (r : Int) cs) := rfl
        generalize newAt (c.places.getD r GPlace.z).machines ((placesN c).getD r GPlace.z).machines (r : Int) cs k ms = ns at hMk hnk ⊢
        have hx2 : 0 ≤ ((placesN c).getD r GPlace.z).machines.getD k 0 ∧ ((placesN c).getD r GPlace.z).machines.getD k 0 < ns.length := by rw [hMk.len]; exact hx
        obtain ⟨hMx, _, _⟩ := hMk.ok (((placesN c).getD r GPlace.z).machines.getD k 0).toNat (by rw [hMk.len]; omega)
        have g1 : (k : Int) < (((placesN c).getD (r : Int).toNat GPlace.z).machines.length : Int) := e2
        have g2 : 0 ≤ ((placesN c).getD (r : Int).toNat GPlace.z).machines.getD (k : Int).toNat 0 ∧ ((placesN c).getD (r : Int).toNat GPlace.z).machines.getD (k : Int).toNat 0 < (ns.length : Int) := hx2
        refine T_auto TT_ok rfl ?_
        refine T_drawL TT_ok [] [0, 1, 2, 3, 4, 5, 6, 7, 8, 9, 10, 11] rfl rfl fun B0 H0 => ?_
        refine DJ_Qi 10 (l3Has_q (c.places.getD r GPlace.z).machines (by omega) (((placesN c).getD r GPlace.z).machines.getD k 0)) rfl rfl rfl (SVs.imp_refl _) rfl ?_
        refine DJ_onL TT_ok [11] rfl ?_
        refine DJ_endA TT_ok rfl ?_
        by_cases hin : ((placesN c).getD r GPlace.z).machines.getD k 0 ∈ (c.places.getD r GPlace.z).machines
        · rw [if_pos hin] at hnk
          refine T_cond (b := !decide (((placesN c).getD r GPlace.z).machines.getD k 0 ∈ (c.places.getD r GPlace.z).machines)) rfl (fun e3 => by rw [decide_eq_true hin] at e3; cases e3) (fun _ => ?_)
          refine T_auto TT_ok rfl ?_
          exact X_inv (k + 1) hk (by omega) (by repeat (first | exact trivial | refine And.intro ⟨_, rfl, SV.imp_refl _⟩ ?_)) ⟨⟨_, rfl, by rw [hnk]; exact Ch.imp_refl _⟩, (by repeat (first | exact trivial | refine And.intro ⟨_, rfl, Ch.imp_refl _⟩ ?_))⟩
        · rw [if_neg hin] at hnk
          have hne : (((placesN c).getD r GPlace.z).machines.getD k 0).toNat ≠ (fstQ c r).toNat := fun e => hin (by
            have : ((placesN c).getD r GPlace.z).machines.getD k 0 = fstQ c r := by omega
            rw [this]; exact hfo)
          refine T_cond (b := !decide (((placesN c).getD r GPlace.z).machines.getD k 0 ∈ (c.places.getD r GPlace.z).machines)) rfl (fun _ => ?_) (fun e3 => by rw [decide_eq_false hin] at e3; cases e3)
          refine T_view (V_carve 902 (((placesN c).getD r GPlace.z).machines.getD k 0) 80 rfl (lay_out hne) rfl rfl rfl rfl hx2) ?_
          generalize hM : ns.getD (((placesN c).getD r GPlace.z).machines.getD k 0).toNat GMachine.z = M at hMx hnk ⊢
          refine T_view (V_open 80 1 81 rfl rfl rfl rfl rfl rfl) ?_
          refine T_view (V_open 80 2 82 rfl rfl rfl rfl rfl rfl) ?_
          refine T_view (V_open 80 3 83 rfl rfl rfl rfl rfl rfl) ?_
          have bl : M.log.length ≤ 200 := hMx.1.2.1
          have bc : M.cleared.length ≤ 60 := hMx.1.2.2
          have bM : M.copies.length ≤ 6 := hMx.1.1
          refine T_auto TT_ok rfl ?_
          by_cases hhM : hasB M (r : Int) = true
          · have hrep : replM M (r : Int) cs = setCells M (r : Int) cs := by unfold replM; rw [if_pos hhM]
            refine T_drawL TT_ok [81] [0, 1, 2, 3, 4, 5, 6, 7, 8, 9, 10] rfl rfl fun B0 H0 => ?_
            refine DJ_v0 (V_pe0 120 rfl rfl rfl) ?_
            refine DJ_C 9 (Con.sw 900 85 (l3Copy_m cs (by omega))) rfl rfl rfl (SVs.imp_refl _) (fun _ => rfl) rfl rfl rfl fun _ _ => ?_
            refine DJ_C 10 (Con.sw 905 85 (Con.sw 903 83 (Con.sw 902 82 (Con.sw 901 81 (Con.sw 900 80 (l6Replace_k M (by omega) (by omega) (by omega) (r : Int) hhM cs)))))) rfl rfl rfl (SVs.imp_refl _) (fun _ => rfl) rfl rfl rfl fun _ _ => ?_
            refine DJ_endA TT_ok rfl ?_
            refine X_view (V_fold 80 1 81 rfl rfl rfl rfl rfl rfl rfl) ?_
            refine X_view (V_fold 80 2 82 rfl rfl rfl rfl rfl rfl rfl) ?_
            refine X_view (V_fold 80 3 83 rfl rfl rfl rfl rfl rfl rfl) ?_
            refine X_view (V_uncarve 902 80 rfl rfl rfl rfl rfl rfl rfl) ?_
            exact X_inv (k + 1) hk (by omega) (by repeat (first | exact trivial | refine And.intro ⟨_, rfl, SV.imp_refl _⟩ ?_)) ⟨⟨_, rfl, by rw [hnk]; exact imp_out (by omega) hne (by rw [hrep]; rfl)⟩, (by repeat (first | exact trivial | refine And.intro ⟨_, rfl, Ch.imp_refl _⟩ ?_))⟩
          · have hhM : hasB M (r : Int) = false := by simpa using hhM
            refine T_drawL TT_ok [80, 81] [0, 1, 2, 3, 4, 5, 6, 7, 8, 9, 10] rfl rfl fun B0 H0 => ?_
            refine DJ_v0 (V_pe0 120 rfl rfl rfl) ?_
            refine DJ_C 9 (Con.sw 900 85 (l3Copy_m cs (by omega))) rfl rfl rfl (SVs.imp_refl _) (fun _ => rfl) rfl rfl rfl fun _ _ => ?_
            refine DJ_C 10 (Con.sw 905 85 (Con.sw 904 84 (Con.sw 903 83 (Con.sw 902 82 (Con.sw 901 81 (Con.sw 900 80 (l6ReplaceN_k M hMx (r : Int) hhM cs))))))) rfl rfl rfl (SVs.imp_refl _) (fun _ => rfl) rfl rfl rfl fun _ _ => ?_
            refine DJ_endA TT_ok rfl ?_
            refine X_view (V_fold 80 1 84 rfl rfl rfl rfl rfl rfl rfl) ?_
            refine X_view (V_fold 80 2 82 rfl rfl rfl rfl rfl rfl rfl) ?_
            refine X_view (V_fold 80 3 83 rfl rfl rfl rfl rfl rfl rfl) ?_
            refine X_view (V_uncarve 902 80 rfl rfl rfl rfl rfl rfl rfl) ?_
            exact X_inv (k + 1) hk (by omega) (by repeat (first | exact trivial | refine And.intro ⟨_, rfl, SV.imp_refl _⟩ ?_)) ⟨⟨_, rfl, by rw [hnk]; exact imp_out (by omega) hne (replM_c M (r : Int) cs).symm⟩, (by repeat (first | exact trivial | refine And.intro ⟨_, rfl, Ch.imp_refl _⟩ ?_))⟩
      have e2 : ¬ (k : Int) < (((placesN c).getD r GPlace.z).machines.length : Int) := e2
      have hk : k = ((placesN c).getD r GPlace.z).machines.length := by omega
      subst hk
      have hMk := newAt_more (old := (c.places.getD r GPlace.z).machines) (l := ((placesN c).getD r GPlace.z).machines) (r := (r : Int)) (by omega) hcb hrng hMr _ (Nat.le_refl _)
      have hfk := newAt_fst (r := (r : Int)) (xs := cs) (ms := ms) hfo hf.1 (fun x hx => (hrng x hx).1) _ (Nat.le_refl _)
      rw [hm] at hfk
      generalize newAt (c.places.getD r GPlace.z).machines ((placesN c).getD r GPlace.z).machines (r : Int) cs ((placesN c).getD r GPlace.z).machines.length ms = ns at hMk hnw hfk ⊢
      have hcs2 : cs = (m.copies.getD (copyI m r).toNat GCopy.z).cells := by rw [← hcs]; exact hcel
      refine T_view (V_carve 902 (fstQ c r) 90 rfl (lay_at m (r : Int) v) rfl rfl rfl rfl (by rw [hMk.len]; exact hf)) ?_
      refine T_view (V_open 90 1 91 rfl rfl rfl rfl rfl rfl) ?_
      refine T_view (V_carve 91 (copyI m r) 94 rfl (lay_cp m (r : Int) v) rfl rfl rfl rfl hix) ?_
      refine T_view (V_vg 94 65 (v := v) rfl rfl rfl rfl rfl) ?_
      refine T_view (V_fold 94 1 65 rfl rfl rfl rfl rfl rfl rfl) ?_
      refine T_view (V_uncarve 91 94 rfl rfl rfl rfl rfl rfl rfl) ?_
      refine T_view (V_fold 90 1 91 rfl rfl rfl rfl rfl rfl rfl) ?_
      refine T_view (V_uncarve 902 90 rfl rfl rfl rfl rfl rfl rfl) ?_
      refine T_view (V_imp 902 rfl (imp_back hfk hcs2) rfl) ?_
      refine T_unanch 65 rfl ?_
      refine T_view (V_fold 70 0 71 rfl rfl rfl rfl rfl rfl rfl) ?_
      refine T_view (V_uncarve 910 70 rfl rfl rfl rfl rfl rfl rfl) ?_
      refine T_view (V_imp 910 rfl (imp_same (z := GPlace.z) rfl) rfl) ?_
      refine T_auto TT_ok rfl ?_
      exact X_inv (r + 1) hr (by omega) (by repeat (first | exact trivial | refine And.intro ⟨_, rfl, SV.imp_refl _⟩ ?_)) ⟨⟨_, rfl, imp_list hnw.symm⟩, (by repeat (first | exact trivial | refine And.intro ⟨_, rfl, Ch.imp_refl _⟩ ?_))⟩
    have e : ¬ (r : Int) < ((placesN c).length : Int) := e
    have hr : r = c.places.length := by omega
    subst hr
    subst hz0
    subst hz1
    refine T_auto TT_ok rfl ?_
    refine T_view (V_sw 910 901) ?_
    refine T_ret TT_ok (()) [(2, some 32)] rfl rfl ?_ ?_ ?_
    · exact SVs.imp_refl _
    · exact ⟨⟨_, rfl, Ch.imp_refl _⟩, ⟨_, rfl, Ch.imp_refl _⟩, ⟨_, rfl, Ch.imp_refl _⟩, trivial⟩
    · trivial
  · rw [recover_lost hok hcf (by omega)]
    refine T_condD rfl (fun _ => ?_) (fun e => absurd (by show ((lostC c).length : Int) > 0; omega) e)
    refine T_auto TT_ok rfl ?_
    refine T_ret TT_ok (()) [(2, some 32)] rfl rfl ?_ ?_ ?_
    · exact SVs.imp_refl _
    · exact ⟨⟨_, rfl, Ch.imp_refl _⟩, ⟨_, rfl, Ch.imp_refl _⟩, ⟨_, rfl, Ch.imp_refl _⟩, trivial⟩
    · trivial
end Go.Proofs.YtcikaknfogpeeaaGreat
namespace Go.Proofs.YtcikaknfogpeeaaGreat
open Go Go.RowKit
set_option linter.unusedVariables false
set_option linter.unusedSimpArgs false
set_option maxRecDepth 4000
theorem exactRecover_q (x : GCluster) (hb : D.bds maxL (cCluster x)) : Ans Tryz.prog 5 [] [vR (cCluster x)] [] (vB true) := by
  refine con_enter Tryz.func5 rfl rfl rfl fun B0 r_ D_ w0 => ?_
  refine T_auto TT_ok rfl ?_
  refine RJ_Q TT_ok (szCluster_g _ hb _ (by decide) (by decide)) rfl rfl rfl rfl rfl ?_
  refine T_condD rfl (fun e => ?_) (fun e => ?_)
  · refine T_auto TT_ok rfl ?_
    exact T_ansB TT_ok [(2, none)] rfl rfl (rfl)
  have h := small_of e
  have hM : (1 : Int) + (sumW mPlace x.places : Nat) + (sumW mMachine x.machines : Nat) + (sumW mTx x.txs : Nat) ≤ 1000000000000 := marks_of e
  have hN : decide ((1 : Int) + (sumW mPlace x.places : Nat) + (sumW mMachine x.machines : Nat) + (sumW mTx x.txs : Nat) < 0) = false := decide_eq_false (by omega)
  have hw := recover_w (c := x)
  have h3 := bd_Cluster _ hw
  have hR := marks_le hw
  clear e
  refine T_auto TT_ok rfl ?_
  refine RJ_C TT_ok (Con.sw 901 7201 (Con.sw 902 7202 (Con.sw 903 7203 (toCluster_g x h)))) rfl rfl (SVs.imp_refl _) (fun _ => rfl) rfl rfl rfl fun _ _ => ?_
  refine RJ_auto TT_ok rfl ?_
  refine RJ_C TT_ok (Con.sw 901 50011 (Con.sw 902 50012 (Con.sw 903 50013 (spec_Recover_m x h)))) rfl rfl (SVs.imp_refl _) (fun _ => rfl) rfl rfl rfl fun _ _ => ?_
  refine RJ_auto TT_ok rfl ?_
  refine RJ_C TT_ok (Con.sw 901 7211 (Con.sw 902 7212 (Con.sw 903 7213 (toCluster_g x h)))) rfl rfl (SVs.imp_refl _) (fun _ => rfl) rfl rfl rfl fun _ _ => ?_
  refine RJ_auto TT_ok rfl ?_
  refine RJ_C TT_ok (Con.sw 901 50021 (Con.sw 902 50022 (Con.sw 903 50023 (impl_Recover_m x h)))) rfl rfl (SVs.imp_refl _) (fun _ => rfl) rfl rfl rfl fun _ _ => ?_
  refine RJ_auto TT_ok rfl ?_
  refine RJ_Q TT_ok (eqCluster_g _ h3) rfl rfl rfl rfl rfl ?_
  refine T_cond rfl (fun e => by simp at e) (fun _ => ?_)
  refine T_auto TT_ok rfl ?_
  refine T_drawA TT_ok [] rfl rfl fun B0 H0 => ?_
  refine DJ_C 2 (Con.sw 901 7241 (Con.sw 902 7242 (Con.sw 903 7243 (toCluster_g x h)))) rfl rfl rfl (SVs.imp_refl _) (fun _ => rfl) rfl rfl rfl fun _ _ => ?_
  refine DJ_Q1 3 (eqCluster_g x h) rfl rfl rfl rfl rfl ?_
  refine DJ_on TT_ok rfl ?_
  refine DJ_endA TT_ok rfl ?_
  refine T_cond rfl (fun e => by cases e) (fun _ => ?_)
  refine T_auto TT_ok rfl ?_
  refine RJ_C TT_ok (Con.sw 901 7211 (Con.sw 902 7212 (Con.sw 903 7213 (markCluster_g x h 1 (by decide) hM)))) rfl rfl (SVs.imp_refl _) (fun _ => rfl) rfl rfl rfl fun _ _ => ?_
  refine RJ_auto TT_ok rfl ?_
  refine RJ_Q TT_ok (eqCluster_g _ h3) rfl rfl rfl rfl rfl ?_
  refine T_cond rfl (fun e => by rw [hN] at e; simp at e) (fun _ => ?_)
  refine T_auto TT_ok rfl ?_
  refine RJ_C TT_ok (Con.sw 901 50021 (Con.sw 902 50022 (Con.sw 903 50023 (markCluster_g _ h3 1 (by decide) hR)))) rfl rfl (SVs.imp_refl _) (fun _ => rfl) rfl rfl rfl fun _ _ => ?_
  refine RJ_auto TT_ok rfl ?_
  refine RJ_Q TT_ok (heldCluster_g _ h3 1 (by decide) hR) rfl rfl rfl rfl rfl ?_
  refine T_condD rfl (fun e => by omega) (fun _ => ?_)
  refine T_auto TT_ok rfl ?_
  refine T_condN rfl (fun e => absurd rfl e) (fun _ => ?_)
  refine T_auto TT_ok rfl ?_
  refine RJ_C TT_ok (Con.sw 901 7551 (Con.sw 902 7552 (Con.sw 903 7553 (toCluster_g x h)))) rfl rfl (SVs.imp_refl _) (fun _ => rfl) rfl rfl rfl fun _ _ => ?_
  refine RJ_auto TT_ok rfl ?_
  refine RJ_C TT_ok (Con.sw 901 50031 (Con.sw 902 50032 (Con.sw 903 50033 (impl_Recover_m x h)))) rfl rfl (SVs.imp_refl _) (fun _ => rfl) rfl rfl rfl fun _ _ => ?_
  refine RJ_auto TT_ok rfl ?_
  refine RJ_Q TT_ok (eqCluster_g _ h3) rfl rfl rfl rfl rfl ?_
  refine T_cond rfl (fun e => by simp at e) (fun _ => ?_)
  refine T_auto TT_ok rfl ?_
  refine RJ_Q TT_ok (heldCluster_g _ h3 1 (by decide) hR) rfl rfl rfl rfl rfl ?_
  refine T_condD rfl (fun e => by omega) (fun _ => ?_)
  refine T_auto TT_ok rfl ?_
  refine T_condN rfl (fun e => absurd rfl e) (fun _ => ?_)
  refine T_auto TT_ok rfl ?_
  exact T_ansB TT_ok [(2, none)] rfl rfl (rfl)
end Go.Proofs.YtcikaknfogpeeaaGreat
namespace Go.Proofs.YtcikaknfogpeeaaGreat
open Go Go.RowKit
set_option linter.unusedVariables false
set_option linter.unusedSimpArgs false
def rofW (W : World) : PH := fun b o => match W.cell? ⟨b, o, none⟩ with
  | some v => bif W.frozen? ⟨b, o, none⟩ then none else some v
  | none => none
theorem rofW_fit (W : World) : Fit (rofW W) W := fun b o v e => by
  unfold rofW at e
  cases h : W.cell? ⟨b, o, none⟩ with
  | none => rw [h] at e; cases e
  | some u =>
    rw [h] at e
    simp only at e
    cases hf : W.frozen? ⟨b, o, none⟩ with
    | true => rw [hf] at e; cases e
    | false => rw [hf] at e; exact ⟨e, rfl⟩
theorem rofW_at {W : World} {b o : Nat} {v : Value} (h : W.cell? ⟨b, o, none⟩ = some v) (hf : W.frozen? ⟨b, o, none⟩ = false) : rofW W b o = some v := by
  unfold rofW; rw [h]; simp only; rw [hf]; rfl
def Opens (P : Program) (t : TypeId) {α : Type} (k : α → List D) : Prop :=
  ∀ {H : Type} (enc : TypeId × Value → H) (W : World) (fuel : Nat) (cs : List Value) (x : DataW H × List MemPlace),
    DataW.trod enc P W 0 (fun _ => true) true fuel t cs = some x → W.noneFrozen x.2 → ∃ y, D.rds (rofW W) (k y) cs
section
variable {P : Program} {TT : List TI}
theorem opens_int {t : TypeId} (h : P.underlying t = some (.int .i64)) : Opens P t cInt := fun enc W fuel cs x hx _ => by
  have : ∃ y : Int, cs = [.int .i64 y] := by
    cases fuel with
    | zero => simp [DataW.trod] at hx
    | succ n =>
      unfold DataW.trod at hx
      rw [h] at hx
      split at hx <;> simp_all
  obtain ⟨y, rfl⟩ := this
  exact ⟨y, _, _, rfl, rfl, rfl⟩
theorem opens_bool {t : TypeId} (h : P.underlying t = some .bool) : Opens P t cBool := fun enc W fuel cs x hx _ => by
  have : ∃ y : Bool, cs = [.bool y] := by
    cases fuel with
    | zero => simp [DataW.trod] at hx
    | succ n =>
      unfold DataW.trod at hx
      rw [h] at hx
      split at hx <;> first | exact ⟨_, rfl⟩ | simp_all
  obtain ⟨y, rfl⟩ := this
  exact ⟨y, _, _, rfl, rfl, rfl⟩
theorem noneFrozen_sub {W : World} {ps qs : List MemPlace} (h : W.noneFrozen ps) (hs : ∀ x ∈ qs, x ∈ ps) : W.noneFrozen qs := fun b o hm => h b o (hs _ hm)
theorem spot_none {W : World} {a : Addr} {v : Value} (h : W.cell? a = some v) : a = ⟨a.block, a.off, none⟩ := by
  obtain ⟨b, o, s⟩ := a
  cases s with
  | none => rfl
  | some s =>
    simp only [World.cell?] at h
    split at h <;> simp at h
theorem add_add_none (b o i j : Nat) : ((⟨b, o, none⟩ : Addr).add i).add j = ⟨b, o + i + j, none⟩ := by
  unfold Addr.add
  by_cases hi : i = 0 <;> by_cases hj : j = 0 <;> simp [hi, hj]
theorem opens_slice {t e : TypeId} {α : Type} {k : α → List D} (sz : Nat) (z : α) (ht : P.underlying t = some (.slice e)) (hk : Opens P e k) (hc : P.cellsOf e = sz) (hpos : 0 < sz) : Opens P t fun xs : List α => [dL sz k z xs] := fun enc W fuel cs x hx hf => by
  rcases DataW.trod_slice ht hx with ⟨rfl, rfl⟩ | ⟨a, len, cap, elems, rest, n, _, rfl, rfl, hb, hl, hm, hlen, hel, _, _⟩
  · exact ⟨[], _, _, rfl, ⟨none, 0, rfl, Nat.le_refl _, Nat.zero_le _, .inl rfl⟩, rfl⟩
  · rw [hc] at hel
    have each : ∀ i, i < len → ∃ y row, D.rds (rofW W) (k y) row ∧ row.length = sz ∧ ∀ j, j < sz → W.cell? ((a.add (i * sz)).add j) = row[j]? := by
      intro i hi
      have h1 := hel i hi
      cases hcs : W.cells? 0 (a.add (i * sz)) sz with
      | none => rw [hcs] at h1; simp at h1; omega
      | some cs =>
        rw [hcs] at h1
        simp only [Option.bind_some] at h1
        obtain ⟨g1, g2, g3⟩ := World.cells?_some hcs
        have hlt : i < elems.length := by omega
        rw [List.getElem?_eq_getElem hlt] at h1
        obtain ⟨y, hy⟩ := hk enc W n cs _ h1 (noneFrozen_sub hf fun x hx => List.mem_append_right _ (List.mem_flatMap.2 ⟨_, List.mem_append_left _ (List.getElem_mem hlt), hx⟩))
        exact ⟨y, cs, hy, g2, g3⟩
    have hml : len ≤ maxL := Nat.le_trans (Nat.le_trans hl hm) (Nat.le_of_ble_eq_true rfl)
    by_cases h0 : len = 0
    · subst h0
      exact ⟨[], _, _, rfl, ⟨some a, cap, rfl, by simp, Nat.zero_le _, .inl rfl⟩, rfl⟩
    · obtain ⟨y0, row0, _, r2, r3⟩ := each 0 (by omega)
      have ha : a = ⟨a.block, a.off, none⟩ := by
        have h := r3 0 hpos
        rw [List.getElem?_eq_getElem (by omega)] at h
        have : (a.add (0 * sz)).add 0 = a := by rw [Nat.zero_mul]; rfl
        rw [this] at h
        exact spot_none h
      have hadd : ∀ i j, (a.add i).add j = ⟨a.block, a.off + i + j, none⟩ := fun i j => by
        conv => lhs; rw [ha]
        exact add_add_none _ _ i j
      have hcell : ∀ i j, i < len → j < sz → MemPlace.cell a.block (a.off + i * sz + j) ∈ MemPlace.row a ((elems.length + rest.length) * P.cellsOf e) := fun i j hi hj => by
        refine MemPlace.mem_row.2 ⟨i * sz + j, ?_, by rw [Nat.add_assoc]⟩
        rw [hc]
        have h1 : (i + 1) * sz ≤ (elems.length + rest.length) * sz := Nat.mul_le_mul_right _ (by omega)
        rw [Nat.add_mul, Nat.one_mul] at h1
        omega
      let f : Nat → α := fun i => if h : i < len then (each i h).choose else y0
      have hf' : ∀ i (h : i < len), f i = (each i h).choose := fun i h => by simp only [f, dif_pos h]
      have hlen' : ((List.range len).map f).length = len := by simp
      refine ⟨(List.range len).map f, _, _, rfl, ⟨some a, cap, by rw [hlen'], by rw [hlen']; simpa using hl, by rw [hlen']; exact hml, .inr ⟨a.block, a.off, by rw [← ha], fun i hi => ?_⟩⟩, rfl⟩
      rw [hlen'] at hi
      obtain ⟨row, q1, q2, q3⟩ := (each i hi).choose_spec
      have hg : ((List.range len).map f).getD i z = (each i hi).choose := by simp [hi, hf' i hi]
      refine ⟨row, by show D.rds _ (k (((List.range len).map f).getD i z)) row; rw [hg]; exact q1, q2, fun j hj => ?_⟩
      have h := q3 j hj
      rw [hadd] at h
      rw [List.getElem?_eq_getElem (by omega)] at h ⊢
      exact rofW_at h (hf _ _ (List.mem_append_left _ (hcell i j hi hj)))
theorem opens_fields (hT : TOk P TT) {t : TypeId} {sz by_ : Nat} {z : Value} {ef : Bool} {l : List (Nat × Nat)} (h1 : tlk t TT = some ⟨t, sz, by_, .st l, z, ef⟩) {H : Type} {enc : TypeId × Value → H} {W : World} {fuel : Nat} {cs : List Value} {x : DataW H × List MemPlace}
    (hx : DataW.trod enc P W 0 (fun _ => true) true fuel t cs = some x) (hf : W.noneFrozen x.2) : cs.length = sz ∧ ∀ (i o : Nat) (ft : Nat) (tf : TI), l[i]? = some (o, ft) → tlk ft TT = some tf → ∃ (n : Nat) (y : DataW H × List MemPlace), DataW.trod enc P W 0 (fun _ => true) true n ft ((cs.drop o).take tf.sz) = some y ∧ W.noneFrozen y.2 := by
  obtain ⟨_, ok⟩ := hT.get h1
  obtain ⟨d, d1, d2⟩ := ok.desc
  obtain ⟨i, i1, i2, _⟩ := ok.info
  simp only at d1 d2 i1 i2
  obtain ⟨fs, rfl, hfs⟩ := shapeK_st d2
  obtain ⟨xs, n, _, rfl, h3, h4, h5⟩ := DataW.trod_struct d1 hx
  refine ⟨by rw [h3]; simp [Program.cellsOf, i1, i2], fun j o ft tf hj ht => ?_⟩
  rw [← hfs, List.getElem?_map] at hj
  cases hfj : fs.toList[j]? with
  | none => rw [hfj] at hj; cases hj
  | some f =>
    rw [hfj] at hj
    simp at hj
    obtain ⟨rfl, rfl⟩ := hj
    have hfj' : fs[j]? = some f := by simpa using hfj
    have h6 := h5 j f hfj'
    obtain ⟨e1, ok2⟩ := hT.get ht
    obtain ⟨i', j1, j2, _⟩ := ok2.info
    have hlt : j < xs.length := by rw [h4]; exact (Array.getElem?_eq_some_iff.1 hfj').1
    rw [List.getElem?_eq_getElem hlt] at h6
    refine ⟨n, xs[j], ?_, noneFrozen_sub hf fun y hy => List.mem_flatMap.2 ⟨_, List.getElem_mem hlt, hy⟩⟩
    rw [← h6]
    congr 2
    simp [Program.cellsOf, ← e1, j1, j2]
end
theorem rds_one {h : PH} {d : D} {a : Value} (e : D.rds h [d] [a]) : D.rd h d a := by
  obtain ⟨y, t, e1, e2, _⟩ := e
  injection e1 with e1
  rw [e1]; exact e2
theorem len1 {α : Type} {l : List α} (h : l.length = 1) : ∃ a0, l = [a0] := by
  match l, h with
  | [a0], _ => exact ⟨a0, rfl⟩
theorem len2 {α : Type} {l : List α} (h : l.length = 2) : ∃ a0 a1, l = [a0, a1] := by
  match l, h with
  | [a0, a1], _ => exact ⟨a0, a1, rfl⟩
theorem len4 {α : Type} {l : List α} (h : l.length = 4) : ∃ a0 a1 a2 a3, l = [a0, a1, a2, a3] := by
  match l, h with
  | [a0, a1, a2, a3], _ => exact ⟨a0, a1, a2, a3, rfl⟩
theorem len5 {α : Type} {l : List α} (h : l.length = 5) : ∃ a0 a1 a2 a3 a4, l = [a0, a1, a2, a3, a4] := by
  match l, h with
  | [a0, a1, a2, a3, a4], _ => exact ⟨a0, a1, a2, a3, a4, rfl⟩
theorem len6 {α : Type} {l : List α} (h : l.length = 6) : ∃ a0 a1 a2 a3 a4 a5, l = [a0, a1, a2, a3, a4, a5] := by
  match l, h with
  | [a0, a1, a2, a3, a4, a5], _ => exact ⟨a0, a1, a2, a3, a4, a5, rfl⟩
theorem len7 {α : Type} {l : List α} (h : l.length = 7) : ∃ a0 a1 a2 a3 a4 a5 a6, l = [a0, a1, a2, a3, a4, a5, a6] := by
  match l, h with
  | [a0, a1, a2, a3, a4, a5, a6], _ => exact ⟨a0, a1, a2, a3, a4, a5, a6, rfl⟩
theorem opens_Int : Opens Tryz.prog 2 cInt := opens_int Tryz.underlying2
theorem opens_Bool : Opens Tryz.prog 4 cBool := opens_bool Tryz.underlying4
theorem opens_Set : Opens Tryz.prog 223 cSet := fun enc W fuel cs x hx hf => by
  obtain ⟨hl, h⟩ := opens_fields TT_ok (t := 223) rfl hx hf
  obtain ⟨a0, a1, a2, a3, a4, rfl⟩ := len5 hl
  obtain ⟨n0, y0, t0, f0⟩ := h 0 _ _ _ rfl rfl
  obtain ⟨x0, e0⟩ := opens_Int enc W _ _ _ t0 f0
  obtain ⟨n1, y1, t1, f1⟩ := h 1 _ _ _ rfl rfl
  obtain ⟨x1, e1⟩ := opens_Int enc W _ _ _ t1 f1
  obtain ⟨n2, y2, t2, f2⟩ := h 2 _ _ _ rfl rfl
  obtain ⟨x2, e2⟩ := opens_Int enc W _ _ _ t2 f2
  obtain ⟨n3, y3, t3, f3⟩ := h 3 _ _ _ rfl rfl
  obtain ⟨x3, e3⟩ := opens_Bool enc W _ _ _ t3 f3
  obtain ⟨n4, y4, t4, f4⟩ := h 4 _ _ _ rfl rfl
  obtain ⟨x4, e4⟩ := opens_Int enc W _ _ _ t4 f4
  exact ⟨⟨x0, x1, x2, x3, x4⟩, ⟨a0, _, rfl, rds_one e0, ⟨a1, _, rfl, rds_one e1, ⟨a2, _, rfl, rds_one e2, ⟨a3, _, rfl, rds_one e3, ⟨a4, _, rfl, rds_one e4, rfl⟩⟩⟩⟩⟩⟩
theorem opens_Note : Opens Tryz.prog 221 cNote := fun enc W fuel cs x hx hf => by
  obtain ⟨hl, h⟩ := opens_fields TT_ok (t := 221) rfl hx hf
  obtain ⟨a0, a1, a2, a3, a4, rfl⟩ := len5 hl
  obtain ⟨n0, y0, t0, f0⟩ := h 0 _ _ _ rfl rfl
  obtain ⟨x0, e0⟩ := opens_Int enc W _ _ _ t0 f0
  obtain ⟨n1, y1, t1, f1⟩ := h 1 _ _ _ rfl rfl
  obtain ⟨x1, e1⟩ := opens_Int enc W _ _ _ t1 f1
  obtain ⟨n2, y2, t2, f2⟩ := h 2 _ _ _ rfl rfl
  obtain ⟨x2, e2⟩ := opens_Int enc W _ _ _ t2 f2
  obtain ⟨n3, y3, t3, f3⟩ := h 3 _ _ _ rfl rfl
  obtain ⟨x3, e3⟩ := opens_Int enc W _ _ _ t3 f3
  obtain ⟨n4, y4, t4, f4⟩ := h 4 _ _ _ rfl rfl
  obtain ⟨x4, e4⟩ := opens_Bool enc W _ _ _ t4 f4
  exact ⟨⟨x0, x1, x2, x3, x4⟩, ⟨a0, _, rfl, rds_one e0, ⟨a1, _, rfl, rds_one e1, ⟨a2, _, rfl, rds_one e2, ⟨a3, _, rfl, rds_one e3, ⟨a4, _, rfl, rds_one e4, rfl⟩⟩⟩⟩⟩⟩
theorem opens_Cell : Opens Tryz.prog 253 cCell := fun enc W fuel cs x hx hf => by
  obtain ⟨hl, h⟩ := opens_fields TT_ok (t := 253) rfl hx hf
  obtain ⟨a0, a1, rfl⟩ := len2 hl
  obtain ⟨n0, y0, t0, f0⟩ := h 0 _ _ _ rfl rfl
  obtain ⟨x0, e0⟩ := opens_Int enc W _ _ _ t0 f0
  obtain ⟨n1, y1, t1, f1⟩ := h 1 _ _ _ rfl rfl
  obtain ⟨x1, e1⟩ := opens_Int enc W _ _ _ t1 f1
  exact ⟨⟨x0, x1⟩, ⟨a0, _, rfl, rds_one e0, ⟨a1, _, rfl, rds_one e1, rfl⟩⟩⟩
theorem opens_Tx_4 : Opens Tryz.prog 94 (fun xs : List GNote => [dL 5 cNote GNote.z xs]) := opens_slice 5 GNote.z Tryz.underlying94 opens_Note (by kernel_rfl) (Nat.lt_of_sub_eq_succ rfl)
theorem opens_Tx_5 : Opens Tryz.prog 95 (fun xs : List GSet => [dL 5 cSet GSet.z xs]) := opens_slice 5 GSet.z Tryz.underlying95 opens_Set (by kernel_rfl) (Nat.lt_of_sub_eq_succ rfl)
theorem opens_Tx : Opens Tryz.prog 97 cTx := fun enc W fuel cs x hx hf => by
  obtain ⟨hl, h⟩ := opens_fields TT_ok (t := 97) rfl hx hf
  obtain ⟨a0, a1, a2, a3, a4, a5, a6, rfl⟩ := len7 hl
  obtain ⟨n0, y0, t0, f0⟩ := h 0 _ _ _ rfl rfl
  obtain ⟨x0, e0⟩ := opens_Int enc W _ _ _ t0 f0
  obtain ⟨n1, y1, t1, f1⟩ := h 1 _ _ _ rfl rfl
  obtain ⟨x1, e1⟩ := opens_Int enc W _ _ _ t1 f1
  obtain ⟨n2, y2, t2, f2⟩ := h 2 _ _ _ rfl rfl
  obtain ⟨x2, e2⟩ := opens_Int enc W _ _ _ t2 f2
  obtain ⟨n3, y3, t3, f3⟩ := h 3 _ _ _ rfl rfl
  obtain ⟨x3, e3⟩ := opens_Int enc W _ _ _ t3 f3
  obtain ⟨n4, y4, t4, f4⟩ := h 4 _ _ _ rfl rfl
  obtain ⟨x4, e4⟩ := opens_Tx_4 enc W _ _ _ t4 f4
  obtain ⟨n5, y5, t5, f5⟩ := h 5 _ _ _ rfl rfl
  obtain ⟨x5, e5⟩ := opens_Tx_5 enc W _ _ _ t5 f5
  obtain ⟨n6, y6, t6, f6⟩ := h 6 _ _ _ rfl rfl
  obtain ⟨x6, e6⟩ := opens_Int enc W _ _ _ t6 f6
  exact ⟨⟨x0, x1, x2, x3, x4, x5, x6⟩, ⟨a0, _, rfl, rds_one e0, ⟨a1, _, rfl, rds_one e1, ⟨a2, _, rfl, rds_one e2, ⟨a3, _, rfl, rds_one e3, ⟨a4, _, rfl, rds_one e4, ⟨a5, _, rfl, rds_one e5, ⟨a6, _, rfl, rds_one e6, rfl⟩⟩⟩⟩⟩⟩⟩⟩
end Go.Proofs.YtcikaknfogpeeaaGreat
namespace Go.Proofs.YtcikaknfogpeeaaGreat
open Go Go.RowKit
set_option linter.unusedVariables false
set_option linter.unusedSimpArgs false
theorem opens_CellS : Opens Tryz.prog 212 (fun xs : List GCell => [dL 2 cCell GCell.z xs]) := opens_slice 2 GCell.z Tryz.underlying212 opens_Cell (by kernel_rfl) (Nat.lt_of_sub_eq_succ rfl)
theorem opens_SetS : Opens Tryz.prog 95 (fun xs : List GSet => [dL 5 cSet GSet.z xs]) := opens_slice 5 GSet.z Tryz.underlying95 opens_Set (by kernel_rfl) (Nat.lt_of_sub_eq_succ rfl)
theorem opens_Int64S : Opens Tryz.prog 69 (fun xs : List Int => [dL 1 cInt 0 xs]) := opens_slice 1 0 Tryz.underlying69 opens_Int (by kernel_rfl) (Nat.lt_of_sub_eq_succ rfl)
theorem opens_Place : Opens Tryz.prog 87 cPlace := fun enc W fuel cs x hx hf => by
  obtain ⟨hl, h⟩ := opens_fields TT_ok (t := 87) rfl hx hf
  obtain ⟨a0, rfl⟩ := len1 hl
  obtain ⟨n0, y0, t0, f0⟩ := h 0 _ _ _ rfl rfl
  obtain ⟨x0, e0⟩ := opens_Int64S enc W _ _ _ t0 f0
  exact ⟨⟨x0⟩, ⟨a0, _, rfl, rds_one e0, rfl⟩⟩
theorem opens_PlaceS : Opens Tryz.prog 22 (fun xs : List GPlace => [dL 1 cPlace GPlace.z xs]) := opens_slice 1 GPlace.z Tryz.underlying22 opens_Place (by kernel_rfl) (Nat.lt_of_sub_eq_succ rfl)
theorem opens_Record : Opens Tryz.prog 217 cRecord := fun enc W fuel cs x hx hf => by
  obtain ⟨hl, h⟩ := opens_fields TT_ok (t := 217) rfl hx hf
  obtain ⟨a0, a1, a2, a3, rfl⟩ := len4 hl
  obtain ⟨n0, y0, t0, f0⟩ := h 0 _ _ _ rfl rfl
  obtain ⟨x0, e0⟩ := opens_Int enc W _ _ _ t0 f0
  obtain ⟨n1, y1, t1, f1⟩ := h 1 _ _ _ rfl rfl
  obtain ⟨x1, e1⟩ := opens_Int enc W _ _ _ t1 f1
  obtain ⟨n2, y2, t2, f2⟩ := h 2 _ _ _ rfl rfl
  obtain ⟨x2, e2⟩ := opens_Int enc W _ _ _ t2 f2
  obtain ⟨n3, y3, t3, f3⟩ := h 3 _ _ _ rfl rfl
  obtain ⟨x3, e3⟩ := opens_SetS enc W _ _ _ t3 f3
  exact ⟨⟨x0, x1, x2, x3⟩, ⟨a0, _, rfl, rds_one e0, ⟨a1, _, rfl, rds_one e1, ⟨a2, _, rfl, rds_one e2, ⟨a3, _, rfl, rds_one e3, rfl⟩⟩⟩⟩⟩
theorem opens_RecordS : Opens Tryz.prog 90 (fun xs : List GRecord => [dL 4 cRecord GRecord.z xs]) := opens_slice 4 GRecord.z Tryz.underlying90 opens_Record (by kernel_rfl) (Nat.lt_of_sub_eq_succ rfl)
theorem opens_Copy : Opens Tryz.prog 214 cCopy := fun enc W fuel cs x hx hf => by
  obtain ⟨hl, h⟩ := opens_fields TT_ok (t := 214) rfl hx hf
  obtain ⟨a0, a1, rfl⟩ := len2 hl
  obtain ⟨n0, y0, t0, f0⟩ := h 0 _ _ _ rfl rfl
  obtain ⟨x0, e0⟩ := opens_Int enc W _ _ _ t0 f0
  obtain ⟨n1, y1, t1, f1⟩ := h 1 _ _ _ rfl rfl
  obtain ⟨x1, e1⟩ := opens_CellS enc W _ _ _ t1 f1
  exact ⟨⟨x0, x1⟩, ⟨a0, _, rfl, rds_one e0, ⟨a1, _, rfl, rds_one e1, rfl⟩⟩⟩
theorem opens_CopyS : Opens Tryz.prog 89 (fun xs : List GCopy => [dL 2 cCopy GCopy.z xs]) := opens_slice 2 GCopy.z Tryz.underlying89 opens_Copy (by kernel_rfl) (Nat.lt_of_sub_eq_succ rfl)
theorem opens_Machine : Opens Tryz.prog 92 cMachine := fun enc W fuel cs x hx hf => by
  obtain ⟨hl, h⟩ := opens_fields TT_ok (t := 92) rfl hx hf
  obtain ⟨a0, a1, a2, a3, rfl⟩ := len4 hl
  obtain ⟨n0, y0, t0, f0⟩ := h 0 _ _ _ rfl rfl
  obtain ⟨x0, e0⟩ := opens_Bool enc W _ _ _ t0 f0
  obtain ⟨n1, y1, t1, f1⟩ := h 1 _ _ _ rfl rfl
  obtain ⟨x1, e1⟩ := opens_CopyS enc W _ _ _ t1 f1
  obtain ⟨n2, y2, t2, f2⟩ := h 2 _ _ _ rfl rfl
  obtain ⟨x2, e2⟩ := opens_RecordS enc W _ _ _ t2 f2
  obtain ⟨n3, y3, t3, f3⟩ := h 3 _ _ _ rfl rfl
  obtain ⟨x3, e3⟩ := opens_Int64S enc W _ _ _ t3 f3
  exact ⟨⟨x0, x1, x2, x3⟩, ⟨a0, _, rfl, rds_one e0, ⟨a1, _, rfl, rds_one e1, ⟨a2, _, rfl, rds_one e2, ⟨a3, _, rfl, rds_one e3, rfl⟩⟩⟩⟩⟩
theorem opens_MachineS : Opens Tryz.prog 23 (fun xs : List GMachine => [dL 4 cMachine GMachine.z xs]) := opens_slice 4 GMachine.z Tryz.underlying23 opens_Machine (by kernel_rfl) (Nat.lt_of_sub_eq_succ rfl)
theorem opens_TxS : Opens Tryz.prog 24 (fun xs : List GTx => [dL 7 cTx GTx.z xs]) := opens_slice 7 GTx.z Tryz.underlying24 opens_Tx (by kernel_rfl) (Nat.lt_of_sub_eq_succ rfl)
theorem opens_Cluster : Opens Tryz.prog 26 cCluster := fun enc W fuel cs x hx hf => by
  obtain ⟨hl, h⟩ := opens_fields TT_ok (t := 26) rfl hx hf
  obtain ⟨a0, a1, a2, a3, a4, a5, rfl⟩ := len6 hl
  obtain ⟨n0, y0, t0, f0⟩ := h 0 _ _ _ rfl rfl
  obtain ⟨x0, e0⟩ := opens_Int enc W _ _ _ t0 f0
  obtain ⟨n1, y1, t1, f1⟩ := h 1 _ _ _ rfl rfl
  obtain ⟨x1, e1⟩ := opens_Int enc W _ _ _ t1 f1
  obtain ⟨n2, y2, t2, f2⟩ := h 2 _ _ _ rfl rfl
  obtain ⟨x2, e2⟩ := opens_PlaceS enc W _ _ _ t2 f2
  obtain ⟨n3, y3, t3, f3⟩ := h 3 _ _ _ rfl rfl
  obtain ⟨x3, e3⟩ := opens_MachineS enc W _ _ _ t3 f3
  obtain ⟨n4, y4, t4, f4⟩ := h 4 _ _ _ rfl rfl
  obtain ⟨x4, e4⟩ := opens_TxS enc W _ _ _ t4 f4
  obtain ⟨n5, y5, t5, f5⟩ := h 5 _ _ _ rfl rfl
  obtain ⟨x5, e5⟩ := opens_Bool enc W _ _ _ t5 f5
  exact ⟨⟨x0, x1, x2, x3, x4, x5⟩, ⟨a0, _, rfl, rds_one e0, ⟨a1, _, rfl, rds_one e1, ⟨a2, _, rfl, rds_one e2, ⟨a3, _, rfl, rds_one e3, ⟨a4, _, rfl, rds_one e4, ⟨a5, _, rfl, rds_one e5, rfl⟩⟩⟩⟩⟩⟩⟩
end Go.Proofs.YtcikaknfogpeeaaGreat
