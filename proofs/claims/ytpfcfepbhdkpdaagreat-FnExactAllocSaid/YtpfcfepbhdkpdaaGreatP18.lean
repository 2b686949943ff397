
/-
  Copies of machines and clusters.
-/
import Derived.Test.YtpfcfepbhdkpdaaGreatP16
namespace Go.Proofs.YtpfcfepbhdkpdaaGreat
open Go Go.RowKit
set_option linter.unusedVariables false
set_option linter.unusedSimpArgs false
set_option maxRecDepth 4000

section
variable {E : Env} {B : BE} {mu mu' : Mu} {w : World} {H : Nat → PH} {TT : List TI} {fr fr' : Fr} {gf gf' : GF} {a : Act} {all rest : List Oper} {Q : Exit → Act → World → Prop} {o : Oper} {J : Act → World → Prop} {G : AG}
/-- a call that makes, for %D2 -/
theorem DJ_Cc {ι : Type} {f : Nat} {ks nk : List Nat} {args : List SV} {mu1 : Mu} {φ : ι → Prop} {res : ι → List SV} {mu1' : ι → Mu} (C : Con E.P f ks args mu1 φ res mu1') {svs args' : List SV} {g : Option (Nat × Nat × Bool)} {t : Nat} {q : Ob} {es : List Prop} {gs : List GO} {md : Mu}
    (hc : callC E.N all fr gf o = some (f, svs, g, t, gf')) (hw : wkSL mu (keysO mu1) ks svs = some (args', q)) (ha : SVs.imp E.P args' args) (hnk : ∀ y, keysOf (mu1' y) = nk) (hs : splitO fr gf [] q [] [] = some (es, gs)) (hmd : mdropKs (appK (keysO mu1) nk) mu = some md) {gf2 : GF} (hcut : cutKs (keysO mu1) fr gf' = some (fr', gf2))
    (k : ∀ y, φ y → SJ G J E ((t, resS (res y)) :: fr') gf2 (appM (mu1' y) md))
    (hin : WkIn mu mu1 := by repeat (first | exact trivial | refine And.intro ⟨_, rfl, ro_arr⟩ ?_ | refine And.intro ⟨_, rfl, ro_ro⟩ ?_ | refine And.intro ⟨_, rfl, ro_row⟩ ?_ | refine And.intro ⟨_, rfl, Ch.imp_refl _⟩ ?_)) (hg : litG fr gf g := by first | exact trivial | exact ⟨rfl, rfl⟩) (hkeys : keysB ks nk mu1 fr gf mu E.A.ks G.ks = true := by exact rfl) (hout : ∀ y, (SV.inKL (appK ks nk) (res y) && muIn (appK ks nk) (mu1' y)) = true := by exact fun _ => rfl) (hen : Enters E.P f := by exact enters_B (by kernel_rfl)) (he : PAlls es := by repeat (first | exact trivial | refine And.intro rfl ?_)) (ho : GAlls gs := by first | exact trivial | ((simp only [GAlls, GO.p, InR]; (repeat' (first | exact trivial | refine And.intro ?_ ?_ | refine fun _ => ?_)) <;> first | omega | (simp only [decide_eq_true_eq, decide_eq_false_iff_not, Int.toNat_natCast] at *; omega) | (simp at *; omega)))) : OJ G E all Q J o fr gf mu :=
  OJ_C C hc hg hen hw ha hs he ho hin hnk hkeys hout hmd hcut k
end
theorem imp_app1' {α : Type} {sz : Nat} {enc : α → List D} {z x : α} {ys rs : List α} {g : Nat → List D} (h : rs = ys ++ [x]) (hg : OwnI (g 0) (enc x)) : (Ch.arr sz (ys.length + 1) (appD ys.length (fun i => enc (ys.getD i z)) g)).imp (arrC sz enc z rs) := by
  subst h
  refine Ch.imp_own (by simp) fun i hi => ?_
  by_cases c : i < ys.length
  · rw [appD_lt c]; exact OwnI.of (by congr 1; simp [List.getElem?_append_left c])
  · have : i = ys.length := by omega
    subst this
    rw [appD_ge (by omega), Nat.sub_self]
    have e : (ys ++ [x]).getD ys.length z = x := by simp
    rw [e]; exact hg
theorem OwnI.sl {l m : List D} {sz n n' : Nat} {f g : Nat → List D} (hn : n = n') (h : ∀ i, i < n → f i = g i) (k : OwnI l m) : OwnI (.sl sz n f :: l) (.sl sz n' g :: m) := fun hh vs ⟨y, t, h1, h2, e1, e2, e3, e4, e5, e6⟩ =>
  ⟨y, t, h1, h2, e1, e2, e3, e4, by subst hn; exact D.own_congr h e5, k _ _ e6⟩

theorem cloneMachine_m (m : GMachine) (hb : D.bds bigN (cMachine m)) : MkMach Tryz.prog 85 [vR (cMachine m)] m := by
  have b1 : m.copies.length ≤ 1048576 := hb.2.1.1
  have b2 : m.log.length ≤ 1048576 := hb.2.2.1.1
  have b3 : m.cleared.length ≤ 1048576 := hb.2.2.2.1.1
  refine con_enter Tryz.func85 rfl rfl rfl fun B0 r_ D_ w0 => ?_
  refine T_auto1 TT_ok rfl ?_
  refine T_freeze 1 rfl rfl rfl rfl (fun _ => rfl) (fun _ => rfl) fun r_ => ?_
  refine T_seq ?_
  refine T_cut [(1, vP (cMachine m)), (2, .a (.p 2 0)), (3, .a (.p 3 0))] [(2, .row [.v (.bool false), nilV, nilV, nilV]), (3, .row [.v (.bool m.alive), nilV, nilV, .g 12]), (12, arrC 1 cInt 0 m.cleared)] ?_ fun key => ?_
  · refine X_go TT_ok rfl ?_
    refine T_view (V_nilR 3 1 2 (fun i => cCopy (([] : List GCopy).getD i GCopy.z)) rfl rfl rfl) ?_
    refine T_view (V_nilR 3 2 4 (fun i => cRecord (([] : List GRecord).getD i GRecord.z)) rfl rfl rfl) ?_
    refine T_view (V_open 3 1 31 rfl rfl rfl rfl rfl rfl) ?_
    refine T_view (V_open 3 2 32 rfl rfl rfl rfl rfl rfl) ?_
    refine T_loopA (ι := Nat) (fun i => [(17, vI i)]) (fun i => [(31, arrC 2 cCopy GCopy.z (m.copies.take i)), (3, .row [.v (.bool m.alive), .g 31, .g 32, .g 12])]) (fun i => i ≤ m.copies.length) (fun i => m.copies.length - i) 0 [31, 3] [31] rfl rfl (Nat.zero_le _) (by repeat (first | exact trivial | refine And.intro ⟨_, rfl, SV.imp_refl _⟩ ?_)) (by repeat (first | exact trivial | refine And.intro ⟨_, rfl, Ch.imp_refl _⟩ ?_)) ?_
    intro i h1
    refine T_auto TT_ok rfl ?_
    refine T_condD rfl (fun e => ?_) (fun e => ?_)
    · have hi : i < m.copies.length := by omega
      have hl : (m.copies.take i).length = i := by rw [List.length_take]; omega
      refine T_auto TT_ok rfl ?_
      refine T_drawL TT_ok [31] [0, 1, 2, 3, 4, 5, 6, 7, 8, 9, 10, 11] rfl rfl fun B0 H0 => ?_
      refine DJ_C 6 (Con.sw 900 27 (cloneCell_m (m.copies.getD i GCopy.z).cells (hb.2.1.2 i hi).2.1.1)) rfl rfl rfl (SVs.imp_refl _) (fun _ => rfl) rfl rfl rfl fun _ _ => ?_
      refine DJ_onL TT_ok [7, 8, 9, 10, 11] rfl ?_
      refine DJ_one 8 rfl (by kernel_rfl) (OJ_bs TT_ok 29 (fun _ => cCopy (m.copies.getD i GCopy.z)) rfl rfl rfl rfl rfl rfl rfl (fun j hj => by rcases j with _ | j <;> first | rfl | omega) (mu1 := [(27, .arr 0 0 fun _ => [])]) rfl rfl rfl (SJ_dj ?_))
      refine DJ_one 9 rfl (by kernel_rfl) (OJ_appM TT_ok 31 29 30 rfl rfl rfl rfl rfl rfl rfl rfl rfl rfl rfl rfl ⟨by show ((m.copies.take i).length + 1) * 32 ≤ _; omega, by unfold maxL; omega⟩ (SJ_dj ?_))
      refine DJ_onL TT_ok [10, 11] rfl ?_
      refine DJ_sw2 11 rfl (by kernel_rfl) (by kernel_rfl) (OJ_M TT_ok rfl rfl rfl rfl rfl rfl (SJ_sw [] fun B0 H0 => ?_))
      refine DJ_endA TT_ok rfl ?_
      refine X_view (V_sw 31 30) ?_
      exact X_inv (i + 1) hi (by omega) (by repeat (first | exact trivial | refine And.intro ⟨_, rfl, SV.imp_refl _⟩ ?_)) ⟨⟨_, rfl, imp_app1 (x := m.copies.getD i GCopy.z) (take_succ_getD hi) rfl⟩, (by repeat (first | exact trivial | refine And.intro ⟨_, rfl, Ch.imp_refl _⟩ ?_))⟩
    have hi : i = m.copies.length := by omega
    subst hi
    rw [List.take_length]
    refine T_auto TT_ok rfl ?_
    refine T_loopA (ι := Nat) (fun i => [(36, vI i)]) (fun i => [(32, arrC 4 cRecord GRecord.z (m.log.take i)), (3, .row [.v (.bool m.alive), .g 31, .g 32, .g 12])]) (fun i => i ≤ m.log.length) (fun i => m.log.length - i) 0 [32, 3] [32] rfl rfl (Nat.zero_le _) (by repeat (first | exact trivial | refine And.intro ⟨_, rfl, SV.imp_refl _⟩ ?_)) (by repeat (first | exact trivial | refine And.intro ⟨_, rfl, Ch.imp_refl _⟩ ?_)) ?_
    intro i h1
    refine T_auto TT_ok rfl ?_
    refine T_condD rfl (fun e => ?_) (fun e => ?_)
    · have hi : i < m.log.length := by omega
      have hl : (m.log.take i).length = i := by rw [List.length_take]; omega
      refine T_auto TT_ok rfl ?_
      refine T_drawL TT_ok [32] [0, 1, 2, 3, 4, 5, 6, 7] rfl rfl fun B0 H0 => ?_
      refine DJ_C 3 (Con.sw 901 43 (cloneRecord_m (m.log.getD i GRecord.z) (hb.2.2.1.2 i hi).2.2.2.1.1)) rfl rfl rfl (SVs.imp_refl _) (fun _ => rfl) rfl rfl rfl fun _ _ => ?_
      refine DJ_one 4 rfl (by kernel_rfl) (OJ_bs TT_ok 44 (fun _ => cRecord (m.log.getD i GRecord.z)) rfl rfl rfl rfl rfl rfl rfl (fun j hj => by rcases j with _ | j <;> first | rfl | omega) (mu1 := [(43, .arr 0 0 fun _ => [])]) rfl rfl rfl (SJ_dj ?_))
      refine DJ_one 5 rfl (by kernel_rfl) (OJ_appM TT_ok 32 44 45 rfl rfl rfl rfl rfl rfl rfl rfl rfl rfl rfl rfl ⟨by show ((m.log.take i).length + 1) * 48 ≤ _; omega, by unfold maxL; omega⟩ (SJ_dj ?_))
      refine DJ_onL TT_ok [6, 7] rfl ?_
      refine DJ_sw2 7 rfl (by kernel_rfl) (by kernel_rfl) (OJ_M TT_ok rfl rfl rfl rfl rfl rfl (SJ_sw [] fun B0 H0 => ?_))
      refine DJ_endA TT_ok rfl ?_
      refine X_view (V_sw 32 45) ?_
      exact X_inv (i + 1) hi (by omega) (by repeat (first | exact trivial | refine And.intro ⟨_, rfl, SV.imp_refl _⟩ ?_)) ⟨⟨_, rfl, imp_app1 (x := m.log.getD i GRecord.z) (take_succ_getD hi) rfl⟩, (by repeat (first | exact trivial | refine And.intro ⟨_, rfl, Ch.imp_refl _⟩ ?_))⟩
    have hi : i = m.log.length := by omega
    subst hi
    rw [List.take_length]
    refine T_auto TT_ok rfl ?_
    refine T_view (V_sw 31 901) ?_
    refine T_view (V_sw 32 902) ?_
    refine T_view (V_sw 12 903) ?_
    refine T_ret TT_ok (()) [(2, some 86)] rfl rfl ?_ ?_ ?_
    · exact SVs.imp_refl _
    · exact ⟨⟨_, rfl, Ch.imp_refl _⟩, ⟨_, rfl, Ch.imp_refl _⟩, ⟨_, rfl, Ch.imp_refl _⟩, trivial⟩
    · trivial
  · refine T_drawL TT_ok [] [0, 1, 2, 3, 4, 5, 6, 7] rfl rfl fun B0 H0 => ?_
    refine DJ_two 4 6 rfl rfl (by kernel_rfl) (DJ_Cc (Con.sw 900 12 (cloneInt64_m m.cleared b3)) rfl rfl (SVs.imp_refl _) (fun _ => rfl) rfl rfl rfl (fun _ _ => SJ_dj ?_)) (OJ_M TT_ok rfl rfl rfl rfl rfl rfl (SJ_dj ?_))
    · refine DJ_onL TT_ok [5, 6, 7] rfl ?_
      refine DJ_one 6 rfl (by kernel_rfl) (OJ_M TT_ok rfl rfl rfl rfl rfl rfl (SJ_dj ?_))
      refine DJ_one 7 rfl (by kernel_rfl) (OJ_M TT_ok rfl rfl rfl rfl rfl rfl (SJ_dj ?_))
      exact DJ_endK key (by repeat (first | exact trivial | refine And.intro ⟨_, rfl, SV.imp_refl _⟩ ?_)) (by repeat (first | exact trivial | refine And.intro ⟨_, rfl, Ch.imp_refl _⟩ ?_))
    · skip
      refine DJ_C 4 (Con.sw 900 12 (cloneInt64_m m.cleared b3)) rfl rfl rfl (SVs.imp_refl _) (fun _ => rfl) rfl rfl rfl fun _ _ => ?_
      refine DJ_onL TT_ok [5, 7] rfl ?_
      refine DJ_one 7 rfl (by kernel_rfl) (OJ_M TT_ok rfl rfl rfl rfl rfl rfl (SJ_dj ?_))
      exact DJ_endK key (by repeat (first | exact trivial | refine And.intro ⟨_, rfl, SV.imp_refl _⟩ ?_)) (by repeat (first | exact trivial | refine And.intro ⟨_, rfl, Ch.imp_refl _⟩ ?_))
theorem l8Copy_m (c : GCluster) (hb : D.bds bigN (cCluster c)) : MkClus Tryz.prog 28 [vR (cCluster c)] c := by
  have b1 : c.places.length ≤ 1048576 := hb.2.2.1.1
  have b2 : c.machines.length ≤ 1048576 := hb.2.2.2.1.1
  have b3 : c.txs.length ≤ 1048576 := hb.2.2.2.2.1.1
  refine con_enter Tryz.func28 rfl rfl rfl fun B0 r_ D_ w0 => ?_
  refine T_auto1 TT_ok rfl ?_
  refine T_freeze 1 rfl rfl rfl rfl (fun _ => rfl) (fun _ => rfl) fun r_ => ?_
  refine T_auto TT_ok rfl ?_
  refine T_view (V_nilR 3 2 1 (fun i => cPlace (([] : List GPlace).getD i GPlace.z)) rfl rfl rfl) ?_
  refine T_view (V_nilR 3 3 4 (fun i => cMachine (([] : List GMachine).getD i GMachine.z)) rfl rfl rfl) ?_
  refine T_view (V_nilR 3 4 7 (fun i => cTx (([] : List GTx).getD i GTx.z)) rfl rfl rfl) ?_
  refine T_view (V_open 3 2 901 rfl rfl rfl rfl rfl rfl) ?_
  refine T_view (V_open 3 3 902 rfl rfl rfl rfl rfl rfl) ?_
  refine T_view (V_open 3 4 903 rfl rfl rfl rfl rfl rfl) ?_
  refine T_loopA (ι := Nat) (fun i => [(4, vI i)]) (fun i => [(901, arrC 1 cPlace GPlace.z (c.places.take i)), (3, .row [.v (.int .i64 c.config), .v (.int .i64 c.clock), .g 901, .g 902, .g 903, .v (.bool c.lost)])]) (fun i => i ≤ c.places.length) (fun i => c.places.length - i) 0 [901, 3] [901] rfl rfl (Nat.zero_le _) (by repeat (first | exact trivial | refine And.intro ⟨_, rfl, SV.imp_refl _⟩ ?_)) (by repeat (first | exact trivial | refine And.intro ⟨_, rfl, Ch.imp_refl _⟩ ?_)) ?_
  intro i h1
  refine T_auto TT_ok rfl ?_
  refine T_condD rfl (fun e => ?_) (fun e => ?_)
  · have hi : i < c.places.length := by omega
    have hl : (c.places.take i).length = i := by rw [List.length_take]; omega
    have hm : (c.places.getD i GPlace.z).machines.length ≤ 1048576 := (hb.2.2.1.2 i hi).1.1
    refine T_auto TT_ok rfl ?_
    refine T_drawL TT_ok [901] [0, 1, 3, 4, 5, 6, 7, 8, 2, 9, 10, 11, 12, 13, 14] rfl rfl fun B0 H0 => ?_
    refine DJ_one 2 rfl (by kernel_rfl) (OJ_bs TT_ok 23 (fun i => cInt (([] : List Int).getD i 0)) rfl rfl rfl rfl rfl rfl rfl (fun i hi => absurd hi (Nat.not_lt_zero _)) (mu1 := []) rfl rfl rfl (SJ_dj ?_))
    refine DJ_one 9 rfl (by kernel_rfl) (OJ_appC TT_ok 23 30 rfl rfl rfl rfl rfl rfl rfl rfl rfl rfl rfl rfl ⟨by simp; simp at hm; omega, by unfold maxL; simp at hm ⊢; omega⟩ (SJ_dj ?_))
    refine DJ_onL TT_ok [10, 11, 12, 13, 14] rfl ?_
    refine DJ_one 11 rfl (by kernel_rfl) (OJ_bs TT_ok 32 (fun _ => [.sl 1 _ _]) rfl rfl rfl rfl rfl rfl rfl (fun j hj => by rcases j with _ | j <;> first | rfl | omega) (mu1 := [(30, .arr 0 0 fun _ => [])]) rfl rfl rfl (SJ_dj ?_))
    refine DJ_one 12 rfl (by kernel_rfl) (OJ_appM TT_ok 901 32 33 rfl rfl rfl rfl rfl rfl rfl rfl rfl rfl rfl rfl ⟨by show ((c.places.take i).length + 1) * 24 ≤ _; omega, by unfold maxL; omega⟩ (SJ_dj ?_))
    refine DJ_onL TT_ok [13, 14] rfl ?_
    refine DJ_sw2 14 rfl (by kernel_rfl) (by kernel_rfl) (OJ_M TT_ok rfl rfl rfl rfl rfl rfl (SJ_sw [] fun B0 H0 => ?_))
    refine DJ_endA TT_ok rfl ?_
    refine X_view (V_sw 901 33) ?_
    exact X_inv (i + 1) hi (by omega) (by repeat (first | exact trivial | refine And.intro ⟨_, rfl, SV.imp_refl _⟩ ?_)) ⟨⟨_, rfl, imp_app1' (x := c.places.getD i GPlace.z) (take_succ_getD hi) (OwnI.sl (by simp) (fun i _ => appD_ge (Nat.zero_le _)) OwnI.e)⟩, (by repeat (first | exact trivial | refine And.intro ⟨_, rfl, Ch.imp_refl _⟩ ?_))⟩
  have hi : i = c.places.length := by omega
  subst hi
  rw [List.take_length]
  refine T_auto TT_ok rfl ?_
  refine T_loopA (ι := Nat) (fun i => [(5, vI i)]) (fun i => [(902, arrC 4 cMachine GMachine.z (c.machines.take i)), (3, .row [.v (.int .i64 c.config), .v (.int .i64 c.clock), .g 901, .g 902, .g 903, .v (.bool c.lost)])]) (fun i => i ≤ c.machines.length) (fun i => c.machines.length - i) 0 [902, 3] [902] rfl rfl (Nat.zero_le _) (by repeat (first | exact trivial | refine And.intro ⟨_, rfl, SV.imp_refl _⟩ ?_)) (by repeat (first | exact trivial | refine And.intro ⟨_, rfl, Ch.imp_refl _⟩ ?_)) ?_
  intro i h1
  refine T_auto TT_ok rfl ?_
  refine T_condD rfl (fun e => ?_) (fun e => ?_)
  · have hi : i < c.machines.length := by omega
    have hl : (c.machines.take i).length = i := by rw [List.length_take]; omega
    refine T_auto TT_ok rfl ?_
    refine T_drawL TT_ok [902] [0, 1, 2, 3, 4, 5, 6, 7, 8, 9, 10, 11] rfl rfl fun B0 H0 => ?_
    refine DJ_C 7 (Con.sw 901 491 (Con.sw 902 492 (Con.sw 903 493 (l6Copy_m (c.machines.getD i GMachine.z) (hb.2.2.2.1.2 i hi))))) rfl rfl rfl (SVs.imp_refl _) (fun _ => rfl) rfl rfl rfl fun _ _ => ?_
    refine DJ_one 8 rfl (by kernel_rfl) (OJ_bs TT_ok 50 (fun _ => cMachine (c.machines.getD i GMachine.z)) rfl rfl rfl rfl rfl rfl rfl (fun j hj => by rcases j with _ | j <;> first | rfl | omega) (mu1 := [(491, .arr 0 0 fun _ => []), (492, .arr 0 0 fun _ => []), (493, .arr 0 0 fun _ => [])]) rfl rfl rfl (SJ_dj ?_))
    refine DJ_one 9 rfl (by kernel_rfl) (OJ_appM TT_ok 902 50 51 rfl rfl rfl rfl rfl rfl rfl rfl rfl rfl rfl rfl ⟨by show ((c.machines.take i).length + 1) * 80 ≤ _; omega, by unfold maxL; omega⟩ (SJ_dj ?_))
    refine DJ_onL TT_ok [10, 11] rfl ?_
    refine DJ_sw2 11 rfl (by kernel_rfl) (by kernel_rfl) (OJ_M TT_ok rfl rfl rfl rfl rfl rfl (SJ_sw [] fun B0 H0 => ?_))
    refine DJ_endA TT_ok rfl ?_
    refine X_view (V_sw 902 51) ?_
    exact X_inv (i + 1) hi (by omega) (by repeat (first | exact trivial | refine And.intro ⟨_, rfl, SV.imp_refl _⟩ ?_)) ⟨⟨_, rfl, imp_app1 (x := c.machines.getD i GMachine.z) (take_succ_getD hi) rfl⟩, (by repeat (first | exact trivial | refine And.intro ⟨_, rfl, Ch.imp_refl _⟩ ?_))⟩
  have hi : i = c.machines.length := by omega
  subst hi
  rw [List.take_length]
  refine T_auto TT_ok rfl ?_
  refine T_loopA (ι := Nat) (fun i => [(6, vI i)]) (fun i => [(903, arrC 7 cTx GTx.z (c.txs.take i)), (3, .row [.v (.int .i64 c.config), .v (.int .i64 c.clock), .g 901, .g 902, .g 903, .v (.bool c.lost)])]) (fun i => i ≤ c.txs.length) (fun i => c.txs.length - i) 0 [903, 3] [903] rfl rfl (Nat.zero_le _) (by repeat (first | exact trivial | refine And.intro ⟨_, rfl, SV.imp_refl _⟩ ?_)) (by repeat (first | exact trivial | refine And.intro ⟨_, rfl, Ch.imp_refl _⟩ ?_)) ?_
  intro i h1
  refine T_auto TT_ok rfl ?_
  refine T_condD rfl (fun e => ?_) (fun e => ?_)
  · have hi : i < c.txs.length := by omega
    have hl : (c.txs.take i).length = i := by rw [List.length_take]; omega
    have ht := hb.2.2.2.2.1.2 i hi
    refine T_auto TT_ok rfl ?_
    refine T_drawL TT_ok [903] [0, 1, 2, 3, 4, 5, 6, 7, 8, 9, 10, 11] rfl rfl fun B0 H0 => ?_
    refine DJ_C 7 (Con.sw 901 671 (Con.sw 902 672 (l7Copy_m (c.txs.getD i GTx.z) ht.2.2.2.2.1.1 ht.2.2.2.2.2.1.1))) rfl rfl rfl (SVs.imp_refl _) (fun _ => rfl) rfl rfl rfl fun _ _ => ?_
    refine DJ_one 8 rfl (by kernel_rfl) (OJ_bs TT_ok 68 (fun _ => cTx (c.txs.getD i GTx.z)) rfl rfl rfl rfl rfl rfl rfl (fun j hj => by rcases j with _ | j <;> first | rfl | omega) (mu1 := [(671, .arr 0 0 fun _ => []), (672, .arr 0 0 fun _ => [])]) rfl rfl rfl (SJ_dj ?_))
    refine DJ_one 9 rfl (by kernel_rfl) (OJ_appM TT_ok 903 68 69 rfl rfl rfl rfl rfl rfl rfl rfl rfl rfl rfl rfl ⟨by show ((c.txs.take i).length + 1) * 88 ≤ _; omega, by unfold maxL; omega⟩ (SJ_dj ?_))
    refine DJ_onL TT_ok [10, 11] rfl ?_
    refine DJ_sw2 11 rfl (by kernel_rfl) (by kernel_rfl) (OJ_M TT_ok rfl rfl rfl rfl rfl rfl (SJ_sw [] fun B0 H0 => ?_))
    refine DJ_endA TT_ok rfl ?_
    refine X_view (V_sw 903 69) ?_
    exact X_inv (i + 1) hi (by omega) (by repeat (first | exact trivial | refine And.intro ⟨_, rfl, SV.imp_refl _⟩ ?_)) ⟨⟨_, rfl, imp_app1 (x := c.txs.getD i GTx.z) (take_succ_getD hi) rfl⟩, (by repeat (first | exact trivial | refine And.intro ⟨_, rfl, Ch.imp_refl _⟩ ?_))⟩
  have hi : i = c.txs.length := by omega
  subst hi
  rw [List.take_length]
  refine T_auto TT_ok rfl ?_
  refine T_ret TT_ok (()) [(2, some 32)] rfl rfl ?_ ?_ ?_
  · exact SVs.imp_refl _
  · exact ⟨⟨_, rfl, Ch.imp_refl _⟩, ⟨_, rfl, Ch.imp_refl _⟩, ⟨_, rfl, Ch.imp_refl _⟩, trivial⟩
  · trivial
theorem cloneCluster_m (c : GCluster) (hb : D.bds bigN (cCluster c)) : MkClus Tryz.prog 33 [vR (cCluster c)] c := by
  have b1 : c.places.length ≤ 1048576 := hb.2.2.1.1
  have b2 : c.machines.length ≤ 1048576 := hb.2.2.2.1.1
  have b3 : c.txs.length ≤ 1048576 := hb.2.2.2.2.1.1
  refine con_enter Tryz.func33 rfl rfl rfl fun B0 r_ D_ w0 => ?_
  refine T_auto1 TT_ok rfl ?_
  refine T_freeze 1 rfl rfl rfl rfl (fun _ => rfl) (fun _ => rfl) fun r_ => ?_
  refine T_auto TT_ok rfl ?_
  refine T_view (V_nilR 3 2 1 (fun i => cPlace (([] : List GPlace).getD i GPlace.z)) rfl rfl rfl) ?_
  refine T_view (V_nilR 3 3 4 (fun i => cMachine (([] : List GMachine).getD i GMachine.z)) rfl rfl rfl) ?_
  refine T_view (V_nilR 3 4 7 (fun i => cTx (([] : List GTx).getD i GTx.z)) rfl rfl rfl) ?_
  refine T_view (V_open 3 2 901 rfl rfl rfl rfl rfl rfl) ?_
  refine T_view (V_open 3 3 902 rfl rfl rfl rfl rfl rfl) ?_
  refine T_view (V_open 3 4 903 rfl rfl rfl rfl rfl rfl) ?_
  refine T_loopA (ι := Nat) (fun i => [(17, vI i)]) (fun i => [(901, arrC 1 cPlace GPlace.z (c.places.take i)), (3, .row [.v (.int .i64 c.config), .v (.int .i64 c.clock), .g 901, .g 902, .g 903, .v (.bool c.lost)])]) (fun i => i ≤ c.places.length) (fun i => c.places.length - i) 0 [901, 3] [901] rfl rfl (Nat.zero_le _) (by repeat (first | exact trivial | refine And.intro ⟨_, rfl, SV.imp_refl _⟩ ?_)) (by repeat (first | exact trivial | refine And.intro ⟨_, rfl, Ch.imp_refl _⟩ ?_)) ?_
  intro i h1
  refine T_auto TT_ok rfl ?_
  refine T_condD rfl (fun e => ?_) (fun e => ?_)
  · have hi : i < c.places.length := by omega
    have hl : (c.places.take i).length = i := by rw [List.length_take]; omega
    have hm : (c.places.getD i GPlace.z).machines.length ≤ 1048576 := (hb.2.2.1.2 i hi).1.1
    refine T_auto TT_ok rfl ?_
    refine T_drawL TT_ok [901] [0, 1, 2, 3, 4, 5, 6, 7, 8, 9] rfl rfl fun B0 H0 => ?_
    refine DJ_C 4 (Con.sw 900 25 (cloneInt64_m (c.places.getD i GPlace.z).machines hm)) rfl rfl rfl (SVs.imp_refl _) (fun _ => rfl) rfl rfl rfl fun _ _ => ?_
    refine DJ_onL TT_ok [5, 6, 7, 8, 9] rfl ?_
    refine DJ_one 6 rfl (by kernel_rfl) (OJ_bs TT_ok 27 (fun _ => cPlace (c.places.getD i GPlace.z)) rfl rfl rfl rfl rfl rfl rfl (fun j hj => by rcases j with _ | j <;> first | rfl | omega) (mu1 := [(25, .arr 0 0 fun _ => [])]) rfl rfl rfl (SJ_dj ?_))
    refine DJ_one 7 rfl (by kernel_rfl) (OJ_appM TT_ok 901 27 28 rfl rfl rfl rfl rfl rfl rfl rfl rfl rfl rfl rfl ⟨by show ((c.places.take i).length + 1) * 24 ≤ _; omega, by unfold maxL; omega⟩ (SJ_dj ?_))
    refine DJ_onL TT_ok [8, 9] rfl ?_
    refine DJ_sw2 9 rfl (by kernel_rfl) (by kernel_rfl) (OJ_M TT_ok rfl rfl rfl rfl rfl rfl (SJ_sw [] fun B0 H0 => ?_))
    refine DJ_endA TT_ok rfl ?_
    refine X_view (V_sw 901 28) ?_
    exact X_inv (i + 1) hi (by omega) (by repeat (first | exact trivial | refine And.intro ⟨_, rfl, SV.imp_refl _⟩ ?_)) ⟨⟨_, rfl, imp_app1 (x := c.places.getD i GPlace.z) (take_succ_getD hi) rfl⟩, (by repeat (first | exact trivial | refine And.intro ⟨_, rfl, Ch.imp_refl _⟩ ?_))⟩
  have hi : i = c.places.length := by omega
  subst hi
  rw [List.take_length]
  refine T_auto TT_ok rfl ?_
  refine T_loopA (ι := Nat) (fun i => [(34, vI i)]) (fun i => [(902, arrC 4 cMachine GMachine.z (c.machines.take i)), (3, .row [.v (.int .i64 c.config), .v (.int .i64 c.clock), .g 901, .g 902, .g 903, .v (.bool c.lost)])]) (fun i => i ≤ c.machines.length) (fun i => c.machines.length - i) 0 [902, 3] [902] rfl rfl (Nat.zero_le _) (by repeat (first | exact trivial | refine And.intro ⟨_, rfl, SV.imp_refl _⟩ ?_)) (by repeat (first | exact trivial | refine And.intro ⟨_, rfl, Ch.imp_refl _⟩ ?_)) ?_
  intro i h1
  refine T_auto TT_ok rfl ?_
  refine T_condD rfl (fun e => ?_) (fun e => ?_)
  · have hi : i < c.machines.length := by omega
    have hl : (c.machines.take i).length = i := by rw [List.length_take]; omega
    refine T_auto TT_ok rfl ?_
    refine T_drawL TT_ok [902] [0, 1, 2, 3, 4, 5, 6, 7] rfl rfl fun B0 H0 => ?_
    refine DJ_C 3 (Con.sw 901 411 (Con.sw 902 412 (Con.sw 903 413 (cloneMachine_m (c.machines.getD i GMachine.z) (hb.2.2.2.1.2 i hi))))) rfl rfl rfl (SVs.imp_refl _) (fun _ => rfl) rfl rfl rfl fun _ _ => ?_
    refine DJ_one 4 rfl (by kernel_rfl) (OJ_bs TT_ok 42 (fun _ => cMachine (c.machines.getD i GMachine.z)) rfl rfl rfl rfl rfl rfl rfl (fun j hj => by rcases j with _ | j <;> first | rfl | omega) (mu1 := [(411, .arr 0 0 fun _ => []), (412, .arr 0 0 fun _ => []), (413, .arr 0 0 fun _ => [])]) rfl rfl rfl (SJ_dj ?_))
    refine DJ_one 5 rfl (by kernel_rfl) (OJ_appM TT_ok 902 42 43 rfl rfl rfl rfl rfl rfl rfl rfl rfl rfl rfl rfl ⟨by show ((c.machines.take i).length + 1) * 80 ≤ _; omega, by unfold maxL; omega⟩ (SJ_dj ?_))
    refine DJ_onL TT_ok [6, 7] rfl ?_
    refine DJ_sw2 7 rfl (by kernel_rfl) (by kernel_rfl) (OJ_M TT_ok rfl rfl rfl rfl rfl rfl (SJ_sw [] fun B0 H0 => ?_))
    refine DJ_endA TT_ok rfl ?_
    refine X_view (V_sw 902 43) ?_
    exact X_inv (i + 1) hi (by omega) (by repeat (first | exact trivial | refine And.intro ⟨_, rfl, SV.imp_refl _⟩ ?_)) ⟨⟨_, rfl, imp_app1 (x := c.machines.getD i GMachine.z) (take_succ_getD hi) rfl⟩, (by repeat (first | exact trivial | refine And.intro ⟨_, rfl, Ch.imp_refl _⟩ ?_))⟩
  have hi : i = c.machines.length := by omega
  subst hi
  rw [List.take_length]
  refine T_auto TT_ok rfl ?_
  refine T_loopA (ι := Nat) (fun i => [(49, vI i)]) (fun i => [(903, arrC 7 cTx GTx.z (c.txs.take i)), (3, .row [.v (.int .i64 c.config), .v (.int .i64 c.clock), .g 901, .g 902, .g 903, .v (.bool c.lost)])]) (fun i => i ≤ c.txs.length) (fun i => c.txs.length - i) 0 [903, 3] [903] rfl rfl (Nat.zero_le _) (by repeat (first | exact trivial | refine And.intro ⟨_, rfl, SV.imp_refl _⟩ ?_)) (by repeat (first | exact trivial | refine And.intro ⟨_, rfl, Ch.imp_refl _⟩ ?_)) ?_
  intro i h1
  refine T_auto TT_ok rfl ?_
  refine T_condD rfl (fun e => ?_) (fun e => ?_)
  · have hi : i < c.txs.length := by omega
    have hl : (c.txs.take i).length = i := by rw [List.length_take]; omega
    have ht := hb.2.2.2.2.1.2 i hi
    refine T_auto TT_ok rfl ?_
    refine T_drawL TT_ok [903] [0, 1, 2, 3, 4, 5, 6, 7] rfl rfl fun B0 H0 => ?_
    refine DJ_C 3 (Con.sw 901 561 (Con.sw 902 562 (cloneTx_m (c.txs.getD i GTx.z) ht.2.2.2.2.1.1 ht.2.2.2.2.2.1.1))) rfl rfl rfl (SVs.imp_refl _) (fun _ => rfl) rfl rfl rfl fun _ _ => ?_
    refine DJ_one 4 rfl (by kernel_rfl) (OJ_bs TT_ok 57 (fun _ => cTx (c.txs.getD i GTx.z)) rfl rfl rfl rfl rfl rfl rfl (fun j hj => by rcases j with _ | j <;> first | rfl | omega) (mu1 := [(561, .arr 0 0 fun _ => []), (562, .arr 0 0 fun _ => [])]) rfl rfl rfl (SJ_dj ?_))
    refine DJ_one 5 rfl (by kernel_rfl) (OJ_appM TT_ok 903 57 58 rfl rfl rfl rfl rfl rfl rfl rfl rfl rfl rfl rfl ⟨by show ((c.txs.take i).length + 1) * 88 ≤ _; omega, by unfold maxL; omega⟩ (SJ_dj ?_))
    refine DJ_onL TT_ok [6, 7] rfl ?_
    refine DJ_sw2 7 rfl (by kernel_rfl) (by kernel_rfl) (OJ_M TT_ok rfl rfl rfl rfl rfl rfl (SJ_sw [] fun B0 H0 => ?_))
    refine DJ_endA TT_ok rfl ?_
    refine X_view (V_sw 903 58) ?_
    exact X_inv (i + 1) hi (by omega) (by repeat (first | exact trivial | refine And.intro ⟨_, rfl, SV.imp_refl _⟩ ?_)) ⟨⟨_, rfl, imp_app1 (x := c.txs.getD i GTx.z) (take_succ_getD hi) rfl⟩, (by repeat (first | exact trivial | refine And.intro ⟨_, rfl, Ch.imp_refl _⟩ ?_))⟩
  have hi : i = c.txs.length := by omega
  subst hi
  rw [List.take_length]
  refine T_auto TT_ok rfl ?_
  refine T_ret TT_ok (()) [(2, some 32)] rfl rfl ?_ ?_ ?_
  · exact SVs.imp_refl _
  · exact ⟨⟨_, rfl, Ch.imp_refl _⟩, ⟨_, rfl, Ch.imp_refl _⟩, ⟨_, rfl, Ch.imp_refl _⟩, trivial⟩
  · trivial
end Go.Proofs.YtpfcfepbhdkpdaaGreat
