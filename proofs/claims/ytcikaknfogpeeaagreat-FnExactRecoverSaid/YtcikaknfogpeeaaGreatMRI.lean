/-
  Part I of what the claim leans on: memory, data, walks through the program, plain laws.
-/
import Derived.Test.YtcikaknfogpeeaaGreatMRH
namespace Go.Proofs.YtcikaknfogpeeaaGreat
open Go Go.RowKit
set_option linter.unusedVariables false
set_option linter.unusedSimpArgs false
set_option maxRecDepth 4000
abbrev cAt (x : GCopyAt) : List D := [dI x.region, dI x.machine, dB x.backup]
abbrev clk (c : GCluster) (n : Int) : GCluster := { c with clock := n }
theorem wantsK_m (t : GTx) (hl : t.sets.length ≤ 1048576) : MkL Tryz.prog 155 [vP (cTx t)] 1 cInt 0 (wantsL t) := wants_m t hl
theorem copies_k (c : GCluster) (hok : ClusOk c) (t : GTx) (ht : TxIn c t) (n : Int) (b : Bool) :
    Con Tryz.prog 157 [900, 901] [.a (.p 900 0), vP (cTx t), vB b] [(900, .rrow (rowC (clk c n) 901 902 903)), (901, roC 1 cPlace GPlace.z c.places)] (fun _ : Unit => True) (fun _ => [.a (.g 910)]) fun _ => [(910, arrC 3 cAt GCopyAt.z (copiesP c t b))] := by
  have hw := wants_le ht.ok
  have hs := ht.ok.1.2.2.2.2.2.2
  refine con_enter Tryz.func157 rfl rfl rfl fun B0 r_ D_ w0 => ?_
  refine T_auto TT_ok rfl ?_
  refine RJ_C TT_ok (Con.sw 900 13 (wantsK_m t (by omega))) rfl rfl (SVs.imp_refl _) (fun _ => rfl) rfl rfl rfl fun _ _ => ?_
  refine RJ_auto TT_ok rfl ?_
  refine T_view (V_nil 7 40 3 (fun i => cAt (([] : List GCopyAt).getD i GCopyAt.z)) rfl rfl rfl rfl) ?_
  refine T_loopA (ι := Nat) (fun k => [(15, vI k), (7, .a (.g 40))]) (fun k => [(40, arrC 3 cAt GCopyAt.z (copN c (wantsL t) b k))]) (fun k => k ≤ (wantsL t).length) (fun k => (wantsL t).length - k) 0 [40] [40] rfl rfl (Nat.zero_le _) (by repeat (first | exact trivial | refine And.intro ⟨_, rfl, SV.imp_refl _⟩ ?_)) (by repeat (first | exact trivial | refine And.intro ⟨_, rfl, Ch.imp_refl _⟩ ?_)) ?_
  intro k h1
  refine T_auto TT_ok rfl ?_
  refine T_condD rfl (fun e => ?_) (fun e => ?_)
  · have hk : k < (wantsL t).length := by omega
    have hr := wants_in ht hk
    have hp := place_le hok hr
    have hc := copN_le hok (fun k hk => wants_in ht hk) (b := b) (k := k) (by omega)
    refine T_auto TT_ok rfl ?_
    refine T_loopA (ι := Nat) (fun i => [(28, vI i), (7, .a (.g 40))]) (fun i => [(40, arrC 3 cAt GCopyAt.z (copN c (wantsL t) b k ++ rowP b ((wantsL t).getD k 0) (placeM c ((wantsL t).getD k 0)) i))]) (fun i => i ≤ (placeM c ((wantsL t).getD k 0)).length) (fun i => (placeM c ((wantsL t).getD k 0)).length - i) 0 [40] [40] rfl rfl (Nat.zero_le _) (by repeat (first | exact trivial | refine And.intro ⟨_, rfl, SV.imp_refl _⟩ ?_)) ⟨⟨_, rfl, imp_list (by simp [rowP])⟩, (by repeat (first | exact trivial | refine And.intro ⟨_, rfl, Ch.imp_refl _⟩ ?_))⟩ ?_
    intro i h2
    have hrl := rowP_le (b := b) (r := (wantsL t).getD k 0) (ms := placeM c ((wantsL t).getD k 0)) (i := i)
    refine T_auto TT_ok rfl ?_
    refine T_condD rfl (fun e2 => ?_) (fun e2 => ?_)
    · simp only [Int.toNat_natCast] at e2
      have e2 : (i : Int) < (placeM c ((wantsL t).getD k 0)).length := e2
      have hi : i < (placeM c ((wantsL t).getD k 0)).length := by omega
      refine T_auto TT_ok rfl ?_
      refine T_cond (b := bif decide ((i : Int) > 0) then true else !b) rfl (fun e3 => ?_) (fun e3 => ?_)
      · refine T_auto TT_ok rfl ?_
        refine RJ_bs TT_ok 45 (fun _ => cAt ⟨(wantsL t).getD k 0, (placeM c ((wantsL t).getD k 0)).getD i 0, decide ((i : Int) > 0)⟩) rfl rfl rfl rfl rfl rfl rfl (fun i hi => by rcases i with _ | i <;> first | rfl | omega) (mu1 := []) rfl rfl rfl ?_
        refine RJ_auto TT_ok rfl ?_
        refine RJ_appM TT_ok 40 45 46 rfl rfl rfl rfl rfl rfl rfl rfl rfl rfl rfl rfl ⟨by show ((copN c (wantsL t) b k ++ rowP b ((wantsL t).getD k 0) (placeM c ((wantsL t).getD k 0)) i).length + 1) * 24 ≤ _; rw [List.length_append]; omega, by rw [List.length_append]; unfold maxL; omega⟩ ?_
        refine RJ_auto TT_ok rfl ?_
        refine X_view (V_sw 40 46) ?_
        exact X_inv (i + 1) hi (by omega) (by repeat (first | exact trivial | refine And.intro ⟨_, rfl, SV.imp_refl _⟩ ?_)) ⟨⟨_, rfl, imp_app1 (x := (⟨(wantsL t).getD k 0, (placeM c ((wantsL t).getD k 0)).getD i 0, decide ((i : Int) > 0)⟩ : GCopyAt)) (by rw [rowP, e3, cond_true, List.append_assoc]) rfl⟩, (by repeat (first | exact trivial | refine And.intro ⟨_, rfl, Ch.imp_refl _⟩ ?_))⟩
      · refine T_auto TT_ok rfl ?_
        exact X_inv (i + 1) hi (by omega) (by repeat (first | exact trivial | refine And.intro ⟨_, rfl, SV.imp_refl _⟩ ?_)) ⟨⟨_, rfl, imp_list (by rw [rowP, e3]; rfl)⟩, (by repeat (first | exact trivial | refine And.intro ⟨_, rfl, Ch.imp_refl _⟩ ?_))⟩
    · simp only [Int.toNat_natCast] at e2
      have e2 : ¬ (i : Int) < (placeM c ((wantsL t).getD k 0)).length := e2
      have hi : i = (placeM c ((wantsL t).getD k 0)).length := by omega
      subst hi
      refine T_auto TT_ok rfl ?_
      exact X_inv (k + 1) hk (by omega) (by repeat (first | exact trivial | refine And.intro ⟨_, rfl, SV.imp_refl _⟩ ?_)) ⟨⟨_, rfl, imp_list (by rw [copN])⟩, (by repeat (first | exact trivial | refine And.intro ⟨_, rfl, Ch.imp_refl _⟩ ?_))⟩
  · have hk : k = (wantsL t).length := by omega
    subst hk
    refine T_auto TT_ok rfl ?_
    refine T_view (V_sw 40 910) ?_
    refine T_ret TT_ok (()) [(6, none)] rfl rfl ?_ ?_ ?_
    · exact SVs.imp_refl _
    · exact ⟨⟨_, rfl, Ch.imp_refl _⟩, trivial⟩
    · trivial
end Go.Proofs.YtcikaknfogpeeaaGreat
namespace Go.Proofs.YtcikaknfogpeeaaGreat
open Go Go.RowKit
set_option linter.unusedVariables false
set_option linter.unusedSimpArgs false
set_option maxRecDepth 4000
section
variable {E : Env} {B : BE} {mu mu' : Mu} {w : World} {H : Nat → PH} {TT : List TI} {fr fr' : Fr} {gf gf' : GF} {a : Act} {all rest : List Oper} {Q : Exit → Act → World → Prop} {o : Oper} {J : Act → World → Prop} {G : AG}
end
abbrev mOf (c : GCluster) (i : Int) : GMachine := c.machines.getD i.toNat GMachine.z
end Go.Proofs.YtcikaknfogpeeaaGreat
namespace Go.Proofs.YtcikaknfogpeeaaGreat
open Go Go.RowKit
set_option linter.unusedVariables false
set_option linter.unusedSimpArgs false
set_option maxRecDepth 4000
theorem set_self {α : Type} {z : α} {xs : List α} {i : Nat} (h : i < xs.length) : xs.set i (xs.getD i z) = xs := by
  rw [show xs.getD i z = xs[i] from by simp [h]]
  exact List.set_getElem_self h
abbrev putX (m : GMachine) (r : Int) (xs : List GCell) : GCopy := ⟨(m.copies.getD (copyI m r).toNat GCopy.z).region, xs⟩
end Go.Proofs.YtcikaknfogpeeaaGreat
namespace Go.Proofs.YtcikaknfogpeeaaGreat
open Go Go.RowKit
set_option linter.unusedVariables false
set_option linter.unusedSimpArgs false
set_option maxRecDepth 4000
theorem getD_map' {α β : Type} {za : α} {zb : β} (f : α → β) {xs : List α} {i : Nat} (h : i < xs.length) : (xs.map f).getD i zb = f (xs.getD i za) := by
  simp [List.getD_eq_getElem?_getD, h]
section
variable {t : GTx} {x : GCopyAt} {n : GNote} {m : GMachine}
theorem setCells_self {r : Int} (h : hasB m r = true) : setCells m r (cellsOf m r) = m := by
  have hi := idxI_in (z := GCopy.z) ((any_idx (z := GCopy.z)).2 (show m.copies.any (atB r) = true from h))
  unfold setCells
  rw [cellsOf_has h]
  have := set_self (z := GCopy.z) hi.1
  rw [show (⟨(m.copies.getD (idxI (atB r) m.copies).toNat GCopy.z).region, (m.copies.getD (idxI (atB r) m.copies).toNat GCopy.z).cells⟩ : GCopy) = m.copies.getD (idxI (atB r) m.copies).toNat GCopy.z from rfl, this]
end
end Go.Proofs.YtcikaknfogpeeaaGreat
namespace Go.Proofs.YtcikaknfogpeeaaGreat
open Go Go.RowKit
set_option linter.unusedVariables false
set_option linter.unusedSimpArgs false
set_option maxRecDepth 4000
theorem clusOk_bd {c : GCluster} (h : ClusOk c) : D.bds bigN (cCluster c) := bd_Cluster c (by have := clusOk_w0 h; unfold bigN; omega)
section
variable {E : Env} {mu : Mu} {TT : List TI} {fr : Fr} {gf gf' : GF} {all rest : List Oper} {Q : Exit → Act → World → Prop} {o : Oper}
end
end Go.Proofs.YtcikaknfogpeeaaGreat
namespace Go.Proofs.YtcikaknfogpeeaaGreat
open Go Go.RowKit
set_option linter.unusedVariables false
set_option linter.unusedSimpArgs false
section
variable {E : Env} {mu mu' : Mu} {TT : List TI} {fr fr' : Fr} {gf gf' : GF} {all : List Oper} {R : Exit → Act → World → Prop} {K : List KF} {G : AG} {Q : Exit → Act → World → Prop}
def DP (G : AG) (E : Env) (all : List Oper) (Q : Exit → Act → World → Prop) (n : Nat) (tk : List Nat) (fr : Fr) (gf : GF) (mu : Mu) : Prop :=
  ∀ B a w H, FitsE E B H fr gf a → Mem E B mu w H → Sr G E.r w → Lw E.P all.toArray Q (Sr G E.r) n (mk all.toArray.size tk) a w
theorem DJ_dp {n : Nat} {tk : List Nat} (h : DP G E all Q n tk fr gf mu) : DJ G E all Q n tk fr gf mu := fun B a w H f m gg => h B a w H f m (m.sr gg)
theorem DP_view {n : Nat} {tk : List Nat} (v : View E fr gf mu fr' gf' mu') (h : DP G E all Q n tk fr' gf' mu') : DP G E all Q n tk fr gf mu := fun B a w H f m s => by
  obtain ⟨B', H', f', m'⟩ := v B w H a f m
  exact h B' a w H' f' m' s
theorem DP_op (hT : TOk E.P TT) (i : Nat) {n : Nat} {tk : List Nat} {o : Oper} {t : Nat} {x : SV} {q : Ob} {es : List Prop} {gs : List GO} (hi : nth all i = some o) (hp : pst TT fr gf mu [] o.op = some (x, q)) (hs : splitO fr gf [] q [] [] = some (es, gs)) (hgd : gdrop t gf = some gf')
    (k : DP G E all Q n (i :: tk) ((t, x) :: fr) gf' mu) (hg : o.guard = none := by exact rfl) (hd : o.dst = some t := by exact rfl) (ht : Nat.blt t E.N = true := by exact rfl) (hB : oneB all.toArray tk i = true := by kernel_rfl) (he : PAlls es := by repeat (first | exact trivial | refine And.intro rfl ?_)) (ho : GAlls gs := by first | exact trivial | ((simp only [GAlls, GO.p, InR]; (repeat' (first | exact trivial | refine And.intro ?_ ?_ | refine fun _ => ?_)) <;> first | omega | (simp only [decide_eq_true_eq, decide_eq_false_iff_not, Int.toNat_natCast] at *; omega) | (simp at *; omega)))) : DP G E all Q (n + 1) tk fr gf mu := fun B a w H f m s w2 hb => by
  have hr := oneB_spec hB
  have hi' : all.toArray[i]? = some o := by rw [nth_eq] at hi; simpa using hi
  refine ⟨fun h0 => (by rw [hr] at h0; cases h0), fun j hj => ?_⟩
  rw [hr] at hj
  obtain rfl := List.mem_singleton.1 hj
  have m2 := m.below hb
  obtain ⟨v, r1, r2⟩ := pst_ok hT f m2.mr.ms (g := []) (fun _ _ hm => by cases hm) hp (splitO_ok f (fun _ _ hm => by cases hm) hs he ho)
  unfold wpOp
  rw [hi', mk_set]
  refine one_val (wanted_none hg) (r1 w2 m2.mr.fw) ?_
  rw [hd]
  exact ⟨_, .inl rfl, s.up hb, k B _ w2 H (Fits.put f (by simpa [Nat.blt_eq] using ht) r2 hgd) m2 (s.up hb)⟩
theorem DP_end {n : Nat} {tk : List Nat} (hr : (Region.ready .any all.toArray (mk all.toArray.size tk)).isEmpty = true) (h : X E R (nxN K) fr mu) : DP G E all (KQ E.P R K) n tk fr gf mu := fun B a w H f m _ => by
  have hr' : Region.ready .any all.toArray (mk all.toArray.size tk) = [] := by simpa using hr
  have hq := fun w' hb => nxN_ok (h B a w' H (Fits.ungf f) (m.below hb))
  cases n with
  | zero => exact fun w' hb => ⟨hr', hq w' hb⟩
  | succ n => exact fun w' hb => ⟨fun _ => hq w' hb, fun i hi => by rw [hr'] at hi; cases hi⟩
theorem DP_endA (hT : TOk E.P TT) {n : Nat} {tk : List Nat} {js : JS} {es : List Prop} {gs : List GO} (ha : goNx (auto TT E.N E.A.ks 400) (nxN K) fr mu [] [] = some (js, es, gs)) (k : js.ok E R) (hr : (Region.ready .any all.toArray (mk all.toArray.size tk)).isEmpty = true := by kernel_rfl)
    (he : PAlls es := by repeat (first | exact trivial | refine And.intro rfl ?_)) (ho : GAlls gs := by first | exact trivial | ((simp only [GAlls, GO.p, InR]; (repeat' (first | exact trivial | refine And.intro ?_ ?_ | refine fun _ => ?_)) <;> first | omega | (simp only [decide_eq_true_eq, decide_eq_false_iff_not, Int.toNat_natCast] at *; omega) | (simp at *; omega)))) : DP G E all (KQ E.P R K) n tk fr gf mu := DP_end hr ((goNx_ok (auto_ok hT 400) ha ⟨he, ho⟩).2 k)
end
section
variable {E : Env} {mu : Mu} {fr : Fr} {gf : GF} {all : List Oper} {G : AG} {Q : Exit → Act → World → Prop} {B : BE} {w : World} {H : Nat → PH} {a : Act}
theorem Mem.name (m : Mem E B mu w H) {k : Nat} (v : Value) (h1 : muAny (V.uses k) k mu = false) (h2 : hasK k E.A.ks = false) (h3 : mlk k mu = none) : Mem E (BE.set B k v) mu w H := by
  refine ⟨⟨fun j d e => ?_, m.mm.fit, m.mm.dj, m.mm.djr, m.mm.fitr⟩, m.keep, m.dom, fun j hj => ?_⟩
  · have hj : j ≠ k := fun e2 => by subst e2; rw [h3] at e; cases e
    exact Ch.sat_setB v hj (muAny_get (muAny_mono (fun x hx => (uses_out hx).1) h1) j d hj e) (m.mm.sat j d e)
  · have : j ≠ k := fun e => by rw [e, h2] at hj; cases hj
    rw [BE.set_ne B v this]; exact m.anch j hj
theorem FitsE.name (f : FitsE E B H fr gf a) {k : Nat} (v : Value) (h1 : frAny (V.uses k) fr = false) (h2 : gfAny (V.uses k) gf = false) : FitsE E (BE.set B k v) H fr gf a :=
  Fits.keep f h1 h2 (PH.le_refl _) fun _ _ hx e => V.rel_setB v (uses_out hx).1 e
end
end Go.Proofs.YtcikaknfogpeeaaGreat
namespace Go.Proofs.YtcikaknfogpeeaaGreat
open Go Go.RowKit
set_option linter.unusedVariables false
set_option linter.unusedSimpArgs false
set_option maxRecDepth 4000
theorem l6Replace_k (m : GMachine) (hl : m.copies.length ≤ 1048576) (hl2 : m.log.length ≤ 1048576) (hl3 : m.cleared.length ≤ 1048576) (r : Int) (hh : hasB m r = true) (xs : List GCell) :
    Con Tryz.prog 47 [900, 901, 902, 903, 905] [.a (.p 900 0), vI r, .a (.g 905)] [(900, .rrow (rowM m 901 902 903)), (901, arrC 2 cCopy GCopy.z m.copies), (902, .ro 4 m.log.length fun i => cRecord (m.log.getD i GRecord.z)), (903, .ro 1 m.cleared.length fun i => cInt (m.cleared.getD i 0)), (905, arrC 2 cCell GCell.z xs)]
      (fun _ : Unit => True) (fun _ => []) fun _ => [(901, arrC 2 cCopy GCopy.z (setCells m r xs).copies)] := by
  have hix := idxI_in (z := GCopy.z) ((any_idx (z := GCopy.z)).2 (show m.copies.any (atB r) = true from hh))
  have hix2 : 0 ≤ copyI m r ∧ copyI m r < m.copies.length := ⟨(any_idx (z := GCopy.z)).2 hh, by have := hix.1; have := (any_idx (z := GCopy.z)).2 hh; show idxI (atB r) m.copies < _; omega⟩
  refine con_enter Tryz.func47 rfl rfl rfl fun B0 r_ D_ w0 => ?_
  refine T_auto TT_ok rfl ?_
  refine RJ_Q TT_ok (l6At_q m hl r) rfl rfl rfl rfl rfl ?_
  refine T_condD rfl (fun e => ?_) (fun e => absurd hix2.1 e)
  refine T_view (V_carve 901 (copyI m r) 64 rfl rfl rfl rfl rfl rfl hix2) ?_
  refine T_view (V_open 64 1 65 rfl rfl rfl rfl rfl rfl) ?_
  refine T_auto TT_ok rfl ?_
  refine RJ_view (V_pe 23 rfl rfl rfl) ?_
  refine RJ_auto TT_ok rfl ?_
  refine T_view (V_fold 64 1 905 rfl rfl rfl rfl rfl rfl rfl) ?_
  refine T_view (V_uncarve 901 64 rfl rfl rfl rfl rfl rfl rfl) ?_
  refine T_ret TT_ok (()) [] rfl rfl ?_ ?_ ?_
  · exact SVs.imp_refl _
  · exact ⟨⟨_, rfl, imp_set (y := putX m r xs) (OwnI.refl _)⟩, trivial⟩
  · trivial
theorem l6Logged_k (al : Bool) (log : List GRecord) (hl : log.length ≤ 1048576) (tx r0 kind : Int) :
    Con Tryz.prog 65 [901, 902, 903] [.ag [.v (.bool al), .g 901, .g 902, .g 903], vI tx, vI r0, vI kind] [(902, .ro 4 log.length fun i => cRecord (log.getD i GRecord.z))] (fun _ : Unit => True) (fun _ => [vI (idxI (atLog tx r0 kind) log)]) fun _ => [] := by
  refine con_enter Tryz.func65 rfl rfl rfl fun B0 r_ D_ w0 => ?_
  refine T_auto TT_ok rfl ?_
  refine T_loopA (ι := Nat) (fun i => [(9, vI i)]) (fun _ => []) (fun i => i ≤ log.length ∧ ∀ j, j < i → atLog tx r0 kind (log.getD j GRecord.z) = false) (fun i => log.length - i) 0 [] [] rfl rfl ⟨Nat.zero_le _, fun j hj => absurd hj (Nat.not_lt_zero _)⟩ (by repeat (first | exact trivial | refine And.intro ⟨_, rfl, SV.imp_refl _⟩ ?_)) (by repeat (first | exact trivial | refine And.intro ⟨_, rfl, Ch.imp_refl _⟩ ?_)) ?_
  intro i ⟨h1, h2⟩
  refine T_auto TT_ok rfl ?_
  refine T_condD rfl (fun e => ?_) (fun e => ?_)
  · have hi : i < log.length := by omega
    refine T_auto TT_ok rfl ?_
    refine T_cond rfl (fun e2 => ?_) (fun e2 => ?_)
    · refine T_auto TT_ok rfl ?_
      refine T_ret TT_ok (()) [(8, none)] rfl rfl ?_ ?_ ?_
      · exact SVs.cons (SV.imp_of (vI_eq (idxI_at (p := atLog tx r0 kind) hi h2 e2).symm)) rfl
      · trivial
      · trivial
    · refine T_auto TT_ok rfl ?_
      exact X_inv (i + 1) ⟨hi, before_succ h2 e2⟩ (by omega) (by repeat (first | exact trivial | refine And.intro ⟨_, rfl, SV.imp_refl _⟩ ?_)) (by repeat (first | exact trivial | refine And.intro ⟨_, rfl, Ch.imp_refl _⟩ ?_))
  · refine T_auto TT_ok rfl ?_
    refine T_ret TT_ok (()) [(8, none)] rfl rfl ?_ ?_ ?_
    · exact SVs.cons (SV.imp_of (vI_eq (idxI_no fun j hj => h2 j (by omega)).symm)) rfl
    · trivial
    · trivial
end Go.Proofs.YtcikaknfogpeeaaGreat
namespace Go.Proofs.YtcikaknfogpeeaaGreat
open Go Go.RowKit
set_option linter.unusedVariables false
set_option linter.unusedSimpArgs false
set_option maxRecDepth 4000
abbrev cwt (c : GCluster) (n : Int) (ms : List GMachine) (ts : List GTx) : GCluster := { c with clock := n, machines := ms, txs := ts }
theorem l7WantsK_m {t : GTx} (h : TxOk t) : MkL Tryz.prog 112 [vR (cTx t)] 1 cInt 0 (wantsL t) := by
  have hs := h.1.2.2.2.2.2.2
  have := l7Wants_m t (by omega)
  rw [wants_eq h] at this
  exact this
end Go.Proofs.YtcikaknfogpeeaaGreat
namespace Go.Proofs.YtcikaknfogpeeaaGreat
open Go Go.RowKit
set_option linter.unusedVariables false
set_option linter.unusedSimpArgs false
set_option maxRecDepth 4000
def aliveL (c : GCluster) : List Bool := c.machines.map GMachine.alive
def livesB (al : List Bool) (m : Int) : Bool := bif decide (m < (al.length : Int)) then al.getD m.toNat false else false
def fillN (al : List Bool) (next : List Int) : Nat → List Int
  | 0 => next
  | m + 1 => bif (bif (bif al.getD m false then decide (((fillN al next m).length : Int) < 3) else false) then !decide ((m : Int) ∈ fillN al next m) else false) then fillN al next m ++ [(m : Int)] else fillN al next m
def keepP (al : List Bool) (p : GPlace) : List Int := p.machines.filter (livesB al)
def remP (al : List Bool) (p : GPlace) : GPlace := if (keepP al p).length = 0 then ⟨p.machines⟩ else ⟨fillN al (keepP al p) al.length⟩
def lostN (al : List Bool) (ps : List GPlace) : Nat → List Int
  | 0 => []
  | r + 1 => if (keepP al (ps.getD r GPlace.z)).length = 0 then lostN al ps r ++ [(r : Int)] else lostN al ps r
theorem fillN_full {al : List Bool} {next : List Int} {k : Nat} (h : 3 ≤ (fillN al next k).length) : ∀ j, fillN al next (k + j) = fillN al next k
  | 0 => rfl
  | j + 1 => by
    have ih := fillN_full h j
    rw [show k + (j + 1) = (k + j) + 1 from rfl, fillN, ih, decide_eq_false (show ¬ ((fillN al next k).length : Int) < 3 by omega)]
    cases al.getD (k + j) false <;> rfl
theorem fillN_le {al : List Bool} {next : List Int} (h : next.length ≤ 3) : ∀ k, (fillN al next k).length ≤ 3
  | 0 => h
  | k + 1 => by
    have ih := fillN_le h k (al := al)
    rw [fillN]
    by_cases c : ((fillN al next k).length : Int) < 3
    · cases (bif (bif al.getD k false then decide (((fillN al next k).length : Int) < 3) else false) then !decide ((k : Int) ∈ fillN al next k) else false) with
      | true => simp only [cond_true, List.length_append, List.length_singleton]; omega
      | false => exact ih
    · rw [decide_eq_false c]
      cases al.getD k false <;> exact ih
def votesL (c : GCluster) (t : GTx) : List Int := (wantsL t).map fun r => voteN c t.id r (placeM c r).length
def decideB (vs : List Int) : Bool := vs.any (· == 4) || (vs.any (· == 3) && vs.all (fun v => decide (2 ≤ v)) )
def endM (d : Bool) (t : GTx) (r : Int) (m : GMachine) : GMachine :=
  bif !m.alive then m
  else clearL (bif d then setCells m r (instL (cellsOf m r) (setsAt r t.sets)) else if 0 ≤ logI m t.id r 1 then setCells m r (unlkL (cellsOf m r) (setsAt r t.sets)) else m) t.id r
def endF (d : Bool) (t : GTx) (ms : List GMachine) (x : GCopyAt) : List GMachine := ms.set x.machine.toNat (endM d t x.region (ms.getD x.machine.toNat GMachine.z))
def endT (d : Bool) (t : GTx) : GTx := { t with phase := (bif d then 7 else 9), done := 0 }
theorem endM_ok {d : Bool} {t : GTx} (ht : TxOk t) {r : Int} {m : GMachine} (hm : MachOk m) (hh : m.alive = true → hasB m r = true) : MachOk (endM d t r m) ∧ (endM d t r m).alive = m.alive ∧ ∀ q, hasB (endM d t r m) q = hasB m q := by
  unfold endM
  cases ha : m.alive with
  | false => exact ⟨hm, ha, fun _ => rfl⟩
  | true =>
    have hc := (cellsOf_len hm (hh ha)).2
    have s1 := (setsAt_ok ht r).1
    have cl : ∀ {x : GMachine}, MachOk x → MachOk (clearL x t.id r) := fun {x} h => clearR_ok (d := false) h ht.1.1 fun e => by cases e
    simp only [Bool.not_true, cond_false]
    cases d with
    | true => exact ⟨cl (setCells_ok hm (instL_ok hc s1)), ha, fun q => setCells_has _ _ _ _⟩
    | false =>
      simp only [cond_false]
      split
      · exact ⟨cl (setCells_ok hm (unlkL_ok hc s1)), ha, fun q => setCells_has _ _ _ _⟩
      · exact ⟨cl hm, ha, fun _ => rfl⟩
structure Like (ms ns : List GMachine) : Prop where
  len : ns.length = ms.length
  ok : ∀ j, j < ns.length → MachOk (ns.getD j GMachine.z) ∧ (ns.getD j GMachine.z).alive = (ms.getD j GMachine.z).alive ∧ ∀ q, hasB (ns.getD j GMachine.z) q = hasB (ms.getD j GMachine.z) q
theorem endF_like {c : GCluster} (hok : ClusOk c) {d : Bool} {t : GTx} (ht : TxOk t) {ms : List GMachine} (h : Like c.machines ms) {x : GCopyAt} (hx : AtIn c x) : Like c.machines (endF d t ms x) := by
  obtain ⟨j, h2, h3, h4⟩ := hx.at'
  have h5 := hok.at (r := x.region.toNat) (k := j) (by have := hx.region; omega) h2
  rw [← h3, Int.toNat_of_nonneg hx.region.1] at h5
  have h6 := h5.2
  unfold machAt at h6
  rw [← h3] at h6
  have hlt : x.machine.toNat < ms.length := by rw [h.len]; omega
  obtain ⟨g1, g2, g3⟩ := h.ok _ hlt
  obtain ⟨q1, q2, q3⟩ := endM_ok (d := d) ht (r := x.region) g1 (fun e => by rw [g3]; exact h6 (g2 ▸ e))
  refine ⟨by unfold endF; rw [List.length_set]; exact h.len, fun k hk => ?_⟩
  unfold endF at hk ⊢
  rw [List.length_set] at hk
  rw [set_get hlt]
  split
  · rename_i e; subst e; exact ⟨q1, q2.trans g2, fun q => (q3 q).trans (g3 q)⟩
  · exact h.ok k hk
theorem Like.refl {c : GCluster} (hok : ClusOk c) : Like c.machines c.machines := ⟨rfl, fun j hj => ⟨hok.2.2.1 j hj, rfl, fun _ => rfl⟩⟩
theorem ends_like {c : GCluster} (hok : ClusOk c) {d : Bool} {t : GTx} (ht : TxOk t) : ∀ {xs : List GCopyAt} {ms : List GMachine}, (∀ x ∈ xs, AtIn c x) → Like c.machines ms → Like c.machines (xs.foldl (endF d t) ms)
  | [], _, _, h => h
  | x :: r, ms, hx, h => by
    rw [List.foldl_cons]
    exact ends_like hok ht (fun y hy => hx y (by simp [hy])) (endF_like hok ht h (hx x (by simp)))
def decideD (c : GCluster) (t : GTx) : Bool := bif t.phase != 8 then (bif t.phase != 1 then decideB (votesL c t) else false) else false
def resC (d : GCluster) (i : Nat) : GCluster := { d with machines := (copiesP d (d.txs.getD i GTx.z) false).foldl (endF (decideD d (d.txs.getD i GTx.z)) (d.txs.getD i GTx.z)) d.machines, txs := d.txs.set i (endT (decideD d (d.txs.getD i GTx.z)) (d.txs.getD i GTx.z)) }
def recN (c : GCluster) : Nat → GCluster
  | 0 => c
  | i + 1 => if strB c (c.txs.getD i GTx.z) = true then resC (recN c i) i else recN c i
def cmpR (r : Int) (x : GCopy) : Int := x.region - r
noncomputable def replM (m : GMachine) (r : Int) (xs : List GCell) : GMachine :=
  if hasB m r = true then setCells m r xs else { m with copies := insL (posA (cmpR r) GCopy.z m.copies) ⟨r, xs⟩ m.copies }
noncomputable def newAt (old l : List Int) (r : Int) (xs : List GCell) : Nat → List GMachine → List GMachine
  | 0, ms => ms
  | k + 1, ms => if l.getD k 0 ∈ old then newAt old l r xs k ms else (newAt old l r xs k ms).set (l.getD k 0).toNat (replM ((newAt old l r xs k ms).getD (l.getD k 0).toNat GMachine.z) r xs)
noncomputable def newN (ps qs : List GPlace) : Nat → List GMachine → List GMachine
  | 0, ms => ms
  | r + 1, ms => newAt (ps.getD r GPlace.z).machines (qs.getD r GPlace.z).machines (r : Int) (cellsOf ((newN ps qs r ms).getD ((qs.getD r GPlace.z).machines.getD 0 0).toNat GMachine.z) (r : Int)) (qs.getD r GPlace.z).machines.length (newN ps qs r ms)
abbrev placesN (c : GCluster) : List GPlace := c.places.map (remP (aliveL c))
open Classical in
noncomputable def recoverM (c : GCluster) : GCluster :=
  if ClusOk c ∧ c.config ≠ 1000000 then
    (if (lostN (aliveL c) c.places c.places.length).length > 0 then { c with lost := true }
     else { recN c c.txs.length with machines := newN c.places (placesN c) c.places.length (recN c c.txs.length).machines, places := placesN c, config := c.config + 1 })
  else GCluster.z
structure RecIn (c d : GCluster) (i : Nat) : Prop where
  like : Like c.machines d.machines
  config : d.config = c.config
  clock : d.clock = c.clock
  places : d.places = c.places
  lost : d.lost = c.lost
  len : d.txs.length = c.txs.length
  rest : ∀ j, i ≤ j → d.txs.getD j GTx.z = c.txs.getD j GTx.z
  txs : ∀ j, j < c.txs.length → Same (c.txs.getD j GTx.z) (d.txs.getD j GTx.z) ∧ (1 ≤ (d.txs.getD j GTx.z).phase ∧ (d.txs.getD j GTx.z).phase ≤ 9) ∧ (0 ≤ (d.txs.getD j GTx.z).done ∧ (d.txs.getD j GTx.z).done ≤ 1000) ∧ (d.txs.getD j GTx.z).stamp = (c.txs.getD j GTx.z).stamp
theorem copiesP_places {c d : GCluster} (h : d.places = c.places) (t : GTx) (b : Bool) : copiesP d t b = copiesP c t b := by
  have : ∀ (ws : List Int) k, copN d ws b k = copN c ws b k := fun ws k => by
    induction k with
    | zero => rfl
    | succ k ih => rw [copN, copN, ih]; unfold placeM; rw [h]
  exact this _ _
theorem copiesP_in {c : GCluster} {t : GTx} (ht : TxIn c t) {b : Bool} : ∀ x ∈ copiesP c t b, AtIn c x := fun _ h => copN_in (fun _ hk => wants_in ht hk) (Nat.le_refl _) h
theorem RecIn.ok {c d : GCluster} {i : Nat} (hok : ClusOk c) (h : RecIn c d i) : ClusOk d := by
  refine ⟨⟨by rw [h.config]; exact hok.1.1, by rw [h.clock]; exact hok.1.2.1, by rw [h.like.len]; exact hok.1.2.2.1, by rw [h.len]; exact hok.1.2.2.2⟩, by rw [h.places]; exact hok.2.1, fun j hj => (h.like.ok j hj).1, fun r hr k hk => ?_, fun j hj => ?_⟩
  · rw [h.places] at hr hk
    have g := hok.2.2.2.1 r hr k hk
    unfold badAt at g ⊢
    have e1 : mAt d r k = mAt c r k := by unfold mAt; rw [h.places]
    rw [e1, h.like.len]
    by_cases c1 : mAt c r k ≥ (c.machines.length : Int)
    · rw [decide_eq_true c1] at g; cases g
    · have c2 := (hok.at hr hk).1
      obtain ⟨_, q2, q3⟩ := h.like.ok (mAt c r k).toNat (by rw [h.like.len]; omega)
      rw [q2, q3]; exact g
  · rw [h.len] at hj
    have g := hok.2.2.2.2 j hj
    obtain ⟨hs, hp, hd, hst⟩ := h.txs j hj
    obtain ⟨k1, k2, k3⟩ := hok.tx hj
    rw [h.places]
    refine ⟨?_, by rw [hs.reads]; exact g.2.1, by rw [hs.sets]; exact g.2.2⟩
    have g1 := g.1
    unfold badTx at g1 ⊢
    rw [h.like.len, h.clock]
    obtain ⟨g2, g3⟩ := bif_or_false.1 g1
    obtain ⟨g4, g5⟩ := bif_or_false.1 g2
    obtain ⟨g6, g7⟩ := bif_or_false.1 g4
    refine bif_or_false.2 ⟨bif_or_false.2 ⟨bif_or_false.2 ⟨?_, ?_⟩, by rw [hs.home]; exact g5⟩, by rw [hst]; exact g3⟩
    · have ht : TxOk (d.txs.getD j GTx.z) := by
        unfold TxOk headOk
        rw [hs.id, hs.home, hs.reads, hs.sets, hst]
        exact ⟨⟨k1.1, k1.2.1, hp, hd, k1.2.2.2.2.1, k1.2.2.2.2.2⟩, k2, k3⟩
      rw [dec_true ht]; rfl
    · rw [hs.id]
      by_cases c1 : (j : Int) > 0
      · rw [decide_eq_true c1] at g7 ⊢
        have := (h.txs ((j : Int) - 1).toNat (by omega)).1.id
        rw [this]; exact g7
      · rw [decide_eq_false c1]; rfl
theorem resC_in {c d : GCluster} {i : Nat} (hok : ClusOk c) (hi : i < c.txs.length) (h : RecIn c d i) : RecIn c (resC d i) (i + 1) := by
  have e : d.txs.getD i GTx.z = c.txs.getD i GTx.z := h.rest i (Nat.le_refl _)
  have hin := hok.txIn hi
  unfold resC
  rw [e]
  generalize decideD d (c.txs.getD i GTx.z) = b
  have hlt : i < d.txs.length := by rw [h.len]; exact hi
  refine ⟨?_, h.config, h.clock, h.places, h.lost, by dsimp only; rw [List.length_set]; exact h.len, fun j hj => ?_, fun j hj => ?_⟩
  · dsimp only
    rw [copiesP_places h.places]
    exact ends_like hok hin.ok (copiesP_in hin) h.like
  · dsimp only
    rw [set_get hlt, if_neg (by omega)]
    exact h.rest j (by omega)
  · dsimp only
    rw [set_get hlt]
    split
    · rename_i e2; subst e2
      refine ⟨⟨rfl, rfl, rfl, rfl⟩, ?_, ?_, rfl⟩
      · show 1 ≤ (bif b then (7 : Int) else 9) ∧ (bif b then (7 : Int) else 9) ≤ 9
        cases b <;> decide
      · show (0 : Int) ≤ 0 ∧ (0 : Int) ≤ 1000
        omega
    · exact h.txs j hj
theorem recN_in {c : GCluster} (hok : ClusOk c) : ∀ i, i ≤ c.txs.length → RecIn c (recN c i) i
  | 0, _ => ⟨Like.refl hok, rfl, rfl, rfl, rfl, rfl, fun _ _ => rfl, fun j hj => by
    have := (hok.tx hj).1
    exact ⟨.refl _, this.2.2.1, this.2.2.2.1, rfl⟩⟩
  | i + 1, hi => by
    have ih := recN_in hok i (by omega)
    rw [recN]
    split
    · exact resC_in hok (by omega) ih
    · exact ⟨ih.like, ih.config, ih.clock, ih.places, ih.lost, ih.len, fun j hj => ih.rest j (by omega), ih.txs⟩
end Go.Proofs.YtcikaknfogpeeaaGreat
namespace Go.Proofs.YtcikaknfogpeeaaGreat
open Go Go.RowKit
set_option linter.unusedVariables false
set_option linter.unusedSimpArgs false
set_option maxRecDepth 4000
theorem like_alive {c d : GCluster} (h : Like c.machines d.machines) (j : Nat) : (d.machines.getD j GMachine.z).alive = (c.machines.getD j GMachine.z).alive := by
  by_cases hj : j < d.machines.length
  · exact (h.ok j hj).2.1
  · have h2 : ¬ j < c.machines.length := by rw [← h.len]; exact hj
    simp only [List.getD_eq_getElem?_getD, List.getElem?_eq_none (show d.machines.length ≤ j by omega), List.getElem?_eq_none (show c.machines.length ≤ j by omega)]
theorem like_down {c d : GCluster} (h : Like c.machines d.machines) (hp : d.places = c.places) (r : Nat) : downB d r = downB c r := by
  unfold downB machAt mAt
  rw [hp]
  exact anyN_congr fun k hk => by rw [like_alive h]
theorem like_str {c d : GCluster} (h : Like c.machines d.machines) (hp : d.places = c.places) (t : GTx) : strB d t = strB c t := by
  have h1 : homeB d t = homeB c t := like_alive h _
  unfold strB
  rw [h1]
  simp only [like_down h hp]
end Go.Proofs.YtcikaknfogpeeaaGreat
namespace Go.Proofs.YtcikaknfogpeeaaGreat
open Go Go.RowKit
set_option linter.unusedVariables false
set_option linter.unusedSimpArgs false
set_option maxRecDepth 4000
theorem decide1_q (v : Int) : Ans Tryz.prog 236 [] [vI v] [] (vB (decide (v < 2))) := by
  refine con_enter Tryz.func236 rfl rfl rfl fun B0 r_ D_ w0 => ?_
  refine T_auto TT_ok rfl ?_
  exact T_ansB TT_ok [(2, none)] rfl rfl (rfl)
theorem all_any (vs : List Int) : vs.all (fun v => decide (2 ≤ v)) = !vs.any fun v => decide (v < 2) := by
  induction vs with
  | nil => rfl
  | cons a r ih =>
    rw [List.all_cons, List.any_cons, ih, Bool.not_or]
    congr 1
    by_cases c : a < 2
    · rw [decide_eq_true c, decide_eq_false (by omega)]; rfl
    · rw [decide_eq_false c, decide_eq_true (by omega)]; rfl
theorem any_mem (vs : List Int) (n : Int) : vs.any (· == n) = decide (n ∈ vs) := by
  by_cases c : n ∈ vs
  · rw [decide_eq_true c]; exact List.any_eq_true.2 ⟨n, c, by simp⟩
  · rw [decide_eq_false c]
    cases e : vs.any (· == n) with
    | false => rfl
    | true =>
      obtain ⟨x, h1, h2⟩ := List.any_eq_true.1 e
      have h3 : x = n := by simpa using h2
      exact absurd (h3 ▸ h1) c
theorem decideB_eq (vs : List Int) : decideB vs = bif decide ((4 : Int) ∈ vs) then true else (bif decide ((3 : Int) ∈ vs) then !vs.any (fun v => decide (v < 2)) else false) := by
  unfold decideB
  rw [any_mem, any_mem, all_any]
  cases decide ((4 : Int) ∈ vs) <;> cases decide ((3 : Int) ∈ vs) <;> rfl
theorem impl_decide_q (vs : List Int) (hl : vs.length ≤ 1048576) : Ans Tryz.prog 192 [] [vL 1 cInt 0 vs] [] (vB (decideB vs)) := by
  refine con_enter Tryz.func192 rfl rfl rfl fun B0 r_ D_ w0 => ?_
  refine T_auto TT_ok rfl ?_
  refine RJ_Q TT_ok (contains_Int_q vs hl 4) rfl rfl rfl rfl rfl ?_
  refine RJ_Q TT_ok (contains_Int_q vs hl 3) rfl rfl rfl rfl rfl ?_
  refine RJ_QF TT_ok (containsFuncInt64_p vs hl (fun _ => True) (fun _ _ => trivial) fun v => decide (v < 2)) rfl rfl (SVs.cons (SV.imp_refl _) (SVs.cons (imp_fb (enters_B (by kernel_rfl)) rfl fun args x ⟨n, _, e1, e2⟩ => by subst e1; subst e2; exact decide1_q n) rfl)) rfl rfl ?_
  exact T_ansB TT_ok [(2, none)] rfl rfl ((decideB_eq vs).symm)
def lowN (vs : List Int) : Nat → Int
  | 0 => 4
  | k + 1 => if lowN vs k < vs.getD k 0 then lowN vs k else vs.getD k 0
def highN (vs : List Int) : Nat → Int
  | 0 => 0
  | k + 1 => maxI (highN vs k) (vs.getD k 0)
theorem lowN_ge {vs : List Int} : ∀ {k : Nat}, k ≤ vs.length → (2 ≤ lowN vs k ↔ ∀ j, j < k → 2 ≤ vs.getD j 0)
  | 0, _ => ⟨fun _ j hj => absurd hj (Nat.not_lt_zero _), fun _ => by show (2 : Int) ≤ 4; decide⟩
  | k + 1, h => by
    have ih := lowN_ge (vs := vs) (k := k) (by omega)
    rw [lowN]
    constructor
    · intro h2 j hj
      split at h2
      · by_cases c : j < k
        · exact ih.1 h2 j c
        · have : j = k := by omega
          subst this; omega
      · by_cases c : j < k
        · exact ih.1 (by omega) j c
        · have : j = k := by omega
          subst this; exact h2
    · intro h2
      split
      · exact ih.2 fun j hj => h2 j (by omega)
      · exact h2 k (Nat.lt_succ_self k)
theorem highN_pos {vs : List Int} : ∀ {k : Nat}, k ≤ vs.length → 0 ≤ highN vs k ∧ ∀ j, j < k → vs.getD j 0 ≤ highN vs k
  | 0, _ => ⟨Int.le_refl _, fun j hj => absurd hj (Nat.not_lt_zero _)⟩
  | k + 1, h => by
    obtain ⟨h1, h2⟩ := highN_pos (vs := vs) (k := k) (by omega)
    rw [highN]
    unfold maxI
    refine ⟨by split <;> omega, fun j hj => ?_⟩
    by_cases c : j < k
    · have := h2 j c
      split <;> omega
    · have : j = k := by omega
      subst this
      split <;> omega
theorem decide_low (vs : List Int) : (bif decide ((4 : Int) ∈ vs) then true else bif (bif decide ((3 : Int) ∈ vs) then decide (lowN vs vs.length ≥ 2) else false) then decide (highN vs vs.length > 0) else false) = decideB vs := by
  rw [decideB_eq]
  by_cases c4 : (4 : Int) ∈ vs
  · rw [decide_eq_true c4]; rfl
  · rw [decide_eq_false c4]
    by_cases c3 : (3 : Int) ∈ vs
    · rw [decide_eq_true c3]
      obtain ⟨j, hj, e⟩ := mem_iff_getD.1 c3
      have hh := (highN_pos (vs := vs) (Nat.le_refl _)).2 j hj
      rw [decide_eq_true (show highN vs vs.length > 0 by omega)]
      have hlow := lowN_ge (vs := vs) (Nat.le_refl _)
      cases ha : vs.any (fun v => decide (v < 2)) with
      | true =>
        obtain ⟨x, h1, h2⟩ := List.any_eq_true.1 ha
        obtain ⟨i, hi, e2⟩ := mem_iff_getD.1 h1
        rw [decide_eq_false (fun h => by have := hlow.1 h i hi; have := of_decide_eq_true h2; omega)]
        rfl
      | false =>
        rw [decide_eq_true (hlow.2 fun i hi => ?_)]
        · rfl
        · cases e3 : decide (vs.getD i 0 < 2) with
          | true => rw [List.any_eq_true.2 ⟨_, getD_mem (z := 0) hi, e3⟩] at ha; cases ha
          | false => have := of_decide_eq_false e3; omega
    · rw [decide_eq_false c3]; rfl
theorem l1Min_q (a b : Int) : Ans Tryz.prog 185 [] [vI a, vI b] [] (vI (if a < b then a else b)) := by
  refine con_enter Tryz.func185 rfl rfl rfl fun B0 r_ D_ w0 => ?_
  refine T_auto TT_ok rfl ?_
  refine T_condD rfl (fun e => ?_) (fun e => ?_)
  · refine T_auto TT_ok rfl ?_
    exact T_ansI TT_ok [(4, none)] rfl rfl ((if_pos e).symm)
  · refine T_auto TT_ok rfl ?_
    exact T_ansI TT_ok [(4, none)] rfl rfl ((if_neg e).symm)
theorem spec_Decide_q (vs : List Int) (hl : vs.length ≤ 1048576) : Ans Tryz.prog 114 [] [vL 1 cInt 0 vs] [] (vB (decideB vs)) := by
  refine con_enter Tryz.func114 rfl rfl rfl fun B0 r_ D_ w0 => ?_
  refine T_auto TT_ok rfl ?_
  refine T_loopA (ι := Nat) (fun k => [(5, vI k), (3, vI (lowN vs k)), (4, vI (highN vs k))]) (fun _ => []) (fun k => k ≤ vs.length) (fun k => vs.length - k) 0 [] [] rfl rfl (Nat.zero_le _) (by repeat (first | exact trivial | refine And.intro ⟨_, rfl, SV.imp_refl _⟩ ?_)) (by repeat (first | exact trivial | refine And.intro ⟨_, rfl, Ch.imp_refl _⟩ ?_)) ?_
  intro k h1
  refine T_auto TT_ok rfl ?_
  refine T_condD rfl (fun e => ?_) (fun e => ?_)
  · have hk : k < vs.length := by omega
    refine T_auto TT_ok rfl ?_
    refine RJ_Q TT_ok (l1Min_q _ _) rfl rfl rfl rfl rfl ?_
    refine RJ_Q TT_ok (l1Max_q _ _) rfl rfl rfl rfl rfl ?_
    exact X_inv (k + 1) hk (by omega) (by repeat (first | exact trivial | refine And.intro ⟨_, rfl, SV.imp_refl _⟩ ?_)) (by repeat (first | exact trivial | refine And.intro ⟨_, rfl, Ch.imp_refl _⟩ ?_))
  · have hk : k = vs.length := by omega
    subst hk
    refine T_auto TT_ok rfl ?_
    refine RJ_Q TT_ok (l3Has_q vs hl 4) rfl rfl rfl rfl rfl ?_
    refine RJ_Q TT_ok (l3Has_q vs hl 3) rfl rfl rfl rfl rfl ?_
    exact T_ansB TT_ok [(2, none)] rfl rfl (decide_low vs)
theorem aliveL_at (c : GCluster) {k : Nat} (hk : k < c.machines.length) : (aliveL c).getD k false = (c.machines.getD k GMachine.z).alive := getD_map' (za := GMachine.z) GMachine.alive hk
theorem aliveL_len (c : GCluster) : (aliveL c).length = c.machines.length := List.length_map _
theorem alive_m (c : GCluster) (hl : c.machines.length ≤ 1048576) : MkL Tryz.prog 116 [vP (cCluster c)] 1 cBool false (aliveL c) := by
  have hln := aliveL_len c
  refine con_enter Tryz.func116 rfl rfl rfl fun B0 r_ D_ w0 => ?_
  refine T_auto TT_ok rfl ?_
  refine T_view (V_nil 3 40 1 (fun i => cBool (([] : List Bool).getD i false)) rfl rfl rfl rfl) ?_
  refine T_loopA (ι := Nat) (fun k => [(11, vI k), (3, .a (.g 40))]) (fun k => [(40, arrC 1 cBool false ((aliveL c).take k))]) (fun k => k ≤ c.machines.length) (fun k => c.machines.length - k) 0 [40] [40] rfl rfl (Nat.zero_le _) (by repeat (first | exact trivial | refine And.intro ⟨_, rfl, SV.imp_refl _⟩ ?_)) (by repeat (first | exact trivial | refine And.intro ⟨_, rfl, Ch.imp_refl _⟩ ?_)) ?_
  intro k h1
  have hlt : ((aliveL c).take k).length = k := by rw [List.length_take]; omega
  refine T_auto TT_ok rfl ?_
  refine T_condD rfl (fun e => ?_) (fun e => ?_)
  · have hk : k < c.machines.length := by omega
    refine T_auto TT_ok rfl ?_
    refine RJ_bs TT_ok 18 (fun _ => cBool (c.machines.getD k GMachine.z).alive) rfl rfl rfl rfl rfl rfl rfl (fun i hi => by rcases i with _ | i <;> first | rfl | omega) (mu1 := []) rfl rfl rfl ?_
    refine RJ_auto TT_ok rfl ?_
    refine RJ_appM TT_ok 40 18 19 rfl rfl rfl rfl rfl rfl rfl rfl rfl rfl rfl rfl ⟨by show (((aliveL c).take k).length + 1) * 1 ≤ _; omega, by unfold maxL; omega⟩ ?_
    refine RJ_auto TT_ok rfl ?_
    refine X_view (V_sw 40 19) ?_
    exact X_inv (k + 1) hk (by omega) (by repeat (first | exact trivial | refine And.intro ⟨_, rfl, SV.imp_refl _⟩ ?_)) ⟨⟨_, rfl, imp_app1 (x := (c.machines.getD k GMachine.z).alive) (by rw [take_succ_getD (z := false) (by omega), aliveL_at c hk]) rfl⟩, (by repeat (first | exact trivial | refine And.intro ⟨_, rfl, Ch.imp_refl _⟩ ?_))⟩
  · have hk : k = c.machines.length := by omega
    subst hk
    rw [List.take_of_length_le (by omega)]
    refine T_auto TT_ok rfl ?_
    refine T_view (V_sw 40 900) ?_
    refine T_ret TT_ok (()) [(2, none)] rfl rfl ?_ ?_ ?_
    · exact SVs.imp_refl _
    · exact ⟨⟨_, rfl, Ch.imp_refl _⟩, trivial⟩
    · trivial
theorem sizeBool_q (xs : List Bool) : Ans Tryz.prog 187 [] [vL 1 cBool false xs] [] (vI xs.length) := by
  refine con_enter Tryz.func187 rfl rfl rfl fun B0 r_ D_ w0 => ?_
  refine T_auto TT_ok rfl ?_
  exact T_ansI TT_ok [(2, none)] rfl rfl (rfl)
theorem lives_q (al : List Bool) (m : Int) (hm : 0 ≤ m) : Ans Tryz.prog 186 [] [vI m, vP [dL 1 cBool false al]] [] (vB (livesB al m)) := by
  refine con_enter Tryz.func186 rfl rfl rfl fun B0 r_ D_ w0 => ?_
  refine T_auto TT_ok rfl ?_
  refine RJ_Q TT_ok (sizeBool_q al) rfl rfl rfl rfl rfl ?_
  exact T_ansB TT_ok [(3, none)] rfl rfl (rfl)
theorem l5Lives_q (al : List Bool) (m : Int) (hm : 0 ≤ m) : Ans Tryz.prog 110 [] [vL 1 cBool false al, vI m] [] (vB (livesB al m)) := by
  refine con_enter Tryz.func110 rfl rfl rfl fun B0 r_ D_ w0 => ?_
  refine T_auto TT_ok rfl ?_
  exact T_ansB TT_ok [(4, none)] rfl rfl (rfl)
theorem PlOk.le {ps : List GPlace} (h : PlOk ps) {r k : Nat} (hr : r < ps.length) (hk : k < (ps.getD r GPlace.z).machines.length) : 0 ≤ (ps.getD r GPlace.z).machines.getD k 0 ∧ (ps.getD r GPlace.z).machines.getD k 0 ≤ 7 := by
  have := (h.2 r hr).2 k hk
  unfold badPl at this
  have h2 := (bif_or_false.1 this).1
  have h3 : inB ((ps.getD r GPlace.z).machines.getD k 0) 0 7 = true := by simpa using h2
  exact inB_iff.1 h3
set_option maxHeartbeats 1000000 in
theorem remap_m (ps : List GPlace) (hp : PlOk ps) (al : List Bool) (hal : al.length ≤ 8) :
    Con Tryz.prog 115 [] [vL 1 cPlace GPlace.z ps, vL 1 cBool false al] [] (fun _ : Unit => True) (fun _ => [.a (.g 910), .a (.g 911)]) fun _ => [(910, arrC 1 cPlace GPlace.z (ps.map (remP al))), (911, arrC 1 cInt 0 (lostN al ps ps.length))] := by
  have hpl := hp.1
  refine con_enter Tryz.func115 rfl rfl rfl fun B0 r_ D_ w0 => ?_
  refine T_auto1 TT_ok rfl ?_
  refine T_freeze 3 rfl rfl rfl rfl (fun _ => rfl) (fun _ => rfl) fun r_ => ?_
  refine T_auto TT_ok rfl ?_
  refine T_view (V_nil 6 40 1 (fun i => cPlace (([] : List GPlace).getD i GPlace.z)) rfl rfl rfl rfl) ?_
  refine T_view (V_nil 7 41 1 (fun i => cInt (([] : List Int).getD i 0)) rfl rfl rfl rfl) ?_
  refine T_loopA (ι := Nat) (fun r => [(18, vI r), (6, .a (.g 40)), (7, .a (.g 41))]) (fun r => [(40, arrC 1 cPlace GPlace.z ((ps.take r).map (remP al))), (41, arrC 1 cInt 0 (lostN al ps r))]) (fun r => r ≤ ps.length ∧ (lostN al ps r).length ≤ r) (fun r => ps.length - r) 0 [40, 41] [40, 41] rfl rfl ⟨Nat.zero_le _, Nat.le_refl _⟩ (by repeat (first | exact trivial | refine And.intro ⟨_, rfl, SV.imp_refl _⟩ ?_)) (by repeat (first | exact trivial | refine And.intro ⟨_, rfl, Ch.imp_refl _⟩ ?_)) ?_
  intro r ⟨h1, hlo⟩
  have hl1 : ((ps.take r).map (remP al)).length = r := by rw [List.length_map, List.length_take]; omega
  refine T_auto TT_ok rfl ?_
  refine T_condD rfl (fun e => ?_) (fun e => ?_)
  · have hr : r < ps.length := by omega
    have hpr := (hp.2 r hr).1
    refine T_auto TT_ok rfl ?_
    refine T_view (V_nilR 11 0 1 (fun i => cInt (([] : List Int).getD i 0)) rfl rfl rfl) ?_
    refine T_view (V_open 11 0 50 rfl rfl rfl rfl rfl rfl) ?_
    refine T_loopA (ι := Nat) (fun j => [(26, vI j)]) (fun j => [(11, .row [.g 50]), (50, arrC 1 cInt 0 (((ps.getD r GPlace.z).machines.take j).filter (livesB al)))]) (fun j => j ≤ (ps.getD r GPlace.z).machines.length) (fun j => (ps.getD r GPlace.z).machines.length - j) 0 [11, 50] [50] rfl rfl (Nat.zero_le _) (by repeat (first | exact trivial | refine And.intro ⟨_, rfl, SV.imp_refl _⟩ ?_)) (by repeat (first | exact trivial | refine And.intro ⟨_, rfl, Ch.imp_refl _⟩ ?_)) ?_
    intro j h2
    have hfl := filter_take_le (ps.getD r GPlace.z).machines (livesB al) j
    refine T_auto TT_ok rfl ?_
    refine T_condD rfl (fun e2 => ?_) (fun e2 => ?_)
    · simp only [Int.toNat_natCast] at e2
      have hj : j < (ps.getD r GPlace.z).machines.length := by omega
      have hm := hp.le hr hj
      refine T_auto TT_ok rfl ?_
      refine RJ_Q TT_ok (lives_q al ((ps.getD r GPlace.z).machines.getD j 0) hm.1) rfl rfl rfl rfl rfl ?_
      refine T_cond rfl (fun e3 => ?_) (fun e3 => ?_)
      · have hF := filter_take_yes (z := 0) hj (p := livesB al) e3
        refine T_auto TT_ok rfl ?_
        refine RJ_bs TT_ok 36 (fun _ => cInt ((ps.getD r GPlace.z).machines.getD j 0)) rfl rfl rfl rfl rfl rfl rfl (fun i hi => by rcases i with _ | i <;> first | rfl | omega) (mu1 := []) rfl rfl rfl ?_
        refine RJ_auto TT_ok rfl ?_
        refine RJ_appM TT_ok 50 36 37 rfl rfl rfl rfl rfl rfl rfl rfl rfl rfl rfl rfl ⟨by show ((((ps.getD r GPlace.z).machines.take j).filter (livesB al)).length + 1) * 8 ≤ _; omega, by unfold maxL; omega⟩ ?_
        refine RJ_auto TT_ok rfl ?_
        refine X_view (V_sw 50 37) ?_
        exact X_inv (j + 1) hj (by omega) (by repeat (first | exact trivial | refine And.intro ⟨_, rfl, SV.imp_refl _⟩ ?_)) ⟨⟨_, rfl, Ch.imp_refl _⟩, ⟨_, rfl, imp_app1 (x := (ps.getD r GPlace.z).machines.getD j 0) hF rfl⟩, (by repeat (first | exact trivial | refine And.intro ⟨_, rfl, Ch.imp_refl _⟩ ?_))⟩
      · have hF := filter_take_no (z := 0) hj (p := livesB al) e3
        refine T_auto TT_ok rfl ?_
        exact X_inv (j + 1) hj (by omega) (by repeat (first | exact trivial | refine And.intro ⟨_, rfl, SV.imp_refl _⟩ ?_)) ⟨⟨_, rfl, Ch.imp_refl _⟩, ⟨_, rfl, imp_list hF⟩, (by repeat (first | exact trivial | refine And.intro ⟨_, rfl, Ch.imp_refl _⟩ ?_))⟩
    simp only [Int.toNat_natCast] at e2
    have hj : j = (ps.getD r GPlace.z).machines.length := by omega
    subst hj
    rw [List.take_length]
    have hke : (keepP al (ps.getD r GPlace.z)).length ≤ 3 := Nat.le_trans (List.length_filter_le _ _) hpr.2
    refine T_auto TT_ok rfl ?_
    refine T_condE rfl (fun e3 => ?_) (fun e3 => ?_)
    · have e3 : ((keepP al (ps.getD r GPlace.z)).length : Int) = 0 := e3
      have hrem : remP al (ps.getD r GPlace.z) = ⟨(ps.getD r GPlace.z).machines⟩ := by unfold remP; rw [if_pos (by omega)]
      have hlost : lostN al ps (r + 1) = lostN al ps r ++ [(r : Int)] := by rw [lostN, if_pos (by omega)]
      refine T_auto TT_ok rfl ?_
      refine RJ_bs TT_ok 46 (fun _ => cInt r) rfl rfl rfl rfl rfl rfl rfl (fun i hi => by rcases i with _ | i <;> first | rfl | omega) (mu1 := []) rfl rfl rfl ?_
      refine RJ_auto TT_ok rfl ?_
      refine RJ_appM TT_ok 41 46 47 rfl rfl rfl rfl rfl rfl rfl rfl rfl rfl rfl rfl ⟨by show ((lostN al ps r).length + 1) * 8 ≤ _; omega, by unfold maxL; omega⟩ ?_
      refine RJ_auto TT_ok rfl ?_
      refine RJ_C TT_ok (Con.sw 900 51 (cloneInt64_m (ps.getD r GPlace.z).machines (by omega))) rfl rfl (SVs.imp_refl _) (fun _ => rfl) rfl rfl rfl fun _ _ => ?_
      refine RJ_auto TT_ok rfl ?_
      refine RJ_bs TT_ok 53 (fun _ => cPlace ⟨(ps.getD r GPlace.z).machines⟩) rfl rfl rfl rfl rfl rfl rfl (fun i hi => by rcases i with _ | i <;> first | rfl | omega) (mu1 := [(51, .arr 0 0 fun _ => [])]) rfl rfl rfl ?_
      refine RJ_auto TT_ok rfl ?_
      refine RJ_appM TT_ok 40 53 54 rfl rfl rfl rfl rfl rfl rfl rfl rfl rfl rfl rfl ⟨by show (((ps.take r).map (remP al)).length + 1) * 24 ≤ _; omega, by unfold maxL; omega⟩ ?_
      refine RJ_auto TT_ok rfl ?_
      refine X_view (V_sw 40 54) ?_
      refine X_view (V_sw 41 47) ?_
      exact X_inv (r + 1) ⟨hr, by rw [hlost, List.length_append, List.length_singleton]; omega⟩ (by omega) (by repeat (first | exact trivial | refine And.intro ⟨_, rfl, SV.imp_refl _⟩ ?_)) ⟨⟨_, rfl, imp_app1 (x := (⟨(ps.getD r GPlace.z).machines⟩ : GPlace)) (by rw [take_succ_getD (z := GPlace.z) hr, List.map_append, List.map_singleton, hrem]) rfl⟩, ⟨_, rfl, imp_app1 (x := (r : Int)) hlost rfl⟩, (by repeat (first | exact trivial | refine And.intro ⟨_, rfl, Ch.imp_refl _⟩ ?_))⟩
    have e3 : ((keepP al (ps.getD r GPlace.z)).length : Int) ≠ 0 := e3
    have hrem : remP al (ps.getD r GPlace.z) = ⟨fillN al (keepP al (ps.getD r GPlace.z)) al.length⟩ := by unfold remP; rw [if_neg (by omega)]
    have hlost : lostN al ps (r + 1) = lostN al ps r := by rw [lostN, if_neg (by omega)]
    refine T_auto TT_ok rfl ?_
    refine RJ_Q TT_ok (sizeBool_q al) rfl rfl rfl rfl rfl ?_
    refine T_loopA (ι := Nat) (fun m => [(57, vI m)]) (fun m => [(11, .row [.g 50]), (50, arrC 1 cInt 0 (fillN al (keepP al (ps.getD r GPlace.z)) m))]) (fun m => m ≤ al.length) (fun m => al.length - m) 0 [11, 50] [50] rfl rfl (Nat.zero_le _) (by repeat (first | exact trivial | refine And.intro ⟨_, rfl, SV.imp_refl _⟩ ?_)) (by repeat (first | exact trivial | refine And.intro ⟨_, rfl, Ch.imp_refl _⟩ ?_)) ?_
    intro m h3
    have hfi := fillN_le (al := al) hke m
    refine T_auto TT_ok rfl ?_
    refine T_condD rfl (fun e4 => ?_) (fun e4 => ?_)
    · have hm : m < al.length := by omega
      refine T_auto TT_ok rfl ?_
      refine RJ_Q TT_ok (contains_Int_q (fillN al (keepP al (ps.getD r GPlace.z)) m) (by omega) m) rfl rfl rfl rfl rfl ?_
      refine T_cond (b := bif (bif al.getD m false then decide (((fillN al (keepP al (ps.getD r GPlace.z)) m).length : Int) < 3) else false) then !decide ((m : Int) ∈ fillN al (keepP al (ps.getD r GPlace.z)) m) else false) rfl (fun e5 => ?_) (fun e5 => ?_)
      · refine T_auto TT_ok rfl ?_
        refine RJ_bs TT_ok 80 (fun _ => cInt m) rfl rfl rfl rfl rfl rfl rfl (fun i hi => by rcases i with _ | i <;> first | rfl | omega) (mu1 := []) rfl rfl rfl ?_
        refine RJ_auto TT_ok rfl ?_
        refine RJ_appM TT_ok 50 80 81 rfl rfl rfl rfl rfl rfl rfl rfl rfl rfl rfl rfl ⟨by show ((fillN al (keepP al (ps.getD r GPlace.z)) m).length + 1) * 8 ≤ _; omega, by unfold maxL; omega⟩ ?_
        refine RJ_auto TT_ok rfl ?_
        refine X_view (V_sw 50 81) ?_
        exact X_inv (m + 1) hm (by omega) (by repeat (first | exact trivial | refine And.intro ⟨_, rfl, SV.imp_refl _⟩ ?_)) ⟨⟨_, rfl, Ch.imp_refl _⟩, ⟨_, rfl, imp_app1 (x := (m : Int)) (by rw [fillN, e5]; rfl) rfl⟩, (by repeat (first | exact trivial | refine And.intro ⟨_, rfl, Ch.imp_refl _⟩ ?_))⟩
      · refine T_auto TT_ok rfl ?_
        exact X_inv (m + 1) hm (by omega) (by repeat (first | exact trivial | refine And.intro ⟨_, rfl, SV.imp_refl _⟩ ?_)) ⟨⟨_, rfl, Ch.imp_refl _⟩, ⟨_, rfl, imp_list (by rw [fillN, e5]; rfl)⟩, (by repeat (first | exact trivial | refine And.intro ⟨_, rfl, Ch.imp_refl _⟩ ?_))⟩
    have hm : m = al.length := by omega
    subst hm
    refine T_auto TT_ok rfl ?_
    refine RJ_bs TT_ok 86 (fun _ => cPlace ⟨fillN al (keepP al (ps.getD r GPlace.z)) al.length⟩) rfl rfl rfl rfl rfl rfl rfl (fun i hi => by rcases i with _ | i <;> first | rfl | omega) (mu1 := [(50, .arr 0 0 fun _ => [])]) rfl rfl rfl ?_
    refine RJ_auto TT_ok rfl ?_
    refine RJ_appM TT_ok 40 86 87 rfl rfl rfl rfl rfl rfl rfl rfl rfl rfl rfl rfl ⟨by show (((ps.take r).map (remP al)).length + 1) * 24 ≤ _; omega, by unfold maxL; omega⟩ ?_
    refine RJ_auto TT_ok rfl ?_
    refine X_view (V_sw 40 87) ?_
    exact X_inv (r + 1) ⟨hr, by rw [hlost]; omega⟩ (by omega) (by repeat (first | exact trivial | refine And.intro ⟨_, rfl, SV.imp_refl _⟩ ?_)) ⟨⟨_, rfl, imp_app1 (x := (⟨fillN al (keepP al (ps.getD r GPlace.z)) al.length⟩ : GPlace)) (by rw [take_succ_getD (z := GPlace.z) hr, List.map_append, List.map_singleton, hrem]) rfl⟩, ⟨_, rfl, imp_list hlost.symm⟩, (by repeat (first | exact trivial | refine And.intro ⟨_, rfl, Ch.imp_refl _⟩ ?_))⟩
  have hr : r = ps.length := by omega
  subst hr
  rw [List.take_length]
  refine T_auto TT_ok rfl ?_
  refine T_view (V_sw 40 910) ?_
  refine T_view (V_sw 41 911) ?_
  refine T_ret TT_ok (()) [(4, none), (5, none)] rfl rfl ?_ ?_ ?_
  · exact SVs.imp_refl _
  · exact ⟨⟨_, rfl, Ch.imp_refl _⟩, ⟨_, rfl, Ch.imp_refl _⟩, trivial⟩
  · trivial
end Go.Proofs.YtcikaknfogpeeaaGreat
namespace Go.Proofs.YtcikaknfogpeeaaGreat
open Go Go.RowKit
set_option linter.unusedVariables false
set_option linter.unusedSimpArgs false
section
variable {E : Env} {mu mu' : Mu} {fr : Fr} {gf : GF} {R : Exit → Act → World → Prop} {K : List KF} {c : Code} {x : Nx} {v : Value}
theorem T_anchor (k : Nat) (hk : hasK k E.A.ks = false) (h : ∀ v, T { E with A := ⟨k :: E.A.ks, fun j => if j = k then v else E.A.B j⟩ } R c fr mu K) : T E R c fr mu K := fun B a w H f m =>
  h (B k) B a w H f ⟨m.mm, m.keep, m.dom, fun j hj => by
    by_cases e : j = k
    · subst e
      show B j = if j = j then B j else _
      rw [if_pos rfl]
    · rcases (hasK_cons j k _).1 hj with e2 | e2
      · exact absurd e2.symm e
      · show B j = if j = k then _ else _
        rw [if_neg e]; exact m.anch j e2⟩
theorem unanch {B : BE} {w : World} {H : Nat → PH} {k : Nat} (hk : hasK k E.A.ks = false) (m : Mem { E with A := ⟨k :: E.A.ks, fun j => if j = k then v else E.A.B j⟩ } B mu w H) : Mem E B mu w H := ⟨m.mm, m.keep, m.dom, fun j hj => by
  have h1 : B j = if j = k then v else E.A.B j := m.anch j ((hasK_cons j k _).2 (.inr hj))
  have h2 : j ≠ k := fun e => by subst e; rw [hk] at hj; cases hj
  rw [h1, if_neg h2]⟩
theorem T_unanch (k : Nat) (hk : hasK k E.A.ks = false) (h : T E R c fr mu K) : T { E with A := ⟨k :: E.A.ks, fun j => if j = k then v else E.A.B j⟩ } R c fr mu K := fun B a w H f m => h B a w H f (unanch hk m)
theorem V_row (j : Nat) {l l' : List V} (hk : mlk j mu = some (.row l)) (hmu : mset j (.row l') mu = some mu') (hlen : l'.length = l.length)
    (h : ∀ B w H, Mem E B mu w H → ∀ h' vs, V.owns B E.r h' l vs → V.owns B E.r h' l' vs) : View E fr gf mu fr gf mu' := fun B w H a f m =>
  ⟨B, H, f, ⟨⟨fun i d e => by
    rw [mset_spec hmu i] at e
    by_cases hj : i = j
    · rw [if_pos hj] at e; injection e with e; subst e; subst hj
      obtain ⟨b, o, vs, h', e1, e2, e3, e4⟩ := m.mm.sat i _ hk
      exact ⟨b, o, vs, h', e1, h B w H m h' vs e2, e3, fun n hn => e4 n (by rw [← hlen]; exact hn)⟩
    · rw [if_neg hj] at e; exact m.mm.sat i d e, m.mm.fit, m.mm.dj, m.mm.djr, m.mm.fitr⟩, m.keep, m.dom, m.anch⟩⟩
theorem V_gv (j k : Nat) {r : Value} (hk : mlk j mu = some (.row [.v r, .g k])) (ha : hasK k E.A.ks = true) (hv : E.A.B k = v) (hmu : mset j (.row [.v r, .v v]) mu = some mu') : View E fr gf mu fr gf mu' :=
  V_row j hk hmu rfl fun B w H m h' vs ⟨y1, t1, h1, h2, q1, q2, q3, q4, q5, y2, t2, h3, h4, p1, p2, p3, p4, p5, p6⟩ => ⟨y1, t1, h1, h2, q1, q2, q3, q4, q5, y2, t2, h3, h4, p1, p2, p3, p4, by
    have e : y2 = B k ∧ oneV y2 = true := p5
    show y2 = v
    rw [e.1, m.anch k ha, hv], p6⟩
theorem V_vg (j k : Nat) {r : Value} {sz n : Nat} {f : Nat → List D} (hk : mlk j mu = some (.row [.v r, .v v])) (ha : hasK k E.A.ks = true) (hv : E.A.B k = v) (hk2 : mlk k mu = some (.arr sz n f)) (hmu : mset j (.row [.v r, .g k]) mu = some mu') : View E fr gf mu fr gf mu' :=
  V_row j hk hmu rfl fun B w H m h' vs ⟨y1, t1, h1, h2, q1, q2, q3, q4, q5, y2, t2, h3, h4, p1, p2, p3, p4, p5, p6⟩ => ⟨y1, t1, h1, h2, q1, q2, q3, q4, q5, y2, t2, h3, h4, p1, p2, p3, p4, by
    have e : y2 = v := p5
    show y2 = B k ∧ oneV y2 = true
    have e2 : y2 = B k := by rw [e, m.anch k ha, hv]
    exact ⟨e2, by rw [e2]; exact own_new (m.mm.sat k _ hk2)⟩, p6⟩
theorem V_drop (k : Nat) (hd : mdrop k mu = some mu') : View E fr gf mu fr gf mu' := fun B w H a f m =>
  ⟨B, H, f, ⟨⟨fun j d e => by
    rw [mdrop_spec hd j] at e
    by_cases hj : j = k
    · rw [if_pos hj] at e; cases e
    · rw [if_neg hj] at e; exact m.mm.sat j d e, m.mm.fit, m.mm.dj, m.mm.djr, m.mm.fitr⟩, m.keep, m.dom, m.anch⟩⟩
end
end Go.Proofs.YtcikaknfogpeeaaGreat
namespace Go.Proofs.YtcikaknfogpeeaaGreat
open Go Go.RowKit
set_option linter.unusedVariables false
set_option linter.unusedSimpArgs false
set_option maxRecDepth 4000
def endX (d : Bool) (t : GTx) (r : Int) (m : GMachine) : List GCell := bif d then instL (cellsOf m r) (setsAt r t.sets) else if 0 ≤ logI m t.id r 1 then unlkL (cellsOf m r) (setsAt r t.sets) else cellsOf m r
theorem endM_eq {d : Bool} {t : GTx} {r : Int} {m : GMachine} (ha : m.alive = true) (hh : hasB m r = true) : endM d t r m = clearR (setCells m r (endX d t r m)) t.id r false := by
  unfold endM endX
  rw [ha]
  cases d with
  | true => rfl
  | false =>
    simp only [Bool.not_true, cond_false]
    by_cases c : 0 ≤ logI m t.id r 1
    · rw [if_pos c, if_pos c]; rfl
    · rw [if_neg c, if_neg c, setCells_self hh]; rfl
theorem endM_dead {d : Bool} {t : GTx} {r : Int} {m : GMachine} (ha : m.alive = false) : endM d t r m = m := by unfold endM; rw [ha]; rfl
theorem decideD_eq (c : GCluster) (t : GTx) : (bif (bif t.phase != 8 then t.phase != 1 else false) then decideB (votesL c t) else false) = decideD c t := by
  unfold decideD
  cases t.phase != 8 <;> cases t.phase != 1 <;> rfl
theorem votesL_at {c : GCluster} {t : GTx} {k : Nat} (hk : k < (wantsL t).length) : (votesL c t).take (k + 1) = (votesL c t).take k ++ [voteN c t.id ((wantsL t).getD k 0) (placeM c ((wantsL t).getD k 0)).length] := by
  have hl : (votesL c t).length = (wantsL t).length := List.length_map _
  rw [take_succ_getD (z := 0) (by omega)]
  congr 2
  exact getD_map' (za := 0) _ hk
def endsN (d : Bool) (t : GTx) (xs : List GCopyAt) (ms : List GMachine) (k : Nat) : List GMachine := (xs.take k).foldl (endF d t) ms
theorem endsN_succ {d : Bool} {t : GTx} {xs : List GCopyAt} {ms : List GMachine} {k : Nat} (h : k < xs.length) : endsN d t xs ms (k + 1) = endF d t (endsN d t xs ms k) (xs.getD k GCopyAt.z) := by
  unfold endsN
  rw [take_succ_getD (z := GCopyAt.z) h, List.foldl_append]; rfl
theorem endsN_like {c : GCluster} (hok : ClusOk c) {d : Bool} {t : GTx} (ht : TxOk t) {xs : List GCopyAt} (hx : ∀ x ∈ xs, AtIn c x) (k : Nat) : Like c.machines (endsN d t xs c.machines k) := ends_like hok ht (fun x h => hx x (List.mem_of_mem_take h)) (Like.refl hok)
theorem AtIn.mach {c : GCluster} (hok : ClusOk c) {x : GCopyAt} (h : AtIn c x) : (0 ≤ x.machine ∧ x.machine < c.machines.length) ∧ ((mOf c x.machine).alive = true → hasB (mOf c x.machine) x.region = true) := by
  obtain ⟨j, h2, h3, h4⟩ := h.at'
  have h5 := hok.at (r := x.region.toNat) (k := j) (by have := h.region; omega) h2
  rw [← h3, Int.toNat_of_nonneg h.region.1] at h5
  have h6 := h5.2
  unfold machAt at h6
  rw [← h3] at h6
  exact ⟨h5.1, h6⟩
set_option maxHeartbeats 2000000 in
theorem resolve_k (c : GCluster) (hok : ClusOk c) (i : Nat) (hi : i < c.txs.length) :
    Con Tryz.prog 118 [900, 901, 902, 903] [.a (.p 900 0), .a (.pe 903 7 i 0)] [(900, .rrow (rowC c 901 902 903)), (901, roC 1 cPlace GPlace.z c.places), (902, arrC 4 cMachine GMachine.z c.machines), (903, arrC 7 cTx GTx.z c.txs)]
      (fun _ : Unit => True) (fun _ => []) fun _ => [(902, arrC 4 cMachine GMachine.z (resC c i).machines), (903, arrC 7 cTx GTx.z (resC c i).txs)] := by
  have hb := clusOk_bd hok
  have hx := hok.txIn hi
  have hs1 := hx.ok.1.2.2.2.2.2.1
  have hs2 := hx.ok.1.2.2.2.2.2.2
  have hwl := wants_le hx.ok
  have hvl : (votesL c (c.txs.getD i GTx.z)).length = (wantsL (c.txs.getD i GTx.z)).length := List.length_map _
  have hcl := copN_le hok (fun k hk => wants_in hx hk) (b := false) (Nat.le_refl _)
  have hcl : (copiesP c (c.txs.getD i GTx.z) false).length ≤ 36 := Nat.le_trans hcl (by omega)
  refine con_enter Tryz.func118 rfl rfl rfl fun B0 r_ D_ w0 => ?_
  refine T_auto TT_ok rfl ?_
  refine RJ_C TT_ok (Con.sw 900 14 (wantsK_m (c.txs.getD i GTx.z) (by omega))) rfl rfl (SVs.imp_refl _) (fun _ => rfl) rfl rfl rfl fun _ _ => ?_
  refine RJ_auto TT_ok rfl ?_
  refine T_view (V_nil 4 40 1 (fun i => cInt (([] : List Int).getD i 0)) rfl rfl rfl rfl) ?_
  refine T_loopA (ι := Nat) (fun k => [(16, vI k), (4, .a (.g 40))]) (fun k => [(40, arrC 1 cInt 0 ((votesL c (c.txs.getD i GTx.z)).take k))]) (fun k => k ≤ (wantsL (c.txs.getD i GTx.z)).length) (fun k => (wantsL (c.txs.getD i GTx.z)).length - k) 0 [40] [40] rfl rfl (Nat.zero_le _) (by repeat (first | exact trivial | refine And.intro ⟨_, rfl, SV.imp_refl _⟩ ?_)) (by repeat (first | exact trivial | refine And.intro ⟨_, rfl, Ch.imp_refl _⟩ ?_)) ?_
  intro k h1
  have hvt : ((votesL c (c.txs.getD i GTx.z)).take k).length ≤ k := by rw [List.length_take]; omega
  refine T_auto TT_ok rfl ?_
  refine T_condD rfl (fun e => ?_) (fun e => ?_)
  · have hk : k < (wantsL (c.txs.getD i GTx.z)).length := by omega
    have hr := wants_in hx hk
    refine T_auto TT_ok rfl ?_
    refine RJ_Q TT_ok (impl_vote_q c hb hok _ _ hr) rfl rfl rfl rfl rfl ?_
    refine RJ_bs TT_ok 28 (fun _ => cInt (voteN c (c.txs.getD i GTx.z).id ((wantsL (c.txs.getD i GTx.z)).getD k 0) (placeM c ((wantsL (c.txs.getD i GTx.z)).getD k 0)).length)) rfl rfl rfl rfl rfl rfl rfl (fun i hi => by rcases i with _ | i <;> first | rfl | omega) (mu1 := []) rfl rfl rfl ?_
    refine RJ_auto TT_ok rfl ?_
    refine RJ_appM TT_ok 40 28 29 rfl rfl rfl rfl rfl rfl rfl rfl rfl rfl rfl rfl ⟨by show (((votesL c (c.txs.getD i GTx.z)).take k).length + 1) * 8 ≤ _; omega, by unfold maxL; omega⟩ ?_
    refine RJ_auto TT_ok rfl ?_
    refine X_view (V_sw 40 29) ?_
    exact X_inv (k + 1) hk (by omega) (by repeat (first | exact trivial | refine And.intro ⟨_, rfl, SV.imp_refl _⟩ ?_)) ⟨⟨_, rfl, imp_app1 (x := voteN c (c.txs.getD i GTx.z).id ((wantsL (c.txs.getD i GTx.z)).getD k 0) (placeM c ((wantsL (c.txs.getD i GTx.z)).getD k 0)).length) (votesL_at hk) rfl⟩, (by repeat (first | exact trivial | refine And.intro ⟨_, rfl, Ch.imp_refl _⟩ ?_))⟩
  have hk : k = (wantsL (c.txs.getD i GTx.z)).length := by omega
  subst hk
  rw [List.take_of_length_le (show (votesL c (c.txs.getD i GTx.z)).length ≤ _ by omega)]
  refine T_auto TT_ok rfl ?_
  refine RJ_Q TT_ok (impl_decide_q (votesL c (c.txs.getD i GTx.z)) (by omega)) rfl rfl rfl rfl rfl ?_
  rw [show (bif (bif (c.txs.getD (i : Int).toNat GTx.z).phase != 8 then (c.txs.getD (i : Int).toNat GTx.z).phase != 1 else false) then decideB (votesL c (c.txs.getD i GTx.z)) else false) = decideD c (c.txs.getD i GTx.z) from decideD_eq c _]
  refine RJ_C TT_ok (Con.sw 910 49 (copies_k c hok (c.txs.getD i GTx.z) hx c.clock false)) rfl rfl (SVs.imp_refl _) (fun _ => rfl) rfl rfl rfl (fun _ _ => ?_) (hin := by repeat (first | exact trivial | refine And.intro ⟨_, rfl, ro_arr⟩ ?_ | refine And.intro ⟨_, rfl, ro_ro⟩ ?_ | refine And.intro ⟨_, rfl, ro_row⟩ ?_ | refine And.intro ⟨_, rfl, ro_rrow⟩ ?_ | refine And.intro ⟨_, rfl, Ch.imp_refl _⟩ ?_))
  refine RJ_auto TT_ok rfl ?_
  generalize hD : decideD c (c.txs.getD i GTx.z) = d
  have hres : resC c i = { c with machines := (copiesP c (c.txs.getD i GTx.z) false).foldl (endF d (c.txs.getD i GTx.z)) c.machines, txs := c.txs.set i (endT d (c.txs.getD i GTx.z)) } := by unfold resC; rw [hD]
  rw [hres]
  have hat : ∀ x ∈ copiesP c (c.txs.getD i GTx.z) false, AtIn c x := copiesP_in hx
  generalize hX : copiesP c (c.txs.getD i GTx.z) false = xs at hcl hat
  have hs := sortedS_of hx.ok.2.2
  refine T_loopA (ι := Nat) (fun k => [(51, vI k)]) (fun k => [(902, arrC 4 cMachine GMachine.z (endsN d (c.txs.getD i GTx.z) xs c.machines k))]) (fun k => k ≤ xs.length) (fun k => xs.length - k) 0 [902] [] rfl rfl (Nat.zero_le _) (by repeat (first | exact trivial | refine And.intro ⟨_, rfl, SV.imp_refl _⟩ ?_)) (by repeat (first | exact trivial | refine And.intro ⟨_, rfl, Ch.imp_refl _⟩ ?_)) ?_
  intro k h1
  refine T_auto TT_ok rfl ?_
  refine T_condD rfl (fun e => ?_) (fun e => ?_)
  · have hk : k < xs.length := by omega
    have hA := hat _ (getD_mem (z := GCopyAt.z) hk)
    obtain ⟨hm1, hm2⟩ := hA.mach hok
    have hL := endsN_like hok (d := d) hx.ok hat k
    have hm3 : 0 ≤ (xs.getD k GCopyAt.z).machine ∧ (xs.getD k GCopyAt.z).machine < (endsN d (c.txs.getD i GTx.z) xs c.machines k).length := by rw [hL.len]; exact hm1
    obtain ⟨hM, hLa, hLh⟩ := hL.ok (xs.getD k GCopyAt.z).machine.toNat (by omega)
    have hh : ((endsN d (c.txs.getD i GTx.z) xs c.machines k).getD (xs.getD k GCopyAt.z).machine.toNat GMachine.z).alive = true → hasB ((endsN d (c.txs.getD i GTx.z) xs c.machines k).getD (xs.getD k GCopyAt.z).machine.toNat GMachine.z) (xs.getD k GCopyAt.z).region = true := fun h => by rw [hLh]; exact hm2 (hLa ▸ h)
    have hS := endsN_succ (d := d) (t := (c.txs.getD i GTx.z)) (ms := c.machines) hk
    unfold endF at hS
    refine T_auto TT_ok rfl ?_
    refine T_drawL TT_ok [] [0, 1, 2, 3, 4, 5, 6, 7] rfl rfl fun B0 H0 => ?_
    refine DJ_endA TT_ok rfl ?_
    generalize hmm : ((endsN d (c.txs.getD i GTx.z) xs c.machines k).getD (xs.getD k GCopyAt.z).machine.toNat GMachine.z) = m at hM hh hS
    refine T_cond (b := !m.alive) (by subst hmm; rfl) (fun e2 => ?_) (fun e2 => ?_)
    · have ha : m.alive = false := by simpa using e2
      rw [endM_dead ha, ← hmm, set_self (z := GMachine.z) (by omega)] at hS
      refine T_auto TT_ok rfl ?_
      exact X_inv (k + 1) hk (by omega) (by repeat (first | exact trivial | refine And.intro ⟨_, rfl, SV.imp_refl _⟩ ?_)) ⟨⟨_, rfl, imp_list hS.symm⟩, (by repeat (first | exact trivial | refine And.intro ⟨_, rfl, Ch.imp_refl _⟩ ?_))⟩
    have ha : m.alive = true := by simpa using e2
    have hhas := hh ha
    have bl : m.log.length ≤ 200 := hM.1.2.1
    have bc : m.cleared.length ≤ 60 := hM.1.2.2
    have bk : m.copies.length ≤ 6 := hM.1.1
    have hrs := (risesB_iff.1 hM.2.1).2
    obtain ⟨s1, s2, s3⟩ := setsAt_ok hx.ok (xs.getD k GCopyAt.z).region
    have hsl : (setsAt (xs.getD k GCopyAt.z).region (c.txs.getD i GTx.z).sets).length ≤ (c.txs.getD i GTx.z).sets.length := List.length_filter_le _ _
    have hcb := (cellsOf_len hM hhas).2
    rw [endM_eq ha hhas] at hS
    refine T_view (V_carve 902 (xs.getD k GCopyAt.z).machine 60 rfl rfl rfl rfl rfl rfl hm3) ?_
    rw [hmm]
    refine T_view (V_pe 10 rfl rfl rfl) ?_
    refine T_view (V_open 60 1 61 rfl rfl rfl rfl rfl rfl) ?_
    refine T_view (V_open 60 2 62 rfl rfl rfl rfl rfl rfl) ?_
    refine T_view (V_open 60 3 63 rfl rfl rfl rfl rfl rfl) ?_
    refine T_auto TT_ok rfl ?_
    refine T_drawL TT_ok [61] [0, 1, 2, 4, 5, 6, 3, 7, 8, 9] rfl rfl fun B0 H0 => ?_
    refine DJ_C 3 (Con.sw 905 65 (Con.sw 904 64 (Con.sw 903 63 (Con.sw 902 62 (Con.sw 901 61 (Con.sw 900 60 (cells_k m (by omega) (xs.getD k GCopyAt.z).region hhas))))))) rfl rfl rfl (SVs.imp_refl _) (fun _ => rfl) rfl rfl rfl fun _ _ => ?_
    refine DJ_C 7 (Con.sw 900 38 (setsOf_m (c.txs.getD i GTx.z) (xs.getD k GCopyAt.z).region (by omega))) rfl rfl rfl (SVs.imp_refl _) (fun _ => rfl) rfl rfl rfl fun _ _ => ?_
    refine DJ_onL TT_ok [8, 9] rfl ?_
    refine DJ_endA TT_ok rfl ?_
    refine T_joinA (ι := Unit) (fun _ => []) (fun _ => [(65, arrC 2 cCell GCell.z (endX d (c.txs.getD i GTx.z) (xs.getD k GCopyAt.z).region m))]) (fun _ => True) [65] [] rfl rfl ?_ ?_
    · refine T_cond (b := d) rfl (fun e3 => ?_) (fun e3 => ?_)
      · refine T_auto TT_ok rfl ?_
        refine RJ_C TT_ok (Con.sw 900 65 (install_k (cellsOf m (xs.getD k GCopyAt.z).region) (setsAt (xs.getD k GCopyAt.z).region (c.txs.getD i GTx.z).sets) (by omega) hcb s1)) rfl rfl (SVs.imp_refl _) (fun _ => rfl) rfl rfl rfl fun _ _ => ?_
        refine RJ_auto TT_ok rfl ?_
        exact X_inv () trivial Nat.zero_lt_one (by repeat (first | exact trivial | refine And.intro ⟨_, rfl, SV.imp_refl _⟩ ?_)) ⟨⟨_, rfl, imp_list (by unfold endX; rw [e3]; rfl)⟩, (by repeat (first | exact trivial | refine And.intro ⟨_, rfl, Ch.imp_refl _⟩ ?_))⟩
      · refine T_auto TT_ok rfl ?_
        refine T_drawL TT_ok [] [0, 1, 2, 3, 4, 5, 6, 7, 8] rfl rfl fun B0 H0 => ?_
        refine DJ_C 7 (Con.sw 903 63 (Con.sw 902 62 (Con.sw 901 61 (Con.sw 900 60 (logged_k m (by omega) (c.txs.getD i GTx.z).id (xs.getD k GCopyAt.z).region 1))))) rfl rfl rfl (SVs.imp_refl _) (fun _ => rfl) rfl rfl rfl fun _ _ => ?_
        refine DJ_onL TT_ok [8] rfl ?_
        refine DJ_endA TT_ok rfl ?_
        refine T_condD rfl (fun e4 => ?_) (fun e4 => ?_)
        · refine T_auto TT_ok rfl ?_
          refine RJ_C TT_ok (Con.sw 900 65 (unlock_k (cellsOf m (xs.getD k GCopyAt.z).region) (setsAt (xs.getD k GCopyAt.z).region (c.txs.getD i GTx.z).sets) (by omega) hcb s1)) rfl rfl (SVs.imp_refl _) (fun _ => rfl) rfl rfl rfl fun _ _ => ?_
          refine RJ_auto TT_ok rfl ?_
          exact X_inv () trivial Nat.zero_lt_one (by repeat (first | exact trivial | refine And.intro ⟨_, rfl, SV.imp_refl _⟩ ?_)) ⟨⟨_, rfl, imp_list (by unfold endX; rw [e3, cond_false, if_pos (show 0 ≤ logI m (c.txs.getD i GTx.z).id (xs.getD k GCopyAt.z).region 1 from e4)])⟩, (by repeat (first | exact trivial | refine And.intro ⟨_, rfl, Ch.imp_refl _⟩ ?_))⟩
        · refine T_auto TT_ok rfl ?_
          exact X_inv () trivial Nat.zero_lt_one (by repeat (first | exact trivial | refine And.intro ⟨_, rfl, SV.imp_refl _⟩ ?_)) ⟨⟨_, rfl, imp_list (by unfold endX; rw [e3, cond_false, if_neg (show ¬ 0 ≤ logI m (c.txs.getD i GTx.z).id (xs.getD k GCopyAt.z).region 1 from e4)])⟩, (by repeat (first | exact trivial | refine And.intro ⟨_, rfl, Ch.imp_refl _⟩ ?_))⟩
    rintro ⟨⟩ _
    refine X_go TT_ok rfl ?_
    refine T_drawL TT_ok [60, 62, 63] [0, 1, 2, 3, 4, 5, 6, 7] rfl rfl fun B0 H0 => ?_
    refine DJ_C 7 (Con.sw 905 67 (Con.sw 904 66 (Con.sw 903 63 (Con.sw 902 62 (Con.sw 901 61 (Con.sw 900 60 (clear_k m (by omega) (by omega) hrs (c.txs.getD i GTx.z).id (xs.getD k GCopyAt.z).region false))))))) rfl rfl rfl (SVs.imp_refl _) (fun _ => rfl) rfl rfl rfl fun _ _ => ?_
    refine DJ_endA TT_ok rfl ?_
    refine X_view (V_fold 64 1 65 rfl rfl rfl rfl rfl rfl rfl) ?_
    refine X_view (V_uncarve 61 64 rfl rfl rfl rfl rfl rfl rfl) ?_
    refine X_view (V_imp 61 rfl (imp_set (y := (putX m (xs.getD k GCopyAt.z).region (endX d (c.txs.getD i GTx.z) (xs.getD k GCopyAt.z).region m))) (OwnI.refl _)) rfl) ?_
    refine X_view (V_fold 60 1 61 rfl rfl rfl rfl rfl rfl rfl) ?_
    refine X_view (V_fold 60 2 66 rfl rfl rfl rfl rfl rfl rfl) ?_
    refine X_view (V_fold 60 3 67 rfl rfl rfl rfl rfl rfl rfl) ?_
    refine X_view (V_uncarve 902 60 rfl rfl rfl rfl rfl rfl rfl) ?_
    exact X_inv (k + 1) hk (by omega) (by repeat (first | exact trivial | refine And.intro ⟨_, rfl, SV.imp_refl _⟩ ?_)) ⟨⟨_, rfl, Ch.imp_trans (imp_set (y := clearR (setCells m (xs.getD k GCopyAt.z).region (endX d (c.txs.getD i GTx.z) (xs.getD k GCopyAt.z).region m)) (c.txs.getD i GTx.z).id (xs.getD k GCopyAt.z).region false) (OwnI.refl _)) (imp_list hS.symm)⟩, (by repeat (first | exact trivial | refine And.intro ⟨_, rfl, Ch.imp_refl _⟩ ?_))⟩
  have hk : k = xs.length := by omega
  subst hk
  have hE : endsN d (c.txs.getD i GTx.z) xs c.machines xs.length = xs.foldl (endF d (c.txs.getD i GTx.z)) c.machines := by unfold endsN; rw [List.take_length]
  rw [hE]
  refine T_view (V_carve 903 (i : Int) 77 rfl rfl rfl rfl rfl rfl ⟨by omega, by omega⟩) ?_
  refine T_view (V_pe 1 rfl rfl rfl) ?_
  refine T_auto TT_ok rfl ?_
  refine T_cond (b := d) rfl (fun e3 => ?_) (fun e3 => ?_)
  · subst e3
    refine T_fin TT_ok rfl ?_
    refine X_view (V_uncarve 903 77 rfl rfl rfl rfl rfl rfl rfl) ?_
    refine X_fin TT_ok () [] rfl rfl ?_ ?_ ?_
    · exact SVs.imp_refl _
    · exact ⟨⟨_, rfl, Ch.imp_refl _⟩, ⟨_, rfl, imp_set (y := endT true (c.txs.getD i GTx.z)) (OwnI.refl _)⟩, trivial⟩
    · trivial
  · subst e3
    refine T_view (V_uncarve 903 77 rfl rfl rfl rfl rfl rfl rfl) ?_
    refine T_skip ?_
    refine X_fin TT_ok () [] rfl rfl ?_ ?_ ?_
    · exact SVs.imp_refl _
    · exact ⟨⟨_, rfl, Ch.imp_refl _⟩, ⟨_, rfl, imp_set (y := endT false (c.txs.getD i GTx.z)) (OwnI.refl _)⟩, trivial⟩
    · trivial
end Go.Proofs.YtcikaknfogpeeaaGreat
namespace Go.Proofs.YtcikaknfogpeeaaGreat
open Go Go.RowKit
set_option linter.unusedVariables false
set_option linter.unusedSimpArgs false
set_option maxRecDepth 4000
theorem searchCopy_c (xs : List GCopy) (hl : xs.length ≤ 1048576) (s0 : Int) (c : GCopy → Int) (hm : rising c GCopy.z xs) : Con Tryz.prog 194 [] [vL 2 cCopy GCopy.z xs, vI s0, fbO (fun x => [RD.ag (cCopy x), RD.a (dI s0)]) fun x => .int .i64 (c x)] [] (cutAt c GCopy.z xs)
    (fun i => [vI i, vB (bif decide ((i : Int) < xs.length) then c (xs.getD i GCopy.z) == 0 else false)]) fun _ => [] := by
  refine con_enter Tryz.func194 rfl rfl rfl fun B0 r_ D_ w0 => ?_
  refine T_auto TT_ok rfl ?_
  refine T_loopA (ι := Nat × Nat) (fun y => [(9, vI y.1), (10, vI y.2)]) (fun _ => []) (fun y => y.1 ≤ y.2 ∧ y.2 ≤ xs.length ∧ (∀ a, a < y.1 → c (xs.getD a GCopy.z) < 0) ∧ ∀ a, y.2 ≤ a → a < xs.length → ¬ c (xs.getD a GCopy.z) < 0) (fun y => y.2 - y.1) (0, xs.length) [] [] rfl rfl ⟨Nat.zero_le _, Nat.le_refl _, fun a h => absurd h (Nat.not_lt_zero _), fun a h1 h2 => by omega⟩ (by repeat (first | exact trivial | refine And.intro ⟨_, rfl, SV.imp_refl _⟩ ?_)) (by repeat (first | exact trivial | refine And.intro ⟨_, rfl, Ch.imp_refl _⟩ ?_)) ?_
  rintro ⟨i, j⟩ ⟨h1, h2, h3, h4⟩
  dsimp only at h1 h2 h3 h4 ⊢
  refine T_auto TT_ok rfl ?_
  refine T_condD rfl (fun e => ?_) (fun e => ?_)
  · have hij : i < j := by omega
    have hh : (((i : Int) + j) / 2).toNat = (i + j) / 2 := by omega
    refine T_auto TT_ok rfl ?_
    refine RJ_of (OJ_F rfl rfl rfl ⟨xs.getD (((i : Int) + j) / 2).toNat GCopy.z, rfl, rfl⟩ (SJ_of ?_))
    refine RJ_auto TT_ok rfl ?_
    rw [hh]
    refine T_condD rfl (fun e2 => ?_) (fun e2 => ?_)
    · refine T_auto TT_ok rfl ?_
      refine X_inv ((i + j) / 2 + 1, j) ⟨by dsimp only; omega, h2, fun a ha => ?_, h4⟩ (by show j - ((i + j) / 2 + 1) < j - i; omega) ⟨⟨_, rfl, SV.imp_of (vI_eq (by dsimp only; omega))⟩, ⟨_, rfl, SV.imp_refl _⟩, (by repeat (first | exact trivial | refine And.intro ⟨_, rfl, SV.imp_refl _⟩ ?_))⟩ (by repeat (first | exact trivial | refine And.intro ⟨_, rfl, Ch.imp_refl _⟩ ?_))
      exact hm a ((i + j) / 2) (by dsimp only at ha; omega) (by omega) e2
    · refine T_auto TT_ok rfl ?_
      refine X_inv (i, (i + j) / 2) ⟨by dsimp only; omega, by dsimp only; omega, h3, fun a a1 a2 hc => ?_⟩ (by show (i + j) / 2 - i < j - i; omega) ⟨⟨_, rfl, SV.imp_refl _⟩, ⟨_, rfl, SV.imp_of (vI_eq (by dsimp only; omega))⟩, (by repeat (first | exact trivial | refine And.intro ⟨_, rfl, SV.imp_refl _⟩ ?_))⟩ (by repeat (first | exact trivial | refine And.intro ⟨_, rfl, Ch.imp_refl _⟩ ?_))
      exact e2 (hm ((i + j) / 2) a (by dsimp only at a1; omega) a2 hc)
  · have hij : i = j := by omega
    subst hij
    refine T_auto TT_ok rfl ?_
    refine RJ_of (OJ_FG rfl rfl rfl rfl rfl ⟨xs.getD i GCopy.z, rfl, rfl⟩ (SJ_of ?_))
    refine RJ_auto TT_ok rfl ?_
    refine T_ret TT_ok (i) [(6, none), (7, none)] rfl rfl ?_ ?_ ?_
    · exact SVs.imp_refl _
    · trivial
    · exact ⟨h2, h3, h4⟩
section
variable {E : Env} {mu : Mu} {TT : List TI} {fr : Fr}
end
theorem replace1_q (x : GCopy) (r : Int) : Ans Tryz.prog 195 [] [vR (cCopy x), vI r] [] (vI (ordI x.region r)) := by
  refine con_enter Tryz.func195 rfl rfl rfl fun B0 r_ D_ w0 => ?_
  refine T_auto TT_ok rfl ?_
  refine RJ_Q TT_ok (compare_q _ _) rfl rfl rfl rfl rfl ?_
  exact T_ansI TT_ok [(4, none)] rfl rfl (rfl)
end Go.Proofs.YtcikaknfogpeeaaGreat
namespace Go.Proofs.YtcikaknfogpeeaaGreat
open Go Go.RowKit
set_option linter.unusedVariables false
set_option linter.unusedSimpArgs false
set_option maxRecDepth 4000
theorem copies_pair {m : GMachine} (h : MachOk m) : m.copies.Pairwise fun a b => a.region < b.region := by
  have h3 : ∀ j, j + 1 < m.copies.length → (m.copies.getD j GCopy.z).region < (m.copies.getD (j + 1) GCopy.z).region := fun j hj => by
    have := (bif_or_false.1 (h.2.2.1 (j + 1) hj)).2
    rw [decide_eq_true (show ((j + 1 : Nat) : Int) > 0 by omega)] at this
    have := of_decide_eq_false this
    rw [show (((j + 1 : Nat) : Int) - 1).toNat = j by omega] at this
    omega
  refine pair_of (z := GCopy.z) fun a b hab hb => ?_
  induction b with
  | zero => omega
  | succ b ih =>
    have := h3 b hb
    by_cases c : a = b
    · subst c; exact this
    · have := ih (by omega) (by omega); omega
theorem cmpR_rising {m : GMachine} (h : MachOk m) (r : Int) : rising (cmpR r) GCopy.z m.copies := fun a b hab hb hc => by
  by_cases c : a = b
  · subst c; exact hc
  · have := pair_get (z := GCopy.z) (copies_pair h) (a := a) (b := b) (by omega) hb
    unfold cmpR at hc ⊢
    omega
theorem ord_cmp {a b : Int} : ordI a b < 0 ↔ a - b < 0 := by
  unfold ordI
  split
  · constructor <;> intro _ <;> omega
  · split
    · constructor <;> intro h <;> omega
    · constructor <;> intro h <;> omega
theorem cut_ord {m : GMachine} {r : Int} {i : Nat} (h : cutAt (fun x : GCopy => ordI x.region r) GCopy.z m.copies i) : cutAt (cmpR r) GCopy.z m.copies i := ⟨h.1, fun a ha => ord_cmp.1 (h.2.1 a ha), fun a ha hb hc => h.2.2 a ha hb (ord_cmp.2 hc)⟩
theorem ord_rising {m : GMachine} (h : MachOk m) (r : Int) : rising (fun x : GCopy => ordI x.region r) GCopy.z m.copies := fun a b hab hb hc => ord_cmp.2 (cmpR_rising h r a b hab hb (ord_cmp.1 hc))
theorem cut_has {m : GMachine} (h : MachOk m) {r : Int} {i : Nat} (hc : cutAt (cmpR r) GCopy.z m.copies i) : (hasB m r = true → copyI m r = i ∧ i < m.copies.length ∧ (m.copies.getD i GCopy.z).region = r) ∧ (hasB m r = false → ¬ (i < m.copies.length ∧ (m.copies.getD i GCopy.z).region = r)) := by
  obtain ⟨h1, h2, h3⟩ := hc
  refine ⟨fun hh => ?_, fun hh hc => ?_⟩
  · obtain ⟨k, hk, hb, ha⟩ := hasB_get hh
    have hrk : (m.copies.getD k GCopy.z).region = r := by simpa [atB] using ha
    have hki : k = i := by
      rcases Nat.lt_trichotomy k i with c | c | c
      · have := h2 k c; unfold cmpR at this; omega
      · exact c
      · have := pair_get (z := GCopy.z) (copies_pair h) (a := i) (b := k) c hk
        have := h3 i (Nat.le_refl _) (by omega)
        unfold cmpR at this
        omega
    subst hki
    exact ⟨idxI_at (z := GCopy.z) hk hb ha, hk, hrk⟩
  · have : hasB m r = true := List.any_eq_true.2 ⟨_, getD_mem (z := GCopy.z) hc.1, by simpa [atB] using hc.2⟩
    rw [hh] at this; cases this
theorem found_copy {m : GMachine} (h : MachOk m) {r : Int} {i : Nat} (hc : cutAt (cmpR r) GCopy.z m.copies i) : (bif decide ((i : Int) < m.copies.length) then ordI (m.copies.getD i GCopy.z).region r == 0 else false) = hasB m r := by
  obtain ⟨h1, h2⟩ := cut_has h hc
  have ho : ∀ a : Int, (ordI a r == 0) = decide (a = r) := fun a => by
    unfold ordI
    by_cases c : a < r
    · rw [if_pos c, decide_eq_false (by omega)]; rfl
    · rw [if_neg c]
      by_cases c2 : a > r
      · rw [if_pos c2, decide_eq_false (by omega)]; rfl
      · rw [if_neg c2, decide_eq_true (by omega)]; rfl
  rw [ho]
  cases e : hasB m r with
  | true =>
    obtain ⟨_, q2, q3⟩ := h1 e
    rw [decide_eq_true (by omega), decide_eq_true q3]; rfl
  | false =>
    by_cases c : (i : Int) < m.copies.length
    · rw [decide_eq_true c, decide_eq_false (fun q => h2 e ⟨by omega, q⟩)]; rfl
    · rw [decide_eq_false c]; rfl
theorem replace_k (m : GMachine) (hM : MachOk m) (r : Int) (cs : List GCell) (hc : cs.length ≤ 1048576) :
    Con Tryz.prog 120 [900, 901, 902, 903] [.a (.p 900 0), vI r, vL 2 cCell GCell.z cs] [(900, .row (rowM m 901 902 903)), (901, arrC 2 cCopy GCopy.z m.copies)] (fun _ : Unit => True) (fun _ => [])
      fun _ => [(900, .row (rowM m 904 902 903)), (904, arrC 2 cCopy GCopy.z (replM m r cs).copies)] := by
  have bk : m.copies.length ≤ 6 := hM.1.1
  refine con_enter Tryz.func120 rfl rfl rfl fun B0 r_ D_ w0 => ?_
  refine T_auto TT_ok rfl ?_
  refine RJ_C TT_ok (searchCopy_c m.copies (by omega) r (fun x => ordI x.region r) (ord_rising hM r)) rfl rfl (SVs.cons (SV.imp_refl _) (SVs.cons (SV.imp_refl _) (SVs.cons (imp_fb (enters_B (by kernel_rfl)) rfl fun args x ⟨s, h1, h2⟩ => by subst h1; subst h2; exact replace1_q s r) rfl))) (fun _ => rfl) rfl rfl rfl fun i hi => ?_
  have hi := cut_ord hi
  rw [found_copy hM hi]
  refine RJ_auto TT_ok rfl ?_
  refine RJ_C TT_ok (Con.sw 900 44 (cloneCell_m cs hc)) rfl rfl (SVs.imp_refl _) (fun _ => rfl) rfl rfl rfl fun _ _ => ?_
  refine RJ_auto TT_ok rfl ?_
  refine T_cond (b := hasB m r) rfl (fun e => ?_) (fun e => ?_)
  · obtain ⟨q1, q2, q3⟩ := (cut_has hM hi).1 e
    have hrep : replM m r cs = setCells m r cs := by unfold replM; rw [if_pos e]
    have hset : (setCells m r cs).copies = m.copies.set i ⟨r, cs⟩ := by
      show m.copies.set (copyI m r).toNat ⟨(m.copies.getD (copyI m r).toNat GCopy.z).region, cs⟩ = _
      rw [q1, Int.toNat_natCast, q3]
    rw [hrep]
    refine T_view (V_carve 901 (i : Int) 64 rfl rfl rfl rfl rfl rfl ⟨by omega, by omega⟩) ?_
    refine T_drawL TT_ok [64] [0, 1, 2, 3, 4, 5, 6, 7] rfl rfl fun B0 H0 => ?_
    refine DJ_v0 (V_pe0 29 rfl rfl rfl) ?_
    refine DJ_sw2 7 rfl (by kernel_rfl) (by kernel_rfl) (OJ_M TT_ok rfl rfl rfl rfl rfl rfl (SJ_sw [] fun B0 H0 => ?_))
    refine DJ_end (by kernel_rfl) ?_
    refine X_view (V_fold 64 1 44 rfl rfl rfl rfl rfl rfl rfl) ?_
    refine X_view (V_uncarve 901 64 rfl rfl rfl rfl rfl rfl rfl) ?_
    refine X_view (V_fold 900 1 901 rfl rfl rfl rfl rfl rfl rfl) ?_
    refine X_view (V_open 900 1 904 rfl rfl rfl rfl rfl rfl) ?_
    refine X_fin TT_ok () [] rfl rfl ?_ ?_ ?_
    · exact SVs.imp_refl _
    · exact ⟨⟨_, rfl, Ch.imp_refl _⟩, ⟨_, rfl, Ch.imp_trans (imp_set (y := (⟨r, cs⟩ : GCopy)) (OwnI.refl _)) (imp_list (by rw [hset]; simp))⟩, trivial⟩
    · trivial
  · have hrep : (replM m r cs).copies = insL i ⟨r, cs⟩ m.copies := by
      unfold replM; rw [if_neg (by rw [e]; simp), posA_eq hi]
    refine T_drawL TT_ok [901, 44] [0, 1, 2, 3, 4, 5, 6, 7, 8, 9, 10, 11] rfl rfl fun B0 H0 => ?_
    refine DJ_one 7 rfl (by kernel_rfl) (OJ_bs TT_ok 37 (fun _ => cCopy ⟨r, cs⟩) rfl rfl rfl rfl rfl rfl rfl (fun j hj => by rcases j with _ | j <;> first | rfl | omega) (mu1 := [(44, .arr 0 0 fun _ => [])]) rfl rfl rfl (SJ_dj ?_))
    refine DJ_C 8 (Con.sw 902 904 (Con.sw 900 901 (Con.sw 901 37 (insertCopy_o m.copies (by omega) i hi.1 ⟨r, cs⟩)))) rfl rfl rfl (SVs.imp_refl _) (fun _ => rfl) rfl rfl rfl fun _ _ => ?_
    refine DJ_onL TT_ok [9, 10, 11] rfl ?_
    refine DJ_sw2 11 rfl (by kernel_rfl) (by kernel_rfl) (OJ_M TT_ok rfl rfl rfl rfl rfl rfl (SJ_sw [] fun B0 H0 => ?_))
    refine DJ_end (by kernel_rfl) ?_
    refine X_fin TT_ok () [] rfl rfl ?_ ?_ ?_
    · exact SVs.imp_refl _
    · exact ⟨⟨_, rfl, Ch.imp_refl _⟩, ⟨_, rfl, imp_list hrep.symm⟩, trivial⟩
    · trivial
end Go.Proofs.YtcikaknfogpeeaaGreat
namespace Go.Proofs.YtcikaknfogpeeaaGreat
open Go Go.RowKit
set_option linter.unusedVariables false
set_option linter.unusedSimpArgs false
set_option maxRecDepth 4000
theorem copies_iff {xs : List GCopy} : (∀ j, j < xs.length → badCopy xs j = false) ↔ (∀ x ∈ xs, (0 ≤ x.region ∧ x.region ≤ 5) ∧ cellsB x.cells = true) ∧ xs.Pairwise fun a b => a.region < b.region := by
  constructor
  · intro h
    refine ⟨all_getD (z := GCopy.z) fun i hi => ?_, pair_of (z := GCopy.z) fun a b hab hb => ?_⟩
    · have h1 := (bif_or_false.1 (bif_or_false.1 (h i hi)).1)
      exact ⟨inB_iff.1 (by simpa using h1.1), by simpa using h1.2⟩
    · have h3 : ∀ j, j + 1 < xs.length → (xs.getD j GCopy.z).region < (xs.getD (j + 1) GCopy.z).region := fun j hj => by
        have := (bif_or_false.1 (h (j + 1) hj)).2
        rw [decide_eq_true (show ((j + 1 : Nat) : Int) > 0 by omega)] at this
        have := of_decide_eq_false this
        rw [show (((j + 1 : Nat) : Int) - 1).toNat = j by omega] at this
        omega
      induction b with
      | zero => omega
      | succ b ih =>
        have := h3 b hb
        by_cases c : a = b
        · subst c; exact this
        · have := ih (by omega) (by omega); omega
  · rintro ⟨h1, h2⟩ j hj
    obtain ⟨h3, h4⟩ := h1 _ (getD_mem (z := GCopy.z) hj)
    unfold badCopy
    rw [inB_iff.2 h3, h4]
    by_cases c : (j : Int) > 0
    · rw [decide_eq_true c]
      have := pair_get (z := GCopy.z) h2 (a := ((j : Int) - 1).toNat) (b := j) (by omega) hj
      rw [decide_eq_false (by omega)]; rfl
    · rw [decide_eq_false c]; rfl
theorem rise_ge {xs : List GCopy} (h : xs.Pairwise fun a b => a.region < b.region) (h0 : ∀ x ∈ xs, 0 ≤ x.region) : ∀ j, j < xs.length → (j : Int) ≤ (xs.getD j GCopy.z).region
  | 0, hj => h0 _ (getD_mem (z := GCopy.z) hj)
  | j + 1, hj => by
    have ih := rise_ge h h0 j (by omega)
    have := pair_get (z := GCopy.z) h (a := j) (b := j + 1) (by omega) hj
    omega
theorem insL_mem {α : Type} {p : Nat} {x y : α} {xs : List α} : y ∈ insL p x xs ↔ y = x ∨ y ∈ xs := by
  unfold insL
  rw [List.mem_append, List.mem_cons]
  conv => rhs; rw [← List.take_append_drop p xs, List.mem_append]
  constructor
  · rintro (h | h | h)
    · exact .inr (.inl h)
    · exact .inl h
    · exact .inr (.inr h)
  · rintro (h | h | h)
    · exact .inr (.inl h)
    · exact .inl h
    · exact .inr (.inr h)
theorem insL_any {p : Nat} {x : GCopy} {xs : List GCopy} (q : Int) : (insL p x xs).any (atB q) = (atB q x || xs.any (atB q)) := by
  unfold insL
  rw [List.any_append, List.any_cons]
  conv => rhs; rw [← List.take_append_drop p xs, List.any_append]
  cases (xs.take p).any (atB q) <;> cases atB q x <;> cases (xs.drop p).any (atB q) <;> rfl
theorem replM_alive (m : GMachine) (r : Int) (xs : List GCell) : (replM m r xs).alive = m.alive := by unfold replM; split <;> rfl
theorem replM_has (m : GMachine) (r : Int) (xs : List GCell) (q : Int) : hasB (replM m r xs) q = (hasB m q || decide (q = r)) := by
  unfold replM
  split
  · rename_i h
    rw [setCells_has]
    by_cases c : q = r
    · subst c; rw [h]; rfl
    · rw [decide_eq_false c, Bool.or_false]
  · show (insL _ _ m.copies).any (atB q) = _
    rw [insL_any, Bool.or_comm]
    congr 1
    show (r == q) = decide (q = r)
    by_cases c : q = r
    · subst c; simp
    · rw [decide_eq_false c]; simp [Ne.symm c]
theorem replM_ok {m : GMachine} (h : MachOk m) {r : Int} (hr : 0 ≤ r ∧ r ≤ 5) {xs : List GCell} (hx : cellsB xs = true) : MachOk (replM m r xs) := by
  unfold replM
  split
  · exact setCells_ok h hx
  · rename_i hh
    have hh : hasB m r = false := by simpa using hh
    have hc := posA_cut (cmpR_rising h r)
    generalize posA (cmpR r) GCopy.z m.copies = p at hc
    obtain ⟨c1, c2⟩ := copies_iff.1 h.2.2.1
    have hne : ∀ x ∈ m.copies, x.region ≠ r := fun x hx e => by
      have : hasB m r = true := List.any_eq_true.2 ⟨x, hx, by simpa [atB] using e⟩
      rw [hh] at this; cases this
    obtain ⟨p1, p2, p3⟩ := hc
    have hP : (insL p ⟨r, xs⟩ m.copies).Pairwise fun a b => a.region < b.region := by
      refine pair_of (z := GCopy.z) fun a b hab hb => ?_
      rw [insL_length p1] at hb
      rw [insL_getD p1, insL_getD p1]
      have key : ∀ i, i < m.copies.length → (i < p → (m.copies.getD i GCopy.z).region < r) ∧ (p ≤ i → r < (m.copies.getD i GCopy.z).region) := fun i hi => by
        refine ⟨fun h => ?_, fun h => ?_⟩
        · have := p2 i h; unfold cmpR at this; omega
        · have h4 := p3 i h hi
          have h5 := hne _ (getD_mem (z := GCopy.z) hi)
          unfold cmpR at h4; omega
      by_cases a1 : a < p
      · rw [if_pos a1]
        by_cases b1 : b < p
        · rw [if_pos b1]; exact pair_get (z := GCopy.z) c2 hab (by omega)
        · rw [if_neg b1]
          by_cases b2 : b < p + 1
          · rw [if_pos b2]; exact (key a (by omega)).1 a1
          · rw [if_neg b2]; exact pair_get (z := GCopy.z) c2 (by omega) (by omega)
      · rw [if_neg a1, if_neg (show ¬ b < p by omega), if_neg (show ¬ b < p + 1 by omega)]
        by_cases a2 : a < p + 1
        · rw [if_pos a2]
          exact (key (b - 1) (by omega)).2 (by omega)
        · rw [if_neg a2]
          exact pair_get (z := GCopy.z) c2 (by omega) (by omega)
    have hA : ∀ x ∈ insL p ⟨r, xs⟩ m.copies, (0 ≤ x.region ∧ x.region ≤ 5) ∧ cellsB x.cells = true := fun x hx2 => by
      rcases insL_mem.1 hx2 with rfl | hx2
      · exact ⟨hr, hx⟩
      · exact c1 x hx2
    have hL : (insL p ⟨r, xs⟩ m.copies).length ≤ 6 := by
      rcases Nat.lt_or_ge 6 (insL p ⟨r, xs⟩ m.copies).length with g | g
      · have h6 := rise_ge hP (fun x hx => (hA x hx).1.1) 6 g
        have h7 := (hA _ (getD_mem (z := GCopy.z) (i := 6) g)).1.2
        omega
      · exact g
    exact ⟨⟨hL, h.1.2.1, h.1.2.2⟩, h.2.1, copies_iff.2 ⟨hA, hP⟩, h.2.2.2⟩
theorem fillN_mem {al : List Bool} {next : List Int} : ∀ k, ∀ x ∈ fillN al next k, x ∈ next ∨ (0 ≤ x ∧ x < k ∧ al.getD x.toNat false = true)
  | 0, x, h => .inl h
  | k + 1, x, h => by
    rw [fillN] at h
    have old : x ∈ fillN al next k → x ∈ next ∨ (0 ≤ x ∧ x < ((k + 1 : Nat) : Int) ∧ al.getD x.toNat false = true) := fun h => by
      rcases fillN_mem k x h with h | h
      · exact .inl h
      · exact .inr ⟨h.1, by omega, h.2.2⟩
    cases c : al.getD k false with
    | false => rw [c] at h; exact old h
    | true =>
      rw [c] at h
      revert h
      cases (bif bif true then decide (((fillN al next k).length : Int) < 3) else false then !decide ((k : Int) ∈ fillN al next k) else false) with
      | false => exact old
      | true =>
        intro h
        rcases List.mem_append.1 h with h | h
        · exact old h
        · have h : x = (k : Int) := by simpa using h
          subst h
          exact .inr ⟨by omega, by omega, by rw [Int.toNat_natCast]; exact c⟩
theorem fillN_head {al : List Bool} {next : List Int} (h : next.length ≠ 0) : ∀ k, (fillN al next k).length ≠ 0 ∧ (fillN al next k).getD 0 0 = next.getD 0 0
  | 0 => ⟨h, rfl⟩
  | k + 1 => by
    obtain ⟨h1, h2⟩ := fillN_head h k (al := al)
    rw [fillN]
    cases (bif bif al.getD k false then decide (((fillN al next k).length : Int) < 3) else false then !decide ((k : Int) ∈ fillN al next k) else false) with
    | false => exact ⟨h1, h2⟩
    | true =>
      refine ⟨by rw [cond_true, List.length_append]; omega, ?_⟩
      rw [cond_true, ← h2]
      simp only [List.getD_eq_getElem?_getD]
      rw [List.getElem?_append_left (by omega)]
theorem lost_none {al : List Bool} {ps : List GPlace} : ∀ {n : Nat}, (lostN al ps n).length = 0 → ∀ r, r < n → (keepP al (ps.getD r GPlace.z)).length ≠ 0
  | 0, _, r, hr => absurd hr (Nat.not_lt_zero _)
  | n + 1, h, r, hr => by
    rw [lostN] at h
    split at h
    · rw [List.length_append] at h; simp at h
    · rename_i c
      by_cases e : r = n
      · subst e; exact c
      · exact lost_none h r (by omega)
abbrev fstQ (c : GCluster) (r : Nat) : Int := ((placesN c).getD r GPlace.z).machines.getD 0 0
structure NewPl (c : GCluster) (r : Nat) : Prop where
  pos : 0 < ((placesN c).getD r GPlace.z).machines.length
  le : ((placesN c).getD r GPlace.z).machines.length ≤ 3
  rng : ∀ x ∈ ((placesN c).getD r GPlace.z).machines, 0 ≤ x ∧ x < c.machines.length
  alive : ∀ x ∈ ((placesN c).getD r GPlace.z).machines, (c.machines.getD x.toNat GMachine.z).alive = true
  fst : fstQ c r ∈ (c.places.getD r GPlace.z).machines
  has : hasB (c.machines.getD (fstQ c r).toNat GMachine.z) r = true
theorem keepP_mem {c : GCluster} (hok : ClusOk c) {r : Nat} (hr : r < c.places.length) {x : Int} (hx : x ∈ keepP (aliveL c) (c.places.getD r GPlace.z)) : x ∈ (c.places.getD r GPlace.z).machines ∧ (0 ≤ x ∧ x < c.machines.length) ∧ (c.machines.getD x.toNat GMachine.z).alive = true := by
  obtain ⟨h1, h2⟩ := List.mem_filter.1 hx
  obtain ⟨k, hk, e⟩ := mem_iff_getD.1 h1
  have h3 := (hok.at hr hk).1
  have e2 : mAt c r k = x := e
  rw [e2] at h3
  refine ⟨h1, h3, ?_⟩
  unfold livesB at h2
  rw [aliveL_len, decide_eq_true h3.2, cond_true, aliveL_at c (by omega)] at h2
  exact h2
theorem newPl {c : GCluster} (hok : ClusOk c) (hl : (lostN (aliveL c) c.places c.places.length).length = 0) {r : Nat} (hr : r < c.places.length) : NewPl c r := by
  have hk := lost_none hl r hr
  have hq : ((placesN c).getD r GPlace.z).machines = fillN (aliveL c) (keepP (aliveL c) (c.places.getD r GPlace.z)) (aliveL c).length := by
    rw [placesN, getD_map' (za := GPlace.z) _ hr]
    unfold remP
    rw [if_neg hk]
  have hpl := hok.pl hr
  have hke : (keepP (aliveL c) (c.places.getD r GPlace.z)).length ≤ 3 := Nat.le_trans (List.length_filter_le _ _) hpl.2
  obtain ⟨f1, f2⟩ := fillN_head hk (al := aliveL c) (aliveL c).length
  have hm : ∀ x ∈ ((placesN c).getD r GPlace.z).machines, (0 ≤ x ∧ x < c.machines.length) ∧ (c.machines.getD x.toNat GMachine.z).alive = true := fun x hx => by
    rw [hq] at hx
    rcases fillN_mem _ x hx with h | ⟨h1, h2, h3⟩
    · exact (keepP_mem hok hr h).2
    · rw [aliveL_len] at h2
      rw [aliveL_at c (by omega)] at h3
      exact ⟨⟨h1, h2⟩, h3⟩
  have hf : fstQ c r ∈ keepP (aliveL c) (c.places.getD r GPlace.z) := by
    rw [fstQ, hq, f2]; exact getD_mem (z := 0) (by omega)
  obtain ⟨g1, g2, g3⟩ := keepP_mem hok hr hf
  obtain ⟨k, hk2, e⟩ := mem_iff_getD.1 g1
  have h3 := (hok.at hr hk2).2
  have e2 : mAt c r k = fstQ c r := e
  unfold machAt at h3
  rw [e2] at h3
  exact ⟨by rw [hq]; omega, by rw [hq]; exact fillN_le hke _, fun x hx => (hm x hx).1, fun x hx => (hm x hx).2, g1, h3 g3⟩
structure More (ms ns : List GMachine) : Prop where
  len : ns.length = ms.length
  ok : ∀ j, j < ns.length → MachOk (ns.getD j GMachine.z) ∧ (ns.getD j GMachine.z).alive = (ms.getD j GMachine.z).alive ∧ ∀ q, hasB (ms.getD j GMachine.z) q = true → hasB (ns.getD j GMachine.z) q = true
theorem Like.more {ms ns : List GMachine} (h : Like ms ns) : More ms ns := ⟨h.len, fun j hj => ⟨(h.ok j hj).1, (h.ok j hj).2.1, fun q hq => by rw [(h.ok j hj).2.2]; exact hq⟩⟩
theorem More.set {ms ns : List GMachine} (h : More ms ns) {m : Int} (hm : 0 ≤ m ∧ m < ms.length) {r : Int} (hr : 0 ≤ r ∧ r ≤ 5) {xs : List GCell} (hx : cellsB xs = true) : More ms (ns.set m.toNat (replM (ns.getD m.toNat GMachine.z) r xs)) := by
  have hlt : m.toNat < ns.length := by rw [h.len]; omega
  refine ⟨by rw [List.length_set]; exact h.len, fun j hj => ?_⟩
  rw [List.length_set] at hj
  rw [set_get hlt]
  split
  · rename_i e
    subst e
    obtain ⟨q1, q2, q3⟩ := h.ok _ hj
    exact ⟨replM_ok q1 hr hx, (replM_alive _ _ _).trans q2, fun q hq => by rw [replM_has, q3 q hq]; rfl⟩
  · exact h.ok j hj
theorem newAt_fst {old l : List Int} {r : Int} {xs : List GCell} {p : Int} (hp : p ∈ old) (hp0 : 0 ≤ p) (hl : ∀ x ∈ l, 0 ≤ x) {ms : List GMachine} : ∀ k, k ≤ l.length → (newAt old l r xs k ms).getD p.toNat GMachine.z = ms.getD p.toNat GMachine.z
  | 0, _ => rfl
  | k + 1, hk => by
    have ih := newAt_fst hp hp0 hl (xs := xs) (r := r) (ms := ms) k (by omega)
    rw [newAt]
    split
    · exact ih
    · rename_i hn
      have hne : l.getD k 0 ≠ p := fun e => hn (e ▸ hp)
      have h0 := hl _ (getD_mem (z := 0) (show k < l.length by omega))
      rw [← ih]
      simp only [List.getD_eq_getElem?_getD]
      rw [List.getElem?_set_ne (by simp only [List.getD_eq_getElem?_getD] at hne h0; omega)]
theorem newAt_more {ms0 ms : List GMachine} {old l : List Int} {r : Int} (hr : 0 ≤ r ∧ r ≤ 5) {xs : List GCell} (hx : cellsB xs = true) (hl : ∀ x ∈ l, 0 ≤ x ∧ x < ms0.length) (h : More ms0 ms) : ∀ k, k ≤ l.length → More ms0 (newAt old l r xs k ms)
  | 0, _ => h
  | k + 1, hk => by
    have ih := newAt_more hr hx hl h (old := old) k (by omega)
    rw [newAt]
    split
    · exact ih
    · exact ih.set (hl _ (getD_mem (z := 0) (by omega))) hr hx
theorem newN_more {c : GCluster} (hok : ClusOk c) (hl : (lostN (aliveL c) c.places c.places.length).length = 0) {ms : List GMachine} (h : More c.machines ms) : ∀ r, r ≤ c.places.length → More c.machines (newN c.places (placesN c) r ms)
  | 0, _ => h
  | r + 1, hr => by
    have ih := newN_more hok hl h r (by omega)
    have np := newPl hok hl (r := r) (by omega)
    have h5 := hok.2.1.1.2
    have hf : 0 ≤ fstQ c r ∧ fstQ c r < c.machines.length := np.rng _ (getD_mem (z := 0) np.pos)
    obtain ⟨q1, q2, q3⟩ := ih.ok (fstQ c r).toNat (by rw [ih.len]; omega)
    rw [newN]
    exact newAt_more (by omega) (cellsOf_len q1 (q3 _ np.has)).2 np.rng ih _ (Nat.le_refl _)
end Go.Proofs.YtcikaknfogpeeaaGreat
namespace Go.Proofs.YtcikaknfogpeeaaGreat
open Go Go.RowKit
set_option linter.unusedVariables false
set_option linter.unusedSimpArgs false
set_option maxRecDepth 4000
theorem X_T {E : Env} {mu : Mu} {fr : Fr} {R : Exit → Act → World → Prop} {K : List KF} {c : Code} (h : T E R c fr mu K) : X E R (.code c K) fr mu := fun B a w H f m => h B a w H f m
theorem RecIn.eq {c d : GCluster} {i : Nat} (h : RecIn c d i) : d = cwt c c.clock d.machines d.txs := by
  have h1 := h.config; have h2 := h.clock; have h3 := h.places; have h4 := h.lost
  cases d
  simp only at h1 h2 h3 h4
  subst h1; subst h2; subst h3; subst h4
  rfl
theorem recN_yes {c : GCluster} {i : Nat} (h : strB c (c.txs.getD i GTx.z) = true) : recN c (i + 1) = resC (recN c i) i := by rw [recN, if_pos h]
theorem recN_no {c : GCluster} {i : Nat} (h : strB c (c.txs.getD i GTx.z) = false) : recN c (i + 1) = recN c i := by rw [recN, if_neg (by rw [h]; simp)]
theorem replM_c (m : GMachine) (r : Int) (xs : List GCell) : cMachine (replM m r xs) = [.v (.bool m.alive), .sl 2 (replM m r xs).copies.length (fun i => cCopy ((replM m r xs).copies.getD i GCopy.z)), .sl 4 m.log.length (fun i => cRecord (m.log.getD i GRecord.z)), .sl 1 m.cleared.length (fun i => cInt (m.cleared.getD i 0))] := by unfold replM; split <;> rfl
theorem nbeq {a b : Nat} (h : a ≠ b) : Nat.beq a b = false := by
  cases e : Nat.beq a b with
  | false => rfl
  | true => exact absurd (Nat.eq_of_beq_eq_true e) h
abbrev pCopy (m : GMachine) (r : Int) (v : Value) : List D := [.v (.int .i64 (m.copies.getD (copyI m r).toNat GCopy.z).region), .v v]
abbrev pMach (m : GMachine) (r : Int) (v : Value) : List D := [.v (.bool m.alive), .sl 2 m.copies.length (fun i => bif Nat.beq i (copyI m r).toNat then pCopy m r v else cCopy (m.copies.getD i GCopy.z)), .sl 4 m.log.length (fun i => cRecord (m.log.getD i GRecord.z)), .sl 1 m.cleared.length (fun i => cInt (m.cleared.getD i 0))]
abbrev pArr (ms : List GMachine) (p : Int) (P : List D) : Ch := .arr 4 ms.length fun j => bif Nat.beq j p.toNat then P else cMachine (ms.getD j GMachine.z)
abbrev rowO (m : GMachine) : List V := [.v (.bool m.alive), .s .o 2 m.copies.length (fun i => cCopy (m.copies.getD i GCopy.z)), .s .o 4 m.log.length (fun i => cRecord (m.log.getD i GRecord.z)), .s .o 1 m.cleared.length (fun i => cInt (m.cleared.getD i 0))]
theorem lay_out {ms : List GMachine} {p : Int} {P : List D} {m : Int} (h : m.toNat ≠ p.toNat) : layD .o ((fun j => bif Nat.beq j p.toNat then P else cMachine (ms.getD j GMachine.z)) m.toNat) = some (rowO (ms.getD m.toNat GMachine.z)) := by
  show layD .o (bif Nat.beq m.toNat p.toNat then P else cMachine (ms.getD m.toNat GMachine.z)) = _
  rw [nbeq h]; rfl
theorem lay_at {ms : List GMachine} {p : Int} (m : GMachine) (r : Int) (v : Value) : layD .o ((fun j => bif Nat.beq j p.toNat then pMach m r v else cMachine (ms.getD j GMachine.z)) p.toNat) = some [.v (.bool m.alive), .s .o 2 m.copies.length (fun i => bif Nat.beq i (copyI m r).toNat then pCopy m r v else cCopy (m.copies.getD i GCopy.z)), .s .o 4 m.log.length (fun i => cRecord (m.log.getD i GRecord.z)), .s .o 1 m.cleared.length (fun i => cInt (m.cleared.getD i 0))] := by
  show layD .o (bif Nat.beq p.toNat p.toNat then pMach m r v else cMachine (ms.getD p.toNat GMachine.z)) = _
  rw [Nat.beq_refl]; rfl
theorem lay_cp (m : GMachine) (r : Int) (v : Value) : layD .o ((fun i => bif Nat.beq i (copyI m r).toNat then pCopy m r v else cCopy (m.copies.getD i GCopy.z)) (copyI m r).toNat) = some [.v (.int .i64 (m.copies.getD (copyI m r).toNat GCopy.z).region), .v v] := by
  show layD .o (bif Nat.beq (copyI m r).toNat (copyI m r).toNat then pCopy m r v else cCopy (m.copies.getD (copyI m r).toNat GCopy.z)) = _
  rw [Nat.beq_refl]; rfl
theorem imp_out {ns : List GMachine} {p x : Int} {P l : List D} {M : GMachine} {r : Int} {cs : List GCell} (hx : x.toNat < ns.length) (hne : x.toNat ≠ p.toNat) (hl : l = cMachine (replM M r cs)) : (Ch.arr 4 ns.length fun j => bif Nat.beq j x.toNat then l else (bif Nat.beq j p.toNat then P else cMachine (ns.getD j GMachine.z))).imp (pArr (ns.set x.toNat (replM M r cs)) p P) := by
  have e : (ns.set x.toNat (replM M r cs)).length = ns.length := List.length_set
  unfold pArr
  rw [e]
  refine Ch.imp_arr fun j hj => ?_
  rw [set_get hx]
  by_cases c1 : j = x.toNat
  · subst c1; rw [Nat.beq_refl, nbeq hne, if_pos rfl, hl]; rfl
  · rw [nbeq c1, if_neg c1]; rfl
theorem imp_back {ns : List GMachine} {p r : Int} {v : Value} {m : GMachine} {cs : List GCell} (hp : ns.getD p.toNat GMachine.z = m) (hcs : cs = (m.copies.getD (copyI m r).toNat GCopy.z).cells) :
    (Ch.arr 4 ns.length fun j => bif Nat.beq j p.toNat then [.v (.bool m.alive), .sl 2 m.copies.length (fun i => bif Nat.beq i (copyI m r).toNat then [.v (.int .i64 (m.copies.getD (copyI m r).toNat GCopy.z).region), .sl 2 cs.length fun i => cCell (cs.getD i GCell.z)] else (bif Nat.beq i (copyI m r).toNat then pCopy m r v else cCopy (m.copies.getD i GCopy.z))), .sl 4 m.log.length (fun i => cRecord (m.log.getD i GRecord.z)), .sl 1 m.cleared.length (fun i => cInt (m.cleared.getD i 0))] else (bif Nat.beq j p.toNat then pMach m r v else cMachine (ns.getD j GMachine.z))).imp (arrC 4 cMachine GMachine.z ns) := by
  refine Ch.imp_arr fun j hj => ?_
  by_cases c1 : j = p.toNat
  · subst c1
    rw [Nat.beq_refl, hp]
    have hc : (fun i => bif Nat.beq i (copyI m r).toNat then [.v (.int .i64 (m.copies.getD (copyI m r).toNat GCopy.z).region), .sl 2 cs.length fun i => cCell (cs.getD i GCell.z)] else (bif Nat.beq i (copyI m r).toNat then pCopy m r v else cCopy (m.copies.getD i GCopy.z))) = fun i => cCopy (m.copies.getD i GCopy.z) := by
      funext i
      by_cases c2 : i = (copyI m r).toNat
      · rw [c2, Nat.beq_refl, hcs]; rfl
      · rw [nbeq c2]; rfl
    rw [hc]; rfl
  · rw [nbeq c1]; rfl
theorem imp_same {α : Type} {sz i : Nat} {enc : α → List D} {z : α} {xs : List α} {l : List D} (hl : l = enc (xs.getD i z)) : (Ch.arr sz xs.length fun j => bif Nat.beq j i then l else enc (xs.getD j z)).imp (arrC sz enc z xs) := Ch.imp_arr fun j hj => by
  by_cases c1 : j = i
  · subst c1; rw [Nat.beq_refl, hl]; rfl
  · rw [nbeq c1]; rfl
abbrev lostC (c : GCluster) : List Int := lostN (aliveL c) c.places c.places.length
theorem recover_lost_k (c : GCluster) (hok : ClusOk c) (hl : (lostC c).length > 0) :
    Con Tryz.prog 49 [900, 901, 902, 903] [.a (.p 900 0)] [(900, .row (rowC c 901 902 903)), (901, roC 1 cPlace GPlace.z c.places), (902, arrC 4 cMachine GMachine.z c.machines), (903, arrC 7 cTx GTx.z c.txs)]
      (fun _ : Unit => True) (fun _ => []) fun _ => [(900, .row (rowC { c with lost := true } 901 902 903)), (902, arrC 4 cMachine GMachine.z c.machines), (903, arrC 7 cTx GTx.z c.txs)] := by
  have hml := hok.1.2.2.1
  have hal := aliveL_len c
  refine con_enter Tryz.func49 rfl rfl rfl fun B0 r_ D_ w0 => ?_
  refine T_auto TT_ok rfl ?_
  refine T_drawL TT_ok [] [0, 1, 2, 3, 4, 5, 6, 7, 8, 9, 10, 11] rfl rfl fun B0 H0 => ?_
  refine DJ_C 5 (Con.sw 900 50 (alive_m c (by omega))) rfl rfl rfl (SVs.imp_refl _) (fun _ => rfl) rfl rfl rfl fun _ _ => ?_
  refine DJ_C 6 (Con.sw 910 51 (Con.sw 911 52 (remap_m c.places hok.2.1 (aliveL c) (by omega)))) rfl rfl rfl (SVs.imp_refl _) (fun _ => rfl) rfl rfl rfl fun _ _ => ?_
  refine DJ_onL TT_ok [7, 8, 9, 10, 11] rfl ?_
  refine DJ_endA TT_ok rfl ?_
  refine T_condD rfl (fun _ => ?_) (fun e => absurd (by show ((lostC c).length : Int) > 0; omega) e)
  refine T_auto TT_ok rfl ?_
  refine T_ret TT_ok (()) [] rfl rfl ?_ ?_ ?_
  · exact SVs.imp_refl _
  · exact ⟨⟨_, rfl, Ch.imp_refl _⟩, ⟨_, rfl, Ch.imp_refl _⟩, ⟨_, rfl, Ch.imp_refl _⟩, trivial⟩
  · trivial
set_option maxHeartbeats 2000000 in
theorem recover_go_k (c : GCluster) (hok : ClusOk c) (hl : (lostC c).length = 0) (hcf : c.config ≠ 1000000) :
    Con Tryz.prog 49 [900, 901, 902, 903] [.a (.p 900 0)] [(900, .row (rowC c 901 902 903)), (901, roC 1 cPlace GPlace.z c.places), (902, arrC 4 cMachine GMachine.z c.machines), (903, arrC 7 cTx GTx.z c.txs)]
      (fun _ : Unit => True) (fun _ => []) fun _ => [(900, .row (rowC { c with config := c.config + 1 } 910 902 903)), (910, arrC 1 cPlace GPlace.z (placesN c)), (902, arrC 4 cMachine GMachine.z (newN c.places (placesN c) c.places.length (recN c c.txs.length).machines)), (903, arrC 7 cTx GTx.z (recN c c.txs.length).txs)] := by
  have hml := hok.1.2.2.1
  have htl := hok.1.2.2.2
  have hcg := hok.1.1
  have hal := aliveL_len c
  have hp6 := hok.2.1.1
  have hbd := clusOk_bd hok
  have hql : (placesN c).length = c.places.length := List.length_map _
  refine con_enter Tryz.func49 rfl rfl rfl fun B0 r_ D_ w0 => ?_
  refine T_auto TT_ok rfl ?_
  refine T_drawL TT_ok [] [0, 1, 2, 3, 4, 5, 6, 7, 8, 9, 10, 11] rfl rfl fun B0 H0 => ?_
  refine DJ_C 5 (Con.sw 900 50 (alive_m c (by omega))) rfl rfl rfl (SVs.imp_refl _) (fun _ => rfl) rfl rfl rfl fun _ _ => ?_
  refine DJ_C 6 (Con.sw 911 52 (remap_m c.places hok.2.1 (aliveL c) (by omega))) rfl rfl rfl (SVs.imp_refl _) (fun _ => rfl) rfl rfl rfl fun _ _ => ?_
  refine DJ_onL TT_ok [7, 8, 9, 10, 11] rfl ?_
  refine DJ_endA TT_ok rfl ?_
  refine T_condD rfl (fun e => absurd e (by show ¬ ((lostC c).length : Int) > 0; omega)) (fun _ => ?_)
  refine T_auto TT_ok rfl ?_
  refine T_loopA (ι := Nat) (fun i => [(32, vI i)]) (fun i => [(902, arrC 4 cMachine GMachine.z (recN c i).machines), (903, arrC 7 cTx GTx.z (recN c i).txs)]) (fun i => i ≤ c.txs.length) (fun i => c.txs.length - i) 0 [902, 903] [] rfl rfl (Nat.zero_le _) (by repeat (first | exact trivial | refine And.intro ⟨_, rfl, SV.imp_refl _⟩ ?_)) (by repeat (first | exact trivial | refine And.intro ⟨_, rfl, Ch.imp_refl _⟩ ?_)) ?_
  intro i h1
  have hR := recN_in hok i h1
  have hE := hR.eq
  have hlen := hR.len
  have hokd := hR.ok hok
  rw [hE] at hokd
  have hms : (recN c i).machines.length = c.machines.length := hR.like.len
  refine T_auto TT_ok rfl ?_
  refine T_condD rfl (fun e => ?_) (fun e => ?_)
  · have hi : i < c.txs.length := by omega
    have hti := hR.rest i (Nat.le_refl _)
    have hin : TxIn (cwt c c.clock (recN c i).machines (recN c i).txs) (c.txs.getD i GTx.z) := by
      rw [← hti]; exact hokd.txIn (by show i < (recN c i).txs.length; omega)
    have hst : strB (cwt c c.clock (recN c i).machines (recN c i).txs) (c.txs.getD i GTx.z) = strB c (c.txs.getD i GTx.z) := by rw [← hE]; exact like_str hR.like hR.places _
    have hbq := clusOk_bd hokd
    have hin2 : TxIn (cwt c c.clock (recN c i).machines (recN c i).txs) ((recN c i).txs.getD i GTx.z) := by rw [hti]; exact hin
    refine T_auto TT_ok rfl ?_
    refine RJ_Q TT_ok (impl_stricken_q (cwt c c.clock (recN c i).machines (recN c i).txs) hbq hokd ((recN c i).txs.getD i GTx.z) hin2) rfl rfl rfl rfl rfl ?_
    rw [hti, hst]
    refine T_cond rfl (fun e2 => ?_) (fun e2 => ?_)
    · have hS := recN_yes e2
      refine T_auto TT_ok rfl ?_
      refine RJ_C TT_ok (resolve_k (cwt c c.clock (recN c i).machines (recN c i).txs) hokd i (by show i < (recN c i).txs.length; omega)) rfl rfl (SVs.imp_refl _) (fun _ => rfl) rfl rfl rfl (fun _ _ => ?_) (hin := by repeat (first | exact trivial | refine And.intro ⟨_, rfl, ro_arr⟩ ?_ | refine And.intro ⟨_, rfl, ro_ro⟩ ?_ | refine And.intro ⟨_, rfl, ro_row⟩ ?_ | refine And.intro ⟨_, rfl, ro_rrow⟩ ?_ | refine And.intro ⟨_, rfl, Ch.imp_refl _⟩ ?_))
      refine RJ_auto TT_ok rfl ?_
      exact X_inv (i + 1) hi (by omega) (by repeat (first | exact trivial | refine And.intro ⟨_, rfl, SV.imp_refl _⟩ ?_)) ⟨⟨_, rfl, imp_list (by rw [hS, ← hE])⟩, ⟨_, rfl, imp_list (by rw [hS, ← hE])⟩, (by repeat (first | exact trivial | refine And.intro ⟨_, rfl, Ch.imp_refl _⟩ ?_))⟩
    · have hS := recN_no e2
      refine T_auto TT_ok rfl ?_
      exact X_inv (i + 1) hi (by omega) (by repeat (first | exact trivial | refine And.intro ⟨_, rfl, SV.imp_refl _⟩ ?_)) ⟨⟨_, rfl, imp_list (by rw [hS])⟩, ⟨_, rfl, imp_list (by rw [hS])⟩, (by repeat (first | exact trivial | refine And.intro ⟨_, rfl, Ch.imp_refl _⟩ ?_))⟩
  have hi : i = c.txs.length := by omega
  subst hi
  clear hE hokd hlen hms e h1
  have hM0 : More c.machines (recN c c.txs.length).machines := hR.like.more
  generalize (recN c c.txs.length).machines = ms0 at hM0 ⊢
  generalize (recN c c.txs.length).txs = ts0
  refine T_auto TT_ok rfl ?_
  refine T_loopA (ι := Nat) (fun r => [(50, vI r)]) (fun r => [(902, arrC 4 cMachine GMachine.z (newN c.places (placesN c) r ms0)), (910, arrC 1 cPlace GPlace.z (placesN c))]) (fun r => r ≤ c.places.length) (fun r => c.places.length - r) 0 [902, 910] [] rfl rfl (Nat.zero_le _) (by repeat (first | exact trivial | refine And.intro ⟨_, rfl, SV.imp_refl _⟩ ?_)) (by repeat (first | exact trivial | refine And.intro ⟨_, rfl, Ch.imp_refl _⟩ ?_)) ?_
  intro r h1
  refine T_auto TT_ok rfl ?_
  refine T_condD rfl (fun e => ?_) (fun e => ?_)
  · have e : (r : Int) < ((placesN c).length : Int) := e
    have hr : r < c.places.length := by omega
    have np := newPl hok hl hr
    have hMr := newN_more hok hl hM0 r (by omega)
    have hnw : newN c.places (placesN c) (r + 1) ms0 = newAt (c.places.getD r GPlace.z).machines ((placesN c).getD r GPlace.z).machines (r : Int) (cellsOf ((newN c.places (placesN c) r ms0).getD (fstQ c r).toNat GMachine.z) (r : Int)) ((placesN c).getD r GPlace.z).machines.length (newN c.places (placesN c) r ms0) := rfl
    generalize newN c.places (placesN c) r ms0 = ms at hMr hnw ⊢
    have hf : 0 ≤ fstQ c r ∧ fstQ c r < c.machines.length := np.rng _ (getD_mem (z := 0) np.pos)
    have hf2 : 0 ≤ fstQ c r ∧ fstQ c r < ms.length := by rw [hMr.len]; exact hf
    obtain ⟨hMo, hMa, hMh⟩ := hMr.ok (fstQ c r).toNat (by rw [hMr.len]; omega)
    have hhas := hMh _ np.has
    have hpl := hok.pl hr
    have hq3 := np.le
    have hq0 := np.pos
    have hrng := np.rng
    have hfo := np.fst
    generalize hm : ms.getD (fstQ c r).toNat GMachine.z = m at hMo hhas ⊢
    rw [hm] at hnw
    have bk : m.copies.length ≤ 6 := hMo.1.1
    obtain ⟨hc6, hcb⟩ := cellsOf_len hMo hhas
    refine T_view (V_carve 910 (r : Int) 70 rfl rfl rfl rfl rfl rfl ⟨by omega, by omega⟩) ?_
    refine T_view (V_open 70 0 71 rfl rfl rfl rfl rfl rfl) ?_
    refine T_view (V_carve 902 (fstQ c r) 60 rfl rfl rfl rfl rfl rfl hf2) ?_
    rw [hm]
    refine T_view (V_open 60 1 61 rfl rfl rfl rfl rfl rfl) ?_
    refine T_view (V_open 60 2 62 rfl rfl rfl rfl rfl rfl) ?_
    refine T_view (V_open 60 3 63 rfl rfl rfl rfl rfl rfl) ?_
    refine T_auto TT_ok rfl ?_
    refine RJ_view (V_pe 53 rfl rfl rfl) ?_
    refine RJ_auto TT_ok rfl ?_
    refine T_drawL TT_ok [61] [0, 1, 2, 3, 4, 5, 6, 7, 8, 9, 10, 11] rfl rfl fun B0 H0 => ?_
    refine DJ_v0 (V_pe0 63 rfl rfl rfl) ?_
    refine DJ_C 10 (Con.sw 905 65 (Con.sw 904 64 (Con.sw 903 63 (Con.sw 902 62 (Con.sw 901 61 (Con.sw 900 60 (cells_k m (by omega) (r : Int) hhas))))))) rfl rfl rfl (SVs.imp_refl _) (fun _ => rfl) rfl rfl rfl fun _ _ => ?_
    refine DJ_onL TT_ok [11] rfl ?_
    refine DJ_endA TT_ok rfl ?_
    refine T_anchor 65 rfl fun v => ?_
    refine T_view (V_gv 64 65 (v := v) rfl rfl rfl rfl) ?_
    refine T_view (V_uncarve 61 64 rfl rfl rfl rfl rfl rfl rfl) ?_
    refine T_view (V_fold 60 1 61 rfl rfl rfl rfl rfl rfl rfl) ?_
    refine T_view (V_fold 60 2 62 rfl rfl rfl rfl rfl rfl rfl) ?_
    refine T_view (V_fold 60 3 63 rfl rfl rfl rfl rfl rfl rfl) ?_
    refine T_view (V_uncarve 902 60 rfl rfl rfl rfl rfl rfl rfl) ?_
    generalize hcs : cellsOf m (r : Int) = cs at hc6 hcb hnw ⊢
    refine T_auto TT_ok rfl ?_
    refine T_loopA (ι := Nat) (fun k => [(69, vI k)]) (fun k => [(902, pArr (newAt (c.places.getD r GPlace.z).machines ((placesN c).getD r GPlace.z).machines (r : Int) cs k ms) (fstQ c r) (pMach m (r : Int) v))]) (fun k => k ≤ ((placesN c).getD r GPlace.z).machines.length) (fun k => ((placesN c).getD r GPlace.z).machines.length - k) 0 [902] [] rfl rfl (Nat.zero_le _) (by repeat (first | exact trivial | refine And.intro ⟨_, rfl, SV.imp_refl _⟩ ?_)) (by repeat (first | exact trivial | refine And.intro ⟨_, rfl, Ch.imp_refl _⟩ ?_)) ?_
    intro k h2
    refine T_auto TT_ok rfl ?_
    refine T_condD rfl (fun e2 => ?_) (fun e2 => ?_)
    · have e2 : (k : Int) < (((placesN c).getD r GPlace.z).machines.length : Int) := e2
      have hk : k < ((placesN c).getD r GPlace.z).machines.length := by omega
      have hx := hrng _ (getD_mem (z := 0) hk)
      have hMk := newAt_more (old := (c.places.getD r GPlace.z).machines) (l := ((placesN c).getD r GPlace.z).machines) (r := (r : Int)) (by omega) hcb hrng hMr k (by omega)
      have hnk : newAt (c.places.getD r GPlace.z).machines ((placesN c).getD r GPlace.z).machines (r : Int) cs (k + 1) ms = if ((placesN c).getD r GPlace.z).machines.getD k 0 ∈ (c.places.getD r GPlace.z).machines then newAt (c.places.getD r GPlace.z).machines ((placesN c).getD r GPlace.z).machines (r : Int) cs k ms else (newAt (c.places.getD r GPlace.z).machines ((placesN c).getD r GPlace.z).machines (r : Int) cs k ms).set (((placesN c).getD r GPlace.z).machines.getD k 0).toNat (replM ((newAt (c.places.getD r GPlace.z).machines ((placesN c).getD r GPlace.z).machines (r : Int) cs k ms).getD (((placesN c).getD r GPlace.z).machines.getD k 0).toNat GMachine.z) (r : Int) cs) := rfl
      generalize newAt (c.places.getD r GPlace.z).machines ((placesN c).getD r GPlace.z).machines (r : Int) cs k ms = ns at hMk hnk ⊢
      have hx2 : 0 ≤ ((placesN c).getD r GPlace.z).machines.getD k 0 ∧ ((placesN c).getD r GPlace.z).machines.getD k 0 < ns.length := by rw [hMk.len]; exact hx
      obtain ⟨hMx, _, _⟩ := hMk.ok (((placesN c).getD r GPlace.z).machines.getD k 0).toNat (by rw [hMk.len]; omega)
      by_cases hin : ((placesN c).getD r GPlace.z).machines.getD k 0 ∈ (c.places.getD r GPlace.z).machines
      · rw [if_pos hin] at hnk
        refine T_auto TT_ok rfl ?_
        refine RJ_Q TT_ok (contains_Int_q (c.places.getD r GPlace.z).machines (by omega) (((placesN c).getD r GPlace.z).machines.getD k 0)) rfl rfl rfl rfl rfl ?_
        refine T_cond rfl (fun e3 => by rw [decide_eq_true hin] at e3; cases e3) (fun _ => ?_)
        refine T_auto TT_ok rfl ?_
        exact X_inv (k + 1) hk (by omega) (by repeat (first | exact trivial | refine And.intro ⟨_, rfl, SV.imp_refl _⟩ ?_)) ⟨⟨_, rfl, by rw [hnk]; exact Ch.imp_refl _⟩, (by repeat (first | exact trivial | refine And.intro ⟨_, rfl, Ch.imp_refl _⟩ ?_))⟩
      · rw [if_neg hin] at hnk
        have hne : (((placesN c).getD r GPlace.z).machines.getD k 0).toNat ≠ (fstQ c r).toNat := fun e => hin (by
          have : ((placesN c).getD r GPlace.z).machines.getD k 0 = fstQ c r := by omega
          rw [this]; exact hfo)
        refine T_auto TT_ok rfl ?_
        refine RJ_Q TT_ok (contains_Int_q (c.places.getD r GPlace.z).machines (by omega) (((placesN c).getD r GPlace.z).machines.getD k 0)) rfl rfl rfl rfl rfl ?_
        refine T_cond rfl (fun _ => ?_) (fun e3 => by rw [decide_eq_false hin] at e3; cases e3)
        refine T_view (V_carve 902 (((placesN c).getD r GPlace.z).machines.getD k 0) 80 rfl (lay_out hne) rfl rfl rfl rfl hx2) ?_
        generalize hM : ns.getD (((placesN c).getD r GPlace.z).machines.getD k 0).toNat GMachine.z = M at hMx hnk ⊢
        refine T_view (V_open 80 1 81 rfl rfl rfl rfl rfl rfl) ?_
        refine T_view (V_open 80 2 82 rfl rfl rfl rfl rfl rfl) ?_
        refine T_view (V_open 80 3 83 rfl rfl rfl rfl rfl rfl) ?_
        refine T_auto TT_ok rfl ?_
        refine RJ_view (V_pe 89 rfl rfl rfl) ?_
        refine RJ_C TT_ok (Con.sw 904 84 (Con.sw 903 83 (Con.sw 902 82 (Con.sw 901 81 (Con.sw 900 80 (replace_k M hMx (r : Int) cs (by omega))))))) rfl rfl (SVs.imp_refl _) (fun _ => rfl) rfl rfl rfl fun _ _ => ?_
        refine RJ_auto TT_ok rfl ?_
        refine X_view (V_fold 80 1 84 rfl rfl rfl rfl rfl rfl rfl) ?_
        refine X_view (V_fold 80 2 82 rfl rfl rfl rfl rfl rfl rfl) ?_
        refine X_view (V_fold 80 3 83 rfl rfl rfl rfl rfl rfl rfl) ?_
        refine X_view (V_uncarve 902 80 rfl rfl rfl rfl rfl rfl rfl) ?_
        exact X_inv (k + 1) hk (by omega) (by repeat (first | exact trivial | refine And.intro ⟨_, rfl, SV.imp_refl _⟩ ?_)) ⟨⟨_, rfl, by rw [hnk]; exact imp_out (by omega) hne (replM_c M (r : Int) cs).symm⟩, (by repeat (first | exact trivial | refine And.intro ⟨_, rfl, Ch.imp_refl _⟩ ?_))⟩
    have e2 : ¬ (k : Int) < (((placesN c).getD r GPlace.z).machines.length : Int) := e2
    have hk : k = ((placesN c).getD r GPlace.z).machines.length := by omega
    subst hk
    have hMk := newAt_more (old := (c.places.getD r GPlace.z).machines) (l := ((placesN c).getD r GPlace.z).machines) (r := (r : Int)) (by omega) hcb hrng hMr _ (Nat.le_refl _)
    have hfk := newAt_fst (r := (r : Int)) (xs := cs) (ms := ms) hfo hf.1 (fun x hx => (hrng x hx).1) _ (Nat.le_refl _)
    rw [hm] at hfk
    generalize newAt (c.places.getD r GPlace.z).machines ((placesN c).getD r GPlace.z).machines (r : Int) cs ((placesN c).getD r GPlace.z).machines.length ms = ns at hMk hnw hfk ⊢
    have hix : 0 ≤ copyI m r ∧ copyI m r < m.copies.length := hasB_idx hhas
    have hcs2 : cs = (m.copies.getD (copyI m r).toNat GCopy.z).cells := by rw [← hcs]; exact cellsOf_has hhas
    refine T_view (V_carve 902 (fstQ c r) 90 rfl (lay_at m (r : Int) v) rfl rfl rfl rfl (by rw [hMk.len]; exact hf)) ?_
    refine T_view (V_open 90 1 91 rfl rfl rfl rfl rfl rfl) ?_
    refine T_view (V_carve 91 (copyI m r) 94 rfl (lay_cp m (r : Int) v) rfl rfl rfl rfl hix) ?_
    refine T_view (V_vg 94 65 (v := v) rfl rfl rfl rfl rfl) ?_
    refine T_view (V_fold 94 1 65 rfl rfl rfl rfl rfl rfl rfl) ?_
    refine T_view (V_uncarve 91 94 rfl rfl rfl rfl rfl rfl rfl) ?_
    refine T_view (V_fold 90 1 91 rfl rfl rfl rfl rfl rfl rfl) ?_
    refine T_view (V_uncarve 902 90 rfl rfl rfl rfl rfl rfl rfl) ?_
    refine T_view (V_imp 902 rfl (imp_back hfk hcs2) rfl) ?_
    refine T_unanch 65 rfl ?_
    refine T_view (V_drop 7 rfl) ?_
    refine T_view (V_fold 70 0 71 rfl rfl rfl rfl rfl rfl rfl) ?_
    refine T_view (V_uncarve 910 70 rfl rfl rfl rfl rfl rfl rfl) ?_
    refine T_view (V_imp 910 rfl (imp_same (z := GPlace.z) rfl) rfl) ?_
    refine T_auto TT_ok rfl ?_
    exact X_inv (r + 1) hr (by omega) (by repeat (first | exact trivial | refine And.intro ⟨_, rfl, SV.imp_refl _⟩ ?_)) ⟨⟨_, rfl, imp_list hnw.symm⟩, (by repeat (first | exact trivial | refine And.intro ⟨_, rfl, Ch.imp_refl _⟩ ?_))⟩
  have e : ¬ (r : Int) < ((placesN c).length : Int) := e
  have hr : r = c.places.length := by omega
  subst hr
  refine T_exit rfl ?_
  refine X_T (T_seq ?_)
  refine T_fin TT_ok rfl ?_
  refine X_T ?_
  refine T_fin TT_ok rfl ?_
  refine X_fin TT_ok () [] rfl rfl ?_ ?_ ?_
  · exact SVs.imp_refl _
  · exact ⟨⟨_, rfl, Ch.imp_refl _⟩, ⟨_, rfl, Ch.imp_refl _⟩, ⟨_, rfl, Ch.imp_refl _⟩, ⟨_, rfl, Ch.imp_refl _⟩, trivial⟩
  · trivial
end Go.Proofs.YtcikaknfogpeeaaGreat
namespace Go.Proofs.YtcikaknfogpeeaaGreat
open Go Go.RowKit
set_option linter.unusedVariables false
set_option linter.unusedSimpArgs false
set_option maxRecDepth 4000
theorem recover_lost {c : GCluster} (hok : ClusOk c) (hcf : c.config ≠ 1000000) (hl : (lostC c).length > 0) : recoverM c = { c with lost := true } := by unfold recoverM; rw [if_pos ⟨hok, hcf⟩, if_pos hl]
noncomputable abbrev recG (c : GCluster) : GCluster := { c with config := c.config + 1, places := placesN c, machines := newN c.places (placesN c) c.places.length (recN c c.txs.length).machines, txs := (recN c c.txs.length).txs }
theorem recover_go {c : GCluster} (hok : ClusOk c) (hcf : c.config ≠ 1000000) (hl : (lostC c).length = 0) : recoverM c = recG c := by
  have hR := recN_in hok c.txs.length (Nat.le_refl _)
  unfold recoverM
  rw [if_pos ⟨hok, hcf⟩, if_neg (by show ¬ (lostC c).length > 0; omega)]
  show (⟨c.config + 1, (recN c c.txs.length).clock, placesN c, newN c.places (placesN c) c.places.length (recN c c.txs.length).machines, (recN c c.txs.length).txs, (recN c c.txs.length).lost⟩ : GCluster) = _
  rw [hR.clock, hR.lost]
theorem recover_no {c : GCluster} (h : ¬ (ClusOk c ∧ c.config ≠ 1000000)) : recoverM c = GCluster.z := by unfold recoverM; rw [if_neg h]
theorem place_w {c : GCluster} (hok : ClusOk c) (hl : (lostC c).length = 0) : sumW wPlace (placesN c) ≤ 3 * (placesN c).length := sumW_all (all_getD (z := GPlace.z) fun i hi => (newPl hok hl (by have : i < (placesN c).length := hi; rw [show (placesN c).length = c.places.length from List.length_map _] at this; exact this)).le)
theorem recover_w {c : GCluster} : wCluster (recoverM c) ≤ 1048576 := by
  by_cases h : ClusOk c ∧ c.config ≠ 1000000
  · obtain ⟨hok, hcf⟩ := h
    by_cases hl : (lostC c).length = 0
    · rw [recover_go hok hcf hl]
      have hR := recN_in hok c.txs.length (Nat.le_refl _)
      have hMr := newN_more hok hl hR.like.more c.places.length (Nat.le_refl _)
      have hokd := hR.ok hok
      have h1 := place_w hok hl
      have h0 : (placesN c).length = c.places.length := List.length_map _
      have h2 : sumW wMachine (newN c.places (placesN c) c.places.length (recN c c.txs.length).machines) ≤ 2702 * (newN c.places (placesN c) c.places.length (recN c c.txs.length).machines).length := sumW_all (all_getD (z := GMachine.z) fun i hi => machOk_w (hMr.ok i hi).1)
      have h3 : sumW wTx (recN c c.txs.length).txs ≤ 24 * (recN c c.txs.length).txs.length := sumW_all (all_getD (z := GTx.z) fun i hi => txOk_w (hokd.tx hi))
      have h4 := hok.1.2.2.1
      have h5 := hok.1.2.2.2
      have h6 := hok.2.1.1
      have h7 := hMr.len
      have h8 := hR.len
      show wL wPlace (placesN c) + wL wMachine (newN c.places (placesN c) c.places.length (recN c c.txs.length).machines) + wL wTx (recN c c.txs.length).txs ≤ 1048576
      unfold wL
      omega
    · rw [recover_lost hok hcf (by omega)]
      exact Nat.le_trans (show wCluster c ≤ 30000 from clusOk_w0 hok) (by decide)
  · rw [recover_no h]; decide
theorem impl_Recover_m (c : GCluster) (hb : D.bds bigN (cCluster c)) : MkClus Tryz.prog 16 [vR (cCluster c)] (recoverM c) := by
  refine con_enter Tryz.func16 rfl rfl rfl fun B0 r_ D_ w0 => ?_
  refine T_auto1 TT_ok rfl ?_
  refine T_freeze 1 rfl rfl rfl rfl (fun _ => rfl) (fun _ => rfl) fun r_ => ?_
  refine T_auto TT_ok rfl ?_
  refine RJ_Q TT_ok (impl_isCluster_q c hb) rfl rfl rfl rfl rfl ?_
  refine T_cond (b := bif !dec (ClusOk c) then true else c.config == 1000000) rfl (fun e => ?_) (fun e => ?_)
  · rw [recover_no (c := c) (fun h => by rw [dec_true h.1] at e; simp [h.2] at e)]
    refine T_auto TT_ok rfl ?_
    refine T_view (V_nilR 2 2 1 (fun i => cPlace (([] : List GPlace).getD i GPlace.z)) rfl rfl rfl) ?_
    refine T_view (V_nilR 2 3 4 (fun i => cMachine (([] : List GMachine).getD i GMachine.z)) rfl rfl rfl) ?_
    refine T_view (V_nilR 2 4 7 (fun i => cTx (([] : List GTx).getD i GTx.z)) rfl rfl rfl) ?_
    refine T_view (V_open 2 2 901 rfl rfl rfl rfl rfl rfl) ?_
    refine T_view (V_open 2 3 902 rfl rfl rfl rfl rfl rfl) ?_
    refine T_view (V_open 2 4 903 rfl rfl rfl rfl rfl rfl) ?_
    refine T_ret TT_ok (()) [(2, some 32)] rfl rfl ?_ ?_ ?_
    · exact SVs.imp_refl _
    · exact ⟨⟨_, rfl, Ch.imp_refl _⟩, ⟨_, rfl, Ch.imp_refl _⟩, ⟨_, rfl, Ch.imp_refl _⟩, trivial⟩
    · trivial
  have hok : ClusOk c := by
    cases h : dec (ClusOk c) with
    | true => exact dec_iff.1 h
    | false => rw [h] at e; cases e
  have hcf : c.config ≠ 1000000 := fun h => by rw [dec_true hok, h] at e; cases e
  clear e
  refine T_auto TT_ok rfl ?_
  refine RJ_C TT_ok (cloneCluster_m c hb) rfl rfl (SVs.imp_refl _) (fun _ => rfl) rfl rfl rfl fun _ _ => ?_
  refine RJ_auto TT_ok rfl ?_
  by_cases hl : (lostC c).length = 0
  · rw [recover_go hok hcf hl]
    refine RJ_C TT_ok (Con.sw 900 3 (recover_go_k c hok hl hcf)) rfl rfl (SVs.imp_refl _) (fun _ => rfl) rfl rfl rfl fun _ _ => ?_
    refine RJ_auto TT_ok rfl ?_
    refine T_view (V_sw 910 901) ?_
    refine T_ret TT_ok (()) [(2, some 32)] rfl rfl ?_ ?_ ?_
    · exact SVs.imp_refl _
    · exact ⟨⟨_, rfl, Ch.imp_refl _⟩, ⟨_, rfl, Ch.imp_refl _⟩, ⟨_, rfl, Ch.imp_refl _⟩, trivial⟩
    · trivial
  · rw [recover_lost hok hcf (by omega)]
    refine RJ_C TT_ok (Con.sw 900 3 (recover_lost_k c hok (by omega))) rfl rfl (SVs.imp_refl _) (fun _ => rfl) rfl rfl rfl fun _ _ => ?_
    refine RJ_auto TT_ok rfl ?_
    refine T_ret TT_ok (()) [(2, some 32)] rfl rfl ?_ ?_ ?_
    · exact SVs.imp_refl _
    · exact ⟨⟨_, rfl, Ch.imp_refl _⟩, ⟨_, rfl, Ch.imp_refl _⟩, ⟨_, rfl, Ch.imp_refl _⟩, trivial⟩
    · trivial
end Go.Proofs.YtcikaknfogpeeaaGreat
namespace Go.Proofs.YtcikaknfogpeeaaGreat
open Go Go.RowKit
set_option linter.unusedVariables false
set_option linter.unusedSimpArgs false
set_option maxRecDepth 4000
theorem fillN_full' {al : List Bool} {next : List Int} {k n : Nat} (h : 3 ≤ (fillN al next k).length) (hk : k ≤ n) : fillN al next n = fillN al next k := by
  obtain ⟨j, rfl⟩ : ∃ j, n = k + j := ⟨n - k, by omega⟩
  exact fillN_full h j
set_option maxHeartbeats 1000000 in
theorem spec_Remap_m (ps : List GPlace) (hp : PlOk ps) (al : List Bool) (hal : al.length ≤ 8) :
    Con Tryz.prog 42 [] [vL 1 cPlace GPlace.z ps, vL 1 cBool false al] [] (fun _ : Unit => True) (fun _ => [.a (.g 910), .a (.g 911)]) fun _ => [(910, arrC 1 cPlace GPlace.z (ps.map (remP al))), (911, arrC 1 cInt 0 (lostN al ps ps.length))] := by
  have hpl := hp.1
  refine con_enter Tryz.func42 rfl rfl rfl fun B0 r_ D_ w0 => ?_
  refine T_auto TT_ok rfl ?_
  refine RJ_bs TT_ok 41 (fun i => cInt (([] : List Int).getD i 0)) rfl rfl rfl rfl rfl rfl rfl (fun i hi => absurd hi (Nat.not_lt_zero _)) (mu1 := []) rfl rfl rfl ?_
  refine RJ_auto TT_ok rfl ?_
  refine RJ_bs TT_ok 40 (fun i => cPlace (([] : List GPlace).getD i GPlace.z)) rfl rfl rfl rfl rfl rfl rfl (fun i hi => absurd hi (Nat.not_lt_zero _)) (mu1 := []) rfl rfl rfl ?_
  refine RJ_auto TT_ok rfl ?_
  refine RJ_Q TT_ok (spec_PlacesOk_q ps) rfl rfl rfl rfl rfl ?_
  refine T_cond (b := bif !dec (PlOk ps) then true else decide ((al.length : Int) > 8)) rfl (fun e => by rw [dec_true hp, decide_eq_false (show ¬ (al.length : Int) > 8 by omega)] at e; cases e) (fun _ => ?_)
  refine T_auto TT_ok rfl ?_
  refine T_loopA (ι := Nat) (fun r => [(8, vI r), (7, .a (.g 40)), (6, .a (.g 41))]) (fun r => [(40, arrC 1 cPlace GPlace.z ((ps.take r).map (remP al))), (41, arrC 1 cInt 0 (lostN al ps r))]) (fun r => r ≤ ps.length ∧ (lostN al ps r).length ≤ r) (fun r => ps.length - r) 0 [40, 41] [40, 41] rfl rfl ⟨Nat.zero_le _, Nat.le_refl _⟩ (by repeat (first | exact trivial | refine And.intro ⟨_, rfl, SV.imp_refl _⟩ ?_)) (by repeat (first | exact trivial | refine And.intro ⟨_, rfl, Ch.imp_refl _⟩ ?_)) ?_
  intro r ⟨h1, hlo⟩
  have hl1 : ((ps.take r).map (remP al)).length = r := by rw [List.length_map, List.length_take]; omega
  refine T_auto TT_ok rfl ?_
  refine T_condD rfl (fun e => ?_) (fun e => ?_)
  · have hr : r < ps.length := by omega
    have hpr := (hp.2 r hr).1
    refine T_auto TT_ok rfl ?_
    refine T_view (V_nilR 9 0 1 (fun i => cInt (([] : List Int).getD i 0)) rfl rfl rfl) ?_
    refine T_view (V_open 9 0 50 rfl rfl rfl rfl rfl rfl) ?_
    refine T_loopA (ι := Nat) (fun j => [(10, vI j)]) (fun j => [(9, .row [.g 50]), (50, arrC 1 cInt 0 (((ps.getD r GPlace.z).machines.take j).filter (livesB al)))]) (fun j => j ≤ (ps.getD r GPlace.z).machines.length) (fun j => (ps.getD r GPlace.z).machines.length - j) 0 [9, 50] [50] rfl rfl (Nat.zero_le _) (by repeat (first | exact trivial | refine And.intro ⟨_, rfl, SV.imp_refl _⟩ ?_)) (by repeat (first | exact trivial | refine And.intro ⟨_, rfl, Ch.imp_refl _⟩ ?_)) ?_
    intro j h2
    have hfl := filter_take_le (ps.getD r GPlace.z).machines (livesB al) j
    refine T_auto TT_ok rfl ?_
    refine T_condD rfl (fun e2 => ?_) (fun e2 => ?_)
    · simp only [Int.toNat_natCast] at e2
      have hj : j < (ps.getD r GPlace.z).machines.length := by omega
      have hm := hp.le hr hj
      refine T_auto TT_ok rfl ?_
      refine RJ_Q TT_ok (l5Lives_q al ((ps.getD r GPlace.z).machines.getD j 0) hm.1) rfl rfl rfl rfl rfl ?_
      refine T_cond rfl (fun e3 => ?_) (fun e3 => ?_)
      · have hF := filter_take_yes (z := 0) hj (p := livesB al) e3
        refine T_drawL TT_ok [50] [0, 1, 2, 3, 4, 5, 6, 7, 8, 9, 10, 11, 12, 13] rfl rfl fun B0 H0 => ?_
        refine DJ_one 10 rfl (by kernel_rfl) (OJ_bs TT_ok 61 (fun _ => cInt ((ps.getD r GPlace.z).machines.getD j 0)) rfl rfl rfl rfl rfl rfl rfl (fun i hi => by rcases i with _ | i <;> first | rfl | omega) (mu1 := []) rfl rfl rfl (SJ_dj ?_))
        refine DJ_one 11 rfl (by kernel_rfl) (OJ_appM TT_ok 50 61 62 rfl rfl rfl rfl rfl rfl rfl rfl rfl rfl rfl rfl ⟨by show ((((ps.getD r GPlace.z).machines.take j).filter (livesB al)).length + 1) * 8 ≤ _; omega, by unfold maxL; omega⟩ (SJ_dj ?_))
        refine DJ_onL TT_ok [12, 13] rfl ?_
        refine DJ_sw2 13 rfl (by kernel_rfl) (by kernel_rfl) (OJ_M TT_ok rfl rfl rfl rfl rfl rfl (SJ_sw [] fun B0 H0 => ?_))
        refine DJ_endA TT_ok rfl ?_
        refine X_view (V_sw 50 62) ?_
        exact X_inv (j + 1) hj (by omega) (by repeat (first | exact trivial | refine And.intro ⟨_, rfl, SV.imp_refl _⟩ ?_)) ⟨⟨_, rfl, Ch.imp_refl _⟩, ⟨_, rfl, imp_app1 (x := (ps.getD r GPlace.z).machines.getD j 0) hF rfl⟩, (by repeat (first | exact trivial | refine And.intro ⟨_, rfl, Ch.imp_refl _⟩ ?_))⟩
      · have hF := filter_take_no (z := 0) hj (p := livesB al) e3
        refine T_auto TT_ok rfl ?_
        exact X_inv (j + 1) hj (by omega) (by repeat (first | exact trivial | refine And.intro ⟨_, rfl, SV.imp_refl _⟩ ?_)) ⟨⟨_, rfl, Ch.imp_refl _⟩, ⟨_, rfl, imp_list hF⟩, (by repeat (first | exact trivial | refine And.intro ⟨_, rfl, Ch.imp_refl _⟩ ?_))⟩
    simp only [Int.toNat_natCast] at e2
    have hj : j = (ps.getD r GPlace.z).machines.length := by omega
    subst hj
    rw [List.take_length]
    have hke : (keepP al (ps.getD r GPlace.z)).length ≤ 3 := Nat.le_trans (List.length_filter_le _ _) hpr.2
    refine T_auto TT_ok rfl ?_
    refine T_condE rfl (fun e3 => ?_) (fun e3 => ?_)
    · have e3 : ((keepP al (ps.getD r GPlace.z)).length : Int) = 0 := e3
      have hrem : remP al (ps.getD r GPlace.z) = ⟨(ps.getD r GPlace.z).machines⟩ := by unfold remP; rw [if_pos (by omega)]
      have hlost : lostN al ps (r + 1) = lostN al ps r ++ [(r : Int)] := by rw [lostN, if_pos (by omega)]
      refine T_auto TT_ok rfl ?_
      refine RJ_bs TT_ok 70 (fun _ => cInt r) rfl rfl rfl rfl rfl rfl rfl (fun i hi => by rcases i with _ | i <;> first | rfl | omega) (mu1 := []) rfl rfl rfl ?_
      refine RJ_auto TT_ok rfl ?_
      refine RJ_appM TT_ok 41 70 71 rfl rfl rfl rfl rfl rfl rfl rfl rfl rfl rfl rfl ⟨by show ((lostN al ps r).length + 1) * 8 ≤ _; omega, by unfold maxL; omega⟩ ?_
      refine RJ_auto TT_ok rfl ?_
      refine RJ_bs TT_ok 73 (fun i => cInt (([] : List Int).getD i 0)) rfl rfl rfl rfl rfl rfl rfl (fun i hi => absurd hi (Nat.not_lt_zero _)) (mu1 := []) rfl rfl rfl ?_
      refine RJ_auto TT_ok rfl ?_
      refine RJ_appC TT_ok 73 74 rfl rfl rfl rfl rfl rfl rfl rfl rfl rfl rfl rfl ⟨by show (0 + (ps.getD r GPlace.z).machines.length) * 8 ≤ _; omega, by show 0 + (ps.getD r GPlace.z).machines.length ≤ maxL; unfold maxL; omega⟩ ?_
      refine RJ_view (V_imp 74 (c' := arrC 1 cInt 0 (ps.getD r GPlace.z).machines) rfl (imp_app (ys := ([] : List Int)) (by simp)) rfl) ?_
      refine RJ_auto TT_ok rfl ?_
      refine RJ_bs TT_ok 75 (fun _ => cPlace ⟨(ps.getD r GPlace.z).machines⟩) rfl rfl rfl rfl rfl rfl rfl (fun i hi => by rcases i with _ | i <;> first | rfl | omega) (mu1 := [(74, .arr 0 0 fun _ => [])]) rfl rfl rfl ?_
      refine RJ_auto TT_ok rfl ?_
      refine RJ_appM TT_ok 40 75 76 rfl rfl rfl rfl rfl rfl rfl rfl rfl rfl rfl rfl ⟨by show (((ps.take r).map (remP al)).length + 1) * 24 ≤ _; omega, by unfold maxL; omega⟩ ?_
      refine RJ_auto TT_ok rfl ?_
      refine X_view (V_sw 40 76) ?_
      refine X_view (V_sw 41 71) ?_
      exact X_inv (r + 1) ⟨hr, by rw [hlost, List.length_append, List.length_singleton]; omega⟩ (by omega) (by repeat (first | exact trivial | refine And.intro ⟨_, rfl, SV.imp_refl _⟩ ?_)) ⟨⟨_, rfl, imp_app1 (x := (⟨(ps.getD r GPlace.z).machines⟩ : GPlace)) (by rw [take_succ_getD (z := GPlace.z) hr, List.map_append, List.map_singleton, hrem]) rfl⟩, ⟨_, rfl, imp_app1 (x := (r : Int)) hlost rfl⟩, (by repeat (first | exact trivial | refine And.intro ⟨_, rfl, Ch.imp_refl _⟩ ?_))⟩
    have e3 : ((keepP al (ps.getD r GPlace.z)).length : Int) ≠ 0 := e3
    have hrem : remP al (ps.getD r GPlace.z) = ⟨fillN al (keepP al (ps.getD r GPlace.z)) al.length⟩ := by unfold remP; rw [if_neg (by omega)]
    have hlost : lostN al ps (r + 1) = lostN al ps r := by rw [lostN, if_neg (by omega)]
    refine T_auto TT_ok rfl ?_
    refine T_loopA (ι := Nat) (fun m => [(11, vI m)]) (fun m => [(9, .row [.g 50]), (50, arrC 1 cInt 0 (fillN al (keepP al (ps.getD r GPlace.z)) m))]) (fun m => m ≤ al.length) (fun m => al.length - m) 0 [9, 50] [50] rfl rfl (Nat.zero_le _) (by repeat (first | exact trivial | refine And.intro ⟨_, rfl, SV.imp_refl _⟩ ?_)) (by repeat (first | exact trivial | refine And.intro ⟨_, rfl, Ch.imp_refl _⟩ ?_)) ?_
    intro m h3
    have hfi := fillN_le (al := al) hke m
    refine T_auto TT_ok rfl ?_
    refine T_cond (b := bif decide ((m : Int) < al.length) then decide (((fillN al (keepP al (ps.getD r GPlace.z)) m).length : Int) < 3) else false) rfl (fun e4 => ?_) (fun e4 => ?_)
    · have hml : (m : Int) < al.length ∧ ((fillN al (keepP al (ps.getD r GPlace.z)) m).length : Int) < 3 := by
        by_cases c1 : (m : Int) < al.length
        · rw [decide_eq_true c1] at e4; exact ⟨c1, of_decide_eq_true e4⟩
        · rw [decide_eq_false c1] at e4; cases e4
      have hm : m < al.length := by omega
      refine T_auto TT_ok rfl ?_
      refine RJ_Q TT_ok (l3Has_q (fillN al (keepP al (ps.getD r GPlace.z)) m) (by omega) m) rfl rfl rfl rfl rfl ?_
      refine T_cond (b := bif al.getD m false then !decide ((m : Int) ∈ fillN al (keepP al (ps.getD r GPlace.z)) m) else false) rfl (fun e5 => ?_) (fun e5 => ?_)
      · refine T_auto TT_ok rfl ?_
        refine RJ_bs TT_ok 80 (fun _ => cInt m) rfl rfl rfl rfl rfl rfl rfl (fun i hi => by rcases i with _ | i <;> first | rfl | omega) (mu1 := []) rfl rfl rfl ?_
        refine RJ_auto TT_ok rfl ?_
        refine RJ_appM TT_ok 50 80 81 rfl rfl rfl rfl rfl rfl rfl rfl rfl rfl rfl rfl ⟨by show ((fillN al (keepP al (ps.getD r GPlace.z)) m).length + 1) * 8 ≤ _; omega, by unfold maxL; omega⟩ ?_
        refine RJ_auto TT_ok rfl ?_
        refine X_view (V_sw 50 81) ?_
        exact X_inv (m + 1) hm (by omega) (by repeat (first | exact trivial | refine And.intro ⟨_, rfl, SV.imp_refl _⟩ ?_)) ⟨⟨_, rfl, Ch.imp_refl _⟩, ⟨_, rfl, imp_app1 (x := (m : Int)) (by rw [fillN, decide_eq_true hml.2]; revert e5; cases al.getD m false <;> cases decide ((m : Int) ∈ fillN al (keepP al (ps.getD r GPlace.z)) m) <;> intro e5 <;> first | rfl | cases e5) rfl⟩, (by repeat (first | exact trivial | refine And.intro ⟨_, rfl, Ch.imp_refl _⟩ ?_))⟩
      · refine T_auto TT_ok rfl ?_
        exact X_inv (m + 1) hm (by omega) (by repeat (first | exact trivial | refine And.intro ⟨_, rfl, SV.imp_refl _⟩ ?_)) ⟨⟨_, rfl, Ch.imp_refl _⟩, ⟨_, rfl, imp_list (by rw [fillN, decide_eq_true hml.2]; revert e5; cases al.getD m false <;> cases decide ((m : Int) ∈ fillN al (keepP al (ps.getD r GPlace.z)) m) <;> intro e5 <;> first | rfl | cases e5)⟩, (by repeat (first | exact trivial | refine And.intro ⟨_, rfl, Ch.imp_refl _⟩ ?_))⟩
    have hend : fillN al (keepP al (ps.getD r GPlace.z)) al.length = fillN al (keepP al (ps.getD r GPlace.z)) m := by
      by_cases c1 : (m : Int) < al.length
      · rw [decide_eq_true c1] at e4
        have := of_decide_eq_false e4
        exact fillN_full' (by omega) h3
      · rw [show m = al.length by omega]
    rw [← hend]
    refine T_auto TT_ok rfl ?_
    refine RJ_bs TT_ok 86 (fun _ => cPlace ⟨fillN al (keepP al (ps.getD r GPlace.z)) al.length⟩) rfl rfl rfl rfl rfl rfl rfl (fun i hi => by rcases i with _ | i <;> first | rfl | omega) (mu1 := [(50, .arr 0 0 fun _ => [])]) rfl rfl rfl ?_
    refine RJ_auto TT_ok rfl ?_
    refine RJ_appM TT_ok 40 86 87 rfl rfl rfl rfl rfl rfl rfl rfl rfl rfl rfl rfl ⟨by show (((ps.take r).map (remP al)).length + 1) * 24 ≤ _; omega, by unfold maxL; omega⟩ ?_
    refine RJ_auto TT_ok rfl ?_
    refine X_view (V_sw 40 87) ?_
    exact X_inv (r + 1) ⟨hr, by rw [hlost]; omega⟩ (by omega) (by repeat (first | exact trivial | refine And.intro ⟨_, rfl, SV.imp_refl _⟩ ?_)) ⟨⟨_, rfl, imp_app1 (x := (⟨fillN al (keepP al (ps.getD r GPlace.z)) al.length⟩ : GPlace)) (by rw [take_succ_getD (z := GPlace.z) hr, List.map_append, List.map_singleton, hrem]) rfl⟩, ⟨_, rfl, imp_list hlost.symm⟩, (by repeat (first | exact trivial | refine And.intro ⟨_, rfl, Ch.imp_refl _⟩ ?_))⟩
  have hr : r = ps.length := by omega
  subst hr
  rw [List.take_length]
  refine T_auto TT_ok rfl ?_
  refine T_view (V_sw 40 910) ?_
  refine T_view (V_sw 41 911) ?_
  refine T_ret TT_ok (()) [(4, none), (5, none)] rfl rfl ?_ ?_ ?_
  · exact SVs.imp_refl _
  · exact ⟨⟨_, rfl, Ch.imp_refl _⟩, ⟨_, rfl, Ch.imp_refl _⟩, trivial⟩
  · trivial
end Go.Proofs.YtcikaknfogpeeaaGreat
namespace Go.Proofs.YtcikaknfogpeeaaGreat
open Go Go.RowKit
set_option linter.unusedVariables false
set_option linter.unusedSimpArgs false
set_option maxRecDepth 4000
def endE (c : GCluster) (d : Bool) (t : GTx) (k j : Nat) : List GMachine := (copN c (wantsL t) false k ++ rowP false ((wantsL t).getD k 0) (placeM c ((wantsL t).getD k 0)) j).foldl (endF d t) c.machines
theorem endE_row (c : GCluster) (d : Bool) (t : GTx) (k : Nat) : endE c d t (k + 1) 0 = endE c d t k (placeM c ((wantsL t).getD k 0)).length := by
  unfold endE
  rw [copN]
  show (_ ++ []).foldl _ _ = _
  rw [List.append_nil]
theorem endE_all (c : GCluster) (d : Bool) (t : GTx) : endE c d t (wantsL t).length 0 = (copiesP c t false).foldl (endF d t) c.machines := by
  unfold endE
  show (_ ++ []).foldl _ _ = _
  rw [List.append_nil]; rfl
theorem endE_succ (c : GCluster) (d : Bool) (t : GTx) (k j : Nat) : endE c d t k (j + 1) = endF d t (endE c d t k j) ⟨(wantsL t).getD k 0, (placeM c ((wantsL t).getD k 0)).getD j 0, decide ((j : Int) > 0)⟩ := by
  unfold endE
  rw [rowP, show (bif decide ((j : Int) > 0) then true else !false) = true from by cases decide ((j : Int) > 0) <;> rfl, cond_true, ← List.append_assoc, List.foldl_append]
  rfl
theorem atIn_of {c : GCluster} {r : Int} (hr : 0 ≤ r ∧ r < c.places.length) {j : Nat} (hj : j < (placeM c r).length) : AtIn c ⟨r, (placeM c r).getD j 0, decide ((j : Int) > 0)⟩ := ⟨hr, j, hj, rfl, rfl⟩
theorem endE_like {c : GCluster} (hok : ClusOk c) {d : Bool} {t : GTx} (ht : TxIn c t) (k j : Nat) (hk : k < (wantsL t).length) (hj : j ≤ (placeM c ((wantsL t).getD k 0)).length) : Like c.machines (endE c d t k j) := ends_like hok ht.ok (fun x h => by
  rcases List.mem_append.1 h with h | h
  · exact copN_in (fun k hk => wants_in ht hk) (by omega) h
  · obtain ⟨i, h1, rfl⟩ := rowP_mem hj h
    exact atIn_of (wants_in ht hk) (by omega)) (Like.refl hok)
set_option maxHeartbeats 2000000 in
theorem l12End_k (c : GCluster) (hok : ClusOk c) (i : Nat) (hi : i < c.txs.length) :
    Con Tryz.prog 44 [900, 901, 902, 903] [.a (.p 900 0), vI i] [(900, .rrow (rowC c 901 902 903)), (901, roC 1 cPlace GPlace.z c.places), (902, arrC 4 cMachine GMachine.z c.machines), (903, arrC 7 cTx GTx.z c.txs)]
      (fun _ : Unit => True) (fun _ => []) fun _ => [(902, arrC 4 cMachine GMachine.z (resC c i).machines), (903, arrC 7 cTx GTx.z (resC c i).txs)] := by
  have hb := clusOk_bd hok
  have hx := hok.txIn hi
  have hs1 := hx.ok.1.2.2.2.2.2.1
  have hs2 := hx.ok.1.2.2.2.2.2.2
  have hwl := wants_le hx.ok
  have hvl : (votesL c (c.txs.getD i GTx.z)).length = (wantsL (c.txs.getD i GTx.z)).length := List.length_map _
  refine con_enter Tryz.func44 rfl rfl rfl fun B0 r_ D_ w0 => ?_
  refine T_auto TT_ok rfl ?_
  refine RJ_C TT_ok (Con.sw 900 14 (l7WantsK_m hx.ok)) rfl rfl (SVs.imp_refl _) (fun _ => rfl) rfl rfl rfl fun _ _ => ?_
  refine RJ_auto TT_ok rfl ?_
  refine RJ_bs TT_ok 40 (fun i => cInt (([] : List Int).getD i 0)) rfl rfl rfl rfl rfl rfl rfl (fun i hi => absurd hi (Nat.not_lt_zero _)) (mu1 := []) rfl rfl rfl ?_
  refine RJ_auto TT_ok rfl ?_
  refine T_loopA (ι := Nat) (fun k => [(7, vI k), (6, .a (.g 40))]) (fun k => [(40, arrC 1 cInt 0 ((votesL c (c.txs.getD i GTx.z)).take k))]) (fun k => k ≤ (wantsL (c.txs.getD i GTx.z)).length) (fun k => (wantsL (c.txs.getD i GTx.z)).length - k) 0 [40] [40] rfl rfl (Nat.zero_le _) (by repeat (first | exact trivial | refine And.intro ⟨_, rfl, SV.imp_refl _⟩ ?_)) (by repeat (first | exact trivial | refine And.intro ⟨_, rfl, Ch.imp_refl _⟩ ?_)) ?_
  intro k h1
  have hvt : ((votesL c (c.txs.getD i GTx.z)).take k).length ≤ k := by rw [List.length_take]; omega
  refine T_auto TT_ok rfl ?_
  refine T_condD rfl (fun e => ?_) (fun e => ?_)
  · have hk : k < (wantsL (c.txs.getD i GTx.z)).length := by omega
    have hr := wants_in hx hk
    refine T_auto TT_ok rfl ?_
    refine T_drawL TT_ok [40] [0, 1, 2, 3, 4, 5, 6, 7, 8, 9, 10, 11, 12, 13, 14, 15] rfl rfl fun B0 H0 => ?_
    refine DJ_Qi 12 (l11Vote_q c hb hok _ _ hr) rfl rfl rfl (SVs.imp_refl _) rfl ?_
    refine DJ_one 13 rfl (by kernel_rfl) (OJ_bs TT_ok 28 (fun _ => cInt (voteN c (c.txs.getD i GTx.z).id ((wantsL (c.txs.getD i GTx.z)).getD k 0) (placeM c ((wantsL (c.txs.getD i GTx.z)).getD k 0)).length)) rfl rfl rfl rfl rfl rfl rfl (fun i hi => by rcases i with _ | i <;> first | rfl | omega) (mu1 := []) rfl rfl rfl (SJ_dj ?_))
    refine DJ_one 14 rfl (by kernel_rfl) (OJ_appM TT_ok 40 28 29 rfl rfl rfl rfl rfl rfl rfl rfl rfl rfl rfl rfl ⟨by show (((votesL c (c.txs.getD i GTx.z)).take k).length + 1) * 8 ≤ _; omega, by unfold maxL; omega⟩ (SJ_dj ?_))
    refine DJ_onL TT_ok [15] rfl ?_
    refine DJ_endA TT_ok rfl ?_
    refine X_view (V_sw 40 29) ?_
    exact X_inv (k + 1) hk (by omega) (by repeat (first | exact trivial | refine And.intro ⟨_, rfl, SV.imp_refl _⟩ ?_)) ⟨⟨_, rfl, imp_app1 (x := voteN c (c.txs.getD i GTx.z).id ((wantsL (c.txs.getD i GTx.z)).getD k 0) (placeM c ((wantsL (c.txs.getD i GTx.z)).getD k 0)).length) (votesL_at hk) rfl⟩, (by repeat (first | exact trivial | refine And.intro ⟨_, rfl, Ch.imp_refl _⟩ ?_))⟩
  have hk : k = (wantsL (c.txs.getD i GTx.z)).length := by omega
  subst hk
  rw [List.take_of_length_le (show (votesL c (c.txs.getD i GTx.z)).length ≤ _ by omega)]
  refine T_auto TT_ok rfl ?_
  refine RJ_Q TT_ok (spec_Decide_q (votesL c (c.txs.getD i GTx.z)) (by omega)) rfl rfl rfl rfl rfl ?_
  rw [show (bif (bif (c.txs.getD (i : Int).toNat GTx.z).phase != 8 then (c.txs.getD (i : Int).toNat GTx.z).phase != 1 else false) then decideB (votesL c (c.txs.getD i GTx.z)) else false) = decideD c (c.txs.getD i GTx.z) from decideD_eq c _]
  generalize hD : decideD c (c.txs.getD i GTx.z) = d
  have hres : resC c i = { c with machines := (copiesP c (c.txs.getD i GTx.z) false).foldl (endF d (c.txs.getD i GTx.z)) c.machines, txs := c.txs.set i (endT d (c.txs.getD i GTx.z)) } := by unfold resC; rw [hD]
  rw [hres, ← endE_all]
  refine T_loopA (ι := Nat) (fun k => [(9, vI k)]) (fun k => [(902, arrC 4 cMachine GMachine.z (endE c d (c.txs.getD i GTx.z) k 0))]) (fun k => k ≤ (wantsL (c.txs.getD i GTx.z)).length) (fun k => (wantsL (c.txs.getD i GTx.z)).length - k) 0 [902] [] rfl rfl (Nat.zero_le _) (by repeat (first | exact trivial | refine And.intro ⟨_, rfl, SV.imp_refl _⟩ ?_)) (by repeat (first | exact trivial | refine And.intro ⟨_, rfl, Ch.imp_refl _⟩ ?_)) ?_
  intro k h1
  refine T_auto TT_ok rfl ?_
  refine T_condD rfl (fun e => ?_) (fun e => ?_)
  · have hk : k < (wantsL (c.txs.getD i GTx.z)).length := by omega
    have hr := wants_in hx hk
    have hpl := place_le hok hr
    obtain ⟨s1, s2, s3⟩ := setsAt_ok hx.ok ((wantsL (c.txs.getD i GTx.z)).getD k 0)
    have hsl : (setsAt ((wantsL (c.txs.getD i GTx.z)).getD k 0) (c.txs.getD i GTx.z).sets).length ≤ (c.txs.getD i GTx.z).sets.length := List.length_filter_le _ _
    refine T_auto TT_ok rfl ?_
    refine T_drawL TT_ok [] [0, 1, 2, 3, 4, 5, 6, 7, 8] rfl rfl fun B0 H0 => ?_
    refine DJ_C 7 (Con.sw 900 30 (l7SetsOf_m (c.txs.getD i GTx.z) ((wantsL (c.txs.getD i GTx.z)).getD k 0) (by omega))) rfl rfl rfl (SVs.imp_refl _) (fun _ => rfl) rfl rfl rfl fun _ _ => ?_
    refine DJ_onL TT_ok [8] rfl ?_
    refine DJ_endA TT_ok rfl ?_
    refine T_drawL TT_ok [] [0, 1, 2, 3, 4, 5, 6, 7, 8, 9, 10, 11] rfl rfl fun B0 H0 => ?_
    refine DJ_endA TT_ok rfl ?_
    refine T_loopA (ι := Nat) (fun j => [(12, vI j)]) (fun j => [(902, arrC 4 cMachine GMachine.z (endE c d (c.txs.getD i GTx.z) k j))]) (fun j => j ≤ (placeM c ((wantsL (c.txs.getD i GTx.z)).getD k 0)).length) (fun j => (placeM c ((wantsL (c.txs.getD i GTx.z)).getD k 0)).length - j) 0 [902] [] rfl rfl (Nat.zero_le _) (by repeat (first | exact trivial | refine And.intro ⟨_, rfl, SV.imp_refl _⟩ ?_)) (by repeat (first | exact trivial | refine And.intro ⟨_, rfl, Ch.imp_refl _⟩ ?_)) ?_
    intro j h2
    refine T_auto TT_ok rfl ?_
    refine T_condD rfl (fun e2 => ?_) (fun e2 => ?_)
    · have e2 : (j : Int) < ((placeM c ((wantsL (c.txs.getD i GTx.z)).getD k 0)).length : Int) := e2
      have hj : j < (placeM c ((wantsL (c.txs.getD i GTx.z)).getD k 0)).length := by omega
      have hA : AtIn c ⟨((wantsL (c.txs.getD i GTx.z)).getD k 0), (placeM c ((wantsL (c.txs.getD i GTx.z)).getD k 0)).getD j 0, decide ((j : Int) > 0)⟩ := atIn_of hr hj
      obtain ⟨hm1, hm2⟩ := hA.mach hok
      have hm1 : 0 ≤ (placeM c ((wantsL (c.txs.getD i GTx.z)).getD k 0)).getD j 0 ∧ (placeM c ((wantsL (c.txs.getD i GTx.z)).getD k 0)).getD j 0 < c.machines.length := hm1
      have hL := endE_like hok (d := d) hx k j hk (by omega)
      have hS := endE_succ c d (c.txs.getD i GTx.z) k j
      have hN : j + 1 ≤ (placeM c ((wantsL (c.txs.getD i GTx.z)).getD k 0)).length := hj
      generalize endE c d (c.txs.getD i GTx.z) k j = ns at hL hS ⊢
      have hm3 : 0 ≤ (placeM c ((wantsL (c.txs.getD i GTx.z)).getD k 0)).getD j 0 ∧ (placeM c ((wantsL (c.txs.getD i GTx.z)).getD k 0)).getD j 0 < ns.length := by rw [hL.len]; exact hm1
      obtain ⟨hM, hLa, hLh⟩ := hL.ok ((placeM c ((wantsL (c.txs.getD i GTx.z)).getD k 0)).getD j 0).toNat (by omega)
      have hh : (ns.getD ((placeM c ((wantsL (c.txs.getD i GTx.z)).getD k 0)).getD j 0).toNat GMachine.z).alive = true → hasB (ns.getD ((placeM c ((wantsL (c.txs.getD i GTx.z)).getD k 0)).getD j 0).toNat GMachine.z) ((wantsL (c.txs.getD i GTx.z)).getD k 0) = true := fun h => by rw [hLh]; exact hm2 (hLa ▸ h)
      unfold endF at hS
      have g1 : 0 ≤ (c.places.getD ((wantsL (c.txs.getD i GTx.z)).getD (k : Int).toNat 0).toNat GPlace.z).machines.getD (j : Int).toNat 0 ∧ (c.places.getD ((wantsL (c.txs.getD i GTx.z)).getD (k : Int).toNat 0).toNat GPlace.z).machines.getD (j : Int).toNat 0 < (ns.length : Int) := hm3
      have g2 : 0 ≤ (wantsL (c.txs.getD i GTx.z)).getD (k : Int).toNat 0 ∧ (wantsL (c.txs.getD i GTx.z)).getD (k : Int).toNat 0 < (c.places.length : Int) := hr
      have g3 : (j : Int) < ((c.places.getD ((wantsL (c.txs.getD i GTx.z)).getD (k : Int).toNat 0).toNat GPlace.z).machines.length : Int) := e2
      refine T_auto TT_ok rfl ?_
      refine T_drawL TT_ok [] [0, 1, 2, 3, 4, 5, 6, 7, 8, 9] rfl rfl fun B0 H0 => ?_
      refine DJ_endA TT_ok rfl ?_
      generalize hmm : (ns.getD ((placeM c ((wantsL (c.txs.getD i GTx.z)).getD k 0)).getD j 0).toNat GMachine.z) = m at hM hh hS
      refine T_cond (b := !m.alive) (by subst hmm; rfl) (fun e2 => ?_) (fun e2 => ?_)
      · have ha : m.alive = false := by simpa using e2
        have hS : endE c d (c.txs.getD i GTx.z) k (j + 1) = ns.set ((placeM c ((wantsL (c.txs.getD i GTx.z)).getD k 0)).getD j 0).toNat (endM d (c.txs.getD i GTx.z) ((wantsL (c.txs.getD i GTx.z)).getD k 0) m) := hS
        rw [endM_dead ha, ← hmm, set_self (z := GMachine.z) (by omega)] at hS
        refine T_auto TT_ok rfl ?_
        exact X_inv (j + 1) hj (by omega) (by repeat (first | exact trivial | refine And.intro ⟨_, rfl, SV.imp_refl _⟩ ?_)) ⟨⟨_, rfl, imp_list hS.symm⟩, (by repeat (first | exact trivial | refine And.intro ⟨_, rfl, Ch.imp_refl _⟩ ?_))⟩
      have ha : m.alive = true := by simpa using e2
      have hhas := hh ha
      have bl : m.log.length ≤ 200 := hM.1.2.1
      have bc : m.cleared.length ≤ 60 := hM.1.2.2
      have bk : m.copies.length ≤ 6 := hM.1.1
      have hrs := (risesB_iff.1 hM.2.1).2
      have hcb := (cellsOf_len hM hhas).2
      have hS : endE c d (c.txs.getD i GTx.z) k (j + 1) = ns.set ((placeM c ((wantsL (c.txs.getD i GTx.z)).getD k 0)).getD j 0).toNat (endM d (c.txs.getD i GTx.z) ((wantsL (c.txs.getD i GTx.z)).getD k 0) m) := hS
      rw [endM_eq ha hhas] at hS
      have hix2 : 0 ≤ copyI m ((wantsL (c.txs.getD i GTx.z)).getD k 0) ∧ copyI m ((wantsL (c.txs.getD i GTx.z)).getD k 0) < m.copies.length := hasB_idx hhas
      refine T_view (V_carve 902 ((placeM c ((wantsL (c.txs.getD i GTx.z)).getD k 0)).getD j 0) 60 rfl rfl rfl rfl rfl rfl hm3) ?_
      rw [hmm]
      refine T_view (V_pe 13 rfl rfl rfl) ?_
      refine T_view (V_open 60 1 61 rfl rfl rfl rfl rfl rfl) ?_
      refine T_view (V_open 60 2 62 rfl rfl rfl rfl rfl rfl) ?_
      refine T_view (V_open 60 3 63 rfl rfl rfl rfl rfl rfl) ?_
      have g4 : 0 ≤ idxI (atB ((wantsL (c.txs.getD i GTx.z)).getD (k : Int).toNat 0)) m.copies ∧ idxI (atB ((wantsL (c.txs.getD i GTx.z)).getD (k : Int).toNat 0)) m.copies < (m.copies.length : Int) := hix2
      refine T_auto TT_ok rfl ?_
      refine T_drawL TT_ok [] [0, 1, 2, 3, 4, 5, 6, 7, 8, 9, 10, 11, 12, 13, 14, 15] rfl rfl fun B0 H0 => ?_
      refine DJ_Qi 11 (l6At_q m (by omega) _) rfl rfl rfl (SVs.imp_refl _) rfl ?_
      refine DJ_dp ?_
      refine DP_op TT_ok 12 rfl rfl rfl rfl ?_
      refine DP_op TT_ok 13 rfl rfl rfl rfl ?_
      refine DP_view (V_carve 61 (copyI m ((wantsL (c.txs.getD i GTx.z)).getD k 0)) 64 rfl rfl rfl rfl rfl rfl hix2) ?_
      refine DP_view (V_open 64 1 65 rfl rfl rfl rfl rfl rfl) ?_
      refine DP_view (V_pe 121 rfl rfl rfl) ?_
      refine DP_op TT_ok 14 rfl rfl rfl rfl ?_
      refine DP_op TT_ok 15 rfl rfl rfl rfl ?_
      refine DP_endA TT_ok rfl ?_
      have hcel : cellsOf m ((wantsL (c.txs.getD i GTx.z)).getD k 0) = (m.copies.getD (copyI m ((wantsL (c.txs.getD i GTx.z)).getD k 0)).toNat GCopy.z).cells := cellsOf_has hhas
      rw [← hcel]
      refine T_joinA (ι := Unit) (fun _ => []) (fun _ => [(65, arrC 2 cCell GCell.z (endX d (c.txs.getD i GTx.z) ((wantsL (c.txs.getD i GTx.z)).getD k 0) m))]) (fun _ => True) [65] [] rfl rfl ?_ ?_
      · refine T_cond (b := d) rfl (fun e3 => ?_) (fun e3 => ?_)
        · refine T_auto TT_ok rfl ?_
          refine RJ_C TT_ok (Con.sw 900 65 (l3Install_k (cellsOf m ((wantsL (c.txs.getD i GTx.z)).getD k 0)) (setsAt ((wantsL (c.txs.getD i GTx.z)).getD k 0) (c.txs.getD i GTx.z).sets) (by omega) hcb s1)) rfl rfl (SVs.imp_refl _) (fun _ => rfl) rfl rfl rfl fun _ _ => ?_
          refine RJ_auto TT_ok rfl ?_
          exact X_inv () trivial Nat.zero_lt_one (by repeat (first | exact trivial | refine And.intro ⟨_, rfl, SV.imp_refl _⟩ ?_)) ⟨⟨_, rfl, imp_list (by unfold endX; rw [e3]; rfl)⟩, (by repeat (first | exact trivial | refine And.intro ⟨_, rfl, Ch.imp_refl _⟩ ?_))⟩
        · refine T_auto TT_ok rfl ?_
          refine T_drawL TT_ok [] [0, 1, 2, 3, 4, 5, 6, 7, 8, 9, 10, 11, 12, 13] rfl rfl fun B0 H0 => ?_
          refine DJ_C 11 (Con.sw 903 63 (Con.sw 902 62 (Con.sw 901 61 (l6Logged_k m.alive m.log (by omega) (c.txs.getD i GTx.z).id ((wantsL (c.txs.getD i GTx.z)).getD k 0) 1)))) rfl rfl rfl (SVs.imp_refl _) (fun _ => rfl) rfl rfl rfl fun _ _ => ?_
          refine DJ_onL TT_ok [12, 13] rfl ?_
          refine DJ_endA TT_ok rfl ?_
          refine T_condD rfl (fun e4 => ?_) (fun e4 => ?_)
          · refine T_auto TT_ok rfl ?_
            refine RJ_C TT_ok (Con.sw 900 65 (l3Unlock_k (cellsOf m ((wantsL (c.txs.getD i GTx.z)).getD k 0)) (setsAt ((wantsL (c.txs.getD i GTx.z)).getD k 0) (c.txs.getD i GTx.z).sets) (by omega) hcb s1)) rfl rfl (SVs.imp_refl _) (fun _ => rfl) rfl rfl rfl fun _ _ => ?_
            refine RJ_auto TT_ok rfl ?_
            exact X_inv () trivial Nat.zero_lt_one (by repeat (first | exact trivial | refine And.intro ⟨_, rfl, SV.imp_refl _⟩ ?_)) ⟨⟨_, rfl, imp_list (by unfold endX; rw [e3, cond_false, if_pos (show 0 ≤ logI m (c.txs.getD i GTx.z).id ((wantsL (c.txs.getD i GTx.z)).getD k 0) 1 from e4)])⟩, (by repeat (first | exact trivial | refine And.intro ⟨_, rfl, Ch.imp_refl _⟩ ?_))⟩
          · refine T_auto TT_ok rfl ?_
            exact X_inv () trivial Nat.zero_lt_one (by repeat (first | exact trivial | refine And.intro ⟨_, rfl, SV.imp_refl _⟩ ?_)) ⟨⟨_, rfl, imp_list (by unfold endX; rw [e3, cond_false, if_neg (show ¬ 0 ≤ logI m (c.txs.getD i GTx.z).id ((wantsL (c.txs.getD i GTx.z)).getD k 0) 1 from e4)])⟩, (by repeat (first | exact trivial | refine And.intro ⟨_, rfl, Ch.imp_refl _⟩ ?_))⟩
      rintro ⟨⟩ _
      refine X_go TT_ok rfl ?_
      refine T_drawL TT_ok [60, 62, 63] [0, 1, 2, 3, 4, 5, 6, 7, 8, 9] rfl rfl fun B0 H0 => ?_
      refine DJ_C 9 (Con.sw 905 67 (Con.sw 904 66 (Con.sw 903 63 (Con.sw 902 62 (Con.sw 901 61 (Con.sw 900 60 (l6Clear_k m (by omega) (by omega) hrs (c.txs.getD i GTx.z).id ((wantsL (c.txs.getD i GTx.z)).getD k 0) false))))))) rfl rfl rfl (SVs.imp_refl _) (fun _ => rfl) rfl rfl rfl fun _ _ => ?_
      refine DJ_endA TT_ok rfl ?_
      refine X_view (V_fold 64 1 65 rfl rfl rfl rfl rfl rfl rfl) ?_
      refine X_view (V_uncarve 61 64 rfl rfl rfl rfl rfl rfl rfl) ?_
      refine X_view (V_imp 61 rfl (imp_set (y := (putX m ((wantsL (c.txs.getD i GTx.z)).getD k 0) (endX d (c.txs.getD i GTx.z) ((wantsL (c.txs.getD i GTx.z)).getD k 0) m))) (OwnI.refl _)) rfl) ?_
      refine X_view (V_fold 60 1 61 rfl rfl rfl rfl rfl rfl rfl) ?_
      refine X_view (V_fold 60 2 66 rfl rfl rfl rfl rfl rfl rfl) ?_
      refine X_view (V_fold 60 3 67 rfl rfl rfl rfl rfl rfl rfl) ?_
      refine X_view (V_uncarve 902 60 rfl rfl rfl rfl rfl rfl rfl) ?_
      exact X_inv (j + 1) hj (by omega) (by repeat (first | exact trivial | refine And.intro ⟨_, rfl, SV.imp_refl _⟩ ?_)) ⟨⟨_, rfl, Ch.imp_trans (imp_set (y := clearR (setCells m ((wantsL (c.txs.getD i GTx.z)).getD k 0) (endX d (c.txs.getD i GTx.z) ((wantsL (c.txs.getD i GTx.z)).getD k 0) m)) (c.txs.getD i GTx.z).id ((wantsL (c.txs.getD i GTx.z)).getD k 0) false) (OwnI.refl _)) (imp_list hS.symm)⟩, (by repeat (first | exact trivial | refine And.intro ⟨_, rfl, Ch.imp_refl _⟩ ?_))⟩
    have e2 : ¬ (j : Int) < ((placeM c ((wantsL (c.txs.getD i GTx.z)).getD k 0)).length : Int) := e2
    have hj : j = (placeM c ((wantsL (c.txs.getD i GTx.z)).getD k 0)).length := by omega
    subst hj
    refine T_auto TT_ok rfl ?_
    exact X_inv (k + 1) hk (by omega) (by repeat (first | exact trivial | refine And.intro ⟨_, rfl, SV.imp_refl _⟩ ?_)) ⟨⟨_, rfl, imp_list (endE_row c d (c.txs.getD i GTx.z) k).symm⟩, (by repeat (first | exact trivial | refine And.intro ⟨_, rfl, Ch.imp_refl _⟩ ?_))⟩
  have hk : k = (wantsL (c.txs.getD i GTx.z)).length := by omega
  subst hk
  refine T_view (V_carve 903 (i : Int) 77 rfl rfl rfl rfl rfl rfl ⟨by omega, by omega⟩) ?_
  refine T_view (V_pe 4 rfl rfl rfl) ?_
  refine T_auto TT_ok rfl ?_
  refine T_cond (b := d) rfl (fun e3 => ?_) (fun e3 => ?_)
  · subst e3
    refine T_fin TT_ok rfl ?_
    refine X_view (V_uncarve 903 77 rfl rfl rfl rfl rfl rfl rfl) ?_
    refine X_fin TT_ok () [] rfl rfl ?_ ?_ ?_
    · exact SVs.imp_refl _
    · exact ⟨⟨_, rfl, Ch.imp_refl _⟩, ⟨_, rfl, imp_set (y := endT true (c.txs.getD i GTx.z)) (OwnI.refl _)⟩, trivial⟩
    · trivial
  · subst e3
    refine T_view (V_uncarve 903 77 rfl rfl rfl rfl rfl rfl rfl) ?_
    refine T_skip ?_
    refine X_fin TT_ok () [] rfl rfl ?_ ?_ ?_
    · exact SVs.imp_refl _
    · exact ⟨⟨_, rfl, Ch.imp_refl _⟩, ⟨_, rfl, imp_set (y := endT false (c.txs.getD i GTx.z)) (OwnI.refl _)⟩, trivial⟩
    · trivial
end Go.Proofs.YtcikaknfogpeeaaGreat
namespace Go.Proofs.YtcikaknfogpeeaaGreat
open Go Go.RowKit
set_option linter.unusedVariables false
set_option linter.unusedSimpArgs false
section
variable {P : Program}
theorem Con.liftH {ι : Type} {f sz n k k3 ko sz3 n3 : Nat} {g f3 : Nat → List D} {xD : List D} {xr : Value → List Value} {ks : List Nat} {args : List SV} {args' : (Nat → List Value) → Value → List SV} {rest : Mu} {rest' : ι → Mu} {φ : ι → Prop} {res : ι → List SV} {m : ι → Nat} {ρ : ι → Nat → Option Nat} (hk : k ≠ k3)
    (hro : ∀ j c, mlk j rest = some c → c.own? = true ∧ j ≠ k ∧ j ≠ k3) (hro' : ∀ y j c, mlk j (rest' y) = some c → c.own? = true ∧ j ≠ ko)
    (hgo : ∀ i, i < n → oneDs (g i) = true) (hx : ∀ (h : PH) v, D.own h (.sl sz3 n3 f3) v → D.owns h xD (xr v))
    (hσ : ∀ y, φ y → ∀ j, j < m y → ∀ i, ρ y j = some i → i < n) (hin : ∀ y, φ y → ∀ i j, i < m y → j < m y → i ≠ j → ρ y i ≠ ρ y j)
    (hA : ∀ (B : BE) (r r' : PH) (H H' : Nat → PH) (vals : List Value) (row : Nat → List Value), r.le r' → (∀ i, i < n → D.rds r' (g i) (row i)) → D.rd r' (.sl sz3 n3 f3) (B k3) → SV.rels P B (Zf r H) args vals → SV.rels P B (Zf r' H') (args' row (B k3)) vals)
    (hR : ∀ y (B : BE) (r r' : PH) (H H' : Nat → PH) (out : List Value), SV.rels P B (Zf r H) (res y) out → SV.rels P B (Zf r' H') (res y) out)
    (hrest : ∀ y (B : BE) (r r' h : PH) j c, mlk j (rest' y) = some c → c.sat B r' h j → c.sat B r h j)
    (C : ∀ (row : Nat → List Value) (sv : Value), (∀ i, i < n → (row i).length = sz) → (∀ i, i < n → ∀ u ∈ row i, oneV u = true) → (∃ A c, sv = .slice A n3 c) → (∀ i, i < n → ∃ h, D.rds h (g i) (row i)) → Con P f ks (args' row sv) ((k, .arr sz n fun i => (row i).map D.v) :: rest) φ res fun y => (ko, .arr sz (m y) fun j => (pickO row (xr sv) (ρ y j)).map D.v) :: rest' y) :
    Con P f ks args ((k, .arr sz n g) :: (k3, .arr sz3 n3 f3) :: rest) φ res fun y => (ko, .arr sz (m y) fun j => pickO g xD (ρ y j)) :: rest' y := fun B r w H vals mm hemp hargs => by
  have s1 : D.own (H k) (.sl sz n g) (B k) := mm.sat k (.arr sz n g) (by rw [mlk_cons, if_pos rfl])
  have s3 : D.own (H k3) (.sl sz3 n3 f3) (B k3) := mm.sat k3 (.arr sz3 n3 f3) (by rw [mlk_cons, if_neg hk, mlk_cons, if_pos rfl])
  obtain ⟨A, c, row, hc, hp, G, e1, e2, va, lc, lp, dcp, ho, hG, hd⟩ := own_VA s1
  have d13 : (H k).dj (H k3) := mm.dj _ _ hk
  have dpp : hp.dj (H k3) := PH.dj_le d13 lp (PH.le_refl _)
  have drp1 : r.dj hp := PH.dj_symm (PH.dj_le (mm.djr k) lp (PH.le_refl _))
  have drp : r.dj (hp.un (H k3)) := PH.dj_un drp1 (PH.dj_symm (mm.djr k3))
  have ro := PH.le_un_left r (hp.un (H k3))
  have rp := PH.le_un_right drp
  have pl1 := PH.le_un_left hp (H k3)
  have pl2 := PH.le_un_right dpp
  let H1 : Nat → PH := fun j => if j = k then hc else if j = k3 then PH.emp else H j
  have hk1 : H1 k = hc := by simp [H1]
  have hk3 : H1 k3 = PH.emp := by simp [H1, Ne.symm hk]
  have hne : ∀ j, j ≠ k → j ≠ k3 → H1 j = H j := fun j hj hj2 => by simp [H1, hj, hj2]
  have hle : ∀ j, (H1 j).le (H j) := fun j => by
    by_cases h : j = k
    · subst h; rw [hk1]; exact lc
    · by_cases h2 : j = k3
      · subst h2; rw [hk3]; exact PH.emp_le _
      · rw [hne j h h2]; exact PH.le_refl _
  have hdj : ∀ j, (H1 j).dj (hp.un (H k3)) := fun j => by
    refine PH.dj_un ?_ ?_
    · by_cases h : j = k
      · subst h; rw [hk1]; exact dcp
      · exact PH.dj_le (mm.dj j k h) (hle j) lp
    · by_cases h : j = k3
      · subst h; rw [hk3]; exact PH.emp_dj _
      · exact PH.dj_le (mm.dj j k3 h) (hle j) (PH.le_refl _)
  have satup : ∀ (c : Ch) (h : PH) j, c.own? = true → c.sat B r h j → c.sat B (r.un (hp.un (H k3))) h j := fun c h j hc hs => by
    cases c with
    | row l => obtain ⟨b, o, vs, h', a1, a2, a3⟩ := hs; exact ⟨b, o, vs, h', a1, V.owns_mono ro (PH.le_refl _) a2, a3⟩
    | arr => exact hs
    | hole => exact hs
    | ro => cases hc
    | rrow => cases hc
  have mm1 : Mm B (r.un (hp.un (H k3))) ((k, .arr sz n fun i => (row i).map D.v) :: rest) w H1 := by
    refine ⟨fun j d e => ?_, fun j => (mm.fit j).le (hle j), fun i j hij => PH.dj_le (mm.dj i j hij) (hle i) (hle j), fun j => PH.dj_un (PH.dj_le (mm.djr j) (hle j) (PH.le_refl _)) (hdj j), Fit.un mm.fitr (Fit.un ((mm.fit k).fit.le lp) (mm.fit k3).fit)⟩
    rw [mlk_cons] at e
    by_cases hj : k = j
    · subst hj
      rw [if_pos rfl] at e; injection e with e; subst e
      rw [hk1]
      show D.own hc _ (B k)
      rw [e1]
      exact VA_own (hp := PH.emp) (G := fun _ => PH.emp) va e2 (PH.le_refl _) (PH.emp_le _) (PH.dj_emp _) (fun i _ => flat_owns) (fun _ _ => PH.le_refl _) fun _ _ _ _ _ => PH.emp_dj _
    · rw [if_neg hj] at e
      obtain ⟨q1, q2, q3⟩ := hro j d e
      rw [hne j q2 q3]
      exact satup d _ j q1 (mm.sat j d (by rw [mlk_cons, if_neg hj, mlk_cons, if_neg (Ne.symm q3)]; exact e))
  have keys : ∀ {l : Mu} j, hasK j (keysO l) = true → ∃ c, (j, c) ∈ l ∧ c.own? = true := fun {l} j => by
    induction l with
    | nil => intro h; cases h
    | cons x r ih =>
      obtain ⟨i, c⟩ := x
      intro h
      simp only [keysO] at h
      cases hc : c.own? with
      | false => rw [hc] at h; obtain ⟨d, d1, d2⟩ := ih h; exact ⟨d, List.mem_cons_of_mem _ d1, d2⟩
      | true =>
        rw [hc] at h
        simp only [cond_true] at h
        rcases (hasK_cons j i _).1 h with e | e
        · subst e; exact ⟨c, List.mem_cons_self, hc⟩
        · obtain ⟨d, d1, d2⟩ := ih e; exact ⟨d, List.mem_cons_of_mem _ d1, d2⟩
  have up : ∀ b o, ownD ((k, .arr sz n fun i => (row i).map D.v) :: rest) H1 b o → ownD ((k, .arr sz n g) :: (k3, .arr sz3 n3 f3) :: rest) H b o := fun b o ⟨j, h1, h2⟩ => by
    obtain ⟨c, c1, c2⟩ := keys j h1
    refine ⟨j, ?_, PH.le_ne (hle j) h2⟩
    rcases List.mem_cons.1 c1 with e | e
    · injection e with e1 e2
      subst e1
      exact keysO_has List.mem_cons_self rfl
    · exact keysO_has (List.mem_cons_of_mem _ (List.mem_cons_of_mem _ e)) c2
  have own0 : ∀ j b o, j = k ∨ j = k3 → H j b o ≠ none → ownD ((k, .arr sz n g) :: (k3, .arr sz3 n3 f3) :: rest) H b o := fun j b o hj h => by
    refine ⟨j, ?_, h⟩
    rcases hj with rfl | rfl
    · exact keysO_has List.mem_cons_self rfl
    · exact keysO_has (List.mem_cons_of_mem _ List.mem_cons_self) rfl
  obtain ⟨A3, c3, hv3, _⟩ := (show ∃ A c, B k3 = .slice A n3 c ∧ _ from s3)
  refine (C row (B k3) (fun i hi => (ho i hi).2) (fun i hi => owns_one (ho i hi).1 (oneDs_ok (hgo i hi))) ⟨A3, c3, hv3⟩ (fun i hi => ⟨_, D.owns_rds _ (ho i hi).1⟩) B _ w H1 vals mm1 (fun j hj => ?_)
    (hA B r _ H H1 vals row ro (fun i hi => D.rds_mono (PH.le_trans (PH.le_trans (hG i) pl1) rp) _ (D.owns_rds _ (ho i hi).1)) (D.rd_mono (PH.le_trans pl2 rp) _ (D.own_rd _ s3)) hargs)).mono ?_
  · by_cases h : j = k
    · subst h; rw [keysO_has (c := .arr sz n fun i => (row i).map D.v) List.mem_cons_self rfl] at hj; cases hj
    · by_cases h2 : j = k3
      · subst h2; exact hk3
      · rw [hne j h h2]
        refine hemp j ?_
        cases e : hasK j (keysO ((k, .arr sz n g) :: (k3, .arr sz3 n3 f3) :: rest)) with
        | false => rfl
        | true =>
          obtain ⟨c, q1, q2⟩ := keys j e
          rcases List.mem_cons.1 q1 with e | e
          · injection e with e1 e2; exact absurd e1 h
          · rcases List.mem_cons.1 e with e | e
            · injection e with e1 e2; exact absurd e1 h2
            · rw [keysO_has (List.mem_cons_of_mem _ e) q2] at hj; cases hj
  rintro e w' ⟨y, B', H', out, hy, he, hres, mm2, hB, hkeep, hdom⟩
  have s2 : D.own (H' ko) (.sl sz (m y) fun j => (pickO row (xr (B k3)) (ρ y j)).map D.v) (B' ko) := mm2.sat ko (.arr sz (m y) fun j => (pickO row (xr (B k3)) (ρ y j)).map D.v) (by rw [mlk_cons, if_pos rfl])
  obtain ⟨A2, c2, row2, hc2, hp2, G2, f1, f2, va2, lc2, lp2, dcp2, ho2, hG2, hd2⟩ := own_VA s2
  have heq : ∀ j, j < m y → row2 j = pickO row (xr (B k3)) (ρ y j) := fun j hj => owns_flat (ho2 j hj).1
  have dk : ∀ j, (H' j).dj (hp.un (H k3)) := fun j => PH.dj_le (mm2.djr j) (PH.le_refl _) rp
  let H3 : Nat → PH := fun j => if j = ko then (H' ko).un (hp.un (H k3)) else H' j
  have h3 : H3 ko = (H' ko).un (hp.un (H k3)) := by simp [H3]
  have h3n : ∀ j, j ≠ ko → H3 j = H' j := fun j hj => by simp [H3, hj]
  have fitp : FitO (hp.un (H k3)) w' := (((mm.fit k).le lp).un (mm.fit k3)).keep hkeep fun b o h ⟨j, _, h2⟩ => by
    rcases hdj j b o with h4 | h4
    · exact h2 h4
    · exact h h4
  refine ⟨y, B', H3, out, hy, he, hR y B' _ _ H' H3 out hres, ⟨fun j d e => ?_, fun j => ?_, fun i j hij => ?_, fun j => ?_, mm2.fitr.le ro⟩, hB, hkeep.mono fun b _ o h => up b o h, fun j b o h => ?_⟩
  · rw [mlk_cons] at e
    by_cases hj : ko = j
    · subst hj
      rw [if_pos rfl] at e; injection e with e; subst e
      rw [h3]
      show D.own _ _ (B' ko)
      rw [f1]
      refine VA_own (hc := hc2) (hp := hp.un (H k3)) (G := fun j => pickO G (H k3) (ρ y j)) (row := row2) va2 f2 (PH.le_trans lc2 (PH.le_un_left _ _)) (PH.le_un_right (dk ko)) (PH.dj_le (dk ko) lc2 (PH.le_refl _)) (fun j hj => ?_) (fun j _ => ?_) fun i j hi hj hij => ?_
      · rw [heq j hj]
        have h4 := hσ y hy j hj
        generalize ρ y j = x at h4
        cases x with
        | some a => exact (ho a (h4 a rfl)).1
        | none => exact hx _ _ s3
      · generalize ρ y j = x
        cases x with
        | some a => exact PH.le_trans (hG a) pl1
        | none => exact pl2
      · have h4 := hin y hy i j hi hj hij
        generalize ρ y i = x at h4
        generalize ρ y j = z at h4
        cases x with
        | some a =>
          cases z with
          | some a2 => exact hd a a2 fun e => h4 (by rw [e])
          | none => exact PH.dj_le dpp (hG a) (PH.le_refl _)
        | none =>
          cases z with
          | some a2 => exact PH.dj_symm (PH.dj_le dpp (hG a2) (PH.le_refl _))
          | none => exact absurd rfl h4
    · rw [if_neg hj] at e
      rw [h3n j (Ne.symm hj)]
      exact hrest y B' r _ _ j d e (mm2.sat j d (by rw [mlk_cons, if_neg hj]; exact e))
  · by_cases hj : j = ko
    · subst hj; rw [h3]; exact (mm2.fit j).un fitp
    · rw [h3n j hj]; exact mm2.fit j
  · by_cases hi : i = ko
    · subst hi
      rw [h3, h3n j (Ne.symm hij)]
      exact PH.un_dj (mm2.dj i j hij) (PH.dj_symm (dk j))
    · by_cases hj : j = ko
      · subst hj
        rw [h3, h3n i hi]
        exact PH.dj_un (mm2.dj i j hij) (dk i)
      · rw [h3n i hi, h3n j hj]; exact mm2.dj i j hij
  · by_cases hj : j = ko
    · subst hj; rw [h3]; exact PH.un_dj (PH.dj_le (mm2.djr j) (PH.le_refl _) ro) (PH.dj_symm drp)
    · rw [h3n j hj]; exact PH.dj_le (mm2.djr j) (PH.le_refl _) ro
  · by_cases hj : j = ko
    · subst hj
      rw [h3] at h
      rcases PH.un_ne h with h1 | h1
      · rcases hdom j b o h1 with h2 | h2
        · exact .inl (up b o h2)
        · exact .inr h2
      · rcases PH.un_ne h1 with h2 | h2
        · exact .inl (own0 k b o (.inl rfl) (PH.le_ne lp h2))
        · exact .inl (own0 k3 b o (.inr rfl) h2)
    · rw [h3n j hj] at h
      rcases hdom j b o h with h2 | h2
      · exact .inl (up b o h2)
      · exact .inr h2
end
end Go.Proofs.YtcikaknfogpeeaaGreat
namespace Go.Proofs.YtcikaknfogpeeaaGreat
open Go Go.RowKit
set_option linter.unusedVariables false
set_option linter.unusedSimpArgs false
set_option maxRecDepth 4000
abbrev RW := Int × Option Addr × Nat × Nat
abbrev eR (p : RW) : List D := [.v (.int .i64 p.1), .v (.slice p.2.1 p.2.2.1 p.2.2.2)]
abbrev zR : RW := (0, none, 0, 0)
theorem l6At_r (rs : List RW) (hl : rs.length ≤ 1048576) (al : Bool) (r0 : Int) :
    Con Tryz.prog 45 [901, 902, 903] [.ag [.v (.bool al), .g 901, .g 902, .g 903], vI r0] [(901, .ro 2 rs.length fun i => eR (rs.getD i zR))] (fun _ : Unit => True) (fun _ => [vI (idxI (fun p => p.1 == r0) rs)]) fun _ => [] := by
  refine con_enter Tryz.func45 rfl rfl rfl fun B0 r_ D_ w0 => ?_
  refine T_auto TT_ok rfl ?_
  refine T_loopA (ι := Nat) (fun i => [(5, vI i)]) (fun _ => []) (fun i => i ≤ rs.length ∧ ∀ j, j < i → ((rs.getD j zR).1 == r0) = false) (fun i => rs.length - i) 0 [] [] rfl rfl ⟨Nat.zero_le _, fun j hj => absurd hj (Nat.not_lt_zero _)⟩ (by repeat (first | exact trivial | refine And.intro ⟨_, rfl, SV.imp_refl _⟩ ?_)) (by repeat (first | exact trivial | refine And.intro ⟨_, rfl, Ch.imp_refl _⟩ ?_)) ?_
  intro i ⟨h1, h2⟩
  refine T_auto TT_ok rfl ?_
  refine T_condD rfl (fun e => ?_) (fun e => ?_)
  · have hi : i < rs.length := by omega
    refine T_auto TT_ok rfl ?_
    refine T_cond rfl (fun e2 => ?_) (fun e2 => ?_)
    · refine T_auto TT_ok rfl ?_
      refine T_ret TT_ok (()) [(4, none)] rfl rfl ?_ ?_ ?_
      · exact SVs.cons (SV.imp_of (vI_eq (idxI_at (z := zR) (p := fun p => p.1 == r0) hi h2 e2).symm)) rfl
      · trivial
      · trivial
    · refine T_auto TT_ok rfl ?_
      exact X_inv (i + 1) ⟨hi, before_succ h2 e2⟩ (by omega) (by repeat (first | exact trivial | refine And.intro ⟨_, rfl, SV.imp_refl _⟩ ?_)) (by repeat (first | exact trivial | refine And.intro ⟨_, rfl, Ch.imp_refl _⟩ ?_))
  · refine T_auto TT_ok rfl ?_
    refine T_ret TT_ok (()) [(4, none)] rfl rfl ?_ ?_ ?_
    · exact SVs.cons (SV.imp_of (vI_eq (idxI_no (z := zR) fun j hj => h2 j (by omega)).symm)) rfl
    · trivial
    · trivial
set_option maxHeartbeats 1000000 in
theorem l6Ins_c (rs : List RW) (hl : rs.length ≤ 100) (al : Bool) (r0 : Int) (sv : Option Addr × Nat × Nat) (p : Nat) (hp : cutAt (fun x => x.1 - r0) zR rs p) (hrise : rising (fun x => x.1 - r0) zR rs) (hno : idxI (fun p => p.1 == r0) rs < 0) :
    Con Tryz.prog 47 [900, 901, 902, 903, 905] [.a (.p 900 0), vI r0, .a (.v (.slice sv.1 sv.2.1 sv.2.2))] [(901, arrC 2 eR zR rs), (900, .row [.v (.bool al), .g 901, .g 902, .g 903])] (fun _ : Unit => True) (fun _ => [])
      fun _ => [(904, arrC 2 eR zR (insL p (r0, sv) rs)), (900, .row [.v (.bool al), .g 904, .g 902, .g 903])] := by
  refine con_enter Tryz.func47 rfl rfl rfl fun B0 r_ D_ w0 => ?_
  refine T_auto TT_ok rfl ?_
  refine RJ_C TT_ok (l6At_r rs (by omega) al r0) rfl rfl (SVs.imp_refl _) (fun _ => rfl) rfl rfl rfl fun _ _ => ?_
  refine RJ_auto TT_ok rfl ?_
  refine T_condD rfl (fun e => absurd e (by omega)) (fun _ => ?_)
  refine T_auto TT_ok rfl ?_
  refine RJ_bs TT_ok 40 (fun i => eR (([] : List RW).getD i zR)) rfl rfl rfl rfl rfl rfl rfl (fun i hi => absurd hi (Nat.not_lt_zero _)) (mu1 := []) rfl rfl rfl ?_
  refine RJ_auto TT_ok rfl ?_
  refine T_loopA (ι := Nat) (fun i => [(8, vI i), (7, .a (.g 40))]) (fun i => [(40, arrC 2 eR zR (rs.take i))]) (fun i => i ≤ rs.length ∧ ∀ a, a < i → (rs.getD a zR).1 < r0) (fun i => rs.length - i) 0 [40] [40] rfl rfl ⟨Nat.zero_le _, fun a ha => absurd ha (Nat.not_lt_zero _)⟩ (by repeat (first | exact trivial | refine And.intro ⟨_, rfl, SV.imp_refl _⟩ ?_)) ⟨⟨_, rfl, imp_list (sz := 2) (enc := eR) (z := zR) (xs := []) rfl⟩, trivial⟩ ?_
  intro i ⟨h1, h2⟩
  refine T_auto TT_ok rfl ?_
  refine T_cond (b := bif decide ((i : Int) < rs.length) then decide ((rs.getD i zR).1 < r0) else false) rfl (fun e3 => ?_) (fun e3 => ?_)
  · have hi : i < rs.length := by
      rcases Nat.lt_or_ge i rs.length with h | h
      · exact h
      · rw [decide_eq_false (by omega)] at e3; cases e3
    have hlt : (rs.take i).length = i := by rw [List.length_take]; omega
    rw [decide_eq_true (by omega)] at e3
    have e3 : (rs.getD i zR).1 < r0 := of_decide_eq_true e3
    refine T_auto TT_ok rfl ?_
    refine RJ_bs TT_ok 80 (fun _ => eR (rs.getD i zR)) rfl rfl rfl rfl rfl rfl rfl (fun i hi => by rcases i with _ | i <;> first | rfl | omega) (mu1 := []) rfl rfl rfl ?_
    refine RJ_auto TT_ok rfl ?_
    refine RJ_appM TT_ok 40 80 81 rfl rfl rfl rfl rfl rfl rfl rfl rfl rfl rfl rfl ⟨by show ((rs.take i).length + 1) * 32 ≤ _; omega, by unfold maxL; omega⟩ ?_
    refine RJ_auto TT_ok rfl ?_
    refine X_view (V_sw 40 81) ?_
    refine X_inv (i + 1) ⟨hi, fun a ha => ?_⟩ (by omega) (by repeat (first | exact trivial | refine And.intro ⟨_, rfl, SV.imp_refl _⟩ ?_)) ⟨⟨_, rfl, imp_app1 (x := rs.getD i zR) (take_succ_getD hi) rfl⟩, (by repeat (first | exact trivial | refine And.intro ⟨_, rfl, Ch.imp_refl _⟩ ?_))⟩
    by_cases c : a < i
    · exact h2 a c
    · have : a = i := by omega
      subst this
      exact e3
  have hc : p = i := cutAt_uniq hp ⟨h1, fun a ha => by have := h2 a ha; show (rs.getD a zR).1 - r0 < 0; omega, fun a ha hb hlt => by
    have h3 := hrise i a ha hb hlt
    have h3 : (rs.getD i zR).1 - r0 < 0 := h3
    rw [decide_eq_true (show (i : Int) < rs.length by omega), cond_true] at e3
    have := of_decide_eq_false e3
    omega⟩
  subst hc
  have hlt : (rs.take p).length = p := by rw [List.length_take]; omega
  refine T_auto TT_ok rfl ?_
  refine T_cap 7 40 rfl rfl fun cp _ => ?_
  refine T_drawL TT_ok [40] [0, 1, 2, 3, 6, 7, 8, 9, 10, 11, 12, 4, 5, 13, 14] rfl rfl fun B0 H0 => ?_
  refine DJ_one 4 rfl (by kernel_rfl) (OJ_bs TT_ok 84 (fun _ => eR (r0, sv)) rfl rfl rfl rfl rfl rfl rfl (fun j hj => by rcases j with _ | j <;> first | rfl | omega) (mu1 := []) rfl rfl rfl (SJ_dj ?_))
  refine DJ_one 5 rfl (by kernel_rfl) (OJ_appM TT_ok 40 84 85 rfl rfl rfl rfl rfl rfl rfl rfl rfl rfl rfl rfl ⟨by show ((rs.take p).length + 1) * 32 ≤ _; omega, by unfold maxL; omega⟩ (SJ_dj ?_))
  refine DJ_one 13 rfl (by kernel_rfl) (OJ_appC TT_ok 85 91 rfl rfl rfl rfl rfl rfl rfl rfl rfl rfl rfl rfl ⟨by show ((rs.take p).length + 1 + _) * 32 ≤ _; omega, by unfold maxL; omega⟩ (SJ_dj ?_) (hob := ⟨rfl, ⟨by omega, by omega, by omega⟩, trivial⟩))
  refine DJ_onL TT_ok [14] rfl ?_
  refine DJ_end (by kernel_rfl) ?_
  refine X_T ?_
  refine T_fin TT_ok rfl ?_
  refine X_view (V_sw 91 904) ?_
  refine X_fin TT_ok () [] rfl rfl ?_ ?_ ?_
  · exact SVs.imp_refl _
  · exact ⟨⟨_, rfl, imp_ins2 (x := (r0, sv)) h1⟩, ⟨_, rfl, Ch.imp_refl _⟩, trivial⟩
  · trivial
end Go.Proofs.YtcikaknfogpeeaaGreat
