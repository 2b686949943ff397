/-
  What the claim leans on, made short by program.
-/
import Derived.Test.YtnffflcjaipdkaaGreatQE
import Derived.ChangeArms
import Derived.MapPlaces
namespace Go.Proofs.YtnffflcjaipdkaaGreat
open Go Go.RowKit
set_option linter.unusedVariables false
set_option linter.unusedSimpArgs false
set_option maxRecDepth 4000
section
set_option maxHeartbeats 4000000 in
theorem uZ (c:GCluster) (hb:D.bds dJ (bO c)):yB Tryz.prog 46 [vR (bO c)] (eZ c):=by
 refine aE Tryz.func46 fun B0 r_ D_ w0=>?_
 refine aT ?_
 refine aU 1 fun r_=>?_
 refine aF ?_
 refine aH (d5 c hb) ?_
 refine aA (b:=bif !dec (ClusOk c) then true else c.config == 1000000) (fun e=>?_) (fun e=>?_)
 ·rw [xH (c:=c) (fun h=>by rw [cN h.1] at e;simp [h.2] at e)]
  refine aF ?_
  refine bB (a5 2 2 1 (fun i=>cE (([]:List GPlace).getD i aCi))) ?_
  refine bB (a5 2 3 4 (fun i=>bJ (([]:List GMachine).getD i aCj))) ?_
  refine bB (a5 2 4 7 (fun i=>cTx (([]:List GTx).getD i aCk))) ?_
  refine bB (a6 2 2 901) ?_
  refine bB (a6 2 3 902) ?_
  refine bB (a6 2 4 903) ?_
  refine aC (()) [(2,some 28)] ?_ ?_ ?_
  ·exact aCu _
  ·exact wM
  ·trivial
 have hok:ClusOk c:=by
  cases h:dec (ClusOk c) with
  | true=>exact c9.1 h
  | false=>rw [h] at e;cases e
 have hcf:c.config≠1000000:=fun h=>by rw [cN hok,h] at e;cases e
 clear e
 have hml:=hok.1.2.2.1
 have htl:=hok.1.2.2.2
 have hcg:=hok.1.1
 have hal:=qI c
 have hp6:=hok.2.1.1
 have hql:(bK c).length=c.places.length:=List.length_map _
 refine aF ?_
 refine aR (fY c hb) fun _ _=>?_
 refine aN ?_
 refine aM 40 (fun i=>qT (([]:List Bool).getD i false)) (fun i hi=>absurd hi (Nat.not_lt_zero _)) (mu1:=[]) ?_
 refine aN ?_
 refine cY (ι:=Nat) (fun k=>[(5,vI k),(4, .a (.g 40))]) (fun k=>[(40,bE 1 qT false ((fQ c).take k))]) (fun k=>k≤c.machines.length) (fun k=>c.machines.length - k) 0 [40] [40] rfl rfl (Nat.zero_le _) wF ⟨⟨_,rfl,bP (sz:=1) (enc:=qT) (z:=false) (xs:=[]) rfl⟩,trivial⟩ ?_
 intro k h1
 have hlt:((fQ c).take k).length=k:=by rw [List.length_take];omega
 refine aF ?_
 refine aI (fun e=>?_) (fun e=>?_)
 ·have hk:k<c.machines.length:=by omega
  refine aF ?_
  refine cV TT_ok 41 (fun _=>qT (c.machines.getD k aCj).alive) rfl rfl rfl rfl rfl rfl rfl (fun i hi=>by rcases i with _ | i <;>first | rfl | omega) (mu1:=[]) rfl rfl rfl ?_
  refine aN ?_
  refine cU TT_ok 40 41 42 rfl rfl rfl rfl rfl rfl rfl rfl rfl rfl rfl rfl ⟨by show (((fQ c).take k).length+1) * 1≤_;omega,by unfold maxL;omega⟩ ?_
  refine aN ?_
  refine bC (bL 40 42) ?_
  exact bN (k+1) hk (by omega) wF ⟨⟨_,rfl,fJ (x:=(c.machines.getD k aCj).alive) (by rw [cC (z:=false) (by omega),zN c hk]) rfl⟩,wM⟩
 have hk:k=c.machines.length:=by omega
 subst hk
 rw [List.take_of_length_le (show (fQ c).length≤c.machines.length by omega)]
 refine aF ?_
 refine cO TT_ok (P7 c.places hok.2.1 (fQ c) (by omega)) rfl rfl (aCu _) (fun _=>rfl) rfl rfl rfl fun _ _=>?_
 refine aN ?_
 by_cases hl:(jU c).length=0
 ·rw [uK hok hcf hl]
  refine mC rfl (fun e=>absurd e (by show ¬ ((jU c).length:Int) > 0;omega)) (fun _=>?_)
  refine aF ?_
  refine aK (ι:=Nat) (fun i=>[(8,vI i)]) (fun i=>[(902,bE 4 bJ aCj (dU c i).machines),(903,bE 7 cTx aCk (dU c i).txs)]) (fun i=>i≤c.txs.length) (fun i=>c.txs.length - i) 0 [902,903] [] (Nat.zero_le _) ?_
  intro i h1
  have hR:=qS hok i h1
  have hE:=hR.eq
  have hlen:=hR.len
  have hokd:=hR.ok hok
  rw [hE] at hokd
  have hms:(dU c i).machines.length=c.machines.length:=hR.like.len
  refine aF ?_
  refine aI (fun e=>?_) (fun e=>?_)
  ·have hi:i<c.txs.length:=by omega
   refine aF ?_
   refine aW [] [0,1,2,3,4,5,6] fun B0 H0=>?_
   refine fU 6 (wW c hb hok (c.txs.getD i aCk) (hok.txIn hi)) rfl rfl rfl (aCu _) rfl ?_
   refine aP ?_
   refine aA (fun e2=>?_) (fun e2=>?_)
   ·have hS:=GK e2
    refine aF ?_
    refine cO TT_ok (aCv 900 3 (ZI (cwt c c.clock (dU c i).machines (dU c i).txs) hokd i (by show i<(dU c i).txs.length;omega))) rfl rfl (aCu _) (fun _=>rfl) rfl rfl rfl (fun _ _=>?_) (hin:=by repeat (first | exact trivial | refine And.intro ⟨_,rfl,gS⟩ ?_ | refine And.intro ⟨_,rfl,fS⟩ ?_ | refine And.intro ⟨_,rfl,gR⟩ ?_ | refine And.intro ⟨_,rfl,fG⟩ ?_ | refine And.intro ⟨_,rfl,aCt _⟩ ?_))
    refine aN ?_
    exact bN (i+1) hi (by omega) wF ⟨⟨_,rfl,bP (by rw [hS, ← hE])⟩,⟨_,rfl,bP (by rw [hS, ← hE])⟩,wM⟩
   ·have hS:=KZ e2
    refine aF ?_
    exact bN (i+1) hi (by omega) wF ⟨⟨_,rfl,bP (by rw [hS])⟩,⟨_,rfl,bP (by rw [hS])⟩,wM⟩
  have hi:i=c.txs.length:=by omega
  subst hi
  clear hE hokd hlen hms e h1
  have hM0:More c.machines (dU c c.txs.length).machines:=hR.like.more
  generalize hz0:(dU c c.txs.length).machines=ms0 at hM0 ⊢
  generalize hz1:(dU c c.txs.length).txs=ts0
  refine aF ?_
  refine aK (ι:=Nat) (fun r=>[(9,vI r)]) (fun r=>[(902,bE 4 bJ aCj (gX c.places (bK c) r ms0)),(910,bE 1 cE aCi (bK c))]) (fun r=>r≤c.places.length) (fun r=>c.places.length - r) 0 [902,910] [] (Nat.zero_le _) ?_
  intro r h1
  refine aF ?_
  refine aI (fun e=>?_) (fun e=>?_)
  ·have e:(r:Int)<((bK c).length:Int):=e
   have hr:r<c.places.length:=by omega
   have np:=xR hok hl hr
   have hMr:=m3 hok hl hM0 r (by omega)
   have hnw:gX c.places (bK c) (r+1) ms0=iI (c.places.getD r aCi).machines ((bK c).getD r aCi).machines (r:Int) (cellsOf ((gX c.places (bK c) r ms0).getD (iQ c r).toNat aCj) (r:Int)) ((bK c).getD r aCi).machines.length (gX c.places (bK c) r ms0):=rfl
   generalize gX c.places (bK c) r ms0=ms at hMr hnw ⊢
   have hf:0≤iQ c r∧iQ c r<c.machines.length:=np.rng _ (cJ (z:=0) np.pos)
   have hf2:0≤iQ c r∧iQ c r<ms.length:=by rw [hMr.len];exact hf
   obtain ⟨hMo,hMa,hMh⟩:=hMr.ok (iQ c r).toNat (by rw [hMr.len];omega)
   have hhas:=hMh _ np.has
   have hpl:=hok.pl hr
   have hq3:=np.le
   have hq0:=np.pos
   have hrng:=np.rng
   have hfo:=np.fst
   generalize hm:ms.getD (iQ c r).toNat aCj=m at hMo hhas ⊢
   rw [hm] at hnw
   have bk:m.copies.length≤6:=hMo.1.1
   obtain ⟨hc6,hcb⟩:=fH hMo hhas
   have hix:0≤eM m r∧eM m r<m.copies.length:=p7 hhas
   have g4:0≤cI (atB (r:Int)) m.copies∧cI (atB (r:Int)) m.copies<(m.copies.length:Int):=hix
   refine bB (d6 910 (r:Int) 70 rfl rfl rfl rfl rfl rfl ⟨by omega,by omega⟩) ?_
   refine bB (a6 70 0 71) ?_
   refine bB (d6 902 (iQ c r) 60 rfl rfl rfl rfl rfl rfl hf2) ?_
   rw [hm]
   refine bB (a6 60 1 61) ?_
   refine bB (a6 60 2 62) ?_
   refine bB (a6 60 3 63) ?_
   refine aF ?_
   refine eY (kL 79 rfl rfl rfl) ?_
   refine aN ?_
   refine aW [] [0,1,2,3,4,5,6,7,8] fun B0 H0=>?_
   refine AB (z8 86 rfl rfl rfl) ?_
   refine aY [6,7,8] ?_
   refine bG 7 rfl (by kernel_rfl) (aV (bD ?_))
   refine dR 8 rfl (by kernel_rfl) (by kernel_rfl) (aV (eJ [] fun B0 H0=>?_))
   refine aP ?_
   refine aW [] [0,1,2,3,4,5,6,7,8] fun B0 H0=>?_
   refine fU 4 (wT m (by omega) (r:Int)) rfl rfl rfl (aCu _) rfl ?_
   refine UC ?_
   refine rT TT_ok 5 rfl rfl rfl rfl ?_
   refine rT TT_ok 6 rfl rfl rfl rfl ?_
   refine qN (d6 61 (eM m (r:Int)) 64 rfl rfl rfl rfl rfl rfl hix) ?_
   refine qN (a6 64 1 65) ?_
   refine qN (kL 94 rfl rfl rfl) ?_
   refine rT TT_ok 7 rfl rfl rfl rfl ?_
   refine rT TT_ok 8 rfl rfl rfl rfl ?_
   refine KL TT_ok rfl ?_
   have hcel:cellsOf m (r:Int)=(m.copies.getD (eM m (r:Int)).toNat aCp).cells:=eW hhas
   rw [← hcel]
   refine PB 65 rfl fun v=>?_
   refine bB (V_gv 64 65 (v:=v) rfl rfl rfl rfl) ?_
   refine bB (D4 11 rfl) ?_
   refine bB (a8 61 64) ?_
   refine bB (a9 60 1 61) ?_
   refine bB (a9 60 2 62) ?_
   refine bB (a9 60 3 63) ?_
   refine bB (a8 902 60) ?_
   generalize hcs:cellsOf m (r:Int)=cs at hc6 hcb hnw ⊢
   have hn1:iI (c.places.getD r aCi).machines ((bK c).getD r aCi).machines (r:Int) cs 1 ms=ms:=by rw [iI,if_pos (show ((bK c).getD r aCi).machines.getD 0 0 ∈ (c.places.getD r aCi).machines from hfo)];rfl
   refine cY (ι:=Nat) (fun k=>[(13,vI k)]) (fun k=>[(902,UE (iI (c.places.getD r aCi).machines ((bK c).getD r aCi).machines (r:Int) cs k ms) (iQ c r) (HT m (r:Int) v))]) (fun k=>k≤((bK c).getD r aCi).machines.length) (fun k=>((bK c).getD r aCi).machines.length - k) 1 [902] [] rfl rfl hq0 wF ⟨⟨_,rfl,by rw [hn1];exact aCt _⟩,wM⟩ ?_
   intro k h2
   refine aF ?_
   refine aI (fun e2=>?_) (fun e2=>?_)
   ·have e2:(k:Int)<(((bK c).getD r aCi).machines.length:Int):=e2
    have hk:k<((bK c).getD r aCi).machines.length:=by omega
    have hx:=hrng _ (cJ (z:=0) hk)
    have hMk:=nC (old:=(c.places.getD r aCi).machines) (l:=((bK c).getD r aCi).machines) (r:=(r:Int)) (by omega) hcb hrng hMr k (by omega)
    have hnk:iI (c.places.getD r aCi).machines ((bK c).getD r aCi).machines (r:Int) cs (k+1) ms=if ((bK c).getD r aCi).machines.getD k 0 ∈ (c.places.getD r aCi).machines then iI (c.places.getD r aCi).machines ((bK c).getD r aCi).machines (r:Int) cs k ms else (iI (c.places.getD r aCi).machines ((bK c).getD r aCi).machines (r:Int) cs k ms).set (((bK c).getD r aCi).machines.getD k 0).toNat (jC ((iI (c.places.getD r aCi).machines ((bK c).getD r aCi).machines (r:Int) cs k ms).getD (((bK c).getD r aCi).machines.getD k 0).toNat aCj) (r:Int) cs):=rfl
    generalize iI (c.places.getD r aCi).machines ((bK c).getD r aCi).machines (r:Int) cs k ms=ns at hMk hnk ⊢
    have hx2:0≤((bK c).getD r aCi).machines.getD k 0∧((bK c).getD r aCi).machines.getD k 0<ns.length:=by rw [hMk.len];exact hx
    obtain ⟨hMx,_,_⟩:=hMk.ok (((bK c).getD r aCi).machines.getD k 0).toNat (by rw [hMk.len];omega)
    have g1:(k:Int)<(((bK c).getD (r:Int).toNat aCi).machines.length:Int):=e2
    have g2:0≤((bK c).getD (r:Int).toNat aCi).machines.getD (k:Int).toNat 0∧((bK c).getD (r:Int).toNat aCi).machines.getD (k:Int).toNat 0<(ns.length:Int):=hx2
    refine aF ?_
    refine aW [] [0,1,2,3,4,5,6,7,8,9,10,11] fun B0 H0=>?_
    refine fU 10 (mW (c.places.getD r aCi).machines (by omega) (((bK c).getD r aCi).machines.getD k 0)) rfl rfl rfl (aCu _) rfl ?_
    refine aY [11] ?_
    refine aP ?_
    by_cases hin:((bK c).getD r aCi).machines.getD k 0 ∈ (c.places.getD r aCi).machines
    ·rw [if_pos hin] at hnk
     refine bX (b := !decide (((bK c).getD r aCi).machines.getD k 0 ∈ (c.places.getD r aCi).machines)) rfl (fun e3=>by rw [decide_eq_true hin] at e3;cases e3) (fun _=>?_)
     refine aF ?_
     exact bN (k+1) hk (by omega) wF ⟨⟨_,rfl,by rw [hnk];exact aCt _⟩,wM⟩
    ·rw [if_neg hin] at hnk
     have hne:(((bK c).getD r aCi).machines.getD k 0).toNat≠(iQ c r).toNat:=fun e=>hin (by
      have:((bK c).getD r aCi).machines.getD k 0=iQ c r:=by omega
      rw [this];exact hfo)
     refine bX (b := !decide (((bK c).getD r aCi).machines.getD k 0 ∈ (c.places.getD r aCi).machines)) rfl (fun _=>?_) (fun e3=>by rw [decide_eq_false hin] at e3;cases e3)
     refine bB (d6 902 (((bK c).getD r aCi).machines.getD k 0) 80 rfl (SO hne) rfl rfl rfl rfl hx2) ?_
     generalize hM:ns.getD (((bK c).getD r aCi).machines.getD k 0).toNat aCj=M at hMx hnk ⊢
     refine bB (a6 80 1 81) ?_
     refine bB (a6 80 2 82) ?_
     refine bB (a6 80 3 83) ?_
     have bl:M.log.length≤200:=hMx.1.2.1
     have bc:M.cleared.length≤60:=hMx.1.2.2
     have bM:M.copies.length≤6:=hMx.1.1
     refine aF ?_
     by_cases hhM:dX M (r:Int)=true
     ·have hrep:jC M (r:Int) cs=cL M (r:Int) cs:=by unfold jC;rw [if_pos hhM]
      refine aW [81] [0,1,2,3,4,5,6,7,8,9,10] fun B0 H0=>?_
      refine AB (z8 120 rfl rfl rfl) ?_
      refine iH 9 (aCv 900 85 (yG cs (by omega))) rfl rfl rfl (aCu _) (fun _=>rfl) rfl rfl rfl fun _ _=>?_
      refine iH 10 (aCv 905 85 (aCv 903 83 (aCv 902 82 (aCv 901 81 (aCv 900 80 (F9 M (by omega) (by omega) (by omega) (r:Int) hhM cs)))))) rfl rfl rfl (aCu _) (fun _=>rfl) rfl rfl rfl fun _ _=>?_
      refine aP ?_
      refine bC (a9 80 1 81) ?_
      refine bC (a9 80 2 82) ?_
      refine bC (a9 80 3 83) ?_
      refine bC (a8 902 80) ?_
      exact bN (k+1) hk (by omega) wF ⟨⟨_,rfl,by rw [hnk];exact J3 (by omega) hne (by rw [hrep];rfl)⟩,wM⟩
     ·have hhM:dX M (r:Int)=false:=by simpa using hhM
      refine aW [80,81] [0,1,2,3,4,5,6,7,8,9,10] fun B0 H0=>?_
      refine AB (z8 120 rfl rfl rfl) ?_
      refine iH 9 (aCv 900 85 (yG cs (by omega))) rfl rfl rfl (aCu _) (fun _=>rfl) rfl rfl rfl fun _ _=>?_
      refine aX 10 (aCv 905 85 (aCv 904 84 (aCv 903 83 (aCv 902 82 (aCv 901 81 (aCv 900 80 (PR M hMx (r:Int) hhM cs))))))) fun _ _=>?_
      refine aP ?_
      refine bC (a9 80 1 84) ?_
      refine bC (a9 80 2 82) ?_
      refine bC (a9 80 3 83) ?_
      refine bC (a8 902 80) ?_
      exact bN (k+1) hk (by omega) wF ⟨⟨_,rfl,by rw [hnk];exact J3 (by omega) hne (SH M (r:Int) cs).symm⟩,wM⟩
   have e2:¬ (k:Int)<(((bK c).getD r aCi).machines.length:Int):=e2
   have hk:k=((bK c).getD r aCi).machines.length:=by omega
   subst hk
   have hMk:=nC (old:=(c.places.getD r aCi).machines) (l:=((bK c).getD r aCi).machines) (r:=(r:Int)) (by omega) hcb hrng hMr _ (Nat.le_refl _)
   have hfk:=EJ (r:=(r:Int)) (xs:=cs) (ms:=ms) hfo hf.1 (fun x hx=>(hrng x hx).1) _ (Nat.le_refl _)
   rw [hm] at hfk
   generalize iI (c.places.getD r aCi).machines ((bK c).getD r aCi).machines (r:Int) cs ((bK c).getD r aCi).machines.length ms=ns at hMk hnw hfk ⊢
   have hcs2:cs=(m.copies.getD (eM m r).toNat aCp).cells:=by rw [← hcs];exact hcel
   refine bB (d6 902 (iQ c r) 90 rfl (XP m (r:Int) v) rfl rfl rfl rfl (by rw [hMk.len];exact hf)) ?_
   refine bB (a6 90 1 91) ?_
   refine bB (d6 91 (eM m r) 94 rfl (WM m (r:Int) v) rfl rfl rfl rfl hix) ?_
   refine bB (V_vg 94 65 (v:=v) rfl rfl rfl rfl rfl) ?_
   refine bB (a9 94 1 65) ?_
   refine bB (a8 91 94) ?_
   refine bB (a9 90 1 91) ?_
   refine bB (a8 902 90) ?_
   refine bB (t5 902 rfl (QJ hfk hcs2) rfl) ?_
   refine QK 65 rfl ?_
   refine bB (a9 70 0 71) ?_
   refine bB (a8 910 70) ?_
   refine bB (t5 910 rfl (PW (z:=aCi) rfl) rfl) ?_
   refine aF ?_
   exact bN (r+1) hr (by omega) wF ⟨⟨_,rfl,bP hnw.symm⟩,wM⟩
  have e:¬ (r:Int)<((bK c).length:Int):=e
  have hr:r=c.places.length:=by omega
  subst hr
  subst hz0
  subst hz1
  refine aF ?_
  refine bB (bL 910 901) ?_
  refine aC (()) [(2,some 28)] ?_ ?_ ?_
  ·exact aCu _
  ·exact wM
  ·trivial
 ·rw [yE hok hcf (by omega)]
  refine mC rfl (fun _=>?_) (fun e=>absurd (by show ((jU c).length:Int) > 0;omega) e)
  refine aF ?_
  refine aC (()) [(2,some 28)] ?_ ?_ ?_
  ·exact aCu _
  ·exact wM
  ·trivial
end
section
theorem SK (c:GCluster) (hb:D.bds dJ (bO c)) (o:GOp) :
  Con Tryz.prog 254 [911,912,913] [iC c 911 912 913,vR (cOp o)] [(911,bE 1 cE aCi c.places),(912,bE 4 bJ aCj c.machines),(913,bE 7 cTx aCk c.txs)]
   (fun _:Unit=>True) (fun _=>[iC (opM c o).1 901 902 903,vI (opM c o).2]) fun _=>[(901,bE 1 cE aCi (opM c o).1.places),(902,bE 4 bJ aCj (opM c o).1.machines),(903,bE 7 cTx aCk (opM c o).1.txs)]:=by
 refine aE Tryz.func254 fun B0 r_ D_ w0=>?_
 refine aT ?_
 refine aT ?_
 refine aT ?_
 refine zS ?_
 refine a7 (ι:=Unit) (fun _=>[(6,vI (opR c o).2)]) (fun _=>[(7, .row (fW (opR c o).1 71 72 73)),(71,bE 1 cE aCi (opR c o).1.places),(72,bE 4 bJ aCj (opR c o).1.machines),(73,bE 7 cTx aCk (opR c o).1.txs)]) (fun _=>True) [7] [] ?_ ?_
 ·have nz:∀ a b:Int,a≠b→¬ a=b:=fun _ _ h=>h
  refine aF ?_
  refine aQ (fun h1=>?_) (fun h1=>?_)
  ·have hR:opR c o=fA c o.id o.a:=by unfold opR;  rw [if_pos h1]
   rw [hR]
   refine aF ?_
   refine aR (aCv 901 71 (aCv 902 72 (aCv 903 73 (tG c hb o.id o.a)))) fun _ _=>?_
   refine aN ?_
   exact aL () trivial Nat.zero_lt_one
  refine aF ?_
  refine aQ (fun h2=>?_) (fun h2=>?_)
  ·have hR:opR c o=((pO c o.id o.a o.b).1,(pO c o.id o.a o.b).2.2):=by unfold opR;rw [if_neg h1];rw [if_pos h2]
   rw [hR]
   refine aF ?_
   refine aR (aCv 901 71 (aCv 902 72 (aCv 903 73 (Q8 c hb o.id o.a o.b)))) fun _ _=>?_
   refine aN ?_
   exact aL () trivial Nat.zero_lt_one
  refine aF ?_
  refine aQ (fun h3=>?_) (fun h3=>?_)
  ·have hR:opR c o=oM c o.id o.a o.b o.c:=by unfold opR;rw [if_neg h1];rw [if_neg h2];rw [if_pos h3]
   rw [hR]
   refine aF ?_
   refine aR (aCv 901 71 (aCv 902 72 (aCv 903 73 (QY c hb o.id o.a o.b o.c)))) fun _ _=>?_
   refine aN ?_
   exact aL () trivial Nat.zero_lt_one
  refine aF ?_
  refine aQ (fun h4=>?_) (fun h4=>?_)
  ·have hR:opR c o=((iM c o.id o.a).1,(iM c o.id o.a).2.2):=by unfold opR;rw [if_neg h1];rw [if_neg h2];rw [if_neg h3];rw [if_pos h4]
   rw [hR]
   refine aF ?_
   refine aR (aCv 901 71 (aCv 902 72 (aCv 903 73 (tW c hb o.id o.a)))) fun _ _=>?_
   refine aN ?_
   exact aL () trivial Nat.zero_lt_one
  refine aF ?_
  refine aQ (fun h5=>?_) (fun h5=>?_)
  ·have hR:opR c o=uJ c o.id o.a o.b:=by unfold opR;rw [if_neg h1];rw [if_neg h2];rw [if_neg h3];rw [if_neg h4];rw [if_pos h5]
   rw [hR]
   refine aF ?_
   refine aR (aCv 901 71 (aCv 902 72 (aCv 903 73 (RR c hb o.id o.a o.b)))) fun _ _=>?_
   refine aN ?_
   exact aL () trivial Nat.zero_lt_one
  refine aF ?_
  refine aQ (fun h6=>?_) (fun h6=>?_)
  ·have hR:opR c o=eP c o.id:=by unfold opR;rw [if_neg h1];rw [if_neg h2];rw [if_neg h3];rw [if_neg h4];rw [if_neg h5];rw [if_pos h6]
   rw [hR]
   refine aF ?_
   refine aR (aCv 901 71 (aCv 902 72 (aCv 903 73 (w7 c hb o.id)))) fun _ _=>?_
   refine aN ?_
   exact aL () trivial Nat.zero_lt_one
  refine aF ?_
  refine aQ (fun h7=>?_) (fun h7=>?_)
  ·have hR:opR c o=bZ c o.id:=by unfold opR;rw [if_neg h1];rw [if_neg h2];rw [if_neg h3];rw [if_neg h4];rw [if_neg h5];rw [if_neg h6];rw [if_pos h7]
   rw [hR]
   refine aF ?_
   refine aR (aCv 901 71 (aCv 902 72 (aCv 903 73 (vY c hb o.id)))) fun _ _=>?_
   refine aN ?_
   exact aL () trivial Nat.zero_lt_one
  refine aF ?_
  refine aQ (fun h10=>?_) (fun h10=>?_)
  ·have hR:opR c o=cM c o.id:=by unfold opR;rw [if_neg h1];rw [if_neg h2];rw [if_neg h3];rw [if_neg h4];rw [if_neg h5];rw [if_neg h6];rw [if_neg h7];rw [if_pos h10]
   rw [hR]
   refine aF ?_
   refine aR (aCv 901 71 (aCv 902 72 (aCv 903 73 (rU c hb o.id)))) fun _ _=>?_
   refine aN ?_
   exact aL () trivial Nat.zero_lt_one
  refine aF ?_
  refine aQ (fun h8=>?_) (fun h8=>?_)
  ·have hR:opR c o=((fR c o.a).1,bif !(fR c o.a).2 then 1 else 0):=by unfold opR;rw [if_neg h1];rw [if_neg h2];rw [if_neg h3];rw [if_neg h4];rw [if_neg h5];rw [if_neg h6];rw [if_neg h7];rw [if_neg h10];rw [if_pos h8]
   rw [hR]
   refine aF ?_
   refine aR (aCv 901 71 (aCv 902 72 (aCv 903 73 (l9 c hb o.a (fY c hb))))) fun _ _=>?_
   refine aN ?_
   refine aA (fun e=>?_) (fun e=>?_)
   ·rw [e]
    refine aF ?_
    exact aL () trivial Nat.zero_lt_one
   ·rw [e]
    refine aF ?_
    exact aL () trivial Nat.zero_lt_one
  refine aF ?_
  refine aQ (fun h9=>?_) (fun h9=>?_)
  ·have hR:opR c o=(eZ c,bif (eZ c).lost then 1 else 0):=by unfold opR;rw [if_neg h1];rw [if_neg h2];rw [if_neg h3];rw [if_neg h4];rw [if_neg h5];rw [if_neg h6];rw [if_neg h7];rw [if_neg h10];rw [if_neg h8];rw [if_pos h9]
   rw [hR]
   refine aF ?_
   refine aR (aCv 901 71 (aCv 902 72 (aCv 903 73 (uZ c hb)))) fun _ _=>?_
   refine aN ?_
   refine aA (fun e=>?_) (fun e=>?_)
   ·refine aF ?_
    exact bN () trivial Nat.zero_lt_one ⟨⟨_,rfl,aCw (by rw [e];rfl)⟩,wF⟩ wM
   ·refine aF ?_
    exact bN () trivial Nat.zero_lt_one ⟨⟨_,rfl,aCw (by rw [e];rfl)⟩,wF⟩ wM
  refine aF ?_
  have hR:opR c o=(aCl,0):=by unfold opR;rw [if_neg h1];rw [if_neg h2];rw [if_neg h3];rw [if_neg h4];rw [if_neg h5];rw [if_neg h6];rw [if_neg h7];rw [if_neg h10];rw [if_neg h8];rw [if_neg h9]
  rw [hR]
  refine bC (a5 7 2 1 (fun i=>cE (([]:List GPlace).getD i aCi))) ?_
  refine bC (a5 7 3 4 (fun i=>bJ (([]:List GMachine).getD i aCj))) ?_
  refine bC (a5 7 4 7 (fun i=>cTx (([]:List GTx).getD i aCk))) ?_
  refine bC (a6 7 2 71) ?_
  refine bC (a6 7 3 72) ?_
  refine bC (a6 7 4 73) ?_
  exact aL () trivial Nat.zero_lt_one
 rintro ⟨⟩ _
 refine aZ ?_
 by_cases hz:(opR c o).1.machines.length=0
 ·rw [show opM c o=(c,1) from if_pos hz]
  refine bX (b:=((opR c o).1.machines.length:Int) == 0) rfl (fun _=>?_) (fun e=>by rw [hz] at e;cases e)
  refine aF ?_
  refine bB (D4 2 rfl) ?_
  refine bB (a9 4 2 911) ?_
  refine bB (a6 4 2 901) ?_
  refine bB (a9 4 3 912) ?_
  refine bB (a6 4 3 902) ?_
  refine bB (a9 4 4 913) ?_
  refine bB (a6 4 4 903) ?_
  refine aC (()) [(4,some 28),(5,none)] ?_ ?_ ?_
  ·exact aCu _
  ·exact wM
  ·trivial
 ·rw [show opM c o=opR c o from if_neg hz]
  refine bX (b:=((opR c o).1.machines.length:Int) == 0) rfl (fun e=>absurd (by simpa using e) hz) (fun _=>?_)
  refine aF ?_
  refine bB (bL 71 901) ?_
  refine bB (bL 72 902) ?_
  refine bB (bL 73 903) ?_
  refine aC (()) [(4,some 28),(5,none)] ?_ ?_ ?_
  ·exact aCu _
  ·exact wM
  ·trivial
theorem RY (c:GCluster) (hb:D.bds dJ (bO c)) (l:List GOp) (hl:l.length≤1048576) :
  Con Tryz.prog 196 [] [vR (bO c),vL 5 cOp aCr l] [] (fun _:Unit=>True) (fun _=>[iC (vW c l).1 901 902 903, .a (.g 904)])
   fun _=>[(901,bE 1 cE aCi (vW c l).1.places),(902,bE 4 bJ aCj (vW c l).1.machines),(903,bE 7 cTx aCk (vW c l).1.txs),(904,bE 1 bS 0 (vW c l).2)]:=by
 refine aE Tryz.func196 fun B0 r_ D_ w0=>?_
 refine aT ?_
 refine aU 2 fun r_=>?_
 refine aF ?_
 refine aH (d5 c hb) ?_
 by_cases hok:ClusOk c∧l.length≤300
 ·have hlen:(l.length:Int)≤300:=by omega
  rw [show vW c l=lC c l l.length from if_pos hok]
  refine bX (b:=false) ?_ (fun e=>by cases e) (fun _=>?_)
  ·show some (SV.a (.v (.bool (bif !dec (ClusOk c) then true else decide ((l.length:Int) > 300)))))=_
   rw [cN hok.1,decide_eq_false (by omega)];rfl
  refine aF ?_
  refine aR (aCv 901 61 (aCv 902 62 (aCv 903 63 (fY c hb)))) fun _ _=>?_
  refine aN ?_
  refine aM 64 (fun i=>bS (([]:List Int).getD i 0)) (fun i hi=>absurd hi (Nat.not_lt_zero _)) (mu1:=[]) ?_
  refine aN ?_
  refine aK (ι:=Nat) (fun i=>[(8,vI i),(7, .a (.g 64))]) (fun i=>[(6, .row (fW (lC c l i).1 61 62 63)),(61,bE 1 cE aCi (lC c l i).1.places),(62,bE 4 bJ aCj (lC c l i).1.machines),(63,bE 7 cTx aCk (lC c l i).1.txs),(64,bE 1 bS 0 (lC c l i).2)]) (fun i=>i≤l.length) (fun i=>l.length - i) 0 [6,61,62,63,64] [61,62,63,64] (Nat.zero_le _) ?_
  intro i h1
  have hd:=l8 (G6 hok.1 l i)
  have hn:=MH c l i
  refine aF ?_
  refine aI (fun e=>?_) (fun e=>?_)
  ·have hi:i<l.length:=by omega
   refine aF ?_
   refine a7 (ι:=Unit) (fun _=>[(9, .a (.p 9 0)),(10,vI (opM (lC c l i).1 (l.getD i aCr)).2)]) (fun _=>[(9, .row (fW (opM (lC c l i).1 (l.getD i aCr)).1 71 72 73)),(71,bE 1 cE aCi (opM (lC c l i).1 (l.getD i aCr)).1.places),(72,bE 4 bJ aCj (opM (lC c l i).1 (l.getD i aCr)).1.machines),(73,bE 7 cTx aCk (opM (lC c l i).1 (l.getD i aCr)).1.txs)]) (fun _=>True) [61,62,63] [] ?_ ?_
   ·refine aW [61,62,63] [0,1,2,3,4,5,6,7,8,9,10,11] fun B0 H0=>?_
    refine eU 5 9 rfl rfl (by kernel_rfl) (gG (aCv 911 61 (aCv 912 62 (aCv 913 63 (aCv 901 71 (aCv 902 72 (aCv 903 73 (SK _ hd (l.getD i aCr)))))))) rfl rfl (aCu _) (fun _=>rfl) rfl rfl rfl (fun _ _=>bD ?_)) (aV (bD ?_))
    ·refine aY [6,7,8,9,10,11] ?_
     refine bG 9 rfl (by kernel_rfl) (aV (bD ?_))
     refine bG 10 rfl (by kernel_rfl) (aV (bD ?_))
     refine aY [11] ?_
     refine aP ?_
     exact aL () trivial Nat.zero_lt_one
    ·skip
     refine aX 5 (aCv 911 61 (aCv 912 62 (aCv 913 63 (aCv 901 71 (aCv 902 72 (aCv 903 73 (SK _ hd (l.getD i aCr)))))))) fun _ _=>?_
     refine aY [6,7,8,10,11] ?_
     refine bG 10 rfl (by kernel_rfl) (aV (bD ?_))
     refine aY [11] ?_
     refine aP ?_
     exact aL () trivial Nat.zero_lt_one
   rintro ⟨⟩ _
   refine aZ ?_
   refine cV TT_ok 42 (fun _=>bS (opM (lC c l i).1 (l.getD i aCr)).2) rfl rfl rfl rfl rfl rfl rfl (fun j hj=>by rcases j with _ | j <;>first | rfl | omega) (mu1:=[]) rfl rfl rfl ?_
   refine aN ?_
   refine cU TT_ok 64 42 43 rfl rfl rfl rfl rfl rfl rfl rfl rfl rfl rfl rfl ⟨by show ((lC c l i).2.length+1) * 8≤_;omega,by unfold maxL;omega⟩ ?_
   refine aN ?_
   refine bC (bL 64 43) ?_
   refine bC (bL 61 71) ?_
   refine bC (bL 62 72) ?_
   refine bC (bL 63 73) ?_
   exact bN (i+1) hi (by omega) wF ⟨⟨_,rfl,aCt _⟩,⟨_,rfl,aCt _⟩,⟨_,rfl,aCt _⟩,⟨_,rfl,aCt _⟩,⟨_,rfl,aS rfl⟩,wM⟩
  ·have hi:i=l.length:=by omega
   subst hi
   refine aF ?_
   refine bB (bL 61 901) ?_
   refine bB (bL 62 902) ?_
   refine bB (bL 63 903) ?_
   refine bB (bL 64 904) ?_
   refine aC (()) [(4,some 28),(5,none)] ?_ ?_ ?_
   ·exact aCu _
   ·exact wM
   ·trivial
 ·rw [show vW c l=(aCl,[]) from if_neg hok]
  refine bX (b:=true) ?_ (fun _=>?_) (fun e=>by cases e)
  ·show some (SV.a (.v (.bool (bif !dec (ClusOk c) then true else decide ((l.length:Int) > 300)))))=_
   by_cases h:ClusOk c
   ·rw [cN h,decide_eq_true (by
      have:¬ l.length≤300:=fun h2=>hok ⟨h,h2⟩
      omega)];rfl
   ·rw [b7 h];rfl
  refine aF ?_
  refine aM 904 (fun i=>bS (([]:List Int).getD i 0)) (fun i hi=>absurd hi (Nat.not_lt_zero _)) (mu1:=[]) ?_
  refine aN ?_
  refine bB (a5 4 2 1 (fun i=>cE (([]:List GPlace).getD i aCi))) ?_
  refine bB (a5 4 3 4 (fun i=>bJ (([]:List GMachine).getD i aCj))) ?_
  refine bB (a5 4 4 7 (fun i=>cTx (([]:List GTx).getD i aCk))) ?_
  refine bB (a6 4 2 901) ?_
  refine bB (a6 4 3 902) ?_
  refine bB (a6 4 4 903) ?_
  refine aC (()) [(4,some 28),(5,none)] ?_ ?_ ?_
  ·exact aCu _
  ·exact wM
  ·trivial
end
section
theorem aA3 {a b:Int} (ha:1≤a∧a≤6) (hb:1≤b∧b≤8):ClusOk (eC a b).1:=by
 have e:eC a b=(gQ a.toNat b.toNat,true):=by
  unfold eC
  rw [b6.2 ha,b6.2 hb];rfl
 rw [e]
 exact A8 (by omega) (by omega)
theorem ZY {n:Nat} {β:Nat→Int} (hn:n≤1048576) (hβ:eS β) (i h:Int) (h1:0≤i) (h2:i≤n):Con Tryz.prog 127 [700,701] [.a (.p 700 0)] (xB n β i h) (fun y:GCluster×Int×Int=>ClusOk y.1∧0≤y.2.1∧y.2.1≤n) (fun y=>[iC y.1 901 902 903]) fun y=>[(700,dE y.2.1 y.2.2),(901,bE 1 cE aCi y.1.places),(902,bE 4 bJ aCj y.1.machines),(903,bE 7 cTx aCk y.1.txs)]:=by
 refine aE Tryz.func127 fun B0 r_ D_ w0=>?_
 refine aF ?_
 refine aR (bR hn hβ i h h1 h2 2) fun a ⟨a1,a2,a3⟩=>?_
 refine aN ?_
 refine aR (bR hn hβ a.2.1 a.2.2 a2 a3 3) fun b ⟨b1,b2,b3⟩=>?_
 refine aN ?_
 have hN:=aA3 (a:=1+a.1) (b:=3+b.1) (by omega) (by omega)
 refine aR (aCv 901 61 (aCv 902 62 (aCv 903 63 (xE (1+a.1) (3+b.1))))) fun _ _=>?_
 refine aN ?_
 generalize (eC (1+a.1) (3+b.1)).1=N at hN
 have hb:=l8 hN
 refine aR (nk:=[700,64]) (aCv 900 64 (OY hn hβ b.2.1 b.2.2 b2 b3 N)) fun l ⟨l1,l2,l3⟩=>?_
 refine aN ?_
 have hP:ClusOk (vW N l.1).1:=by
  rw [show vW N l.1=lC N l.1 l.1.length from if_pos ⟨hN,by omega⟩]
  exact G6 hN _ _
 refine cO TT_ok (aCv 901 71 (aCv 902 72 (aCv 903 73 (aCv 904 74 (RY N hb l.1 (by omega)))))) rfl rfl (aCu _) (fun _=>rfl) rfl rfl rfl fun _ _=>?_
 refine aN ?_
 refine bB (bL 71 901) ?_
 refine bB (bL 72 902) ?_
 refine bB (bL 73 903) ?_
 refine aC (((vW N l.1).1,l.2.1,l.2.2)) [(2,some 28)] ?_ ?_ ?_
 ·exact aCu _
 ·exact wM
 ·exact ⟨hP,l2,l3⟩
theorem QE {α:Type} {w:α→Nat} {x:α}:∀ (xs:List α) (i:Nat),gL w (xs.set i x)≤gL w xs+w x
 | [],i=>by simp [gL]
 | y :: r,0=>by simp only [List.set_cons_zero,gL];omega
 | y :: r,i+1=>by
  have:=QE (w:=w) (x:=x) r i
  simp only [List.set_cons_succ,gL];omega
theorem M5 {α:Type} {w:α→Nat}:∀ (xs:List α) (i:Nat),gL w (xs.drop i)≤gL w xs
 | [],i=>by simp [gL]
 | y :: r,0=>Nat.le_refl _
 | y :: r,i+1=>by
  have:=M5 (w:=w) r i
  simp only [List.drop_succ_cons,gL];omega
theorem Y0 {ps:List GPlace} (h1:ps.length≤7) (h2:∀ p ∈ ps,p.machines.length≤4):wL mL ps≤35:=by
 have g1:gL mL ps≤4 * ps.length:=kZ h2
 unfold wL;omega
def YU (ts:List GTx):Prop := ∀ t ∈ ts,0≤t.id∧t.id≤1000001
abbrev jD (c:GCluster):Prop:=iL c≤60000∧YU c.txs
theorem IT {c:GCluster} (h:ClusOk c):YU c.txs:=lT (z:=aCk) fun i hi=>by have:=(h.tx hi).1.1;omega
theorem lH {c:GCluster} (h:ClusOk c):jD c:=⟨by have:=zF h;omega,IT h⟩
abbrev muD (c:GCluster) (k1 k2 k3:Nat):Mu:=[(k1,Z2 c.places),(k2,bE 4 bJ aCj c.machines),(k3,bE 7 cTx aCk c.txs)]
theorem rG {n:Nat} {β:Nat→Int} (hn:n≤1048576) (hβ:eS β) (i h:Int) (h1:0≤i) (h2:i≤n):Con Tryz.prog 63 [700,701] [.a (.p 700 0)] (xB n β i h) (fun y:GCluster×Int×Int=>jD y.1∧0≤y.2.1∧y.2.1≤n) (fun y=>[iC y.1 901 902 903]) fun y=>[(700,dE y.2.1 y.2.2),(901,Z2 y.1.places),(902,bE 4 bJ aCj y.1.machines),(903,bE 7 cTx aCk y.1.txs)]:=by
 refine aE Tryz.func63 fun B0 r_ D_ w0=>?_
 refine aF ?_
 refine aR (nk:=[700,61,62,63]) (aCv 901 61 (aCv 902 62 (aCv 903 63 (ZY hn hβ i h h1 h2)))) fun y ⟨y1,y2,y3⟩=>?_
 obtain ⟨k,i1,i2⟩:=y
 dsimp only at y1 y2 y3 ⊢
 have hw:=zF y1
 have hid:=IT y1
 have hw':wL mL k.places+wL gM k.machines+wL wTx k.txs≤30000:=hw
 have hm:1≤k.machines.length∧k.machines.length≤8:=y1.1.2.2.1
 have ht:k.txs.length≤60:=y1.1.2.2.2
 refine eY (t5 61 rfl lY rfl) ?_
 refine aN ?_
 refine aR (d9 hn hβ i1 i2 y2 y3 12) fun a ⟨a1,a2,a3⟩=>?_
 refine aN ?_
 refine a7 (ι:=GCluster×Int×Int) (fun _=>[]) (fun y=>(3, .row (fW y.1 61 62 63)) :: (700,dE y.2.1 y.2.2) :: muD y.1 61 62 63) (fun y=>jD y.1∧0≤y.2.1∧y.2.1≤n) [3,700,61,62,63] [61,62,63] ?_ ?_
 ·refine aA (fun _=>?_) (fun _=>?_)
  rotate_left
  ·refine aF ?_
   exact aL (k,a.2.1,a.2.2) ⟨⟨by show iL k≤60000;omega,hid⟩,a2,a3⟩ Nat.zero_lt_one
  refine aF ?_
  refine aR (bR hn hβ a.2.1 a.2.2 a2 a3 8) fun g ⟨g1,g2,g3⟩=>?_
  refine aN ?_
  refine aA (fun _=>?_) (fun _=>?_)
  ·refine aF ?_
   refine cV TT_ok 50 (fun i=>bS (([0,1000000,1000001]:List Int).getD i 0)) rfl rfl rfl rfl rfl rfl rfl (fun i hi=>by rcases i with _ | _ | _ | i <;>first | rfl | omega) (mu1:=[]) rfl rfl rfl ?_
   refine aN ?_
   refine aR (bR hn hβ g.2.1 g.2.2 g2 g3 3) fun z ⟨z1,z2,z3⟩=>?_
   refine aN ?_
   exact aL ({ k with config:=([0,1000000,1000001]:List Int).getD z.1.toNat 0 },z.2.1,z.2.2) ⟨⟨by show iL k≤60000;omega,hid⟩,z2,z3⟩ Nat.zero_lt_one
  refine aF ?_
  refine aA (fun _=>?_) (fun _=>?_)
  ·refine aF ?_
   refine aM 50 (fun i=>bS (([-1,0,1000000,1000001]:List Int).getD i 0)) (qW rfl rfl rfl rfl) (mu1:=[]) ?_
   refine aN ?_
   refine aR (bR hn hβ g.2.1 g.2.2 g2 g3 4) fun z ⟨z1,z2,z3⟩=>?_
   refine aN ?_
   exact aL ({ k with clock:=([-1,0,1000000,1000001]:List Int).getD z.1.toNat 0 },z.2.1,z.2.2) ⟨⟨by show iL k≤60000;omega,hid⟩,z2,z3⟩ Nat.zero_lt_one
  refine aF ?_
  refine aA (fun _=>?_) (fun _=>?_)
  ·refine aF ?_
   refine aR (nk:=[700,51]) (aCv 900 51 (aAb hn hβ g.2.1 g.2.2 g2 g3)) fun z ⟨z1,z2,z3⟩=>?_
   have hz:=Y0 z1.1 z1.2
   refine aN ?_
   refine bC (bL 61 51) ?_
   exact aL ({ k with places:=z.1 },z.2.1,z.2.2) ⟨⟨by show wL mL z.1+wL gM k.machines+wL wTx k.txs≤60000;omega,hid⟩,z2,z3⟩ Nat.zero_lt_one
  refine aF ?_
  refine aA (fun _=>?_) (fun _=>?_)
  ·refine aF ?_
   refine bB (d6 62 0 77 rfl rfl rfl rfl rfl rfl ⟨Int.le_refl _,by omega⟩) ?_
   refine aW [700] [0,1,2,3,4,5] fun B0 H0=>?_
   refine aX (nk:=[700,51,52,53]) 3 (aCv 901 51 (aCv 902 52 (aCv 903 53 (ZF hn hβ g.2.1 g.2.2 g2 g3)))) fun z ⟨z1,z2,z3⟩=>?_
   refine aY [4,5] ?_
   refine AB (z8 40 rfl rfl rfl) ?_
   refine dR 5 rfl (by kernel_rfl) (by kernel_rfl) (aV (eJ [] fun B0 H0=>?_))
   refine aP ?_
   have hz:=Z4 z1
   have hs:=QE (w:=gM) (x:=z.1) k.machines 0
   refine bC (a9 77 1 51) ?_
   refine bC (a9 77 2 52) ?_
   refine bC (a9 77 3 53) ?_
   refine bC (a8 62 77) ?_
   exact bN ({ k with machines:=k.machines.set 0 z.1 },z.2.1,z.2.2) ⟨⟨by show wL mL k.places+(((k.machines.set 0 z.1).length)+gL gM (k.machines.set 0 z.1))+wL wTx k.txs≤60000;rw [List.length_set];unfold wL at hw' ⊢;omega,hid⟩,z2,z3⟩ Nat.zero_lt_one wF ⟨⟨_,rfl,aCt _⟩,⟨_,rfl,aCt _⟩,⟨_,rfl,aCt _⟩,⟨_,rfl,cG (y:=z.1) (OwnI.refl _)⟩,wM⟩
  refine aF ?_
  refine aA (fun _=>?_) (fun _=>?_)
  ·refine aF ?_
   refine aW [700,63] [0,1,2,3,4,5,6,7] fun B0 H0=>?_
   refine aX (nk:=[700,51,52]) 3 (aCv 901 51 (aCv 902 52 (OW hn hβ g.2.1 g.2.2 g2 g3))) fun z ⟨z1,z2,z3⟩=>?_
   refine bG 4 rfl (by kernel_rfl) (dV TT_ok 40 (fun _=>cTx z.1) rfl rfl rfl rfl rfl rfl rfl (fun j hj=>by rcases j with _ | j <;>first | rfl | omega) (mu1:=[(51, .arr 0 0 fun _=>[]),(52, .arr 0 0 fun _=>[])]) rfl rfl rfl (bD ?_))
   refine bG 5 rfl (by kernel_rfl) (dM TT_ok 63 40 41 rfl rfl rfl rfl rfl rfl rfl rfl rfl rfl rfl rfl ⟨by show (k.txs.length+1) * 88≤_;omega,by unfold maxL;omega⟩ (bD ?_))
   refine aY [6,7] ?_
   refine dR 7 rfl (by kernel_rfl) (by kernel_rfl) (aV (eJ [] fun B0 H0=>?_))
   refine aP ?_
   have hz:z.1.reads.length≤13∧z.1.sets.length≤13:=z1.1
   refine bC (bL 63 41) ?_
   exact bN ({ k with txs:=k.txs ++ [z.1] },z.2.1,z.2.2) ⟨⟨by show wL mL k.places+wL gM k.machines+((k.txs ++ [z.1]).length+gL wTx (k.txs ++ [z.1]))≤60000;rw [vX,List.length_append];unfold wL at hw' ⊢;simp only [gL,wTx,List.length_singleton];omega,jY hid z1.2⟩,z2,z3⟩ Nat.zero_lt_one wF ⟨⟨_,rfl,aCt _⟩,⟨_,rfl,aCt _⟩,⟨_,rfl,aCt _⟩,⟨_,rfl,aCt _⟩,⟨_,rfl,aS rfl⟩,wM⟩
  refine aF ?_
  refine aA (fun _=>?_) (fun _=>?_)
  ·refine HL ?_
   refine gY (bA (iZ ?_))
   refine gY (bA (iZ ?_))
   refine gY (bA (iZ ?_))
   refine eY (FS 54 62 64 rfl rfl rfl ⟨by decide,by omega,Int.le_refl _⟩ rfl rfl rfl) ?_
   refine aN ?_
   have hs:=M5 (w:=gM) k.machines 1
   refine bC (bL 62 64) ?_
   exact bN ({ k with machines:=k.machines.drop 1 },g.2.1,g.2.2) ⟨⟨by show wL mL k.places+((k.machines.drop 1).length+gL gM (k.machines.drop 1))+wL wTx k.txs≤60000;rw [List.length_drop];unfold wL at hw' ⊢;omega,hid⟩,g2,g3⟩ Nat.zero_lt_one wF ⟨⟨_,rfl,aCt _⟩,⟨_,rfl,aCt _⟩,⟨_,rfl,aCt _⟩,⟨_,rfl,Ch.imp_len (by rw [List.length_drop];omega) fun j hj=>by show bJ (k.machines.getD (1+j) aCj)=_;rw [show (k.machines.drop 1).getD j aCj=k.machines.getD (1+j) aCj from MM k.machines 1 j]⟩,wM⟩
  refine aF ?_
  refine aA (fun _=>?_) (fun _=>?_)
  ·refine aF ?_
   exact aL ({ k with lost := !k.lost },g.2.1,g.2.2) ⟨⟨by show iL k≤60000;omega,hid⟩,g2,g3⟩ Nat.zero_lt_one
  refine aF ?_
  refine aA (fun _=>?_) (fun _=>?_)
  ·refine aF ?_
   refine aM 60 (fun i=>cTx (([]:List GTx).getD i aCk)) (fun i hi=>absurd hi (Nat.not_lt_zero _)) (mu1:=[]) ?_
   refine aN ?_
   refine cY (ι:=List GTx×Nat×Int×Int) (fun y=>[(4,vI y.2.1)]) (fun y=>[(3, .row [.v (.int .i64 k.config), .v (.int .i64 k.clock), .g 61, .g 62, .g 60, .v (.bool k.lost)]),(60,bE 7 cTx aCk y.1),(700,dE y.2.2.1 y.2.2.2)]) (fun y=>(y.1.length+1=y.2.1∧(∀ t ∈ y.1,wTx t≤0)∧YU y.1∧y.2.1≤62)∧0≤y.2.2.1∧y.2.2.1≤n) (fun y=>62 - y.2.1) ([],1,g.2.1,g.2.2) [3,60,700] [60] rfl rfl ⟨⟨rfl,(fun _ h=>by cases h),(fun _ h=>by cases h),by dsimp only;omega⟩,g2,g3⟩ wF wM ?_
   rintro ⟨ts,q,i5,i6⟩ ⟨⟨w1,w5,w6,w2⟩,w3,w4⟩
   dsimp only at w1 w2 w3 w4 w5 w6 ⊢
   refine aF ?_
   refine aR (bR hn hβ i5 i6 w3 w4 2) fun z ⟨z1,z2,z3⟩=>?_
   refine aN ?_
   refine aI (fun e=>?_) (fun e=>?_)
   ·have hk:q<62:=by omega
    refine aF ?_
    refine cO TT_ok (y7 (q:Nat) 0 (b6.2 (by omega)) (b6.2 (by decide))) rfl rfl (aCu _) (fun _=>rfl) rfl rfl rfl fun _ _=>?_
    refine aN ?_
    refine cV TT_ok 81 (fun _=>UN (q:Nat) 0) rfl rfl rfl rfl rfl rfl rfl (fun j hj=>by rcases j with _ | j <;>first | rfl | omega) (mu1:=[]) rfl rfl rfl ?_
    refine aN ?_
    refine cU TT_ok 60 81 82 rfl rfl rfl rfl rfl rfl rfl rfl rfl rfl rfl rfl ⟨by show (ts.length+1) * 88≤_;omega,by unfold maxL;omega⟩ ?_
    refine aN ?_
    refine bC (bL 60 82) ?_
    exact bN (ts ++ [oB (q:Nat) 0],q+1,z.2.1,z.2.2) ⟨⟨by simp;omega,jY w5 (Nat.le_refl _),jY w6 (by show 0≤(q:Int)∧(q:Int)≤1000001;omega),hk⟩,z2,z3⟩ (by dsimp only;omega) wF ⟨⟨_,rfl,aCt _⟩,⟨_,rfl,wS rfl (HH (q:Nat) 0)⟩,wM⟩
   ·have hs:gL wTx ts≤0 * ts.length:=kZ w5
    refine aF ?_
    refine bC (bL 60 63) ?_
    exact aL ({ k with txs:=ts },z.2.1,z.2.2) ⟨⟨by show wL mL k.places+wL gM k.machines+(ts.length+gL wTx ts)≤60000;unfold wL at hw' ⊢;omega,w6⟩,z2,z3⟩ Nat.zero_lt_one
  refine aF ?_
  exact aL (k,g.2.1,g.2.2) ⟨⟨by show iL k≤60000;omega,hid⟩,g2,g3⟩ Nat.zero_lt_one
 rintro ⟨k,i3,i4⟩ ⟨u1,u2,u3⟩
 dsimp only at u2 u3 ⊢
 refine aZ ?_
 refine bB (bL 61 901) ?_
 refine bB (bL 62 902) ?_
 refine bB (bL 63 903) ?_
 refine aC ((k,i3,i4)) [(2,some 28)] ?_ ?_ ?_
 ·exact aCu _
 ·exact wM
 ·exact ⟨u1,u2,u3⟩
end
section
theorem fI {c:GCluster} (h:jD c):D.bds dJ (bO c):=rA c (Nat.le_trans h.1 (by decide))
theorem s9:jD aCl:=⟨by decide,fun _ h=>by cases h⟩
end
section
abbrev rD (n:Nat) (β:Nat→Int):Ch := .ro 1 n fun k=>[.v (.int .u8 (β k))]
theorem CI (n:Nat) (f:Nat→List D):Ans Tryz.prog 10 [] [.a (.s .r 1 n f)] [] (vB (decide ((n:Int) > 4096))):=by
 refine aE Tryz.func10 fun B0 r_ D_ w0=>?_
 refine aF ?_
 exact aG [(2,none)] (rfl)
end
section
abbrev A7 (P:Program) (f:Nat) (n:Nat) (β:Nat→Int):Prop :=
 Con P f [701] [.a (.g 701)] [(701,rD n β)] (fun y:GCluster×Int=>jD y.1) (fun y=>[iC y.1 901 902 903,vI y.2]) fun y=>muD y.1 901 902 903
end
section
theorem JU:dec True=true:=cN trivial
theorem k8 {α:Type} (a:α):dec (a=a)=true:=cN rfl
theorem qH {α:Type} {z:α} {xs ys:List α} (h:xs.length=ys.length) (e:∀ i,i<xs.length→xs.getD i z=ys.getD i z):xs=ys:=by
 refine List.ext_getElem h fun i h1 h2=>?_
 have:=e i h1
 simpa [h1,h2] using this
theorem eqv {p:Prop} {b:Bool} (h:b=true ↔ p):b=dec p:=by rw [Bool.eq_iff_iff,h,c9]
theorem aBB (a b:GCell):(bif a.head == b.head then bif a.value == b.value then true else false else false)=dec (a=b):=eqv (by
 cases a;cases b;simp [Bool.and_eq_true,GCell.mk.injEq])
theorem aBz (a b:GNote):(bif a.region == b.region then bif a.slot == b.slot then bif a.version == b.version then bif a.value == b.value then bif a.used == b.used then true else false else false else false else false else false)=dec (a=b):=eqv (by
 cases a;cases b;simp [GNote.mk.injEq])
theorem set_eq (a b:GSet):(bif a.region == b.region then bif a.slot == b.slot then bif a.value == b.value then bif a.used == b.used then bif a.version == b.version then true else false else false else false else false else false)=dec (a=b):=eqv (by
 cases a;cases b;simp [GSet.mk.injEq])
theorem BN (xs ys:List Int) (hl:xs.length≤1048576):Ans Tryz.prog 36 [] [vL 1 bS 0 xs,vL 1 bS 0 ys] [] (vB (dec (xs=ys))):=by
 refine aE Tryz.func36 fun B0 r_ D_ w0=>?_
 refine aF ?_
 refine fO rfl (fun e=>?_) (fun e=>?_)
 ·refine aF ?_
  exact b9 TT_ok [(4,none)] rfl rfl ((b7 fun h=>e (by rw [h])).symm)
 have hlen:xs.length=ys.length:=by omega
 refine aF ?_
 refine aK (ι:=Nat) (fun i=>[(5,vI i)]) (fun _=>[]) (fun i=>i≤xs.length∧∀ j,j<i→xs.getD j 0=ys.getD j 0) (fun i=>xs.length - i) 0 [] [] ⟨Nat.zero_le _,fun j hj=>absurd hj (Nat.not_lt_zero _)⟩ ?_
 intro i ⟨h1,h2⟩
 refine aF ?_
 refine aI (fun e2=>?_) (fun e2=>?_)
 ·have hi:i<xs.length:=by omega
  have hi2:i<ys.length:=by omega
  refine aF ?_
  refine aO [] fun B0 H0=>?_
  refine aP ?_
  refine fO rfl (fun e3=>?_) (fun e3=>?_)
  ·refine aF ?_
   exact b9 TT_ok [(4,none)] rfl rfl ((b7 fun h=>e3 (by rw [h])).symm)
  ·have EQ:xs.getD i 0=ys.getD i 0:=e3
   refine aF ?_
   refine aL (i+1) ⟨hi,fun j hj=>?_⟩ (by omega)
   rcases Nat.lt_or_eq_of_le (Nat.lt_succ_iff.1 hj) with h | h
   ·exact h2 j h
   ·subst h;exact EQ
 ·have hi:i=xs.length:=by omega
  subst hi
  refine aF ?_
  exact aG [(4,none)] ((cN (qH hlen h2)).symm)
theorem GD (xs ys:List GCell) (hl:xs.length≤1048576):Ans Tryz.prog 42 [] [vL 2 cX aCo xs,vL 2 cX aCo ys] [] (vB (dec (xs=ys))):=by
 refine aE Tryz.func42 fun B0 r_ D_ w0=>?_
 refine aF ?_
 refine fO rfl (fun e=>?_) (fun e=>?_)
 ·refine aF ?_
  exact b9 TT_ok [(4,none)] rfl rfl ((b7 fun h=>e (by rw [h])).symm)
 have hlen:xs.length=ys.length:=by omega
 refine aF ?_
 refine aK (ι:=Nat) (fun i=>[(5,vI i)]) (fun _=>[]) (fun i=>i≤xs.length∧∀ j,j<i→xs.getD j aCo=ys.getD j aCo) (fun i=>xs.length - i) 0 [] [] ⟨Nat.zero_le _,fun j hj=>absurd hj (Nat.not_lt_zero _)⟩ ?_
 intro i ⟨h1,h2⟩
 refine aF ?_
 refine aI (fun e2=>?_) (fun e2=>?_)
 ·have hi:i<xs.length:=by omega
  have hi2:i<ys.length:=by omega
  refine aF ?_
  refine aO [] fun B0 H0=>?_
  refine aP ?_
  refine bX (b := !dec (xs.getD i aCo=ys.getD i aCo)) (by rw [← aBB];rfl) (fun e3=>?_) (fun e3=>?_)
  ·have e4:¬ xs.getD i aCo=ys.getD i aCo:=fun h=>by rw [h,k8] at e3;cases e3
   refine aF ?_
   exact b9 TT_ok [(4,none)] rfl rfl ((b7 fun h=>e4 (by rw [h])).symm)
  ·have EQ:xs.getD i aCo=ys.getD i aCo:=c9.1 (by simpa using e3)
   refine aF ?_
   refine aL (i+1) ⟨hi,fun j hj=>?_⟩ (by omega)
   rcases Nat.lt_or_eq_of_le (Nat.lt_succ_iff.1 hj) with h | h
   ·exact h2 j h
   ·subst h;exact EQ
 ·have hi:i=xs.length:=by omega
  subst hi
  refine aF ?_
  exact aG [(4,none)] ((cN (qH hlen h2)).symm)
theorem RI (xs ys:List GNote) (hl:xs.length≤1048576):Ans Tryz.prog 102 [] [vL 5 cT aCn xs,vL 5 cT aCn ys] [] (vB (dec (xs=ys))):=by
 refine aE Tryz.func102 fun B0 r_ D_ w0=>?_
 refine aF ?_
 refine fO rfl (fun e=>?_) (fun e=>?_)
 ·refine aF ?_
  exact b9 TT_ok [(4,none)] rfl rfl ((b7 fun h=>e (by rw [h])).symm)
 have hlen:xs.length=ys.length:=by omega
 refine aF ?_
 refine aK (ι:=Nat) (fun i=>[(5,vI i)]) (fun _=>[]) (fun i=>i≤xs.length∧∀ j,j<i→xs.getD j aCn=ys.getD j aCn) (fun i=>xs.length - i) 0 [] [] ⟨Nat.zero_le _,fun j hj=>absurd hj (Nat.not_lt_zero _)⟩ ?_
 intro i ⟨h1,h2⟩
 refine aF ?_
 refine aI (fun e2=>?_) (fun e2=>?_)
 ·have hi:i<xs.length:=by omega
  have hi2:i<ys.length:=by omega
  refine aF ?_
  refine aO [] fun B0 H0=>?_
  refine aP ?_
  refine bX (b := !dec (xs.getD i aCn=ys.getD i aCn)) (by rw [← aBz];rfl) (fun e3=>?_) (fun e3=>?_)
  ·have e4:¬ xs.getD i aCn=ys.getD i aCn:=fun h=>by rw [h,k8] at e3;cases e3
   refine aF ?_
   exact b9 TT_ok [(4,none)] rfl rfl ((b7 fun h=>e4 (by rw [h])).symm)
  ·have EQ:xs.getD i aCn=ys.getD i aCn:=c9.1 (by simpa using e3)
   refine aF ?_
   refine aL (i+1) ⟨hi,fun j hj=>?_⟩ (by omega)
   rcases Nat.lt_or_eq_of_le (Nat.lt_succ_iff.1 hj) with h | h
   ·exact h2 j h
   ·subst h;exact EQ
 ·have hi:i=xs.length:=by omega
  subst hi
  refine aF ?_
  exact aG [(4,none)] ((cN (qH hlen h2)).symm)
theorem JD (xs ys:List GSet) (hl:xs.length≤1048576):Ans Tryz.prog 103 [] [vL 5 cP aCm xs,vL 5 cP aCm ys] [] (vB (dec (xs=ys))):=by
 refine aE Tryz.func103 fun B0 r_ D_ w0=>?_
 refine aF ?_
 refine fO rfl (fun e=>?_) (fun e=>?_)
 ·refine aF ?_
  exact b9 TT_ok [(4,none)] rfl rfl ((b7 fun h=>e (by rw [h])).symm)
 have hlen:xs.length=ys.length:=by omega
 refine aF ?_
 refine aK (ι:=Nat) (fun i=>[(5,vI i)]) (fun _=>[]) (fun i=>i≤xs.length∧∀ j,j<i→xs.getD j aCm=ys.getD j aCm) (fun i=>xs.length - i) 0 [] [] ⟨Nat.zero_le _,fun j hj=>absurd hj (Nat.not_lt_zero _)⟩ ?_
 intro i ⟨h1,h2⟩
 refine aF ?_
 refine aI (fun e2=>?_) (fun e2=>?_)
 ·have hi:i<xs.length:=by omega
  have hi2:i<ys.length:=by omega
  refine aF ?_
  refine aO [] fun B0 H0=>?_
  refine aP ?_
  refine bX (b := !dec (xs.getD i aCm=ys.getD i aCm)) (by rw [← set_eq];rfl) (fun e3=>?_) (fun e3=>?_)
  ·have e4:¬ xs.getD i aCm=ys.getD i aCm:=fun h=>by rw [h,k8] at e3;cases e3
   refine aF ?_
   exact b9 TT_ok [(4,none)] rfl rfl ((b7 fun h=>e4 (by rw [h])).symm)
  ·have EQ:xs.getD i aCm=ys.getD i aCm:=c9.1 (by simpa using e3)
   refine aF ?_
   refine aL (i+1) ⟨hi,fun j hj=>?_⟩ (by omega)
   rcases Nat.lt_or_eq_of_le (Nat.lt_succ_iff.1 hj) with h | h
   ·exact h2 j h
   ·subst h;exact EQ
 ·have hi:i=xs.length:=by omega
  subst hi
  refine aF ?_
  exact aG [(4,none)] ((cN (qH hlen h2)).symm)
theorem ZU (a b:GPlace):dec (a.machines=b.machines)=dec (a=b):=eqv (by rw [c9];cases a;cases b;simp)
theorem UM (a b:GPlace) (hl:a.machines.length≤1048576):Ans Tryz.prog 36 [] [vL 1 bS 0 a.machines,vL 1 bS 0 b.machines] [] (vB (dec (a=b))):=by
 rw [← ZU];exact BN _ _ hl
theorem QN (xs ys:List GPlace) (hl:xs.length≤1048576) (hb:∀ i,i<xs.length→(xs.getD i aCi).machines.length≤1048576):Ans Tryz.prog 70 [] [vL 1 cE aCi xs,vL 1 cE aCi ys] [] (vB (dec (xs=ys))):=by
 refine aE Tryz.func70 fun B0 r_ D_ w0=>?_
 refine aF ?_
 refine fO rfl (fun e=>?_) (fun e=>?_)
 ·refine aF ?_
  exact b9 TT_ok [(4,none)] rfl rfl ((b7 fun h=>e (by rw [h])).symm)
 have hlen:xs.length=ys.length:=by omega
 refine aF ?_
 refine aK (ι:=Nat) (fun i=>[(5,vI i)]) (fun _=>[]) (fun i=>i≤xs.length∧∀ j,j<i→xs.getD j aCi=ys.getD j aCi) (fun i=>xs.length - i) 0 [] [] ⟨Nat.zero_le _,fun j hj=>absurd hj (Nat.not_lt_zero _)⟩ ?_
 intro i ⟨h1,h2⟩
 refine aF ?_
 refine aI (fun e2=>?_) (fun e2=>?_)
 ·have hi:i<xs.length:=by omega
  have hi2:i<ys.length:=by omega
  refine aF ?_
  refine aO [] fun B0 H0=>?_
  refine z5 10 (UM (xs.getD i aCi) (ys.getD i aCi) (hb i hi)) rfl rfl rfl rfl rfl ?_
  refine tZ TT_ok rfl ?_
  refine aP ?_
  refine aA (b := !dec (xs.getD i aCi=ys.getD i aCi)) (fun e3=>?_) (fun e3=>?_)
  ·have e4:¬ xs.getD i aCi=ys.getD i aCi:=fun h=>by rw [h,k8] at e3;cases e3
   refine aF ?_
   exact b9 TT_ok [(4,none)] rfl rfl ((b7 fun h=>e4 (by rw [h])).symm)
  ·have EQ:xs.getD i aCi=ys.getD i aCi:=c9.1 (by simpa using e3)
   refine aF ?_
   refine aL (i+1) ⟨hi,fun j hj=>?_⟩ (by omega)
   rcases Nat.lt_or_eq_of_le (Nat.lt_succ_iff.1 hj) with h | h
   ·exact h2 j h
   ·subst h;exact EQ
 ·have hi:i=xs.length:=by omega
  subst hi
  refine aF ?_
  exact aG [(4,none)] ((cN (qH hlen h2)).symm)
theorem PU (a b:GRecord) (hl:a.sets.length≤1048576):Ans Tryz.prog 71 [] [vR (cK a),vR (cK b)] [] (vB (dec (a=b))):=by
 refine aE Tryz.func71 fun B0 r_ D_ w0=>?_
 refine aF ?_
 refine aH (JD a.sets b.sets hl) ?_
 exact b9 TT_ok [(4,none)] rfl rfl ((eqv (by cases a;cases b;simp [c9,and_assoc,GRecord.mk.injEq])))
theorem HE (a b:GTx) (h1:a.reads.length≤1048576) (h2:a.sets.length≤1048576):Ans Tryz.prog 40 [] [vR (cTx a),vR (cTx b)] [] (vB (dec (a=b))):=by
 refine aE Tryz.func40 fun B0 r_ D_ w0=>?_
 refine aF ?_
 refine aH (RI a.reads b.reads h1) ?_
 refine aH (JD a.sets b.sets h2) ?_
 exact b9 TT_ok [(4,none)] rfl rfl ((eqv (by cases a;cases b;simp [c9,and_assoc,GTx.mk.injEq])))
theorem r8 (a b:GMachine) (hb:D.bds dJ (bJ a)):Ans Tryz.prog 15 [] [vR (bJ a),vR (bJ b)] [] (vB (dec (a=b))):=by
 have b1:a.copies.length≤1048576:=hb.2.1.1
 have b2:a.log.length≤1048576:=hb.2.2.1.1
 have b3:a.cleared.length≤1048576:=hb.2.2.2.1.1
 have c1:∀ i,i<a.copies.length→(a.copies.getD i aCp).cells.length≤1048576:=fun i hi=>(hb.2.1.2 i hi).2.1.1
 have c2:∀ i,i<a.log.length→(a.log.getD i aCq).sets.length≤1048576:=fun i hi=>(hb.2.2.1.2 i hi).2.2.2.1.1
 refine aE Tryz.func15 fun B0 r_ D_ w0=>?_
 refine aF ?_
 refine aH (BN a.cleared b.cleared b3) ?_
 refine aA (fun e=>?_) (fun e=>?_)
 ·refine aF ?_
  exact b9 TT_ok [(4,none)] rfl rfl (((b7 fun h=>by subst h;simp [JU] at e).symm))
 have e0:a.alive=b.alive∧a.copies.length=b.copies.length∧a.log.length=b.log.length∧a.cleared=b.cleared:=by
  simp [and_assoc] at e
  refine ⟨e.1,by omega,by omega,c9.1 e.2.2.2⟩
 obtain ⟨q1,q2,q3,q4⟩:=e0
 refine aF ?_
 refine aK (ι:=Nat) (fun i=>[(5,vI i)]) (fun _=>[]) (fun i=>i≤a.copies.length∧∀ j,j<i→a.copies.getD j aCp=b.copies.getD j aCp) (fun i=>a.copies.length - i) 0 [] [] ⟨Nat.zero_le _,fun j hj=>absurd hj (Nat.not_lt_zero _)⟩ ?_
 intro i ⟨h1,h2⟩
 refine aF ?_
 refine aI (fun e2=>?_) (fun e2=>?_)
 ·have hi:i<a.copies.length:=by omega
  have hi2:i<b.copies.length:=by omega
  refine aF ?_
  refine aO [] fun B0 H0=>?_
  refine z5 26 (GD (a.copies.getD i aCp).cells (b.copies.getD i aCp).cells (c1 i hi)) rfl rfl rfl rfl rfl ?_
  refine tZ TT_ok rfl ?_
  refine aP ?_
  refine aA (fun e3=>?_) (fun e3=>?_)
  ·refine aF ?_
   exact b9 TT_ok [(4,none)] rfl rfl ((b7 fun h=>by subst h;simp [JU] at e3).symm)
  ·have EQ:a.copies.getD i aCp=b.copies.getD i aCp:=by
    have e3:(bif ((a.copies.getD i aCp).region != (b.copies.getD i aCp).region) then true else !dec ((a.copies.getD i aCp).cells=(b.copies.getD i aCp).cells))=false:=e3
    generalize a.copies.getD i aCp=u at e3
    generalize b.copies.getD i aCp=v at e3
    cases u;cases v
    simp [c9] at e3
    simp [e3]
   refine aF ?_
   refine aL (i+1) ⟨hi,fun j hj=>?_⟩ (by omega)
   rcases Nat.lt_or_eq_of_le (Nat.lt_succ_iff.1 hj) with h | h
   ·exact h2 j h
   ·subst h;exact EQ
 have q5:a.copies=b.copies:=qH q2 fun j hj=>h2 j (by omega)
 clear h1 h2 e2
 refine aF ?_
 refine aK (ι:=Nat) (fun i=>[(6,vI i)]) (fun _=>[]) (fun i=>i≤a.log.length∧∀ j,j<i→a.log.getD j aCq=b.log.getD j aCq) (fun i=>a.log.length - i) 0 [] [] ⟨Nat.zero_le _,fun j hj=>absurd hj (Nat.not_lt_zero _)⟩ ?_
 intro i ⟨h1,h2⟩
 refine aF ?_
 refine aI (fun e2=>?_) (fun e2=>?_)
 ·have hi:i<a.log.length:=by omega
  have hi2:i<b.log.length:=by omega
  refine aF ?_
  refine aO [] fun B0 H0=>?_
  refine z5 10 (PU (a.log.getD i aCq) (b.log.getD i aCq) (c2 i hi)) rfl rfl rfl rfl rfl ?_
  refine tZ TT_ok rfl ?_
  refine aP ?_
  refine aA (b := !dec (a.log.getD i aCq=b.log.getD i aCq)) (fun e3=>?_) (fun e3=>?_)
  ·have e4:¬ a.log.getD i aCq=b.log.getD i aCq:=fun h=>by rw [h,k8] at e3;cases e3
   refine aF ?_
   exact b9 TT_ok [(4,none)] rfl rfl ((b7 fun h=>e4 (by rw [h])).symm)
  ·have EQ:a.log.getD i aCq=b.log.getD i aCq:=c9.1 (by simpa using e3)
   refine aF ?_
   refine aL (i+1) ⟨hi,fun j hj=>?_⟩ (by omega)
   rcases Nat.lt_or_eq_of_le (Nat.lt_succ_iff.1 hj) with h | h
   ·exact h2 j h
   ·subst h;exact EQ
 have q6:a.log=b.log:=qH q3 fun j hj=>h2 j (by omega)
 refine aF ?_
 exact b9 TT_ok [(4,none)] rfl rfl ((cN (by cases a;cases b;simp_all)).symm)
theorem r9 (a b:GCluster) (hb:D.bds dJ (bO a)):Ans Tryz.prog 14 [] [vR (bO a),vR (bO b)] [] (vB (dec (a=b))):=by
 have b1:a.places.length≤1048576:=hb.2.2.1.1
 have b2:a.machines.length≤1048576:=hb.2.2.2.1.1
 have b3:a.txs.length≤1048576:=hb.2.2.2.2.1.1
 have c1:∀ i,i<a.places.length→(a.places.getD i aCi).machines.length≤1048576:=fun i hi=>(hb.2.2.1.2 i hi).1.1
 have c2:∀ i,i<a.machines.length→D.bds dJ (bJ (a.machines.getD i aCj)):=fun i hi=>hb.2.2.2.1.2 i hi
 have c3:∀ i,i<a.txs.length→(a.txs.getD i aCk).reads.length≤1048576∧(a.txs.getD i aCk).sets.length≤1048576:=fun i hi=>⟨(hb.2.2.2.2.1.2 i hi).2.2.2.2.1.1,(hb.2.2.2.2.1.2 i hi).2.2.2.2.2.1.1⟩
 refine aE Tryz.func14 fun B0 r_ D_ w0=>?_
 refine aF ?_
 refine aH (QN a.places b.places b1 c1) ?_
 refine aA (fun e=>?_) (fun e=>?_)
 ·refine aF ?_
  exact b9 TT_ok [(4,none)] rfl rfl (((b7 fun h=>by subst h;simp [JU] at e).symm))
 have e0:a.config=b.config∧a.clock=b.clock∧a.places=b.places∧a.machines.length=b.machines.length∧a.txs.length=b.txs.length∧a.lost=b.lost:=by
  simp [and_assoc] at e
  refine ⟨e.1,e.2.1,c9.1 e.2.2.1,by omega,by omega,e.2.2.2.2.2⟩
 obtain ⟨q1,q2,q3,q4,q5,q6⟩:=e0
 refine aF ?_
 refine aK (ι:=Nat) (fun i=>[(5,vI i)]) (fun _=>[]) (fun i=>i≤a.machines.length∧∀ j,j<i→a.machines.getD j aCj=b.machines.getD j aCj) (fun i=>a.machines.length - i) 0 [] [] ⟨Nat.zero_le _,fun j hj=>absurd hj (Nat.not_lt_zero _)⟩ ?_
 intro i ⟨h1,h2⟩
 refine aF ?_
 refine aI (fun e2=>?_) (fun e2=>?_)
 ·have hi:i<a.machines.length:=by omega
  have hi2:i<b.machines.length:=by omega
  refine aF ?_
  refine aO [] fun B0 H0=>?_
  refine z5 10 (r8 (a.machines.getD i aCj) (b.machines.getD i aCj) (c2 i hi)) rfl rfl rfl rfl rfl ?_
  refine tZ TT_ok rfl ?_
  refine aP ?_
  refine aA (b := !dec (a.machines.getD i aCj=b.machines.getD i aCj)) (fun e3=>?_) (fun e3=>?_)
  ·have e4:¬ a.machines.getD i aCj=b.machines.getD i aCj:=fun h=>by rw [h,k8] at e3;cases e3
   refine aF ?_
   exact b9 TT_ok [(4,none)] rfl rfl ((b7 fun h=>e4 (by rw [h])).symm)
  ·have EQ:a.machines.getD i aCj=b.machines.getD i aCj:=c9.1 (by simpa using e3)
   refine aF ?_
   refine aL (i+1) ⟨hi,fun j hj=>?_⟩ (by omega)
   rcases Nat.lt_or_eq_of_le (Nat.lt_succ_iff.1 hj) with h | h
   ·exact h2 j h
   ·subst h;exact EQ
 have q7:a.machines=b.machines:=qH q4 fun j hj=>h2 j (by omega)
 clear h1 h2 e2
 refine aF ?_
 refine aK (ι:=Nat) (fun i=>[(6,vI i)]) (fun _=>[]) (fun i=>i≤a.txs.length∧∀ j,j<i→a.txs.getD j aCk=b.txs.getD j aCk) (fun i=>a.txs.length - i) 0 [] [] ⟨Nat.zero_le _,fun j hj=>absurd hj (Nat.not_lt_zero _)⟩ ?_
 intro i ⟨h1,h2⟩
 refine aF ?_
 refine aI (fun e2=>?_) (fun e2=>?_)
 ·have hi:i<a.txs.length:=by omega
  have hi2:i<b.txs.length:=by omega
  refine aF ?_
  refine aO [] fun B0 H0=>?_
  refine z5 10 (HE (a.txs.getD i aCk) (b.txs.getD i aCk) (c3 i hi).1 (c3 i hi).2) rfl rfl rfl rfl rfl ?_
  refine tZ TT_ok rfl ?_
  refine aP ?_
  refine aA (b := !dec (a.txs.getD i aCk=b.txs.getD i aCk)) (fun e3=>?_) (fun e3=>?_)
  ·have e4:¬ a.txs.getD i aCk=b.txs.getD i aCk:=fun h=>by rw [h,k8] at e3;cases e3
   refine aF ?_
   exact b9 TT_ok [(4,none)] rfl rfl ((b7 fun h=>e4 (by rw [h])).symm)
  ·have EQ:a.txs.getD i aCk=b.txs.getD i aCk:=c9.1 (by simpa using e3)
   refine aF ?_
   refine aL (i+1) ⟨hi,fun j hj=>?_⟩ (by omega)
   rcases Nat.lt_or_eq_of_le (Nat.lt_succ_iff.1 hj) with h | h
   ·exact h2 j h
   ·subst h;exact EQ
 have q8:a.txs=b.txs:=qH q5 fun j hj=>h2 j (by omega)
 refine aF ?_
 exact b9 TT_ok [(4,none)] rfl rfl ((cN (by cases a;cases b;simp_all)).symm)
theorem fZ (a:GCluster) (hb:D.bds dJ (bO a)):Ans Tryz.prog 14 [] [vR (bO a),vR (bO a)] [] (vB true):=by
 have:=r9 a a hb
 rwa [k8] at this
end
section
theorem sX (c:GCluster) (hb:D.bds dJ (bO c)) (h:ClusOk c):Ans Tryz.prog 16 [] [vR (bO c)] [] (vB true):=by
 have:=mM c hb
 rwa [cN h] at this
end
section
def oL (W:World):PH:=fun b o=>match W.cell? ⟨b,o,none⟩ with
 | some v=>bif W.frozen? ⟨b,o,none⟩ then none else some v
 | none=>none
theorem sK (W:World):Fit (oL W) W:=fun b o v e=>by
 unfold oL at e
 cases h:W.cell? ⟨b,o,none⟩ with
 | none=>rw [h] at e;cases e
 | some u =>
  rw [h] at e
  simp only at e
  cases hf:W.frozen? ⟨b,o,none⟩ with
  | true=>rw [hf] at e;cases e
  | false=>rw [hf] at e;exact ⟨e,rfl⟩
theorem aAL {W:World} {b o:Nat} {v:Value} (h:W.cell? ⟨b,o,none⟩=some v) (hf:W.frozen? ⟨b,o,none⟩=false):oL W b o=some v:=by
 unfold oL;rw [h];simp only;rw [hf];rfl
def HS (P:Program) (t:TypeId) {α:Type} (k:α→List D):Prop :=
 ∀ {H:Type} (enc:TypeId×Value→H) (W:World) (fuel:Nat) (cs:List Value) (x:DataW H×List MemPlace),
  DataW.trod enc P W 0 (fun _=>true) true fuel t cs=some x→W.noneFrozen x.2→∃ y,D.rds (oL W) (k y) cs
section
variable {P:Program} {TT:List TI}
theorem j6 {W:World} {ps qs:List MemPlace} (h:W.noneFrozen ps) (hs:∀ x ∈ qs,x ∈ ps):W.noneFrozen qs:=fun b o hm=>h b o (hs _ hm)
theorem VW {W:World} {a:Addr} {v:Value} (h:W.cell? a=some v):a=⟨a.block,a.off,none⟩:=by
 obtain ⟨b,o,s⟩:=a
 cases s with
 | none=>rfl
 | some s =>
  simp only [World.cell?] at h
  split at h <;>simp at h
theorem P0 (b o i j:Nat):((⟨b,o,none⟩:Addr).add i).add j=⟨b,o+i+j,none⟩:=by
 unfold Addr.add
 by_cases hi:i=0 <;>by_cases hj:j=0 <;>simp [hi,hj]
theorem RQ {t e:TypeId} {α:Type} {k:α→List D} (sz:Nat) (z:α) (ht:P.underlying t=some (.slice e)) (hk:HS P e k) (hc:P.cellsOf e=sz) (hpos:0<sz):HS P t fun xs:List α=>[dL sz k z xs]:=fun enc W fuel cs x hx hf=>by
 rcases DataW.trod_slice ht hx with ⟨rfl,rfl⟩ | ⟨a,len,cap,elems,rest,n,_,rfl,rfl,hb,hl,hm,hlen,hel,_,_⟩
 ·exact ⟨[],_,_,rfl,⟨none,0,rfl,Nat.le_refl _,Nat.zero_le _, .inl rfl⟩,rfl⟩
 ·rw [hc] at hel
  have each:∀ i,i<len→∃ y row,D.rds (oL W) (k y) row∧row.length=sz∧∀ j,j<sz→W.cell? ((a.add (i * sz)).add j)=row[j]? := by
   intro i hi
   have h1:=hel i hi
   cases hcs:W.cells? 0 (a.add (i * sz)) sz with
   | none=>rw [hcs] at h1;simp at h1;omega
   | some cs =>
    rw [hcs] at h1
    simp only [Option.bind_some] at h1
    obtain ⟨g1,g2,g3⟩:=World.cells?_some hcs
    have hlt:i<elems.length:=by omega
    rw [List.getElem?_eq_getElem hlt] at h1
    obtain ⟨y,hy⟩:=hk enc W n cs _ h1 (j6 hf fun x hx=>List.mem_append_right _ (List.mem_flatMap.2 ⟨_,List.mem_append_left _ (List.getElem_mem hlt),hx⟩))
    exact ⟨y,cs,hy,g2,g3⟩
  have hml:len≤maxL:=Nat.le_trans (Nat.le_trans hl hm) (Nat.le_of_ble_eq_true rfl)
  by_cases h0:len=0
  ·subst h0
   exact ⟨[],_,_,rfl,⟨some a,cap,rfl,by simp,Nat.zero_le _, .inl rfl⟩,rfl⟩
  ·obtain ⟨y0,row0,_,r2,r3⟩:=each 0 (by omega)
   have ha:a=⟨a.block,a.off,none⟩:=by
    have h:=r3 0 hpos
    rw [List.getElem?_eq_getElem (by omega)] at h
    have:(a.add (0 * sz)).add 0=a:=by rw [Nat.zero_mul];rfl
    rw [this] at h
    exact VW h
   have hadd:∀ i j,(a.add i).add j=⟨a.block,a.off+i+j,none⟩:=fun i j=>by
    conv=>lhs;rw [ha]
    exact P0 _ _ i j
   have hcell:∀ i j,i<len→j<sz→MemPlace.cell a.block (a.off+i * sz+j) ∈ MemPlace.row a ((elems.length+rest.length) * P.cellsOf e):=fun i j hi hj=>by
    refine MemPlace.mem_row.2 ⟨i * sz+j,?_,by rw [Nat.add_assoc]⟩
    rw [hc]
    have h1:(i+1) * sz≤(elems.length+rest.length) * sz:=Nat.mul_le_mul_right _ (by omega)
    rw [Nat.add_mul,Nat.one_mul] at h1
    omega
   let f:Nat→α:=fun i=>if h:i<len then (each i h).choose else y0
   have hf':∀ i (h:i<len),f i=(each i h).choose:=fun i h=>by simp only [f,dif_pos h]
   have hlen':((List.range len).map f).length=len:=by simp
   refine ⟨(List.range len).map f,_,_,rfl,⟨some a,cap,by rw [hlen'],by rw [hlen'];simpa using hl,by rw [hlen'];exact hml, .inr ⟨a.block,a.off,by rw [← ha],fun i hi=>?_⟩⟩,rfl⟩
   rw [hlen'] at hi
   obtain ⟨row,q1,q2,q3⟩:=(each i hi).choose_spec
   have hg:((List.range len).map f).getD i z=(each i hi).choose:=by simp [hi,hf' i hi]
   refine ⟨row,by show D.rds _ (k (((List.range len).map f).getD i z)) row;rw [hg];exact q1,q2,fun j hj=>?_⟩
   have h:=q3 j hj
   rw [hadd] at h
   rw [List.getElem?_eq_getElem (by omega)] at h ⊢
   exact aAL h (hf _ _ (List.mem_append_left _ (hcell i j hi hj)))
end
theorem uN {h:PH} {d:D} {a:Value} (e:D.rds h [d] [a]):D.rd h d a:=by
 obtain ⟨y,t,e1,e2,_⟩:=e
 injection e1 with e1
 rw [e1];exact e2
end
section
abbrev U8:={x:Int // 0≤x∧x≤255}
def U8z:U8:=⟨0,by decide⟩
def cU8 (x:U8):List D:=[.v (.int .u8 x.1)]
theorem ZD {P:Program} {t:TypeId} (h:P.underlying t=some (.int .u8)):HS P t cU8:=fun enc W fuel cs x hx _=>by
 have:∃ y:Int,cs=[.int .u8 y] ∧ 0≤y∧y≤255:=by
  cases fuel with
  | zero=>simp [DataW.trod] at hx
  | succ n =>
   unfold DataW.trod at hx
   rw [h] at hx
   split at hx
   ·simp_all
   ·rename_i k k' m he
    injection he with he
    injection he with he
    subst he
    split at hx
    ·rename_i hc
     obtain ⟨rfl,hw⟩:=hc
     simp only [Lit.wf,Bool.and_eq_true,decide_eq_true_eq] at hw
     exact ⟨m,rfl,hw.1,hw.2⟩
    ·cases hx
   all_goals simp_all
 obtain ⟨y,rfl,h1,h2⟩:=this
 exact ⟨⟨y,h1,h2⟩,_,_,rfl,rfl,rfl⟩
theorem aAd:HS Tryz.prog 5 cU8:=ZD Tryz.underlying5
theorem qE:HS Tryz.prog 22 (fun xs:List U8=>[dL 1 cU8 U8z xs]):=RQ 1 U8z Tryz.underlying22 aAd (by kernel_rfl) (Nat.lt_of_sub_eq_succ rfl)
end
end Go.Proofs.YtnffflcjaipdkaaGreat
