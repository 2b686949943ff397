/-
  What the claim leans on, made short by program.
-/
import Derived.Test.YthpjoddhlkcciaaGreatQE
import Derived.ChangeArms
import Derived.MapPlaces
namespace Go.Proofs.YthpjoddhlkcciaaGreat
open Go Go.RowKit
set_option linter.unusedVariables false
set_option linter.unusedSimpArgs false
set_option maxRecDepth 4000
section
set_option maxHeartbeats 4000000 in
theorem G5 (c:GCluster) (hb:D.bds eA (bK c)):KM Tryz.prog 218 [vR (bK c)] (f9 c):=by
 refine aD Tryz.func218 fun B0 r_ D_ w0=>?_
 refine d5 TT_ok rfl ?_
 refine aS 1 fun r_=>?_
 refine aE ?_
 refine aG (eK c hb) ?_
 refine aA (b:=bif !dec (ClusOk c) then true else c.config == 1000000) (fun e=>?_) (fun e=>?_)
 ·rw [OL (c:=c) (fun h=>by rw [dG h.1] at e;simp [h.2] at e)]
  refine aE ?_
  refine a9 (aU 2 2 1 (fun i=>cN (([]:List GPlace).getD i Y3))) ?_
  refine a9 (aU 2 3 4 (fun i=>bQ (([]:List GMachine).getD i Y4))) ?_
  refine a9 (aU 2 4 7 (fun i=>cTx (([]:List GTx).getD i Y5))) ?_
  refine a9 (aV 2 2 901) ?_
  refine a9 (aV 2 3 902) ?_
  refine a9 (aV 2 4 903) ?_
  refine aC (()) [(2,some 33)] ?_ ?_ ?_
  ·exact ZF _
  ·exact wM
  ·trivial
 have hok:ClusOk c:=by
  cases h:dec (ClusOk c) with
  | true=>exact fP.1 h
  | false=>rw [h] at e;cases e
 have hcf:c.config≠1000000:=fun h=>by rw [dG hok,h] at e;cases e
 clear e
 have hml:=hok.1.2.2.1
 have htl:=hok.1.2.2.2
 have hcg:=hok.1.1
 have hal:=zA c
 have hp6:=hok.2.1.1
 have hql:(bN c).length=c.places.length:=List.length_map _
 refine aE ?_
 refine aP (gR c hb) fun _ _=>?_
 refine aM ?_
 refine aL 40 (fun i=>BM (([]:List Bool).getD i false)) (fun i hi=>absurd hi (Nat.not_lt_zero _)) (mu1:=[]) ?_
 refine aM ?_
 refine cW (ι:=Nat) (fun k=>[(5,vI k),(4, .a (.g 40))]) (fun k=>[(40,bE 1 BM false ((fU c).take k))]) (fun k=>k≤c.machines.length) (fun k=>c.machines.length - k) 0 [40] [40] rfl rfl (Nat.zero_le _) wF ⟨⟨_,rfl,bU (sz:=1) (enc:=BM) (z:=false) (xs:=[]) rfl⟩,trivial⟩ ?_
 intro k h1
 have hlt:((fU c).take k).length=k:=by rw [List.length_take];omega
 refine aE ?_
 refine aH (fun e=>?_) (fun e=>?_)
 ·have hk:k<c.machines.length:=by omega
  refine aE ?_
  refine cJ TT_ok 41 (fun _=>BM (c.machines.getD k Y4).alive) rfl rfl rfl rfl rfl rfl rfl (fun i hi=>by rcases i with _ | i <;>first | rfl | omega) (mu1:=[]) rfl rfl rfl ?_
  refine aM ?_
  refine cL TT_ok 40 41 42 rfl rfl rfl rfl rfl rfl rfl rfl rfl rfl rfl rfl ⟨by show (((fU c).take k).length+1) * 1≤_;omega,by unfold maxL;omega⟩ ?_
  refine aM ?_
  refine bC (bH 40 42) ?_
  exact bF (k+1) hk (by omega) wF ⟨⟨_,rfl,cX (x:=(c.machines.getD k Y4).alive) (by rw [b7 (z:=false) (by omega),AK c hk]) rfl⟩,wM⟩
 have hk:k=c.machines.length:=by omega
 subst hk
 rw [List.take_of_length_le (show (fU c).length≤c.machines.length by omega)]
 refine aE ?_
 refine dZ TT_ok (J1 c.places hok.2.1 (fU c) (by omega)) rfl rfl (ZF _) (fun _=>rfl) rfl rfl rfl fun _ _=>?_
 refine aM ?_
 by_cases hl:(oQ c).length=0
 ·rw [FE hok hcf hl]
  refine nZ rfl (fun e=>absurd e (by show ¬ ((oQ c).length:Int) > 0;omega)) (fun _=>?_)
  refine aE ?_
  refine aJ (ι:=Nat) (fun i=>[(8,vI i)]) (fun i=>[(902,bE 4 bQ Y4 (fX c i).machines),(903,bE 7 cTx Y5 (fX c i).txs)]) (fun i=>i≤c.txs.length) (fun i=>c.txs.length - i) 0 [902,903] [] (Nat.zero_le _) ?_
  intro i h1
  have hR:=B7 hok i h1
  have hE:=hR.eq
  have hlen:=hR.len
  have hokd:=hR.ok hok
  rw [hE] at hokd
  have hms:(fX c i).machines.length=c.machines.length:=hR.like.len
  refine aE ?_
  refine aH (fun e=>?_) (fun e=>?_)
  ·have hi:i<c.txs.length:=by omega
   refine aE ?_
   refine aW [] [0,1,2,3,4,5,6] fun B0 H0=>?_
   refine f6 6 (BF c hb hok (c.txs.getD i Y5) (hok.txIn hi)) rfl rfl rfl (ZF _) rfl ?_
   refine aN ?_
   refine aA (fun e2=>?_) (fun e2=>?_)
   ·have hS:=T9 e2
    refine aE ?_
    refine dZ TT_ok (ZG 900 3 (SI (cwt c c.clock (fX c i).machines (fX c i).txs) hokd i (by show i<(fX c i).txs.length;omega))) rfl rfl (ZF _) (fun _=>rfl) rfl rfl rfl (fun _ _=>?_) (hin:=by repeat (first | exact trivial | refine And.intro ⟨_,rfl,tT⟩ ?_ | refine And.intro ⟨_,rfl,yG⟩ ?_ | refine And.intro ⟨_,rfl,uM⟩ ?_ | refine And.intro ⟨_,rfl,F5⟩ ?_ | refine And.intro ⟨_,rfl,ZE _⟩ ?_))
    refine aM ?_
    exact bF (i+1) hi (by omega) wF ⟨⟨_,rfl,bU (by rw [hS, ← hE])⟩,⟨_,rfl,bU (by rw [hS, ← hE])⟩,wM⟩
   ·have hS:=V7 e2
    refine aE ?_
    exact bF (i+1) hi (by omega) wF ⟨⟨_,rfl,bU (by rw [hS])⟩,⟨_,rfl,bU (by rw [hS])⟩,wM⟩
  have hi:i=c.txs.length:=by omega
  subst hi
  clear hE hokd hlen hms e h1
  have hM0:More c.machines (fX c c.txs.length).machines:=hR.like.more
  generalize hz0:(fX c c.txs.length).machines=ms0 at hM0 ⊢
  generalize hz1:(fX c c.txs.length).txs=ts0
  refine aE ?_
  refine aJ (ι:=Nat) (fun r=>[(9,vI r)]) (fun r=>[(902,bE 4 bQ Y4 (iG c.places (bN c) r ms0)),(910,bE 1 cN Y3 (bN c))]) (fun r=>r≤c.places.length) (fun r=>c.places.length - r) 0 [902,910] [] (Nat.zero_le _) ?_
  intro r h1
  refine aE ?_
  refine aH (fun e=>?_) (fun e=>?_)
  ·have e:(r:Int)<((bN c).length:Int):=e
   have hr:r<c.places.length:=by omega
   have np:=B5 hok hl hr
   have hMr:=o1 hok hl hM0 r (by omega)
   have hnw:iG c.places (bN c) (r+1) ms0=jG (c.places.getD r Y3).machines ((bN c).getD r Y3).machines (r:Int) (cellsOf ((iG c.places (bN c) r ms0).getD (kD c r).toNat Y4) (r:Int)) ((bN c).getD r Y3).machines.length (iG c.places (bN c) r ms0):=rfl
   generalize iG c.places (bN c) r ms0=ms at hMr hnw ⊢
   have hf:0≤kD c r∧kD c r<c.machines.length:=np.rng _ (bY (z:=0) np.pos)
   have hf2:0≤kD c r∧kD c r<ms.length:=by rw [hMr.len];exact hf
   obtain ⟨hMo,hMa,hMh⟩:=hMr.ok (kD c r).toNat (by rw [hMr.len];omega)
   have hhas:=hMh _ np.has
   have hpl:=hok.pl hr
   have hq3:=np.le
   have hq0:=np.pos
   have hrng:=np.rng
   have hfo:=np.fst
   generalize hm:ms.getD (kD c r).toNat Y4=m at hMo hhas ⊢
   rw [hm] at hnw
   have bk:m.copies.length≤6:=hMo.1.1
   obtain ⟨hc6,hcb⟩:=gM hMo hhas
   have hix:0≤eU m r∧eU m r<m.copies.length:=yB hhas
   have g4:0≤b0 (atB (r:Int)) m.copies∧b0 (atB (r:Int)) m.copies<(m.copies.length:Int):=hix
   refine a9 (d6 910 (r:Int) 70 rfl rfl rfl rfl rfl rfl ⟨by omega,by omega⟩) ?_
   refine a9 (aV 70 0 71) ?_
   refine a9 (d6 902 (kD c r) 60 rfl rfl rfl rfl rfl rfl hf2) ?_
   rw [hm]
   refine a9 (aV 60 1 61) ?_
   refine a9 (aV 60 2 62) ?_
   refine a9 (aV 60 3 63) ?_
   refine aE ?_
   refine cK (j6 79 rfl rfl rfl) ?_
   refine aM ?_
   refine aW [] [0,1,2,3,4,5,6,7,8] fun B0 H0=>?_
   refine vF (uZ 86 rfl rfl rfl) ?_
   refine aY [6,7,8] ?_
   refine bB 7 rfl (by kernel_rfl) (aR (bA ?_))
   refine d7 8 rfl (by kernel_rfl) (by kernel_rfl) (aR (eX [] fun B0 H0=>?_))
   refine aN ?_
   refine aW [] [0,1,2,3,4,5,6,7,8] fun B0 H0=>?_
   refine f6 4 (w8 m (by omega) (r:Int)) rfl rfl rfl (ZF _) rfl ?_
   refine OV ?_
   refine oM TT_ok 5 rfl rfl rfl rfl ?_
   refine oM TT_ok 6 rfl rfl rfl rfl ?_
   refine nV (d6 61 (eU m (r:Int)) 64 rfl rfl rfl rfl rfl rfl hix) ?_
   refine nV (aV 64 1 65) ?_
   refine nV (j6 94 rfl rfl rfl) ?_
   refine oM TT_ok 7 rfl rfl rfl rfl ?_
   refine oM TT_ok 8 rfl rfl rfl rfl ?_
   refine F9 TT_ok rfl ?_
   have hcel:cellsOf m (r:Int)=(m.copies.getD (eU m (r:Int)).toNat ZA).cells:=iZ hhas
   rw [← hcel]
   refine SP 65 rfl fun v=>?_
   refine a9 (V_gv 64 65 (v:=v) rfl rfl rfl rfl) ?_
   refine a9 (SB 11 rfl) ?_
   refine a9 (aZ 61 64) ?_
   refine a9 (a7 60 1 61) ?_
   refine a9 (a7 60 2 62) ?_
   refine a9 (a7 60 3 63) ?_
   refine a9 (aZ 902 60) ?_
   generalize hcs:cellsOf m (r:Int)=cs at hc6 hcb hnw ⊢
   have hn1:jG (c.places.getD r Y3).machines ((bN c).getD r Y3).machines (r:Int) cs 1 ms=ms:=by rw [jG,if_pos (show ((bN c).getD r Y3).machines.getD 0 0 ∈ (c.places.getD r Y3).machines from hfo)];rfl
   refine cW (ι:=Nat) (fun k=>[(13,vI k)]) (fun k=>[(902,VB (jG (c.places.getD r Y3).machines ((bN c).getD r Y3).machines (r:Int) cs k ms) (kD c r) (JA m (r:Int) v))]) (fun k=>k≤((bN c).getD r Y3).machines.length) (fun k=>((bN c).getD r Y3).machines.length - k) 1 [902] [] rfl rfl hq0 wF ⟨⟨_,rfl,by rw [hn1];exact ZE _⟩,wM⟩ ?_
   intro k h2
   refine aE ?_
   refine aH (fun e2=>?_) (fun e2=>?_)
   ·have e2:(k:Int)<(((bN c).getD r Y3).machines.length:Int):=e2
    have hk:k<((bN c).getD r Y3).machines.length:=by omega
    have hx:=hrng _ (bY (z:=0) hk)
    have hMk:=nY (old:=(c.places.getD r Y3).machines) (l:=((bN c).getD r Y3).machines) (r:=(r:Int)) (by omega) hcb hrng hMr k (by omega)
    have hnk:jG (c.places.getD r Y3).machines ((bN c).getD r Y3).machines (r:Int) cs (k+1) ms=if ((bN c).getD r Y3).machines.getD k 0 ∈ (c.places.getD r Y3).machines then jG (c.places.getD r Y3).machines ((bN c).getD r Y3).machines (r:Int) cs k ms else (jG (c.places.getD r Y3).machines ((bN c).getD r Y3).machines (r:Int) cs k ms).set (((bN c).getD r Y3).machines.getD k 0).toNat (iW ((jG (c.places.getD r Y3).machines ((bN c).getD r Y3).machines (r:Int) cs k ms).getD (((bN c).getD r Y3).machines.getD k 0).toNat Y4) (r:Int) cs):=rfl
    generalize jG (c.places.getD r Y3).machines ((bN c).getD r Y3).machines (r:Int) cs k ms=ns at hMk hnk ⊢
    have hx2:0≤((bN c).getD r Y3).machines.getD k 0∧((bN c).getD r Y3).machines.getD k 0<ns.length:=by rw [hMk.len];exact hx
    obtain ⟨hMx,_,_⟩:=hMk.ok (((bN c).getD r Y3).machines.getD k 0).toNat (by rw [hMk.len];omega)
    have g1:(k:Int)<(((bN c).getD (r:Int).toNat Y3).machines.length:Int):=e2
    have g2:0≤((bN c).getD (r:Int).toNat Y3).machines.getD (k:Int).toNat 0∧((bN c).getD (r:Int).toNat Y3).machines.getD (k:Int).toNat 0<(ns.length:Int):=hx2
    refine aE ?_
    refine aW [] [0,1,2,3,4,5,6,7,8,9,10,11] fun B0 H0=>?_
    refine f6 10 (kJ (c.places.getD r Y3).machines (by omega) (((bN c).getD r Y3).machines.getD k 0)) rfl rfl rfl (ZF _) rfl ?_
    refine aY [11] ?_
    refine aN ?_
    by_cases hin:((bN c).getD r Y3).machines.getD k 0 ∈ (c.places.getD r Y3).machines
    ·rw [if_pos hin] at hnk
     refine bW (b := !decide (((bN c).getD r Y3).machines.getD k 0 ∈ (c.places.getD r Y3).machines)) rfl (fun e3=>by rw [decide_eq_true hin] at e3;cases e3) (fun _=>?_)
     refine aE ?_
     exact bF (k+1) hk (by omega) wF ⟨⟨_,rfl,by rw [hnk];exact ZE _⟩,wM⟩
    ·rw [if_neg hin] at hnk
     have hne:(((bN c).getD r Y3).machines.getD k 0).toNat≠(kD c r).toNat:=fun e=>hin (by
      have:((bN c).getD r Y3).machines.getD k 0=kD c r:=by omega
      rw [this];exact hfo)
     refine bW (b := !decide (((bN c).getD r Y3).machines.getD k 0 ∈ (c.places.getD r Y3).machines)) rfl (fun _=>?_) (fun e3=>by rw [decide_eq_false hin] at e3;cases e3)
     refine a9 (d6 902 (((bN c).getD r Y3).machines.getD k 0) 80 rfl (XB hne) rfl rfl rfl rfl hx2) ?_
     generalize hM:ns.getD (((bN c).getD r Y3).machines.getD k 0).toNat Y4=M at hMx hnk ⊢
     refine a9 (aV 80 1 81) ?_
     refine a9 (aV 80 2 82) ?_
     refine a9 (aV 80 3 83) ?_
     have bl:M.log.length≤200:=hMx.1.2.1
     have bc:M.cleared.length≤60:=hMx.1.2.2
     have bM:M.copies.length≤6:=hMx.1.1
     refine aE ?_
     by_cases hhM:dQ M (r:Int)=true
     ·have hrep:iW M (r:Int) cs=cG M (r:Int) cs:=by unfold iW;rw [if_pos hhM]
      refine aW [81] [0,1,2,3,4,5,6,7,8,9,10] fun B0 H0=>?_
      refine vF (uZ 120 rfl rfl rfl) ?_
      refine qU 9 (ZG 900 85 (tX cs (by omega))) rfl rfl rfl (ZF _) (fun _=>rfl) rfl rfl rfl fun _ _=>?_
      refine qU 10 (ZG 905 85 (ZG 903 83 (ZG 902 82 (ZG 901 81 (ZG 900 80 (CX M (by omega) (by omega) (by omega) (r:Int) hhM cs)))))) rfl rfl rfl (ZF _) (fun _=>rfl) rfl rfl rfl fun _ _=>?_
      refine aN ?_
      refine bC (a7 80 1 81) ?_
      refine bC (a7 80 2 82) ?_
      refine bC (a7 80 3 83) ?_
      refine bC (aZ 902 80) ?_
      exact bF (k+1) hk (by omega) wF ⟨⟨_,rfl,by rw [hnk];exact NM (by omega) hne (by rw [hrep];rfl)⟩,wM⟩
     ·have hhM:dQ M (r:Int)=false:=by simpa using hhM
      refine aW [80,81] [0,1,2,3,4,5,6,7,8,9,10] fun B0 H0=>?_
      refine vF (uZ 120 rfl rfl rfl) ?_
      refine qU 9 (ZG 900 85 (tX cs (by omega))) rfl rfl rfl (ZF _) (fun _=>rfl) rfl rfl rfl fun _ _=>?_
      refine aX 10 (ZG 905 85 (ZG 904 84 (ZG 903 83 (ZG 902 82 (ZG 901 81 (ZG 900 80 (KZ M hMx (r:Int) hhM cs))))))) fun _ _=>?_
      refine aN ?_
      refine bC (a7 80 1 84) ?_
      refine bC (a7 80 2 82) ?_
      refine bC (a7 80 3 83) ?_
      refine bC (aZ 902 80) ?_
      exact bF (k+1) hk (by omega) wF ⟨⟨_,rfl,by rw [hnk];exact NM (by omega) hne (V4 M (r:Int) cs).symm⟩,wM⟩
   have e2:¬ (k:Int)<(((bN c).getD r Y3).machines.length:Int):=e2
   have hk:k=((bN c).getD r Y3).machines.length:=by omega
   subst hk
   have hMk:=nY (old:=(c.places.getD r Y3).machines) (l:=((bN c).getD r Y3).machines) (r:=(r:Int)) (by omega) hcb hrng hMr _ (Nat.le_refl _)
   have hfk:=IC (r:=(r:Int)) (xs:=cs) (ms:=ms) hfo hf.1 (fun x hx=>(hrng x hx).1) _ (Nat.le_refl _)
   rw [hm] at hfk
   generalize jG (c.places.getD r Y3).machines ((bN c).getD r Y3).machines (r:Int) cs ((bN c).getD r Y3).machines.length ms=ns at hMk hnw hfk ⊢
   have hcs2:cs=(m.copies.getD (eU m r).toNat ZA).cells:=by rw [← hcs];exact hcel
   refine a9 (d6 902 (kD c r) 90 rfl (YK m (r:Int) v) rfl rfl rfl rfl (by rw [hMk.len];exact hf)) ?_
   refine a9 (aV 90 1 91) ?_
   refine a9 (d6 91 (eU m r) 94 rfl (YD m (r:Int) v) rfl rfl rfl rfl hix) ?_
   refine a9 (V_vg 94 65 (v:=v) rfl rfl rfl rfl rfl) ?_
   refine a9 (a7 94 1 65) ?_
   refine a9 (aZ 91 94) ?_
   refine a9 (a7 90 1 91) ?_
   refine a9 (aZ 902 90) ?_
   refine a9 (fI 902 rfl (UL hfk hcs2) rfl) ?_
   refine TO 65 rfl ?_
   refine a9 (a7 70 0 71) ?_
   refine a9 (aZ 910 70) ?_
   refine a9 (fI 910 rfl (VC (z:=Y3) rfl) rfl) ?_
   refine aE ?_
   exact bF (r+1) hr (by omega) wF ⟨⟨_,rfl,bU hnw.symm⟩,wM⟩
  have e:¬ (r:Int)<((bN c).length:Int):=e
  have hr:r=c.places.length:=by omega
  subst hr
  subst hz0
  subst hz1
  refine aE ?_
  refine a9 (bH 910 901) ?_
  refine aC (()) [(2,some 33)] ?_ ?_ ?_
  ·exact ZF _
  ·exact wM
  ·trivial
 ·rw [J5 hok hcf (by omega)]
  refine nZ rfl (fun _=>?_) (fun e=>absurd (by show ((oQ c).length:Int) > 0;omega) e)
  refine aE ?_
  refine aC (()) [(2,some 33)] ?_ ?_ ?_
  ·exact ZF _
  ·exact wM
  ·trivial
end
section
theorem NV (c:GCluster) (hb:D.bds eA (bK c)) (o:GOp) :
  Con Tryz.prog 198 [911,912,913] [iH c 911 912 913,vR (cOp o)] [(911,bE 1 cN Y3 c.places),(912,bE 4 bQ Y4 c.machines),(913,bE 7 cTx Y5 c.txs)]
   (fun _:Unit=>True) (fun _=>[iH (opM c o).1 901 902 903,vI (opM c o).2]) fun _=>[(901,bE 1 cN Y3 (opM c o).1.places),(902,bE 4 bQ Y4 (opM c o).1.machines),(903,bE 7 cTx Y5 (opM c o).1.txs)]:=by
 refine aD Tryz.func198 fun B0 r_ D_ w0=>?_
 refine d5 TT_ok rfl ?_
 refine d5 TT_ok rfl ?_
 refine d5 TT_ok rfl ?_
 refine FG ?_
 refine dC (ι:=Unit) (fun _=>[(6,vI (opR c o).2)]) (fun _=>[(7, .row (qB (opR c o).1 71 72 73)),(71,bE 1 cN Y3 (opR c o).1.places),(72,bE 4 bQ Y4 (opR c o).1.machines),(73,bE 7 cTx Y5 (opR c o).1.txs)]) (fun _=>True) [7] [] rfl rfl ?_ ?_
 ·have nz:∀ a b:Int,a≠b→¬ a=b:=fun _ _ h=>h
  refine aE ?_
  refine aO (fun h1=>?_) (fun h1=>?_)
  ·have hR:opR c o=rR c o.id o.a:=by unfold opR;  rw [if_pos h1]
   rw [hR]
   refine aE ?_
   refine aP (ZG 901 71 (ZG 902 72 (ZG 903 73 (JI c hb o.id o.a)))) fun _ _=>?_
   refine aM ?_
   exact aK () trivial Nat.zero_lt_one
  refine aE ?_
  refine aO (fun h2=>?_) (fun h2=>?_)
  ·have hR:opR c o=((mQ c o.id o.a o.b).1,(mQ c o.id o.a o.b).2.2):=by unfold opR;rw [if_neg h1];rw [if_pos h2]
   rw [hR]
   refine aE ?_
   refine aP (ZG 901 71 (ZG 902 72 (ZG 903 73 (MK c hb o.id o.a o.b)))) fun _ _=>?_
   refine aM ?_
   exact aK () trivial Nat.zero_lt_one
  refine aE ?_
  refine aO (fun h3=>?_) (fun h3=>?_)
  ·have hR:opR c o=lI c o.id o.a o.b o.c:=by unfold opR;rw [if_neg h1];rw [if_neg h2];rw [if_pos h3]
   rw [hR]
   refine aE ?_
   refine aP (ZG 901 71 (ZG 902 72 (ZG 903 73 (LJ c hb o.id o.a o.b o.c)))) fun _ _=>?_
   refine aM ?_
   exact aK () trivial Nat.zero_lt_one
  refine aE ?_
  refine aO (fun h4=>?_) (fun h4=>?_)
  ·have hR:opR c o=((kW c o.id o.a).1,(kW c o.id o.a).2.2):=by unfold opR;rw [if_neg h1];rw [if_neg h2];rw [if_neg h3];rw [if_pos h4]
   rw [hR]
   refine aE ?_
   refine aP (ZG 901 71 (ZG 902 72 (ZG 903 73 (KN c hb o.id o.a)))) fun _ _=>?_
   refine aM ?_
   exact aK () trivial Nat.zero_lt_one
  refine aE ?_
  refine aO (fun h5=>?_) (fun h5=>?_)
  ·have hR:opR c o=pX c o.id o.a o.b:=by unfold opR;rw [if_neg h1];rw [if_neg h2];rw [if_neg h3];rw [if_neg h4];rw [if_pos h5]
   rw [hR]
   refine aE ?_
   refine aP (ZG 901 71 (ZG 902 72 (ZG 903 73 (M6 c hb o.id o.a o.b)))) fun _ _=>?_
   refine aM ?_
   exact aK () trivial Nat.zero_lt_one
  refine aE ?_
  refine aO (fun h6=>?_) (fun h6=>?_)
  ·have hR:opR c o=lJ c o.id:=by unfold opR;rw [if_neg h1];rw [if_neg h2];rw [if_neg h3];rw [if_neg h4];rw [if_neg h5];rw [if_pos h6]
   rw [hR]
   refine aE ?_
   refine aP (ZG 901 71 (ZG 902 72 (ZG 903 73 (I9 c hb o.id)))) fun _ _=>?_
   refine aM ?_
   exact aK () trivial Nat.zero_lt_one
  refine aE ?_
  refine aO (fun h7=>?_) (fun h7=>?_)
  ·have hR:opR c o=eF c o.id:=by unfold opR;rw [if_neg h1];rw [if_neg h2];rw [if_neg h3];rw [if_neg h4];rw [if_neg h5];rw [if_neg h6];rw [if_pos h7]
   rw [hR]
   refine aE ?_
   refine aP (ZG 901 71 (ZG 902 72 (ZG 903 73 (CY c hb o.id)))) fun _ _=>?_
   refine aM ?_
   exact aK () trivial Nat.zero_lt_one
  refine aE ?_
  refine aO (fun h10=>?_) (fun h10=>?_)
  ·have hR:opR c o=kP c o.id:=by unfold opR;rw [if_neg h1];rw [if_neg h2];rw [if_neg h3];rw [if_neg h4];rw [if_neg h5];rw [if_neg h6];rw [if_neg h7];rw [if_pos h10]
   rw [hR]
   refine aE ?_
   refine aP (ZG 901 71 (ZG 902 72 (ZG 903 73 (IZ c hb o.id)))) fun _ _=>?_
   refine aM ?_
   exact aK () trivial Nat.zero_lt_one
  refine aE ?_
  refine aO (fun h8=>?_) (fun h8=>?_)
  ·have hR:opR c o=((q7 c o.a).1,bif !(q7 c o.a).2 then 1 else 0):=by unfold opR;rw [if_neg h1];rw [if_neg h2];rw [if_neg h3];rw [if_neg h4];rw [if_neg h5];rw [if_neg h6];rw [if_neg h7];rw [if_neg h10];rw [if_pos h8]
   rw [hR]
   refine aE ?_
   refine aP (ZG 901 71 (ZG 902 72 (ZG 903 73 (M7 c hb o.a (gR c hb))))) fun _ _=>?_
   refine aM ?_
   refine aA (fun e=>?_) (fun e=>?_)
   ·rw [e]
    refine aE ?_
    exact aK () trivial Nat.zero_lt_one
   ·rw [e]
    refine aE ?_
    exact aK () trivial Nat.zero_lt_one
  refine aE ?_
  refine aO (fun h9=>?_) (fun h9=>?_)
  ·have hR:opR c o=(f9 c,bif (f9 c).lost then 1 else 0):=by unfold opR;rw [if_neg h1];rw [if_neg h2];rw [if_neg h3];rw [if_neg h4];rw [if_neg h5];rw [if_neg h6];rw [if_neg h7];rw [if_neg h10];rw [if_neg h8];rw [if_pos h9]
   rw [hR]
   refine aE ?_
   refine aP (ZG 901 71 (ZG 902 72 (ZG 903 73 (G5 c hb)))) fun _ _=>?_
   refine aM ?_
   refine aA (fun e=>?_) (fun e=>?_)
   ·refine aE ?_
    exact bF () trivial Nat.zero_lt_one ⟨⟨_,rfl,ZH (by rw [e];rfl)⟩,wF⟩ wM
   ·refine aE ?_
    exact bF () trivial Nat.zero_lt_one ⟨⟨_,rfl,ZH (by rw [e];rfl)⟩,wF⟩ wM
  refine aE ?_
  have hR:opR c o=(Y6,0):=by unfold opR;rw [if_neg h1];rw [if_neg h2];rw [if_neg h3];rw [if_neg h4];rw [if_neg h5];rw [if_neg h6];rw [if_neg h7];rw [if_neg h10];rw [if_neg h8];rw [if_neg h9]
  rw [hR]
  refine bC (aU 7 2 1 (fun i=>cN (([]:List GPlace).getD i Y3))) ?_
  refine bC (aU 7 3 4 (fun i=>bQ (([]:List GMachine).getD i Y4))) ?_
  refine bC (aU 7 4 7 (fun i=>cTx (([]:List GTx).getD i Y5))) ?_
  refine bC (aV 7 2 71) ?_
  refine bC (aV 7 3 72) ?_
  refine bC (aV 7 4 73) ?_
  exact aK () trivial Nat.zero_lt_one
 rintro ⟨⟩ _
 refine aT ?_
 by_cases hz:(opR c o).1.machines.length=0
 ·rw [show opM c o=(c,1) from if_pos hz]
  refine bW (b:=((opR c o).1.machines.length:Int) == 0) rfl (fun _=>?_) (fun e=>by rw [hz] at e;cases e)
  refine aE ?_
  refine a9 (SB 2 rfl) ?_
  refine a9 (a7 4 2 911) ?_
  refine a9 (aV 4 2 901) ?_
  refine a9 (a7 4 3 912) ?_
  refine a9 (aV 4 3 902) ?_
  refine a9 (a7 4 4 913) ?_
  refine a9 (aV 4 4 903) ?_
  refine aC (()) [(4,some 33),(5,none)] ?_ ?_ ?_
  ·exact ZF _
  ·exact wM
  ·trivial
 ·rw [show opM c o=opR c o from if_neg hz]
  refine bW (b:=((opR c o).1.machines.length:Int) == 0) rfl (fun e=>absurd (by simpa using e) hz) (fun _=>?_)
  refine aE ?_
  refine a9 (bH 71 901) ?_
  refine a9 (bH 72 902) ?_
  refine a9 (bH 73 903) ?_
  refine aC (()) [(4,some 33),(5,none)] ?_ ?_ ?_
  ·exact ZF _
  ·exact wM
  ·trivial
theorem MO (c:GCluster) (hb:D.bds eA (bK c)) (l:List GOp) (hl:l.length≤1048576) :
  Con Tryz.prog 160 [] [vR (bK c),vL 5 cOp ZC l] [] (fun _:Unit=>True) (fun _=>[iH (rI c l).1 901 902 903, .a (.g 904)])
   fun _=>[(901,bE 1 cN Y3 (rI c l).1.places),(902,bE 4 bQ Y4 (rI c l).1.machines),(903,bE 7 cTx Y5 (rI c l).1.txs),(904,bE 1 bL 0 (rI c l).2)]:=by
 refine aD Tryz.func160 fun B0 r_ D_ w0=>?_
 refine d5 TT_ok rfl ?_
 refine aS 2 fun r_=>?_
 refine aE ?_
 refine aG (eK c hb) ?_
 by_cases hok:ClusOk c∧l.length≤300
 ·have hlen:(l.length:Int)≤300:=by omega
  rw [show rI c l=iY c l l.length from if_pos hok]
  refine bW (b:=false) ?_ (fun e=>by cases e) (fun _=>?_)
  ·show some (SV.a (.v (.bool (bif !dec (ClusOk c) then true else decide ((l.length:Int) > 300)))))=_
   rw [dG hok.1,decide_eq_false (by omega)];rfl
  refine aE ?_
  refine aP (ZG 901 61 (ZG 902 62 (ZG 903 63 (gR c hb)))) fun _ _=>?_
  refine aM ?_
  refine aL 64 (fun i=>bL (([]:List Int).getD i 0)) (fun i hi=>absurd hi (Nat.not_lt_zero _)) (mu1:=[]) ?_
  refine aM ?_
  refine aJ (ι:=Nat) (fun i=>[(8,vI i),(7, .a (.g 64))]) (fun i=>[(6, .row (qB (iY c l i).1 61 62 63)),(61,bE 1 cN Y3 (iY c l i).1.places),(62,bE 4 bQ Y4 (iY c l i).1.machines),(63,bE 7 cTx Y5 (iY c l i).1.txs),(64,bE 1 bL 0 (iY c l i).2)]) (fun i=>i≤l.length) (fun i=>l.length - i) 0 [6,61,62,63,64] [61,62,63,64] (Nat.zero_le _) ?_
  intro i h1
  have hd:=vN (DQ hok.1 l i)
  have hn:=IU c l i
  refine aE ?_
  refine aH (fun e=>?_) (fun e=>?_)
  ·have hi:i<l.length:=by omega
   refine aE ?_
   refine dC (ι:=Unit) (fun _=>[(9, .a (.p 9 0)),(10,vI (opM (iY c l i).1 (l.getD i ZC)).2)]) (fun _=>[(9, .row (qB (opM (iY c l i).1 (l.getD i ZC)).1 71 72 73)),(71,bE 1 cN Y3 (opM (iY c l i).1 (l.getD i ZC)).1.places),(72,bE 4 bQ Y4 (opM (iY c l i).1 (l.getD i ZC)).1.machines),(73,bE 7 cTx Y5 (opM (iY c l i).1 (l.getD i ZC)).1.txs)]) (fun _=>True) [61,62,63] [] rfl rfl ?_ ?_
   ·refine aW [61,62,63] [0,1,2,3,4,5,6,7,8,9,10,11] fun B0 H0=>?_
    refine cZ 5 9 rfl rfl (by kernel_rfl) (iV (ZG 911 61 (ZG 912 62 (ZG 913 63 (ZG 901 71 (ZG 902 72 (ZG 903 73 (NV _ hd (l.getD i ZC)))))))) rfl rfl (ZF _) (fun _=>rfl) rfl rfl rfl (fun _ _=>bA ?_)) (aR (bA ?_))
    ·refine aY [6,7,8,9,10,11] ?_
     refine bB 9 rfl (by kernel_rfl) (aR (bA ?_))
     refine bB 10 rfl (by kernel_rfl) (aR (bA ?_))
     refine aY [11] ?_
     refine aN ?_
     exact aK () trivial Nat.zero_lt_one
    ·skip
     refine aX 5 (ZG 911 61 (ZG 912 62 (ZG 913 63 (ZG 901 71 (ZG 902 72 (ZG 903 73 (NV _ hd (l.getD i ZC)))))))) fun _ _=>?_
     refine aY [6,7,8,10,11] ?_
     refine bB 10 rfl (by kernel_rfl) (aR (bA ?_))
     refine aY [11] ?_
     refine aN ?_
     exact aK () trivial Nat.zero_lt_one
   rintro ⟨⟩ _
   refine aT ?_
   refine cJ TT_ok 42 (fun _=>bL (opM (iY c l i).1 (l.getD i ZC)).2) rfl rfl rfl rfl rfl rfl rfl (fun j hj=>by rcases j with _ | j <;>first | rfl | omega) (mu1:=[]) rfl rfl rfl ?_
   refine aM ?_
   refine cL TT_ok 64 42 43 rfl rfl rfl rfl rfl rfl rfl rfl rfl rfl rfl rfl ⟨by show ((iY c l i).2.length+1) * 8≤_;omega,by unfold maxL;omega⟩ ?_
   refine aM ?_
   refine bC (bH 64 43) ?_
   refine bC (bH 61 71) ?_
   refine bC (bH 62 72) ?_
   refine bC (bH 63 73) ?_
   exact bF (i+1) hi (by omega) wF ⟨⟨_,rfl,ZE _⟩,⟨_,rfl,ZE _⟩,⟨_,rfl,ZE _⟩,⟨_,rfl,ZE _⟩,⟨_,rfl,aQ⟩,wM⟩
  ·have hi:i=l.length:=by omega
   subst hi
   refine aE ?_
   refine a9 (bH 61 901) ?_
   refine a9 (bH 62 902) ?_
   refine a9 (bH 63 903) ?_
   refine a9 (bH 64 904) ?_
   refine aC (()) [(4,some 33),(5,none)] ?_ ?_ ?_
   ·exact ZF _
   ·exact wM
   ·trivial
 ·rw [show rI c l=(Y6,[]) from if_neg hok]
  refine bW (b:=true) ?_ (fun _=>?_) (fun e=>by cases e)
  ·show some (SV.a (.v (.bool (bif !dec (ClusOk c) then true else decide ((l.length:Int) > 300)))))=_
   by_cases h:ClusOk c
   ·rw [dG h,decide_eq_true (by
      have:¬ l.length≤300:=fun h2=>hok ⟨h,h2⟩
      omega)];rfl
   ·rw [cF h];rfl
  refine aE ?_
  refine aL 904 (fun i=>bL (([]:List Int).getD i 0)) (fun i hi=>absurd hi (Nat.not_lt_zero _)) (mu1:=[]) ?_
  refine aM ?_
  refine a9 (aU 4 2 1 (fun i=>cN (([]:List GPlace).getD i Y3))) ?_
  refine a9 (aU 4 3 4 (fun i=>bQ (([]:List GMachine).getD i Y4))) ?_
  refine a9 (aU 4 4 7 (fun i=>cTx (([]:List GTx).getD i Y5))) ?_
  refine a9 (aV 4 2 901) ?_
  refine a9 (aV 4 3 902) ?_
  refine a9 (aV 4 4 903) ?_
  refine aC (()) [(4,some 33),(5,none)] ?_ ?_ ?_
  ·exact ZF _
  ·exact wM
  ·trivial
end
section
theorem W2 {a b:Int} (ha:1≤a∧a≤6) (hb:1≤b∧b≤8):ClusOk (hK a b).1:=by
 have e:hK a b=(qG a.toNat b.toNat,true):=by
  unfold hK
  rw [bR.2 ha,bR.2 hb];rfl
 rw [e]
 exact XD (by omega) (by omega)
theorem U7 {n:Nat} {β:Nat→Int} (hn:n≤1048576) (hβ:g0 β) (i h:Int) (h1:0≤i) (h2:i≤n):Con Tryz.prog 110 [700,701] [.a (.p 700 0)] (tZ n β i h) (fun y:GCluster×Int×Int=>ClusOk y.1∧0≤y.2.1∧y.2.1≤n) (fun y=>[iH y.1 901 902 903]) fun y=>[(700,dP y.2.1 y.2.2),(901,bE 1 cN Y3 y.1.places),(902,bE 4 bQ Y4 y.1.machines),(903,bE 7 cTx Y5 y.1.txs)]:=by
 refine aD Tryz.func110 fun B0 r_ D_ w0=>?_
 refine aE ?_
 refine aP (bI hn hβ i h h1 h2 2) fun a ⟨a1,a2,a3⟩=>?_
 refine aM ?_
 refine aP (bI hn hβ a.2.1 a.2.2 a2 a3 3) fun b ⟨b1,b2,b3⟩=>?_
 refine aM ?_
 have hN:=W2 (a:=1+a.1) (b:=3+b.1) (by omega) (by omega)
 refine aP (ZG 901 61 (ZG 902 62 (ZG 903 63 (CG (1+a.1) (3+b.1))))) fun _ _=>?_
 refine aM ?_
 generalize (hK (1+a.1) (3+b.1)).1=N at hN
 have hb:=vN hN
 refine aP (nk:=[700,64]) (ZG 900 64 (LO hn hβ b.2.1 b.2.2 b2 b3 N)) fun l ⟨l1,l2,l3⟩=>?_
 refine aM ?_
 have hP:ClusOk (rI N l.1).1:=by
  rw [show rI N l.1=iY N l.1 l.1.length from if_pos ⟨hN,by omega⟩]
  exact DQ hN _ _
 refine dZ TT_ok (ZG 901 71 (ZG 902 72 (ZG 903 73 (ZG 904 74 (MO N hb l.1 (by omega)))))) rfl rfl (ZF _) (fun _=>rfl) rfl rfl rfl fun _ _=>?_
 refine aM ?_
 refine a9 (bH 71 901) ?_
 refine a9 (bH 72 902) ?_
 refine a9 (bH 73 903) ?_
 refine aC (((rI N l.1).1,l.2.1,l.2.2)) [(2,some 33)] ?_ ?_ ?_
 ·exact ZF _
 ·exact wM
 ·exact ⟨hP,l2,l3⟩
theorem KT {α:Type} {w:α→Nat} {x:α}:∀ (xs:List α) (i:Nat),fC w (xs.set i x)≤fC w xs+w x
 | [],i=>by simp [fC]
 | y :: r,0=>by simp only [List.set_cons_zero,fC];omega
 | y :: r,i+1=>by
  have:=KT (w:=w) (x:=x) r i
  simp only [List.set_cons_succ,fC];omega
theorem HZ {α:Type} {w:α→Nat}:∀ (xs:List α) (i:Nat),fC w (xs.drop i)≤fC w xs
 | [],i=>by simp [fC]
 | y :: r,0=>Nat.le_refl _
 | y :: r,i+1=>by
  have:=HZ (w:=w) r i
  simp only [List.drop_succ_cons,fC];omega
theorem TW {ps:List GPlace} (h1:ps.length≤7) (h2:∀ p ∈ ps,p.machines.length≤4):wL lN ps≤35:=by
 have g1:fC lN ps≤4 * ps.length:=k8 h2
 unfold wL;omega
def U1 (ts:List GTx):Prop := ∀ t ∈ ts,0≤t.id∧t.id≤1000001
abbrev nA (c:GCluster):Prop:=iR c≤60000∧U1 c.txs
theorem PW {c:GCluster} (h:ClusOk c):U1 c.txs:=l5 (z:=Y5) fun i hi=>by have:=(h.tx hi).1.1;omega
abbrev muD (c:GCluster) (k1 k2 k3:Nat):Mu:=[(k1,T0 c.places),(k2,bE 4 bQ Y4 c.machines),(k3,bE 7 cTx Y5 c.txs)]
theorem CV {n:Nat} {β:Nat→Int} (hn:n≤1048576) (hβ:g0 β) (i h:Int) (h1:0≤i) (h2:i≤n):Con Tryz.prog 63 [700,701] [.a (.p 700 0)] (tZ n β i h) (fun y:GCluster×Int×Int=>nA y.1∧0≤y.2.1∧y.2.1≤n) (fun y=>[iH y.1 901 902 903]) fun y=>[(700,dP y.2.1 y.2.2),(901,T0 y.1.places),(902,bE 4 bQ Y4 y.1.machines),(903,bE 7 cTx Y5 y.1.txs)]:=by
 refine aD Tryz.func63 fun B0 r_ D_ w0=>?_
 refine aE ?_
 refine aP (nk:=[700,61,62,63]) (ZG 901 61 (ZG 902 62 (ZG 903 63 (U7 hn hβ i h h1 h2)))) fun y ⟨y1,y2,y3⟩=>?_
 obtain ⟨k,i1,i2⟩:=y
 dsimp only at y1 y2 y3 ⊢
 have hw:=HC y1
 have hid:=PW y1
 have hw':wL lN k.places+wL eO k.machines+wL wTx k.txs≤30000:=hw
 have hm:1≤k.machines.length∧k.machines.length≤8:=y1.1.2.2.1
 have ht:k.txs.length≤60:=y1.1.2.2.2
 refine cK (fI 61 rfl rM rfl) ?_
 refine aM ?_
 refine aP (dX hn hβ i1 i2 y2 y3 12) fun a ⟨a1,a2,a3⟩=>?_
 refine aM ?_
 refine dC (ι:=GCluster×Int×Int) (fun _=>[]) (fun y=>(3, .row (qB y.1 61 62 63)) :: (700,dP y.2.1 y.2.2) :: muD y.1 61 62 63) (fun y=>nA y.1∧0≤y.2.1∧y.2.1≤n) [3,700,61,62,63] [61,62,63] rfl rfl ?_ ?_
 ·refine aA (fun _=>?_) (fun _=>?_)
  rotate_left
  ·refine aE ?_
   exact aK (k,a.2.1,a.2.2) ⟨⟨by show iR k≤60000;omega,hid⟩,a2,a3⟩ Nat.zero_lt_one
  refine aE ?_
  refine aP (bI hn hβ a.2.1 a.2.2 a2 a3 8) fun g ⟨g1,g2,g3⟩=>?_
  refine aM ?_
  refine aA (fun _=>?_) (fun _=>?_)
  ·refine aE ?_
   refine cJ TT_ok 50 (fun i=>bL (([0,1000000,1000001]:List Int).getD i 0)) rfl rfl rfl rfl rfl rfl rfl (fun i hi=>by rcases i with _ | _ | _ | i <;>first | rfl | omega) (mu1:=[]) rfl rfl rfl ?_
   refine aM ?_
   refine aP (bI hn hβ g.2.1 g.2.2 g2 g3 3) fun z ⟨z1,z2,z3⟩=>?_
   refine aM ?_
   exact aK ({ k with config:=([0,1000000,1000001]:List Int).getD z.1.toNat 0 },z.2.1,z.2.2) ⟨⟨by show iR k≤60000;omega,hid⟩,z2,z3⟩ Nat.zero_lt_one
  refine aE ?_
  refine aA (fun _=>?_) (fun _=>?_)
  ·refine aE ?_
   refine aL 50 (fun i=>bL (([-1,0,1000000,1000001]:List Int).getD i 0)) (pK rfl rfl rfl rfl) (mu1:=[]) ?_
   refine aM ?_
   refine aP (bI hn hβ g.2.1 g.2.2 g2 g3 4) fun z ⟨z1,z2,z3⟩=>?_
   refine aM ?_
   exact aK ({ k with clock:=([-1,0,1000000,1000001]:List Int).getD z.1.toNat 0 },z.2.1,z.2.2) ⟨⟨by show iR k≤60000;omega,hid⟩,z2,z3⟩ Nat.zero_lt_one
  refine aE ?_
  refine aA (fun _=>?_) (fun _=>?_)
  ·refine aE ?_
   refine aP (nk:=[700,51]) (ZG 900 51 (SS hn hβ g.2.1 g.2.2 g2 g3)) fun z ⟨z1,z2,z3⟩=>?_
   have hz:=TW z1.1 z1.2
   refine aM ?_
   refine bC (bH 61 51) ?_
   exact aK ({ k with places:=z.1 },z.2.1,z.2.2) ⟨⟨by show wL lN z.1+wL eO k.machines+wL wTx k.txs≤60000;omega,hid⟩,z2,z3⟩ Nat.zero_lt_one
  refine aE ?_
  refine aA (fun _=>?_) (fun _=>?_)
  ·refine aE ?_
   refine a9 (d6 62 0 77 rfl rfl rfl rfl rfl rfl ⟨Int.le_refl _,by omega⟩) ?_
   refine aW [700] [0,1,2,3,4,5] fun B0 H0=>?_
   refine aX (nk:=[700,51,52,53]) 3 (ZG 901 51 (ZG 902 52 (ZG 903 53 (TC hn hβ g.2.1 g.2.2 g2 g3)))) fun z ⟨z1,z2,z3⟩=>?_
   refine aY [4,5] ?_
   refine vF (uZ 40 rfl rfl rfl) ?_
   refine d7 5 rfl (by kernel_rfl) (by kernel_rfl) (aR (eX [] fun B0 H0=>?_))
   refine aN ?_
   have hz:=TS z1
   have hs:=KT (w:=eO) (x:=z.1) k.machines 0
   refine bC (a7 77 1 51) ?_
   refine bC (a7 77 2 52) ?_
   refine bC (a7 77 3 53) ?_
   refine bC (aZ 62 77) ?_
   exact bF ({ k with machines:=k.machines.set 0 z.1 },z.2.1,z.2.2) ⟨⟨by show wL lN k.places+(((k.machines.set 0 z.1).length)+fC eO (k.machines.set 0 z.1))+wL wTx k.txs≤60000;rw [List.length_set];unfold wL at hw' ⊢;omega,hid⟩,z2,z3⟩ Nat.zero_lt_one wF ⟨⟨_,rfl,ZE _⟩,⟨_,rfl,ZE _⟩,⟨_,rfl,ZE _⟩,⟨_,rfl,bS (y:=z.1) (OwnI.refl _)⟩,wM⟩
  refine aE ?_
  refine aA (fun _=>?_) (fun _=>?_)
  ·refine aE ?_
   refine aW [700,63] [0,1,2,3,4,5,6,7] fun B0 H0=>?_
   refine aX (nk:=[700,51,52]) 3 (ZG 901 51 (ZG 902 52 (T1 hn hβ g.2.1 g.2.2 g2 g3))) fun z ⟨z1,z2,z3⟩=>?_
   refine bB 4 rfl (by kernel_rfl) (dK TT_ok 40 (fun _=>cTx z.1) rfl rfl rfl rfl rfl rfl rfl (fun j hj=>by rcases j with _ | j <;>first | rfl | omega) (mu1:=[(51, .arr 0 0 fun _=>[]),(52, .arr 0 0 fun _=>[])]) rfl rfl rfl (bA ?_))
   refine bB 5 rfl (by kernel_rfl) (dE TT_ok 63 40 41 rfl rfl rfl rfl rfl rfl rfl rfl rfl rfl rfl rfl ⟨by show (k.txs.length+1) * 88≤_;omega,by unfold maxL;omega⟩ (bA ?_))
   refine aY [6,7] ?_
   refine d7 7 rfl (by kernel_rfl) (by kernel_rfl) (aR (eX [] fun B0 H0=>?_))
   refine aN ?_
   have hz:z.1.reads.length≤13∧z.1.sets.length≤13:=z1.1
   refine bC (bH 63 41) ?_
   exact bF ({ k with txs:=k.txs ++ [z.1] },z.2.1,z.2.2) ⟨⟨by show wL lN k.places+wL eO k.machines+((k.txs ++ [z.1]).length+fC wTx (k.txs ++ [z.1]))≤60000;rw [rA,List.length_append];unfold wL at hw' ⊢;simp only [fC,wTx,List.length_singleton];omega,gS hid z1.2⟩,z2,z3⟩ Nat.zero_lt_one wF ⟨⟨_,rfl,ZE _⟩,⟨_,rfl,ZE _⟩,⟨_,rfl,ZE _⟩,⟨_,rfl,ZE _⟩,⟨_,rfl,aQ⟩,wM⟩
  refine aE ?_
  refine aA (fun _=>?_) (fun _=>?_)
  ·refine uR ?_
   refine iX (a8 (jS ?_))
   refine iX (a8 (jS ?_))
   refine iX (a8 (jS ?_))
   refine cK (VQ 54 62 64 rfl rfl rfl ⟨by decide,by omega,Int.le_refl _⟩ rfl rfl rfl) ?_
   refine aM ?_
   have hs:=HZ (w:=eO) k.machines 1
   refine bC (bH 62 64) ?_
   exact bF ({ k with machines:=k.machines.drop 1 },g.2.1,g.2.2) ⟨⟨by show wL lN k.places+((k.machines.drop 1).length+fC eO (k.machines.drop 1))+wL wTx k.txs≤60000;rw [List.length_drop];unfold wL at hw' ⊢;omega,hid⟩,g2,g3⟩ Nat.zero_lt_one wF ⟨⟨_,rfl,ZE _⟩,⟨_,rfl,ZE _⟩,⟨_,rfl,ZE _⟩,⟨_,rfl,Ch.imp_len (by rw [List.length_drop];omega) fun j hj=>by show bQ (k.machines.getD (1+j) Y4)=_;rw [show (k.machines.drop 1).getD j Y4=k.machines.getD (1+j) Y4 from IS k.machines 1 j]⟩,wM⟩
  refine aE ?_
  refine aA (fun _=>?_) (fun _=>?_)
  ·refine aE ?_
   exact aK ({ k with lost := !k.lost },g.2.1,g.2.2) ⟨⟨by show iR k≤60000;omega,hid⟩,g2,g3⟩ Nat.zero_lt_one
  refine aE ?_
  refine aA (fun _=>?_) (fun _=>?_)
  ·refine aE ?_
   refine aL 60 (fun i=>cTx (([]:List GTx).getD i Y5)) (fun i hi=>absurd hi (Nat.not_lt_zero _)) (mu1:=[]) ?_
   refine aM ?_
   refine cW (ι:=List GTx×Nat×Int×Int) (fun y=>[(4,vI y.2.1)]) (fun y=>[(3, .row [.v (.int .i64 k.config), .v (.int .i64 k.clock), .g 61, .g 62, .g 60, .v (.bool k.lost)]),(60,bE 7 cTx Y5 y.1),(700,dP y.2.2.1 y.2.2.2)]) (fun y=>(y.1.length+1=y.2.1∧(∀ t ∈ y.1,wTx t≤0)∧U1 y.1∧y.2.1≤62)∧0≤y.2.2.1∧y.2.2.1≤n) (fun y=>62 - y.2.1) ([],1,g.2.1,g.2.2) [3,60,700] [60] rfl rfl ⟨⟨rfl,(fun _ h=>by cases h),(fun _ h=>by cases h),by dsimp only;omega⟩,g2,g3⟩ wF wM ?_
   rintro ⟨ts,q,i5,i6⟩ ⟨⟨w1,w5,w6,w2⟩,w3,w4⟩
   dsimp only at w1 w2 w3 w4 w5 w6 ⊢
   refine aE ?_
   refine aP (bI hn hβ i5 i6 w3 w4 2) fun z ⟨z1,z2,z3⟩=>?_
   refine aM ?_
   refine aH (fun e=>?_) (fun e=>?_)
   ·have hk:q<62:=by omega
    refine aE ?_
    refine dZ TT_ok (uJ (q:Nat) 0 (bR.2 (by omega)) (bR.2 (by decide))) rfl rfl (ZF _) (fun _=>rfl) rfl rfl rfl fun _ _=>?_
    refine aM ?_
    refine cJ TT_ok 81 (fun _=>SN (q:Nat) 0) rfl rfl rfl rfl rfl rfl rfl (fun j hj=>by rcases j with _ | j <;>first | rfl | omega) (mu1:=[]) rfl rfl rfl ?_
    refine aM ?_
    refine cL TT_ok 60 81 82 rfl rfl rfl rfl rfl rfl rfl rfl rfl rfl rfl rfl ⟨by show (ts.length+1) * 88≤_;omega,by unfold maxL;omega⟩ ?_
    refine aM ?_
    refine bC (bH 60 82) ?_
    exact bF (ts ++ [tU (q:Nat) 0],q+1,z.2.1,z.2.2) ⟨⟨by simp;omega,gS w5 (Nat.le_refl _),gS w6 (by show 0≤(q:Int)∧(q:Int)≤1000001;omega),hk⟩,z2,z3⟩ (by dsimp only;omega) wF ⟨⟨_,rfl,ZE _⟩,⟨_,rfl,vV rfl (JN (q:Nat) 0)⟩,wM⟩
   ·have hs:fC wTx ts≤0 * ts.length:=k8 w5
    refine aE ?_
    refine bC (bH 60 63) ?_
    exact aK ({ k with txs:=ts },z.2.1,z.2.2) ⟨⟨by show wL lN k.places+wL eO k.machines+(ts.length+fC wTx ts)≤60000;unfold wL at hw' ⊢;omega,w6⟩,z2,z3⟩ Nat.zero_lt_one
  refine aE ?_
  exact aK (k,g.2.1,g.2.2) ⟨⟨by show iR k≤60000;omega,hid⟩,g2,g3⟩ Nat.zero_lt_one
 rintro ⟨k,i3,i4⟩ ⟨u1,u2,u3⟩
 dsimp only at u2 u3 ⊢
 refine aT ?_
 refine a9 (bH 61 901) ?_
 refine a9 (bH 62 902) ?_
 refine a9 (bH 63 903) ?_
 refine aC ((k,i3,i4)) [(2,some 33)] ?_ ?_ ?_
 ·exact ZF _
 ·exact wM
 ·exact ⟨u1,u2,u3⟩
end
section
theorem xY {c:GCluster} (h:nA c):D.bds eA (bK c):=E8 c (Nat.le_trans h.1 (by decide))
end
section
abbrev YN (P:Program) (f:Nat) (n:Nat) (β:Nat→Int):Prop :=
 Con P f [701] [.a (.g 701)] [(701,TY n β)] (fun y:GCluster×Int=>nA y.1) (fun y=>[iH y.1 901 902 903,vI y.2]) fun y=>muD y.1 901 902 903
abbrev EA (P:Program) (f:Nat) (n:Nat) (β:Nat→Int):Prop :=
 Con P f [701] [.a (.g 701)] [(701,TY n β)] (fun y:GCluster=>nA y) (fun y=>[iH y 901 902 903]) fun y=>muD y 901 902 903
theorem E0 {n:Nat} {β:Nat→Int} (hn:n≤1048576) (hβ:g0 β):EA Tryz.prog 61 n β:=by
 refine aD Tryz.func61 fun B0 r_ D_ w0=>?_
 refine aE ?_
 refine aP (BT hn hβ) fun h0 _=>?_
 refine aM ?_
 refine aP (nk:=[700,901,902,903]) (CV hn hβ 0 h0 (Int.le_refl _) (Int.natCast_nonneg _)) fun y ⟨y1,y2,y3⟩=>?_
 refine aM ?_
 refine aC (y.1) [(2,some 33)] ?_ ?_ ?_
 ·exact ZF _
 ·exact wM
 ·exact y1
end
section
section
variable {E:Env} {mu:Mu} {TT:List TI} {fr:Fr} {gf gf':GF} {all:List Oper} {G:AG} {Q:Exit→Act→World→Prop} {J:Act→World→Prop}
theorem N2 (hT:TOk E.P TT) {o:Oper} {t T:Nat} {x y:Operand} {yt:Nat} {a b:Int} {ti:TI} {v:Value} (hop:o.op = .binOp .add T x y yt) (hx:ev [] fr gf x=some (.a (.v (.int .i64 a)))) (hy:ev [] fr gf y=some (.a (.v (.int .i64 b)))) (hti:tlk T TT=some ti)
  (hb:bop mu true ti.kind .add (.v (.int .i64 a)) (.v (.int .i64 b))=some (v,[])) (hgd:cU t gf=some gf')
  (k:SJ G J E ((t, .a (.v v)) :: fr) gf' mu) (hg:o.guard=none:=by exact rfl) (hd:o.dst=some t:=by exact rfl) (ht:Nat.blt t E.N=true:=by exact rfl):OJ G E all Q J o fr gf mu:=fun B c w H f m gg=>by
 obtain ⟨t1,t2⟩:=hT.get hti
 obtain ⟨d,d1,d2⟩:=t2.desc
 rw [t1] at d1
 have r1:(execOp c.eval o).run E.P w = .ok (.value v) w:=by
  obtain ⟨dst,op,type,pos,after,guard⟩:=o
  simp only at hop
  subst hop
  simp only [execOp]
  exact dO (RK m.mr.ms d1 d2 hb trivial x y (f.ev (g:=[]) (fun _ _ hm=>by cases hm) hx) (f.ev (g:=[]) (fun _ _ hm=>by cases hm) hy))
 refine tC (eN hg) r1 ?_
 rw [hd]
 exact k B _ w H (Fits.put f (by simpa [Nat.blt_eq] using ht) (x := .a (.v v)) (show V.rel B (Zf E.r H) (.v v) v from rfl) hgd) m gg
end
theorem ND {n:Nat} {β:Nat→Int} (hn:n≤1048576) (hβ:g0 β):EA Tryz.prog 27 n β:=by
 refine aD Tryz.func27 fun B0 r_ D_ w0=>?_
 refine aE ?_
 refine aP (nk:=[901,902,903]) (E0 hn hβ) fun y y1=>?_
 refine aM ?_
 refine aC (y) [(2,some 33)] ?_ ?_ ?_
 ·exact ZF _
 ·exact wM
 ·exact y1
def yU (t:GTx) (v:Int):GTx:={ t with reads:=t.reads.set 0 { t.reads.getD 0 Y8 with version:=v } }
theorem WY (t:GTx) (v:Int):wTx (yU t v)=wTx t:=by
 unfold wTx yU
 simp only [List.length_set]
theorem vW {α:Type} {w:α→Nat} {z y:α}:∀ (xs:List α) (k:Nat),w y≤w (xs.getD k z)→fC w (xs.set k y)≤fC w xs
 | [],_,_=>Nat.le_refl _
 | x :: r,0,h=>by
  have h:w y≤w x:=by simpa using h
  simp only [List.set_cons_zero,fC];omega
 | x :: r,k+1,h=>by
  have:=vW (z:=z) (y:=y) r k (by simpa using h)
  simp only [List.set_cons_succ,fC];omega
theorem OS {c:GCluster} (h:nA c) (i:Nat) (v:Int):nA { c with txs:=c.txs.set i (yU (c.txs.getD i Y5) v) }:=by
 have hs:=vW (w:=wTx) (z:=Y5) c.txs i (y:=yU (c.txs.getD i Y5) v) (Nat.le_of_eq (WY _ _))
 refine ⟨?_,fun t ht=>?_⟩
 ·have:=h.1
  unfold iR wL at this ⊢
  simp only [List.length_set]
  omega
 ·rcases List.mem_or_eq_of_mem_set ht with h1 | h1
  ·exact h.2 t h1
  ·subst h1
   show 0≤(c.txs.getD i Y5).id∧(c.txs.getD i Y5).id≤1000001
   by_cases hi:i<c.txs.length
   ·exact h.2 _ (bY (z:=Y5) hi)
   ·rw [show c.txs.getD i Y5=Y5 from by simp [hi]];exact ⟨by decide,by decide⟩
set_option maxHeartbeats 1000000 in
theorem tO {n:Nat} {β:Nat→Int} (hn:n≤1048576) (hβ:g0 β):EA Tryz.prog 29 n β:=by
 refine aD Tryz.func29 fun B0 r_ D_ w0=>?_
 refine aE ?_
 refine aP (BT hn hβ) fun h0 _=>?_
 refine aM ?_
 refine aP (nk:=[700,61,62,63]) (ZG 901 61 (ZG 902 62 (ZG 903 63 (CV hn hβ 0 h0 (Int.le_refl _) (Int.natCast_nonneg _))))) fun y ⟨y1,y2,y3⟩=>?_
 obtain ⟨k,i1,i2⟩:=y
 dsimp only at y1 y2 y3 ⊢
 have ht:k.txs.length≤60000:=by have:=y1.1;unfold iR wL at this;omega
 refine aM ?_
 refine aP (dX hn hβ i1 i2 y2 y3 5) fun a ⟨a1,a2,a3⟩=>?_
 refine aM ?_
 refine dC (ι:=GCluster) (fun _=>[]) (fun y=>(4, .row (qB y 61 62 63)) :: muD y 61 62 63) (fun y=>nA y) [4,700,61,62,63] [61,62,63] rfl rfl ?_ ?_
 ·refine aA (fun e=>?_) (fun _=>?_)
  rotate_left
  ·refine aE ?_
   exact aK k y1 Nat.zero_lt_one
  have hpos:0<k.txs.length:=by
   cases ha:a.1 with
   | false=>rw [ha] at e;cases e
   | true=>rw [ha] at e;have:=of_decide_eq_true e;omega
  refine aE ?_
  refine aW [700] [0,1,2,3,4,5,6,7,8] fun B0 H0=>?_
  refine aX 6 (bI hn hβ a.2.1 a.2.2 a2 a3 k.txs.length) fun b ⟨b1,b2,b3⟩=>?_
  refine aY [7,8] ?_
  refine aN ?_
  have hbl:0≤b.1∧b.1<(k.txs.length:Int):=by omega
  refine aH (fun e2=>?_) (fun _=>?_)
  rotate_left
  ·refine aE ?_
   exact aK k y1 Nat.zero_lt_one
  generalize hT:k.txs.getD b.1.toNat Y5=t at e2
  have hrl:0<t.reads.length:=by omega
  refine a9 (d6 63 b.1 77 rfl rfl rfl rfl rfl rfl hbl) ?_
  rw [hT]
  refine a9 (aV 77 4 78) ?_
  refine a9 (j6 5 rfl rfl rfl) ?_
  refine aE ?_
  refine aW [78] [0,1,2,3,4,5,6,7,8,9,10,11,12,13,14] fun B0 H0=>?_
  refine bB 8 rfl (by kernel_rfl) (a8 (bA ?_))
  refine bB 9 rfl (by kernel_rfl) (a8 (bA ?_))
  refine bB 10 rfl (by kernel_rfl) (a8 (bA ?_))
  refine bB 11 rfl (by kernel_rfl) (N2 TT_ok rfl rfl rfl rfl rfl rfl (bA ?_))
  refine bB 12 rfl (by kernel_rfl) (a8 (bA ?_))
  refine bB 13 rfl (by kernel_rfl) (a8 (bA ?_))
  refine bB 14 rfl (by kernel_rfl) (aR (bA ?_))
  refine aN ?_
  refine bC (fI 78 (c':=bE 5 cR Y8 (yU t (lK ((t.reads.getD 0 Y8).version+1))).reads) rfl (bS (xs:=t.reads) (enc:=cR) (z:=Y8) (k:=0) (y:={ t.reads.getD 0 Y8 with version:=lK ((t.reads.getD 0 Y8).version+1) }) (OwnI.refl _)) rfl) ?_
  refine bC (a7 77 4 78) ?_
  refine bC (aZ 63 77) ?_
  have hd:=OS y1 b.1.toNat (lK ((t.reads.getD 0 Y8).version+1))
  rw [hT] at hd
  exact bF { k with txs:=k.txs.set b.1.toNat (yU t (lK ((t.reads.getD 0 Y8).version+1))) } hd Nat.zero_lt_one wF ⟨⟨_,rfl,ZE _⟩,⟨_,rfl,ZE _⟩,⟨_,rfl,ZE _⟩,⟨_,rfl,bS (y:=yU t (lK ((t.reads.getD 0 Y8).version+1))) (OwnI.refl _)⟩,wM⟩
 intro k y1
 refine aT ?_
 refine a9 (bH 61 901) ?_
 refine a9 (bH 62 902) ?_
 refine a9 (bH 63 903) ?_
 refine aC (k) [(2,some 33)] ?_ ?_ ?_
 ·exact ZF _
 ·exact wM
 ·exact y1
def x6 (x:GCopy) (v:Int):GCopy:={ x with cells:=x.cells.set 0 { x.cells.getD 0 Y9 with head:=v } }
def sW (m:GMachine) (v:Int):GMachine:={ m with copies:=m.copies.set 0 (x6 (m.copies.getD 0 ZA) v) }
theorem WM (x:GCopy) (v:Int):sP (x6 x v)=sP x:=by
 unfold sP x6
 simp only [List.length_set]
theorem W6 (m:GMachine) (v:Int):eO (sW m v)≤eO m:=by
 have hs:=vW (w:=sP) (z:=ZA) m.copies 0 (y:=x6 (m.copies.getD 0 ZA) v) (Nat.le_of_eq (WM _ _))
 unfold eO sW wL
 simp only [List.length_set]
 omega
theorem MN {c:GCluster} (h:nA c) (v:Int):nA { c with machines:=c.machines.set 0 (sW (c.machines.getD 0 Y4) v) }:=by
 have hs:=vW (w:=eO) (z:=Y4) c.machines 0 (y:=sW (c.machines.getD 0 Y4) v) (W6 _ _)
 refine ⟨?_,h.2⟩
 have:=h.1
 unfold iR wL at this ⊢
 simp only [List.length_set]
 omega
theorem PA {a b c:Bool} (h:(bif bif bif true then a else false then b else false then c else false)=true):a=true∧b=true∧c=true:=by
 cases a <;>cases b <;>cases c <;>simp_all
set_option maxHeartbeats 1000000 in
theorem KO {n:Nat} {β:Nat→Int} (hn:n≤1048576) (hβ:g0 β):EA Tryz.prog 30 n β:=by
 refine aD Tryz.func30 fun B0 r_ D_ w0=>?_
 refine aE ?_
 refine aP (BT hn hβ) fun h0 _=>?_
 refine aM ?_
 refine aP (nk:=[61,62,63]) (ZG 901 61 (ZG 902 62 (ZG 903 63 (tO hn hβ)))) fun k y1=>?_
 refine aM ?_
 refine aP (nk:=[700]) (dX hn hβ 0 h0 (Int.le_refl _) (Int.natCast_nonneg _) 5) fun a ⟨a1,a2,a3⟩=>?_
 refine aM ?_
 refine dC (ι:=GCluster) (fun _=>[]) (fun y=>(4, .row (qB y 61 62 63)) :: muD y 61 62 63) (fun y=>nA y) [4,700,61,62,63] [61,62,63] rfl rfl ?_ ?_
 ·refine aA (fun e=>?_) (fun _=>?_)
  rotate_left
  ·refine aE ?_
   exact aK k y1 Nat.zero_lt_one
  have hpos:0<k.machines.length∧0<(k.machines.getD 0 Y4).copies.length∧0<((k.machines.getD 0 Y4).copies.getD 0 ZA).cells.length:=by
   cases ha:a.1 with
   | false=>rw [ha] at e;cases e
   | true =>
    rw [ha] at e
    have e:=PA e
    obtain ⟨q1,q2,q3⟩:=e
    have q1:=of_decide_eq_true q1
    have q2:=of_decide_eq_true q2
    have q3:=of_decide_eq_true q3
    exact ⟨by omega,Int.ofNat_lt.1 q2,Int.ofNat_lt.1 q3⟩
  obtain ⟨q1,q2,q3⟩:=hpos
  generalize hM:k.machines.getD 0 Y4=m at q2 q3
  generalize hC:m.copies.getD 0 ZA=cp at q3
  refine a9 (d6 62 0 77 rfl rfl rfl rfl rfl rfl ⟨Int.le_refl _,by omega⟩) ?_
  rw [show k.machines.getD (0:Int).toNat Y4=m from hM]
  refine a9 (aV 77 1 78) ?_
  refine a9 (d6 78 0 79 rfl rfl rfl rfl rfl rfl ⟨Int.le_refl _,by omega⟩) ?_
  rw [show m.copies.getD (0:Int).toNat ZA=cp from hC]
  refine a9 (aV 79 1 80) ?_
  refine FG ?_
  refine uR ?_
  iterate 3 refine iX (a8 (jS ?_))
  refine cK (j6 41 rfl rfl rfl) ?_
  iterate 3 refine iX (a8 (jS ?_))
  refine cK (j6 44 rfl rfl rfl) ?_
  iterate 4 refine iX (a8 (jS ?_))
  refine RJ_T ?_
  refine uR ?_
  iterate 5 refine iX (a8 (jS ?_))
  refine iX (N2 TT_ok rfl rfl rfl rfl rfl rfl (jS ?_))
  refine aM ?_
  have hd:=MN y1 (lK ((cp.cells.getD 0 Y9).head+4))
  rw [hM] at hd
  generalize hv:lK ((cp.cells.getD 0 Y9).head+4)=v at hd
  have hm:sW m v = { m with copies:=m.copies.set 0 (x6 cp v) }:=by unfold sW;rw [hC]
  refine bC (fI 80 (c':=bE 2 cQ Y9 (x6 cp v).cells) rfl (by rw [← hv];exact bS (xs:=cp.cells) (enc:=cQ) (z:=Y9) (k:=0) (y:={ cp.cells.getD 0 Y9 with head:=lK ((cp.cells.getD 0 Y9).head+4) }) (OwnI.refl _)) rfl) ?_
  refine bC (a7 79 1 80) ?_
  refine bC (aZ 78 79) ?_
  refine bC (fI 78 (c':=bE 2 dY ZA (sW m v).copies) rfl (by rw [hm];exact bS (xs:=m.copies) (enc:=dY) (z:=ZA) (k:=0) (y:=x6 cp v) (OwnI.refl _)) rfl) ?_
  refine bC (a7 77 1 78) ?_
  refine bC (aZ 62 77) ?_
  exact bF { k with machines:=k.machines.set 0 (sW m v) } hd Nat.zero_lt_one wF ⟨⟨_,rfl,ZE _⟩,⟨_,rfl,ZE _⟩,⟨_,rfl,bS (y:=sW m v) (OwnI.refl _)⟩,⟨_,rfl,ZE _⟩,wM⟩
 intro k y1
 refine aT ?_
 refine a9 (bH 61 901) ?_
 refine a9 (bH 62 902) ?_
 refine a9 (bH 63 903) ?_
 refine aC (k) [(2,some 33)] ?_ ?_ ?_
 ·exact ZF _
 ·exact wM
 ·exact y1
theorem M1 {n:Nat} {β:Nat→Int} (hn:n≤1048576) (hβ:g0 β):YN Tryz.prog 31 n β:=by
 refine aD Tryz.func31 fun B0 r_ D_ w0=>?_
 refine aE ?_
 refine aP (BT hn hβ) fun h0 _=>?_
 refine aM ?_
 refine aP (nk:=[901,902,903]) (tO hn hβ) fun k y1=>?_
 refine aM ?_
 refine dZ (nk:=[700]) TT_ok (tJ hn hβ 0 h0 (Int.le_refl _) (Int.natCast_nonneg _) (-1) 3 (by decide) (by decide) (by decide)) rfl rfl (ZF _) (fun _=>rfl) rfl rfl rfl fun z ⟨z1,z2,z3⟩=>?_
 refine aM ?_
 refine aC ((k,z.1)) [(2,some 33),(3,none)] ?_ ?_ ?_
 ·exact ZF _
 ·exact wM
 ·exact y1
end
section
section
variable {α:Type} {z:α} {key idx:α→Int}
def lx (key idx:α→Int) (x y:α):Prop:=key x<key y∨key x=key y∧idx x<idx y
def srt (key idx:α→Int) (z:α) (xs:List α) (a b:Nat):Prop := ∀ i j,a≤i→i<j→j<b→lx key idx (xs.getD i z) (xs.getD j z)
def low (idx:α→Int) (z:α) (xs:List α) (a m b:Nat):Prop := ∀ i j,a≤i→i<m→m≤j→j<b→idx (xs.getD i z)<idx (xs.getD j z)
theorem lx.of {x y:α} (h:key x≤key y) (k:idx x<idx y):lx key idx x y:=by
 unfold lx;omega
theorem BK {x y:α} (h:lx key idx x y):key x≤key y:=by
 unfold lx at h;omega
structure pm (z:α) (xs ys:List α) (a b:Nat):Prop where
 perm:ys.Perm xs
 out:∀ k,(k<a∨b≤k)→ys.getD k z=xs.getD k z
 mem:∀ k,a≤k→k<b→∃ k',a≤k'∧k'<b∧ys.getD k z=xs.getD k' z
theorem pm.refl (xs:List α) (a b:Nat):pm z xs xs a b:=⟨List.Perm.refl _,fun _ _=>rfl,fun k h1 h2=>⟨k,h1,h2,rfl⟩⟩
theorem pm.len {xs ys:List α} {a b:Nat} (h:pm z xs ys a b):ys.length=xs.length:=h.perm.length_eq
theorem pm.trans {xs ys ws:List α} {a b:Nat} (h:pm z xs ys a b) (k:pm z ys ws a b):pm z xs ws a b:=⟨k.perm.trans h.perm,fun i hi=>(k.out i hi).trans (h.out i hi),fun i h1 h2=>by
 obtain ⟨j,j1,j2,j3⟩:=k.mem i h1 h2
 obtain ⟨l,l1,l2,l3⟩:=h.mem j j1 j2
 exact ⟨l,l1,l2,j3.trans l3⟩⟩
theorem pm.sub {xs ys:List α} {a b a' b':Nat} (h:pm z xs ys a' b') (ha:a≤a') (hb:b'≤b):pm z xs ys a b:=⟨h.perm,fun k hk=>h.out k (by omega),fun k h1 h2=>by
 by_cases c:a'≤k∧k<b'
 ·obtain ⟨j,j1,j2,j3⟩:=h.mem k c.1 c.2
  exact ⟨j,by omega,by omega,j3⟩
 ·exact ⟨k,h1,h2,h.out k (by omega)⟩⟩
def swp (z:α) (xs:List α) (i j:Nat):List α:=(xs.set i (xs.getD j z)).set j (xs.getD i z)
theorem tD {xs:List α} {i j:Nat} (hi:i<xs.length) (hj:j<xs.length) (k:Nat):(swp z xs i j).getD k z=if k=j then xs.getD i z else if k=i then xs.getD j z else xs.getD k z:=by
 unfold swp
 rw [gW (by rw [List.length_set];exact hj)]
 split
 ·rfl
 ·rw [gW hi]
theorem pY {xs:List α} {i j a b:Nat} (hi:a≤i∧i<b) (hj:a≤j∧j<b) (hb:b≤xs.length):pm z xs (swp z xs i j) a b:=by
 have h1:i<xs.length:=by omega
 have h2:j<xs.length:=by omega
 refine ⟨?_,fun k hk=>?_,fun k k1 k2=>?_⟩
 ·have:=@List.set_set_perm _ xs i j h1 h2
  unfold swp
  rw [show xs.getD j z=xs[j] from by simp [h2],show xs.getD i z=xs[i] from by simp [h1]]
  exact this
 ·rw [tD h1 h2,if_neg (by omega),if_neg (by omega)]
 ·rw [tD h1 h2]
  by_cases c:k=j
  ·rw [if_pos c];exact ⟨i,hi.1,hi.2,rfl⟩
  ·rw [if_neg c]
   by_cases c2:k=i
   ·rw [if_pos c2];exact ⟨j,hj.1,hj.2,rfl⟩
   ·rw [if_neg c2];exact ⟨k,k1,k2,rfl⟩
structure lY (z:α) (xs ys:List α) (a m b:Nat):Prop where
 pm:pm z xs ys a b
 lo:∀ k,k<b - m→ys.getD (a+k) z=xs.getD (m+k) z
 hi:∀ k,k<m - a→ys.getD (a+(b - m)+k) z=xs.getD (a+k) z
structure YV (key idx:α→Int) (z:α) (ys:List α) (a s mid e b:Nat):Prop where
 s1:srt key idx z ys a s
 s2:srt key idx z ys s mid
 s3:srt key idx z ys mid e
 s4:srt key idx z ys e b
 l1:low idx z ys a s mid
 l2:low idx z ys mid e b
 cross:∀ i j,a≤i→i<mid→mid≤j→j<b→lx key idx (ys.getD i z) (ys.getD j z)
theorem LA {xs ys:List α} {a s m e b:Nat} (h1:a≤s) (h2:s≤m) (h3:m≤e) (h4:e≤b) (hr:lY z xs ys s m e) (hl:srt key idx z xs a m) (hh:srt key idx z xs m b) (hlo:low idx z xs a m b)
  (c1:∀ i j,a≤i→i<s→e≤j→j<b→key (xs.getD i z)≤key (xs.getD j z)) (c2:∀ i j,m≤i→i<e→s≤j→j<m→key (xs.getD i z)<key (xs.getD j z)):YV key idx z ys a s (s+(e - m)) e b:=by
 have g1:∀ i,i<s→ys.getD i z=xs.getD i z:=fun i hi=>hr.pm.out i (.inl hi)
 have g2:∀ i,s≤i→i<s+(e - m)→ys.getD i z=xs.getD (m+(i - s)) z:=fun i q1 q2=>by
  have:=hr.lo (i - s) (by omega)
  rw [show s+(i - s)=i by omega] at this;exact this
 have g3:∀ i,s+(e - m)≤i→i<e→ys.getD i z=xs.getD (s+(i - (s+(e - m)))) z:=fun i q1 q2=>by
  have:=hr.hi (i - (s+(e - m))) (by omega)
  rw [show s+(e - m)+(i - (s+(e - m)))=i by omega] at this;exact this
 have g4:∀ i,e≤i→ys.getD i z=xs.getD i z:=fun i hi=>hr.pm.out i (.inr hi)
 refine ⟨fun i j q1 q2 q3=>?_,fun i j q1 q2 q3=>?_,fun i j q1 q2 q3=>?_,fun i j q1 q2 q3=>?_,fun i j q1 q2 q3 q4=>?_,fun i j q1 q2 q3 q4=>?_,fun i j q1 q2 q3 q4=>?_⟩
 ·rw [g1 i (by omega),g1 j q3];exact hl i j q1 q2 (by omega)
 ·rw [g2 i q1 (by omega),g2 j (by omega) q3];exact hh _ _ (by omega) (by omega) (by omega)
 ·rw [g3 i q1 (by omega),g3 j (by omega) q3];exact hl _ _ (by omega) (by omega) (by omega)
 ·rw [g4 i q1,g4 j (by omega)];exact hh i j (by omega) q2 q3
 ·rw [g1 i q2,g2 j q3 q4];exact hlo _ _ q1 (by omega) (by omega) (by omega)
 ·rw [g3 i q1 q2,g4 j q3];exact hlo _ _ (by omega) (by omega) (by omega) (by omega)
 ·by_cases k1:i<s
  ·rw [g1 i k1]
   by_cases k2:j<e
   ·rw [g3 j q3 k2];exact hl _ _ q1 (by omega) (by omega)
   ·rw [g4 j (by omega)];exact lx.of (c1 i j q1 k1 (by omega) q4) (hlo i j q1 (by omega) (by omega) q4)
  ·rw [g2 i (by omega) q2]
   by_cases k2:j<e
   ·rw [g3 j q3 k2];exact .inl (c2 _ _ (by omega) (by omega) (by omega) (by omega))
   ·rw [g4 j (by omega)];exact hh _ _ (by omega) (by omega) q4
theorem PL {ys ws:List α} {a mid b:Nat} (h1:a≤mid) (h2:mid≤b) (hc:∀ i j,a≤i→i<mid→mid≤j→j<b→lx key idx (ys.getD i z) (ys.getD j z)) {us:List α} (p1:pm z ys us a mid) (q1:srt key idx z us a mid) (p2:pm z us ws mid b) (q2:srt key idx z ws mid b):srt key idx z ws a b∧pm z ys ws a b:=by
 refine ⟨fun i j k1 k2 k3=>?_,(p1.sub (Nat.le_refl _) h2).trans (p2.sub h1 (Nat.le_refl _))⟩
 by_cases c1:j<mid
 ·rw [p2.out i (.inl (by omega)),p2.out j (.inl c1)];exact q1 i j k1 k2 c1
 ·by_cases c2:mid≤i
  ·exact q2 i j c2 k2 k3
  ·rw [p2.out i (.inl (by omega))]
   obtain ⟨i',i1,i2,i3⟩:=p1.mem i k1 (by omega)
   obtain ⟨j',j1,j2,j3⟩:=p2.mem j (by omega) k3
   rw [i3,j3,p1.out j' (.inr j1)]
   exact hc i' j' i1 i2 j1 j2
theorem base1 {xs ys:List α} {a b i:Nat} (h1:a+1≤i) (h2:i≤b) (hh:srt key idx z xs (a+1) b) (hlo:low idx z xs a (a+1) b) (k1:∀ k,a+1≤k→k<i→key (xs.getD k z)<key (xs.getD a z)) (k2:∀ k,i≤k→k<b→¬ key (xs.getD k z)<key (xs.getD a z)) (hr:lY z xs ys a (a+1) i):srt key idx z ys a b:=by
 have H:=LA (key:=key) (idx:=idx) (Nat.le_refl a) (by omega) h1 h2 hr (fun p q q1 q2 q3=>by omega) hh hlo (fun p q q1 q2=>by omega) (fun p q q1 q2 q3 q4=>by
  have:q=a:=by omega
  subst this
  exact k1 p q1 q2)
 have hm:srt key idx z ys (a+(i - (a+1))) b:=fun p q q1 q2 q3=>by
  by_cases c:p<i
  ·have e:ys.getD p z=xs.getD a z:=by
    have:=hr.hi 0 (by omega)
    rw [show a+(i - (a+1))+0=p by omega] at this;exact this
   rw [e,hr.pm.out q (.inr (by omega))]
   exact lx.of (by have:=k2 q (by omega) q3;omega) (hlo a q (Nat.le_refl _) (by omega) (by omega) q3)
  ·exact H.s4 p q (by omega) q2 q3
 exact (PL (by omega) (by omega) H.cross (pm.refl ys a _) H.s2 (pm.refl ys _ b) hm).1
theorem base2 {xs ys:List α} {a m i:Nat} (h1:a≤i) (h2:i≤m) (hl:srt key idx z xs a m) (hlo:low idx z xs a m (m+1)) (k1:∀ k,a≤k→k<i→¬ key (xs.getD m z)<key (xs.getD k z)) (k2:∀ k,i≤k→k<m→key (xs.getD m z)<key (xs.getD k z)) (hr:lY z xs ys i m (m+1)):srt key idx z ys a (m+1):=by
 have H:=LA (key:=key) (idx:=idx) h1 h2 (by omega) (Nat.le_refl _) hr hl (fun p q q1 q2 q3=>by omega) hlo (fun p q q1 q2 q3 q4=>by omega) (fun p q q1 q2 q3 q4=>by
  have:p=m:=by omega
  subst this
  exact k2 q q3 q4)
 have hm:srt key idx z ys a (i+(m+1 - m)):=fun p q q1 q2 q3=>by
  by_cases c:q<i
  ·exact H.s1 p q q1 q2 c
  ·have e:ys.getD q z=xs.getD m z:=by
    have:=hr.lo 0 (by omega)
    rw [show i+0=q by omega,show m+0=m by omega] at this;exact this
   rw [e,hr.pm.out p (.inl (by omega))]
   exact lx.of (by have:=k1 p q1 (by omega);omega) (hlo p m q1 (by omega) (Nat.le_refl _) (by omega))
 exact (PL (by omega) (by omega) H.cross (pm.refl ys a _) hm (pm.refl ys _ (m+1)) H.s3).1
theorem RY {xs:List α} {a m b n start:Nat} (ham:a<m) (hmb:m<b) (hn:n=(a+b) / 2+m) (hl:srt key idx z xs a m) (hh:srt key idx z xs m b) (hs:(if m > (a+b) / 2 then n - b else a)≤start) (hs2:start≤(if m > (a+b) / 2 then (a+b) / 2 else m))
  (k1:∀ c,(if m > (a+b) / 2 then n - b else a)≤c→c<start→key (xs.getD c z)≤key (xs.getD (n - 1 - c) z)) (k2:∀ c,start≤c→c<(if m > (a+b) / 2 then (a+b) / 2 else m)→key (xs.getD (n - 1 - c) z)<key (xs.getD c z)) :
  (a≤start∧start≤m∧m≤n - start∧n - start≤b∧start+(n - start - m)=(a+b) / 2)∧(∀ i j,a≤i→i<start→n - start≤j→j<b→key (xs.getD i z)≤key (xs.getD j z))∧∀ i j,m≤i→i<n - start→start≤j→j<m→key (xs.getD i z)<key (xs.getD j z):=by
 have hmid:2 * ((a+b) / 2)≤a+b∧a+b≤2 * ((a+b) / 2)+1:=by omega
 generalize (a+b) / 2=mid at *
 subst hn
 have key1:∀ i j,a≤i→i≤j→j<m→key (xs.getD i z)≤key (xs.getD j z):=fun i j q1 q2 q3=>by
  by_cases e:i=j
  ·subst e;exact Int.le_refl _
  ·exact BK (hl i j q1 (by omega) q3)
 have key2:∀ i j,m≤i→i≤j→j<b→key (xs.getD i z)≤key (xs.getD j z):=fun i j q1 q2 q3=>by
  by_cases e:i=j
  ·subst e;exact Int.le_refl _
  ·exact BK (hh i j q1 (by omega) q3)
 by_cases c:m > mid
 ·rw [if_pos c] at hs hs2 k1 k2
  refine ⟨by omega,fun i j q1 q2 q3 q4=>?_,fun i j q1 q2 q3 q4=>?_⟩
  ·have h:=k1 (start - 1) (by omega) (by omega)
   have e1:=key1 i (start - 1) q1 (by omega) (by omega)
   have e2:=key2 (mid+m - 1 - (start - 1)) j (by omega) (by omega) q4
   omega
  ·have h:=k2 start (Nat.le_refl _) (by omega)
   have e1:=key1 start j (by omega) q3 q4
   have e2:=key2 i (mid+m - 1 - start) q1 (by omega) (by omega)
   omega
 ·rw [if_neg c] at hs hs2 k1 k2
  refine ⟨by omega,fun i j q1 q2 q3 q4=>?_,fun i j q1 q2 q3 q4=>?_⟩
  ·have h:=k1 (start - 1) (by omega) (by omega)
   have e1:=key1 i (start - 1) q1 (by omega) (by omega)
   have e2:=key2 (mid+m - 1 - (start - 1)) j (by omega) (by omega) q4
   omega
  ·have h:=k2 start (Nat.le_refl _) (by omega)
   have e1:=key1 start j (by omega) q3 q4
   have e2:=key2 i (mid+m - 1 - start) q1 (by omega) (by omega)
   omega
end
end
section
section
variable {α:Type} {z:α} {key idx:α→Int}
structure isSwap (z:α) (xs ys:List α) (p q n:Nat):Prop where
 perm:ys.Perm xs
 out:∀ k,¬ (p≤k∧k<p+n)→¬ (q≤k∧k<q+n)→ys.getD k z=xs.getD k z
 fst:∀ k,k<n→ys.getD (p+k) z=xs.getD (q+k) z
 snd:∀ k,k<n→ys.getD (q+k) z=xs.getD (p+k) z
theorem isSwap.zero (xs:List α) (p q:Nat):isSwap z xs xs p q 0:=⟨List.Perm.refl _,fun _ _ _=>rfl,fun k hk=>absurd hk (Nat.not_lt_zero _),fun k hk=>absurd hk (Nat.not_lt_zero _)⟩
theorem isSwap.succ {xs ys:List α} {p q n:Nat} (h:isSwap z xs ys p q n) (hpq:p+n<q) (hq:q+n<xs.length):isSwap z xs (swp z ys (p+n) (q+n)) p q (n+1):=by
 have hl:ys.length=xs.length:=h.perm.length_eq
 have g:=tD (z:=z) (xs:=ys) (i:=p+n) (j:=q+n) (by omega) (by omega)
 have e1:ys.getD (p+n) z=xs.getD (p+n) z:=h.out _ (by omega) (by omega)
 have e2:ys.getD (q+n) z=xs.getD (q+n) z:=h.out _ (by omega) (by omega)
 refine ⟨(pY (z:=z) (a:=0) (b:=ys.length) (by omega) (by omega) (Nat.le_refl _)).perm.trans h.perm,fun k k1 k2=>?_,fun k hk=>?_,fun k hk=>?_⟩
 ·rw [g,if_neg (by omega),if_neg (by omega)];exact h.out k (by omega) (by omega)
 ·rw [g,if_neg (by omega)]
  by_cases c:k=n
  ·subst c;rw [if_pos rfl,e2]
  ·rw [if_neg (by omega)];exact h.fst k (by omega)
 ·rw [g]
  by_cases c:k=n
  ·subst c;rw [if_pos rfl,e1]
  ·rw [if_neg (by omega),if_neg (by omega)];exact h.snd k (by omega)
theorem isSwap.pm {xs ys:List α} {p q n a b:Nat} (h:isSwap z xs ys p q n) (h1:a≤p) (h2:p+n≤q) (h3:q+n≤b):pm z xs ys a b:=⟨h.perm,fun k hk=>h.out k (by omega) (by omega),fun k k1 k2=>by
 by_cases c1:p≤k∧k<p+n
 ·have:=h.fst (k - p) (by omega)
  rw [show p+(k - p)=k by omega] at this
  exact ⟨q+(k - p),by omega,by omega,this⟩
 ·by_cases c2:q≤k∧k<q+n
  ·have:=h.snd (k - q) (by omega)
   rw [show q+(k - q)=k by omega] at this
   exact ⟨p+(k - q),by omega,by omega,this⟩
  ·exact ⟨k,k1,k2,h.out k c1 c2⟩⟩
structure RotI (z:α) (xs ys:List α) (a m b i j:Nat):Prop where
 pm:pm z xs ys a b
 le:a+i≤m∧m+j≤b
 t1:∀ k,a≤k→k<m - i→ys.getD k z=(if k<a+(b - m) then xs.getD (m+(k - a)) z else xs.getD (a+(k - (a+(b - m)))) z)
 t2:∀ k,m+j≤k→k<b→ys.getD k z=(if k<a+(b - m) then xs.getD (m+(k - a)) z else xs.getD (a+(k - (a+(b - m)))) z)
 t3:∀ k,k<j→ys.getD (m+k) z=(if m - i+k<a+(b - m) then xs.getD (m+(m - i+k - a)) z else xs.getD (a+(m - i+k - (a+(b - m)))) z)
 t4:∀ k,k<i→ys.getD (m - i+k) z=(if m - i+j+k<a+(b - m) then xs.getD (m+(m - i+j+k - a)) z else xs.getD (a+(m - i+j+k - (a+(b - m)))) z)
theorem RotI.first {xs:List α} {a m b:Nat} (h1:a≤m) (h2:m≤b):RotI z xs xs a m b (m - a) (b - m):=by
 refine ⟨pm.refl _ _ _,by omega,fun k k1 k2=>by omega,fun k k1 k2=>by omega,fun k hk=>?_,fun k hk=>?_⟩
 ·rw [if_pos (by omega)];congr 1;omega
 ·rw [if_neg (by omega)];congr 1;omega
theorem RotI.left {xs ys ws:List α} {a m b i j:Nat} (h:RotI z xs ys a m b i j) (hij:j<i) (hs:isSwap z ys ws (m - i) m j):RotI z xs ws a m b (i - j) j:=by
 have hle:=h.le
 refine ⟨h.pm.trans (hs.pm (by omega) (by omega) (by omega)),by omega,fun k k1 k2=>?_,fun k k1 k2=>?_,fun k hk=>?_,fun k hk=>?_⟩
 ·by_cases c:k<m - i
  ·rw [hs.out k (by omega) (by omega)];exact h.t1 k k1 c
  ·have:=hs.fst (k - (m - i)) (by omega)
   rw [show m - i+(k - (m - i))=k by omega] at this
   rw [this]
   have:=h.t3 (k - (m - i)) (by omega)
   rw [show m - i+(k - (m - i))=k by omega] at this
   exact this
 ·rw [hs.out k (by omega) (by omega)];exact h.t2 k k1 k2
 ·rw [hs.snd k hk]
  have:=h.t4 k (by omega)
  rw [this,show m - (i - j)+k=m - i+j+k by omega]
 ·rw [show m - (i - j)+k=m - i+(j+k) by omega,hs.out _ (by omega) (by omega),h.t4 (j+k) (by omega),show m - i+j+(j+k)=m - (i - j)+j+k by omega]
theorem RotI.right {xs ys ws:List α} {a m b i j:Nat} (h:RotI z xs ys a m b i j) (hij:i<j) (hs:isSwap z ys ws (m - i) (m+j - i) i):RotI z xs ws a m b i (j - i):=by
 have hle:=h.le
 refine ⟨h.pm.trans (hs.pm (by omega) (by omega) (by omega)),by omega,fun k k1 k2=>?_,fun k k1 k2=>?_,fun k hk=>?_,fun k hk=>?_⟩
 ·rw [hs.out k (by omega) (by omega)];exact h.t1 k k1 k2
 ·by_cases c:k<m+j
  ·have:=hs.snd (k - (m+j - i)) (by omega)
   rw [show m+j - i+(k - (m+j - i))=k by omega] at this
   rw [this]
   have:=h.t4 (k - (m+j - i)) (by omega)
   rw [show m - i+j+(k - (m+j - i))=k by omega] at this
   exact this
  ·rw [hs.out k (by omega) (by omega)];exact h.t2 k (by omega) k2
 ·rw [hs.out _ (by omega) (by omega)];exact h.t3 k (by omega)
 ·rw [hs.fst k hk]
  have:=h.t3 (j - i+k) (by omega)
  rw [show m+(j - i+k)=m+j - i+k by omega] at this
  rw [this,show m - i+(j - i+k)=m - i+(j - i)+k by omega]
theorem RotI.last {xs ys ws:List α} {a m b i:Nat} (hm:a≤m∧m≤b) (h:RotI z xs ys a m b i i) (hs:isSwap z ys ws (m - i) m i):lY z xs ws a m b:=by
 have hle:=h.le
 have hall:∀ k,a≤k→k<b→ws.getD k z=(if k<a+(b - m) then xs.getD (m+(k - a)) z else xs.getD (a+(k - (a+(b - m)))) z):=fun k k1 k2=>by
  by_cases c1:k<m - i
  ·rw [hs.out k (by omega) (by omega)];exact h.t1 k k1 c1
  ·by_cases c2:k<m
   ·have e:=hs.fst (k - (m - i)) (by omega)
    rw [show m - i+(k - (m - i))=k by omega] at e
    rw [e]
    have:=h.t3 (k - (m - i)) (by omega)
    rw [show m - i+(k - (m - i))=k by omega] at this
    exact this
   ·by_cases c3:k<m+i
    ·have e:=hs.snd (k - m) (by omega)
     rw [show m+(k - m)=k by omega] at e
     rw [e]
     have:=h.t4 (k - m) (by omega)
     rw [show m - i+i+(k - m)=k by omega] at this
     exact this
    ·rw [hs.out k (by omega) (by omega)];exact h.t2 k (by omega) k2
 refine ⟨h.pm.trans (hs.pm (by omega) (by omega) (by omega)),fun k hk=>?_,fun k hk=>?_⟩
 ·rw [hall _ (by omega) (by omega),if_pos (by omega),show a+k - a=k by omega]
 ·rw [hall _ (by omega) (by omega),if_neg (by omega),show a+(b - m)+k - (a+(b - m))=k by omega]
structure InsI (key idx:α→Int) (z:α) (ys:List α) (a j i:Nat):Prop where
 s1:∀ p q,a≤p→p<q→q≤i→p≠j→q≠j→lx key idx (ys.getD p z) (ys.getD q z)
 s2:∀ q,j<q→q≤i→key (ys.getD j z)<key (ys.getD q z)
 s3:∀ p,a≤p→p≤i→p≠j→idx (ys.getD p z)<idx (ys.getD j z)
theorem InsI.first {ys:List α} {a i:Nat} (h:srt key idx z ys a i) (hlo:low idx z ys a i (i+1)):InsI key idx z ys a i i:=⟨fun p q p1 p2 p3 p4 p5=>h p q p1 p2 (by omega),fun q q1 q2=>by omega,fun p p1 p2 p3=>hlo p i p1 (by omega) (Nat.le_refl _) (by omega)⟩
theorem InsI.step {ys:List α} {a j i:Nat} (h:InsI key idx z ys a j i) (hj:a<j) (hji:j≤i) (hi:i<ys.length) (hk:key (ys.getD j z)<key (ys.getD (j - 1) z)):InsI key idx z (swp z ys j (j - 1)) a (j - 1) i:=by
 have g:=tD (z:=z) (xs:=ys) (i:=j) (j:=j - 1) (by omega) (by omega)
 have e0:(swp z ys j (j - 1)).getD (j - 1) z=ys.getD j z:=by rw [g,if_pos rfl]
 have e1:(swp z ys j (j - 1)).getD j z=ys.getD (j - 1) z:=by rw [g,if_neg (by omega),if_pos rfl]
 have e2:∀ k,k≠j→k≠j - 1→(swp z ys j (j - 1)).getD k z=ys.getD k z:=fun k k1 k2=>by rw [g,if_neg k2,if_neg k1]
 refine ⟨fun p q p1 p2 p3 p4 p5=>?_,fun q q1 q2=>?_,fun p p1 p2 p3=>?_⟩
 ·by_cases c1:p=j
  ·subst c1
   rw [e1,e2 q (by omega) (by omega)]
   exact h.s1 _ _ (by omega) (by omega) p3 (by omega) (by omega)
  ·rw [e2 p c1 p4]
   by_cases c2:q=j
   ·subst c2;rw [e1];exact h.s1 _ _ p1 (by omega) (by omega) (by omega) (by omega)
   ·rw [e2 q c2 p5];exact h.s1 _ _ p1 p2 p3 c1 c2
 ·rw [e0]
  by_cases c:q=j
  ·subst c;rw [e1];exact hk
  ·rw [e2 q c (by omega)];exact h.s2 q (by omega) q2
 ·rw [e0]
  by_cases c:p=j
  ·subst c;rw [e1];exact h.s3 _ (by omega) (by omega) (by omega)
  ·rw [e2 p c p3];exact h.s3 p p1 p2 c
theorem InsI.stop {ys:List α} {a j i:Nat} (h:InsI key idx z ys a j i) (haj:a≤j) (hji:j≤i) (hk:a<j→¬ key (ys.getD j z)<key (ys.getD (j - 1) z)):srt key idx z ys a (i+1):=fun p q p1 p2 p3=>by
 by_cases c1:p=j
 ·rw [c1];exact .inl (h.s2 q (by omega) (by omega))
 ·by_cases c2:q=j
  ·rw [c2]
   have h1:=hk (by omega)
   have h2:key (ys.getD p z)≤key (ys.getD (j - 1) z):=by
    by_cases c3:p=j - 1
    ·rw [c3];exact Int.le_refl _
    ·exact BK (h.s1 p (j - 1) p1 (by omega) (by omega) (by omega) (by omega))
   exact lx.of (by omega) (h.s3 p p1 (by omega) c1)
  ·exact h.s1 p q p1 p2 (by omega) c1 c2
theorem TQ {xs:List α} (h:srt key idx z xs 0 xs.length):xs.Pairwise (lx key idx):=lG (z:=z) fun a b hab hb=>h a b (Nat.zero_le _) hab hb
theorem RQ {xs ys:List α} (h1:xs.Pairwise (lx key idx)) (h2:ys.Pairwise (lx key idx)) (hp:xs.Perm ys):xs=ys:=List.Perm.eq_of_pairwise (le:=lx key idx) (fun a b _ _ k1 k2=>by unfold lx at k1 k2;omega) h1 h2 hp
end
end
section
section
variable {α:Type} {z:α} {key idx:α→Int}
def lB (key:α→Int) (z t:α) (out:List α):Nat→Nat
 | 0=>0
 | k+1=>if key (out.getD k z) > key t then lB key z t out k else k+1
theorem G4 {t:α} {out:List α}:∀ k,lB key z t out k≤k
 | 0=>Nat.le_refl _
 | k+1=>by
  rw [lB]
  split
  ·exact Nat.le_succ_of_le (G4 k)
  ·exact Nat.le_refl _
theorem EB {t:α} {out:List α}:∀ k j,lB key z t out k≤j→j<k→key t<key (out.getD j z)
 | 0,j,_,h=>absurd h (Nat.not_lt_zero _)
 | k+1,j,h1,h2=>by
  rw [lB] at h1
  split at h1
  ·rename_i c
   by_cases e:j=k
   ·subst e;omega
   ·exact EB k j h1 (by omega)
  ·omega
theorem EJ {t:α} {out:List α}:∀ k,0<lB key z t out k→key (out.getD (lB key z t out k - 1) z)≤key t
 | 0,h=>absurd h (Nat.not_lt_zero _)
 | k+1,h=>by
  rw [lB] at h ⊢
  by_cases c:key (out.getD k z) > key t
  ·rw [if_pos c] at h ⊢;exact EJ k h
  ·rw [if_neg c,Nat.add_sub_cancel];omega
def eP (key:α→Int) (z:α) (p:α→Bool) (xs:List α):Nat→List α
 | 0=>[]
 | i+1=>if p (xs.getD i z)=true then fD (lB key z (xs.getD i z) (eP key z p xs i) (eP key z p xs i).length) (xs.getD i z) (eP key z p xs i) else eP key z p xs i
theorem insL_perm {k:Nat} {x:α} {xs:List α}:(fD k x xs).Perm (x :: xs):=by
 unfold fD
 have h:=List.perm_middle (a:=x) (l₁:=xs.take k) (l₂:=xs.drop k)
 rwa [List.take_append_drop] at h
theorem O2 {t:α} {out:List α} (h:out.Pairwise (lx key idx)) (hi:∀ x ∈ out,idx x<idx t):(fD (lB key z t out out.length) t out).Pairwise (lx key idx):=by
 have hle:=G4 (key:=key) (z:=z) (t:=t) (out:=out) out.length
 have hab:=EB (key:=key) (z:=z) (t:=t) (out:=out) out.length
 have hbe:=EJ (key:=key) (z:=z) (t:=t) (out:=out) out.length
 generalize lB key z t out out.length=k at hle hab hbe
 refine lG (z:=z) fun a b h1 h2=>?_
 rw [gL hle] at h2
 rw [jX hle,jX hle]
 by_cases c1:a<k
 ·rw [if_pos c1]
  by_cases c2:b<k
  ·rw [if_pos c2];exact eV (z:=z) h h1 (by omega)
  ·rw [if_neg c2]
   by_cases c3:b<k+1
   ·rw [if_pos c3]
    have e:=hbe (by omega)
    have e2:key (out.getD a z)≤key (out.getD (k - 1) z):=by
     by_cases c4:a=k - 1
     ·rw [c4];exact Int.le_refl _
     ·exact BK (eV (z:=z) h (a:=a) (b:=k - 1) (by omega) (by omega))
    exact lx.of (by omega) (hi _ (bY (z:=z) (by omega)))
   ·rw [if_neg c3];exact eV (z:=z) h (by omega) (by omega)
 ·rw [if_neg c1,if_neg (show ¬ b<k by omega),if_neg (show ¬ b<k+1 by omega)]
  by_cases c2:a<k+1
  ·rw [if_pos c2];exact .inl (hab (b - 1) (by omega) (by omega))
  ·rw [if_neg c2];exact eV (z:=z) h (by omega) (by omega)
theorem BU {p:α→Bool} {xs:List α} (hx:∀ i j,i<j→j<xs.length→idx (xs.getD i z)<idx (xs.getD j z)):∀ n,n≤xs.length→(eP key z p xs n).Pairwise (lx key idx)∧(eP key z p xs n).Perm ((xs.take n).filter p)
 | 0,_=>⟨List.Pairwise.nil,List.Perm.refl _⟩
 | n+1,hn=>by
  obtain ⟨h1,h2⟩:=BU (p:=p) hx n (by omega)
  rw [eP,b7 (z:=z) (by omega),List.filter_append]
  by_cases c:p (xs.getD n z)=true
  ·rw [if_pos c]
   have e:[xs.getD n z].filter p=[xs.getD n z]:=by simp only [List.filter,c]
   rw [e]
   refine ⟨O2 h1 fun x hm=>?_,insL_perm.trans ((List.Perm.cons _ h2).trans (List.perm_append_singleton _ _).symm)⟩
   have hm2:=(List.mem_filter.1 (h2.mem_iff.1 hm)).1
   obtain ⟨i,hi,e2⟩:=List.mem_iff_getElem.1 hm2
   have hi2:=hi
   rw [List.length_take] at hi2
   rw [List.getElem_take] at e2
   have e3:xs.getD i z=x:=by rw [← e2];simp [List.getD_eq_getElem?_getD,show i<xs.length by omega]
   rw [← e3]
   exact hx i n (by omega) (by omega)
  ·rw [if_neg c]
   have e:[xs.getD n z].filter p=[]:=by
    have c:p (xs.getD n z)=false:=by simpa using c
    simp only [List.filter,c]
   rw [e,List.append_nil]
   exact ⟨h1,h2⟩
theorem W1 {p:α→Bool} {xs ys:List α} (hx:∀ i j,i<j→j<xs.length→idx (xs.getD i z)<idx (xs.getD j z)) (h1:ys.Perm (xs.filter p)) (h2:srt key idx z ys 0 ys.length):ys=eP key z p xs xs.length:=by
 obtain ⟨g1,g2⟩:=BU (key:=key) (p:=p) hx xs.length (Nat.le_refl _)
 rw [List.take_length] at g2
 exact RQ (TQ h2) g1 (h1.trans g2.symm)
end
end
section
abbrev Regs:=List (List GCell)
def f8 (rs:Regs) (r s:Int):GCell:=(rs.getD r.toNat []).getD s.toNat Y9
def vQ (rs:Regs) (n:GNote):Bool:=bif (bif qC (f8 rs n.region n.slot).head != n.version then true else (f8 rs n.region n.slot).value != n.value) then true else sZ (f8 rs n.region n.slot).head != n.used
def EU (rs:Regs) (n:GNote):Bool := !(decide ((f8 rs n.region n.slot).head=4 * n.version+(bif n.used then 2 else 0)) && decide ((f8 rs n.region n.slot).value=n.value))
def xJ (rs:Regs) (s:GSet):Bool:=qC (f8 rs s.region s.slot).head != s.version
def l9 (rs:Regs) (s:GSet):Regs:=rs.set s.region.toNat (jE (rs.getD s.region.toNat []) s)
structure RegOk (rs:Regs) (n:Nat):Prop where
 len:rs.length=n
 ok:∀ r,r<n→cO (rs.getD r [])=true
 free:∀ r,r<n→∀ s,s<6→eW ((rs.getD r []).getD s Y9).head=false
theorem RegOk.head {rs:Regs} {n:Nat} (h:RegOk rs n) {r s:Int} (hr:0≤r∧r<n) (hs:0≤s∧s≤5):gF (f8 rs r s).head=true∧(f8 rs r s).head % 2=0:=by
 obtain ⟨h1,h2⟩:=eI.1 (h.ok r.toNat (by omega))
 have h3:=(jW.1 (h2 _ (bY (z:=Y9) (i:=s.toNat) (by omega)))).1
 have h4:=h.free r.toNat (by omega) s.toNat (by omega)
 have hb:gF (f8 rs r s).head=true:=gZ.2 h3
 refine ⟨hb,?_⟩
 have h4:eW (f8 rs r s).head=false:=h4
 unfold eW at h4
 have h3:0≤(f8 rs r s).head∧(f8 rs r s).head≤4000003:=h3
 rw [hb,cond_true,p7 h3.1] at h4
 have:¬ (f8 rs r s).head % 2=1:=by simpa using h4
 omega
theorem W4 {rs:Regs} {n:Nat} (h:RegOk rs n) {x:GNote} (hr:0≤x.region∧x.region<n) (hs:0≤x.slot∧x.slot≤5):EU rs x=vQ rs x:=by
 obtain ⟨h1,h2⟩:=h.head hr hs
 have h3:=gZ.1 h1
 unfold EU vQ sZ
 rw [GW h1,h1,cond_true]
 generalize f8 rs x.region x.slot=y at h2 h3
 rw [nJ h3.1,nJ h3.1,p7 (by omega)]
 by_cases c1:y.value=x.value
 ·rw [decide_eq_true c1,c1]
  cases hu:x.used with
  | true =>
   by_cases c2:y.head=4 * x.version+2
   ·rw [cond_true,decide_eq_true c2]
    have e1:y.head / 4=x.version:=by omega
    have e2:y.head / 2 % 2=1:=by omega
    rw [e1,e2];simp
   ·rw [cond_true,decide_eq_false c2]
    by_cases c3:y.head / 4=x.version
    ·have e2:¬ y.head / 2 % 2=1:=by omega
     simp [c3,e2]
    ·simp [c3]
  | false =>
   by_cases c2:y.head=4 * x.version+0
   ·rw [cond_false,decide_eq_true c2]
    have e1:y.head / 4=x.version:=by omega
    have e2:¬ y.head / 2 % 2=1:=by omega
    rw [e1];simp [e2]
   ·rw [cond_false,decide_eq_false c2]
    by_cases c3:y.head / 4=x.version
    ·have e2:y.head / 2 % 2=1:=by omega
     simp [c3,e2]
    ·simp [c3]
 ·rw [decide_eq_false c1]
  simp [c1]
theorem TU (n:Nat):RegOk (List.replicate n (List.replicate 6 Y9)) n:=by
 have e:∀ r,r<n→(List.replicate n (List.replicate 6 Y9)).getD r [] = List.replicate 6 Y9:=fun r hr=>by
  simp [List.getD_eq_getElem?_getD,List.getElem?_replicate,hr]
 refine ⟨List.length_replicate,fun r hr=>by rw [e r hr];decide,fun r hr s hs=>?_⟩
 rw [e r hr]
 have:(List.replicate 6 Y9).getD s Y9=Y9:=by
  have:s=0∨s=1∨s=2∨s=3∨s=4∨s=5:=by omega
  rcases this with h | h | h | h | h | h <;>subst h <;>rfl
 rw [this];decide
theorem UX {rs:Regs} {n:Nat} (h:RegOk rs n) {s:GSet} (hs:setB s=true) (hr:0≤s.region∧s.region<n):RegOk (l9 rs s) n:=by
 have h0:=k9.1 hs
 have hlt:s.region.toNat<rs.length:=by rw [h.len];omega
 have hg:∀ r,(l9 rs s).getD r [] = if r=s.region.toNat then jE (rs.getD s.region.toNat []) s else rs.getD r []:=fun r=>gW hlt r
 refine ⟨by unfold l9;rw [List.length_set];exact h.len,fun r hr2=>?_,fun r hr2 k hk=>?_⟩
 ·rw [hg]
  split
  ·exact yK (h.ok _ (by omega)) hs
  ·exact h.ok r hr2
 ·rw [hg]
  split
  ·have h6:=(eI.1 (h.ok s.region.toNat (by omega))).1
   unfold jE
   split
   ·exact h.free _ (by omega) k hk
   ·rw [gW (show s.slot.toNat<(rs.getD s.region.toNat []).length by omega)]
    split
    ·have hi:0≤(oO s).head∧(oO s).head≤4000003∧(oO s).head % 2=0:=by
      unfold oO
      cases s.used <;>simp <;>omega
     unfold eW
     rw [gZ.2 ⟨hi.1,hi.2.1⟩,cond_true,p7 hi.1,hi.2.2];rfl
    ·exact h.free _ (by omega) k hk
  ·exact h.free r hr2 k hk
theorem zC {n:Nat}:∀ {sets:List GSet} {rs:Regs},(∀ s ∈ sets,setB s=true∧0≤s.region∧s.region<n)→RegOk rs n→RegOk (sets.foldl l9 rs) n
 | [],_,_,h=>h
 | s :: r,rs,hs,h=>by
  rw [List.foldl_cons]
  exact zC (fun x hx=>hs x (by simp [hx])) (UX h (hs s (by simp)).1 (hs s (by simp)).2)
def l4 (rs:Regs) (t:GTx):Option Regs:=if t.reads.any (vQ rs)=true then none else if t.sets.any (xJ rs)=true then none else some (t.sets.foldl l9 rs)
def jM (rs:Regs) (l:List GTx):Option Regs:=l.foldl (fun o t=>o.bind fun q=>l4 q t) (some rs)
theorem AP {rs:Regs} {l:List GTx} {k:Nat} (h:k<l.length):jM rs (l.take (k+1))=(jM rs (l.take k)).bind fun q=>l4 q (l.getD k Y5):=by
 unfold jM
 rw [b7 (z:=Y5) h,List.foldl_append];rfl
theorem VG (l:List GTx):l.foldl (fun (o:Option Regs) t=>o.bind fun q=>l4 q t) none=none:=by
 induction l with
 | nil=>rfl
 | cons a r ih=>rw [List.foldl_cons];exact ih
theorem HO {rs:Regs} {l:List GTx} {k:Nat} (h:jM rs (l.take k)=none):jM rs l=none:=by
 have e:l=l.take k ++ l.drop k:=(List.take_append_drop k l).symm
 unfold jM at h ⊢
 rw [e,List.foldl_append,h]
 exact VG _
theorem UA {rs q:Regs} {n:Nat} {t:GTx} (h:RegOk rs n) (hs:∀ s ∈ t.sets,setB s=true∧0≤s.region∧s.region<n) (e:l4 rs t=some q):RegOk q n:=by
 unfold l4 at e
 split at e
 ·cases e
 ·split at e
  ·cases e
  ·injection e with e;subst e;exact zC hs h
end
section
abbrev SH:=Option Addr×Nat×Nat
abbrev RT:=GTx×SH×SH
abbrev vS (h:SH):D := .v (.slice h.1 h.2.1 h.2.2)
abbrev eT (p:RT):List D:=[dI p.1.id,dI p.1.home,dI p.1.phase,dI p.1.done,vS p.2.1,vS p.2.2,dI p.1.stamp]
abbrev zT:RT:=(Y5,(none,0,0),(none,0,0))
abbrev kT (p:RT):Int:=p.1.stamp
abbrev iT (p:RT):Int:=p.1.id
abbrev AT:SV:=fbO (fun x:RT×RT=>[RD.ag (eT x.1),RD.ag (eT x.2)]) fun x => .int .i64 (mA x.1.1.stamp x.2.1.stamp)
theorem wG (xs:List RT) (hl:xs.length≤1048576) (p q n:Nat) (h1:p+n≤q) (h2:q+n≤xs.length) :
  Con Tryz.prog 220 [900] [.a (.g 900),vI p,vI q,vI n,AT] [(900,bE 7 eT zT xs)] (fun ys:List RT=>isSwap zT xs ys p q n) (fun _=>[]) fun ys=>[(900,bE 7 eT zT ys)]:=by
 refine aD Tryz.func220 fun B0 r_ D_ w0=>?_
 refine aE ?_
 refine aJ (ι:=Nat×List RT) (fun s=>[(10,vI s.1)]) (fun s=>[(900,bE 7 eT zT s.2)]) (fun s=>s.1≤n∧isSwap zT xs s.2 p q s.1) (fun s=>n - s.1) (0,xs) [900] [] ⟨Nat.zero_le _,isSwap.zero xs p q⟩ ?_
 rintro ⟨i,ys⟩ ⟨k1,k2⟩
 have hlen:=k2.perm.length_eq
 dsimp only at k1 k2 hlen ⊢
 refine aE ?_
 refine aH (fun e=>?_) (fun e=>?_)
 ·have hi:i<n:=by omega
  refine aE ?_
  have hsw:(Ch.arr 7 (ys.set ((p:Int)+i).toNat (ys.getD ((q:Int)+i).toNat zT)).length fun j=>bif Nat.beq j ((q:Int)+i).toNat then eT (ys.getD ((p:Int)+i).toNat zT) else eT ((ys.set ((p:Int)+i).toNat (ys.getD ((q:Int)+i).toNat zT)).getD j zT)).imp (bE 7 eT zT (swp zT ys (p+i) (q+i))):=bS (y:=ys.getD (p+i) zT) (OwnI.refl _)
  refine aW [900] [0,1,2,3,4,5,6,7,8,9,10,11,14,15,16,17,12,13,18,19,20,21,22,23] fun B0 H0=>?_
  refine cZ 12 18 rfl rfl (by kernel_rfl) (a8 (bA ?_)) (a8 (bA ?_))
  ·refine cZ 13 18 rfl rfl (by kernel_rfl) (a8 (bA ?_)) (a8 (bA ?_))
   ·refine bB 18 rfl (by kernel_rfl) (a8 (bA ?_))
    refine bB 19 rfl (by kernel_rfl) (a8 (bA ?_))
    (refine bB 20 rfl (by kernel_rfl) (a8 (bA ?_));refine bB 21 rfl (by kernel_rfl) (aR (bA ?_));refine fT 900 rfl (bS (y:=ys.getD ((q:Int)+i).toNat zT) (OwnI.refl _)) rfl ?_;refine bB 22 rfl (by kernel_rfl) (a8 (bA ?_));refine bB 23 rfl (by kernel_rfl) (aR (bA ?_));refine aN ?_;exact bF (i+1,swp zT ys (p+i) (q+i)) ⟨by dsimp only;omega,by dsimp only;exact k2.succ (by omega) (by omega)⟩ (by show n - (i+1)<n - i;omega) wF ⟨⟨_,rfl,hsw⟩,wM⟩)
   ·refine cZ 13 19 rfl rfl (by kernel_rfl) (a8 (bA ?_)) (a8 (bA ?_))
    ·refine bB 19 rfl (by kernel_rfl) (a8 (bA ?_))
     (refine bB 20 rfl (by kernel_rfl) (a8 (bA ?_));refine bB 21 rfl (by kernel_rfl) (aR (bA ?_));refine fT 900 rfl (bS (y:=ys.getD ((q:Int)+i).toNat zT) (OwnI.refl _)) rfl ?_;refine bB 22 rfl (by kernel_rfl) (a8 (bA ?_));refine bB 23 rfl (by kernel_rfl) (aR (bA ?_));refine aN ?_;exact bF (i+1,swp zT ys (p+i) (q+i)) ⟨by dsimp only;omega,by dsimp only;exact k2.succ (by omega) (by omega)⟩ (by show n - (i+1)<n - i;omega) wF ⟨⟨_,rfl,hsw⟩,wM⟩)
    ·refine bB 13 rfl (by kernel_rfl) (a8 (bA ?_))
     (refine bB 20 rfl (by kernel_rfl) (a8 (bA ?_));refine bB 21 rfl (by kernel_rfl) (aR (bA ?_));refine fT 900 rfl (bS (y:=ys.getD ((q:Int)+i).toNat zT) (OwnI.refl _)) rfl ?_;refine bB 22 rfl (by kernel_rfl) (a8 (bA ?_));refine bB 23 rfl (by kernel_rfl) (aR (bA ?_));refine aN ?_;exact bF (i+1,swp zT ys (p+i) (q+i)) ⟨by dsimp only;omega,by dsimp only;exact k2.succ (by omega) (by omega)⟩ (by show n - (i+1)<n - i;omega) wF ⟨⟨_,rfl,hsw⟩,wM⟩)
  ·refine cZ 12 19 rfl rfl (by kernel_rfl) (a8 (bA ?_)) (a8 (bA ?_))
   ·refine cZ 13 19 rfl rfl (by kernel_rfl) (a8 (bA ?_)) (a8 (bA ?_))
    ·refine bB 19 rfl (by kernel_rfl) (a8 (bA ?_))
     (refine bB 20 rfl (by kernel_rfl) (a8 (bA ?_));refine bB 21 rfl (by kernel_rfl) (aR (bA ?_));refine fT 900 rfl (bS (y:=ys.getD ((q:Int)+i).toNat zT) (OwnI.refl _)) rfl ?_;refine bB 22 rfl (by kernel_rfl) (a8 (bA ?_));refine bB 23 rfl (by kernel_rfl) (aR (bA ?_));refine aN ?_;exact bF (i+1,swp zT ys (p+i) (q+i)) ⟨by dsimp only;omega,by dsimp only;exact k2.succ (by omega) (by omega)⟩ (by show n - (i+1)<n - i;omega) wF ⟨⟨_,rfl,hsw⟩,wM⟩)
    ·refine bB 13 rfl (by kernel_rfl) (a8 (bA ?_))
     (refine bB 20 rfl (by kernel_rfl) (a8 (bA ?_));refine bB 21 rfl (by kernel_rfl) (aR (bA ?_));refine fT 900 rfl (bS (y:=ys.getD ((q:Int)+i).toNat zT) (OwnI.refl _)) rfl ?_;refine bB 22 rfl (by kernel_rfl) (a8 (bA ?_));refine bB 23 rfl (by kernel_rfl) (aR (bA ?_));refine aN ?_;exact bF (i+1,swp zT ys (p+i) (q+i)) ⟨by dsimp only;omega,by dsimp only;exact k2.succ (by omega) (by omega)⟩ (by show n - (i+1)<n - i;omega) wF ⟨⟨_,rfl,hsw⟩,wM⟩)
   ·refine bB 12 rfl (by kernel_rfl) (a8 (bA ?_))
    refine bB 13 rfl (by kernel_rfl) (a8 (bA ?_))
    (refine bB 20 rfl (by kernel_rfl) (a8 (bA ?_));refine bB 21 rfl (by kernel_rfl) (aR (bA ?_));refine fT 900 rfl (bS (y:=ys.getD ((q:Int)+i).toNat zT) (OwnI.refl _)) rfl ?_;refine bB 22 rfl (by kernel_rfl) (a8 (bA ?_));refine bB 23 rfl (by kernel_rfl) (aR (bA ?_));refine aN ?_;exact bF (i+1,swp zT ys (p+i) (q+i)) ⟨by dsimp only;omega,by dsimp only;exact k2.succ (by omega) (by omega)⟩ (by show n - (i+1)<n - i;omega) wF ⟨⟨_,rfl,hsw⟩,wM⟩)
 ·have hi:i=n:=by omega
  subst hi
  refine rX rfl ?_
  refine lC TT_ok ys [] rfl rfl ?_ ?_ ?_
  ·exact ZF _
  ·exact wM
  ·exact k2
end
section
section
variable {α:Type} {z:α} {key idx:α→Int}
theorem WQ {xs:List α} {a:Nat}:lY z xs xs a (a+1) (a+1):=⟨pm.refl _ _ _,fun k hk=>by omega,fun k hk=>by
 have:k=0:=by omega
 subst this
 rw [show a+(a+1 - (a+1))+0=a+0 by omega]⟩
theorem pA {xs ys:List α} {a k:Nat} (h:lY z xs ys a (a+1) (k+1)) (ha:a≤k) (hk:k+1<xs.length):lY z xs (swp z ys k (k+1)) a (a+1) (k+2):=by
 have hl:=h.pm.len
 have g:=tD (z:=z) (xs:=ys) (i:=k) (j:=k+1) (by omega) (by omega)
 refine ⟨(h.pm.sub (Nat.le_refl _) (by omega)).trans (pY (by omega) (by omega) (by omega)),fun q hq=>?_,fun q hq=>?_⟩
 ·rw [g,if_neg (by omega)]
  by_cases c:a+q=k
  ·rw [if_pos c,h.pm.out (k+1) (.inr (Nat.le_refl _)),show a+1+q=k+1 by omega]
  ·rw [if_neg c];exact h.lo q (by omega)
 ·have:q=0:=by omega
  subst this
  rw [show a+(k+2 - (a+1))+0=k+1 by omega,g,if_pos rfl]
  have:=h.hi 0 (by omega)
  rw [show a+(k+1 - (a+1))+0=k by omega] at this
  exact this
theorem TV {xs:List α} {m:Nat}:lY z xs xs m m (m+1):=⟨pm.refl _ _ _,fun k hk=>rfl,fun k hk=>by omega⟩
theorem o0 {xs ys:List α} {k m:Nat} (h:lY z xs ys k m (m+1)) (h0:0<k) (hk:k≤m) (hm:m<xs.length):lY z xs (swp z ys k (k - 1)) (k - 1) m (m+1):=by
 have hl:=h.pm.len
 have g:=tD (z:=z) (xs:=ys) (i:=k) (j:=k - 1) (by omega) (by omega)
 refine ⟨(h.pm.sub (by omega) (Nat.le_refl _)).trans (pY (by omega) (by omega) (by omega)),fun q hq=>?_,fun q hq=>?_⟩
 ·have:q=0:=by omega
  subst this
  rw [show k - 1+0=k - 1 by omega,g,if_pos rfl]
  have:=h.lo 0 (by omega)
  rw [show k+0=k by omega] at this
  exact this
 ·rw [show k - 1+(m+1 - m)+q=k+q by omega,g,if_neg (by omega)]
  by_cases c:q=0
  ·subst c
   rw [if_pos (by omega),h.pm.out (k - 1) (.inl (by omega)),show k - 1+0=k - 1 by omega]
  ·rw [if_neg (by omega)]
   have:=h.hi (q - 1) (by omega)
   rw [show k+(m+1 - m)+(q - 1)=k+q by omega] at this
   rw [this,show k+(q - 1)=k - 1+q by omega]
end
end
section
theorem JV {a b:Int}:mA a b<0 ↔ a<b:=by
 unfold mA
 split
 ·constructor <;>intro _ <;>omega
 ·split
  ·constructor <;>intro h <;>omega
  ·constructor <;>intro h <;>omega
theorem TM (xs:List RT) (hl:xs.length≤1048576) (a m b:Nat) (h1:a<m) (h2:m<b) (h3:b≤xs.length) :
  Con Tryz.prog 206 [900] [.a (.g 900),vI a,vI m,vI b,AT] [(900,bE 7 eT zT xs)] (fun ys:List RT=>lY zT xs ys a m b) (fun _=>[]) fun ys=>[(900,bE 7 eT zT ys)]:=by
 refine aD Tryz.func206 fun B0 r_ D_ w0=>?_
 refine aE ?_
 refine cW (ι:=Nat×Nat×List RT) (fun s=>[(10,vI s.1),(11,vI s.2.1)]) (fun s=>[(900,bE 7 eT zT s.2.2)]) (fun s=>0<s.1∧0<s.2.1∧RotI zT xs s.2.2 a m b s.1 s.2.1) (fun s=>s.1+s.2.1) (m - a,b - m,xs) [900] [] rfl rfl ⟨by show 0<m - a;omega,by show 0<b - m;omega,RotI.first (by omega) (by omega)⟩ ⟨⟨_,rfl,ZH (cT (by dsimp only;omega))⟩,⟨_,rfl,ZH (cT (by dsimp only;omega))⟩,trivial⟩ wM ?_
 rintro ⟨i,j,ys⟩ ⟨k1,k2,k3⟩
 have hlen:=k3.pm.len
 have hle:=k3.le
 dsimp only at k1 k2 k3 hlen hle ⊢
 refine aE ?_
 refine iJ rfl (fun e=>?_) (fun e=>?_)
 ·refine aE ?_
  refine aH (fun e2=>?_) (fun e2=>?_)
  ·have hij:j<i:=by omega
   refine aE ?_
   refine dZ TT_ok (wG ys (by omega) (m - i) m j (by omega) (by omega)) rfl rfl (SVs.cons (ZD _) (SVs.cons (ZH (cT (by omega))) (ZF _))) (fun _=>rfl) rfl rfl rfl (fun zs hz=>?_)
   refine aM ?_
   exact bF (i - j,j,zs) ⟨by dsimp only;omega,by dsimp only;omega,k3.left hij hz⟩ (by show i - j+j<i+j;omega) ⟨⟨_,rfl,ZH (cT (by dsimp only;omega))⟩,⟨_,rfl,ZD _⟩,wF⟩ wM
  ·have hij:i<j:=by have:¬ (i:Int)=j:=e;omega
   refine aE ?_
   refine dZ TT_ok (wG ys (by omega) (m - i) (m+j - i) i (by omega) (by omega)) rfl rfl (SVs.cons (ZD _) (SVs.cons (ZH (cT (by omega))) (SVs.cons (ZH (cT (by omega))) (ZF _)))) (fun _=>rfl) rfl rfl rfl (fun zs hz=>?_)
   refine aM ?_
   exact bF (i,j - i,zs) ⟨by dsimp only;omega,by dsimp only;omega,k3.right hij hz⟩ (by show i+(j - i)<i+j;omega) ⟨⟨_,rfl,ZD _⟩,⟨_,rfl,ZH (cT (by dsimp only;omega))⟩,wF⟩ wM
 ·have hij:i=j:=by have:(i:Int)=j:=e;omega
  subst hij
  refine aE ?_
  refine dZ TT_ok (wG ys (by omega) (m - i) m i (by omega) (by omega)) rfl rfl (SVs.cons (ZD _) (SVs.cons (ZH (cT (by omega))) (ZF _))) (fun _=>rfl) rfl rfl rfl (fun zs hz=>?_)
  refine zS TT_ok rfl ?_
  refine lC TT_ok zs [] rfl rfl ?_ ?_ ?_
  ·exact ZF _
  ·exact wM
  ·exact k3.last ⟨by omega,by omega⟩ hz
end
section
theorem CN (xs:List RT) (hl:xs.length≤1048576) (a b:Nat) (h1:a≤b) (h2:b≤xs.length) (hx:∀ i j,a≤i→i<j→j<b→iT (xs.getD i zT)<iT (xs.getD j zT)) :
  Con Tryz.prog 193 [900] [.a (.g 900),vI a,vI b,AT] [(900,bE 7 eT zT xs)] (fun ys:List RT=>pm zT xs ys a b∧srt kT iT zT ys a b) (fun _=>[]) fun ys=>[(900,bE 7 eT zT ys)]:=by
 refine aD Tryz.func193 fun B0 r_ D_ w0=>?_
 refine aE ?_
 refine cW (ι:=Nat×List RT) (fun s=>[(8,vI s.1)]) (fun s=>[(900,bE 7 eT zT s.2)]) (fun s=>(a+1≤s.1∧(s.1≤b∨s.1=a+1))∧pm zT xs s.2 a s.1∧srt kT iT zT s.2 a s.1) (fun s=>b - s.1) (a+1,xs) [900] [] rfl rfl ⟨⟨Nat.le_refl _, .inr rfl⟩,pm.refl _ _ _,fun i j q1 q2 q3=>by dsimp only at q3;omega⟩ wF wM ?_
 rintro ⟨i,ys⟩ ⟨k1,k2,k3⟩
 have hlen:=k2.len
 dsimp only at k1 k2 k3 hlen ⊢
 refine aE ?_
 refine aH (fun e=>?_) (fun e=>?_)
 ·have hi:i<b:=by omega
  refine aE ?_
  refine cW (ι:=Nat×List RT) (fun s=>[(9,vI s.1)]) (fun s=>[(900,bE 7 eT zT s.2)]) (fun s=>(a≤s.1∧s.1≤i)∧pm zT ys s.2 a (i+1)∧InsI kT iT zT s.2 a s.1 i) (fun s=>s.1) (i,ys) [900] [] rfl rfl ⟨⟨by dsimp only;omega,Nat.le_refl _⟩,pm.refl _ _ _,InsI.first k3 fun p q q1 q2 q3 q4=>?_⟩ wF wM ?_
  ·have:q=i:=by omega
   subst this
   rw [k2.out q (.inr (Nat.le_refl _))]
   obtain ⟨p',p1,p2,p3⟩:=k2.mem p q1 q2
   rw [p3]
   exact hx p' q p1 p2 hi
  rintro ⟨j,ws⟩ ⟨l1,l2,l3⟩
  have hwl:=l2.len
  dsimp only at l1 l2 l3 hwl ⊢
  refine aE ?_
  refine dN TT_ok [] rfl rfl fun B0 H0=>?_
  refine bB 14 rfl (by kernel_rfl) (OJ_FG rfl rfl rfl rfl rfl ⟨(ws.getD (j:Int).toNat zT,ws.getD ((j:Int) - 1).toNat zT),rfl,rfl⟩ (bA ?_))
  refine JC TT_ok rfl ?_
  refine aN ?_
  have hj1:0<j→((j:Int) - 1).toNat=j - 1:=fun _=>by omega
  refine aA (b:=bif decide ((j:Int) > a) then decide (mA (ws.getD (j:Int).toNat zT).1.stamp (ws.getD ((j:Int) - 1).toNat zT).1.stamp<0) else false) (fun e2=>?_) (fun e2=>?_)
  ·have hja:a<j:=by
    by_cases c:(j:Int) > a
    ·omega
    ·rw [decide_eq_false c] at e2;cases e2
   have hk:kT (ws.getD j zT)<kT (ws.getD (j - 1) zT):=by
    rw [decide_eq_true (by omega),cond_true,hj1 (by omega),Int.toNat_natCast] at e2
    have:=JV.1 (of_decide_eq_true e2)
    show (ws.getD j zT).1.stamp<(ws.getD (j - 1) zT).1.stamp
    omega
   refine aE ?_
   have hsw:(Ch.arr 7 (ws.set ((j:Int)).toNat (ws.getD ((j:Int) - 1).toNat zT)).length fun q=>bif Nat.beq q ((j:Int) - 1).toNat then eT (ws.getD ((j:Int)).toNat zT) else eT ((ws.set ((j:Int)).toNat (ws.getD ((j:Int) - 1).toNat zT)).getD q zT)).imp (bE 7 eT zT (swp zT ws j (j - 1))):=by
    rw [hj1 (by omega)]
    exact bS (y:=ws.getD j zT) (OwnI.refl _)
   refine aW [900] [0,1,2,3,4,5,6,7,10,11,8,9,12,13,14,15,16,17] fun B0 H0=>?_
   refine cZ 8 12 rfl rfl (by kernel_rfl) (a8 (bA ?_)) (a8 (bA ?_))
   ·refine cZ 9 12 rfl rfl (by kernel_rfl) (a8 (bA ?_)) (a8 (bA ?_))
    ·refine bB 12 rfl (by kernel_rfl) (a8 (bA ?_))
     refine bB 13 rfl (by kernel_rfl) (a8 (bA ?_))
     (refine bB 14 rfl (by kernel_rfl) (a8 (bA ?_));refine bB 15 rfl (by kernel_rfl) (aR (bA ?_));refine fT 900 rfl (bS (y:=ws.getD ((j:Int) - 1).toNat zT) (OwnI.refl _)) rfl ?_;refine bB 16 rfl (by kernel_rfl) (a8 (bA ?_));refine bB 17 rfl (by kernel_rfl) (aR (bA ?_));refine aN ?_;exact bF (j - 1,swp zT ws j (j - 1)) ⟨⟨by dsimp only;omega,by dsimp only;omega⟩,l2.trans (pY ⟨by omega,by omega⟩ ⟨by omega,by omega⟩ (by omega)),l3.step hja l1.2 (by omega) hk⟩ (by show j - 1<j;omega) ⟨⟨_,rfl,ZH (cT (by dsimp only;omega))⟩,wF⟩ ⟨⟨_,rfl,hsw⟩,wM⟩)
    ·refine cZ 9 13 rfl rfl (by kernel_rfl) (a8 (bA ?_)) (a8 (bA ?_))
     ·refine bB 13 rfl (by kernel_rfl) (a8 (bA ?_))
      (refine bB 14 rfl (by kernel_rfl) (a8 (bA ?_));refine bB 15 rfl (by kernel_rfl) (aR (bA ?_));refine fT 900 rfl (bS (y:=ws.getD ((j:Int) - 1).toNat zT) (OwnI.refl _)) rfl ?_;refine bB 16 rfl (by kernel_rfl) (a8 (bA ?_));refine bB 17 rfl (by kernel_rfl) (aR (bA ?_));refine aN ?_;exact bF (j - 1,swp zT ws j (j - 1)) ⟨⟨by dsimp only;omega,by dsimp only;omega⟩,l2.trans (pY ⟨by omega,by omega⟩ ⟨by omega,by omega⟩ (by omega)),l3.step hja l1.2 (by omega) hk⟩ (by show j - 1<j;omega) ⟨⟨_,rfl,ZH (cT (by dsimp only;omega))⟩,wF⟩ ⟨⟨_,rfl,hsw⟩,wM⟩)
     ·refine bB 9 rfl (by kernel_rfl) (a8 (bA ?_))
      (refine bB 14 rfl (by kernel_rfl) (a8 (bA ?_));refine bB 15 rfl (by kernel_rfl) (aR (bA ?_));refine fT 900 rfl (bS (y:=ws.getD ((j:Int) - 1).toNat zT) (OwnI.refl _)) rfl ?_;refine bB 16 rfl (by kernel_rfl) (a8 (bA ?_));refine bB 17 rfl (by kernel_rfl) (aR (bA ?_));refine aN ?_;exact bF (j - 1,swp zT ws j (j - 1)) ⟨⟨by dsimp only;omega,by dsimp only;omega⟩,l2.trans (pY ⟨by omega,by omega⟩ ⟨by omega,by omega⟩ (by omega)),l3.step hja l1.2 (by omega) hk⟩ (by show j - 1<j;omega) ⟨⟨_,rfl,ZH (cT (by dsimp only;omega))⟩,wF⟩ ⟨⟨_,rfl,hsw⟩,wM⟩)
   ·refine cZ 8 13 rfl rfl (by kernel_rfl) (a8 (bA ?_)) (a8 (bA ?_))
    ·refine cZ 9 13 rfl rfl (by kernel_rfl) (a8 (bA ?_)) (a8 (bA ?_))
     ·refine bB 13 rfl (by kernel_rfl) (a8 (bA ?_))
      (refine bB 14 rfl (by kernel_rfl) (a8 (bA ?_));refine bB 15 rfl (by kernel_rfl) (aR (bA ?_));refine fT 900 rfl (bS (y:=ws.getD ((j:Int) - 1).toNat zT) (OwnI.refl _)) rfl ?_;refine bB 16 rfl (by kernel_rfl) (a8 (bA ?_));refine bB 17 rfl (by kernel_rfl) (aR (bA ?_));refine aN ?_;exact bF (j - 1,swp zT ws j (j - 1)) ⟨⟨by dsimp only;omega,by dsimp only;omega⟩,l2.trans (pY ⟨by omega,by omega⟩ ⟨by omega,by omega⟩ (by omega)),l3.step hja l1.2 (by omega) hk⟩ (by show j - 1<j;omega) ⟨⟨_,rfl,ZH (cT (by dsimp only;omega))⟩,wF⟩ ⟨⟨_,rfl,hsw⟩,wM⟩)
     ·refine bB 9 rfl (by kernel_rfl) (a8 (bA ?_))
      (refine bB 14 rfl (by kernel_rfl) (a8 (bA ?_));refine bB 15 rfl (by kernel_rfl) (aR (bA ?_));refine fT 900 rfl (bS (y:=ws.getD ((j:Int) - 1).toNat zT) (OwnI.refl _)) rfl ?_;refine bB 16 rfl (by kernel_rfl) (a8 (bA ?_));refine bB 17 rfl (by kernel_rfl) (aR (bA ?_));refine aN ?_;exact bF (j - 1,swp zT ws j (j - 1)) ⟨⟨by dsimp only;omega,by dsimp only;omega⟩,l2.trans (pY ⟨by omega,by omega⟩ ⟨by omega,by omega⟩ (by omega)),l3.step hja l1.2 (by omega) hk⟩ (by show j - 1<j;omega) ⟨⟨_,rfl,ZH (cT (by dsimp only;omega))⟩,wF⟩ ⟨⟨_,rfl,hsw⟩,wM⟩)
    ·refine bB 8 rfl (by kernel_rfl) (a8 (bA ?_))
     refine bB 9 rfl (by kernel_rfl) (a8 (bA ?_))
     (refine bB 14 rfl (by kernel_rfl) (a8 (bA ?_));refine bB 15 rfl (by kernel_rfl) (aR (bA ?_));refine fT 900 rfl (bS (y:=ws.getD ((j:Int) - 1).toNat zT) (OwnI.refl _)) rfl ?_;refine bB 16 rfl (by kernel_rfl) (a8 (bA ?_));refine bB 17 rfl (by kernel_rfl) (aR (bA ?_));refine aN ?_;exact bF (j - 1,swp zT ws j (j - 1)) ⟨⟨by dsimp only;omega,by dsimp only;omega⟩,l2.trans (pY ⟨by omega,by omega⟩ ⟨by omega,by omega⟩ (by omega)),l3.step hja l1.2 (by omega) hk⟩ (by show j - 1<j;omega) ⟨⟨_,rfl,ZH (cT (by dsimp only;omega))⟩,wF⟩ ⟨⟨_,rfl,hsw⟩,wM⟩)
  ·have hk:a<j→¬ kT (ws.getD j zT)<kT (ws.getD (j - 1) zT):=fun hja hlt=>by
    rw [decide_eq_true (by omega),cond_true,hj1 (by omega),Int.toNat_natCast] at e2
    have h:=of_decide_eq_false e2
    have hlt:(ws.getD j zT).1.stamp<(ws.getD (j - 1) zT).1.stamp:=hlt
    exact h (JV.2 (by omega))
   refine aE ?_
   refine aK (i+1,ws) ⟨⟨by dsimp only;omega, .inl (by dsimp only;omega)⟩,(k2.sub (Nat.le_refl _) (Nat.le_succ _)).trans l2,l3.stop l1.1 l1.2 hk⟩ (by show b - (i+1)<b - i;omega)
 ·have hib:b≤i:=by omega
  refine rX rfl ?_
  refine lC TT_ok ys [] rfl rfl ?_ ?_ ?_
  ·exact ZF _
  ·exact wM
  ·by_cases c:i=b
   ·subst c;exact ⟨k2,k3⟩
   ·have ha:b=a:=by omega
    subst ha
    have hi:i=b+1:=by omega
    subst hi
    refine ⟨⟨k2.perm,fun k _=>?_,fun k q1 q2=>by omega⟩,fun p q q1 q2 q3=>by omega⟩
    by_cases c2:k=b
    ·obtain ⟨k',r1,r2,r3⟩:=k2.mem k (by omega) (by omega)
     rw [r3,show k'=k by omega]
    ·exact k2.out k (by omega)
end
section
theorem tG {xs:List RT} {i j:Nat}:mA (xs.getD i zT).1.stamp (xs.getD j zT).1.stamp<0 ↔ kT (xs.getD i zT)<kT (xs.getD j zT):=JV
theorem nE {xs:List RT} {a b:Nat} (h:srt kT iT zT xs a b) {i j:Nat} (h1:a≤i) (h2:i≤j) (h3:j<b):kT (xs.getD i zT)≤kT (xs.getD j zT):=by
 by_cases e:i=j
 ·subst e;exact Int.le_refl _
 ·exact BK (h i j h1 (by omega) h3)
set_option maxHeartbeats 1000000 in
theorem NF (xs:List RT) (hl:xs.length≤1048576) (a b:Nat) (h2:a+1<b) (h3:b≤xs.length) (s2:srt kT iT zT xs (a+1) b) (hlo:low iT zT xs a (a+1) b) :
  Con Tryz.prog 194 [900] [.a (.g 900),vI a,vI ((a+1:Nat):Int),vI b,AT] [(900,bE 7 eT zT xs)] (fun ys:List RT=>pm zT xs ys a b∧srt kT iT zT ys a b) (fun _=>[]) fun ys=>[(900,bE 7 eT zT ys)]:=by
 refine aD Tryz.func194 fun B0 r_ D_ w0=>?_
 refine aE ?_
 refine s7 rfl (fun _=>?_) (fun e=>absurd (by omega) e)
 refine aE ?_
 refine cW (ι:=Nat×Nat) (fun y=>[(10,vI y.1),(11,vI y.2)]) (fun _=>[]) (fun y=>(a+1≤y.1∧y.1≤y.2∧y.2≤b)∧(∀ k,a+1≤k→k<y.1→kT (xs.getD k zT)<kT (xs.getD a zT))∧∀ k,y.2≤k→k<b→¬ kT (xs.getD k zT)<kT (xs.getD a zT)) (fun y=>y.2 - y.1) (a+1,b) [] [] rfl rfl ⟨⟨Nat.le_refl _,by dsimp only;omega,Nat.le_refl _⟩,fun k q1 q2=>by dsimp only at q2;omega,fun k q1 q2=>by dsimp only at q1;omega⟩ wF wM ?_
 rintro ⟨i,j⟩ ⟨k1,k2,k3⟩
 dsimp only at k1 k2 k3 ⊢
 refine aE ?_
 refine aH (fun e=>?_) (fun e=>?_)
 ·have hij:i<j:=by omega
  have hh:(((i:Int)+j) / 2).toNat=(i+j) / 2:=by omega
  refine aE ?_
  refine dN TT_ok [] rfl rfl fun B0 H0=>?_
  refine bB 9 rfl (by kernel_rfl) (O4 rfl rfl rfl ⟨(xs.getD (((i:Int)+j) / 2).toNat zT,xs.getD (a:Int).toNat zT),rfl,rfl⟩ (bA ?_))
  refine JC TT_ok rfl ?_
  refine aN ?_
  rw [hh]
  refine aH (fun e2=>?_) (fun e2=>?_)
  ·have e2:kT (xs.getD ((i+j) / 2) zT)<kT (xs.getD a zT):=tG.1 e2
   refine aE ?_
   refine bF ((i+j) / 2+1,j) ⟨⟨by dsimp only;omega,by dsimp only;omega,k1.2.2⟩,fun k q1 q2=>?_,k3⟩ (by show j - ((i+j) / 2+1)<j - i;omega) ⟨⟨_,rfl,ZH (cT (by dsimp only;omega))⟩,⟨_,rfl,ZD _⟩,wF⟩ wM
   dsimp only at q2
   have:=nE s2 q1 (show k≤(i+j) / 2 by omega) (by omega)
   omega
  ·have e2:¬ kT (xs.getD ((i+j) / 2) zT)<kT (xs.getD a zT):=fun h=>e2 (tG.2 h)
   refine aE ?_
   refine bF (i,(i+j) / 2) ⟨⟨k1.1,by dsimp only;omega,by dsimp only;omega⟩,k2,fun k q1 q2=>?_⟩ (by show (i+j) / 2 - i<j - i;omega) ⟨⟨_,rfl,ZD _⟩,⟨_,rfl,ZH (cT (by dsimp only;omega))⟩,wF⟩ wM
   dsimp only at q1
   have:=nE s2 (show a+1≤(i+j) / 2 by omega) q1 q2
   omega
 have hij:j=i:=by omega
 subst hij
 refine aE ?_
 refine aJ (ι:=Nat×List RT) (fun s=>[(13,vI s.1)]) (fun s=>[(900,bE 7 eT zT s.2)]) (fun s=>(a≤s.1∧s.1+1≤j)∧lY zT xs s.2 a (a+1) (s.1+1)) (fun s=>j - s.1) (a,xs) [900] [] ⟨⟨Nat.le_refl _,k1.1⟩,WQ⟩ ?_
 rintro ⟨k,ys⟩ ⟨l1,l2⟩
 have hlen:=l2.pm.len
 dsimp only at l1 l2 hlen ⊢
 refine aE ?_
 refine aH (fun e=>?_) (fun e=>?_)
 ·have hk:k+1<j:=by omega
  refine aE ?_
  have hsw:(Ch.arr 7 (ys.set ((k:Int)).toNat (ys.getD ((k:Int)+1).toNat zT)).length fun q=>bif Nat.beq q ((k:Int)+1).toNat then eT (ys.getD ((k:Int)).toNat zT) else eT ((ys.set ((k:Int)).toNat (ys.getD ((k:Int)+1).toNat zT)).getD q zT)).imp (bE 7 eT zT (swp zT ys k (k+1))):=bS (y:=ys.getD k zT) (OwnI.refl _)
  refine aW [900] [0,1,2,3,4,5,6,7,10,11,8,9,12,13,14,15,16,17] fun B0 H0=>?_
  refine cZ 8 12 rfl rfl (by kernel_rfl) (a8 (bA ?_)) (a8 (bA ?_))
  ·refine cZ 9 12 rfl rfl (by kernel_rfl) (a8 (bA ?_)) (a8 (bA ?_))
   ·refine bB 12 rfl (by kernel_rfl) (a8 (bA ?_))
    refine bB 13 rfl (by kernel_rfl) (a8 (bA ?_))
    (refine bB 14 rfl (by kernel_rfl) (a8 (bA ?_));refine bB 15 rfl (by kernel_rfl) (aR (bA ?_));refine fT 900 rfl (bS (y:=ys.getD ((k:Int)+1).toNat zT) (OwnI.refl _)) rfl ?_;refine bB 16 rfl (by kernel_rfl) (a8 (bA ?_));refine bB 17 rfl (by kernel_rfl) (aR (bA ?_));refine aN ?_;exact bF (k+1,swp zT ys k (k+1)) ⟨⟨by dsimp only;omega,by dsimp only;omega⟩,pA l2 l1.1 (by omega)⟩ (by show j - (k+1)<j - k;omega) wF ⟨⟨_,rfl,hsw⟩,wM⟩)
   ·refine cZ 9 13 rfl rfl (by kernel_rfl) (a8 (bA ?_)) (a8 (bA ?_))
    ·refine bB 13 rfl (by kernel_rfl) (a8 (bA ?_))
     (refine bB 14 rfl (by kernel_rfl) (a8 (bA ?_));refine bB 15 rfl (by kernel_rfl) (aR (bA ?_));refine fT 900 rfl (bS (y:=ys.getD ((k:Int)+1).toNat zT) (OwnI.refl _)) rfl ?_;refine bB 16 rfl (by kernel_rfl) (a8 (bA ?_));refine bB 17 rfl (by kernel_rfl) (aR (bA ?_));refine aN ?_;exact bF (k+1,swp zT ys k (k+1)) ⟨⟨by dsimp only;omega,by dsimp only;omega⟩,pA l2 l1.1 (by omega)⟩ (by show j - (k+1)<j - k;omega) wF ⟨⟨_,rfl,hsw⟩,wM⟩)
    ·refine bB 9 rfl (by kernel_rfl) (a8 (bA ?_))
     (refine bB 14 rfl (by kernel_rfl) (a8 (bA ?_));refine bB 15 rfl (by kernel_rfl) (aR (bA ?_));refine fT 900 rfl (bS (y:=ys.getD ((k:Int)+1).toNat zT) (OwnI.refl _)) rfl ?_;refine bB 16 rfl (by kernel_rfl) (a8 (bA ?_));refine bB 17 rfl (by kernel_rfl) (aR (bA ?_));refine aN ?_;exact bF (k+1,swp zT ys k (k+1)) ⟨⟨by dsimp only;omega,by dsimp only;omega⟩,pA l2 l1.1 (by omega)⟩ (by show j - (k+1)<j - k;omega) wF ⟨⟨_,rfl,hsw⟩,wM⟩)
  ·refine cZ 8 13 rfl rfl (by kernel_rfl) (a8 (bA ?_)) (a8 (bA ?_))
   ·refine cZ 9 13 rfl rfl (by kernel_rfl) (a8 (bA ?_)) (a8 (bA ?_))
    ·refine bB 13 rfl (by kernel_rfl) (a8 (bA ?_))
     (refine bB 14 rfl (by kernel_rfl) (a8 (bA ?_));refine bB 15 rfl (by kernel_rfl) (aR (bA ?_));refine fT 900 rfl (bS (y:=ys.getD ((k:Int)+1).toNat zT) (OwnI.refl _)) rfl ?_;refine bB 16 rfl (by kernel_rfl) (a8 (bA ?_));refine bB 17 rfl (by kernel_rfl) (aR (bA ?_));refine aN ?_;exact bF (k+1,swp zT ys k (k+1)) ⟨⟨by dsimp only;omega,by dsimp only;omega⟩,pA l2 l1.1 (by omega)⟩ (by show j - (k+1)<j - k;omega) wF ⟨⟨_,rfl,hsw⟩,wM⟩)
    ·refine bB 9 rfl (by kernel_rfl) (a8 (bA ?_))
     (refine bB 14 rfl (by kernel_rfl) (a8 (bA ?_));refine bB 15 rfl (by kernel_rfl) (aR (bA ?_));refine fT 900 rfl (bS (y:=ys.getD ((k:Int)+1).toNat zT) (OwnI.refl _)) rfl ?_;refine bB 16 rfl (by kernel_rfl) (a8 (bA ?_));refine bB 17 rfl (by kernel_rfl) (aR (bA ?_));refine aN ?_;exact bF (k+1,swp zT ys k (k+1)) ⟨⟨by dsimp only;omega,by dsimp only;omega⟩,pA l2 l1.1 (by omega)⟩ (by show j - (k+1)<j - k;omega) wF ⟨⟨_,rfl,hsw⟩,wM⟩)
   ·refine bB 8 rfl (by kernel_rfl) (a8 (bA ?_))
    refine bB 9 rfl (by kernel_rfl) (a8 (bA ?_))
    (refine bB 14 rfl (by kernel_rfl) (a8 (bA ?_));refine bB 15 rfl (by kernel_rfl) (aR (bA ?_));refine fT 900 rfl (bS (y:=ys.getD ((k:Int)+1).toNat zT) (OwnI.refl _)) rfl ?_;refine bB 16 rfl (by kernel_rfl) (a8 (bA ?_));refine bB 17 rfl (by kernel_rfl) (aR (bA ?_));refine aN ?_;exact bF (k+1,swp zT ys k (k+1)) ⟨⟨by dsimp only;omega,by dsimp only;omega⟩,pA l2 l1.1 (by omega)⟩ (by show j - (k+1)<j - k;omega) wF ⟨⟨_,rfl,hsw⟩,wM⟩)
 ·have hk:k+1=j:=by omega
  subst hk
  refine aE ?_
  refine aC (ys) [] ?_ ?_ ?_
  ·exact ZF _
  ·exact wM
  ·exact ⟨l2.pm.sub (Nat.le_refl _) (by omega),base1 (by omega) (by omega) s2 hlo k2 k3 l2⟩
end
section
set_option maxHeartbeats 1000000 in
theorem MW (xs:List RT) (hl:xs.length≤1048576) (a m:Nat) (h1:a<m) (hne:¬ m=a+1) (h3:m+1≤xs.length) (s1:srt kT iT zT xs a m) (hlo:low iT zT xs a m (m+1)) :
  Con Tryz.prog 194 [900] [.a (.g 900),vI a,vI m,vI ((m+1:Nat):Int),AT] [(900,bE 7 eT zT xs)] (fun ys:List RT=>pm zT xs ys a (m+1)∧srt kT iT zT ys a (m+1)) (fun _=>[]) fun ys=>[(900,bE 7 eT zT ys)]:=by
 refine aD Tryz.func194 fun B0 r_ D_ w0=>?_
 refine aE ?_
 refine s7 rfl (fun e=>absurd e (by omega)) (fun _=>?_)
 refine aE ?_
 refine s7 rfl (fun _=>?_) (fun e=>absurd (by omega) e)
 refine aE ?_
 refine cW (ι:=Nat×Nat) (fun y=>[(14,vI y.1),(15,vI y.2)]) (fun _=>[]) (fun y=>(a≤y.1∧y.1≤y.2∧y.2≤m)∧(∀ k,a≤k→k<y.1→¬ kT (xs.getD m zT)<kT (xs.getD k zT))∧∀ k,y.2≤k→k<m→kT (xs.getD m zT)<kT (xs.getD k zT)) (fun y=>y.2 - y.1) (a,m) [] [] rfl rfl ⟨⟨Nat.le_refl _,by dsimp only;omega,Nat.le_refl _⟩,fun k q1 q2=>by dsimp only at q2;omega,fun k q1 q2=>by dsimp only at q1;omega⟩ wF wM ?_
 rintro ⟨i,j⟩ ⟨k1,k2,k3⟩
 dsimp only at k1 k2 k3 ⊢
 refine aE ?_
 refine aH (fun e=>?_) (fun e=>?_)
 ·have hij:i<j:=by omega
  have hh:(((i:Int)+j) / 2).toNat=(i+j) / 2:=by omega
  refine aE ?_
  refine dN TT_ok [] rfl rfl fun B0 H0=>?_
  refine bB 9 rfl (by kernel_rfl) (O4 rfl rfl rfl ⟨(xs.getD (m:Int).toNat zT,xs.getD (((i:Int)+j) / 2).toNat zT),rfl,rfl⟩ (bA ?_))
  refine JC TT_ok rfl ?_
  refine aN ?_
  rw [hh]
  refine aA (b := !decide (mA (xs.getD m zT).1.stamp (xs.getD ((i+j) / 2) zT).1.stamp<0)) (fun e2=>?_) (fun e2=>?_)
  ·have e2:¬ kT (xs.getD m zT)<kT (xs.getD ((i+j) / 2) zT):=fun h=>by rw [decide_eq_true (tG.2 h)] at e2;cases e2
   refine aE ?_
   refine bF ((i+j) / 2+1,j) ⟨⟨by dsimp only;omega,by dsimp only;omega,k1.2.2⟩,fun k q1 q2=>?_,k3⟩ (by show j - ((i+j) / 2+1)<j - i;omega) ⟨⟨_,rfl,ZH (cT (by dsimp only;omega))⟩,⟨_,rfl,ZD _⟩,wF⟩ wM
   dsimp only at q2
   have:=nE s1 q1 (show k≤(i+j) / 2 by omega) (by omega)
   omega
  ·have e2:kT (xs.getD m zT)<kT (xs.getD ((i+j) / 2) zT):=tG.1 (of_decide_eq_true (by simpa using e2))
   refine aE ?_
   refine bF (i,(i+j) / 2) ⟨⟨k1.1,by dsimp only;omega,by dsimp only;omega⟩,k2,fun k q1 q2=>?_⟩ (by show (i+j) / 2 - i<j - i;omega) ⟨⟨_,rfl,ZD _⟩,⟨_,rfl,ZH (cT (by dsimp only;omega))⟩,wF⟩ wM
   dsimp only at q1
   have:=nE s1 (show a≤(i+j) / 2 by omega) q1 q2
   omega
 have hij:j=i:=by omega
 subst hij
 refine aE ?_
 refine aJ (ι:=Nat×List RT) (fun s=>[(17,vI s.1)]) (fun s=>[(900,bE 7 eT zT s.2)]) (fun s=>(j≤s.1∧s.1≤m)∧lY zT xs s.2 s.1 m (m+1)) (fun s=>s.1) (m,xs) [900] [] ⟨⟨k1.2.2,Nat.le_refl _⟩,TV⟩ ?_
 rintro ⟨k,ys⟩ ⟨l1,l2⟩
 have hlen:=l2.pm.len
 dsimp only at l1 l2 hlen ⊢
 refine aE ?_
 refine aH (fun e=>?_) (fun e=>?_)
 ·have hk:j<k:=by omega
  refine aE ?_
  have hsw:(Ch.arr 7 (ys.set ((k:Int)).toNat (ys.getD ((k:Int) - 1).toNat zT)).length fun q=>bif Nat.beq q ((k:Int) - 1).toNat then eT (ys.getD ((k:Int)).toNat zT) else eT ((ys.set ((k:Int)).toNat (ys.getD ((k:Int) - 1).toNat zT)).getD q zT)).imp (bE 7 eT zT (swp zT ys k (k - 1))):=by
   rw [show ((k:Int) - 1).toNat=k - 1 by omega]
   exact bS (y:=ys.getD k zT) (OwnI.refl _)
  refine aW [900] [0,1,2,3,4,5,6,7,10,11,8,9,12,13,14,15,16,17] fun B0 H0=>?_
  refine cZ 8 12 rfl rfl (by kernel_rfl) (a8 (bA ?_)) (a8 (bA ?_))
  ·refine cZ 9 12 rfl rfl (by kernel_rfl) (a8 (bA ?_)) (a8 (bA ?_))
   ·refine bB 12 rfl (by kernel_rfl) (a8 (bA ?_))
    refine bB 13 rfl (by kernel_rfl) (a8 (bA ?_))
    (refine bB 14 rfl (by kernel_rfl) (a8 (bA ?_));refine bB 15 rfl (by kernel_rfl) (aR (bA ?_));refine fT 900 rfl (bS (y:=ys.getD ((k:Int) - 1).toNat zT) (OwnI.refl _)) rfl ?_;refine bB 16 rfl (by kernel_rfl) (a8 (bA ?_));refine bB 17 rfl (by kernel_rfl) (aR (bA ?_));refine aN ?_;exact bF (k - 1,swp zT ys k (k - 1)) ⟨⟨by dsimp only;omega,by dsimp only;omega⟩,o0 l2 (by omega) l1.2 (by omega)⟩ (by show k - 1<k;omega) ⟨⟨_,rfl,ZH (cT (by dsimp only;omega))⟩,wF⟩ ⟨⟨_,rfl,hsw⟩,wM⟩)
   ·refine cZ 9 13 rfl rfl (by kernel_rfl) (a8 (bA ?_)) (a8 (bA ?_))
    ·refine bB 13 rfl (by kernel_rfl) (a8 (bA ?_))
     (refine bB 14 rfl (by kernel_rfl) (a8 (bA ?_));refine bB 15 rfl (by kernel_rfl) (aR (bA ?_));refine fT 900 rfl (bS (y:=ys.getD ((k:Int) - 1).toNat zT) (OwnI.refl _)) rfl ?_;refine bB 16 rfl (by kernel_rfl) (a8 (bA ?_));refine bB 17 rfl (by kernel_rfl) (aR (bA ?_));refine aN ?_;exact bF (k - 1,swp zT ys k (k - 1)) ⟨⟨by dsimp only;omega,by dsimp only;omega⟩,o0 l2 (by omega) l1.2 (by omega)⟩ (by show k - 1<k;omega) ⟨⟨_,rfl,ZH (cT (by dsimp only;omega))⟩,wF⟩ ⟨⟨_,rfl,hsw⟩,wM⟩)
    ·refine bB 9 rfl (by kernel_rfl) (a8 (bA ?_))
     (refine bB 14 rfl (by kernel_rfl) (a8 (bA ?_));refine bB 15 rfl (by kernel_rfl) (aR (bA ?_));refine fT 900 rfl (bS (y:=ys.getD ((k:Int) - 1).toNat zT) (OwnI.refl _)) rfl ?_;refine bB 16 rfl (by kernel_rfl) (a8 (bA ?_));refine bB 17 rfl (by kernel_rfl) (aR (bA ?_));refine aN ?_;exact bF (k - 1,swp zT ys k (k - 1)) ⟨⟨by dsimp only;omega,by dsimp only;omega⟩,o0 l2 (by omega) l1.2 (by omega)⟩ (by show k - 1<k;omega) ⟨⟨_,rfl,ZH (cT (by dsimp only;omega))⟩,wF⟩ ⟨⟨_,rfl,hsw⟩,wM⟩)
  ·refine cZ 8 13 rfl rfl (by kernel_rfl) (a8 (bA ?_)) (a8 (bA ?_))
   ·refine cZ 9 13 rfl rfl (by kernel_rfl) (a8 (bA ?_)) (a8 (bA ?_))
    ·refine bB 13 rfl (by kernel_rfl) (a8 (bA ?_))
     (refine bB 14 rfl (by kernel_rfl) (a8 (bA ?_));refine bB 15 rfl (by kernel_rfl) (aR (bA ?_));refine fT 900 rfl (bS (y:=ys.getD ((k:Int) - 1).toNat zT) (OwnI.refl _)) rfl ?_;refine bB 16 rfl (by kernel_rfl) (a8 (bA ?_));refine bB 17 rfl (by kernel_rfl) (aR (bA ?_));refine aN ?_;exact bF (k - 1,swp zT ys k (k - 1)) ⟨⟨by dsimp only;omega,by dsimp only;omega⟩,o0 l2 (by omega) l1.2 (by omega)⟩ (by show k - 1<k;omega) ⟨⟨_,rfl,ZH (cT (by dsimp only;omega))⟩,wF⟩ ⟨⟨_,rfl,hsw⟩,wM⟩)
    ·refine bB 9 rfl (by kernel_rfl) (a8 (bA ?_))
     (refine bB 14 rfl (by kernel_rfl) (a8 (bA ?_));refine bB 15 rfl (by kernel_rfl) (aR (bA ?_));refine fT 900 rfl (bS (y:=ys.getD ((k:Int) - 1).toNat zT) (OwnI.refl _)) rfl ?_;refine bB 16 rfl (by kernel_rfl) (a8 (bA ?_));refine bB 17 rfl (by kernel_rfl) (aR (bA ?_));refine aN ?_;exact bF (k - 1,swp zT ys k (k - 1)) ⟨⟨by dsimp only;omega,by dsimp only;omega⟩,o0 l2 (by omega) l1.2 (by omega)⟩ (by show k - 1<k;omega) ⟨⟨_,rfl,ZH (cT (by dsimp only;omega))⟩,wF⟩ ⟨⟨_,rfl,hsw⟩,wM⟩)
   ·refine bB 8 rfl (by kernel_rfl) (a8 (bA ?_))
    refine bB 9 rfl (by kernel_rfl) (a8 (bA ?_))
    (refine bB 14 rfl (by kernel_rfl) (a8 (bA ?_));refine bB 15 rfl (by kernel_rfl) (aR (bA ?_));refine fT 900 rfl (bS (y:=ys.getD ((k:Int) - 1).toNat zT) (OwnI.refl _)) rfl ?_;refine bB 16 rfl (by kernel_rfl) (a8 (bA ?_));refine bB 17 rfl (by kernel_rfl) (aR (bA ?_));refine aN ?_;exact bF (k - 1,swp zT ys k (k - 1)) ⟨⟨by dsimp only;omega,by dsimp only;omega⟩,o0 l2 (by omega) l1.2 (by omega)⟩ (by show k - 1<k;omega) ⟨⟨_,rfl,ZH (cT (by dsimp only;omega))⟩,wF⟩ ⟨⟨_,rfl,hsw⟩,wM⟩)
 ·have hk:k=j:=by omega
  subst hk
  refine aE ?_
  refine aC (ys) [] ?_ ?_ ?_
  ·exact ZF _
  ·exact wM
  ·exact ⟨l2.pm.sub k1.1 (Nat.le_refl _),base2 k1.1 k1.2.2 s1 hlo k2 k3 l2⟩
end
section
theorem TN {xs:List RT} {s m e:Nat} (h:s=m∨m=e):lY zT xs xs s m e:=by
 refine ⟨pm.refl _ _ _,fun k hk=>?_,fun k hk=>?_⟩
 ·rcases h with h | h
  ·subst h;rfl
  ·omega
 ·rcases h with h | h
  ·omega
  ·subst h;rw [Nat.sub_self,Nat.add_zero]
theorem B8 {xs ys:List RT} {a b c e:Nat} (h:pm zT xs ys a b) (hb:b≤c) (hs:srt kT iT zT xs c e):srt kT iT zT ys c e:=fun i j k1 k2 k3=>by
 rw [h.out i (.inr (by omega)),h.out j (.inr (by omega))];exact hs i j k1 k2 k3
theorem XH {xs ys:List RT} {a b c m e:Nat} (h:pm zT xs ys a b) (hb:b≤c) (hc:c≤m) (hs:low iT zT xs c m e):low iT zT ys c m e:=fun i j k1 k2 k3 k4=>by
 rw [h.out i (.inr (by omega)),h.out j (.inr (by omega))];exact hs i j k1 k2 k3 k4
theorem PK {p q r:Prop} [Decidable p] [Decidable q] [Decidable r] (h:p∧q ↔ r):(bif decide p then decide q else false)=decide r:=by
 by_cases hp:p
 ·rw [decide_eq_true hp,cond_true];exact decide_eq_decide.2 ⟨fun hq=>h.1 ⟨hp,hq⟩,fun hr=>(h.2 hr).2⟩
 ·rw [decide_eq_false hp,cond_false];exact (decide_eq_false fun hr=>hp (h.2 hr).1).symm
set_option maxHeartbeats 2000000 in
theorem DX (d:Nat):∀ (xs:List RT) (_:xs.length≤1048576) (a m b:Nat) (_:b - a≤d) (_:a<m) (_:m<b) (_:b≤xs.length) (_:srt kT iT zT xs a m) (_:srt kT iT zT xs m b) (_:low iT zT xs a m b),
  Con Tryz.prog 194 [900] [.a (.g 900),vI a,vI m,vI b,AT] [(900,bE 7 eT zT xs)] (fun ys:List RT=>pm zT xs ys a b∧srt kT iT zT ys a b) (fun _=>[]) fun ys=>[(900,bE 7 eT zT ys)]:=by
 induction d with
 | zero=>intro xs _ a m b hd h1 h2;omega
 | succ d ih =>
 intro xs hl a m b hd h1 h2 h3 s1 s2 hlo
 by_cases c1:m=a+1
 ·subst c1;exact NF xs hl a b (by omega) h3 s2 hlo
 by_cases c2:b=m+1
 ·subst c2;exact MW xs hl a m h1 c1 h3 s1 hlo
 refine aD Tryz.func194 fun B0 r_ D_ w0=>?_
 refine aE ?_
 refine s7 rfl (fun e=>absurd e (by omega)) (fun _=>?_)
 refine aE ?_
 refine s7 rfl (fun e=>absurd e (by omega)) (fun _=>?_)
 obtain ⟨M,hM⟩:∃ M,M=(a+b) / 2:=⟨_,rfl⟩
 have hM2:2 * M≤a+b∧a+b≤2 * M+1:=by omega
 have hMi:(((a:Int)+b) / 2).toNat=M:=by omega
 obtain ⟨lo,hlo2⟩:∃ lo,lo=if m > M then M+m - b else a:=⟨_,rfl⟩
 obtain ⟨hi,hhi⟩:∃ hi,hi=if m > M then M else m:=⟨_,rfl⟩
 have hb1:a≤lo∧lo≤hi∧hi≤m∧hi≤M∧M+m≤lo+b:=by
  rw [hlo2,hhi];split <;>omega
 refine aE ?_
 refine dC (ι:=Unit) (fun _=>[(20,vI lo),(21,vI hi)]) (fun _=>[]) (fun _=>True) [] [] rfl rfl ?_ ?_
 ·refine aH (fun e=>?_) (fun e=>?_)
  ·have e:m > M:=by omega
   rw [if_pos e] at hlo2 hhi
   refine aE ?_
   exact bF () trivial Nat.zero_lt_one ⟨⟨_,rfl,ZH (cT (by omega))⟩,⟨_,rfl,ZH (cT (by omega))⟩,wF⟩ wM
  ·have e:¬ m > M:=by omega
   rw [if_neg e] at hlo2 hhi
   refine aE ?_
   exact bF () trivial Nat.zero_lt_one ⟨⟨_,rfl,ZH (cT (by omega))⟩,⟨_,rfl,ZH (cT (by omega))⟩,wF⟩ wM
 intro _ _
 refine aT ?_
 refine cW (ι:=Nat×Nat) (fun y=>[(20,vI y.1),(21,vI y.2)]) (fun _=>[]) (fun y=>(lo≤y.1∧y.1≤y.2∧y.2≤hi)∧(∀ c,lo≤c→c<y.1→kT (xs.getD c zT)≤kT (xs.getD (M+m - 1 - c) zT))∧∀ c,y.2≤c→c<hi→kT (xs.getD (M+m - 1 - c) zT)<kT (xs.getD c zT)) (fun y=>y.2 - y.1) (lo,hi) [] [] rfl rfl ⟨⟨Nat.le_refl _,by dsimp only;omega,Nat.le_refl _⟩,fun k q1 q2=>by dsimp only at q2;omega,fun k q1 q2=>by dsimp only at q1;omega⟩ wF wM ?_
 rintro ⟨i,j⟩ ⟨k1,k2,k3⟩
 dsimp only at k1 k2 k3 ⊢
 refine aE ?_
 refine aH (fun e=>?_) (fun e=>?_)
 ·have hij:i<j:=by omega
  have hh:(((i:Int)+j) / 2).toNat=(i+j) / 2:=by omega
  have hp:(((a:Int)+b) / 2+m - 1 - ((i:Int)+j) / 2).toNat=M+m - 1 - (i+j) / 2:=by omega
  refine aE ?_
  refine dN TT_ok [] rfl rfl fun B0 H0=>?_
  refine bB 11 rfl (by kernel_rfl) (O4 rfl rfl rfl ⟨(xs.getD (((a:Int)+b) / 2+m - 1 - ((i:Int)+j) / 2).toNat zT,xs.getD (((i:Int)+j) / 2).toNat zT),rfl,rfl⟩ (bA ?_))
  refine JC TT_ok rfl ?_
  refine aN ?_
  rw [hh,hp]
  refine aA (b := !decide (mA (xs.getD (M+m - 1 - (i+j) / 2) zT).1.stamp (xs.getD ((i+j) / 2) zT).1.stamp<0)) (fun e2=>?_) (fun e2=>?_)
  ·have e2:¬ kT (xs.getD (M+m - 1 - (i+j) / 2) zT)<kT (xs.getD ((i+j) / 2) zT):=fun h=>by rw [decide_eq_true (tG.2 h)] at e2;cases e2
   refine aE ?_
   refine bF ((i+j) / 2+1,j) ⟨⟨by dsimp only;omega,by dsimp only;omega,k1.2.2⟩,fun k q1 q2=>?_,k3⟩ (by show j - ((i+j) / 2+1)<j - i;omega) ⟨⟨_,rfl,ZH (cT (by dsimp only;omega))⟩,⟨_,rfl,ZD _⟩,wF⟩ wM
   dsimp only at q2
   have g1:=nE s1 (show a≤k by omega) (show k≤(i+j) / 2 by omega) (by omega)
   have g2:=nE s2 (show m≤M+m - 1 - (i+j) / 2 by omega) (show M+m - 1 - (i+j) / 2≤M+m - 1 - k by omega) (by omega)
   omega
  ·have e2:kT (xs.getD (M+m - 1 - (i+j) / 2) zT)<kT (xs.getD ((i+j) / 2) zT):=tG.1 (of_decide_eq_true (by simpa using e2))
   refine aE ?_
   refine bF (i,(i+j) / 2) ⟨⟨k1.1,by dsimp only;omega,by dsimp only;omega⟩,k2,fun k q1 q2=>?_⟩ (by show (i+j) / 2 - i<j - i;omega) ⟨⟨_,rfl,ZD _⟩,⟨_,rfl,ZH (cT (by dsimp only;omega))⟩,wF⟩ wM
   dsimp only at q1
   have g1:=nE s1 (show a≤(i+j) / 2 by omega) q1 (by omega)
   have g2:=nE s2 (show m≤M+m - 1 - k by omega) (show M+m - 1 - k≤M+m - 1 - (i+j) / 2 by omega) (by omega)
   omega
 have hij:j=i:=by omega
 subst hij
 have HS:=RY (n:=M+m) (start:=j) h1 h2 (by omega) s1 s2 (by rw [← hM, ← hlo2];exact k1.1) (by rw [← hM, ← hhi];exact k1.2.2) (fun c q1 q2=>k2 c (by rw [← hM, ← hlo2] at q1;exact q1) q2) (fun c q1 q2=>k3 c q1 (by rw [← hM, ← hhi] at q2;exact q2))
 obtain ⟨⟨t1,t2,t3,t4,t5⟩,t6,t7⟩:=HS
 rw [← hM] at t5
 refine aE ?_
 refine dC (ι:=List RT) (fun _=>[]) (fun ys=>[(900,bE 7 eT zT ys)]) (fun ys=>lY zT xs ys j m (M+m - j)) [900] [] rfl rfl ?_ ?_
 ·refine bW (b:=decide (j<m∧m<M+m - j)) (congrArg (fun b=>some (vB b)) (PK (by omega))) (fun e=>?_) (fun e=>?_)
  ·have e:=of_decide_eq_true e
   refine aE ?_
   refine dZ TT_ok (TM xs hl j m (M+m - j) e.1 e.2 (by omega)) rfl rfl (SVs.cons (ZD _) (SVs.cons (ZD _) (SVs.cons (ZD _) (SVs.cons (ZH (cT (by omega))) (ZF _))))) (fun _=>rfl) rfl rfl rfl (fun zs hz=>?_)
   refine aM ?_
   exact aK zs hz Nat.zero_lt_one
  ·have e:=of_decide_eq_false e
   refine aE ?_
   exact aK xs (TN (by omega)) Nat.zero_lt_one
 intro ys hr
 have H:=LA t1 t2 t3 t4 hr s1 s2 hlo t6 t7
 rw [t5] at H
 have hyl:=hr.pm.len
 refine aT ?_
 refine dC (ι:=List RT) (fun _=>[]) (fun us=>[(900,bE 7 eT zT us)]) (fun us=>pm zT ys us a M∧srt kT iT zT us a M) [900] [] rfl rfl ?_ ?_
 ·refine bW (b:=decide (a<j∧j<M)) (congrArg (fun b=>some (vB b)) (PK (by omega))) (fun e=>?_) (fun e=>?_)
  ·have e:=of_decide_eq_true e
   refine aE ?_
   refine dZ TT_ok (ih ys (by omega) a j M (by omega) e.1 e.2 (by omega) H.s1 H.s2 H.l1) rfl rfl (SVs.cons (ZD _) (SVs.cons (ZD _) (SVs.cons (ZD _) (SVs.cons (ZH (cT (by omega))) (ZF _))))) (fun _=>rfl) rfl rfl rfl (fun zs hz=>?_)
   refine aM ?_
   exact aK zs hz Nat.zero_lt_one
  ·have e:=of_decide_eq_false e
   refine aE ?_
   refine aK ys ⟨pm.refl _ _ _,?_⟩ Nat.zero_lt_one
   by_cases q:a=j
   ·have:=H.s2;rw [← q] at this;exact this
   ·have:=H.s1;rw [show j=M by omega] at this;exact this
 intro us hu
 have hul:=hu.1.len
 refine aT ?_
 refine bW (b:=decide (M<M+m - j∧M+m - j<b)) (congrArg (fun b=>some (vB b)) (PK (by omega))) (fun e=>?_) (fun e=>?_)
 ·have e:=of_decide_eq_true e
  refine aE ?_
  refine dZ TT_ok (ih us (by omega) M (M+m - j) b (by omega) e.1 e.2 (by omega) (B8 hu.1 (Nat.le_refl _) H.s3) (B8 hu.1 (by omega) H.s4) (XH hu.1 (Nat.le_refl _) (by omega) H.l2)) rfl rfl (SVs.cons (ZD _) (SVs.cons (ZH (cT (by omega))) (SVs.cons (ZH (cT (by omega))) (ZF _)))) (fun _=>rfl) rfl rfl rfl (fun ws hw=>?_)
  refine zS TT_ok rfl ?_
  refine lC TT_ok ws [] rfl rfl ?_ ?_ ?_
  ·exact ZF _
  ·exact wM
  ·have G:=PL (by omega) (by omega) H.cross hu.1 hu.2 hw.1 hw.2
   exact ⟨(hr.pm.sub t1 t4).trans G.2,G.1⟩
 ·have e:=of_decide_eq_false e
  refine FH ?_
  refine lC TT_ok us [] rfl rfl ?_ ?_ ?_
  ·exact ZF _
  ·exact wM
  ·have hs3:srt kT iT zT us M b:=by
    by_cases q:M=M+m - j
    ·have:=B8 hu.1 (show M≤M+m - j by omega) H.s4;rw [← q] at this;exact this
    ·have:=B8 hu.1 (Nat.le_refl _) H.s3;rw [show M+m - j=b by omega] at this;exact this
   have G:=PL (by omega) (by omega) H.cross hu.1 hu.2 (pm.refl us M b) hs3
   exact ⟨(hr.pm.sub t1 t4).trans G.2,G.1⟩
end
section
theorem HN {q a i j:Nat} (hq:0<q) (ha:q ∣ a) (hi:i<a) (hj:a≤j):i / q<j / q:=by
 obtain ⟨k,rfl⟩:=ha
 have h1:i / q<k:=Nat.div_lt_of_lt_mul hi
 have h2:k≤j / q:=(Nat.le_div_iff_mul_le hq).2 (by rw [Nat.mul_comm];exact hj)
 omega
theorem yX {q a i:Nat} (hq:0<q) (ha:q ∣ a) (hi:a≤i) (hi2:i<a+q):i / q=a / q:=by
 obtain ⟨k,rfl⟩:=ha
 have e:i=(i - q * k)+q * k:=by omega
 rw [e,Nat.add_mul_div_left _ _ hq,Nat.div_eq_of_lt (by omega),Nat.mul_div_cancel_left _ hq,Nat.zero_add]
theorem UT {s i j:Nat} (hs:0<s) (h:i / (2 * s)<j / (2 * s)):i / s<j / s:=by
 rw [Nat.mul_comm, ← Nat.div_div_eq_div_mul, ← Nat.div_div_eq_div_mul] at h
 omega
theorem U6 {q i j:Nat} (h:i≤j):i / q≤j / q:=Nat.div_le_div_right h
section
variable {α:Type} {z:α} {key idx:α→Int}
def blk (key idx:α→Int) (z:α) (xs:List α) (s:Nat):Prop:=(∀ i j,i<j→j<xs.length→i / s=j / s→lx key idx (xs.getD i z) (xs.getD j z))∧∀ i j,i<j→j<xs.length→i / s<j / s→idx (xs.getD i z)<idx (xs.getD j z)
structure stage (key idx:α→Int) (z:α) (zs ys:List α) (q a:Nat):Prop where
 perm:ys.Perm zs
 out:∀ i,a≤i→ys.getD i z=zs.getD i z
 bp:∀ i,i<zs.length→∃ i',i'<zs.length∧i' / q=i / q∧ys.getD i z=zs.getD i' z
 ord:∀ i j,i<j→j<a→i / q=j / q→lx key idx (ys.getD i z) (ys.getD j z)
theorem stage.first (zs:List α) (q:Nat):stage key idx z zs zs q 0:=⟨List.Perm.refl _,fun _ _=>rfl,fun i hi=>⟨i,hi,rfl,rfl⟩,fun i j _ hj=>absurd hj (Nat.not_lt_zero _)⟩
theorem stage.len {zs ys:List α} {q a:Nat} (h:stage key idx z zs ys q a):ys.length=zs.length:=h.perm.length_eq
theorem stage.step {zs ys ws:List α} {q a b:Nat} (h:stage key idx z zs ys q a) (hq:0<q) (ha:q ∣ a) (hab:a≤b) (hb:b≤a+q) (hn:b≤zs.length) (hp:pm z ys ws a b) (hs:srt key idx z ws a b):stage key idx z zs ws q b:=by
 refine ⟨hp.perm.trans h.perm,fun i hi=>(hp.out i (.inr hi)).trans (h.out i (by omega)),fun i hi=>?_,fun i j hij hj he=>?_⟩
 ·by_cases c:a≤i∧i<b
  ·obtain ⟨k,k1,k2,k3⟩:=hp.mem i c.1 c.2
   refine ⟨k,by omega,?_,k3.trans (h.out k k1)⟩
   rw [yX hq ha k1 (by omega),yX hq ha c.1 (by omega)]
  ·obtain ⟨k,k1,k2,k3⟩:=h.bp i hi
   exact ⟨k,k1,k2,(hp.out i (by omega)).trans k3⟩
 ·by_cases c:a≤i
  ·exact hs i j c hij hj
  ·by_cases c2:a≤j
   ·have:=HN hq ha (show i<a by omega) c2;omega
   ·rw [hp.out i (.inl (by omega)),hp.out j (.inl (by omega))]
    exact h.ord i j hij (by omega) he
theorem stage.skip {zs ys:List α} {q a b:Nat} (h:stage key idx z zs ys q a) (hq:0<q) (ha:q ∣ a) (hab:a≤b) (hb:b≤a+q) (hn:b≤zs.length) (hs:srt key idx z zs a b):stage key idx z zs ys q b :=
 h.step hq ha hab hb hn (pm.refl ys a b) fun i j k1 k2 k3=>by rw [h.out i k1,h.out j (by omega)];exact hs i j k1 k2 k3
theorem stage.done {zs ys:List α} {q:Nat} (h:stage key idx z zs ys q zs.length) (hc:∀ i j,i<j→j<zs.length→i / q<j / q→idx (zs.getD i z)<idx (zs.getD j z)):blk key idx z ys q:=by
 refine ⟨fun i j h1 h2 h3=>h.ord i j h1 (by rw [← h.len];exact h2) h3,fun i j h1 h2 h3=>?_⟩
 rw [h.len] at h2
 obtain ⟨i',i1,i2,i3⟩:=h.bp i (by omega)
 obtain ⟨j',j1,j2,j3⟩:=h.bp j h2
 rw [i3,j3]
 have hlt:i'<j':=by
  by_cases c:i'<j'
  ·exact c
  ·have:=U6 (q:=q) (show j'≤i' by omega);omega
 exact hc i' j' hlt j1 (by omega)
theorem blk.cross {zs:List α} {s:Nat} (h:blk key idx z zs s) (hs:0<s):∀ i j,i<j→j<zs.length→i / (2 * s)<j / (2 * s)→idx (zs.getD i z)<idx (zs.getD j z):=fun i j h1 h2 h3=>h.2 i j h1 h2 (UT hs h3)
theorem blk.sorted {zs:List α} {s a b:Nat} (h:blk key idx z zs s) (hs:0<s) (ha:s ∣ a) (hb:b≤a+s) (hn:b≤zs.length):srt key idx z zs a b:=fun i j k1 k2 k3=>h.1 i j k2 (by omega) (by rw [yX hs ha k1 (by omega),yX (i:=j) hs ha (by omega) (by omega)])
theorem blk.low {zs:List α} {s m a b:Nat} (h:blk key idx z zs s) (hs:0<s) (hm:s ∣ m) (hn:b≤zs.length):low idx z zs a m b:=fun i j _ k2 k3 k4=>h.2 i j (by omega) (by omega) (HN hs hm k2 k3)
theorem blk.all {zs:List α} {s:Nat} (h:blk key idx z zs s) (hs:zs.length≤s):srt key idx z zs 0 zs.length:=fun i j _ k2 k3=>h.1 i j k2 k3 (by rw [Nat.div_eq_of_lt (by omega),Nat.div_eq_of_lt (by omega)])
end
end
section
theorem stage.srtIn {xs ys:List RT} {q a b c:Nat} (h:stage kT iT zT xs ys q a) (hb:a≤b) (hs:srt kT iT zT xs b c):srt kT iT zT ys b c:=fun i j k1 k2 k3=>by
 rw [h.out i (by omega),h.out j (by omega)];exact hs i j k1 k2 k3
theorem stage.lowIn {xs ys:List RT} {q a m c:Nat} (h:stage kT iT zT xs ys q a) (hm:a≤m) (hs:low iT zT xs a m c):low iT zT ys a m c:=fun i j k1 k2 k3 k4=>by
 rw [h.out i (by omega),h.out j (by omega)];exact hs i j k1 k2 k3 k4
set_option maxHeartbeats 2000000 in
theorem MV (xs:List RT) (hl:xs.length≤1048576) (hx:∀ i j,i<j→j<xs.length→iT (xs.getD i zT)<iT (xs.getD j zT)) :
  Con Tryz.prog 156 [900] [.a (.g 900),vI xs.length,AT] [(900,bE 7 eT zT xs)] (fun ys:List RT=>ys.Perm xs∧srt kT iT zT ys 0 ys.length) (fun _=>[]) fun ys=>[(900,bE 7 eT zT ys)]:=by
 refine aD Tryz.func156 fun B0 r_ D_ w0=>?_
 refine aE ?_
 refine cW (ι:=Nat×List RT) (fun s=>[(7,vI s.1),(8,vI ((s.1+20:Nat):Int))]) (fun s=>[(900,bE 7 eT zT s.2)]) (fun s=>stage kT iT zT xs s.2 20 s.1∧20 ∣ s.1∧s.1≤xs.length) (fun s=>xs.length - s.1) (0,xs) [900] [] rfl rfl ⟨stage.first xs 20,⟨0,rfl⟩,Nat.zero_le _⟩ ⟨⟨_,rfl,ZD _⟩,⟨_,rfl,ZH (cT (by dsimp only;omega))⟩,wF⟩ wM ?_
 rintro ⟨a,ys⟩ ⟨k1,k2,k3⟩
 have hlen:=k1.len
 dsimp only at k1 k2 k3 hlen ⊢
 have hxa:∀ b,b≤xs.length→∀ i j,a≤i→i<j→j<b→iT (ys.getD i zT)<iT (ys.getD j zT):=fun b hb i j q1 q2 q3=>by
  rw [k1.out i q1,k1.out j (by omega)];exact hx i j q2 (by omega)
 refine aE ?_
 refine aH (fun e=>?_) (fun e=>?_)
 ·have hn:a+20≤xs.length:=by omega
  refine aE ?_
  refine dZ TT_ok (CN ys (by omega) a (a+20) (by omega) (by omega) (hxa _ hn)) rfl rfl (ZF _) (fun _=>rfl) rfl rfl rfl (fun zs hz=>?_)
  refine aM ?_
  exact bF (a+20,zs) ⟨k1.step (by decide) k2 (by omega) (Nat.le_refl _) hn hz.1 hz.2,Nat.dvd_add k2 ⟨1,rfl⟩,hn⟩ (by show xs.length - (a+20)<xs.length - a;omega) ⟨⟨_,rfl,ZD _⟩,⟨_,rfl,ZH (cT (by dsimp only;omega))⟩,wF⟩ wM
 have hn:xs.length<a+20:=by omega
 refine aE ?_
 refine dZ TT_ok (CN ys (by omega) a xs.length k3 (by omega) (hxa _ (Nat.le_refl _))) rfl rfl (ZF _) (fun _=>rfl) rfl rfl rfl (fun zs hz=>?_)
 have hst:=k1.step (by decide) k2 k3 (by omega) (Nat.le_refl _) hz.1 hz.2
 have hblk:=hst.done fun i j q1 q2 _=>hx i j q1 q2
 refine aM ?_
 refine cW (ι:=Nat×List RT) (fun s=>[(6,vI s.1)]) (fun s=>[(900,bE 7 eT zT s.2)]) (fun s=>(0<s.1∧s.1≤20+2 * xs.length)∧blk kT iT zT s.2 s.1∧s.2.Perm xs) (fun s=>xs.length - s.1) (20,zs) [900] [] rfl rfl ⟨⟨by show 0<20;omega,by show 20≤_;omega⟩,hblk,hst.perm⟩ wF wM ?_
 rintro ⟨s,us⟩ ⟨⟨m1,m2⟩,m3,m4⟩
 have hul:=m4.length_eq
 dsimp only at m1 m2 m3 m4 hul ⊢
 refine aE ?_
 refine aH (fun e=>?_) (fun e=>?_)
 ·have hs:s<xs.length:=by omega
  refine aE ?_
  refine cW (ι:=Nat×List RT) (fun y=>[(7,vI y.1),(8,vI ((y.1+2 * s:Nat):Int))]) (fun y=>[(900,bE 7 eT zT y.2)]) (fun y=>stage kT iT zT us y.2 (2 * s) y.1∧2 * s ∣ y.1∧y.1≤xs.length) (fun y=>xs.length - y.1) (0,us) [900] [] rfl rfl ⟨stage.first us _,⟨0,rfl⟩,Nat.zero_le _⟩ ⟨⟨_,rfl,ZD _⟩,⟨_,rfl,ZH (cT (by dsimp only;omega))⟩,wF⟩ wM ?_
  rintro ⟨a,ws⟩ ⟨q1,q2,q3⟩
  have hwl:=q1.len
  dsimp only at q1 q2 q3 hwl ⊢
  have hds:s ∣ a:=Nat.dvd_trans ⟨2,Nat.mul_comm 2 s⟩ q2
  have hdm:s ∣ a+s:=Nat.dvd_add hds ⟨1,(Nat.mul_one s).symm⟩
  refine aE ?_
  refine aH (fun e2=>?_) (fun e2=>?_)
  ·have hb:a+2 * s≤xs.length:=by omega
   have p1:=q1.srtIn (Nat.le_refl _) (m3.sorted m1 hds (Nat.le_refl _) (show a+s≤us.length by omega))
   have p2:=q1.srtIn (b:=a+s) (by omega) (m3.sorted m1 hdm (show a+2 * s≤a+s+s by omega) (by omega))
   have p3:=q1.lowIn (m:=a+s) (c:=a+2 * s) (by omega) (m3.low m1 hdm (by omega))
   refine aE ?_
   refine dZ TT_ok (DX (2 * s) ws (by omega) a (a+s) (a+2 * s) (by omega) (by omega) (by omega) (by omega) p1 p2 p3) rfl rfl (SVs.cons (ZD _) (SVs.cons (ZD _) (SVs.cons (ZH (cT (by omega))) (ZF _)))) (fun _=>rfl) rfl rfl rfl (fun vs hv=>?_)
   refine aM ?_
   exact bF (a+2 * s,vs) ⟨q1.step (by omega) q2 (by omega) (Nat.le_refl _) (by omega) hv.1 hv.2,Nat.dvd_add q2 ⟨1,(Nat.mul_one _).symm⟩,hb⟩ (by show xs.length - (a+2 * s)<xs.length - a;omega) ⟨⟨_,rfl,ZD _⟩,⟨_,rfl,ZH (cT (by dsimp only;omega))⟩,wF⟩ wM
  have hb:xs.length<a+2 * s:=by omega
  refine aE ?_
  refine aH (fun e3=>?_) (fun e3=>?_)
  ·have hm:a+s<xs.length:=by omega
   have p1:=q1.srtIn (Nat.le_refl _) (m3.sorted m1 hds (Nat.le_refl _) (show a+s≤us.length by omega))
   have p2:=q1.srtIn (b:=a+s) (c:=xs.length) (by omega) (m3.sorted m1 hdm (by omega) (by omega))
   have p3:=q1.lowIn (m:=a+s) (c:=xs.length) (by omega) (m3.low m1 hdm (by omega))
   refine aE ?_
   refine dZ TT_ok (DX (2 * s) ws (by omega) a (a+s) xs.length (by omega) (by omega) (by omega) (by omega) p1 p2 p3) rfl rfl (SVs.cons (ZD _) (SVs.cons (ZD _) (SVs.cons (ZH (cT (by omega))) (ZF _)))) (fun _=>rfl) rfl rfl rfl (fun vs hv=>?_)
   refine aM ?_
   have S:=q1.step (by omega) q2 (show a≤us.length by omega) (by omega) (Nat.le_refl _) (by rw [hul];exact hv.1) (by rw [hul];exact hv.2)
   exact bF (2 * s,vs) ⟨⟨by dsimp only;omega,by dsimp only;omega⟩,S.done (m3.cross m1),S.perm.trans m4⟩ (by show xs.length - 2 * s<xs.length - s;omega) ⟨⟨_,rfl,ZH (cT (by dsimp only;omega))⟩,wF⟩ wM
  ·have hm:xs.length≤a+s:=by omega
   have S:=q1.skip (by omega) q2 (show a≤us.length by omega) (by omega) (Nat.le_refl _) (m3.sorted m1 hds (by omega) (Nat.le_refl _))
   refine aE ?_
   exact bF (2 * s,ws) ⟨⟨by dsimp only;omega,by dsimp only;omega⟩,S.done (m3.cross m1),S.perm.trans m4⟩ (by show xs.length - 2 * s<xs.length - s;omega) ⟨⟨_,rfl,ZH (cT (by dsimp only;omega))⟩,wF⟩ wM
 ·have hs:xs.length≤s:=by omega
  refine rX rfl ?_
  refine lC TT_ok us [] rfl rfl ?_ ?_ ?_
  ·exact ZF _
  ·exact wM
  ·exact ⟨m4,m3.all (by omega)⟩
theorem KB (xs:List RT) (hl:xs.length≤1048576) (hx:∀ i j,i<j→j<xs.length→iT (xs.getD i zT)<iT (xs.getD j zT)) :
  Con Tryz.prog 102 [900] [.a (.g 900),AT] [(900,bE 7 eT zT xs)] (fun ys:List RT=>ys.Perm xs∧srt kT iT zT ys 0 ys.length) (fun _=>[]) fun ys=>[(900,bE 7 eT zT ys)]:=by
 refine aD Tryz.func102 fun B0 r_ D_ w0=>?_
 refine aE ?_
 refine aP (MV xs hl hx) (fun ys hy=>?_)
 refine zS TT_ok rfl ?_
 refine lC TT_ok ys [] rfl rfl ?_ ?_ ?_
 ·exact ZF _
 ·exact wM
 ·exact hy
end
section
theorem HH {h:PH}:∀ l:List Value,D.rds h (l.map D.v) l
 | []=>rfl
 | x :: r=>⟨x,r,rfl,rfl,HH r⟩
theorem YB {h:PH} {sz n:Nat} {f:Nat→List D} {y:Value} (e:D.rd h (.sl sz n f) y):∃ rw:Nat→List Value,(∀ i,i<n→D.rds h (f i) (rw i)∧(rw i).length=sz)∧D.rd h (.sl sz n fun i=>(rw i).map D.v) y:=by
 obtain ⟨A,c,rfl,h1,h2,h3⟩:=e
 rcases h3 with h3 | ⟨b,o,rfl,h3⟩
 ·exact ⟨fun _=>[],fun i hi=>by omega,A,c,rfl,h1,h2, .inl h3⟩
 ·refine ⟨fun i=>if hi:i<n then Classical.choose (h3 i hi) else [],fun i hi=>?_,_,c,rfl,h1,h2, .inr ⟨b,o,rfl,fun i hi=>?_⟩⟩
  ·simp only [dif_pos hi]
   have:=Classical.choose_spec (h3 i hi)
   exact ⟨this.1,this.2.1⟩
  ·have:=Classical.choose_spec (h3 i hi)
   refine ⟨Classical.choose (h3 i hi),?_,this.2.1,this.2.2⟩
   show D.rds h ((if hi:i<n then Classical.choose (h3 i hi) else []).map D.v) _
   rw [dif_pos hi]
   exact HH _
section
variable {E:Env} {mu mu':Mu} {fr:Fr} {gf:GF} {R:Exit→Act→World→Prop} {K:List KF} {c:Code}
theorem NH {B:BE} {H:Nat→PH} {a:Act} (ff:FitsE E B H fr gf a) (t:Nat) {x x':SV} (ht:mlk t fr=some x) (hg:glk t gf=none) (hv:SV.rel E.P B (Zf E.r H) x (a.tmps.getD t undef)→SV.rel E.P B (Zf E.r H) x' (a.tmps.getD t undef)):FitsE E B H ((t,x') :: fr) gf a:=by
 refine ⟨ff.size,ff.defers,fun t' y e1 e2=>?_,ff.vgf,ff.vgu,fun t' d w y e1=>?_⟩
 ·rw [bO] at e1
  by_cases h:t=t'
  ·subst h
   rw [if_pos rfl] at e1
   injection e1 with e1
   subst e1
   exact hv (ff.vfr t _ ht e2)
  ·rw [if_neg h] at e1;exact ff.vfr t' y e1 e2
 ·rw [bO]
  by_cases h:t=t'
  ·subst h
   have:=ff.vno t d w y e1
   rw [ht] at this;cases this
  ·rw [if_neg h];exact ff.vno t' d w y e1
end
end
section
def ConX {ι:Type} (r0:PH) (P:Program) (f:Nat) (ks:List Nat) (args:List SV) (mu:Mu) (φ:ι→Prop) (res:ι→List SV) (mu':ι→Mu):Prop :=
 ∀ (B:BE) (r:PH) (w:World) (H:Nat→PH) (vals:List Value),r0.le r→Mm B r mu w H→(∀ k,bD k (bJ mu)=false→H k=PH.emp)→SV.rels P B (Zf r H) args vals →
  Calls P f vals.toArray w fun e w' => ∃ y B' H' out,φ y∧e = .returned (tP out)∧SV.rels P B' (Zf r H') (res y) out∧Mm B' r (mu' y) w' H'∧(∀ k,bD k ks=true→B' k=B k)∧Keep (iP mu H) w w'∧∀ k b o,H' k b o≠none→iP mu H b o∨w.heap.size≤b
theorem ConX.sw (a b:Nat) {ι:Type} {P:Program} {f:Nat} {ks:List Nat} {args:List SV} {mu:Mu} {φ:ι→Prop} {res:ι→List SV} {mu':ι→Mu} {r0:PH} (C:ConX r0 P f ks args mu φ res mu') :
  ConX r0 P f (GR a b ks) (swSL a b args) (pI a b mu) φ (fun y=>swSL a b (res y)) fun y=>pI a b (mu' y):=by
 intro B r w H vals h0 m hemp hargs
 have hown:∀ c o,iP mu (fun k=>H (swN a b k)) c o ↔ iP (pI a b mu) H c o:=fun c o=>by
  constructor
  ·rintro ⟨k,h1,h2⟩;exact ⟨swN a b k,by rw [oR,nQ];exact h1,h2⟩
  ·rintro ⟨k,h1,h2⟩
   refine ⟨swN a b k,?_,by simpa only [iK] using h2⟩
   rw [oR] at h1
   rw [← nQ (a:=a) (b:=b),iK];exact h1
 refine (C _ r w _ vals h0 m.sw (fun k hk=>hemp _ (by rw [oR,nQ];exact hk)) ((SV.rels_sw args).1 hargs)).mono fun e w' ⟨y,B',H',out,h1,h2,h3,h4,h5,h6,h7⟩=>?_
 refine ⟨y,fun k=>B' (swN a b k),fun k=>H' (swN a b k),out,h1,h2,?_,h4.unsw,fun k hk=>?_,h6.mono fun c _ o h=>(hown c o).1 h,fun k c o h=>(h7 _ c o h).imp_left (hown c o).1⟩
 ·refine (SV.rels_sw (res y)).2 ?_
  simpa only [iK] using h3
 ·have:=h5 (swN a b k) (by rw [← nQ (a:=a) (b:=b),iK];exact hk)
  simpa only [iK] using this
theorem zG {ι:Type} {r0:PH} {mu:Mu} {P:Program} {f:FuncId} {fn:Func} {c:Code} {N:Nat} {ks:List Nat} {args:List SV} {φ:ι→Prop} {res:ι→List SV} {mu':ι→Mu} (hf:P.funcs[f]? = some fn) (hb:fn.body=some c) (hN:fn.ntmps=N) (hlen:Nat.ble args.length N=true)
  (h:∀ (B0:BE) (r:PH) (D:Nat→Nat→Prop) (w0:World),r0.le r→T ⟨P,⟨ks,B0⟩,N,r,D,w0⟩ (bodyPost P fn (RetP ⟨P,⟨ks,B0⟩,N,r,D,w0⟩ φ res mu')) c (F3 0 args) mu []):ConX r0 P f ks args mu φ res mu':=by
 intro B r w H vals h0 m hemp hargs
 have hl:=SV.rels_length hargs
 have hlen':args.length≤N:=Nat.le_of_ble_eq_true hlen
 have key:Calls P f vals.toArray w (RetP ⟨P,⟨ks,B⟩,N,r,iP mu H,w⟩ φ res mu'):=by
  refine calls_of_wp hf hb ?_
  refine h B r (iP mu H) w h0 B _ w H ⟨?_,rfl,fun t x e _=>?_,fun _ _ _ _ h=>(by cases h),fun _ _ _ _ h=>(by cases h),fun _ _ _ _ h=>(by cases h)⟩ ⟨m,Keep.refl _ _,fun k b o e=>?_,fun _ _=>rfl⟩
  ·simp [hN];omega
  ·obtain ⟨_,h2⟩:=DS args 0 t x e
   simp only [Nat.sub_zero] at h2
   obtain ⟨v,h3,h4⟩:=SV.rels_get hargs h2
   have hlt:t<vals.length:=(List.getElem?_eq_some_iff.1 h3).1
   rw [Array.getD_eq_getD_getElem?,Array.getElem?_append_left (by simpa using hlt)]
   simpa [h3] using h4
  ·refine .inl ⟨k,?_,e⟩
   cases hk:bD k (bJ mu) with
   | true=>rfl
   | false=>rw [hemp k hk] at e;exact absurd rfl e
 refine key.mono fun e w' ⟨y,B',H',out,h1,h2,h3,m'⟩=>⟨y,B',H',out,h1,h2,h3,m'.mm,m'.anch,m'.keep,m'.dom⟩
section
variable {E:Env} {B:BE} {mu mu':Mu} {w:World} {H:Nat→PH} {TT:List TI} {fr fr':Fr} {gf gf':GF} {a:Act} {all rest:List Oper} {Q:Exit→Act→World→Prop} {o:Oper} {J:Act→World→Prop} {G:AG} {R:Exit→Act→World→Prop} {K:List KF}
theorem OJ_CX {ι:Type} {f:Nat} {ks nk:List Nat} {args:List SV} {mu1:Mu} {φ:ι→Prop} {res:ι→List SV} {mu1':ι→Mu} (C:ConX E.r E.P f ks args mu1 φ res mu1') {svs args':List SV} {g:Option (Nat×Nat×Bool)} {t:Nat} {q:Ob} {es:List Prop} {gs:List GO} {md:Mu}
  (hc:g8 E.N all fr gf o=some (f,svs,g,t,gf')) (hg:BB fr gf g) (hen:fK E.P f)
  (hw:jC mu (bJ mu1) ks svs=some (args',q)) (ha:SVs.imp E.P args' args) (hs:cP fr gf [] q [] [] = some (es,gs)) (he:cC es) (ho:cB gs) (hin:jK mu mu1)
  (hnk:∀ y,j5 (mu1' y)=nk) (hkeys:gE ks nk mu1 fr gf mu E.A.ks G.ks=true) (hout:∀ y,(SV.inKL (eC ks nk) (res y) && kI (eC ks nk) (mu1' y))=true)
  (hmd:dR (eC (bJ mu1) nk) mu=some md) {fr':Fr} {gf2:GF} (hcut:gP (bJ mu1) fr gf'=some (fr',gf2))
  (k:∀ y,φ y→SJ G J E ((t,vY (res y)) :: fr') gf2 (jL (mu1' y) md)):OJ G E all Q J o fr gf mu:=fun B a w H f m gg=>by
 have hk2:=hkeys
 simp only [gE,Bool.and_eq_true] at hk2
 have k1:=hk2.1.1.1.1.1
 have main:∀ {gd:Gd},(∀ d w,(d,w) ∈ gd→a.tmps.getD d undef = .bool w)→nP gd fr gf o.op=some (_,svs)→o.dst=some t→t<E.N→cU t gf=some gf'→Region.wanted o (yielded all.toArray a.tmps)=true→One E.P all.toArray Q o J a w:=fun {gd} hgd hcall hd ht hgd' hwant=>by
  obtain ⟨vals,r1,r2⟩:=kY (w:=w) f hgd hcall hen
  have hh:=m.mm.hand k1 hin
  have W:Wk B E.r mu H (bJ mu1) (lW E.r (bJ mu1) H):=⟨m.mm.sat,wY,fun k c _ h=>B4 m.mm h⟩
  have hvals:=SVs.imp_ok ha (xA (Z:=Zf (lW E.r (bJ mu1) H) (fV (bJ mu1) H)) W rfl hw (eS f (fun _ _ hm=>by cases hm) hs he ho) r2)
  refine mU hwant r1 ((C B _ w _ vals wY hh (fun k hk=>by unfold fV;rw [hk];rfl) hvals).mono fun e w' ⟨y,B',H',out,c1,c2,c3,c4,c5,c6,c7⟩=>⟨tP out,c2,?_⟩)
  rw [hd]
  exact EK hgd' ht f m gg hnk hkeys (fun y=>by
   have:=hout y
   simp only [Bool.and_eq_true] at this ⊢
   exact ⟨J9 this.1,this.2⟩) hmd hcut k ⟨c1,J7 c3,c4,c5,c6,c7⟩
 match g,hc,hg with
 | none,hc,_ =>
  obtain ⟨h1,h2,h3,h4,h5⟩:=pU hc
  exact main (gd:=[]) (fun _ _ hm=>by cases hm) h4 h2 (by simpa [Nat.blt_eq] using h3) h5 (eN h1)
 | some (j,d,b),hc,hg =>
  obtain ⟨h1,h2,h3,h4,h5,h6,h7⟩:=pB hc
  simp only [Bool.and_eq_true,Bool.not_eq_true'] at h4
  have hb:a.tmps.getD d undef = .bool b:=f.vfr d _ hg.2 hg.1
  exact main (mE f 6 d b hb) h6 h3 (by simpa [Nat.blt_eq] using h4.1) h7 ((hY h1 (jZ h2)).2 hb)
theorem u9 (hT:TOk E.P TT) {ι:Type} {f:Nat} {ks nk:List Nat} {args:List SV} {mu1:Mu} {φ:ι→Prop} {res:ι→List SV} {mu1':ι→Mu} (C:ConX E.r E.P f ks args mu1 φ res mu1') {svs args':List SV} {g:Option (Nat×Nat×Bool)} {t:Nat} {q:Ob} {es:List Prop} {gs:List GO} {md:Mu}
  (hc:g8 E.N all fr gf o=some (f,svs,g,t,gf')) (hw:jC mu (bJ mu1) ks svs=some (args',q)) (ha:SVs.imp E.P args' args) (hnk:∀ y,j5 (mu1' y)=nk) (hs:cP fr gf [] q [] [] = some (es,gs)) (hmd:dR (eC (bJ mu1) nk) mu=some md) {fr':Fr} {gf2:GF} (hcut:gP (bJ mu1) fr gf'=some (fr',gf2))
  (k:∀ y,φ y→RJ E all (KQ E.P R K) rest ((t,vY (res y)) :: fr') gf2 (jL (mu1' y) md))
  (hin:jK mu mu1:=by exact iD) (hg:BB fr gf g:=by first | exact trivial | exact ⟨rfl,rfl⟩) (hkeys:gE ks nk mu1 fr gf mu E.A.ks [] = true:=by exact rfl) (hout:∀ y,(SV.inKL (eC ks nk) (res y) && kI (eC ks nk) (mu1' y))=true:=by exact fun _=>rfl) (hen:fK E.P f:=by exact aB) (he:cC es:=by exact eD) (ho:cB gs:=by exact gD) :
  RJ E all (KQ E.P R K) (o :: rest) fr gf mu :=
 iX (OJ_CX (G:=AG.nil) C hc hg hen hw ha hs he ho hin hnk hkeys hout hmd hcut fun y hy=>jS (k y hy))
end
end
section
def RH (r:PH) (p:RT):Prop:=D.rd r (dL 5 cR Y8 p.1.reads) (.slice p.2.1.1 p.2.1.2.1 p.2.1.2.2)∧D.rd r (dL 5 cH Y7 p.1.sets) (.slice p.2.2.1 p.2.2.2.1 p.2.2.2.2)
theorem RH.mono {r s:PH} (h:r.le s) {p:RT} (k:RH r p):RH s p:=⟨D.rd_mono h _ k.1,D.rd_mono h _ k.2⟩
theorem YU {r:PH} {t:GTx} {vs:List Value} (h:D.rds r (cTx t) vs):∃ p:RT,p.1=t∧RH r p∧vs.map D.v=eT p:=by
 obtain ⟨y1,t1,rfl,e1,y2,t2,rfl,e2,y3,t3,rfl,e3,y4,t4,rfl,e4,y5,t5,rfl,e5,y6,t6,rfl,e6,y7,t7,rfl,e7,rfl⟩:=h
 obtain ⟨A,c,rfl,_⟩:=id e5
 obtain ⟨A2,c2,rfl,_⟩:=id e6
 refine ⟨(t,(A,t.reads.length,c),(A2,t.sets.length,c2)),rfl,⟨e5,e6⟩,?_⟩
 rw [show y1 = .int .i64 t.id from e1,show y2 = .int .i64 t.home from e2,show y3 = .int .i64 t.phase from e3,show y4 = .int .i64 t.done from e4,show y7 = .int .i64 t.stamp from e7]
 rfl
theorem rd_eT {r:PH} {txs:List GTx} {y:Value} (h:D.rd r (dL 7 cTx Y5 txs) y):∃ xs:List RT,xs.map (·.1)=txs∧(∀ i,i<xs.length→RH r (xs.getD i zT))∧D.rd r (dL 7 eT zT xs) y:=by
 obtain ⟨rw',h1,h2⟩:=YB h
 have hp:∀ i,∃ p:RT,i<txs.length→p.1=txs.getD i Y5∧RH r p∧(rw' i).map D.v=eT p:=fun i=>by
  by_cases hi:i<txs.length
  ·obtain ⟨p,p1,p2,p3⟩:=YU (h1 i hi).1
   exact ⟨p,fun _=>⟨p1,p2,p3⟩⟩
  ·exact ⟨zT,fun k=>absurd k hi⟩
 obtain ⟨f,hf⟩:∃ f:Nat→RT,∀ i,i<txs.length→(f i).1=txs.getD i Y5∧RH r (f i)∧(rw' i).map D.v=eT (f i):=⟨fun i=>Classical.choose (hp i),fun i=>Classical.choose_spec (hp i)⟩
 have hl:((List.range txs.length).map f).length=txs.length:=by simp
 have hg:∀ i,i<txs.length→((List.range txs.length).map f).getD i zT=f i:=fun i hi=>by simp [List.getD_eq_getElem?_getD,hi]
 refine ⟨(List.range txs.length).map f,?_,fun i hi=>?_,?_⟩
 ·refine List.ext_getElem (by simp) fun i k1 k2=>?_
  simp only [List.getElem_map,List.getElem_range]
  rw [(hf i k2).1]
  simp [List.getD_eq_getElem?_getD,k2]
 ·rw [hl] at hi
  rw [hg i hi];exact (hf i hi).2.1
 ·have:=D.rd_congr (g:=fun i=>eT (((List.range txs.length).map f).getD i zT)) (fun i hi=>by rw [hg i hi];exact (hf i hi).2.2) h2
  show D.rd r (.sl 7 ((List.range txs.length).map f).length fun i=>eT (((List.range txs.length).map f).getD i zT)) y
  rw [hl];exact this
def oF (c:GCluster) (xs:List RT):List D:=[dI c.config,dI c.clock,dL 1 cN Y3 c.places,dL 4 bQ Y4 c.machines,dL 7 eT zT xs,dB c.lost]
section
variable {E:Env} {mu:Mu} {fr:Fr} {gf:GF} {R:Exit→Act→World→Prop} {K:List KF} {c:Code}
theorem rT (t:Nat) {ι:Type} {x:SV} {φ:ι→Prop} {x':ι→SV} (ht:mlk t fr=some x) (hl:∀ B H v,SV.rel E.P B (Zf E.r H) x v→∃ y,φ y∧SV.rel E.P B (Zf E.r H) (x' y) v) (h:∀ y,φ y→T E R c ((t,x' y) :: fr) mu K):T E R c fr mu K:=fun B a w H f m=>by
 obtain ⟨y,h1,h2⟩:=hl B H _ (f.vfr t _ ht rfl)
 exact h y h1 B a w H (NH f t ht rfl fun _=>h2) m
theorem pF (t:Nat) {x x':SV} (ht:mlk t fr=some x) (hg:glk t gf=none) (hl:∀ B H v,SV.rel E.P B (Zf E.r H) x v→SV.rel E.P B (Zf E.r H) x' v):jA E fr gf mu ((t,x') :: fr) gf mu:=fun B w H a ff m=>⟨B,H,NH ff t ht hg (hl B H _),m⟩
end
theorem qQ {P:Program} {B:BE} {Z:Tg→PH} {c:GCluster} {v:Value} (h:SV.rel P B Z (vR (bK c)) v):∃ xs:List RT,(xs.map (·.1)=c.txs∧∀ i,i<xs.length→RH (Z .r) (xs.getD i zT))∧SV.rel P B Z (vR (oF c xs)) v:=by
 obtain ⟨vs,rfl,y1,t1,rfl,e1,y2,t2,rfl,e2,y3,t3,rfl,e3,y4,t4,rfl,e4,y5,t5,rfl,e5,h6⟩:=h
 obtain ⟨xs,x1,x2,x3⟩:=rd_eT (show D.rd (Z .r) (dL 7 cTx Y5 c.txs) y5 from e5)
 exact ⟨xs,⟨x1,x2⟩,_,rfl,y1,_,rfl,e1,y2,_,rfl,e2,y3,_,rfl,e3,y4,_,rfl,e4,y5,_,rfl,x3,h6⟩
end
section
noncomputable def pT (p:RT):Bool:=fZ p.1 == 1
theorem qW {α:Type} {z:α} {key:α→Int} {p:α→Bool} {xs:List α}:∀ n,(eP key z p xs n).length≤n
 | 0=>Nat.le_refl _
 | n+1=>by
  have h:=qW (key:=key) (z:=z) (p:=p) (xs:=xs) n
  rw [eP]
  split
  ·rw [(insL_perm (k:=_) (x:=_) (xs:=_)).length_eq,List.length_cons];omega
  ·omega
theorem XK {P:Program} {B:BE} {Z:Tg→PH} {p:RT} (h:RH (Z .r) p) {v:Value} (hv:SV.rel P B Z (vR (eT p)) v):SV.rel P B Z (vR (cTx p.1)) v:=by
 obtain ⟨vs,rfl,y1,t1,rfl,e1,y2,t2,rfl,e2,y3,t3,rfl,e3,y4,t4,rfl,e4,y5,t5,rfl,e5,y6,t6,rfl,e6,h7⟩:=hv
 refine ⟨_,rfl,y1,_,rfl,e1,y2,_,rfl,e2,y3,_,rfl,e3,y4,_,rfl,e4,y5,_,rfl,?_,y6,_,rfl,?_,h7⟩
 ·have e5:y5=_:=e5
  show D.rd (Z .r) (dL 5 cR Y8 p.1.reads) y5
  rw [e5];exact h.1
 ·have e6:y6=_:=e6
  show D.rd (Z .r) (dL 5 cH Y7 p.1.sets) y6
  rw [e6];exact h.2
theorem TJ {α:Type} {sz:Nat} {enc:α→List D} {z x:α} {k:Nat} {xs:List α} (h:k≤xs.length) {n:Nat} {f:Nat→List D} (hn:n=xs.length+1) (hf:∀ j,j<xs.length+1→f j=if j<k then enc (xs.getD j z) else if j<k+1 then enc x else enc (xs.getD (j - 1) z)):(Ch.arr sz n f).imp (bE sz enc z (fD k x xs)):=by
 subst hn
 refine Ch.imp_len (by rw [gL h]) fun j hj=>?_
 rw [jX h,hf j hj]
 split
 ·rfl
 ·split <;>rfl
set_option maxHeartbeats 2000000 in
theorem D1 {r0:PH} (c:GCluster) (xs:List RT) (hl:xs.length≤60) (h2:∀ i,i<xs.length→RH r0 (xs.getD i zT)) :
  ConX r0 Tryz.prog 48 [] [vR (oF c xs)] [] (fun _:Unit=>True) (fun _=>[.a (.g 900)]) fun _=>[(900,bE 7 eT zT (eP kT zT pT xs xs.length))]:=by
 refine zG Tryz.func48 rfl rfl rfl fun B0 r_ D_ w0 hr=>?_
 refine aE ?_
 refine aL 33 (fun i=>eT (([]:List RT).getD i zT)) (fun i hi=>absurd hi (Nat.not_lt_zero _)) (mu1:=[]) ?_
 refine aM ?_
 refine aJ (ι:=Nat) (fun i=>[(4,vI i),(3, .a (.g 33))]) (fun i=>[(33,bE 7 eT zT (eP kT zT pT xs i))]) (fun i=>i≤xs.length) (fun i=>xs.length - i) 0 [33] [33] (Nat.zero_le _) ?_
 intro i h1
 have hlo:=qW (key:=kT) (z:=zT) (p:=pT) (xs:=xs) i
 refine aE ?_
 refine aH (fun e=>?_) (fun e=>?_)
 ·have hi:i<xs.length:=by omega
  refine aE ?_
  refine cK (pF 21 rfl rfl (fun B H v hv=>XK (p:=xs.getD i zT) (RH.mono hr (h2 i hi)) hv)) ?_
  refine aG (EV (xs.getD i zT).1) ?_
  refine iJ rfl (fun e2=>?_) (fun e2=>?_)
  ·have hp:eP kT zT pT xs (i+1)=eP kT zT pT xs i:=by
    rw [eP,if_neg]
    intro h
    exact e2 (show fZ (xs.getD i zT).1=1 from eq_of_beq h)
   refine aE ?_
   exact bF (i+1) hi (by omega) wF ⟨⟨_,rfl,Ch.imp_of (by rw [hp])⟩,wM⟩
  have hp:eP kT zT pT xs (i+1)=fD (lB kT zT (xs.getD i zT) (eP kT zT pT xs i) (eP kT zT pT xs i).length) (xs.getD i zT) (eP kT zT pT xs i):=by
   rw [eP,if_pos]
   have e2:fZ (xs.getD i zT).1=1:=e2
   show (fZ (xs.getD i zT).1 == 1)=true
   rw [e2];rfl
  generalize eP kT zT pT xs i=out at hlo hp ⊢
  refine aE ?_
  refine aJ (ι:=Nat) (fun k=>[(6,vI k)]) (fun _=>[]) (fun k=>k≤out.length∧lB kT zT (xs.getD i zT) out out.length=lB kT zT (xs.getD i zT) out k) (fun k=>k) out.length [] [] ⟨Nat.le_refl _,rfl⟩ ?_
  intro k ⟨k1,k2⟩
  refine aE ?_
  have hk0:((k:Int) - 1).toNat=k - 1:=by omega
  refine aW [] [0,1,2,3,4,5,6,7,8,9,10,11,12] fun B0 H0=>?_
  refine aN ?_
  rw [hk0]
  refine bW (b:=decide (0<k∧kT (out.getD (k - 1) zT) > kT (xs.getD i zT))) (congrArg (fun b=>some (vB b)) (PK (by constructor <;>rintro ⟨p1,p2⟩ <;>exact ⟨by omega,p2⟩))) (fun e3=>?_) (fun e3=>?_)
  ·have e3:=of_decide_eq_true e3
   refine aE ?_
   refine bF (k - 1) ⟨by omega,?_⟩ (by omega) ⟨⟨_,rfl,ZH (cT (by omega))⟩,wF⟩ wM
   rw [k2]
   obtain ⟨m,rfl⟩:∃ m,k=m+1:=⟨k - 1,by omega⟩
   rw [lB,if_pos (show kT (out.getD m zT) > kT (xs.getD i zT) from e3.2)];rfl
  have e3:=of_decide_eq_false e3
  have hk:lB kT zT (xs.getD i zT) out out.length=k:=by
   rw [k2]
   cases k with
   | zero=>rfl
   | succ m=>rw [lB,if_neg (show ¬ kT (out.getD m zT) > kT (xs.getD i zT) from fun h=>e3 ⟨Nat.succ_pos _,h⟩)]
  rw [hk] at hp
  refine aE ?_
  refine aL 41 (fun i=>eT (([]:List RT).getD i zT)) (fun i hi=>absurd hi (Nat.not_lt_zero _)) (mu1:=[]) ?_
  refine aM ?_
  refine qI TT_ok 41 45 rfl rfl rfl rfl rfl rfl rfl rfl rfl rfl rfl rfl ⟨by simp;omega,by unfold maxL;omega⟩ ?_ (hob:=⟨rfl,⟨by omega,by omega,by omega⟩,trivial⟩)
  refine aM ?_
  refine cJ TT_ok 48 (fun _=>eT (xs.getD i zT)) rfl rfl rfl rfl rfl rfl rfl (fun i hi=>by rcases i with _ | i <;>first | rfl | omega) (mu1:=[]) rfl rfl rfl ?_
  refine aM ?_
  refine cL TT_ok 45 48 49 rfl rfl rfl rfl rfl rfl rfl rfl rfl rfl rfl rfl ⟨by simp;omega,by unfold maxL;omega⟩ ?_
  refine aM ?_
  refine qI TT_ok 49 54 rfl rfl rfl rfl rfl rfl rfl rfl rfl rfl rfl rfl ⟨by simp;omega,by unfold maxL;omega⟩ ?_ (hob:=⟨rfl,⟨by omega,by omega,by omega⟩,trivial⟩)
  refine aM ?_
  refine bC (bH 33 54) ?_
  refine bF (i+1) hi (by omega) wF ⟨⟨_,rfl,?_⟩,wM⟩
  rw [hp]
  have hkl:=G4 (key:=kT) (z:=zT) (t:=xs.getD i zT) (out:=out) out.length
  have hn0:0+((k:Int) - 0).toNat=k:=by omega
  refine TJ (z:=zT) (x:=xs.getD i zT) (by omega) (by omega) fun j hj=>?_
  rw [hn0]
  by_cases a:j<k
  ·rw [if_pos a,kK (by omega),kK a,kL (Nat.zero_le _)]
   show eT (out.getD (Int.toNat 0+(j - 0)) zT)=_
   rw [show Int.toNat 0+(j - 0)=j by omega]
  ·rw [if_neg a]
   by_cases b:j<k+1
   ·rw [if_pos b,kK b,kL (by omega)]
   ·rw [if_neg b,kL (by omega)]
    show eT (out.getD ((k:Int).toNat+(j - (k+1))) zT)=_
    rw [show (k:Int).toNat+(j - (k+1))=j - 1 by omega]
 ·have hi:i=xs.length:=by omega
  subst hi
  refine aE ?_
  refine a9 (bH 33 900) ?_
  refine aC (()) [(2,none)] ?_ ?_ ?_
  ·exact ZF _
  ·exact wM
  ·trivial
end
section
theorem lQ {α γ:Type} (f:α→γ) (z:α) (xs:List α) (i:Nat):(xs.map f).getD i (f z)=f (xs.getD i z):=by
 simp only [List.getD_eq_getElem?_getD,List.getElem?_map]
 cases xs[i]? <;>rfl
theorem L3 {α γ:Type} (f:α→γ) {z t:α} {key:α→Int} {key':γ→Int} (hk:∀ x,key x=key' (f x)) (out:List α):∀ n,lB key z t out n=lB key' (f z) (f t) (out.map f) n
 | 0=>rfl
 | n+1=>by rw [lB,lB,L3 f hk out n,lQ,hk,hk]
theorem KU {α γ:Type} (f:α→γ) {z:α} {key:α→Int} {key':γ→Int} (hk:∀ x,key x=key' (f x)) {p:α→Bool} {p':γ→Bool} (hp:∀ x,p x=p' (f x)) (xs:List α):∀ n,(eP key z p xs n).map f=eP key' (f z) p' (xs.map f) n
 | 0=>rfl
 | n+1=>by
  have ih:=KU f hk hp xs (z:=z) n
  rw [eP,eP,lQ, ← hp]
  split
  ·rw [← ih, ← L3 f hk,List.length_map]
   unfold fD
   rw [List.map_append,List.map_cons,List.map_take,List.map_drop]
  ·exact ih
noncomputable def dT (c:GCluster):List GTx:=eP (·.stamp) Y5 (fun t=>fZ t == 1) c.txs c.txs.length
open Classical in
noncomputable def fA (c:GCluster):List Int:=if ClusOk c then (dT c).map (·.id) else []
theorem yE {c:GCluster} {xs:List RT} (h:xs.map (·.1)=c.txs):(eP kT zT pT xs xs.length).map (·.1)=dT c:=by
 have:=KU (α:=RT) (γ:=GTx) (fun x=>x.1) (z:=zT) (key:=kT) (key':=fun t=>t.stamp) (p:=pT) (p':=fun t=>fZ t == 1) (fun _=>rfl) (fun _=>rfl) xs xs.length
 refine this.trans ?_
 unfold dT
 rw [← h,List.length_map]
theorem UC {r:PH} {p:RT} (h:RH r p) {vs:List Value} (hv:D.rds r (eT p) vs):D.rds r (cTx p.1) vs:=by
 obtain ⟨y1,t1,rfl,e1,y2,t2,rfl,e2,y3,t3,rfl,e3,y4,t4,rfl,e4,y5,t5,rfl,e5,y6,t6,rfl,e6,h7⟩:=hv
 have e5:y5=_:=e5
 have e6:y6=_:=e6
 subst e5 e6
 exact ⟨y1,_,rfl,e1,y2,_,rfl,e2,y3,_,rfl,e3,y4,_,rfl,e4,_,_,rfl,h.1,_,_,rfl,h.2,h7⟩
theorem nD {P:Program} {B:BE} {Z:Tg→PH} {c:GCluster} {xs:List RT} (h1:xs.map (·.1)=c.txs) (h2:∀ i,i<xs.length→RH (Z .r) (xs.getD i zT)) {v:Value} (hv:SV.rel P B Z (vR (oF c xs)) v):SV.rel P B Z (vR (bK c)) v:=by
 obtain ⟨vs,rfl,y1,t1,rfl,e1,y2,t2,rfl,e2,y3,t3,rfl,e3,y4,t4,rfl,e4,y5,t5,rfl,e5,h6⟩:=hv
 refine ⟨_,rfl,y1,_,rfl,e1,y2,_,rfl,e2,y3,_,rfl,e3,y4,_,rfl,e4,y5,_,rfl,?_,h6⟩
 obtain ⟨A,cc,k1,k2,k3,k4⟩:=(show D.rd (Z .r) (.sl 7 xs.length fun i=>eT (xs.getD i zT)) y5 from e5)
 have hl:xs.length=c.txs.length:=by rw [← h1,List.length_map]
 show D.rd (Z .r) (.sl 7 c.txs.length fun i=>cTx (c.txs.getD i Y5)) y5
 rw [hl] at k1 k2 k3 k4
 refine ⟨A,cc,k1,k2,k3,k4.imp id fun ⟨b,o,q1,q2⟩=>⟨b,o,q1,fun i hi=>?_⟩⟩
 obtain ⟨row,r1,r2,r3⟩:=q2 i hi
 refine ⟨row,?_,r2,r3⟩
 have:=UC (h2 i (by omega)) r1
 show D.rds (Z .r) (cTx (c.txs.getD i Y5)) row
 rwa [show c.txs.getD i Y5=(xs.getD i zT).1 from by rw [← h1];exact lQ (·.1) zT xs i]
set_option maxHeartbeats 1000000 in
theorem K9 (c:GCluster) (hb:D.bds eA (bK c)):MkL Tryz.prog 13 [vR (bK c)] 1 bL 0 (fA c):=by
 refine aD Tryz.func13 fun B0 r_ D_ w0=>?_
 refine rT 0 (φ:=fun xs:List RT=>xs.map (·.1)=c.txs∧∀ i,i<xs.length→RH r_ (xs.getD i zT)) (x':=fun xs=>vR (oF c xs)) rfl (fun B H v hv=>qQ hv) fun xs hx=>?_
 obtain ⟨x1,x2⟩:=hx
 have hxl:xs.length=c.txs.length:=by rw [← x1,List.length_map]
 refine aE ?_
 refine aL 33 (fun i=>bL (([]:List Int).getD i 0)) (fun i hi=>absurd hi (Nat.not_lt_zero _)) (mu1:=[]) ?_
 refine aM ?_
 refine cK (pF 7 rfl rfl (fun B H v hv=>nD x1 x2 hv)) ?_
 refine aG (eK c hb) ?_
 refine eZ rfl (fun e=>?_) (fun e=>?_)
 ·rw [show fA c=[] from by unfold fA;rw [if_neg (kO.1 e)]]
  refine aE ?_
  refine a9 (bH 33 900) ?_
  refine aC (()) [(2,none)] ?_ ?_ ?_
  ·exact ZF _
  ·exact wM
  ·trivial
 have hok:=fP.1 e
 have htl:c.txs.length≤60:=hok.1.2.2.2
 have ho:=yE x1
 have hol:=qW (key:=kT) (z:=zT) (p:=pT) (xs:=xs) xs.length
 rw [show fA c=(eP kT zT pT xs xs.length).map (fun p=>p.1.id) from by unfold fA;rw [if_pos hok, ← ho,List.map_map];rfl]
 refine aE ?_
 refine u9 TT_ok (ConX.sw 900 41 (D1 c xs (by omega) x2)) rfl rfl (ZF _) (fun _=>rfl) rfl rfl rfl fun _ _=>?_
 refine aM ?_
 generalize eP kT zT pT xs xs.length=ys at hol ⊢
 refine aJ (ι:=Nat) (fun i=>[(5,vI i),(3, .a (.g 33))]) (fun i=>[(33,bE 1 bL 0 ((ys.take i).map fun p=>p.1.id))]) (fun i=>i≤ys.length) (fun i=>ys.length - i) 0 [33] [33] (Nat.zero_le _) ?_
 intro i h1
 have hl2:((ys.take i).map fun p=>p.1.id).length=i:=by rw [List.length_map,List.length_take];omega
 refine aE ?_
 refine aH (fun e2=>?_) (fun e2=>?_)
 ·have hi:i<ys.length:=by omega
  refine aE ?_
  refine cJ TT_ok 66 (fun _=>bL (ys.getD i zT).1.id) rfl rfl rfl rfl rfl rfl rfl (fun i hi=>by rcases i with _ | i <;>first | rfl | omega) (mu1:=[]) rfl rfl rfl ?_
  refine aM ?_
  refine cL TT_ok 33 66 67 rfl rfl rfl rfl rfl rfl rfl rfl rfl rfl rfl rfl ⟨by simp;omega,by unfold maxL;omega⟩ ?_
  refine aM ?_
  refine bC (bH 33 67) ?_
  exact bF (i+1) hi (by omega) wF ⟨⟨_,rfl,cX (x:=(ys.getD i zT).1.id) (by rw [b7 (z:=zT) hi,List.map_append];rfl) rfl⟩,wM⟩
 ·have hi:i=ys.length:=by omega
  subst hi
  rw [List.take_length]
  refine aE ?_
  refine a9 (bH 33 900) ?_
  refine aC (()) [(2,none)] ?_ ?_ ?_
  ·exact ZF _
  ·exact wM
  ·trivial
end
section
abbrev oS (l:List GCell):List D:=[dL 2 cQ Y9 l]
abbrev gN (n:Nat):Regs:=List.replicate n cells0
def oD (n:Nat) (ts:List GTx) (i:Nat):Regs:=(jM (gN n) (ts.take i)).getD []
def lE (n:Nat) (ts:List GTx) (i:Nat):Prop:=jM (gN n) (ts.take i)=some (oD n ts i)
structure TsOk (n:Nat) (ts:List GTx):Prop where
 ok:∀ t ∈ ts,dV t
 note:∀ t ∈ ts,∀ x ∈ t.reads,0≤x.region∧x.region<n
 set:∀ t ∈ ts,∀ x ∈ t.sets,0≤x.region∧x.region<n
theorem TsOk.setB {n:Nat} {ts:List GTx} (h:TsOk n ts) {t:GTx} (ht:t ∈ ts) {s:GSet} (hs:s ∈ t.sets):setB s=true∧0≤s.region∧s.region<n:=by
 refine ⟨?_,h.set t ht s hs⟩
 obtain ⟨i,hi,e⟩:=List.mem_iff_getElem.1 hs
 have:=((h.ok t ht).2.2 i hi).1
 rw [show t.sets.getD i Y7=s from by rw [← e];simp [hi]] at this
 exact this
theorem TsOk.noteB {n:Nat} {ts:List GTx} (h:TsOk n ts) {t:GTx} (ht:t ∈ ts) {s:GNote} (hs:s ∈ t.reads):noteB s=true∧0≤s.region∧s.region<n:=by
 refine ⟨?_,h.note t ht s hs⟩
 obtain ⟨i,hi,e⟩:=List.mem_iff_getElem.1 hs
 have:=((h.ok t ht).2.1 i hi).1
 rw [show t.reads.getD i Y8=s from by rw [← e];simp [hi]] at this
 exact this
theorem NK (n:Nat) (ts:List GTx):lE n ts 0:=rfl
theorem tS {n:Nat} {ts:List GTx} (h:TsOk n ts):∀ i,i≤ts.length→lE n ts i→RegOk (oD n ts i) n
 | 0,_,_=>TU n
 | i+1,hi,hg=>by
  have hm:ts.getD i Y5 ∈ ts:=bY hi
  unfold lE at hg
  rw [AP hi] at hg
  cases h1:jM (gN n) (ts.take i) with
  | none=>rw [h1] at hg;cases hg
  | some q =>
   have h2:lE n ts i:=by unfold lE oD;rw [h1];rfl
   have h3:=tS h i (by omega) h2
   unfold lE at h2
   rw [h1] at h2 hg
   injection h2 with h2
   exact UA (by rw [h2];exact h3) (fun s hs=>h.setB hm hs) hg
theorem EG {n:Nat} {ts:List GTx} {i:Nat} (hi:i<ts.length) (hg:lE n ts i) {q:Regs} (hq:l4 (oD n ts i) (ts.getD i Y5)=some q):lE n ts (i+1)∧oD n ts (i+1)=q:=by
 have e:jM (gN n) (ts.take (i+1))=some q:=by rw [AP hi,hg];exact hq
 have e2:oD n ts (i+1)=q:=by unfold oD;rw [e];rfl
 exact ⟨by unfold lE;rw [e2];exact e,e2⟩
theorem FL {n:Nat} {ts:List GTx} {i:Nat} (hi:i<ts.length) (hg:lE n ts i) (hq:l4 (oD n ts i) (ts.getD i Y5)=none):jM (gN n) ts=none:=by
 refine HO (k:=i+1) ?_
 rw [AP hi,hg];exact hq
theorem A1 {n:Nat} {ts:List GTx} (hg:lE n ts ts.length):jM (gN n) ts=some (oD n ts ts.length):=by
 unfold lE at hg;rwa [List.take_length] at hg
theorem uC {α:Type} {z:α} {p:α→Bool} {xs:List α} {i:Nat} (hi:i<xs.length) (h:p (xs.getD i z)=true):xs.any p=true:=List.any_eq_true.2 ⟨_,bY hi,h⟩
theorem y8 {α:Type} {z:α} {p:α→Bool} {xs:List α} (h:∀ i,i<xs.length→p (xs.getD i z)=false):¬ xs.any p=true:=fun e=>by
 obtain ⟨x,hx,e2⟩:=List.any_eq_true.1 e
 obtain ⟨i,hi,e3⟩:=List.mem_iff_getElem.1 hx
 have:=h i hi
 rw [show xs.getD i z=x from by rw [← e3];simp [hi],e2] at this
 cases this
abbrev VU (t:GTx):List V:=[.v (.int .i64 t.id), .v (.int .i64 t.home), .v (.int .i64 t.phase), .v (.int .i64 t.done), .s .r 5 t.reads.length fun i=>cR (t.reads.getD i Y8), .s .r 5 t.sets.length fun i=>cH (t.sets.getD i Y7), .v (.int .i64 t.stamp)]
theorem YG {B:BE} {r h:PH} {p:RT} (hr:RH r p) {vs:List Value} (hv:V.owns B r h [.v (.int .i64 p.1.id), .v (.int .i64 p.1.home), .v (.int .i64 p.1.phase), .v (.int .i64 p.1.done), .v (.slice p.2.1.1 p.2.1.2.1 p.2.1.2.2), .v (.slice p.2.2.1 p.2.2.2.1 p.2.2.2.2), .v (.int .i64 p.1.stamp)] vs):V.owns B r h (VU p.1) vs:=by
 obtain ⟨y1,t1,a1,b1,rfl,p1,q1,s1,e1,y2,t2,a2,b2,rfl,p2,q2,s2,e2,y3,t3,a3,b3,rfl,p3,q3,s3,e3,y4,t4,a4,b4,rfl,p4,q4,s4,e4,y5,t5,a5,b5,rfl,p5,q5,s5,e5,y6,t6,a6,b6,rfl,p6,q6,s6,e6,h7⟩:=hv
 refine ⟨y1,_,a1,b1,rfl,p1,q1,s1,e1,y2,_,a2,b2,rfl,p2,q2,s2,e2,y3,_,a3,b3,rfl,p3,q3,s3,e3,y4,_,a4,b4,rfl,p4,q4,s4,e4,y5,_,a5,b5,rfl,p5,q5,s5, .inr ⟨rfl,?_⟩,y6,_,a6,b6,rfl,p6,q6,s6, .inr ⟨rfl,?_⟩,h7⟩
 ·have e5:y5=_:=e5
  rw [e5];exact hr.1
 ·have e6:y6=_:=e6
  rw [e6];exact hr.2
theorem yP {α:Type} {z:α} {key:α→Int} {p:α→Bool} {xs:List α}:∀ n,n≤xs.length→∀ x ∈ eP key z p xs n,x ∈ xs
 | 0,_,x,hx=>by cases hx
 | n+1,hn,x,hx=>by
  rw [eP] at hx
  split at hx
  ·rcases List.mem_cons.1 ((insL_perm (k:=_) (x:=_) (xs:=_)).mem_iff.1 hx) with h | h
   ·subst h;exact bY (by omega)
   ·exact yP n (by omega) x h
  ·exact yP n (by omega) x hx
theorem QJ (n:Nat) (i:Nat):gN (i+1)=gN i ++ [cells0]:=by
 show List.replicate (i+1) cells0=_
 rw [List.replicate_succ']
theorem GI {rs:Regs} {r:Int} {y:List GCell}:(Ch.arr 1 rs.length fun j=>bif Nat.beq j r.toNat then oS y else oS (rs.getD j [])).imp (bE 1 oS [] (rs.set r.toNat y)):=bS (OwnI.refl _)
theorem XU {P:Program} {sets:List GSet} {k n:Nat} (h:n=1):(SV.a (.s .r 5 n fun i=>cH (sets.getD (k+i) Y7))).imp P (vL 5 cH Y7 [sets.getD k Y7]):=SV.imp_sl (by rw [h];rfl) fun i hi=>by
 have:i=0:=by omega
 subst this;rfl
set_option maxHeartbeats 4000000 in
theorem wC {r0:PH} (c:GCluster) (hok:ClusOk c) (xs:List RT) (x1:xs.map (·.1)=c.txs) (x2:∀ i,i<xs.length→RH r0 (xs.getD i zT)) (hts:TsOk c.places.length (dT c)) :
  ConX r0 Tryz.prog 39 [] [vR (oF c xs)] [] (fun q:Regs=>RegOk q c.places.length∧∀ q',jM (gN c.places.length) (dT c)=some q'→q=q') (fun _=>[.a (.g 900),vB (jM (gN c.places.length) (dT c)).isSome]) fun q=>[(900,bE 1 oS [] q)]:=by
 have hp6:=hok.2.1.1
 have hxl:xs.length=c.txs.length:=by rw [← x1,List.length_map]
 have htl:c.txs.length≤60:=hok.1.2.2.2
 have ho:=yE x1
 refine zG Tryz.func39 rfl rfl rfl fun B0 r_ D_ w0 hr=>?_
 refine aE ?_
 refine aL 15 (fun i=>oS (([]:Regs).getD i [])) (fun i hi=>absurd hi (Nat.not_lt_zero _)) (mu1:=[]) ?_
 refine aM ?_
 refine aJ (ι:=Nat) (fun i=>[(5,vI i),(4, .a (.g 15))]) (fun i=>[(15,bE 1 oS [] (gN i))]) (fun i=>i≤c.places.length) (fun i=>c.places.length - i) 0 [15] [15] (Nat.zero_le _) ?_
 intro i h1
 have hrl:(gN i).length=i:=List.length_replicate
 refine aE ?_
 refine aH (fun e=>?_) (fun e=>?_)
 ·have hi:i<c.places.length:=by omega
  refine aE ?_
  refine aP (ZG 900 24 zD) fun _ _=>?_
  refine aM ?_
  refine cJ TT_ok 25 (fun _=>oS cells0) rfl rfl rfl rfl rfl rfl rfl (fun i hi=>by rcases i with _ | i <;>first | rfl | omega) (mu1:=[(24, .arr 0 0 fun _=>[])]) rfl rfl rfl ?_
  refine aM ?_
  refine cL TT_ok 15 25 26 rfl rfl rfl rfl rfl rfl rfl rfl rfl rfl rfl rfl ⟨by show ((gN i).length+1) * 24≤_;omega,by unfold maxL;omega⟩ ?_
  refine aM ?_
  refine bC (bH 15 26) ?_
  exact bF (i+1) hi (by omega) wF ⟨⟨_,rfl,cX (x:=cells0) (QJ c.places.length i) rfl⟩,wM⟩
 have hi:i=c.places.length:=by omega
 subst hi
 have hol:=qW (key:=kT) (z:=zT) (p:=pT) (xs:=xs) xs.length
 have hom:∀ p ∈ eP kT zT pT xs xs.length,RH r0 p:=fun p hp=>by
  obtain ⟨i,hi,e⟩:=List.mem_iff_getElem.1 (yP xs.length (Nat.le_refl _) p hp)
  have:=x2 i hi
  rwa [show xs.getD i zT=p from by rw [← e];simp [hi]] at this
 refine aE ?_
 refine u9 TT_ok (ConX.sw 900 41 (D1 c xs (by omega) fun i hi=>(x2 i hi).mono hr)) rfl rfl (ZF _) (fun _=>rfl) rfl rfl rfl fun _ _=>?_
 generalize hys:eP kT zT pT xs xs.length=ys at ho hol hom ⊢
 have hyl:(dT c).length=ys.length:=by rw [← ho,List.length_map]
 have hyg:∀ i,(dT c).getD i Y5=(ys.getD i zT).1:=fun i=>by rw [← ho];exact lQ (·.1) zT ys i
 refine aM ?_
 refine aJ (ι:=Nat) (fun i=>[(7,vI i)]) (fun i=>[(15,bE 1 oS [] (oD c.places.length (dT c) i))]) (fun i=>i≤ys.length∧lE c.places.length (dT c) i) (fun i=>ys.length - i) 0 [15] [] ⟨Nat.zero_le _,NK _ _⟩ ?_
 intro i ⟨h1,h2⟩
 refine aE ?_
 refine aH (fun e=>?_) (fun e=>?_)
 ·have hi:i<ys.length:=by omega
  have hro:=tS hts i (by omega) h2
  have hgs:=fun q (hq:l4 _ _=some q)=>EG (i:=i) (by omega) h2 hq
  have hgx:=FL (i:=i) (by omega) h2
  have htm:(dT c).getD i Y5 ∈ dT c:=bY (by omega)
  have hnb:=fun s hs=>hts.noteB htm (s:=s) hs
  have hsb:=fun s hs=>hts.setB htm (s:=s) hs
  have hto:=hts.ok _ htm
  have hrh:=(hom _ (bY (z:=zT) hi)).mono hr
  rw [hyg] at hgs hgx hnb hsb hto
  generalize hrs:oD c.places.length (dT c) i=rs at hro hgs hgx ⊢
  generalize hp:ys.getD i zT=p at hgs hgx hnb hsb hto hrh ⊢
  have hrl2:=hro.len
  have h12:p.1.reads.length≤12∧p.1.sets.length≤12:=hto.1.2.2.2.2.2
  refine aE ?_
  rw [show ys.getD (i:Int).toNat zT=p from hp]
  refine a9 (OM 8 (l':=VU p.1) rfl rfl rfl fun B w H m h' vs hv=>YG hrh hv) ?_
  refine aJ (ι:=Nat) (fun k=>[(9,vI k)]) (fun _=>[]) (fun k=>k≤p.1.reads.length∧∀ j,j<k→vQ rs (p.1.reads.getD j Y8)=false) (fun k=>p.1.reads.length - k) 0 [] [] ⟨Nat.zero_le _,fun j hj=>absurd hj (Nat.not_lt_zero _)⟩ ?_
  intro k ⟨k1,k2⟩
  refine aE ?_
  refine aH (fun e2=>?_) (fun e2=>?_)
  ·have hk:k<p.1.reads.length:=by omega
   obtain ⟨n1,n2,n3⟩:=hnb _ (bY (z:=Y8) hk)
   have n4:=(vM.1 n1).2.1
   generalize hx:p.1.reads.getD k Y8=x at n1 n2 n3 n4
   obtain ⟨q1,q2⟩:=hro.head (r:=x.region) (s:=x.slot) ⟨n2,n3⟩ n4
   have q3:=(eI.1 (hro.ok x.region.toNat (by omega))).1
   have q4:0≤x.region∧x.region<(rs.length:Int):=⟨n2,by rw [hrl2];exact n3⟩
   have q5:0≤x.slot∧x.slot<((rs.getD x.region.toNat []).length:Int):=⟨n4.1,by rw [q3];omega⟩
   refine aE ?_
   rw [show p.1.reads.getD (k:Int).toNat Y8=x from hx]
   refine aW [] [0,1,2,3,4,5,6,7,8,9,10] fun B0 H0=>?_
   refine bB 9 rfl (by kernel_rfl) (aR (bA ?_))
   refine bB 10 rfl (by kernel_rfl) (aR (bA ?_))
   refine aN ?_
   refine aW [] [0,1,3,4,2,5,6,7,8,9,10,11,12,13,14,15,16,17,18,19,20] fun B0 H0=>?_
   refine f6 2 (gV _) rfl rfl rfl (ZF _) rfl ?_
   refine aY [5,6,7,8,9,10,11,12,13,14,15,17,18,16,19,20] ?_
   refine f6 16 (qY _) rfl rfl rfl (ZF _) rfl ?_
   refine aY [19,20] ?_
   refine aN ?_
   refine aA (b:=vQ rs x) (fun e3=>?_) (fun e3=>?_)
   ·have hno:jM (gN c.places.length) (dT c)=none:=hgx (by unfold l4;rw [if_pos (uC (z:=Y8) hk (by rw [hx];exact e3))])
    refine aE ?_
    refine a9 (bH 15 900) ?_
    refine aC (rs) [(2,none),(3,none)] ?_ ?_ ?_
    ·rw [hno];exact ZF _
    ·exact wM
    ·exact ⟨hro,fun q' hq=>by rw [hno] at hq;cases hq⟩
   ·refine aE ?_
    refine aK (k+1) ⟨hk,fun j hj=>?_⟩ (by omega)
    by_cases c1:j=k
    ·subst c1;rw [hx];exact e3
    ·exact k2 j (by omega)
  have hk:k=p.1.reads.length:=by omega
  subst hk
  have hrn:¬ p.1.reads.any (vQ rs)=true:=y8 (z:=Y8) k2
  refine aE ?_
  refine aJ (ι:=Nat) (fun k=>[(12,vI k)]) (fun _=>[]) (fun k=>k≤p.1.sets.length∧∀ j,j<k→xJ rs (p.1.sets.getD j Y7)=false) (fun k=>p.1.sets.length - k) 0 [] [] ⟨Nat.zero_le _,fun j hj=>absurd hj (Nat.not_lt_zero _)⟩ ?_
  intro k ⟨k3,k4⟩
  refine aE ?_
  refine aH (fun e3=>?_) (fun e3=>?_)
  ·have hk:k<p.1.sets.length:=by omega
   obtain ⟨n1,n2,n3⟩:=hsb _ (bY (z:=Y7) hk)
   have n4:=(k9.1 n1).2.1
   generalize hx:p.1.sets.getD k Y7=x at n1 n2 n3 n4
   obtain ⟨q1,q2⟩:=hro.head (r:=x.region) (s:=x.slot) ⟨n2,n3⟩ n4
   have q3:=(eI.1 (hro.ok x.region.toNat (by omega))).1
   have q4:0≤x.region∧x.region<(rs.length:Int):=⟨n2,by rw [hrl2];exact n3⟩
   have q5:0≤x.slot∧x.slot<((rs.getD x.region.toNat []).length:Int):=⟨n4.1,by rw [q3];omega⟩
   refine aE ?_
   rw [show p.1.sets.getD (k:Int).toNat Y7=x from hx]
   refine aW [] [0,1,2,3,4,5,6,7,8,9,11,12,10,13] fun B0 H0=>?_
   refine f6 10 (gV _) rfl rfl rfl (ZF _) rfl ?_
   refine aY [13] ?_
   refine aN ?_
   refine aA (b:=xJ rs x) (fun e4=>?_) (fun e4=>?_)
   ·have hno:jM (gN c.places.length) (dT c)=none:=hgx (by unfold l4;rw [if_neg hrn,if_pos (uC (z:=Y7) hk (by rw [hx];exact e4))])
    refine aE ?_
    refine a9 (bH 15 900) ?_
    refine aC (rs) [(2,none),(3,none)] ?_ ?_ ?_
    ·rw [hno];exact ZF _
    ·exact wM
    ·exact ⟨hro,fun q' hq=>by rw [hno] at hq;cases hq⟩
   ·refine aE ?_
    refine aK (k+1) ⟨hk,fun j hj=>?_⟩ (by omega)
    by_cases c1:j=k
    ·subst c1;rw [hx];exact e4
    ·exact k4 j (by omega)
  have hk:k=p.1.sets.length:=by omega
  subst hk
  have hsn:¬ p.1.sets.any (xJ rs)=true:=y8 (z:=Y7) k4
  obtain ⟨hg1,hg2⟩:=hgs (p.1.sets.foldl l9 rs) (by unfold l4;rw [if_neg hrn,if_neg hsn])
  refine aE ?_
  refine aJ (ι:=Nat) (fun k=>[(14,vI k)]) (fun k=>[(15,bE 1 oS [] ((p.1.sets.take k).foldl l9 rs))]) (fun k=>k≤p.1.sets.length) (fun k=>p.1.sets.length - k) 0 [15] [] (Nat.zero_le _) ?_
  intro k k5
  refine aE ?_
  refine aH (fun e4=>?_) (fun e4=>?_)
  ·have hk:k<p.1.sets.length:=by omega
   obtain ⟨n1,n2,n3⟩:=hsb _ (bY (z:=Y7) hk)
   have hF:=n6 (z:=Y7) l9 rs hk
   have hro2:RegOk ((p.1.sets.take k).foldl l9 rs) c.places.length:=zC (fun s hs=>hsb s (List.mem_of_mem_take hs)) hro
   generalize (p.1.sets.take k).foldl l9 rs=rk at hF hro2 ⊢
   have q4:0≤(p.1.sets.getD (k:Int).toNat Y7).region∧(p.1.sets.getD (k:Int).toNat Y7).region<(rk.length:Int):=⟨n2,by rw [hro2.len];exact n3⟩
   refine a9 (d6 15 (p.1.sets.getD (k:Int).toNat Y7).region 70 rfl rfl rfl rfl rfl rfl q4) ?_
   refine a9 (aV 70 0 71) ?_
   refine aE ?_
   refine aW [71] [0,1,2,3,4,5,6,7,9,10,11,12,13,14,8,15] fun B0 H0=>?_
   refine vF (uZ 123 rfl rfl rfl) ?_
   refine aY [8,15] ?_
   refine qU 15 (ZG 900 71 (qZ (rk.getD (p.1.sets.getD k Y7).region.toNat []) [p.1.sets.getD k Y7] (Nat.le_add_left 1 1048575) (hro2.ok _ (by omega)) (fun s hs=>by rw [List.mem_singleton.1 hs];exact n1))) rfl rfl rfl (SVs.cons (ZD _) (SVs.cons (XU (by omega)) rfl)) (fun _=>rfl) rfl rfl rfl fun _ _=>?_
   refine aN ?_
   refine bC (a7 70 0 71) ?_
   refine bC (aZ 15 70) ?_
   exact bF (k+1) hk (by omega) wF ⟨⟨_,rfl,by rw [hF];exact GI⟩,wM⟩
  have hk:k=p.1.sets.length:=by omega
  subst hk
  rw [List.take_length, ← hg2]
  refine aE ?_
  exact aK (i+1) ⟨hi,hg1⟩ (by omega)
 ·have hi:i=ys.length:=by omega
  rw [← hyl] at hi
  subst hi
  have hend:=A1 h2
  refine aE ?_
  refine a9 (bH 15 900) ?_
  refine aC ((oD c.places.length (dT c) (dT c).length)) [(2,none),(3,none)] ?_ ?_ ?_
  ·rw [hend];exact ZF _
  ·exact wM
  ·exact ⟨tS hts _ (Nat.le_refl _) h2,fun q' hq=>by rw [hend] at hq;injection hq⟩
end
section
theorem vJ {α:Type} {z:α} {xs:List α} {i:Nat} (h:i<xs.length):xs.getD i z=xs[i]:=by simp [List.getD_eq_getElem?_getD,h]
theorem uL {c:GCluster} {t:GTx} (h:t ∈ dT c):∃ i,i<c.txs.length∧c.txs.getD i Y5=t:=by
 obtain ⟨i,hi,e⟩:=List.mem_iff_getElem.1 (yP c.txs.length (Nat.le_refl _) t h)
 exact ⟨i,hi,by rw [← e];simp [hi]⟩
theorem wT {c:GCluster} (hok:ClusOk c):TsOk c.places.length (dT c) where
 ok t ht:=by obtain ⟨i,hi,rfl⟩:=uL ht;exact hok.tx hi
 note t ht x hx:=by
  obtain ⟨i,hi,rfl⟩:=uL ht
  obtain ⟨k,hk,e⟩:=List.mem_iff_getElem.1 hx
  have:=hok.note hi hk
  rwa [vJ hk,e] at this
 set t ht x hx:=by
  obtain ⟨i,hi,rfl⟩:=uL ht
  obtain ⟨k,hk,e⟩:=List.mem_iff_getElem.1 hx
  have:=hok.set hi hk
  rwa [vJ hk,e] at this
open Classical in
noncomputable def d9 (c:GCluster):Option Regs:=if ClusOk c then jM (gN c.places.length) (dT c) else none
theorem nC {c:GCluster} {q:Regs} (h:d9 c=some q):ClusOk c∧jM (gN c.places.length) (dT c)=some q∧RegOk q c.places.length:=by
 unfold d9 at h
 split at h
 ·rename_i hok
  refine ⟨hok,h,?_⟩
  have hn:∀ i,i≤(dT c).length→lE c.places.length (dT c) i:=fun i hi=>by
   cases e:jM (gN c.places.length) ((dT c).take i) with
   | none=>rw [HO e] at h;cases h
   | some q'=>unfold lE oD;rw [e];rfl
  have h1:=hn _ (Nat.le_refl _)
  have h2:=tS (wT hok) _ (Nat.le_refl _) h1
  rw [A1 h1] at h
  injection h with h
  rwa [h] at h2
 ·cases h
noncomputable def gT (c:GCluster) (r0:Int):List GCell×Bool:=match d9 c with
 | some q=>if 0≤r0∧r0<c.places.length then (q.getD r0.toNat [],true) else ([],false)
 | none=>([],false)
def pW (c:GCluster) (q:Regs) (r s:Nat):Prop:=eW (fB c r s).head=true∨fB c r s=f8 q r s
def sH (c:GCluster) (q:Regs) (r:Nat):Prop:=(b8 c r 0).alive=true→∀ s,s<6→pW c q r s
open Classical in
noncomputable def nO (c:GCluster):Bool:=match d9 c with
 | some q=>dec (∀ r,r<c.places.length→sH c q r)
 | none=>false
theorem sE (c:GCluster) (hb:D.bds eA (bK c)):Ans Tryz.prog 9 [] [vR (bK c)] [] (vB (d9 c).isSome):=by
 refine aD Tryz.func9 fun B0 r_ D_ w0=>?_
 refine rT 0 (φ:=fun xs:List RT=>xs.map (·.1)=c.txs∧∀ i,i<xs.length→RH r_ (xs.getD i zT)) (x':=fun xs=>vR (oF c xs)) rfl (fun B H v hv=>qQ hv) fun xs hx=>?_
 obtain ⟨x1,x2⟩:=hx
 refine aE ?_
 refine cK (pF 5 rfl rfl (fun B H v hv=>nD x1 x2 hv)) ?_
 refine aG (eK c hb) ?_
 refine eZ rfl (fun e=>?_) (fun e=>?_)
 ·refine aE ?_
  exact cE TT_ok [(2,none)] rfl rfl ((by unfold d9;rw [if_neg (kO.1 e)];rfl))
 have hok:=fP.1 e
 refine aE ?_
 refine u9 TT_ok (ConX.sw 900 41 (wC c hok xs x1 x2 (wT hok))) rfl rfl (ZF _) (fun _=>rfl) rfl rfl rfl fun q hq=>?_
 refine aM ?_
 exact cE TT_ok [(2,none)] rfl rfl ((by unfold d9;rw [if_pos hok]))
theorem M3 {c:GCluster} (h:(d9 c).isSome=true):∃ q,d9 c=some q:=Option.isSome_iff_exists.1 h
theorem LT (c:GCluster) (hb:D.bds eA (bK c)) (r0:Int):NJ Tryz.prog 21 [vR (bK c),vI r0] (gT c r0).1 (gT c r0).2:=by
 have b1:c.places.length≤1048576:=hb.2.2.1.1
 refine aD Tryz.func21 fun B0 r_ D_ w0=>?_
 refine rT 0 (φ:=fun xs:List RT=>xs.map (·.1)=c.txs∧∀ i,i<xs.length→RH r_ (xs.getD i zT)) (x':=fun xs=>vR (oF c xs)) rfl (fun B H v hv=>qQ hv) fun xs hx=>?_
 obtain ⟨x1,x2⟩:=hx
 refine aE ?_
 refine cK (pF 8 rfl rfl (fun B H v hv=>nD x1 x2 hv)) ?_
 refine aG (sE c hb) ?_
 refine aG (cV _ _ _) ?_
 rw [NT]
 refine aA (fun e=>?_) (fun e=>?_)
 ·have h0:gT c r0=([],false):=by
   unfold gT
   cases hq:d9 c with
   | none=>rfl
   | some q =>
    rw [hq] at e
    have:¬ (0≤r0∧r0<(c.places.length:Int)):=fun h=>by rw [decide_eq_true h] at e;cases e
    exact if_neg this
  rw [h0]
  refine aE ?_
  refine aL 900 (fun i=>cQ (([]:List GCell).getD i Y9)) (fun i hi=>absurd hi (Nat.not_lt_zero _)) (mu1:=[]) ?_
  refine aM ?_
  refine aC (()) [(4,none),(5,none)] ?_ ?_ ?_
  ·exact ZF _
  ·exact wM
  ·trivial
 have hS:∃ q,d9 c=some q∧0≤r0∧r0<(c.places.length:Int):=by
  cases hq:d9 c with
  | none=>rw [hq] at e;cases e
  | some q=>rw [hq] at e;exact ⟨q,rfl,of_decide_eq_true (by simpa using e)⟩
 obtain ⟨q,hS,hr⟩:=hS
 obtain ⟨hok,hq,hqo⟩:=nC hS
 rw [show gT c r0=(q.getD r0.toNat [],true) from by unfold gT;rw [hS];exact if_pos hr]
 clear e
 refine aE ?_
 refine u9 TT_ok (ConX.sw 900 41 (wC c hok xs x1 x2 (wT hok))) rfl rfl (ZF _) (fun _=>rfl) rfl rfl rfl fun q2 hq2=>?_
 have e2:=hq2.2 q hq
 subst e2
 have q4:0≤r0∧r0<(q2.length:Int):=by rw [hqo.len];exact hr
 refine cK (d6 41 r0 70 rfl rfl rfl rfl rfl rfl q4) ?_
 refine cK (aV 70 0 71) ?_
 refine aM ?_
 refine cK (j6 28 rfl rfl rfl) ?_
 refine aM ?_
 refine a9 (bH 71 900) ?_
 refine aC (()) [(4,none),(5,none)] ?_ ?_ ?_
 ·exact ZF _
 ·exact wM
 ·trivial
theorem EO {c:GCluster} {q:Regs} (h:d9 c=some q) {r:Nat} (hr:r<c.places.length) (hn:¬ sH c q r):nO c=false:=by
 unfold nO
 rw [h]
 exact cF fun k=>hn (k r hr)
theorem C1 {c:GCluster} {q:Regs} (h:d9 c=some q) (hn:∀ r,r<c.places.length→sH c q r):nO c=true:=by
 unfold nO
 rw [h]
 exact dG hn
theorem GE {l:Bool} {x y:GCell}:(bif !l then !bif x.head == y.head then (bif x.value == y.value then true else false) else false else false)=true ↔ ¬ (l=true∨x=y):=by
 obtain ⟨a,b⟩:=x
 obtain ⟨d,e⟩:=y
 cases l
 ·by_cases h1:a=d <;>by_cases h2:b=e <;>simp [h1,h2]
 ·simp
set_option maxHeartbeats 1000000 in
theorem I0 (c:GCluster) (hb:D.bds eA (bK c)):Ans Tryz.prog 19 [] [vR (bK c)] [] (vB (nO c)):=by
 have b1:c.places.length≤1048576:=hb.2.2.1.1
 refine aD Tryz.func19 fun B0 r_ D_ w0=>?_
 refine rT 0 (φ:=fun xs:List RT=>xs.map (·.1)=c.txs∧∀ i,i<xs.length→RH r_ (xs.getD i zT)) (x':=fun xs=>vR (oF c xs)) rfl (fun B H v hv=>qQ hv) fun xs hx=>?_
 obtain ⟨x1,x2⟩:=hx
 refine aE ?_
 refine cK (pF 10 rfl rfl (fun B H v hv=>nD x1 x2 hv)) ?_
 refine aG (sE c hb) ?_
 refine eZ rfl (fun e=>?_) (fun e=>?_)
 ·refine aE ?_
  exact cE TT_ok [(2,none)] rfl rfl ((by unfold nO;cases hq:d9 c with | none=>rfl | some q=>rw [hq] at e;cases e))
 obtain ⟨q,hS⟩:=M3 e
 obtain ⟨hok,hq,hqo⟩:=nC hS
 have hp6:=hok.2.1.1
 have hql:=hqo.len
 refine aE ?_
 refine u9 TT_ok (ConX.sw 900 41 (wC c hok xs x1 x2 (wT hok))) rfl rfl (ZF _) (fun _=>rfl) rfl rfl rfl fun q2 hq2=>?_
 have e2:=hq2.2 q hq
 subst e2
 refine aM ?_
 refine aJ (ι:=Nat) (fun r=>[(5,vI r)]) (fun _=>[]) (fun r=>r≤c.places.length∧∀ j,j<r→sH c q2 j) (fun r=>c.places.length - r) 0 [] [] ⟨Nat.zero_le _,fun j hj=>absurd hj (Nat.not_lt_zero _)⟩ ?_
 intro r ⟨h1,h2⟩
 have hnext:r<c.places.length→sH c q2 r→∀ j,j<r+1→sH c q2 j:=fun _ h j hj=>by
  by_cases c1:j=r
  ·subst c1;exact h
  ·exact h2 j (by omega)
 refine aE ?_
 refine aH (fun e3=>?_) (fun e3=>?_)
 ·have hr:r<c.places.length:=by omega
  have hpl:=hok.pl hr
  have hm:=hok.at (r:=r) (k:=0) hr (by omega)
  have hm1:=hm.1
  have bm:=tE hb (mAt c r 0).toNat
  have hP:=vZ c hb hok r ⟨by omega,by omega⟩
  rw [Int.toNat_natCast] at hP
  refine aE ?_
  refine cK (pF 26 rfl rfl (fun B H v hv=>nD x1 x2 hv)) ?_
  cases ha:(b8 c r 0).alive with
  | false =>
   rw [if_neg (by rw [ha];simp)] at hP
   refine aP (hP) fun _ _=>?_
   refine aM ?_
   refine nZ rfl (fun e=>?_) (fun e=>absurd (by decide) e)
   refine aE ?_
   exact aK (r+1) ⟨hr,hnext hr fun h=>by rw [ha] at h;cases h⟩ (by omega)
  | true =>
   rw [if_pos ha] at hP
   have hh:=hm.2 ha
   have gi:=yB hh
   have hcl:=iZ hh
   have hl6:=(gM (hok.mach hr (k:=0) (by omega)) hh).1
   refine aP (hP) fun _ _=>?_
   refine aM ?_
   refine nZ rfl (fun e=>absurd e (by omega)) (fun e=>?_)
   have hce:∀ s,fB c r s=(cellsOf (b8 c r 0) r).getD s.toNat Y9:=fun s=>rfl
   rw [hcl] at hl6 hce
   refine aE ?_
   refine aJ (ι:=Nat) (fun s=>[(9,vI s)]) (fun _=>[]) (fun s=>s≤6∧∀ j,j<s→pW c q2 r j) (fun s=>6 - s) 0 [] [] ⟨Nat.zero_le _,fun j hj=>absurd hj (Nat.not_lt_zero _)⟩ ?_
   intro s ⟨k1,k2⟩
   refine aE ?_
   refine aH (fun e5=>?_) (fun e5=>?_)
   ·have hs:s<6:=by omega
    have hq6:=(eI.1 (hqo.ok r hr)).1
    have hq6:(q2.getD (r:Int).toNat []).length=6:=hq6
    refine aE ?_
    refine aW [] [0,1,2,3,4,5,6,7,8,9,10,11,12,13,14,15,16,17,18,19,20] fun B0 H0=>?_
    refine f6 5 (mC _) rfl rfl rfl (ZF _) rfl ?_
    refine aY [6,7,8,9,10,11,12,13,14,15,16,17,18,19,20] ?_
    refine aN ?_
    refine aA (fun e6=>?_) (fun e6=>?_)
    ·have hbad:¬ pW c q2 r s:=by
      unfold pW
      rw [hce]
      exact GE.1 e6
     refine aE ?_
     exact aF [(2,none)] ((EO hS hr fun h=>hbad (h ha s hs)).symm)
    ·have hgood:pW c q2 r s:=by
      unfold pW
      rw [hce]
      exact Classical.not_not.1 fun h=>absurd ((GE.2 h).symm.trans e6) (by simp)
     refine aE ?_
     refine aK (s+1) ⟨hs,fun j hj=>?_⟩ (by omega)
     by_cases c1:j=s
     ·subst c1;exact hgood
     ·exact k2 j (by omega)
   ·have hs:s=6:=by omega
    subst hs
    refine aE ?_
    exact aK (r+1) ⟨hr,hnext hr fun _=>k2⟩ (by omega)
 ·have hr:r=c.places.length:=by omega
  subst hr
  refine aE ?_
  exact aF [(2,none)] ((C1 hS h2).symm)
end
section
theorem T8 (a b:RT):Ans Tryz.prog 103 [] [vR (eT a),vR (eT b)] [] (vI (mA a.1.stamp b.1.stamp)):=by
 refine aD Tryz.func103 fun B0 r_ D_ w0=>?_
 refine aE ?_
 refine aG (BH _ _) ?_
 exact aI [(4,none)] (rfl)
theorem M8 (p:RT):Ans Tryz.prog 101 [] [vP (eT p)] [] (vB (kU p.1)):=by
 refine aD Tryz.func101 fun B0 r_ D_ w0=>?_
 refine aE ?_
 refine aF [(2,none)] ?_
 unfold kU
 rw [Bool.eq_iff_iff]
 simp
 omega
theorem v8 {α:Type} {z:α} {p:α→Bool} {xs:List α} {i:Nat} (hi:i<xs.length):(xs.take (i+1)).filter p=if p (xs.getD i z)=true then (xs.take i).filter p ++ [xs.getD i z] else (xs.take i).filter p:=by
 rw [b7 (z:=z) hi,List.filter_append]
 split
 ·rename_i h;rw [show [xs.getD i z].filter p=[xs.getD i z] from by simp only [List.filter,h]]
 ·rename_i h
  have h:p (xs.getD i z)=false:=by simpa using h
  rw [show [xs.getD i z].filter p=[] from by simp only [List.filter,h],List.append_nil]
set_option maxHeartbeats 1000000 in
theorem NO (c:GCluster) (xs:List RT) (hl:xs.length≤60) (hx:∀ i j,i<j→j<xs.length→iT (xs.getD i zT)<iT (xs.getD j zT)) :
  MkL Tryz.prog 49 [vP (oF c xs)] 1 bL 0 ((eP kT zT (fun p=>kU p.1) xs xs.length).map fun p=>p.1.id):=by
 refine aD Tryz.func49 fun B0 r_ D_ w0=>?_
 refine aE ?_
 refine a9 (yS 3 33 7 (fun i=>eT (([]:List RT).getD i zT)) rfl rfl rfl rfl) ?_
 refine aJ (ι:=Nat) (fun i=>[(14,vI i),(3, .a (.g 33))]) (fun i=>[(33,bE 7 eT zT ((xs.take i).filter fun p=>kU p.1))]) (fun i=>i≤xs.length) (fun i=>xs.length - i) 0 [33] [33] (Nat.zero_le _) ?_
 intro i h1
 have hfl:((xs.take i).filter fun p=>kU p.1).length≤i:=Nat.le_trans (List.length_filter_le _ _) (by rw [List.length_take];omega)
 refine aE ?_
 refine aH (fun e=>?_) (fun e=>?_)
 ·have hi:i<xs.length:=by omega
  refine aE ?_
  refine aG (M8 (xs.getD i zT)) ?_
  refine aA (fun e2=>?_) (fun e2=>?_)
  ·refine aE ?_
   refine cJ TT_ok 66 (fun _=>eT (xs.getD i zT)) rfl rfl rfl rfl rfl rfl rfl (fun i hi=>by rcases i with _ | i <;>first | rfl | omega) (mu1:=[]) rfl rfl rfl ?_
   refine aM ?_
   refine cL TT_ok 33 66 67 rfl rfl rfl rfl rfl rfl rfl rfl rfl rfl rfl rfl ⟨by simp;omega,by unfold maxL;omega⟩ ?_
   refine aM ?_
   refine bC (bH 33 67) ?_
   exact bF (i+1) hi (by omega) wF ⟨⟨_,rfl,cX (x:=xs.getD i zT) (by rw [v8 (z:=zT) hi,if_pos e2]) rfl⟩,wM⟩
  ·refine aE ?_
   exact bF (i+1) hi (by omega) wF ⟨⟨_,rfl,bU (by rw [v8 (z:=zT) hi,if_neg (by rw [e2];simp)])⟩,wM⟩
 have hi:i=xs.length:=by omega
 subst hi
 rw [List.take_length]
 rw [List.take_length] at hfl
 have hfx:∀ i j,i<j→j<(xs.filter fun p=>kU p.1).length→iT ((xs.filter fun p=>kU p.1).getD i zT)<iT ((xs.filter fun p=>kU p.1).getD j zT):=by
  have hp:xs.Pairwise (fun a b=>iT a<iT b):=lG (z:=zT) fun a b hab hb=>hx a b hab hb
  intro i j hij hj
  exact eV (z:=zT) (hp.filter _) hij hj
 refine aE ?_
 refine dZ TT_ok (ZG 900 33 (KB (xs.filter fun p=>kU p.1) (by omega) hfx)) rfl rfl (SVs.cons (ZD _) (SVs.cons (rS (aB) rfl fun args x ⟨n,e1,e2⟩=>by subst e1;subst e2;exact T8 n.1 n.2) rfl)) (fun _=>rfl) rfl rfl rfl fun ys hy=>?_
 have hys:=W1 (p:=fun p:RT=>kU p.1) hx hy.1 hy.2
 have hyl:ys.length≤xs.length:=by rw [hy.1.length_eq];exact hfl
 rw [← hys]
 refine aM ?_
 refine a9 (yS 6 44 1 (fun i=>bL (([]:List Int).getD i 0)) rfl rfl rfl rfl) ?_
 refine aJ (ι:=Nat) (fun i=>[(28,vI i),(6, .a (.g 44))]) (fun i=>[(44,bE 1 bL 0 ((ys.take i).map fun p=>p.1.id))]) (fun i=>i≤ys.length) (fun i=>ys.length - i) 0 [44] [44] (Nat.zero_le _) ?_
 intro i h1
 have hl2:((ys.take i).map fun p=>p.1.id).length=i:=by rw [List.length_map,List.length_take];omega
 refine aE ?_
 refine aH (fun e2=>?_) (fun e2=>?_)
 ·have hi:i<ys.length:=by omega
  refine aE ?_
  refine cJ TT_ok 66 (fun _=>bL (ys.getD i zT).1.id) rfl rfl rfl rfl rfl rfl rfl (fun i hi=>by rcases i with _ | i <;>first | rfl | omega) (mu1:=[]) rfl rfl rfl ?_
  refine aM ?_
  refine cL TT_ok 44 66 67 rfl rfl rfl rfl rfl rfl rfl rfl rfl rfl rfl rfl ⟨by simp;omega,by unfold maxL;omega⟩ ?_
  refine aM ?_
  refine bC (bH 44 67) ?_
  exact bF (i+1) hi (by omega) wF ⟨⟨_,rfl,cX (x:=(ys.getD i zT).1.id) (by rw [b7 (z:=zT) hi,List.map_append];rfl) rfl⟩,wM⟩
 ·have hi:i=ys.length:=by omega
  subst hi
  rw [List.take_length]
  refine aE ?_
  refine a9 (bH 44 900) ?_
  refine aC (()) [(2,none)] ?_ ?_ ?_
  ·exact ZF _
  ·exact wM
  ·trivial
theorem AI {α:Type} {z:α} {key:α→Int} {p q:α→Bool} {xs:List α}:∀ n,(∀ i,i<n→p (xs.getD i z)=q (xs.getD i z))→eP key z p xs n=eP key z q xs n
 | 0,_=>rfl
 | n+1,h=>by rw [eP,eP,AI n fun i hi=>h i (by omega),h n (by omega)]
theorem HL {t:GTx} (h:dV t):(fZ t == 1)=kU t:=by
 unfold fZ kU
 rw [if_pos h]
 by_cases c:t.phase=5∧t.done > 0∨t.phase=6∨t.phase=7
 ·rw [if_pos c,decide_eq_true c];rfl
 ·rw [if_neg c,decide_eq_false c]
  split <;>rfl
theorem LG (c:GCluster) (hb:D.bds eA (bK c)):MkL Tryz.prog 14 [vR (bK c)] 1 bL 0 (fA c):=by
 refine aD Tryz.func14 fun B0 r_ D_ w0=>?_
 refine rT 0 (φ:=fun xs:List RT=>xs.map (·.1)=c.txs∧∀ i,i<xs.length→RH r_ (xs.getD i zT)) (x':=fun xs=>vR (oF c xs)) rfl (fun B H v hv=>qQ hv) fun xs hx=>?_
 obtain ⟨x1,x2⟩:=hx
 have hxl:xs.length=c.txs.length:=by rw [← x1,List.length_map]
 refine aE ?_
 refine cK (pF 3 rfl rfl (fun B H v hv=>nD x1 x2 hv)) ?_
 refine aG (l7 c hb) ?_
 refine eZ rfl (fun e=>?_) (fun e=>?_)
 ·rw [show fA c=[] from by unfold fA;rw [if_neg (kO.1 e)]]
  refine aE ?_
  refine a9 (yS 2 900 1 (fun i=>bL (([]:List Int).getD i 0)) rfl rfl rfl rfl) ?_
  refine aC (()) [(2,none)] ?_ ?_ ?_
  ·exact ZF _
  ·exact wM
  ·trivial
 have hok:=fP.1 e
 have htl:c.txs.length≤60:=hok.1.2.2.2
 have hid:∀ i,(xs.getD i zT).1=c.txs.getD i Y5:=fun i=>by rw [← x1];exact (lQ (·.1) zT xs i).symm
 have ho:=yE x1
 have hr:∀ i j,i<j→j<xs.length→iT (xs.getD i zT)<iT (xs.getD j zT):=fun i j h1 h2=>by
  show (xs.getD i zT).1.id<(xs.getD j zT).1.id
  rw [hid,hid];exact oT hok h1 (by omega)
 have hc:eP kT zT pT xs xs.length=eP kT zT (fun p=>kU p.1) xs xs.length:=AI _ fun i hi=>by
  show (fZ (xs.getD i zT).1 == 1)=kU (xs.getD i zT).1
  rw [hid];exact HL (hok.tx (by omega))
 rw [show fA c=(eP kT zT (fun p=>kU p.1) xs xs.length).map (fun p=>p.1.id) from by unfold fA;rw [if_pos hok, ← ho,hc,List.map_map];rfl]
 refine aE ?_
 refine dZ TT_ok (NO c xs (by omega) hr) rfl rfl (ZF _) (fun _=>rfl) rfl rfl rfl fun _ _=>?_
 refine aM ?_
 refine aC (()) [(2,none)] ?_ ?_ ?_
 ·exact ZF _
 ·exact wM
 ·trivial
end
section
theorem N3 {c:GCluster} (hok:ClusOk c) {i:Nat} (hi:i<c.txs.length):0≤bZ c (c.txs.getD i Y5).id∧(bZ c (c.txs.getD i Y5).id).toNat=i:=by
 have h0:0≤bZ c (c.txs.getD i Y5).id:=(eY (z:=Y5)).2 (uC (z:=Y5) hi (by simp))
 obtain ⟨h1,h2⟩:=fS h0
 refine ⟨h0,?_⟩
 rcases Nat.lt_trichotomy (bZ c (c.txs.getD i Y5).id).toNat i with h | h | h
 ·have:=oT hok h hi;omega
 ·exact h
 ·have:=oT hok h h1;omega
theorem FP {P:Program} {B:BE} {Z:Tg→PH} {c:GCluster} {xs:List RT} (h1:xs.map (·.1)=c.txs) (h2:∀ i,i<xs.length→RH (Z .r) (xs.getD i zT)) {v:Value} (hv:SV.rel P B Z (vP (oF c xs)) v):SV.rel P B Z (vP (bK c)) v:=by
 obtain ⟨b,x,vs,e1,e2,e3⟩:=hv
 obtain ⟨vs',q1,q2⟩:=nD (P:=P) (B:=B) h1 h2 (v := .agg vs.toArray) ⟨vs,rfl,e2⟩
 injection q1 with q1
 have q1:vs=vs':=by simpa using q1
 subst q1
 exact ⟨b,x,vs,e1,q2,e3⟩
theorem TH {n:GNote} {rs:Regs}:(!bif (f8 rs n.region n.slot).head == 4 * n.version+(bif n.used then 2 else 0) then (bif (f8 rs n.region n.slot).value == n.value then true else false) else false)=EU rs n:=by
 unfold EU
 generalize f8 rs n.region n.slot=x
 by_cases h1:x.head=4 * n.version+(bif n.used then 2 else 0) <;>by_cases h2:x.value=n.value <;>simp [h1,h2]
abbrev nT (n i:Nat):Regs:=List.replicate i cells0 ++ List.replicate (n - i) []
theorem u0 {n i j:Nat} (hi:i≤n) (hj:j<n):(nT n i).getD j [] = if j<i then cells0 else []:=by
 unfold nT
 by_cases c:j<i
 ·rw [if_pos c,List.getD_eq_getElem?_getD,List.getElem?_append_left (by rw [List.length_replicate];exact c),List.getElem?_replicate,if_pos c];rfl
 ·rw [if_neg c,List.getD_eq_getElem?_getD,List.getElem?_append_right (by rw [List.length_replicate];omega),List.getElem?_replicate,List.length_replicate,if_pos (by omega)];rfl
theorem m9 {n i:Nat} (hi:i≤n):(nT n i).length=n:=by unfold nT;rw [List.length_append,List.length_replicate,List.length_replicate];omega
theorem Q6 {n i:Nat} (hi:i<n):(nT n i).set i cells0=nT n (i+1):=by
 refine List.ext_getElem (by rw [List.length_set,m9 (by omega),m9 (by omega)]) fun j h1 h2=>?_
 rw [m9 (by omega)] at h2
 have e1:=(gW (xs:=nT n i) (y:=cells0) (show i<(nT n i).length by rw [m9 (by omega)];exact hi) j:_=if j=i then cells0 else (nT n i).getD j [])
 rw [vJ h1,u0 (by omega) h2] at e1
 rw [e1]
 have e2:=u0 (n:=n) (i:=i+1) (by omega) h2
 rw [vJ (by rw [m9 (by omega)];exact h2)] at e2
 rw [e2]
 by_cases c1:j=i
 ·subst c1;rw [if_pos rfl,if_pos (by omega)]
 ·rw [if_neg c1]
  by_cases c2:j<i
  ·rw [if_pos c2,if_pos (by omega)]
  ·rw [if_neg c2,if_neg (by omega)]
theorem PT {f:Nat→List D} (h:∀ i,i<6→f i=cQ Y9:=by exact fun _ _=>rfl):(Ch.arr 2 6 f).imp (bE 2 cQ Y9 cells0):=Ch.imp_len rfl fun i hi=>by
 have:cells0.getD i Y9=Y9:=by
  have h:i<6:=hi
  rcases i with _ | _ | _ | _ | _ | _ | i <;>first | rfl | omega
 rw [this];exact h i hi
theorem QM {P:Program} {x:GSet} {sz n:Nat} {f:Nat→List D} (hs:sz=5) (hn:n=1) (hf:f 0=cH x):(SV.a (.s .r sz n f)).imp P (vL 5 cH Y7 [x]):=by
 subst hs
 refine SV.imp_sl (by rw [hn];rfl) fun i hi=>?_
 have:i=0:=by omega
 subst this;exact hf
set_option maxHeartbeats 4000000 in
theorem C5 {r0:PH} (c:GCluster) (hok:ClusOk c) (xs:List RT) (x1:xs.map (·.1)=c.txs) (x2:∀ i,i<xs.length→RH r0 (xs.getD i zT)) :
  ConX r0 Tryz.prog 44 [] [vP (oF c xs)] [] (fun q:Regs => ∀ q',jM (gN c.places.length) (dT c)=some q'→q=q') (fun _=>[.a (.g 900),vB (jM (gN c.places.length) (dT c)).isSome]) fun q=>[(900,bE 1 oS [] q)]:=by
 have hts:=wT hok
 have hp6:=hok.2.1.1
 have hxl:xs.length=c.txs.length:=by rw [← x1,List.length_map]
 have htl:c.txs.length≤60:=hok.1.2.2.2
 have hid:∀ i,(xs.getD i zT).1=c.txs.getD i Y5:=fun i=>by rw [← x1];exact (lQ (·.1) zT xs i).symm
 have ho:=yE x1
 have hrise:∀ i j,i<j→j<xs.length→iT (xs.getD i zT)<iT (xs.getD j zT):=fun i j h1 h2=>by
  show (xs.getD i zT).1.id<(xs.getD j zT).1.id
  rw [hid,hid];exact oT hok h1 (by omega)
 have hc:eP kT zT pT xs xs.length=eP kT zT (fun p=>kU p.1) xs xs.length:=AI _ fun i hi=>by
  show (fZ (xs.getD i zT).1 == 1)=kU (xs.getD i zT).1
  rw [hid];exact HL (hok.tx (by omega))
 have hol:=qW (key:=kT) (z:=zT) (p:=pT) (xs:=xs) xs.length
 refine zG Tryz.func44 rfl rfl rfl fun B0 r_ D_ w0 hr=>?_
 refine aE ?_
 refine FT TT_ok 15 c.places.length rfl rfl rfl rfl rfl rfl rfl ⟨by simp;omega,by unfold maxL;omega⟩ ?_
 refine aM ?_
 refine cW (ι:=Nat) (fun i=>[(23,vI i)]) (fun i=>[(15,bE 1 oS [] (nT c.places.length i))]) (fun i=>i≤c.places.length) (fun i=>c.places.length - i) 0 [15] [] rfl rfl (Nat.zero_le _) wF ⟨⟨_,rfl,?_⟩,trivial⟩ ?_
 ·have hl0:=m9 (Nat.zero_le c.places.length)
  refine Ch.imp_own hl0.symm fun k hk=>?_
  rw [u0 (Nat.zero_le _) hk,if_neg (Nat.not_lt_zero _)]
  exact OwnI.n OwnI.e
 intro i h1
 have hal:=m9 h1
 refine aE ?_
 refine aH (fun e=>?_) (fun e=>?_)
 ·have hi:i<c.places.length:=by omega
  have hgi:(nT c.places.length i).getD (i:Int).toNat [] = []:=by rw [Int.toNat_natCast,u0 h1 hi,if_neg (by omega)]
  refine aE ?_
  refine FT TT_ok 28 6 rfl rfl rfl rfl rfl rfl rfl ⟨by decide,by decide⟩ ?_
  refine cK (fI 28 (c':=bE 2 cQ Y9 cells0) rfl PT rfl) ?_
  refine cK (d6 15 i 70 (l:=[.s .o 2 0 fun j=>cQ (([]:List GCell).getD j Y9)]) rfl (by rw [hgi];rfl) rfl rfl rfl rfl ⟨by omega,by omega⟩) ?_
  refine aM ?_
  refine cK (j6 29 rfl rfl rfl) ?_
  refine aM ?_
  refine bC (a7 70 0 28) ?_
  refine bC (aZ 15 70) ?_
  exact bF (i+1) hi (by omega) wF ⟨⟨_,rfl,by rw [← Q6 hi];exact GI⟩,wM⟩
 have hi:i=c.places.length:=by omega
 subst hi
 rw [show nT c.places.length c.places.length=gN c.places.length from by unfold nT;rw [Nat.sub_self];exact List.append_nil _]
 have htx:=QR c (by omega)
 refine aE ?_
 refine dZ TT_ok (ZG 900 41 (NO c xs (by omega) hrise)) rfl rfl (ZF _) (fun _=>rfl) rfl rfl rfl fun _ _=>?_
 rw [← hc]
 generalize hys:eP kT zT pT xs xs.length=ys at ho hol ⊢
 have hyl:(dT c).length=ys.length:=by rw [← ho,List.length_map]
 have hyg:∀ i,(dT c).getD i Y5=(ys.getD i zT).1:=fun i=>by rw [← ho];exact lQ (·.1) zT ys i
 have hil:(ys.map fun p=>p.1.id).length=ys.length:=List.length_map _
 refine aM ?_
 refine aJ (ι:=Nat) (fun i=>[(34,vI i)]) (fun i=>[(15,bE 1 oS [] (oD c.places.length (dT c) i))]) (fun i=>i≤ys.length∧lE c.places.length (dT c) i) (fun i=>ys.length - i) 0 [15] [] ⟨Nat.zero_le _,NK _ _⟩ ?_
 intro i ⟨h1,h2⟩
 refine aE ?_
 refine aH (fun e=>?_) (fun e=>?_)
 ·have e:(i:Int)<((ys.map fun p=>p.1.id).length:Int):=e
  have hi:i<ys.length:=by omega
  have hro:=tS hts i (by omega) h2
  have hgs:=fun q (hq:l4 _ _=some q)=>EG (i:=i) (by omega) h2 hq
  have hgx:=FL (i:=i) (by omega) h2
  have htm:(dT c).getD i Y5 ∈ dT c:=bY (by omega)
  have hnb:=fun s hs=>hts.noteB htm (s:=s) hs
  have hsb:=fun s hs=>hts.setB htm (s:=s) hs
  have hto:=hts.ok _ htm
  obtain ⟨n0,hn0,hn1⟩:=uL htm
  obtain ⟨f1,f2⟩:=N3 hok hn0
  rw [hn1] at f1 f2
  have hide:(ys.map fun p=>p.1.id).getD (i:Int).toNat 0=((dT c).getD i Y5).id:=by rw [hyg];exact lQ (fun p:RT=>p.1.id) zT ys i
  generalize hrs:oD c.places.length (dT c) i=rs at hro hgs hgx ⊢
  have hrl2:=hro.len
  generalize ht:(dT c).getD i Y5=t at hgs hgx hnb hsb hto f1 f2 hn1 hide
  have h12:t.reads.length≤12∧t.sets.length≤12:=hto.1.2.2.2.2.2
  refine aE ?_
  refine cK (pF 38 rfl rfl (fun B H v hv=>FP x1 (fun i hi=>(x2 i hi).mono hr) hv)) ?_
  rw [hide]
  have htq:=htx t.id f1
  rw [f2,hn1] at htq
  refine JB TT_ok (htq) rfl rfl (ZF _) rfl rfl ?_
  refine aJ (ι:=Nat) (fun k=>[(46,vI k)]) (fun _=>[]) (fun k=>k≤t.reads.length∧∀ j,j<k→vQ rs (t.reads.getD j Y8)=false) (fun k=>t.reads.length - k) 0 [] [] ⟨Nat.zero_le _,fun j hj=>absurd hj (Nat.not_lt_zero _)⟩ ?_
  intro k ⟨k1,k2⟩
  refine aE ?_
  refine aH (fun e2=>?_) (fun e2=>?_)
  ·have hk:k<t.reads.length:=by omega
   obtain ⟨n1,n2,n3⟩:=hnb _ (bY (z:=Y8) hk)
   have n4:=(vM.1 n1).2.1
   have n5:=(vM.1 n1).2.2.1
   generalize hx:t.reads.getD k Y8=x at n1 n2 n3 n4 n5
   have q3:=(eI.1 (hro.ok x.region.toNat (by omega))).1
   have q4:0≤x.region∧x.region<(rs.length:Int):=⟨n2,by rw [hrl2];exact n3⟩
   have q5:0≤x.slot∧x.slot<((rs.getD x.region.toNat []).length:Int):=⟨n4.1,by rw [q3];omega⟩
   have hne:=W4 hro (x:=x) ⟨n2,n3⟩ n4
   refine aE ?_
   rw [show t.reads.getD (k:Int).toNat Y8=x from hx]
   refine aW [] [0,1,2,3,4,5,6,7,8,9,10,11,12,14,15,13,16,17] fun B0 H0=>?_
   refine f6 13 (QP x.version n5 x.used) rfl rfl rfl (ZF _) rfl ?_
   refine aY [16,17] ?_
   refine aN ?_
   refine bW (b:=EU rs x) (congrArg (fun b=>some (vB b)) TH) (fun e3=>?_) (fun e3=>?_)
   ·rw [hne] at e3
    have hno:jM (gN c.places.length) (dT c)=none:=hgx (by unfold l4;rw [if_pos (uC (z:=Y8) hk (by rw [hx];exact e3))])
    refine aE ?_
    refine a9 (yS 2 900 1 (fun i=>oS (([]:Regs).getD i [])) rfl rfl rfl rfl) ?_
    refine aC (([]:Regs)) [(2,none),(3,none)] ?_ ?_ ?_
    ·rw [hno];exact ZF _
    ·exact wM
    ·exact fun q' hq=>by rw [hno] at hq;cases hq
   ·rw [hne] at e3
    refine aE ?_
    refine aK (k+1) ⟨hk,fun j hj=>?_⟩ (by omega)
    by_cases c1:j=k
    ·subst c1;rw [hx];exact e3
    ·exact k2 j (by omega)
  have hk:k=t.reads.length:=by omega
  subst hk
  have hrn:¬ t.reads.any (vQ rs)=true:=y8 (z:=Y8) k2
  refine aE ?_
  refine aJ (ι:=Nat) (fun k=>[(74,vI k)]) (fun _=>[]) (fun k=>k≤t.sets.length∧∀ j,j<k→xJ rs (t.sets.getD j Y7)=false) (fun k=>t.sets.length - k) 0 [] [] ⟨Nat.zero_le _,fun j hj=>absurd hj (Nat.not_lt_zero _)⟩ ?_
  intro k ⟨k3,k4⟩
  refine aE ?_
  refine aH (fun e3=>?_) (fun e3=>?_)
  ·have hk:k<t.sets.length:=by omega
   obtain ⟨n1,n2,n3⟩:=hsb _ (bY (z:=Y7) hk)
   have n4:=(k9.1 n1).2.1
   generalize hx:t.sets.getD k Y7=x at n1 n2 n3 n4
   obtain ⟨q1,q2⟩:=hro.head (r:=x.region) (s:=x.slot) ⟨n2,n3⟩ n4
   have q3:=(eI.1 (hro.ok x.region.toNat (by omega))).1
   have q4:0≤x.region∧x.region<(rs.length:Int):=⟨n2,by rw [hrl2];exact n3⟩
   have q5:0≤x.slot∧x.slot<((rs.getD x.region.toNat []).length:Int):=⟨n4.1,by rw [q3];omega⟩
   have q6:=gZ.1 q1
   have hin:0≤(f8 rs x.region x.slot).head.tdiv 4∧(f8 rs x.region x.slot).head.tdiv 4≤1000001:=by rw [nJ q6.1];omega
   have hvx:xJ rs x=((f8 rs x.region x.slot).head.tdiv 4 != x.version):=by unfold xJ;rw [GW q1]
   unfold f8 at hin
   refine aE ?_
   rw [show t.sets.getD (k:Int).toNat Y7=x from hx]
   refine aW [] [0,1,2,3,4,5,6,7,8,9,10,11,12,13] fun B0 H0=>?_
   refine aN ?_
   refine bW (b:=xJ rs x) (by rw [hvx];rfl) (fun e4=>?_) (fun e4=>?_)
   ·have hno:jM (gN c.places.length) (dT c)=none:=hgx (by unfold l4;rw [if_neg hrn,if_pos (uC (z:=Y7) hk (by rw [hx];exact e4))])
    refine aE ?_
    refine a9 (yS 2 900 1 (fun i=>oS (([]:Regs).getD i [])) rfl rfl rfl rfl) ?_
    refine aC (([]:Regs)) [(2,none),(3,none)] ?_ ?_ ?_
    ·rw [hno];exact ZF _
    ·exact wM
    ·exact fun q' hq=>by rw [hno] at hq;cases hq
   ·refine aE ?_
    refine aK (k+1) ⟨hk,fun j hj=>?_⟩ (by omega)
    by_cases c1:j=k
    ·subst c1;rw [hx];exact e4
    ·exact k4 j (by omega)
  have hk:k=t.sets.length:=by omega
  subst hk
  have hsn:¬ t.sets.any (xJ rs)=true:=y8 (z:=Y7) k4
  obtain ⟨hg1,hg2⟩:=hgs (t.sets.foldl l9 rs) (by unfold l4;rw [if_neg hrn,if_neg hsn])
  refine aE ?_
  refine aJ (ι:=Nat) (fun k=>[(98,vI k)]) (fun k=>[(15,bE 1 oS [] ((t.sets.take k).foldl l9 rs))]) (fun k=>k≤t.sets.length) (fun k=>t.sets.length - k) 0 [15] [] (Nat.zero_le _) ?_
  intro k k5
  refine aE ?_
  refine aH (fun e4=>?_) (fun e4=>?_)
  ·have hk:k<t.sets.length:=by omega
   obtain ⟨n1,n2,n3⟩:=hsb _ (bY (z:=Y7) hk)
   have hF:=n6 (z:=Y7) l9 rs hk
   have hro2:RegOk ((t.sets.take k).foldl l9 rs) c.places.length:=zC (fun s hs=>hsb s (List.mem_of_mem_take hs)) hro
   generalize (t.sets.take k).foldl l9 rs=rk at hF hro2 ⊢
   have q4:0≤(t.sets.getD (k:Int).toNat Y7).region∧(t.sets.getD (k:Int).toNat Y7).region<(rk.length:Int):=⟨n2,by rw [hro2.len];exact n3⟩
   refine a9 (d6 15 (t.sets.getD (k:Int).toNat Y7).region 70 rfl rfl rfl rfl rfl rfl q4) ?_
   refine a9 (aV 70 0 71) ?_
   refine aE ?_
   refine aW [71] [0,1,2,3,5,4,6,7] fun B0 H0=>?_
   refine vF (uZ 105 rfl rfl rfl) ?_
   refine aY [4,6,7] ?_
   refine bB 6 rfl (by kernel_rfl) (dK TT_ok 72 (fun _=>cH (t.sets.getD k Y7)) rfl rfl rfl rfl rfl rfl rfl (fun j hj=>by rcases j with _ | j <;>first | rfl | omega) (mu1:=[]) rfl rfl rfl (bA ?_))
   refine qU 7 (ZG 900 71 (QO (rk.getD (t.sets.getD k Y7).region.toNat []) [t.sets.getD k Y7] (Nat.le_add_left 1 1048575) (hro2.ok _ (by omega)) (fun s hs=>by rw [List.mem_singleton.1 hs];exact n1))) rfl rfl rfl (SVs.cons (ZD _) (SVs.cons (QM rfl rfl rfl) rfl)) (fun _=>rfl) rfl rfl rfl fun _ _=>?_
   refine aN ?_
   refine bC (a7 70 0 71) ?_
   refine bC (aZ 15 70) ?_
   exact bF (k+1) hk (by omega) wF ⟨⟨_,rfl,by rw [hF];exact GI⟩,wM⟩
  have hk:k=t.sets.length:=by omega
  subst hk
  rw [List.take_length, ← hg2]
  refine aE ?_
  exact aK (i+1) ⟨hi,hg1⟩ (by omega)
 have e:¬ (i:Int)<((ys.map fun p=>p.1.id).length:Int):=e
 have hi:i=ys.length:=by omega
 rw [← hyl] at hi
 subst hi
 have hend:=A1 h2
 refine aE ?_
 refine a9 (bH 15 900) ?_
 refine aC ((oD c.places.length (dT c) (dT c).length)) [(2,none),(3,none)] ?_ ?_ ?_
 ·rw [hend];exact ZF _
 ·exact wM
 ·exact fun q' hq=>by rw [hend] at hq;injection hq
end
section
theorem AY {P:Program} {B:BE} {Z:Tg→PH} {c:GCluster} {v:Value} (hv:SV.rel P B Z (vP (bK c)) v):∃ xs:List RT,(xs.map (·.1)=c.txs∧∀ i,i<xs.length→RH (Z .r) (xs.getD i zT))∧SV.rel P B Z (vP (oF c xs)) v:=by
 obtain ⟨b,x,vs,e1,e2,e3⟩:=hv
 obtain ⟨xs,h1,vs',q1,q2⟩:=qQ (P:=P) (B:=B) (Z:=Z) (c:=c) (v := .agg vs.toArray) ⟨vs,rfl,e2⟩
 injection q1 with q1
 have q1:vs=vs':=by simpa using q1
 subst q1
 exact ⟨xs,h1,b,x,vs,e1,q2,e3⟩
theorem zN (c:GCluster) (hb:D.bds eA (bK c)):Ans Tryz.prog 11 [] [vR (bK c)] [] (vB (d9 c).isSome):=by
 refine aD Tryz.func11 fun B0 r_ D_ w0=>?_
 refine d5 TT_ok rfl ?_
 refine aS 1 fun r_=>?_
 refine aE ?_
 refine aG (l7 c hb) ?_
 refine eZ rfl (fun e=>?_) (fun e=>?_)
 ·refine aE ?_
  exact cE TT_ok [(2,none)] rfl rfl ((by unfold d9;rw [if_neg (kO.1 e)];rfl))
 have hok:=fP.1 e
 refine rT 1 (φ:=fun xs:List RT=>xs.map (·.1)=c.txs∧∀ i,i<xs.length→RH r_ (xs.getD i zT)) (x':=fun xs=>vP (oF c xs)) rfl (fun B H v hv=>AY hv) fun xs hx=>?_
 obtain ⟨x1,x2⟩:=hx
 refine aE ?_
 refine u9 TT_ok (ConX.sw 900 41 (C5 c hok xs x1 x2)) rfl rfl (ZF _) (fun _=>rfl) rfl rfl rfl fun q hq=>?_
 refine aM ?_
 exact cE TT_ok [(2,none)] rfl rfl ((by unfold d9;rw [if_pos hok]))
theorem KG (c:GCluster) (hb:D.bds eA (bK c)) (r0:Int):NJ Tryz.prog 22 [vR (bK c),vI r0] (gT c r0).1 (gT c r0).2:=by
 have b1:c.places.length≤1048576:=hb.2.2.1.1
 refine aD Tryz.func22 fun B0 r_ D_ w0=>?_
 refine d5 TT_ok rfl ?_
 refine aS 2 fun r_=>?_
 refine aE ?_
 refine aG (l7 c hb) ?_
 refine aG (wO _) ?_
 refine aG (dH _ _ _) ?_
 rw [NT]
 refine aA (fun e=>?_) (fun e=>?_)
 ·have h0:gT c r0=([],false):=by
   unfold gT
   cases hq:d9 c with
   | none=>rfl
   | some q =>
    have hok:=(nC hq).1
    have:¬ (0≤r0∧r0<(c.places.length:Int)):=fun h=>by rw [decide_eq_true h,dG hok] at e;cases e
    exact if_neg this
  rw [h0]
  refine aE ?_
  refine a9 (yS 4 900 2 (fun i=>cQ (([]:List GCell).getD i Y9)) rfl rfl rfl rfl) ?_
  refine aC (()) [(4,none),(5,none)] ?_ ?_ ?_
  ·exact ZF _
  ·exact wM
  ·trivial
 have hH:ClusOk c∧0≤r0∧r0<(c.places.length:Int):=by
  cases c1:dec (ClusOk c) with
  | false=>rw [c1] at e;cases e
  | true=>rw [c1] at e;exact ⟨fP.1 c1,of_decide_eq_true (by simpa using e)⟩
 obtain ⟨hok,hr⟩:=hH
 clear e
 refine rT 2 (φ:=fun xs:List RT=>xs.map (·.1)=c.txs∧∀ i,i<xs.length→RH r_ (xs.getD i zT)) (x':=fun xs=>vP (oF c xs)) rfl (fun B H v hv=>AY hv) fun xs hx=>?_
 obtain ⟨x1,x2⟩:=hx
 refine aE ?_
 refine u9 TT_ok (ConX.sw 900 41 (C5 c hok xs x1 x2)) rfl rfl (ZF _) (fun _=>rfl) rfl rfl rfl fun q2 hq2=>?_
 have hS:d9 c=jM (gN c.places.length) (dT c):=by unfold d9;rw [if_pos hok]
 rw [← hS] at hq2 ⊢
 refine aM ?_
 cases hq:d9 c with
 | none =>
  refine bW rfl (fun e=>?_) (fun e=>by cases e)
  rw [show gT c r0=([],false) from by unfold gT;rw [hq]]
  refine aE ?_
  refine a9 (yS 4 900 2 (fun i=>cQ (([]:List GCell).getD i Y9)) rfl rfl rfl rfl) ?_
  refine aC (()) [(4,none),(5,none)] ?_ ?_ ?_
  ·exact ZF _
  ·exact wM
  ·trivial
 | some q =>
  refine bW rfl (fun e=>by cases e) (fun e=>?_)
  have e2:=hq2 q hq
  subst e2
  obtain ⟨_,_,hqo⟩:=nC hq
  rw [show gT c r0=(q2.getD r0.toNat [],true) from by unfold gT;rw [hq];exact if_pos hr]
  have q4:0≤r0∧r0<(q2.length:Int):=by rw [hqo.len];exact hr
  refine a9 (d6 41 r0 70 rfl rfl rfl rfl rfl rfl q4) ?_
  refine a9 (aV 70 0 71) ?_
  refine aE ?_
  refine cK (j6 28 rfl rfl rfl) ?_
  refine aM ?_
  refine a9 (bH 71 900) ?_
  refine aC (()) [(4,none),(5,none)] ?_ ?_ ?_
  ·exact ZF _
  ·exact wM
  ·trivial
theorem KE {x y:GCell} (h:gF x.head=true):(bif oB x.head 1 == 0 then !bif x.head == y.head then (bif x.value == y.value then true else false) else false else false)=true ↔ ¬ (eW x.head=true∨x=y):=by
 have e:(oB x.head 1 == 0) = !eW x.head:=by
  rw [← W0 h]
  cases h2:oB x.head 1 == 0 <;>simp_all
 rw [e];exact GE
set_option maxHeartbeats 1000000 in
theorem I3 (c:GCluster) (hb:D.bds eA (bK c)):Ans Tryz.prog 20 [] [vR (bK c)] [] (vB (nO c)):=by
 have b1:c.places.length≤1048576:=hb.2.2.1.1
 refine aD Tryz.func20 fun B0 r_ D_ w0=>?_
 refine d5 TT_ok rfl ?_
 refine aS 1 fun r_=>?_
 refine aE ?_
 refine aG (l7 c hb) ?_
 refine eZ rfl (fun e=>?_) (fun e=>?_)
 ·refine aE ?_
  exact cE TT_ok [(2,none)] rfl rfl ((by unfold nO;cases hq:d9 c with | none=>rfl | some q=>exact absurd (nC hq).1 (kO.1 e)))
 have hok:=fP.1 e
 have hp6:=hok.2.1.1
 refine rT 1 (φ:=fun xs:List RT=>xs.map (·.1)=c.txs∧∀ i,i<xs.length→RH r_ (xs.getD i zT)) (x':=fun xs=>vP (oF c xs)) rfl (fun B H v hv=>AY hv) fun xs hx=>?_
 obtain ⟨x1,x2⟩:=hx
 refine aE ?_
 refine u9 TT_ok (ConX.sw 900 41 (C5 c hok xs x1 x2)) rfl rfl (ZF _) (fun _=>rfl) rfl rfl rfl fun q2 hq2=>?_
 refine cK (pF 1 rfl rfl (fun B H v hv=>FP x1 x2 hv)) ?_
 have hS:d9 c=jM (gN c.places.length) (dT c):=by unfold d9;rw [if_pos hok]
 rw [← hS] at hq2 ⊢
 refine aM ?_
 cases hq:d9 c with
 | none =>
  refine bW rfl (fun e=>?_) (fun e=>by cases e)
  refine aE ?_
  exact cE TT_ok [(2,none)] rfl rfl ((by unfold nO;rw [hq]))
 | some q =>
  refine bW rfl (fun e=>by cases e) (fun e=>?_)
  have e2:=hq2 q hq
  subst e2
  obtain ⟨_,_,hqo⟩:=nC hq
  have hql:=hqo.len
  refine aE ?_
  refine aJ (ι:=Nat) (fun r=>[(21,vI r)]) (fun _=>[]) (fun r=>r≤c.places.length∧∀ j,j<r→sH c q2 j) (fun r=>c.places.length - r) 0 [] [] ⟨Nat.zero_le _,fun j hj=>absurd hj (Nat.not_lt_zero _)⟩ ?_
  intro r ⟨h1,h2⟩
  have hnext:r<c.places.length→sH c q2 r→∀ j,j<r+1→sH c q2 j:=fun _ h j hj=>by
   by_cases c1:j=r
   ·subst c1;exact h
   ·exact h2 j (by omega)
  refine aE ?_
  refine aH (fun e3=>?_) (fun e3=>?_)
  ·have e3:(r:Int)<(q2.length:Int):=e3
   have hr:r<c.places.length:=by omega
   have hpl:=hok.pl hr
   have hm:=hok.at (r:=r) (k:=0) hr (by omega)
   have bm:=tE hb (mAt c r 0).toNat
   have hpq:=GB c hok (r:Int) ⟨by omega,by omega⟩
   rw [Int.toNat_natCast] at hpq
   refine aE ?_
   refine JB TT_ok (hpq) rfl rfl (ZF _) rfl rfl ?_
   cases ha:(b8 c r 0).alive with
   | false =>
    refine bW rfl (fun e=>?_) (fun e=>by cases e)
    refine aE ?_
    exact aK (r+1) ⟨hr,hnext hr fun h=>by rw [ha] at h;cases h⟩ (by omega)
   | true =>
    refine bW rfl (fun e=>by cases e) (fun e=>?_)
    have hh:=hm.2 ha
    obtain ⟨hl6,hcb⟩:=gM (hok.mach hr (k:=0) (by omega)) hh
    refine aE ?_
    refine JB TT_ok (XI (b8 c r 0) bm.2.1.1 (r:Int)) rfl rfl (ZF _) rfl rfl ?_
    refine aJ (ι:=Nat) (fun s=>[(37,vI s)]) (fun _=>[]) (fun s=>s≤6∧∀ j,j<s→pW c q2 r j) (fun s=>6 - s) 0 [] [] ⟨Nat.zero_le _,fun j hj=>absurd hj (Nat.not_lt_zero _)⟩ ?_
    intro s ⟨k1,k2⟩
    have hq6:=(eI.1 (hqo.ok r hr)).1
    have hq6:(q2.getD (r:Int).toNat []).length=6:=hq6
    refine aE ?_
    refine aH (fun e5=>?_) (fun e5=>?_)
    ·have e5:(s:Int)<((cellsOf (b8 c r 0) r).length:Int):=e5
     have hs:s<6:=by omega
     have hce:fB c r s=(cellsOf (b8 c r 0) r).getD s Y9:=rfl
     have hhb:=PY (PN hcb (i:=s) (by omega))
     refine aE ?_
     refine aW [] [0,1,2,3,4,5,6,7,8,9,10,11] fun B0 H0=>?_
     refine aN ?_
     refine aA (fun e6=>?_) (fun e6=>?_)
     ·have hbad:¬ pW c q2 r s:=by
       unfold pW
       rw [hce]
       exact (KE hhb).1 e6
      refine aE ?_
      exact aF [(2,none)] ((EO hq hr fun h=>hbad (h ha s hs)).symm)
     ·have hgood:pW c q2 r s:=by
       unfold pW
       rw [hce]
       exact Classical.not_not.1 fun h=>absurd (((KE hhb).2 h).symm.trans e6) (by simp)
      refine aE ?_
      refine aK (s+1) ⟨hs,fun j hj=>?_⟩ (by omega)
      by_cases c1:j=s
      ·subst c1;exact hgood
      ·exact k2 j (by omega)
    ·have e5:¬ (s:Int)<((cellsOf (b8 c r 0) r).length:Int):=e5
     have hs:s=6:=by omega
     subst hs
     refine aE ?_
     exact aK (r+1) ⟨hr,hnext hr fun _=>k2⟩ (by omega)
  ·have e3:¬ (r:Int)<(q2.length:Int):=e3
   have hr:r=c.places.length:=by omega
   subst hr
   refine aE ?_
   exact aF [(2,none)] ((C1 hq h2).symm)
end
section
theorem QU (c:GCluster) (r0:Int):(gT c r0).1.length≤1048576:=by
 unfold gT
 cases hq:d9 c with
 | none=>exact Nat.zero_le _
 | some q =>
  by_cases h:0≤r0∧r0<(c.places.length:Int)
  ·have:=(eI.1 ((nC hq).2.2.ok r0.toNat (by omega))).1
   simp only [if_pos h]
   omega
  ·simp only [if_neg h];exact Nat.zero_le _
end
section
theorem R0 {c:GCluster} (h:c.txs.length≤1048576):(fA c).length≤1048576:=by
 unfold fA
 split
 ·rw [List.length_map];exact Nat.le_trans (qW _) h
 ·exact Nat.zero_le _
end
section
theorem O9 {c:GCluster} (hok:ClusOk c) {i j:Nat} (h1:i<j) (h2:j<(dT c).length):lx (fun t:GTx=>t.stamp) (fun t:GTx=>t.id) ((dT c).getD i Y5) ((dT c).getD j Y5) :=
 eV (z:=Y5) (BU (key:=fun t:GTx=>t.stamp) (idx:=fun t:GTx=>t.id) (p:=fun t=>fZ t == 1) (fun i j hij hj=>oT hok hij hj) c.txs.length (Nat.le_refl _)).1 h1 h2
theorem P1 {c:GCluster} (hok:ClusOk c):(dT c).length=(c.txs.filter fun t=>fZ t == 1).length:=by
 have h:=(BU (z:=Y5) (key:=fun t:GTx=>t.stamp) (idx:=fun t:GTx=>t.id) (p:=fun t=>fZ t == 1) (fun i j hij hj=>oT hok hij hj) c.txs.length (Nat.le_refl _)).2.length_eq
 rwa [List.take_length] at h
theorem D8 {c:GCluster} (hok:ClusOk c):fA c=(dT c).map (·.id):=by unfold fA;rw [if_pos hok]
theorem JZ {c:GCluster} (hok:ClusOk c) {i:Nat} (hi:i<(dT c).length):uV c ((fA c).getD i 0)=((dT c).getD i Y5,true):=by
 have e:(fA c).getD i 0=((dT c).getD i Y5).id:=by rw [D8 hok];exact lQ (·.id) Y5 _ i
 obtain ⟨j,hj,e2⟩:=uL (bY (z:=Y5) hi)
 obtain ⟨f1,f2⟩:=N3 hok hj
 rw [e2] at f1 f2
 unfold uV
 rw [e,if_pos ⟨hok,f1⟩,f2,e2]
theorem JG {c:GCluster} {r:Int} (h:(gT c r).2=true):(d9 c).isSome=true:=by
 unfold gT at h
 cases hq:d9 c with
 | none=>rw [hq] at h;cases h
 | some q=>rfl
set_option maxHeartbeats 1000000 in
theorem QN {n:Nat} {β:Nat→Int} (hβ:g0 β):Ans Tryz.prog 7 [701] [.a (.g 701)] [(701,TY n β)] (vB true):=by
 refine aD Tryz.func7 fun B0 r_ D_ w0=>?_
 refine aE ?_
 refine aG (big_q n _) ?_
 refine aH (fun e=>?_) (fun e=>?_)
 ·refine aE ?_
  exact aF [(2,none)] (rfl)
 have hn:n≤1048576:=by omega
 refine aE ?_
 refine aP (nk:=[61,62,63]) (ZG 901 61 (ZG 902 62 (ZG 903 63 (ND hn hβ)))) fun c y1=>?_
 have hb:=xY y1
 have hol:(fA c).length≤1048576:=R0 hb.2.2.2.2.1.1
 refine aM ?_
 refine aP (ZG 900 71 (LG c hb)) fun _ _=>?_
 refine aM ?_
 refine aP (ZG 900 72 (K9 c hb)) fun _ _=>?_
 refine aM ?_
 refine aG (PO (fA c) hol) ?_
 refine bW rfl (fun e=>by cases e) (fun _=>?_)
 refine aE ?_
 refine aP (nk:=[81,82,83]) (ZG 901 81 (ZG 902 82 (ZG 903 83 (tO hn hβ)))) fun s s1=>?_
 have hs:=xY s1
 refine aM ?_
 refine aW [] [0,2,1,3,4] fun B0 H0=>?_
 refine f6 1 (zN s hs) rfl rfl rfl (ZF _) rfl ?_
 refine f6 3 (sE s hs) rfl rfl rfl (ZF _) rfl ?_
 refine aY [4] ?_
 refine aN ?_
 refine bW rfl (fun e=>by simp at e) (fun _=>?_)
 refine aE ?_
 refine aP (nk:=[84,85,86]) (ZG 901 84 (ZG 902 85 (ZG 903 86 (KO hn hβ)))) fun g g1=>?_
 have hg:=xY g1
 refine aM ?_
 refine aW [] [0,2,1,3,4] fun B0 H0=>?_
 refine f6 1 (I3 g hg) rfl rfl rfl (ZF _) rfl ?_
 refine f6 3 (I0 g hg) rfl rfl rfl (ZF _) rfl ?_
 refine aY [4] ?_
 refine aN ?_
 refine bW rfl (fun e=>by simp at e) (fun _=>?_)
 refine aE ?_
 refine aP (nk:=[91,92,93]) (ZG 901 91 (ZG 902 92 (ZG 903 93 (M1 hn hβ)))) fun y f1=>?_
 obtain ⟨f,r⟩:=y
 dsimp only at f1 ⊢
 have hf:=xY f1
 have hfl:=QU f r
 refine aM ?_
 refine aP (ZG 900 94 (KG f hf r)) fun _ _=>?_
 refine aM ?_
 refine aP (ZG 900 95 (LT f hf r)) fun _ _=>?_
 refine aM ?_
 refine aG (MR (gT f r).1 hfl) ?_
 refine aG (zN f hf) ?_
 refine bW (b:=false) (congrArg (fun b=>some (vB b)) (by
  cases h:(gT f r).2 with
  | false=>rfl
  | true=>rw [JG h];rfl)) (fun e=>by cases e) (fun _=>?_)
 refine aE ?_
 refine aG (eK c hb) ?_
 refine eZ rfl (fun e=>?_) (fun e=>?_)
 ·have h0:fA c=[]:=by unfold fA;rw [if_neg (kO.1 e)]
  refine aE ?_
  exact cE TT_ok [(2,none)] rfl rfl ((by rw [h0];rfl))
 have hok:=fP.1 e
 have htl:c.txs.length≤60:=hok.1.2.2.2
 have hoc:=D8 hok
 have hlen:(fA c).length=(dT c).length:=by rw [hoc,List.length_map]
 refine aE ?_
 refine aJ (ι:=Nat) (fun i=>[(14,vI i),(13,vI ((c.txs.take i).filter fun t=>fZ t == 1).length)]) (fun _=>[]) (fun i=>i≤c.txs.length) (fun i=>c.txs.length - i) 0 [] [] (Nat.zero_le _) ?_
 intro i h1
 have hfl2:((c.txs.take i).filter fun t=>fZ t == 1).length≤i:=Nat.le_trans (List.length_filter_le _ _) (by rw [List.length_take];omega)
 refine aE ?_
 refine aH (fun e2=>?_) (fun e2=>?_)
 ·have hi:i<c.txs.length:=by omega
  have htf:=v8 (z:=Y5) (p:=fun t=>fZ t == 1) (xs:=c.txs) (i:=i) hi
  refine aE ?_
  refine aG (EV (c.txs.getD i Y5)) ?_
  refine aO (fun e3=>?_) (fun e3=>?_)
  ·have e3:fZ (c.txs.getD i Y5)=1:=e3
   rw [if_pos (by rw [e3];rfl)] at htf
   have hl2:=congrArg List.length htf
   rw [List.length_append,List.length_singleton] at hl2
   refine aE ?_
   exact bF (i+1) hi (by omega) ⟨⟨_,rfl,ZD _⟩,⟨_,rfl,ZH (cT (by rw [hl2];omega))⟩,wF⟩ wM
  ·have e3:¬ fZ (c.txs.getD i Y5)=1:=e3
   rw [if_neg (by simpa using e3)] at htf
   refine aE ?_
   exact bF (i+1) hi (by omega) ⟨⟨_,rfl,ZD _⟩,⟨_,rfl,ZH (cT (by rw [htf]))⟩,wF⟩ wM
 have hi:i=c.txs.length:=by omega
 subst hi
 rw [List.take_length] at hfl2 ⊢
 rw [← P1 hok, ← hlen] at hfl2 ⊢
 clear e2 h1
 refine aE ?_
 refine cW (ι:=Nat) (fun i=>[(15,vI i)]) (fun _=>[]) (fun i=>1≤i∧i≤(fA c).length+1) (fun i=>(fA c).length+1 - i) 1 [] [] rfl rfl ⟨Nat.le_refl _,by omega⟩ wF wM ?_
 intro i ⟨h1,h2⟩
 refine aE ?_
 refine aH (fun e2=>?_) (fun e2=>?_)
 ·have hi:i<(fA c).length:=by omega
  have hp:=JZ hok (i:=i - 1) (by omega)
  have hq:=JZ hok (i:=i) (by omega)
  have hlx:=O9 hok (i:=i - 1) (j:=i) (by omega) (by omega)
  have hsub:((i:Int) - 1).toNat=i - 1:=by omega
  have hf1:=CO c hb ((fA c).getD ((i:Int) - 1).toNat 0)
  have hf2:=CO c hb ((fA c).getD (i:Int).toNat 0)
  rw [show uV c ((fA c).getD ((i:Int) - 1).toNat 0)=((dT c).getD (i - 1) Y5,true) from by rw [hsub];exact hp] at hf1
  rw [show uV c ((fA c).getD (i:Int).toNat 0)=((dT c).getD i Y5,true) from hq] at hf2
  generalize (dT c).getD (i - 1) Y5=P at hf1 hlx
  generalize (dT c).getD i Y5=Q at hf2 hlx
  refine aE ?_
  refine dC (ι:=Unit) (fun _=>[(16, .a (.p 16 0)),(17,vB true)]) (fun _=>[(16, .row (r7 P 161 162)),(161,bE 5 cR Y8 P.reads),(162,bE 5 cH Y7 P.sets)]) (fun _=>True) [] [] rfl rfl ?_ ?_
  ·refine aW [] [0,1,2,3,4,5,6,7,8,9,10,11,12] fun B0 H0=>?_
   refine cZ 6 10 rfl rfl (by kernel_rfl) (iV (ZG 901 161 (ZG 902 162 hf1)) rfl rfl (ZF _) (fun _=>rfl) rfl rfl rfl (fun _ _=>bA ?_)) (aR (bA ?_))
   ·refine aY [7,8,9,10,11,12] ?_
    refine bB 10 rfl (by kernel_rfl) (aR (bA ?_))
    refine bB 11 rfl (by kernel_rfl) (aR (bA ?_))
    refine aY [12] ?_
    refine aN ?_
    exact aK () trivial Nat.zero_lt_one
   ·skip
    refine aX 6 (ZG 901 161 (ZG 902 162 hf1)) fun _ _=>?_
    refine aY [7,8,9,11,12] ?_
    refine bB 11 rfl (by kernel_rfl) (aR (bA ?_))
    refine aY [12] ?_
    refine aN ?_
    exact aK () trivial Nat.zero_lt_one
  rintro ⟨⟩ _
  refine aT ?_
  refine dC (ι:=Unit) (fun _=>[(18, .a (.p 18 0)),(19,vB true)]) (fun _=>[(18, .row (r7 Q 181 182)),(181,bE 5 cR Y8 Q.reads),(182,bE 5 cH Y7 Q.sets)]) (fun _=>True) [] [] rfl rfl ?_ ?_
  ·refine aW [] [0,1,2,3,4,5,6,7,8,9,10,11] fun B0 H0=>?_
   refine cZ 5 9 rfl rfl (by kernel_rfl) (iV (ZG 901 181 (ZG 902 182 hf2)) rfl rfl (ZF _) (fun _=>rfl) rfl rfl rfl (fun _ _=>bA ?_)) (aR (bA ?_))
   ·refine aY [6,7,8,9,10,11] ?_
    refine bB 9 rfl (by kernel_rfl) (aR (bA ?_))
    refine bB 10 rfl (by kernel_rfl) (aR (bA ?_))
    refine aY [11] ?_
    refine aN ?_
    exact aK () trivial Nat.zero_lt_one
   ·skip
    refine aX 5 (ZG 901 181 (ZG 902 182 hf2)) fun _ _=>?_
    refine aY [6,7,8,10,11] ?_
    refine bB 10 rfl (by kernel_rfl) (aR (bA ?_))
    refine aY [11] ?_
    refine aN ?_
    exact aK () trivial Nat.zero_lt_one
  rintro ⟨⟩ _
  refine aT ?_
  refine bW (b:=false) (congrArg (fun b=>some (vB b)) (by
   rcases hlx with h | ⟨h,h3⟩
   ·have h:P.stamp<Q.stamp:=h
    rw [decide_eq_false (show ¬ P.stamp > Q.stamp by omega),show (P.stamp == Q.stamp)=false from by simp;omega];rfl
   ·have h:P.stamp=Q.stamp:=h
    have h3:P.id<Q.id:=h3
    rw [decide_eq_false (show ¬ P.stamp > Q.stamp by omega),decide_eq_false (show ¬ P.id ≥ Q.id by omega)];cases (P.stamp == Q.stamp) <;>rfl)) (fun e=>by cases e) (fun _=>?_)
  refine aE ?_
  exact aK (i+1) ⟨by omega,by omega⟩ (by omega)
 ·refine aE ?_
  exact cE TT_ok [(2,none)] rfl rfl ((by simp))
end
section
def zQ (W:World):PH:=fun b o=>match W.cell? ⟨b,o,none⟩ with
 | some v=>bif W.frozen? ⟨b,o,none⟩ then none else some v
 | none=>none
theorem SY (W:World):Fit (zQ W) W:=fun b o v e=>by
 unfold zQ at e
 cases h:W.cell? ⟨b,o,none⟩ with
 | none=>rw [h] at e;cases e
 | some u =>
  rw [h] at e
  simp only at e
  cases hf:W.frozen? ⟨b,o,none⟩ with
  | true=>rw [hf] at e;cases e
  | false=>rw [hf] at e;exact ⟨e,rfl⟩
theorem XF {W:World} {b o:Nat} {v:Value} (h:W.cell? ⟨b,o,none⟩=some v) (hf:W.frozen? ⟨b,o,none⟩=false):zQ W b o=some v:=by
 unfold zQ;rw [h];simp only;rw [hf];rfl
def D4 (P:Program) (t:TypeId) {α:Type} (k:α→List D):Prop :=
 ∀ {H:Type} (enc:TypeId×Value→H) (W:World) (fuel:Nat) (cs:List Value) (x:DataW H×List MemPlace),
  DataW.trod enc P W 0 (fun _=>true) true fuel t cs=some x→W.noneFrozen x.2→∃ y,D.rds (zQ W) (k y) cs
section
variable {P:Program} {TT:List TI}
theorem wU {W:World} {ps qs:List MemPlace} (h:W.noneFrozen ps) (hs:∀ x ∈ qs,x ∈ ps):W.noneFrozen qs:=fun b o hm=>h b o (hs _ hm)
theorem RF {W:World} {a:Addr} {v:Value} (h:W.cell? a=some v):a=⟨a.block,a.off,none⟩:=by
 obtain ⟨b,o,s⟩:=a
 cases s with
 | none=>rfl
 | some s =>
  simp only [World.cell?] at h
  split at h <;>simp at h
theorem LU (b o i j:Nat):((⟨b,o,none⟩:Addr).add i).add j=⟨b,o+i+j,none⟩:=by
 unfold Addr.add
 by_cases hi:i=0 <;>by_cases hj:j=0 <;>simp [hi,hj]
theorem MG {t e:TypeId} {α:Type} {k:α→List D} (sz:Nat) (z:α) (ht:P.underlying t=some (.slice e)) (hk:D4 P e k) (hc:P.cellsOf e=sz) (hpos:0<sz):D4 P t fun xs:List α=>[dL sz k z xs]:=fun enc W fuel cs x hx hf=>by
 rcases DataW.trod_slice ht hx with ⟨rfl,rfl⟩ | ⟨a,len,cap,elems,rest,n,_,rfl,rfl,hb,hl,hm,hlen,hel,_,_⟩
 ·exact ⟨[],_,_,rfl,⟨none,0,rfl,Nat.le_refl _,Nat.zero_le _, .inl rfl⟩,rfl⟩
 ·rw [hc] at hel
  have each:∀ i,i<len→∃ y row,D.rds (zQ W) (k y) row∧row.length=sz∧∀ j,j<sz→W.cell? ((a.add (i * sz)).add j)=row[j]? := by
   intro i hi
   have h1:=hel i hi
   cases hcs:W.cells? 0 (a.add (i * sz)) sz with
   | none=>rw [hcs] at h1;simp at h1;omega
   | some cs =>
    rw [hcs] at h1
    simp only [Option.bind_some] at h1
    obtain ⟨g1,g2,g3⟩:=World.cells?_some hcs
    have hlt:i<elems.length:=by omega
    rw [List.getElem?_eq_getElem hlt] at h1
    obtain ⟨y,hy⟩:=hk enc W n cs _ h1 (wU hf fun x hx=>List.mem_append_right _ (List.mem_flatMap.2 ⟨_,List.mem_append_left _ (List.getElem_mem hlt),hx⟩))
    exact ⟨y,cs,hy,g2,g3⟩
  have hml:len≤maxL:=Nat.le_trans (Nat.le_trans hl hm) (Nat.le_of_ble_eq_true rfl)
  by_cases h0:len=0
  ·subst h0
   exact ⟨[],_,_,rfl,⟨some a,cap,rfl,by simp,Nat.zero_le _, .inl rfl⟩,rfl⟩
  ·obtain ⟨y0,row0,_,r2,r3⟩:=each 0 (by omega)
   have ha:a=⟨a.block,a.off,none⟩:=by
    have h:=r3 0 hpos
    rw [List.getElem?_eq_getElem (by omega)] at h
    have:(a.add (0 * sz)).add 0=a:=by rw [Nat.zero_mul];rfl
    rw [this] at h
    exact RF h
   have hadd:∀ i j,(a.add i).add j=⟨a.block,a.off+i+j,none⟩:=fun i j=>by
    conv=>lhs;rw [ha]
    exact LU _ _ i j
   have hcell:∀ i j,i<len→j<sz→MemPlace.cell a.block (a.off+i * sz+j) ∈ MemPlace.row a ((elems.length+rest.length) * P.cellsOf e):=fun i j hi hj=>by
    refine MemPlace.mem_row.2 ⟨i * sz+j,?_,by rw [Nat.add_assoc]⟩
    rw [hc]
    have h1:(i+1) * sz≤(elems.length+rest.length) * sz:=Nat.mul_le_mul_right _ (by omega)
    rw [Nat.add_mul,Nat.one_mul] at h1
    omega
   let f:Nat→α:=fun i=>if h:i<len then (each i h).choose else y0
   have hf':∀ i (h:i<len),f i=(each i h).choose:=fun i h=>by simp only [f,dif_pos h]
   have hlen':((List.range len).map f).length=len:=by simp
   refine ⟨(List.range len).map f,_,_,rfl,⟨some a,cap,by rw [hlen'],by rw [hlen'];simpa using hl,by rw [hlen'];exact hml, .inr ⟨a.block,a.off,by rw [← ha],fun i hi=>?_⟩⟩,rfl⟩
   rw [hlen'] at hi
   obtain ⟨row,q1,q2,q3⟩:=(each i hi).choose_spec
   have hg:((List.range len).map f).getD i z=(each i hi).choose:=by simp [hi,hf' i hi]
   refine ⟨row,by show D.rds _ (k (((List.range len).map f).getD i z)) row;rw [hg];exact q1,q2,fun j hj=>?_⟩
   have h:=q3 j hj
   rw [hadd] at h
   rw [List.getElem?_eq_getElem (by omega)] at h ⊢
   exact XF h (hf _ _ (List.mem_append_left _ (hcell i j hi hj)))
end
theorem V1 {h:PH} {d:D} {a:Value} (e:D.rds h [d] [a]):D.rd h d a:=by
 obtain ⟨y,t,e1,e2,_⟩:=e
 injection e1 with e1
 rw [e1];exact e2
end
section
abbrev U8:={x:Int // 0≤x∧x≤255}
def U8z:U8:=⟨0,by decide⟩
def cU8 (x:U8):List D:=[.v (.int .u8 x.1)]
theorem UM {P:Program} {t:TypeId} (h:P.underlying t=some (.int .u8)):D4 P t cU8:=fun enc W fuel cs x hx _=>by
 have:∃ y:Int,cs=[.int .u8 y] ∧ 0≤y∧y≤255:=by
  cases fuel with
  | zero=>simp [DataW.trod] at hx
  | succ n =>
   unfold DataW.trod at hx
   rw [h] at hx
   split at hx
   ·simp_all
   ·rename_i k k' m he
    injection he with he
    injection he with he
    subst he
    split at hx
    ·rename_i hc
     obtain ⟨rfl,hw⟩:=hc
     simp only [Lit.wf,Bool.and_eq_true,decide_eq_true_eq] at hw
     exact ⟨m,rfl,hw.1,hw.2⟩
    ·cases hx
   all_goals simp_all
 obtain ⟨y,rfl,h1,h2⟩:=this
 exact ⟨⟨y,h1,h2⟩,_,_,rfl,rfl,rfl⟩
theorem TG:D4 Tryz.prog 5 cU8:=UM Tryz.underlying5
theorem P7:D4 Tryz.prog 48 (fun xs:List U8=>[dL 1 cU8 U8z xs]):=MG 1 U8z Tryz.underlying48 TG (by kernel_rfl) (Nat.lt_of_sub_eq_succ rfl)
end
end Go.Proofs.YthpjoddhlkcciaaGreat
