/-
  What the claim leans on, made short by program.
-/
import Derived.Test.YtnffflcjaipdkaaGreatQD
namespace Go.Proofs.YtnffflcjaipdkaaGreat
open Go Go.RowKit
set_option linter.unusedVariables false
set_option linter.unusedSimpArgs false
set_option maxRecDepth 4000
section
theorem SV.imp_sl {P:Program} {sz n m:Nat} {f g:Nat→List D} (h:n=m) (e:∀ i,i<n→f i=g i):(SV.a (.s .r sz n f)).imp P (.a (.s .r sz m g)):=by
 subst h;exact SV.imp_s e
abbrev cwt (c:GCluster) (n:Int) (ms:List GMachine) (ts:List GTx):GCluster:={ c with clock:=n,machines:=ms,txs:=ts }
theorem II {t:GTx} (h:eN t):MkL Tryz.prog 173 [vR (cTx t)] 1 bS 0 (bI t):=by
 have hs:=h.1.2.2.2.2.2.2
 have:=XR t (by omega)
 rw [X5 h] at this
 exact this
theorem FY {t:GTx} (h:eN t):MkL Tryz.prog 159 [vR (cTx t)] 5 cT aCn (bW t):=by
 have h1:=h.1.2.2.2.2.2.1
 have h2:=h.1.2.2.2.2.2.2
 exact I4 t (by omega) (by omega)
theorem F6 {r:Int} {ms:List Int}:∀ {i:Nat},i≤ms.length→(kW true r ms i).map GCopyAt.machine=(ms.take i).drop 1∧(kW true r ms i).map GCopyAt.region=List.replicate (i - 1) r
 | 0,_=>⟨by simp [kW],by simp [kW]⟩
 | i+1,h=>by
  obtain ⟨h1,h2⟩:=F6 (r:=r) (ms:=ms) (i:=i) (by omega)
  rw [kW]
  by_cases c:i=0
  ·subst c
   refine ⟨?_,?_⟩
   ·simp [kW]
   ·simp [kW]
  ·rw [decide_eq_true (by omega),cond_true,cond_true,List.map_append,List.map_append,h1,h2]
   refine ⟨?_,?_⟩
   ·rw [cC (z:=0) (by omega),List.drop_append_of_le_length (by rw [List.length_take];omega)]
    rfl
   ·show List.replicate (i - 1) r ++ List.replicate 1 r=_
    rw [List.replicate_append_replicate]
    congr 1;omega
theorem C6 {r:Int} {ms:List Int}:∀ {i:Nat},i≤ms.length→(kW false r ms i).map GCopyAt.machine=ms.take i∧(kW false r ms i).map GCopyAt.region=List.replicate i r
 | 0,_=>⟨by simp [kW],by simp [kW]⟩
 | i+1,h=>by
  obtain ⟨h1,h2⟩:=C6 (r:=r) (ms:=ms) (i:=i) (by omega)
  rw [kW]
  have hb:(bif decide ((i:Int) > 0) then true else !false)=true:=by cases decide ((i:Int) > 0) <;>rfl
  rw [hb,cond_true,List.map_append,List.map_append,h1,h2]
  refine ⟨?_,?_⟩
  ·rw [cC (z:=0) (by omega)];rfl
  ·show List.replicate i r ++ List.replicate 1 r=_
   rw [List.replicate_append_replicate]
def vJ (p:Int) (ms:List Int):List Int:=if p=4 then ms.drop 1 else if p=6 then ms else ms.take 1
def lD (c:GCluster) (t:GTx) (k:Nat):List GCopyAt:=if t.phase=4 then mS c (bI t) true k else if t.phase=6 then mS c (bI t) false k else ((bI t).take k).map (l6 c)
theorem UI {c:GCluster} (hok:ClusOk c) {t:GTx} (ht:TxIn c t) {k:Nat} (hk:k<(bI t).length) :
  (lD c t (k+1)).map GCopyAt.machine=(lD c t k).map GCopyAt.machine ++ vJ t.phase (cR c ((bI t).getD k 0))∧(lD c t (k+1)).map GCopyAt.region=(lD c t k).map GCopyAt.region ++ List.replicate (vJ t.phase (cR c ((bI t).getD k 0))).length ((bI t).getD k 0):=by
 have hp:=nT hok (iN ht hk)
 unfold lD vJ
 by_cases h4:t.phase=4
 ·rw [if_pos h4,if_pos h4,if_pos h4,mS,List.map_append,List.map_append]
  obtain ⟨h1,h2⟩:=F6 (r:=(bI t).getD k 0) (ms:=cR c ((bI t).getD k 0)) (Nat.le_refl _)
  rw [h1,h2,List.take_length,List.length_drop]
  exact ⟨rfl,rfl⟩
 ·by_cases h6:t.phase=6
  ·rw [if_neg h4,if_neg h4,if_neg h4,if_pos h6,if_pos h6,if_pos h6,mS,List.map_append,List.map_append]
   obtain ⟨h1,h2⟩:=C6 (r:=(bI t).getD k 0) (ms:=cR c ((bI t).getD k 0)) (Nat.le_refl _)
   rw [h1,h2,List.take_length]
   exact ⟨rfl,rfl⟩
  ·rw [if_neg h4,if_neg h4,if_neg h4,if_neg h6,if_neg h6,if_neg h6,cC (z:=0) hk,List.map_append,List.map_append,List.map_append]
   have hl:((cR c ((bI t).getD k 0)).take 1).length=1:=by rw [List.length_take];omega
   rw [hl]
   refine ⟨?_,rfl⟩
   congr 1
   show [mAt c ((bI t).getD k 0).toNat 0] = (cR c ((bI t).getD k 0)).take 1
   cases e:cR c ((bI t).getD k 0) with
   | nil=>rw [e] at hp;simp at hp
   | cons a l=>unfold mAt;rw [show (c.places.getD ((bI t).getD k 0).toNat aCi).machines=a :: l from e];rfl
theorem aBj (xs:List Int) (i:Nat):bS (xs.getD ((1:Int).toNat+i) 0)=bS ((xs.drop 1).getD i 0):=by
 show bS (xs.getD (1+i) 0)=_
 rw [List.getD_eq_getElem?_getD,List.getD_eq_getElem?_getD,List.getElem?_drop]
theorem JM (c:GCluster) (t:GTx) (f:GCopyAt→Int):(lD c t 0).map f=[]:=by
 unfold lD
 split
 ·rfl
 ·split <;>rfl
theorem XG {c:GCluster} {t:GTx} (h:¬ (t.phase=3∨t.phase=1∨t.phase=7∨t.phase=9)):lD c t (bI t).length=dP c t:=by
 unfold lD dP
 rw [if_neg (show ¬ t.phase=3 by omega),if_neg (show ¬ (t.phase=1∨t.phase=7∨t.phase=9) by omega),List.take_length]
 rfl
theorem Y4 {c:GCluster} (hok:ClusOk c) {t:GTx} (ht:TxIn c t) {k:Nat} (hk:k≤(bI t).length):(lD c t k).length≤36:=by
 have h1:=sB ht.ok
 have h2:=fun b=>AV hok (ws:=bI t) (fun k hk=>iN ht hk) (b:=b) hk
 unfold lD
 split
 ·have:=h2 true;omega
 ·split
  ·have:=h2 false;omega
  ·rw [List.length_map,List.length_take];omega
theorem xI {c:GCluster} {t:GTx} (h:t.phase=1∨t.phase=7∨t.phase=9):dP c t=[]:=by
 unfold dP
 rw [if_neg (by omega),if_neg (by omega),if_neg (by omega),if_pos h]
set_option maxHeartbeats 1000000 in
theorem L0 (c:GCluster) (hok:ClusOk c) (n:Int) (ms:List GMachine) (ts:List GTx) (t:GTx) (ht:TxIn c t) :
  Con Tryz.prog 186 [] [vR (bO (cwt c n ms ts)),vR (cTx t)] [] (fun _:Unit=>True) (fun _=>[.a (.g 901), .a (.g 902)]) fun _=>[(901,bE 1 bS 0 ((dP c t).map GCopyAt.region)),(902,bE 1 bS 0 ((dP c t).map GCopyAt.machine))]:=by
 have hs1:=ht.ok.1.2.2.2.2.2.1
 have hs2:=ht.ok.1.2.2.2.2.2.2
 have hwl:=sB ht.ok
 refine aE Tryz.func186 fun B0 r_ D_ w0=>?_
 refine aF ?_
 refine aM 14 (fun i=>bS (([]:List Int).getD i 0)) (fun i hi=>absurd hi (Nat.not_lt_zero _)) (mu1:=[]) ?_
 refine aN ?_
 refine aM 15 (fun i=>bS (([]:List Int).getD i 0)) (fun i hi=>absurd hi (Nat.not_lt_zero _)) (mu1:=[]) ?_
 refine aN ?_
 refine aR (aCv 900 17 (II ht.ok)) fun _ _=>?_
 refine aN ?_
 refine aQ (fun e3=>?_) (fun e3=>?_)
 ·have hC:(bW t).length≤12:=Nat.le_trans (List.length_filter_le _ _) hs1
  have hP:dP c t=(bW t).map fun n=>l6 c n.region:=by unfold dP;rw [if_pos e3]
  refine aF ?_
  refine aR (aCv 900 23 (FY ht.ok)) fun _ _=>?_
  refine aN ?_
  refine cY (ι:=Nat) (fun i=>[(10,vI i),(6, .a (.g 14)),(7, .a (.g 15))]) (fun i=>[(14,bE 1 bS 0 (((bW t).take i).map GNote.region)),(15,bE 1 bS 0 (((bW t).take i).map fun n=>mAt c n.region.toNat 0))]) (fun i=>i≤(bW t).length) (fun i=>(bW t).length - i) 0 [14,15] [14,15] rfl rfl (Nat.zero_le _) wF ⟨⟨_,rfl,bP (sz:=1) (enc:=bS) (z:=0) (xs:=[]) rfl⟩,⟨_,rfl,bP (sz:=1) (enc:=bS) (z:=0) (xs:=[]) rfl⟩,wM⟩ ?_
  intro i h1
  have hle:((bW t).take i).length≤i:=by rw [List.length_take];omega
  refine aF ?_
  refine aI (fun e=>?_) (fun e=>?_)
  ·have hi:i<(bW t).length:=by omega
   have hr:=q9 ht hi
   have hp:=nT hok hr
   have hp0:0<(c.places.getD ((bW t).getD i aCn).region.toNat aCi).machines.length:=hp.1
   refine aF ?_
   refine cV TT_ok 36 (fun _=>bS ((bW t).getD i aCn).region) rfl rfl rfl rfl rfl rfl rfl (fun i hi=>by rcases i with _ | i <;>first | rfl | omega) (mu1:=[]) rfl rfl rfl ?_
   refine aN ?_
   refine cU TT_ok 14 36 37 rfl rfl rfl rfl rfl rfl rfl rfl rfl rfl rfl rfl ⟨by show ((((bW t).take i).map GNote.region).length+1) * 8≤_;rw [List.length_map];omega,by rw [List.length_map];unfold maxL;omega⟩ ?_
   refine aN ?_
   refine aW [15] [0,1,2,3,4,5,6,7,8,9,10,11,12,13,14,15] fun B0 H0=>?_
   refine bG 13 rfl (by kernel_rfl) (dV TT_ok 51 (fun _=>bS (mAt c ((bW t).getD i aCn).region.toNat 0)) rfl rfl rfl rfl rfl rfl rfl (fun j hj=>by rcases j with _ | j <;>first | rfl | omega) (mu1:=[]) rfl rfl rfl (bD ?_))
   refine bG 14 rfl (by kernel_rfl) (dM TT_ok 15 51 52 rfl rfl rfl rfl rfl rfl rfl rfl rfl rfl rfl rfl ⟨by show ((((bW t).take i).map fun n=>mAt c n.region.toNat 0).length+1) * 8≤_;rw [List.length_map];omega,by rw [List.length_map];unfold maxL;omega⟩ (bD ?_))
   refine aY [15] ?_
   refine aP ?_
   refine bC (bL 14 37) ?_
   refine bC (bL 15 52) ?_
   exact bN (i+1) hi (by omega) wF ⟨⟨_,rfl,fJ (x:=((bW t).getD i aCn).region) (by rw [cC (z:=aCn) hi,List.map_append];rfl) rfl⟩,⟨_,rfl,fJ (x:=mAt c ((bW t).getD i aCn).region.toNat 0) (by rw [cC (z:=aCn) hi,List.map_append];rfl) rfl⟩,wM⟩
  ·have hi:i=(bW t).length:=by omega
   subst hi
   rw [List.take_length,hP,List.map_map,List.map_map]
   refine aF ?_
   refine bB (bL 14 901) ?_
   refine bB (bL 15 902) ?_
   refine aC (()) [(4,none),(5,none)] ?_ ?_ ?_
   ·exact aCu _
   ·exact wM
   ·trivial
 have hend:∀ p,t.phase=p→(p=1∨p=7∨p=9)→dP c t=[]:=fun p h1 h2=>xI (by omega)
 refine aF ?_
 refine a7 (ι:=Unit) (fun _=>[(55,vB (decide (t.phase=1∨t.phase=7∨t.phase=9)))]) (fun _=>[]) (fun _=>True) [] [] ?_ ?_
 ·refine aQ (fun e1=>?_) (fun e1=>?_)
  ·refine aF ?_
   exact bN () trivial Nat.zero_lt_one ⟨⟨_,rfl,aCw (congrArg (fun b=>SV.a (.v (.bool b))) (by rw [decide_eq_true (p:=t.phase=1∨t.phase=7∨t.phase=9) (.inl e1)];exact beq_iff_eq.2 e1))⟩,wF⟩ wM
  ·refine aF ?_
   refine aQ (fun e7=>?_) (fun e7=>?_)
   ·refine aF ?_
    exact bN () trivial Nat.zero_lt_one ⟨⟨_,rfl,aCw (congrArg (fun b=>SV.a (.v (.bool b))) (by rw [decide_eq_true (p:=t.phase=1∨t.phase=7∨t.phase=9) (.inr (.inl e7))];exact beq_iff_eq.2 e7))⟩,wF⟩ wM
   ·refine aF ?_
    exact bN () trivial Nat.zero_lt_one ⟨⟨_,rfl,aCw (congrArg (fun b=>SV.a (.v (.bool b))) (by
     by_cases e9:t.phase=9
     ·rw [decide_eq_true (p:=t.phase=1∨t.phase=7∨t.phase=9) (.inr (.inr e9))];exact beq_iff_eq.2 e9
     ·rw [decide_eq_false (p:=t.phase=1∨t.phase=7∨t.phase=9) (fun h=>by omega)];exact beq_eq_false_iff_ne.2 e9))⟩,wF⟩ wM
 rintro ⟨⟩ _
 refine aZ ?_
 refine aI (fun e=>?_) (fun e=>?_)
 ·rw [xI e]
  refine aF ?_
  refine bB (bL 14 901) ?_
  refine bB (bL 15 902) ?_
  refine aC (()) [(4,none),(5,none)] ?_ ?_ ?_
  ·exact aCu _
  ·exact ⟨⟨_,rfl,bP (sz:=1) (enc:=bS) (z:=0) (xs:=[]) rfl⟩,⟨_,rfl,bP (sz:=1) (enc:=bS) (z:=0) (xs:=[]) rfl⟩,trivial⟩
  ·trivial
 have hph:¬ (t.phase=3∨t.phase=1∨t.phase=7∨t.phase=9):=by
  have e3:t.phase≠3:=e3
  omega
 refine aF ?_
 refine cY (ι:=Nat) (fun k=>[(11,vI k),(6, .a (.g 14)),(7, .a (.g 15))]) (fun k=>[(14,bE 1 bS 0 ((lD c t k).map GCopyAt.region)),(15,bE 1 bS 0 ((lD c t k).map GCopyAt.machine))]) (fun k=>k≤(bI t).length) (fun k=>(bI t).length - k) 0 [14,15] [14,15] rfl rfl (Nat.zero_le _) wF ⟨⟨_,rfl,bP (sz:=1) (enc:=bS) (z:=0) (xs:=[]) (JM c t GCopyAt.region).symm⟩,⟨_,rfl,bP (sz:=1) (enc:=bS) (z:=0) (xs:=[]) (JM c t GCopyAt.machine).symm⟩,wM⟩ ?_
 intro k h1
 refine aF ?_
 refine aI (fun e=>?_) (fun e=>?_)
 ·have hk:k<(bI t).length:=by omega
  have hr:=iN ht hk
  have hp:=nT hok hr
  have hle:=Y4 hok ht (k:=k) (by omega)
  obtain ⟨q1,q2⟩:=UI hok ht hk
  have hsel:(vJ t.phase (cR c ((bI t).getD k 0))).length≤3:=by
   unfold vJ
   split
   ·rw [List.length_drop];omega
   ·split
    ·omega
    ·rw [List.length_take];omega
  have hp1:1≤(c.places.getD ((bI t).getD k 0).toNat aCi).machines.length∧(c.places.getD ((bI t).getD k 0).toNat aCi).machines.length≤3:=hp
  refine aF ?_
  refine aW [] [0,1,2,3,4,5,6,7,8,9] fun B0 H0=>?_
  refine aP ?_
  refine a7 (ι:=Unit) (fun _=>[(12,vL 1 bS 0 (vJ t.phase (cR c ((bI t).getD k 0))))]) (fun _=>[]) (fun _=>True) [] [] ?_ ?_
  ·refine aQ (fun e4=>?_) (fun e4=>?_)
   ·refine aF ?_
    exact bN () trivial Nat.zero_lt_one ⟨⟨_,rfl,SV.imp_sl (by unfold vJ;rw [if_pos e4,List.length_drop];simp only [Int.toNat_natCast];show _=(c.places.getD ((bI t).getD k 0).toNat aCi).machines.length - 1;omega) fun i hi=>by unfold vJ;rw [if_pos e4];simp only [Int.toNat_natCast];exact aBj _ i⟩,wF⟩ wM
   ·refine aF ?_
    refine aQ (fun e6=>?_) (fun e6=>?_)
    ·refine aF ?_
     exact bN () trivial Nat.zero_lt_one ⟨⟨_,rfl,SV.imp_sl (by unfold vJ;rw [if_neg e4,if_pos e6];simp only [Int.toNat_natCast]) fun i hi=>by unfold vJ;rw [if_neg e4,if_pos e6];simp only [Int.toNat_natCast]⟩,wF⟩ wM
    ·refine aF ?_
     exact bN () trivial Nat.zero_lt_one ⟨⟨_,rfl,SV.imp_sl (by unfold vJ;rw [if_neg e4,if_neg e6,List.length_take];show (1:Nat)=min 1 (c.places.getD ((bI t).getD k 0).toNat aCi).machines.length;omega) fun i hi=>by
      unfold vJ
      have hi0:i=0:=by have hi:i<1:=hi;omega
      subst hi0
      rw [if_neg e4,if_neg e6]
      simp only [Int.toNat_natCast]
      show bS ((c.places.getD ((bI t).getD k 0).toNat aCi).machines.getD 0 0)=bS (((c.places.getD ((bI t).getD k 0).toNat aCi).machines.take 1).getD 0 0)
      congr 1
      cases (c.places.getD ((bI t).getD k 0).toNat aCi).machines <;>rfl⟩,wF⟩ wM
  rintro ⟨⟩ _
  refine aZ ?_
  generalize hL:vJ t.phase (cR c ((bI t).getD k 0))=L at hsel q1 q2 ⊢
  refine cY (ι:=Nat) (fun j=>[(13,vI j),(6, .a (.g 14)),(7, .a (.g 15))]) (fun j=>[(14,bE 1 bS 0 ((lD c t k).map GCopyAt.region ++ List.replicate j ((bI t).getD k 0))),(15,bE 1 bS 0 ((lD c t k).map GCopyAt.machine ++ L.take j))]) (fun j=>j≤L.length) (fun j=>L.length - j) 0 [14,15] [14,15] rfl rfl (Nat.zero_le _) wF ⟨⟨_,rfl,bP (by simp)⟩,⟨_,rfl,bP (by simp)⟩,wM⟩ ?_
  intro j h2
  have hl1:((lD c t k).map GCopyAt.region ++ List.replicate j ((bI t).getD k 0)).length=(lD c t k).length+j:=by simp
  have hl2:((lD c t k).map GCopyAt.machine ++ L.take j).length≤(lD c t k).length+j:=by simp;omega
  refine aF ?_
  refine aI (fun e2=>?_) (fun e2=>?_)
  ·have hj:j<L.length:=by omega
   refine aF ?_
   refine cV TT_ok 97 (fun _=>bS ((bI t).getD k 0)) rfl rfl rfl rfl rfl rfl rfl (fun i hi=>by rcases i with _ | i <;>first | rfl | omega) (mu1:=[]) rfl rfl rfl ?_
   refine aN ?_
   refine cU TT_ok 14 97 98 rfl rfl rfl rfl rfl rfl rfl rfl rfl rfl rfl rfl ⟨by show (((lD c t k).map GCopyAt.region ++ List.replicate j ((bI t).getD k 0)).length+1) * 8≤_;omega,by unfold maxL;omega⟩ ?_
   refine aN ?_
   refine cV TT_ok 104 (fun _=>bS (L.getD j 0)) rfl rfl rfl rfl rfl rfl rfl (fun i hi=>by rcases i with _ | i <;>first | rfl | omega) (mu1:=[]) rfl rfl rfl ?_
   refine aN ?_
   refine cU TT_ok 15 104 105 rfl rfl rfl rfl rfl rfl rfl rfl rfl rfl rfl rfl ⟨by show (((lD c t k).map GCopyAt.machine ++ L.take j).length+1) * 8≤_;omega,by unfold maxL;omega⟩ ?_
   refine aN ?_
   refine bC (bL 14 98) ?_
   refine bC (bL 15 105) ?_
   exact bN (j+1) hj (by omega) wF ⟨⟨_,rfl,fJ (x:=(bI t).getD k 0) (by rw [List.append_assoc, ← List.replicate_succ']) rfl⟩,⟨_,rfl,fJ (x:=L.getD j 0) (by rw [cC (z:=0) hj,List.append_assoc]) rfl⟩,wM⟩
  ·have hj:j=L.length:=by omega
   subst hj
   refine aF ?_
   exact bN (k+1) hk (by omega) wF ⟨⟨_,rfl,bP q2.symm⟩,⟨_,rfl,bP (by rw [List.take_length];exact q1.symm)⟩,wM⟩
 ·have hk:k=(bI t).length:=by omega
  subst hk
  rw [XG hph]
  refine aF ?_
  refine bB (bL 14 901) ?_
  refine bB (bL 15 902) ?_
  refine aC (()) [(4,none),(5,none)] ?_ ?_ ?_
  ·exact aCu _
  ·exact wM
  ·trivial
end
section
theorem XT {c:GCluster} {i:Nat} (hi:i<c.txs.length) (t:GTx):(c.txs.set i t).getD (i:Int).toNat aCk=t:=by
 simp [hi]
theorem iA {c:GCluster} {i:Nat} {t u:GTx} {l:List D} (hl:OwnI l (cTx u)):(Ch.arr 7 (c.txs.set i t).length fun j=>bif Nat.beq j (i:Int).toNat then l else cTx ((c.txs.set i t).getD j aCk)).imp (bE 7 cTx aCk (c.txs.set i u)) :=
 Ch.imp_trans (cG hl) (bP (by simp))
set_option maxHeartbeats 1000000 in
theorem yY (c:GCluster) (hok:ClusOk c) (i:Nat) (hi:i<c.txs.length) (ms:List GMachine) (y:Int×GTx) (hx:TxIn c y.2) (hp:2≤y.2.phase∧y.2.phase≤9) (hc:0≤y.1∧y.1≤1000000) (hl:y.2.phase=2→y.1<1000000) :
  Con Tryz.prog 185 [900,901,902,903] [.a (.p 900 0),vI i] [(900, .row (fW (clk c y.1) 901 902 903)),(901,roC 1 cE aCi c.places),(902,roC 4 bJ aCj ms),(903,bE 7 cTx aCk (c.txs.set i y.2))]
   (fun _:Unit=>True) (fun _=>[]) fun _=>[(900, .row (fW (clk c (dY c y).1) 901 902 903)),(903,bE 7 cTx aCk (c.txs.set i (dY c y).2))]:=by
 have hs2:=hx.ok.1.2.2.2.2.2.2
 have hst:=hx.ok.1.2.2.2.2.1
 refine aE Tryz.func185 fun B0 r_ D_ w0=>?_
 refine aF ?_
 refine cY (ι:=Nat×Int×Int×Int×Int) (fun _=>[]) (fun z=>[(900, .row (fW (clk c z.2.1) 901 902 903)),(903,bE 7 cTx aCk (c.txs.set i (tw y.2 z.2.2.1 z.2.2.2.1 z.2.2.2.2)))])
  (fun z=>iW c z.1 (z.2.1,tw y.2 z.2.2.1 z.2.2.2.1 z.2.2.2.2)=dY c y∧9 - z.2.2.1<z.1∧(2≤z.2.2.1∧z.2.2.1≤9)∧(0≤z.2.2.2.1∧z.2.2.2.1≤1000)∧(0≤z.2.2.2.2∧z.2.2.2.2≤1000000)∧(0≤z.2.1∧z.2.1≤1000000)∧(z.2.2.1=2→z.2.1<1000000))
  (fun z=>z.1) (8,y.1,y.2.phase,y.2.done,y.2.stamp) [900,903] [] rfl rfl ⟨rfl,by show 9 - y.2.phase<((8:Nat):Int);omega,hp,hx.ok.1.2.2.2.1,hst,hc,hl⟩ wF wM ?_
 rintro ⟨n,k,p,d,s⟩ ⟨h1,h2,h3,h4,h5,h6,h7⟩
 dsimp only at h1 h2 h3 h4 h5 h6 h7 ⊢
 have hT:TxIn c (tw y.2 p d s):=hx.tw (by omega) h4 h5
 have hle:=sM hok hT
 have hlen:(c.txs.set i (tw y.2 p d s)).length=c.txs.length:=List.length_set
 have hget:=XT hi (tw y.2 p d s)
 refine aF ?_
 refine aW [] [0,1,2,3,4,5,6,7,8,9,10,11] fun B0 H0=>?_
 rw [hget]
 refine aX 6 (aCv 901 14 (aCv 902 15 (L0 c hok k ms (c.txs.set i (tw y.2 p d s)) (tw y.2 p d s) hT))) fun _ _=>?_
 refine aY [7,8,9,10,11] ?_
 refine aP ?_
 refine bB (d6 903 (i:Int) 77 rfl rfl rfl rfl rfl rfl ⟨by omega,by omega⟩) ?_
 refine bB (kL 4 rfl rfl rfl) ?_
 rw [hget]
 refine aF ?_
 refine aA (fun e=>?_) (fun e=>?_)
 ·have hA:dY c y=(k,tw y.2 p d s):=by
   rw [← h1]
   refine BY (y:=(k,tw y.2 p d s)) (show p=7∨p=9∨d<(dP c (tw y.2 p d s)).length from ?_) n
   simp only [List.length_map] at e
   cases c1:p == 7 with
   | true=>exact .inl (by simpa using c1)
   | false =>
    cases c2:p == 9 with
    | true=>exact .inr (.inl (by simpa using c2))
    | false =>
     have e:(bif (bif p == 7 then true else p == 9) then true else decide (d<((dP c (tw y.2 p d s)).length:Int)))=true:=e
     rw [c1,c2] at e
     exact .inr (.inr (of_decide_eq_true e))
  rw [hA]
  refine aF ?_
  refine bB (a8 903 77) ?_
  refine aC (()) [] ?_ ?_ ?_
  ·exact aCu _
  ·exact ⟨⟨_,rfl,aCt _⟩,⟨_,rfl,iA (OwnI.refl _)⟩,trivial⟩
  ·trivial
 have h79:p≠7∧p≠9:=by
  have e:(bif (bif p == 7 then true else p == 9) then true else decide (d<(((dP c (tw y.2 p d s)).map GCopyAt.region).length:Int)))=false:=e
  refine ⟨fun h=>?_,fun h=>?_⟩
  ·rw [h] at e;cases e
  ·rw [h] at e;cases e
 have hns:¬ mQ c (k,tw y.2 p d s).2:=fun h=>by
  rcases h with h | h | h
  ·exact h79.1 h
  ·exact h79.2 h
  ·have e:(bif (bif p == 7 then true else p == 9) then true else decide (d<(((dP c (tw y.2 p d s)).map GCopyAt.region).length:Int)))=false:=e
   rw [List.length_map,beq_eq_false_iff_ne.2 h79.1,beq_eq_false_iff_ne.2 h79.2] at e
   exact of_decide_eq_false e h
 obtain ⟨m,rfl⟩:∃ m,n=m+1:=⟨n - 1,by omega⟩
 rw [VF hns] at h1
 have go:∀ (p' k' s':Int),(p=2→k'=k+1∧s'=k+1)→(p≠2→k'=k∧s'=s)→p'=fE (tw y.2 p d s)→iW c m (k',tw y.2 p' 0 s')=dY c y:=fun p' k' s' g1 g2 g3=>by
  rw [← h1]
  congr 1
  unfold tQ
  by_cases c2:p=2
  ·obtain ⟨q1,q2⟩:=g1 c2
   rw [if_pos (show (k,tw y.2 p d s).2.phase=2 from c2),if_pos (show (k,tw y.2 p d s).2.phase=2 from c2),q1,q2,g3]
  ·obtain ⟨q1,q2⟩:=g2 c2
   rw [if_neg (show ¬ (k,tw y.2 p d s).2.phase=2 from c2),if_neg (show ¬ (k,tw y.2 p d s).2.phase=2 from c2),q1,q2,g3]
 refine aF ?_
 refine aQ (fun e2=>?_) (fun e2=>?_)
 ·have e2:p=2:=e2
  have hk:=h7 e2
  refine aF ?_
  refine bC (a8 903 77) ?_
  exact bN (m,k+1,3,0,k+1) ⟨go _ _ _ (fun _=>⟨rfl,rfl⟩) (fun h=>absurd e2 h) (by unfold fE;rw [if_pos e2]),by dsimp only;omega,⟨by dsimp only;omega,by dsimp only;omega⟩,⟨by dsimp only;omega,by dsimp only;omega⟩,⟨by dsimp only;omega,by dsimp only;omega⟩,⟨by dsimp only;omega,by dsimp only;omega⟩,fun h=>by dsimp only at h;omega⟩ (Nat.lt_succ_self m) wF ⟨⟨_,rfl,aCt _⟩,⟨_,rfl,iA (OwnI.refl _)⟩,wM⟩
 have e2:p≠2:=e2
 have mk2:∀ p':Int,p<p'→p'≤9→p'=fE (tw y.2 p d s)→(fun z:Nat×Int×Int×Int×Int=>iW c z.1 (z.2.1,tw y.2 z.2.2.1 z.2.2.2.1 z.2.2.2.2)=dY c y∧9 - z.2.2.1<z.1∧(2≤z.2.2.1∧z.2.2.1≤9)∧(0≤z.2.2.2.1∧z.2.2.2.1≤1000)∧(0≤z.2.2.2.2∧z.2.2.2.2≤1000000)∧(0≤z.2.1∧z.2.1≤1000000)∧(z.2.2.1=2→z.2.1<1000000)) (m,k,p',0,s):=fun p' q1 q2 q3 =>
  ⟨go _ _ _ (fun h=>absurd h e2) (fun _=>⟨rfl,rfl⟩) q3,by dsimp only;omega,⟨by dsimp only;omega,q2⟩,⟨by dsimp only;omega,by dsimp only;omega⟩,h5,h6,fun h=>by dsimp only at h;omega⟩
 refine aF ?_
 refine aQ (fun e3=>?_) (fun e3=>?_)
 ·have e3:p=3:=e3
  refine aF ?_
  refine aQ (fun e4=>?_) (fun e4=>?_)
  ·have e4:(y.2.sets.length:Int)=0:=e4
   refine aF ?_
   refine bC (a8 903 77) ?_
   exact bN (m,k,7,0,s) (mk2 7 (by omega) (by omega) (by unfold fE;rw [if_neg e2,if_pos e3,if_pos (show y.2.sets.length=0 by omega)])) (Nat.lt_succ_self m) wF ⟨⟨_,rfl,aCt _⟩,⟨_,rfl,iA (OwnI.refl _)⟩,wM⟩
  ·have e4:(y.2.sets.length:Int)≠0:=e4
   refine aF ?_
   refine bC (a8 903 77) ?_
   exact bN (m,k,4,0,s) (mk2 4 (by omega) (by omega) (by unfold fE;rw [if_neg e2,if_pos e3,if_neg (show ¬ y.2.sets.length=0 by omega)])) (Nat.lt_succ_self m) wF ⟨⟨_,rfl,aCt _⟩,⟨_,rfl,iA (OwnI.refl _)⟩,wM⟩
 have e3:p≠3:=e3
 refine aF ?_
 refine aQ (fun e4=>?_) (fun e4=>?_)
 ·have e4:p=4:=e4
  refine aF ?_
  refine bC (a8 903 77) ?_
  exact bN (m,k,5,0,s) (mk2 5 (by omega) (by omega) (by unfold fE;rw [if_neg e2,if_neg e3,if_pos e4])) (Nat.lt_succ_self m) wF ⟨⟨_,rfl,aCt _⟩,⟨_,rfl,iA (OwnI.refl _)⟩,wM⟩
 have e4:p≠4:=e4
 refine aF ?_
 refine aQ (fun e5=>?_) (fun e5=>?_)
 ·have e5:p=5:=e5
  refine aF ?_
  refine bC (a8 903 77) ?_
  exact bN (m,k,6,0,s) (mk2 6 (by omega) (by omega) (by unfold fE;rw [if_neg e2,if_neg e3,if_neg e4,if_pos e5])) (Nat.lt_succ_self m) wF ⟨⟨_,rfl,aCt _⟩,⟨_,rfl,iA (OwnI.refl _)⟩,wM⟩
 have e5:p≠5:=e5
 refine aF ?_
 refine aQ (fun e6=>?_) (fun e6=>?_)
 ·have e6:p=6:=e6
  refine aF ?_
  refine bC (a8 903 77) ?_
  exact bN (m,k,7,0,s) (mk2 7 (by omega) (by omega) (by unfold fE;rw [if_neg e2,if_neg e3,if_neg e4,if_neg e5,if_pos e6])) (Nat.lt_succ_self m) wF ⟨⟨_,rfl,aCt _⟩,⟨_,rfl,iA (OwnI.refl _)⟩,wM⟩
 have e6:p≠6:=e6
 refine aF ?_
 refine aQ (fun e8=>?_) (fun e8=>?_)
 ·have e8:p=8:=e8
  refine aF ?_
  refine bC (a8 903 77) ?_
  exact bN (m,k,9,0,s) (mk2 9 (by omega) (by omega) (by unfold fE;rw [if_neg e2,if_neg e3,if_neg e4,if_neg e5,if_neg e6])) (Nat.lt_succ_self m) wF ⟨⟨_,rfl,aCt _⟩,⟨_,rfl,iA (OwnI.refl _)⟩,wM⟩
 ·have e8:p≠8:=e8
  omega
end
section
theorem VG {c:GCluster} (hok:ClusOk c) {x:GCopyAt} (h:AtIn c x):x.backup=(x.machine != mAt c x.region.toNat 0):=by
 obtain ⟨j,h1,h2,h3⟩:=h.at'
 rw [h2,h3]
 by_cases c0:j=0
 ·subst c0;simp
 ·rw [decide_eq_true (by omega)]
  have hr:=h.region
  have hp:=((hok.2.1.2 x.region.toNat (by omega)).2 j h1)
  unfold xT at hp
  have hn:¬ (cR c x.region).getD j 0 ∈ (cR c x.region).take j:=of_decide_eq_false (cF.1 hp).2
  have h0:mAt c x.region.toNat 0 ∈ (cR c x.region).take j:=by
   refine gW.2 ⟨0,by rw [List.length_take];omega,?_⟩
   rw [m5 (by rw [List.length_take];omega)]
  have:mAt c x.region.toNat j≠mAt c x.region.toNat 0:=fun e=>hn (by
   have e2:(cR c x.region).getD j 0=mAt c x.region.toNat j:=rfl
   rw [e2,e];exact h0)
  exact (bne_iff_ne.2 this).symm
theorem CW {m:GMachine} (h:m.cleared.length≤60) (tx:Int):(bif !decide (tx ∈ m.cleared) then ((m.cleared.length:Int) == 60) else false) = !jI m tx:=by
 unfold jI
 by_cases c1:(m.cleared.length:Int)<60
 ·rw [decide_eq_true c1,beq_eq_false_iff_ne.2 (by omega)]
  cases decide (tx ∈ m.cleared) <;>rfl
 ·rw [decide_eq_false c1,beq_iff_eq.2 (by omega)]
  cases decide (tx ∈ m.cleared) <;>rfl
set_option maxHeartbeats 4000000 in
theorem WY (c:GCluster) (hok:ClusOk c) (i:Nat) (hi:i<c.txs.length) (hp:2≤(c.txs.getD i aCk).phase∧(c.txs.getD i aCk).phase≤9) (hclk:c.clock≠1000000) :
  Con Tryz.prog 120 [900,901,902,903] [.a (.p 900 0),vI i] [(900, .row (fW c 901 902 903)),(901,roC 1 cE aCi c.places),(902,bE 4 bJ aCj c.machines),(903,bE 7 cTx aCk c.txs)]
   (fun _:Unit=>True) (fun _=>[vI (eE c i).1]) fun _=>if (eE c i).1=0 then [(900, .row (fW (eE c i).2 901 902 903)),(902,bE 4 bJ aCj (eE c i).2.machines),(903,bE 7 cTx aCk (eE c i).2.txs)] else []:=by
 have hmid:=tF hok hi hp hclk
 have hx:=hok.txIn hi
 have hck:=hok.1.2.1
 refine aE Tryz.func120 fun B0 r_ D_ w0=>?_
 refine bB (t5 903 rfl (bP (sz:=7) (enc:=cTx) (z:=aCk) (set_self (z:=aCk) hi).symm) rfl) ?_
 refine aF ?_
 refine cO TT_ok (yY c hok i hi c.machines (c.clock,c.txs.getD i aCk) hx hp hck (fun _=>by show c.clock<1000000;omega)) rfl rfl (aCu _) (fun _=>rfl) rfl rfl rfl fun _ _=>?_
 refine aN ?_
 have hRo:=xF (c:=c) (i:=i)
 have hRn:=CC (c:=c) (i:=i)
 have hRy:=z7 (c:=c) (i:=i)
 generalize hy:dY c (c.clock,c.txs.getD i aCk)=y at hmid hRo hRn hRy ⊢
 have hlen:(c.txs.set i y.2).length=c.txs.length:=List.length_set
 have hget:=XT hi y.2
 rw [hget]
 refine aA (b:=bif y.2.phase == 7 then true else y.2.phase == 9) (fun e=>?_) (fun e=>?_)
 ·have h79:y.2.phase=7∨y.2.phase=9:=by
   cases c2:y.2.phase == 7 with
   | true=>exact .inl (by simpa using c2)
   | false=>rw [c2] at e;exact .inr (by simpa using e)
  rw [hRo h79,if_pos rfl]
  refine aF ?_
  refine aC (()) [(4,none)] ?_ ?_ ?_
  ·exact aCu _
  ·exact wM
  ·trivial
 have h79:¬ (y.2.phase=7∨y.2.phase=9):=by
  rintro (h | h) <;>rw [h] at e <;>cases e
 have hd:=hmid.done h79
 have hle:=sM hok hmid.tx
 obtain ⟨hAt,hw3,hmi1,hmi0,hhas⟩:=hmid.at hok h79
 have hmi:0≤(cZ c y.2).machine∧(cZ c y.2).machine<c.machines.length:=⟨hmi0,by omega⟩
 have hreg:((dP c y.2).map GCopyAt.region).getD y.2.done.toNat 0=(cZ c y.2).region:=m7 (za:=GCopyAt.z) GCopyAt.region hd.2
 have hmch:((dP c y.2).map GCopyAt.machine).getD y.2.done.toNat 0=(cZ c y.2).machine:=m7 (za:=GCopyAt.z) GCopyAt.machine hd.2
 have hd1:0≤y.2.done∧y.2.done<(((dP c y.2).map GCopyAt.region).length:Int):=by rw [List.length_map];omega
 have hd2:0≤y.2.done∧y.2.done<(((dP c y.2).map GCopyAt.machine).length:Int):=by rw [List.length_map];omega
 have hmr:0≤((dP c y.2).map GCopyAt.machine).getD y.2.done.toNat 0∧((dP c y.2).map GCopyAt.machine).getD y.2.done.toNat 0<c.machines.length:=by rw [hmch];exact hmi
 have hRn:=hRn h79
 have hRy:=hRy h79
 refine aF ?_
 refine aW [] [0,1,2,3,4,5,6,7,8,9,10,11] fun B0 H0=>?_
 rw [hget]
 refine aX 6 (aCv 901 114 (aCv 902 115 (L0 c hok y.1 c.machines (c.txs.set i y.2) y.2 hmid.tx))) fun _ _=>?_
 refine aY [7,8,9,10,11] ?_
 refine tX (by kernel_rfl) ?_
 refine bC (d6 903 (i:Int) 77 rfl rfl rfl rfl rfl rfl ⟨by omega,by omega⟩) ?_
 refine bC (kL 5 rfl rfl rfl) ?_
 rw [hget]
 refine aZ ?_
 rw [hreg]
 refine aW [] [0,1,2,3,4,5,6,7,8,9,10,11,12] fun B0 H0=>?_
 refine aP ?_
 rw [hmch]
 refine aA (b := !(mOf c (cZ c y.2).machine).alive) (fun e=>?_) (fun e=>?_)
 ·have ha:(mOf c (cZ c y.2).machine).alive=false:=by simpa using e
  have hC:b8 c y.2=(6,mOf c (cZ c y.2).machine,y.2):=wP ha
  have hR:=hRn (by rw [hC];show (6:Int)≠0;decide)
  rw [hR,show (b8 c y.2).1=6 from by rw [hC],if_neg (by decide)]
  refine aF ?_
  refine aC (()) [(4,none)] ?_ ?_ ?_
  ·exact aCu _
  ·trivial
  ·trivial
 have ha:(c.machines.getD (cZ c y.2).machine.toNat aCj).alive=true:=by simpa using e
 have hM:=hok.2.2.1 (cZ c y.2).machine.toNat hmi1
 have hh:=hhas ha
 have hC0:b8 c y.2=jG y.2 (cZ c y.2) ((bW y.2).getD y.2.done.toNat aCn) (c.machines.getD (cZ c y.2).machine.toNat aCj):=rfl
 have hA2:∀ h0:(b8 c y.2).1=0,FO (c.machines.getD (cZ c y.2).machine.toNat aCj) (b8 c y.2).2.1 y.2 (b8 c y.2).2.2:=fun h0=>DV hok hmid h79 h0
 generalize hr:(cZ c y.2).region=r at hreg hAt hw3 hh ⊢
 generalize hmm:c.machines.getD (cZ c y.2).machine.toNat aCj=m at ha hM hh hC0 hA2 ⊢
 have bl:m.log.length≤200:=hM.1.2.1
 have bc:m.cleared.length≤60:=hM.1.2.2
 have bk:m.copies.length≤6:=hM.1.1
 have hrs:=(oU.1 hM.2.1).2
 obtain ⟨s1,s2,s3⟩:=oP hmid.tx.ok r
 have hs1:=hmid.tx.ok.1.2.2.2.2.2.1
 have hs2:=hmid.tx.ok.1.2.2.2.2.2.2
 have hsl:(bY r y.2.sets).length≤y.2.sets.length:=List.length_filter_le _ _
 have hcb:=(fH hM hh).2
 have hc6:(cellsOf m r).length=6:=(lF.1 hcb).1
 have hself:=xA hh
 have hix2:0≤eM m r∧eM m r<m.copies.length:=⟨(gJ (z:=aCp)).2 hh,by have:=oE (z:=aCp) ((gJ (z:=aCp)).2 (show m.copies.any (atB r)=true from hh));have:=(gJ (z:=aCp)).2 hh;show cI (atB r) m.copies<_;omega⟩
 have hix3:0≤cI (atB r) m.copies∧cI (atB r) m.copies<m.copies.length:=hix2
 have hT1:eN (dT y.2):=(hmid.tx.same (u:=dT y.2) ⟨rfl,rfl,rfl,rfl⟩ (by have:=hmid.phase;show 1≤y.2.phase∧y.2.phase≤9;omega) (by show 0≤y.2.done+1∧y.2.done+1≤1000;omega) (hmid.tx.ok.1.2.2.2.2.1)).ok
 have hcel:cellsOf m r=(m.copies.getD (eM m r).toNat aCp).cells:=eW hh
 refine bB (d6 902 (cZ c y.2).machine 60 rfl rfl rfl rfl rfl rfl hmi) ?_
 refine bB (kL 9 rfl rfl rfl) ?_
 rw [show c.machines.getD (cZ c y.2).machine.toNat aCj=m from hmm]
 refine bB (a6 60 1 61) ?_
 refine bB (a6 60 2 62) ?_
 refine bB (a6 60 3 63) ?_
 refine aF ?_
 refine aW [] [0,1,2,3,4,5,6,7,8,9,10,11,12] fun B0 H0=>?_
 refine fU 8 (wT m (by omega) r) rfl rfl rfl (aCu _) rfl ?_
 refine UC ?_
 refine rT TT_ok 9 rfl rfl rfl rfl ?_
 refine rT TT_ok 10 rfl rfl rfl rfl ?_
 refine qN (d6 61 (eM m r) 64 rfl rfl rfl rfl rfl rfl hix2) ?_
 refine qN (a6 64 1 65) ?_
 refine qN (kL 82 rfl rfl rfl) ?_
 refine rT TT_ok 11 rfl rfl rfl rfl ?_
 refine rT TT_ok 12 rfl rfl rfl rfl ?_
 refine KL TT_ok rfl ?_
 refine cO TT_ok (aCv 900 30 (BP y.2 r (by omega))) rfl rfl (aCu _) (fun _=>rfl) rfl rfl rfl fun _ _=>?_
 refine aN ?_
 rw [← hcel]
 refine a7 (ι:=Unit) (fun _=>[]) (fun _=>[(902,bE 4 bJ aCj (c.machines.set (cZ c y.2).machine.toNat (b8 c y.2).2.1)),(903,bE 7 cTx aCk (c.txs.set i (b8 c y.2).2.2))]) (fun _=>(b8 c y.2).1=0) [902,903,77,60,61,62,63,64,65,30] [77,60,61,62,63,64,65,30] ?_ ?_
 ·refine aQ (fun e2=>?_) (fun e2=>?_)
  ·have e2:y.2.phase=2:=e2
   have hC:=hC0.trans (WR ha e2)
   rw [hr] at hC
   refine aF ?_
   refine cO TT_ok (aCv 901 40 (R4 (cellsOf m r) (bY r y.2.sets) (by omega) hcb s1 s2 (ZE s1 s2 s3))) rfl rfl (aCu _) (fun _=>rfl) rfl rfl rfl fun _ _=>?_
   refine aN ?_
   refine eF rfl (fun e=>?_) (fun e=>?_)
   ·have hC:b8 c y.2=(0,m,oV y.2):=by rw [hC,e];rfl
    refine aF ?_
    refine eY (a9 64 1 65) ?_
    refine eY (a8 61 64) ?_
    refine eY (t5 61 rfl (cG (y:=(oR m r (cellsOf m r))) (OwnI.refl _)) rfl) ?_
    refine eY (a9 60 1 61) ?_
    refine eY (a9 60 2 62) ?_
    refine eY (a9 60 3 63) ?_
    refine eY (a8 902 60) ?_
    refine eY (a8 903 77) ?_
    refine eY (t5 902 rfl (Ch.imp_trans (cG (y:=cL m r (cellsOf m r)) (OwnI.refl _)) (bP (ys:=c.machines.set (cZ c y.2).machine.toNat (b8 c y.2).2.1) (by rw [hC,hself]))) rfl) ?_
    refine eY (t5 903 rfl (Ch.imp_trans (iA (u:=oV y.2) (OwnI.refl _)) (bP (ys:=c.txs.set i (b8 c y.2).2.2) (by rw [hC]))) rfl) ?_
    have h0:(b8 c y.2).1=0:=by rw [hC]
    have ha2:=hA2 h0
    have hR:=hRy h0
    have hphs:=hmid.phase
    have hstm:=hmid.stamp
    have hclo:=hmid.clock
    have hx2:TxIn c (b8 c y.2).2.2:=hmid.tx.same ha2.same (by rcases ha2.phase with q | q <;>omega) (by rcases ha2.phase with q | q <;>omega) (by rw [ha2.stamp];omega)
    rw [hR,if_pos rfl]
    refine cO TT_ok (yY c hok i hi (c.machines.set (cZ c y.2).machine.toNat (b8 c y.2).2.1) (y.1,(b8 c y.2).2.2) hx2 (by show 2≤(b8 c y.2).2.2.phase∧(b8 c y.2).2.2.phase≤9;rcases ha2.phase with q | q <;>omega) (by show 0≤y.1∧y.1≤1000000;omega) (fun h=>hmid.lock (by have h:(b8 c y.2).2.2.phase=2:=h;rcases ha2.phase with q | q <;>omega))) rfl rfl (aCu _) (fun _=>rfl) rfl rfl rfl fun _ _=>?_
    refine aN ?_
    refine aC (()) [(4,none)] ?_ ?_ ?_
    ·exact aCu _
    ·exact wM
    ·trivial
   rw [show pY (cellsOf m r) (bY r y.2.sets)=pQ (cellsOf m r) (bY r y.2.sets) from by unfold pY;rw [e];rfl]
   refine aF ?_
   refine aQ (fun e5=>?_) (fun e5=>?_)
   ·have hC:b8 c y.2=(9,m,y.2):=by rw [hC,e,decide_eq_true e5];rfl
    have hR:=hRn (by rw [hC];show (9:Int)≠0;decide)
    rw [hR,show (b8 c y.2).1=9 from by rw [hC],if_neg (by decide)]
    refine aF ?_
    refine aC (()) [(4,none)] ?_ ?_ ?_
    ·exact aCu _
    ·trivial
    ·trivial
   have hC:b8 c y.2=(0,mJ (cL m r (pQ (cellsOf m r) (bY r y.2.sets))) ⟨1,y.2.id,r,bY r y.2.sets⟩,dT y.2):=by rw [hC,e,decide_eq_false e5];rfl
   refine aF ?_
   refine eY (a9 64 1 65) ?_
   refine eY (a8 61 64) ?_
   refine eY (t5 61 rfl (Ch.imp_trans (cG (y:=oR m r (cellsOf m r)) (OwnI.refl _)) (bP (congrArg GMachine.copies hself))) rfl) ?_
   refine cO TT_ok (aCv 905 40 (aCv 903 63 (aCv 902 62 (aCv 901 61 (aCv 900 60 (F9 m (by omega) (by omega) (by omega) r hh (pQ (cellsOf m r) (bY r y.2.sets)))))))) rfl rfl (aCu _) (fun _=>rfl) rfl rfl rfl fun _ _=>?_
   refine aN ?_
   refine aW [62,30] [0,1,2,3,4,5,6,7,8,9,10,11,12,13,14,15,16] fun B0 H0=>?_
   refine bG 12 rfl (by kernel_rfl) (dV TT_ok 140 (fun _=>cK ⟨1,y.2.id,r,bY r y.2.sets⟩) rfl rfl rfl rfl rfl rfl rfl (fun j hj=>by rcases j with _ | j <;>first | rfl | omega) (mu1:=[(30, .arr 0 0 fun _=>[])]) rfl rfl rfl (bD ?_))
   refine bG 13 rfl (by kernel_rfl) (dM TT_ok 62 140 66 rfl rfl rfl rfl rfl rfl rfl rfl rfl rfl rfl rfl ⟨by show (m.log.length+1) * 48≤_;omega,by unfold maxL;omega⟩ (bD ?_))
   refine aY [14,15,16] ?_
   refine dR 16 rfl (by kernel_rfl) (by kernel_rfl) (aV (eJ [] fun B0 H0=>?_))
   refine aP ?_
   refine bC (a9 60 1 61) ?_
   refine bC (t5 66 rfl (fJ (x:=(⟨1,y.2.id,r,bY r y.2.sets⟩:GRecord)) rfl rfl) rfl) ?_
   refine bC (a9 60 2 66) ?_
   refine bC (a9 60 3 63) ?_
   refine bC (a8 902 60) ?_
   refine bC (a8 903 77) ?_
   exact bN () (by rw [hC]) Nat.zero_lt_one wF ⟨⟨_,rfl,Ch.imp_trans (cG (y:=mJ (cL m r (pQ (cellsOf m r) (bY r y.2.sets))) ⟨1,y.2.id,r,bY r y.2.sets⟩) (OwnI.refl _)) (bP (by rw [hC]))⟩,⟨_,rfl,Ch.imp_trans (iA (u:=dT y.2) (OwnI.refl _)) (bP (by rw [hC]))⟩,wM⟩
  refine aF ?_
  refine aQ (fun e3=>?_) (fun e3=>?_)
  ·have e3:y.2.phase=3:=e3
   have hk:y.2.done.toNat<(bW y.2).length:=by rw [← FI (c:=c) e3];exact hd.2
   have hk2:0≤y.2.done∧y.2.done.toNat<(bW (dT y.2)).length:=⟨hd.1,hk⟩
   have hnb:=IF ((v8.1 hmid.tx.ok.2.1).1 _ (List.mem_filter.1 (cJ (z:=aCn) hk)).1)
   have hnb2:0≤((bW (dT y.2)).getD y.2.done.toNat aCn).slot∧((bW (dT y.2)).getD y.2.done.toNat aCn).slot<(cellsOf m r).length:=⟨hnb.1,by rw [hc6];exact Int.lt_of_le_of_lt hnb.2 (by decide)⟩
   have hrn:((bW y.2).getD y.2.done.toNat aCn).region=r:=by rw [← hr,VL e3 hd.2];rfl
   have hC:=hC0.trans (WB ha e3 (by rw [hr,hrn]))
   refine aF ?_
   refine aR (aCv 900 50 (FY hT1)) fun _ _=>?_
   refine aN ?_
   have hhd:jW ((cellsOf m r).getD ((bW (dT y.2)).getD y.2.done.toNat aCn).slot.toNat aCo).head=true:=by
    have h1:=(nU.1 ((lF.1 hcb).2 _ (cJ (z:=aCo) (i:=((bW (dT y.2)).getD y.2.done.toNat aCn).slot.toNat) (by omega)))).1
    exact kR.2 h1
   have hV:=UP hhd
   refine aW [] [0,1,2,3,4,5,6,7,8] fun B0 H0=>?_
   refine fU 1 (pC _) rfl rfl rfl (aCu _) rfl ?_
   refine aY [2,3,5,6,4,7,8] ?_
   refine fU 4 (mF _) rfl rfl rfl (aCu _) rfl ?_
   refine aY [7,8] ?_
   refine aP ?_
   rw [hV]
   have hb:∀ b,(bif fD ((cellsOf m r).getD ((bW (dT y.2)).getD y.2.done.toNat aCn).slot.toNat aCo).head then true else ((cellsOf m r).getD ((bW (dT y.2)).getD y.2.done.toNat aCn).slot.toNat aCo).head.tdiv 4 != ((bW (dT y.2)).getD y.2.done.toNat aCn).version)=b→KO m ((bW y.2).getD y.2.done.toNat aCn)=b:=fun b h=>by
    unfold KO
    rw [hrn];exact h
   refine aA (fun e=>?_) (fun e=>?_)
   ·have hC:b8 c y.2=(0,m,oV y.2):=by rw [hC,hb _ e];rfl
    refine aF ?_
    refine bC (a9 64 1 65) ?_
    refine bC (a8 61 64) ?_
    refine bC (t5 61 rfl (cG (y:=(oR m r (cellsOf m r))) (OwnI.refl _)) rfl) ?_
    refine bC (a9 60 1 61) ?_
    refine bC (a9 60 2 62) ?_
    refine bC (a9 60 3 63) ?_
    refine bC (a8 902 60) ?_
    refine bC (a8 903 77) ?_
    exact bN () (by rw [hC]) Nat.zero_lt_one wF ⟨⟨_,rfl,Ch.imp_trans (cG (y:=cL m r (cellsOf m r)) (OwnI.refl _)) (bP (by rw [hC,hself]))⟩,⟨_,rfl,Ch.imp_trans (iA (u:=oV y.2) (OwnI.refl _)) (bP (by rw [hC]))⟩,wM⟩
   ·have hC:b8 c y.2=(0,m,dT y.2):=by rw [hC,hb _ e];rfl
    refine aF ?_
    refine bC (a9 64 1 65) ?_
    refine bC (a8 61 64) ?_
    refine bC (t5 61 rfl (cG (y:=(oR m r (cellsOf m r))) (OwnI.refl _)) rfl) ?_
    refine bC (a9 60 1 61) ?_
    refine bC (a9 60 2 62) ?_
    refine bC (a9 60 3 63) ?_
    refine bC (a8 902 60) ?_
    refine bC (a8 903 77) ?_
    exact bN () (by rw [hC]) Nat.zero_lt_one wF ⟨⟨_,rfl,Ch.imp_trans (cG (y:=cL m r (cellsOf m r)) (OwnI.refl _)) (bP (by rw [hC,hself]))⟩,⟨_,rfl,Ch.imp_trans (iA (u:=dT y.2) (OwnI.refl _)) (bP (by rw [hC]))⟩,wM⟩
  refine aF ?_
  refine aQ (fun e4=>?_) (fun e4=>?_)
  ·have e4:y.2.phase=4:=e4
   have hC:=hC0.trans (QO ha e4)
   rw [hr] at hC
   refine aF ?_
   refine aQ (fun e5=>?_) (fun e5=>?_)
   ·have hC:b8 c y.2=(9,m,y.2):=by rw [hC,decide_eq_true e5];rfl
    have hR:=hRn (by rw [hC];show (9:Int)≠0;decide)
    rw [hR,show (b8 c y.2).1=9 from by rw [hC],if_neg (by decide)]
    refine aF ?_
    refine aC (()) [(4,none)] ?_ ?_ ?_
    ·exact aCu _
    ·trivial
    ·trivial
   have hC:b8 c y.2=(0,mJ m ⟨2,y.2.id,r,bY r y.2.sets⟩,dT y.2):=by rw [hC,decide_eq_false e5];rfl
   refine aF ?_
   refine aW [62,30] [0,1,2,3,4,5,6,7,8,9,10,11,12,13,14,15,16] fun B0 H0=>?_
   refine bG 12 rfl (by kernel_rfl) (dV TT_ok 140 (fun _=>cK ⟨2,y.2.id,r,bY r y.2.sets⟩) rfl rfl rfl rfl rfl rfl rfl (fun j hj=>by rcases j with _ | j <;>first | rfl | omega) (mu1:=[(30, .arr 0 0 fun _=>[])]) rfl rfl rfl (bD ?_))
   refine bG 13 rfl (by kernel_rfl) (dM TT_ok 62 140 66 rfl rfl rfl rfl rfl rfl rfl rfl rfl rfl rfl rfl ⟨by show (m.log.length+1) * 48≤_;omega,by unfold maxL;omega⟩ (bD ?_))
   refine aY [14,15,16] ?_
   refine dR 16 rfl (by kernel_rfl) (by kernel_rfl) (aV (eJ [] fun B0 H0=>?_))
   refine aP ?_
   refine bC (t5 66 rfl (fJ (x:=(⟨2,y.2.id,r,bY r y.2.sets⟩:GRecord)) rfl rfl) rfl) ?_
   refine bC (a9 64 1 65) ?_
   refine bC (a8 61 64) ?_
   refine bC (t5 61 rfl (cG (y:=(oR m r (cellsOf m r))) (OwnI.refl _)) rfl) ?_
   refine bC (a9 60 1 61) ?_
   refine bC (a9 60 2 66) ?_
   refine bC (a9 60 3 63) ?_
   refine bC (a8 902 60) ?_
   refine bC (a8 903 77) ?_
   exact bN () (by rw [hC]) Nat.zero_lt_one wF ⟨⟨_,rfl,Ch.imp_trans (cG (y:=mJ (cL m r (cellsOf m r)) ⟨2,y.2.id,r,bY r y.2.sets⟩) (OwnI.refl _)) (bP (by rw [hC,hself]))⟩,⟨_,rfl,Ch.imp_trans (iA (u:=dT y.2) (OwnI.refl _)) (bP (by rw [hC]))⟩,wM⟩
  refine aF ?_
  refine aQ (fun e5=>?_) (fun e5=>?_)
  ·have e5:y.2.phase=5:=e5
   have hC:=hC0.trans (VJ ha e5)
   rw [hr] at hC
   refine aF ?_
   refine cO TT_ok (aCv 900 65 (AJ (cellsOf m r) (bY r y.2.sets) (by omega) hcb s1)) rfl rfl (aCu _) (fun _=>rfl) rfl rfl rfl fun _ _=>?_
   refine aN ?_
   refine cO TT_ok (aCv 903 63 (aCv 902 62 (aCv 901 61 (aCv 900 60 (ZV m (by omega) y.2.id r))))) rfl rfl (aCu _) (fun _=>rfl) rfl rfl rfl fun _ _=>?_
   refine aN ?_
   refine bC (a9 64 1 65) ?_
   refine bC (a8 61 64) ?_
   refine bC (t5 61 rfl (cG (y:=(oR m r (lM (cellsOf m r) (bY r y.2.sets)))) (OwnI.refl _)) rfl) ?_
   refine bC (a9 60 1 61) ?_
   refine bC (a9 60 2 62) ?_
   refine bC (a9 60 3 63) ?_
   refine bC (a8 902 60) ?_
   refine bC (a8 903 77) ?_
   exact bN () (by rw [hC]) Nat.zero_lt_one wF ⟨⟨_,rfl,Ch.imp_trans (cG (y:=BR (cL m r (lM (cellsOf m r) (bY r y.2.sets))) y.2.id r) (OwnI.refl _)) (bP (by rw [hC]))⟩,⟨_,rfl,Ch.imp_trans (iA (u:=dT y.2) (OwnI.refl _)) (bP (by rw [hC]))⟩,wM⟩
  refine aF ?_
  refine aQ (fun e6=>?_) (fun e6=>?_)
  ·have e6:y.2.phase=6:=e6
   have hC:=hC0.trans (OK ha e6)
   have hbk:=VG hok hAt
   refine aF ?_
   refine aW [] [0,1,2,3,4,5,6,7,8,9,10,11,12,13,14,15,16,17] fun B0 H0=>?_
   refine fU 8 (mW m.cleared (by omega) _) rfl rfl rfl (aCu _) rfl ?_
   refine aY [9,10,11,12,13,14,15,16,17] ?_
   refine aP ?_
   refine aA (b:=bif !decide (y.2.id ∈ m.cleared) then ((m.cleared.length:Int) == 60) else false) (fun e=>?_) (fun e=>?_)
   ·have hC:b8 c y.2=(9,m,y.2):=by rw [hC, ← CW bc,e];rfl
    have hR:=hRn (by rw [hC];show (9:Int)≠0;decide)
    rw [hR,show (b8 c y.2).1=9 from by rw [hC],if_neg (by decide)]
    refine aF ?_
    refine aC (()) [(4,none)] ?_ ?_ ?_
    ·exact aCu _
    ·trivial
    ·trivial
   have hC:b8 c y.2=(0,HG y.2 (cZ c y.2) m,dT y.2):=by rw [hC, ← CW bc,e];rfl
   unfold HG at hC
   rw [hr] at hC
   have hpl:=nT hok hAt.region
   have hpl0:0<(c.places.getD r.toNat aCi).machines.length:=by
    have h0:=hpl.1
    rw [hr] at h0
    exact h0
   have hrr:0≤r∧r<c.places.length:=by rw [← hr];exact hAt.region
   refine aF ?_
   refine aW [] [0,1,2,3,4,5,6,7,8,9,10,11,12,13,14] fun B0 H0=>?_
   refine aP ?_
   rw [hmch]
   rw [hr] at hbk
   refine aA (fun e2=>?_) (fun e2=>?_)
   ·have hb:(cZ c y.2).backup=true:=by rw [hbk];exact e2
    have hC:b8 c y.2=(0,iP (cL m r (lM (cellsOf m r) (bY r y.2.sets))) y.2.id r true,dT y.2):=by rw [hC,hb];rfl
    refine aF ?_
    refine cO TT_ok (aCv 900 65 (AJ (cellsOf m r) (bY r y.2.sets) (by omega) hcb s1)) rfl rfl (aCu _) (fun _=>rfl) rfl rfl rfl fun _ _=>?_
    refine aN ?_
    refine cO TT_ok (aCv 905 67 (aCv 904 66 (aCv 903 63 (aCv 902 62 (aCv 901 61 (aCv 900 60 (zU m (by omega) (by omega) hrs y.2.id r true))))))) rfl rfl (aCu _) (fun _=>rfl) rfl rfl rfl fun _ _=>?_
    refine aN ?_
    refine bC (a9 64 1 65) ?_
    refine bC (a8 61 64) ?_
    refine bC (t5 61 rfl (cG (y:=(oR m r (lM (cellsOf m r) (bY r y.2.sets)))) (OwnI.refl _)) rfl) ?_
    refine bC (a9 60 1 61) ?_
    refine bC (a9 60 2 66) ?_
    refine bC (a9 60 3 67) ?_
    refine bC (a8 902 60) ?_
    refine bC (a8 903 77) ?_
    exact bN () (by rw [hC]) Nat.zero_lt_one wF ⟨⟨_,rfl,Ch.imp_trans (cG (y:=iP (cL m r (lM (cellsOf m r) (bY r y.2.sets))) y.2.id r true) (OwnI.refl _)) (bP (by rw [hC]))⟩,⟨_,rfl,Ch.imp_trans (iA (u:=dT y.2) (OwnI.refl _)) (bP (by rw [hC]))⟩,wM⟩
   ·have hb:(cZ c y.2).backup=false:=by rw [hbk];exact e2
    have hC:b8 c y.2=(0,iP m y.2.id r true,dT y.2):=by rw [hC,hb];rfl
    refine aF ?_
    refine cO TT_ok (aCv 905 67 (aCv 904 66 (aCv 903 63 (aCv 902 62 (aCv 901 61 (aCv 900 60 (zU m (by omega) (by omega) hrs y.2.id r true))))))) rfl rfl (aCu _) (fun _=>rfl) rfl rfl rfl fun _ _=>?_
    refine aN ?_
    refine bC (a9 64 1 65) ?_
    refine bC (a8 61 64) ?_
    refine bC (t5 61 rfl (cG (y:=(oR m r (cellsOf m r))) (OwnI.refl _)) rfl) ?_
    refine bC (a9 60 1 61) ?_
    refine bC (a9 60 2 66) ?_
    refine bC (a9 60 3 67) ?_
    refine bC (a8 902 60) ?_
    refine bC (a8 903 77) ?_
    exact bN () (by rw [hC]) Nat.zero_lt_one wF ⟨⟨_,rfl,Ch.imp_trans (cG (y:=iP (cL m r (cellsOf m r)) y.2.id r true) (OwnI.refl _)) (bP (by rw [hC,hself]))⟩,⟨_,rfl,Ch.imp_trans (iA (u:=dT y.2) (OwnI.refl _)) (bP (by rw [hC]))⟩,wM⟩
  have e8:y.2.phase=8:=by
   have hph:=hmid.phase
   have e2:y.2.phase≠2:=e2
   have e3:y.2.phase≠3:=e3
   have e4:y.2.phase≠4:=e4
   have e5:y.2.phase≠5:=e5
   have e6:y.2.phase≠6:=e6
   omega
  have hC:=hC0.trans (VC ha e8)
  rw [hr] at hC
  refine aF ?_
  refine aQ (fun _=>?_) (fun e=>absurd e8 e)
  refine aF ?_
  refine aW [] [0,1,2,3,4,5,6,7,8,9] fun B0 H0=>?_
  refine iH 8 (aCv 903 63 (aCv 902 62 (aCv 901 61 (HV m.alive m.log (by omega) y.2.id r 1)))) rfl rfl rfl (aCu _) (fun _=>rfl) rfl rfl rfl fun _ _=>?_
  refine aY [9] ?_
  refine aP ?_
  refine aI (fun e=>?_) (fun e=>?_)
  ·have hC:b8 c y.2=(0,iP (cL m r (pP (cellsOf m r) (bY r y.2.sets))) y.2.id r false,dT y.2):=by rw [hC,if_pos (show 0≤oD m y.2.id r 1 from e)]
   refine aF ?_
   refine cO TT_ok (aCv 900 65 (I3 (cellsOf m r) (bY r y.2.sets) (by omega) hcb s1)) rfl rfl (aCu _) (fun _=>rfl) rfl rfl rfl fun _ _=>?_
   refine aN ?_
   refine cO TT_ok (aCv 905 67 (aCv 904 66 (aCv 903 63 (aCv 902 62 (aCv 901 61 (aCv 900 60 (zU m (by omega) (by omega) hrs y.2.id r false))))))) rfl rfl (aCu _) (fun _=>rfl) rfl rfl rfl fun _ _=>?_
   refine aN ?_
   refine bC (a9 64 1 65) ?_
   refine bC (a8 61 64) ?_
   refine bC (t5 61 rfl (cG (y:=(oR m r (pP (cellsOf m r) (bY r y.2.sets)))) (OwnI.refl _)) rfl) ?_
   refine bC (a9 60 1 61) ?_
   refine bC (a9 60 2 66) ?_
   refine bC (a9 60 3 67) ?_
   refine bC (a8 902 60) ?_
   refine bC (a8 903 77) ?_
   exact bN () (by rw [hC]) Nat.zero_lt_one wF ⟨⟨_,rfl,Ch.imp_trans (cG (y:=iP (cL m r (pP (cellsOf m r) (bY r y.2.sets))) y.2.id r false) (OwnI.refl _)) (bP (by rw [hC]))⟩,⟨_,rfl,Ch.imp_trans (iA (u:=dT y.2) (OwnI.refl _)) (bP (by rw [hC]))⟩,wM⟩
  ·have hC:b8 c y.2=(0,m,dT y.2):=by rw [hC,if_neg (show ¬ 0≤oD m y.2.id r 1 from e)]
   refine aF ?_
   refine bC (a9 64 1 65) ?_
   refine bC (a8 61 64) ?_
   refine bC (t5 61 rfl (cG (y:=(oR m r (cellsOf m r))) (OwnI.refl _)) rfl) ?_
   refine bC (a9 60 1 61) ?_
   refine bC (a9 60 2 62) ?_
   refine bC (a9 60 3 63) ?_
   refine bC (a8 902 60) ?_
   refine bC (a8 903 77) ?_
   exact bN () (by rw [hC]) Nat.zero_lt_one wF ⟨⟨_,rfl,Ch.imp_trans (cG (y:=cL m r (cellsOf m r)) (OwnI.refl _)) (bP (by rw [hC,hself]))⟩,⟨_,rfl,Ch.imp_trans (iA (u:=dT y.2) (OwnI.refl _)) (bP (by rw [hC]))⟩,wM⟩
 rintro ⟨⟩ h0
 refine aZ ?_
 have ha2:=hA2 h0
 have hR:=hRy h0
 have hphs:=hmid.phase
 have hstm:=hmid.stamp
 have hclo:=hmid.clock
 have hx2:TxIn c (b8 c y.2).2.2:=hmid.tx.same ha2.same (by rcases ha2.phase with q | q <;>omega) (by rcases ha2.phase with q | q <;>omega) (by rw [ha2.stamp];omega)
 rw [hR,if_pos rfl]
 refine cO TT_ok (yY c hok i hi (c.machines.set (cZ c y.2).machine.toNat (b8 c y.2).2.1) (y.1,(b8 c y.2).2.2) hx2 (by show 2≤(b8 c y.2).2.2.phase∧(b8 c y.2).2.2.phase≤9;rcases ha2.phase with q | q <;>omega) (by show 0≤y.1∧y.1≤1000000;omega) (fun h=>hmid.lock (by have h:(b8 c y.2).2.2.phase=2:=h;rcases ha2.phase with q | q <;>omega))) rfl rfl (aCu _) (fun _=>rfl) rfl rfl rfl fun _ _=>?_
 refine aN ?_
 refine aC (()) [(4,none)] ?_ ?_ ?_
 ·exact aCu _
 ·exact wM
 ·trivial
end
section
open Classical in
noncomputable def mP (c:GCluster) (id:Int):Int×Int:=if ClusOk c then (if dZ c id=0 then (bQ c id,0) else (-1,dZ c id)) else (-1,1)
theorem JI (c:GCluster) (hb:D.bds dJ (bO c)) (id:Int):Con Tryz.prog 119 [] [vR (bO c),vI id] [] (fun _:Unit=>True) (fun _=>[vI (mP c id).1,vI (mP c id).2]) fun _=>[]:=by
 have b3:c.txs.length≤1048576:=hb.2.2.2.2.1.1
 refine aE Tryz.func119 fun B0 r_ D_ w0=>?_
 refine aT ?_
 refine aU 2 fun r_=>?_
 refine aF ?_
 refine aH (d5 c hb) ?_
 refine eF rfl (fun e=>?_) (fun e=>?_)
 ·rw [show mP c id=(-1,1) from if_neg (jN.1 e)]
  refine aF ?_
  refine aC (()) [(4,none),(5,none)] ?_ ?_ ?_
  ·exact aCu _
  ·trivial
  ·trivial
 have hok:=c9.1 e
 have hR:mP c id=if dZ c id=0 then (bQ c id,0) else (-1,dZ c id):=if_pos hok
 refine aF ?_
 refine aH (vO c b3 id) ?_
 refine aI (fun e1=>?_) (fun e1=>?_)
 ·have h:dZ c id=2:=by unfold dZ;rw [decide_eq_true e1];rfl
  rw [show mP c id=(-1,dZ c id) from by rw [hR,if_neg (by rw [h];decide)],h]
  refine aF ?_
  refine aC (()) [(4,none),(5,none)] ?_ ?_ ?_
  ·exact aCu _
  ·trivial
  ·trivial
 have hin:=dW (c:=c) (id:=id) (by omega)
 have hlt:=gO (c:=c) (id:=id)
 have hh:=hok.home hin.1
 refine aF ?_
 refine aW [] [0,1,2,3,4,5,6,7,8,9,10,11,12] fun B0 H0=>?_
 refine aP ?_
 refine aA (b := !jE c id) (fun e2=>?_) (fun e2=>?_)
 ·have h:dZ c id=3:=by unfold dZ;rw [decide_eq_false e1,e2];rfl
  rw [show mP c id=(-1,dZ c id) from by rw [hR,if_neg (by rw [h];decide)],h]
  refine aF ?_
  refine aC (()) [(4,none),(5,none)] ?_ ?_ ?_
  ·exact aCu _
  ·trivial
  ·trivial
 refine aF ?_
 have hm:dZ c id=bif (bif (bif (bT c id).phase == 1 then true else (bT c id).phase == 7) then true else (bT c id).phase == 9) then 4 else 0:=by
  unfold dZ
  rw [decide_eq_false e1,e2]
  cases (bT c id).phase == 1 <;>cases (bT c id).phase == 7 <;>rfl
 refine aA (b:=bif (bif (bT c id).phase == 1 then true else (bT c id).phase == 7) then true else (bT c id).phase == 9) (fun e3=>?_) (fun e3=>?_)
 ·have h:dZ c id=4:=by rw [hm,e3];rfl
  rw [show mP c id=(-1,dZ c id) from by rw [hR,if_neg (by rw [h];decide)],h]
  refine aF ?_
  refine aC (()) [(4,none),(5,none)] ?_ ?_ ?_
  ·exact aCu _
  ·trivial
  ·trivial
 have h:dZ c id=0:=by rw [hm,e3];rfl
 rw [show mP c id=(bQ c id,0) from by rw [hR,if_pos h]]
 refine aF ?_
 refine aC (()) [(4,none),(5,none)] ?_ ?_ ?_
 ·exact aCu _
 ·trivial
 ·trivial
theorem MR (c:GCluster) (id:Int):dZ c id≠1:=by
 unfold dZ
 cases decide (bQ c id<0) <;>cases jE c id <;>cases (bif (bT c id).phase == 1 then true else bif (bT c id).phase == 7 then true else (bT c id).phase == 9) <;>decide
theorem YG (t:GTx) (x:GCopyAt) (n:GNote) (m:GMachine):(jG t x n m).1≠1:=by
 unfold jG
 cases m.alive with
 | false=>simp
 | true =>
  simp only [Bool.not_true,cond_false]
  split
  ·cases kX (cellsOf m x.region) (bY x.region t.sets) <;>cases decide ((m.log.length:Int)=200) <;>simp
  ·split
   ·cases (bif fD ((cellsOf m x.region).getD n.slot.toNat aCo).head then true else ((cellsOf m x.region).getD n.slot.toNat aCo).head.tdiv 4 != n.version) <;>simp
   ·split
    ·cases decide ((m.log.length:Int)=200) <;>simp
    ·split
     ·simp
     ·split
      ·cases jI m t.id <;>simp
      ·split <;>simp
theorem WH (c:GCluster) (i:Nat):(eE c i).1≠1:=by
 unfold eE
 dsimp only
 split
 ·simp
 ·split
  ·simp
  ·exact YG _ _ _ _
theorem vY (c:GCluster) (hb:D.bds dJ (bO c)) (id:Int):vQ Tryz.prog 52 [vR (bO c),vI id] (bZ c id).1 (bZ c id).2:=by
 refine aE Tryz.func52 fun B0 r_ D_ w0=>?_
 refine aT ?_
 refine aU 2 fun r_=>?_
 refine aF ?_
 refine aR (JI c hb id) fun _ _=>?_
 refine aN ?_
 by_cases hok:ClusOk c
 ·by_cases hm:dZ c id=0
  ·rw [show mP c id=(bQ c id,0) from by unfold mP;rw [if_pos hok,if_pos hm]]
   obtain ⟨hge,_⟩:=nA hm
   have hi:=(dW hge).1
   have hpp:=qY hok hm
   refine bX rfl (fun e=>by cases e) (fun _=>?_)
   refine aF ?_
   refine aQ (fun e2=>?_) (fun e2=>?_)
   ·rw [show bZ c id=(c,9) from by unfold bZ;rw [if_pos hok,if_neg (by omega),if_pos e2]]
    refine aF ?_
    refine cO TT_ok (mK c hb 9 (by decide)) rfl rfl (aCu _) (fun _=>rfl) rfl rfl rfl fun _ _=>?_
    refine aN ?_
    refine aC (()) [(4,some 28),(5,none)] ?_ ?_ ?_
    ·exact aCu _
    ·exact wM
    ·trivial
   have hS:=wA hok hm e2
   have hpl:=yM hok id
   obtain ⟨n,hn⟩:=Int.eq_ofNat_of_zero_le hge
   have hnn:(bQ c id).toNat=n:=by rw [hn];rfl
   rw [hnn] at hS hi
   have hpp:2≤(c.txs.getD n aCk).phase∧(c.txs.getD n aCk).phase≤9:=by rw [← hnn];exact hpp
   have hst:=WY c hok n hi hpp e2
   refine aF ?_
   refine aR (fY c hb) fun _ _=>?_
   refine aN ?_
   rw [hn]
   by_cases h0:(eE c n).1=0
   ·rw [if_pos h0,h0] at hst
    rw [if_pos h0] at hS
    rw [hS] at hpl
    rw [hS]
    refine cO TT_ok (aCv 900 8 hst) rfl rfl (aCu _) (fun _=>rfl) rfl rfl rfl (fun _ _=>?_) (hin:=by repeat (first | exact trivial | refine And.intro ⟨_,rfl,gS⟩ ?_ | refine And.intro ⟨_,rfl,fS⟩ ?_ | refine And.intro ⟨_,rfl,gR⟩ ?_ | refine And.intro ⟨_,rfl,fG⟩ ?_ | refine And.intro ⟨_,rfl,aCt _⟩ ?_))
    refine aN ?_
    refine bX rfl (fun e=>by cases e) (fun _=>?_)
    refine aF ?_
    refine aC (()) [(4,some 28),(5,none)] ?_ ?_ ?_
    ·exact aCu _
    ·exact ⟨⟨_,rfl,bP hpl.symm⟩,⟨_,rfl,aCt _⟩,⟨_,rfl,aCt _⟩,trivial⟩
    ·trivial
   ·rw [if_neg h0] at hst hS
    rw [hS]
    refine cO TT_ok (aCv 900 8 hst) rfl rfl (aCu _) (fun _=>rfl) rfl rfl rfl (fun _ _=>?_) (hin:=by repeat (first | exact trivial | refine And.intro ⟨_,rfl,gS⟩ ?_ | refine And.intro ⟨_,rfl,fS⟩ ?_ | refine And.intro ⟨_,rfl,gR⟩ ?_ | refine And.intro ⟨_,rfl,fG⟩ ?_ | refine And.intro ⟨_,rfl,aCt _⟩ ?_))
    refine aN ?_
    refine fO rfl (fun _=>?_) (fun e=>absurd e h0)
    refine aF ?_
    refine aR (aCv 901 911 (aCv 902 912 (aCv 903 913 (mK c hb (eE c n).1 (WH c n))))) fun _ _=>?_
    refine aN ?_
    refine bB (bL 911 901) ?_
    refine bB (bL 912 902) ?_
    refine bB (bL 913 903) ?_
    refine aC (()) [(4,some 28),(5,none)] ?_ ?_ ?_
    ·exact aCu _
    ·exact wM
    ·trivial
  ·rw [show bZ c id=(c,dZ c id) from by unfold bZ;rw [if_pos hok,if_pos hm]]
   rw [show mP c id=(-1,dZ c id) from by unfold mP;rw [if_pos hok,if_neg hm]]
   refine fO rfl (fun _=>?_) (fun e=>absurd e hm)
   refine aF ?_
   refine aR (mK c hb (dZ c id) (MR c id)) fun _ _=>?_
   refine aN ?_
   refine aC (()) [(4,some 28),(5,none)] ?_ ?_ ?_
   ·exact aCu _
   ·exact wM
   ·trivial
 ·rw [show bZ c id=(aCl,1) from by unfold bZ;rw [if_neg hok]]
  rw [show mP c id=(-1,1) from if_neg hok]
  refine bX rfl (fun _=>?_) (fun e=>by cases e)
  refine aF ?_
  refine aR (tA c) fun _ _=>?_
  refine aN ?_
  refine aC (()) [(4,some 28),(5,none)] ?_ ?_ ?_
  ·exact aCu _
  ·exact wM
  ·trivial
set_option maxHeartbeats 1000000 in
theorem rU (c:GCluster) (hb:D.bds dJ (bO c)) (id:Int):vQ Tryz.prog 59 [vR (bO c),vI id] (cM c id).1 (cM c id).2:=by
 refine aE Tryz.func59 fun B0 r_ D_ w0=>?_
 refine aT ?_
 refine aU 2 fun r_=>?_
 refine aF ?_
 refine aR (JI c hb id) fun _ _=>?_
 refine aN ?_
 by_cases hok:ClusOk c
 ·by_cases hm:dZ c id=0
  ·rw [show mP c id=(bQ c id,0) from by unfold mP;rw [if_pos hok,if_pos hm]]
   obtain ⟨hge,_⟩:=nA hm
   have hF:cM c id=jX id 200 c:=by unfold cM;rw [if_pos hok]
   rw [hF]
   refine bX rfl (fun e=>by cases e) (fun _=>?_)
   refine aF ?_
   refine aR (fY c hb) fun _ _=>?_
   refine aN ?_
   refine cY (ι:=Nat×GCluster) (fun z=>[(9,vI z.1)]) (fun z=>[(8, .row (fW z.2 901 902 903)),(901,bE 1 cE aCi z.2.places),(902,bE 4 bJ aCj z.2.machines),(903,bE 7 cTx aCk z.2.txs)])
    (fun z=>z.1≤200∧ClusOk z.2∧0≤bQ z.2 id∧jX id 200 c=jX id (200 - z.1) z.2) (fun z=>200 - z.1) (0,c) [8,901,902,903] [901,902,903] rfl rfl ⟨Nat.zero_le _,hok,hge,rfl⟩ wF wM ?_
   rintro ⟨i,d⟩ ⟨h1,h2,h3,h4⟩
   dsimp only at h1 h2 h3 h4 ⊢
   refine aF ?_
   refine aI (fun e=>?_) (fun e=>?_)
   ·have hi:i<200:=by omega
    rw [C5 (d:=d) i,if_pos hi] at h4
    have hok2:=lQ h2 id
    have b3:(bZ d id).1.txs.length≤1048576:=by have:=hok2.1.2.2.2;omega
    have hf2:bQ (bZ d id).1 id=bQ d id:=uI h2 id id
    have hlt:=gO (c:=(bZ d id).1) (id:=id)
    have hge2:0≤bQ (bZ d id).1 id:=by rw [hf2];exact h3
    refine aF ?_
    refine aR (aCv 901 911 (aCv 902 912 (aCv 903 913 (vY d (l8 h2) id)))) fun _ _=>?_
    refine aN ?_
    by_cases h0:(bZ d id).2=0
    ·rw [if_pos h0] at h4
     rw [h0]
     refine bX rfl (fun e=>by cases e) (fun _=>?_)
     refine aF ?_
     refine aW [] [0,1,2,3,4,5,6,7,8] fun B0 H0=>?_
     refine fU 4 (vO (bZ d id).1 b3 id) rfl rfl rfl (aCu _) rfl ?_
     refine aY [5,6,7,8] ?_
     refine TG 49 4 951 rfl rfl rfl rfl rfl rfl ?_
     refine TG 49 5 952 rfl rfl rfl rfl rfl rfl ?_
     refine bG 7 rfl (by kernel_rfl) (aV (bD ?_))
     refine bG 8 rfl (by kernel_rfl) (aV (bD ?_))
     refine aP ?_
     refine aA (b:=lE (bT (bZ d id).1 id)) (fun e2=>?_) (fun e2=>?_)
     ·rw [if_pos e2] at h4
      rw [h4]
      refine aF ?_
      refine bB (bL 911 901) ?_
      refine bB (bL 912 902) ?_
      refine bB (bL 913 903) ?_
      refine aC (()) [(4,some 28),(5,none)] ?_ ?_ ?_
      ·exact aCu _
      ·exact wM
      ·trivial
     ·rw [if_neg (by rw [e2];simp)] at h4
      refine aF ?_
      refine bC (bL 911 901) ?_
      refine bC (bL 912 902) ?_
      refine bC (bL 913 903) ?_
      exact aL (i+1,(bZ d id).1) ⟨hi,hok2,hge2,h4⟩ (by show 200 - (i+1)<200 - i;omega)
    ·rw [if_neg h0] at h4
     rw [h4]
     refine fO rfl (fun _=>?_) (fun e=>absurd e h0)
     refine aF ?_
     refine aC (()) [(4,some 28),(5,none)] ?_ ?_ ?_
     ·exact aCu _
     ·exact wM
     ·trivial
   ·have hi:i=200:=by omega
    subst hi
    rw [h4,show jX id (200 - 200) d=(d,0) from rfl]
    refine aF ?_
    refine aC (()) [(4,some 28),(5,none)] ?_ ?_ ?_
    ·exact aCu _
    ·exact wM
    ·trivial
  ·rw [R3 hok hm]
   rw [show mP c id=(-1,dZ c id) from by unfold mP;rw [if_pos hok,if_neg hm]]
   refine fO rfl (fun _=>?_) (fun e=>absurd e hm)
   refine aF ?_
   refine aR (mK c hb (dZ c id) (MR c id)) fun _ _=>?_
   refine aN ?_
   refine aC (()) [(4,some 28),(5,none)] ?_ ?_ ?_
   ·exact aCu _
   ·exact wM
   ·trivial
 ·rw [show cM c id=(aCl,1) from by unfold cM;rw [if_neg hok]]
  rw [show mP c id=(-1,1) from if_neg hok]
  refine bX rfl (fun _=>?_) (fun e=>by cases e)
  refine aF ?_
  refine aR (tA c) fun _ _=>?_
  refine aN ?_
  refine aC (()) [(4,some 28),(5,none)] ?_ ?_ ?_
  ·exact aCu _
  ·exact wM
  ·trivial
end
section
def fQ (c:GCluster):List Bool:=c.machines.map GMachine.alive
def nD (al:List Bool) (m:Int):Bool:=bif decide (m<(al.length:Int)) then al.getD m.toNat false else false
def dH (al:List Bool) (next:List Int):Nat→List Int
 | 0=>next
 | m+1=>bif (bif (bif al.getD m false then decide (((dH al next m).length:Int)<3) else false) then !decide ((m:Int) ∈ dH al next m) else false) then dH al next m ++ [(m:Int)] else dH al next m
def fT (al:List Bool) (p:GPlace):List Int:=p.machines.filter (nD al)
def n4 (al:List Bool) (p:GPlace):GPlace:=if (fT al p).length=0 then ⟨p.machines⟩ else ⟨dH al (fT al p) al.length⟩
def g8 (al:List Bool) (ps:List GPlace):Nat→List Int
 | 0=>[]
 | r+1=>if (fT al (ps.getD r aCi)).length=0 then g8 al ps r ++ [(r:Int)] else g8 al ps r
theorem J0 {al:List Bool} {next:List Int} {k:Nat} (h:3≤(dH al next k).length):∀ j,dH al next (k+j)=dH al next k
 | 0=>rfl
 | j+1=>by
  have ih:=J0 h j
  rw [show k+(j+1)=(k+j)+1 from rfl,dH,ih,decide_eq_false (show ¬ ((dH al next k).length:Int)<3 by omega)]
  cases al.getD (k+j) false <;>rfl
theorem BJ {al:List Bool} {next:List Int} (h:next.length≤3):∀ k,(dH al next k).length≤3
 | 0=>h
 | k+1=>by
  have ih:=BJ h k (al:=al)
  rw [dH]
  by_cases c:((dH al next k).length:Int)<3
  ·cases (bif (bif al.getD k false then decide (((dH al next k).length:Int)<3) else false) then !decide ((k:Int) ∈ dH al next k) else false) with
   | true=>simp only [cond_true,List.length_append,List.length_singleton];omega
   | false=>exact ih
  ·rw [decide_eq_false c]
   cases al.getD k false <;>exact ih
def kE (c:GCluster) (t:GTx):List Int:=(bI t).map fun r=>rY c t.id r (cR c r).length
def mT (vs:List Int):Bool:=vs.any (· == 4) || (vs.any (· == 3) && vs.all (fun v=>decide (2≤v)) )
def y6 (d:Bool) (t:GTx) (r:Int) (m:GMachine):GMachine :=
 bif !m.alive then m
 else IP (bif d then cL m r (lM (cellsOf m r) (bY r t.sets)) else if 0≤oD m t.id r 1 then cL m r (pP (cellsOf m r) (bY r t.sets)) else m) t.id r
def sI (d:Bool) (t:GTx) (ms:List GMachine) (x:GCopyAt):List GMachine:=ms.set x.machine.toNat (y6 d t x.region (ms.getD x.machine.toNat aCj))
def y9 (d:Bool) (t:GTx):GTx:={ t with phase:=(bif d then 7 else 9),done:=0 }
theorem aAN {d:Bool} {t:GTx} (ht:eN t) {r:Int} {m:GMachine} (hm:dO m) (hh:m.alive=true→dX m r=true):dO (y6 d t r m)∧(y6 d t r m).alive=m.alive∧∀ q,dX (y6 d t r m) q=dX m q:=by
 unfold y6
 cases ha:m.alive with
 | false=>exact ⟨hm,ha,fun _=>rfl⟩
 | true =>
  have hc:=(fH hm (hh ha)).2
  have s1:=(oP ht r).1
  have cl:∀ {x:GMachine},dO x→dO (IP x t.id r):=fun {x} h=>zJ (d:=false) h ht.1.1 fun e=>by cases e
  simp only [Bool.not_true,cond_false]
  cases d with
  | true=>exact ⟨cl (n7 hm (GS hc s1)),ha,fun q=>mH _ _ _ _⟩
  | false =>
   simp only [cond_false]
   split
   ·exact ⟨cl (n7 hm (N8 hc s1)),ha,fun q=>mH _ _ _ _⟩
   ·exact ⟨cl hm,ha,fun _=>rfl⟩
structure Like (ms ns:List GMachine):Prop where
 len:ns.length=ms.length
 ok:∀ j,j<ns.length→dO (ns.getD j aCj)∧(ns.getD j aCj).alive=(ms.getD j aCj).alive∧∀ q,dX (ns.getD j aCj) q=dX (ms.getD j aCj) q
theorem XA {c:GCluster} (hok:ClusOk c) {d:Bool} {t:GTx} (ht:eN t) {ms:List GMachine} (h:Like c.machines ms) {x:GCopyAt} (hx:AtIn c x):Like c.machines (sI d t ms x):=by
 obtain ⟨j,h2,h3,h4⟩:=hx.at'
 have h5:=hok.at (r:=x.region.toNat) (k:=j) (by have:=hx.region;omega) h2
 rw [← h3,Int.toNat_of_nonneg hx.region.1] at h5
 have h6:=h5.2
 unfold bH at h6
 rw [← h3] at h6
 have hlt:x.machine.toNat<ms.length:=by rw [h.len];omega
 obtain ⟨g1,g2,g3⟩:=h.ok _ hlt
 obtain ⟨q1,q2,q3⟩:=aAN (d:=d) ht (r:=x.region) g1 (fun e=>by rw [g3];exact h6 (g2 ▸ e))
 refine ⟨by unfold sI;rw [List.length_set];exact h.len,fun k hk=>?_⟩
 unfold sI at hk ⊢
 rw [List.length_set] at hk
 rw [lA hlt]
 split
 ·rename_i e;subst e;exact ⟨q1,q2.trans g2,fun q=>(q3 q).trans (g3 q)⟩
 ·exact h.ok k hk
theorem Like.refl {c:GCluster} (hok:ClusOk c):Like c.machines c.machines:=⟨rfl,fun j hj=>⟨hok.2.2.1 j hj,rfl,fun _=>rfl⟩⟩
theorem zY {c:GCluster} (hok:ClusOk c) {d:Bool} {t:GTx} (ht:eN t):∀ {xs:List GCopyAt} {ms:List GMachine},(∀ x ∈ xs,AtIn c x)→Like c.machines ms→Like c.machines (xs.foldl (sI d t) ms)
 | [],_,_,h=>h
 | x :: r,ms,hx,h=>by
  rw [List.foldl_cons]
  exact zY hok ht (fun y hy=>hx y (by simp [hy])) (XA hok ht h (hx x (by simp)))
def pG (c:GCluster) (t:GTx):Bool:=bif t.phase != 8 then (bif t.phase != 1 then mT (kE c t) else false) else false
def tM (d:GCluster) (i:Nat):GCluster:={ d with machines:=(cW d (d.txs.getD i aCk) false).foldl (sI (pG d (d.txs.getD i aCk)) (d.txs.getD i aCk)) d.machines,txs:=d.txs.set i (y9 (pG d (d.txs.getD i aCk)) (d.txs.getD i aCk)) }
def dU (c:GCluster):Nat→GCluster
 | 0=>c
 | i+1=>if kA c (c.txs.getD i aCk)=true then tM (dU c i) i else dU c i
def vA (r:Int) (x:GCopy):Int:=x.region - r
noncomputable def jC (m:GMachine) (r:Int) (xs:List GCell):GMachine :=
 if dX m r=true then cL m r xs else { m with copies:=iB (o5 (vA r) aCp m.copies) ⟨r,xs⟩ m.copies }
noncomputable def iI (old l:List Int) (r:Int) (xs:List GCell):Nat→List GMachine→List GMachine
 | 0,ms=>ms
 | k+1,ms=>if l.getD k 0 ∈ old then iI old l r xs k ms else (iI old l r xs k ms).set (l.getD k 0).toNat (jC ((iI old l r xs k ms).getD (l.getD k 0).toNat aCj) r xs)
noncomputable def gX (ps qs:List GPlace):Nat→List GMachine→List GMachine
 | 0,ms=>ms
 | r+1,ms=>iI (ps.getD r aCi).machines (qs.getD r aCi).machines (r:Int) (cellsOf ((gX ps qs r ms).getD ((qs.getD r aCi).machines.getD 0 0).toNat aCj) (r:Int)) (qs.getD r aCi).machines.length (gX ps qs r ms)
abbrev bK (c:GCluster):List GPlace:=c.places.map (n4 (fQ c))
open Classical in
noncomputable def eZ (c:GCluster):GCluster :=
 if ClusOk c∧c.config≠1000000 then
  (if (g8 (fQ c) c.places c.places.length).length > 0 then { c with lost:=true }
   else { dU c c.txs.length with machines:=gX c.places (bK c) c.places.length (dU c c.txs.length).machines,places:=bK c,config:=c.config+1 })
 else aCl
structure RecIn (c d:GCluster) (i:Nat):Prop where
 like:Like c.machines d.machines
 config:d.config=c.config
 clock:d.clock=c.clock
 places:d.places=c.places
 lost:d.lost=c.lost
 len:d.txs.length=c.txs.length
 rest:∀ j,i≤j→d.txs.getD j aCk=c.txs.getD j aCk
 txs:∀ j,j<c.txs.length→Same (c.txs.getD j aCk) (d.txs.getD j aCk)∧(1≤(d.txs.getD j aCk).phase∧(d.txs.getD j aCk).phase≤9)∧(0≤(d.txs.getD j aCk).done∧(d.txs.getD j aCk).done≤1000)∧(d.txs.getD j aCk).stamp=(c.txs.getD j aCk).stamp
theorem AT {c d:GCluster} (h:d.places=c.places) (t:GTx) (b:Bool):cW d t b=cW c t b:=by
 have:∀ (ws:List Int) k,mS d ws b k=mS c ws b k:=fun ws k=>by
  induction k with
  | zero=>rfl
  | succ k ih=>rw [mS,mS,ih];unfold cR;rw [h]
 exact this _ _
theorem HR {c:GCluster} {t:GTx} (ht:TxIn c t) {b:Bool}:∀ x ∈ cW c t b,AtIn c x:=fun _ h=>AU (fun _ hk=>iN ht hk) (Nat.le_refl _) h
theorem RecIn.ok {c d:GCluster} {i:Nat} (hok:ClusOk c) (h:RecIn c d i):ClusOk d:=by
 refine ⟨⟨by rw [h.config];exact hok.1.1,by rw [h.clock];exact hok.1.2.1,by rw [h.like.len];exact hok.1.2.2.1,by rw [h.len];exact hok.1.2.2.2⟩,by rw [h.places];exact hok.2.1,fun j hj=>(h.like.ok j hj).1,fun r hr k hk=>?_,fun j hj=>?_⟩
 ·rw [h.places] at hr hk
  have g:=hok.2.2.2.1 r hr k hk
  unfold o8 at g ⊢
  have e1:mAt d r k=mAt c r k:=by unfold mAt;rw [h.places]
  rw [e1,h.like.len]
  by_cases c1:mAt c r k ≥ (c.machines.length:Int)
  ·rw [decide_eq_true c1] at g;cases g
  ·have c2:=(hok.at hr hk).1
   obtain ⟨_,q2,q3⟩:=h.like.ok (mAt c r k).toNat (by rw [h.like.len];omega)
   rw [q2,q3];exact g
 ·rw [h.len] at hj
  have g:=hok.2.2.2.2 j hj
  obtain ⟨hs,hp,hd,hst⟩:=h.txs j hj
  obtain ⟨k1,k2,k3⟩:=hok.tx hj
  rw [h.places]
  refine ⟨?_,by rw [hs.reads];exact g.2.1,by rw [hs.sets];exact g.2.2⟩
  have g1:=g.1
  unfold l0 at g1 ⊢
  rw [h.like.len,h.clock]
  obtain ⟨g2,g3⟩:=cF.1 g1
  obtain ⟨g4,g5⟩:=cF.1 g2
  obtain ⟨g6,g7⟩:=cF.1 g4
  refine cF.2 ⟨cF.2 ⟨cF.2 ⟨?_,?_⟩,by rw [hs.home];exact g5⟩,by rw [hst];exact g3⟩
  ·have ht:eN (d.txs.getD j aCk):=by
    unfold eN nK
    rw [hs.id,hs.home,hs.reads,hs.sets,hst]
    exact ⟨⟨k1.1,k1.2.1,hp,hd,k1.2.2.2.2.1,k1.2.2.2.2.2⟩,k2,k3⟩
   rw [cN ht];rfl
  ·rw [hs.id]
   by_cases c1:(j:Int) > 0
   ·rw [decide_eq_true c1] at g7 ⊢
    have:=(h.txs ((j:Int) - 1).toNat (by omega)).1.id
    rw [this];exact g7
   ·rw [decide_eq_false c1];rfl
theorem aAP {c d:GCluster} {i:Nat} (hok:ClusOk c) (hi:i<c.txs.length) (h:RecIn c d i):RecIn c (tM d i) (i+1):=by
 have e:d.txs.getD i aCk=c.txs.getD i aCk:=h.rest i (Nat.le_refl _)
 have hin:=hok.txIn hi
 unfold tM
 rw [e]
 generalize pG d (c.txs.getD i aCk)=b
 have hlt:i<d.txs.length:=by rw [h.len];exact hi
 refine ⟨?_,h.config,h.clock,h.places,h.lost,by dsimp only;rw [List.length_set];exact h.len,fun j hj=>?_,fun j hj=>?_⟩
 ·dsimp only
  rw [AT h.places]
  exact zY hok hin.ok (HR hin) h.like
 ·dsimp only
  rw [lA hlt,if_neg (by omega)]
  exact h.rest j (by omega)
 ·dsimp only
  rw [lA hlt]
  split
  ·rename_i e2;subst e2
   refine ⟨⟨rfl,rfl,rfl,rfl⟩,?_,?_,rfl⟩
   ·show 1≤(bif b then (7:Int) else 9)∧(bif b then (7:Int) else 9)≤9
    cases b <;>decide
   ·show (0:Int)≤0∧(0:Int)≤1000
    omega
  ·exact h.txs j hj
theorem qS {c:GCluster} (hok:ClusOk c):∀ i,i≤c.txs.length→RecIn c (dU c i) i
 | 0,_=>⟨Like.refl hok,rfl,rfl,rfl,rfl,rfl,fun _ _=>rfl,fun j hj=>by
  have:=(hok.tx hj).1
  exact ⟨.refl _,this.2.2.1,this.2.2.2.1,rfl⟩⟩
 | i+1,hi=>by
  have ih:=qS hok i (by omega)
  rw [dU]
  split
  ·exact aAP hok (by omega) ih
  ·exact ⟨ih.like,ih.config,ih.clock,ih.places,ih.lost,ih.len,fun j hj=>ih.rest j (by omega),ih.txs⟩
end
section
theorem aBa (vs:List Int):vs.all (fun v=>decide (2≤v)) = !vs.any fun v=>decide (v<2):=by
 induction vs with
 | nil=>rfl
 | cons a r ih =>
  rw [List.all_cons,List.any_cons,ih,Bool.not_or]
  congr 1
  by_cases c:a<2
  ·rw [decide_eq_true c,decide_eq_false (by omega)];rfl
  ·rw [decide_eq_false c,decide_eq_true (by omega)];rfl
theorem TH (vs:List Int) (n:Int):vs.any (· == n)=decide (n ∈ vs):=by
 by_cases c:n ∈ vs
 ·rw [decide_eq_true c];exact List.any_eq_true.2 ⟨n,c,by simp⟩
 ·rw [decide_eq_false c]
  cases e:vs.any (· == n) with
  | false=>rfl
  | true =>
   obtain ⟨x,h1,h2⟩:=List.any_eq_true.1 e
   have h3:x=n:=by simpa using h2
   exact absurd (h3 ▸ h1) c
theorem CK (vs:List Int):mT vs=bif decide ((4:Int) ∈ vs) then true else (bif decide ((3:Int) ∈ vs) then !vs.any (fun v=>decide (v<2)) else false):=by
 unfold mT
 rw [TH,TH,aBa]
 cases decide ((4:Int) ∈ vs) <;>cases decide ((3:Int) ∈ vs) <;>rfl
def KW (vs:List Int):Nat→Int
 | 0=>4
 | k+1=>if KW vs k<vs.getD k 0 then KW vs k else vs.getD k 0
def B6 (vs:List Int):Nat→Int
 | 0=>0
 | k+1=>B5 (B6 vs k) (vs.getD k 0)
theorem SE {vs:List Int}:∀ {k:Nat},k≤vs.length→(2≤KW vs k ↔ ∀ j,j<k→2≤vs.getD j 0)
 | 0,_=>⟨fun _ j hj=>absurd hj (Nat.not_lt_zero _),fun _=>by show (2:Int)≤4;decide⟩
 | k+1,h=>by
  have ih:=SE (vs:=vs) (k:=k) (by omega)
  rw [KW]
  constructor
  ·intro h2 j hj
   split at h2
   ·by_cases c:j<k
    ·exact ih.1 h2 j c
    ·have:j=k:=by omega
     subst this;omega
   ·by_cases c:j<k
    ·exact ih.1 (by omega) j c
    ·have:j=k:=by omega
     subst this;exact h2
  ·intro h2
   split
   ·exact ih.2 fun j hj=>h2 j (by omega)
   ·exact h2 k (Nat.lt_succ_self k)
theorem MY {vs:List Int}:∀ {k:Nat},k≤vs.length→0≤B6 vs k∧∀ j,j<k→vs.getD j 0≤B6 vs k
 | 0,_=>⟨Int.le_refl _,fun j hj=>absurd hj (Nat.not_lt_zero _)⟩
 | k+1,h=>by
  obtain ⟨h1,h2⟩:=MY (vs:=vs) (k:=k) (by omega)
  rw [B6]
  unfold B5
  refine ⟨by split <;>omega,fun j hj=>?_⟩
  by_cases c:j<k
  ·have:=h2 j c
   split <;>omega
  ·have:j=k:=by omega
   subst this
   split <;>omega
theorem TX (vs:List Int):(bif decide ((4:Int) ∈ vs) then true else bif (bif decide ((3:Int) ∈ vs) then decide (KW vs vs.length ≥ 2) else false) then decide (B6 vs vs.length > 0) else false)=mT vs:=by
 rw [CK]
 by_cases c4:(4:Int) ∈ vs
 ·rw [decide_eq_true c4];rfl
 ·rw [decide_eq_false c4]
  by_cases c3:(3:Int) ∈ vs
  ·rw [decide_eq_true c3]
   obtain ⟨j,hj,e⟩:=gW.1 c3
   have hh:=(MY (vs:=vs) (Nat.le_refl _)).2 j hj
   rw [decide_eq_true (show B6 vs vs.length > 0 by omega)]
   have hlow:=SE (vs:=vs) (Nat.le_refl _)
   cases ha:vs.any (fun v=>decide (v<2)) with
   | true =>
    obtain ⟨x,h1,h2⟩:=List.any_eq_true.1 ha
    obtain ⟨i,hi,e2⟩:=gW.1 h1
    rw [decide_eq_false (fun h=>by have:=hlow.1 h i hi;have:=of_decide_eq_true h2;omega)]
    rfl
   | false =>
    rw [decide_eq_true (hlow.2 fun i hi=>?_)]
    ·rfl
    ·cases e3:decide (vs.getD i 0<2) with
     | true=>rw [List.any_eq_true.2 ⟨_,cJ (z:=0) hi,e3⟩] at ha;cases ha
     | false=>have:=of_decide_eq_false e3;omega
  ·rw [decide_eq_false c3];rfl
theorem aAO (a b:Int):Ans Tryz.prog 83 [] [vI a,vI b] [] (vI (if a<b then a else b)):=by
 refine aE Tryz.func83 fun B0 r_ D_ w0=>?_
 refine aF ?_
 refine aI (fun e=>?_) (fun e=>?_)
 ·refine aF ?_
  exact aJ [(4,none)] ((if_pos e).symm)
 ·refine aF ?_
  exact aJ [(4,none)] ((if_neg e).symm)
theorem CX (vs:List Int) (hl:vs.length≤1048576):Ans Tryz.prog 24 [] [vL 1 bS 0 vs] [] (vB (mT vs)):=by
 refine aE Tryz.func24 fun B0 r_ D_ w0=>?_
 refine aF ?_
 refine aK (ι:=Nat) (fun k=>[(5,vI k),(3,vI (KW vs k)),(4,vI (B6 vs k))]) (fun _=>[]) (fun k=>k≤vs.length) (fun k=>vs.length - k) 0 [] [] (Nat.zero_le _) ?_
 intro k h1
 refine aF ?_
 refine aI (fun e=>?_) (fun e=>?_)
 ·have hk:k<vs.length:=by omega
  refine aF ?_
  refine aH (aAO _ _) ?_
  refine aH (A4 _ _) ?_
  exact aL (k+1) hk (by omega)
 ·have hk:k=vs.length:=by omega
  subst hk
  refine aF ?_
  refine aH (mW vs hl 4) ?_
  refine aH (mW vs hl 3) ?_
  exact aG [(2,none)] (TX vs)
theorem zN (c:GCluster) {k:Nat} (hk:k<c.machines.length):(fQ c).getD k false=(c.machines.getD k aCj).alive:=m7 (za:=aCj) GMachine.alive hk
theorem qI (c:GCluster):(fQ c).length=c.machines.length:=List.length_map _
theorem XZ (al:List Bool) (m:Int) (hm:0≤m):Ans Tryz.prog 172 [] [vL 1 qT false al,vI m] [] (vB (nD al m)):=by
 refine aE Tryz.func172 fun B0 r_ D_ w0=>?_
 refine aF ?_
 exact aG [(4,none)] (rfl)
theorem PlOk.le {ps:List GPlace} (h:PlOk ps) {r k:Nat} (hr:r<ps.length) (hk:k<(ps.getD r aCi).machines.length):0≤(ps.getD r aCi).machines.getD k 0∧(ps.getD r aCi).machines.getD k 0≤7:=by
 have:=(h.2 r hr).2 k hk
 unfold xT at this
 have h2:=(cF.1 this).1
 have h3:inB ((ps.getD r aCi).machines.getD k 0) 0 7=true:=by simpa using h2
 exact b6.1 h3
end
section
section
variable {E:Env} {mu mu':Mu} {fr:Fr} {gf:GF} {R:Exit→Act→World→Prop} {K:List KF} {c:Code} {x:Nx} {v:Value}
theorem PB (k:Nat) (hk:bF k E.A.ks=false) (h:∀ v,T { E with A:=⟨k :: E.A.ks,fun j=>if j=k then v else E.A.B j⟩ } R c fr mu K):T E R c fr mu K:=fun B a w H f m =>
 h (B k) B a w H f ⟨m.mm,m.keep,m.dom,fun j hj=>by
  by_cases e:j=k
  ·subst e
   show B j=if j=j then B j else _
   rw [if_pos rfl]
  ·rcases (fN j k _).1 hj with e2 | e2
   ·exact absurd e2.symm e
   ·show B j=if j=k then _ else _
    rw [if_neg e];exact m.anch j e2⟩
theorem aB7 {B:BE} {w:World} {H:Nat→PH} {k:Nat} (hk:bF k E.A.ks=false) (m:Mem { E with A:=⟨k :: E.A.ks,fun j=>if j=k then v else E.A.B j⟩ } B mu w H):Mem E B mu w H:=⟨m.mm,m.keep,m.dom,fun j hj=>by
 have h1:B j=if j=k then v else E.A.B j:=m.anch j ((fN j k _).2 (.inr hj))
 have h2:j≠k:=fun e=>by subst e;rw [hk] at hj;cases hj
 rw [h1,if_neg h2]⟩
theorem QK (k:Nat) (hk:bF k E.A.ks=false) (h:T E R c fr mu K):T { E with A:=⟨k :: E.A.ks,fun j=>if j=k then v else E.A.B j⟩ } R c fr mu K:=fun B a w H f m=>h B a w H f (aB7 hk m)
theorem aAo (j:Nat) {l l':List V} (hk:mlk j mu=some (.row l)) (hmu:jF j (.row l') mu=some mu') (hlen:l'.length=l.length)
  (h:∀ B w H,Mem E B mu w H→∀ h' vs,V.owns B E.r h' l vs→V.owns B E.r h' l' vs):kO E fr gf mu fr gf mu':=fun B w H a f m =>
 ⟨B,H,f,⟨⟨fun i d e=>by
  rw [m9 hmu i] at e
  by_cases hj:i=j
  ·rw [if_pos hj] at e;injection e with e;subst e;subst hj
   obtain ⟨b,o,vs,h',e1,e2,e3,e4⟩:=m.mm.sat i _ hk
   exact ⟨b,o,vs,h',e1,h B w H m h' vs e2,e3,fun n hn=>e4 n (by rw [← hlen];exact hn)⟩
  ·rw [if_neg hj] at e;exact m.mm.sat i d e,m.mm.fit,m.mm.dj,m.mm.djr,m.mm.fitr⟩,m.keep,m.dom,m.anch⟩⟩
theorem V_gv (j k:Nat) {r:Value} (hk:mlk j mu=some (.row [.v r, .g k])) (ha:bF k E.A.ks=true) (hv:E.A.B k=v) (hmu:jF j (.row [.v r, .v v]) mu=some mu'):kO E fr gf mu fr gf mu' :=
 aAo j hk hmu rfl fun B w H m h' vs ⟨y1,t1,h1,h2,q1,q2,q3,q4,q5,y2,t2,h3,h4,p1,p2,p3,p4,p5,p6⟩=>⟨y1,t1,h1,h2,q1,q2,q3,q4,q5,y2,t2,h3,h4,p1,p2,p3,p4,by
  have e:y2=B k∧eQ y2=true:=p5
  show y2=v
  rw [e.1,m.anch k ha,hv],p6⟩
theorem V_vg (j k:Nat) {r:Value} {sz n:Nat} {f:Nat→List D} (hk:mlk j mu=some (.row [.v r, .v v])) (ha:bF k E.A.ks=true) (hv:E.A.B k=v) (hk2:mlk k mu=some (.arr sz n f)) (hmu:jF j (.row [.v r, .g k]) mu=some mu'):kO E fr gf mu fr gf mu' :=
 aAo j hk hmu rfl fun B w H m h' vs ⟨y1,t1,h1,h2,q1,q2,q3,q4,q5,y2,t2,h3,h4,p1,p2,p3,p4,p5,p6⟩=>⟨y1,t1,h1,h2,q1,q2,q3,q4,q5,y2,t2,h3,h4,p1,p2,p3,p4,by
  have e:y2=v:=p5
  show y2=B k∧eQ y2=true
  have e2:y2=B k:=by rw [e,m.anch k ha,hv]
  exact ⟨e2,by rw [e2];exact FP (m.mm.sat k _ hk2)⟩,p6⟩
theorem D4 (k:Nat) (hd:pT k mu=some mu'):kO E fr gf mu fr gf mu':=fun B w H a f m =>
 ⟨B,H,f,⟨⟨fun j d e=>by
  rw [uD hd j] at e
  by_cases hj:j=k
  ·rw [if_pos hj] at e;cases e
  ·rw [if_neg hj] at e;exact m.mm.sat j d e,m.mm.fit,m.mm.dj,m.mm.djr,m.mm.fitr⟩,m.keep,m.dom,m.anch⟩⟩
end
end
section
def t6 (d:Bool) (t:GTx) (r:Int) (m:GMachine):List GCell:=bif d then lM (cellsOf m r) (bY r t.sets) else if 0≤oD m t.id r 1 then pP (cellsOf m r) (bY r t.sets) else cellsOf m r
theorem SI {d:Bool} {t:GTx} {r:Int} {m:GMachine} (ha:m.alive=true) (hh:dX m r=true):y6 d t r m=iP (cL m r (t6 d t r m)) t.id r false:=by
 unfold y6 t6
 rw [ha]
 cases d with
 | true=>rfl
 | false =>
  simp only [Bool.not_true,cond_false]
  by_cases c:0≤oD m t.id r 1
  ·rw [if_pos c,if_pos c];rfl
  ·rw [if_neg c,if_neg c,xA hh];rfl
theorem LI {d:Bool} {t:GTx} {r:Int} {m:GMachine} (ha:m.alive=false):y6 d t r m=m:=by unfold y6;rw [ha];rfl
theorem J1 (c:GCluster) (t:GTx):(bif (bif t.phase != 8 then t.phase != 1 else false) then mT (kE c t) else false)=pG c t:=by
 unfold pG
 cases t.phase != 8 <;>cases t.phase != 1 <;>rfl
theorem L3 {c:GCluster} {t:GTx} {k:Nat} (hk:k<(bI t).length):(kE c t).take (k+1)=(kE c t).take k ++ [rY c t.id ((bI t).getD k 0) (cR c ((bI t).getD k 0)).length]:=by
 have hl:(kE c t).length=(bI t).length:=List.length_map _
 rw [cC (z:=0) (by omega)]
 congr 2
 exact m7 (za:=0) _ hk
theorem AtIn.mach {c:GCluster} (hok:ClusOk c) {x:GCopyAt} (h:AtIn c x):(0≤x.machine∧x.machine<c.machines.length)∧((mOf c x.machine).alive=true→dX (mOf c x.machine) x.region=true):=by
 obtain ⟨j,h2,h3,h4⟩:=h.at'
 have h5:=hok.at (r:=x.region.toNat) (k:=j) (by have:=h.region;omega) h2
 rw [← h3,Int.toNat_of_nonneg h.region.1] at h5
 have h6:=h5.2
 unfold bH at h6
 rw [← h3] at h6
 exact ⟨h5.1,h6⟩
end
section
theorem F5 {m:GMachine} (h:dO m):m.copies.Pairwise fun a b=>a.region<b.region:=by
 have h3:∀ j,j+1<m.copies.length→(m.copies.getD j aCp).region<(m.copies.getD (j+1) aCp).region:=fun j hj=>by
  have:=(cF.1 (h.2.2.1 (j+1) hj)).2
  rw [decide_eq_true (show ((j+1:Nat):Int) > 0 by omega)] at this
  have:=of_decide_eq_false this
  rw [show (((j+1:Nat):Int) - 1).toNat=j by omega] at this
  omega
 refine s7 (z:=aCp) fun a b hab hb=>?_
 induction b with
 | zero=>omega
 | succ b ih =>
  have:=h3 b hb
  by_cases c:a=b
  ·subst c;exact this
  ·have:=ih (by omega) (by omega);omega
theorem wG {m:GMachine} (h:dO m) (r:Int):qB (vA r) aCp m.copies:=fun a b hab hb hc=>by
 by_cases c:a=b
 ·subst c;exact hc
 ·have:=iR (z:=aCp) (F5 h) (a:=a) (b:=b) (by omega) hb
  unfold vA at hc ⊢
  omega
end
section
theorem JH {xs:List GCopy}:(∀ j,j<xs.length→sT xs j=false) ↔ (∀ x ∈ xs,(0≤x.region∧x.region≤5)∧dF x.cells=true)∧xs.Pairwise fun a b=>a.region<b.region:=by
 constructor
 ·intro h
  refine ⟨lT (z:=aCp) fun i hi=>?_,s7 (z:=aCp) fun a b hab hb=>?_⟩
  ·have h1:=(cF.1 (cF.1 (h i hi)).1)
   exact ⟨b6.1 (by simpa using h1.1),by simpa using h1.2⟩
  ·have h3:∀ j,j+1<xs.length→(xs.getD j aCp).region<(xs.getD (j+1) aCp).region:=fun j hj=>by
    have:=(cF.1 (h (j+1) hj)).2
    rw [decide_eq_true (show ((j+1:Nat):Int) > 0 by omega)] at this
    have:=of_decide_eq_false this
    rw [show (((j+1:Nat):Int) - 1).toNat=j by omega] at this
    omega
   induction b with
   | zero=>omega
   | succ b ih =>
    have:=h3 b hb
    by_cases c:a=b
    ·subst c;exact this
    ·have:=ih (by omega) (by omega);omega
 ·rintro ⟨h1,h2⟩ j hj
  obtain ⟨h3,h4⟩:=h1 _ (cJ (z:=aCp) hj)
  unfold sT
  rw [b6.2 h3,h4]
  by_cases c:(j:Int) > 0
  ·rw [decide_eq_true c]
   have:=iR (z:=aCp) h2 (a:=((j:Int) - 1).toNat) (b:=j) (by omega) hj
   rw [decide_eq_false (by omega)];rfl
  ·rw [decide_eq_false c];rfl
theorem SN {xs:List GCopy} (h:xs.Pairwise fun a b=>a.region<b.region) (h0:∀ x ∈ xs,0≤x.region):∀ j,j<xs.length→(j:Int)≤(xs.getD j aCp).region
 | 0,hj=>h0 _ (cJ (z:=aCp) hj)
 | j+1,hj=>by
  have ih:=SN h h0 j (by omega)
  have:=iR (z:=aCp) h (a:=j) (b:=j+1) (by omega) hj
  omega
theorem X8 {α:Type} {p:Nat} {x y:α} {xs:List α}:y ∈ iB p x xs ↔ y=x∨y ∈ xs:=by
 unfold iB
 rw [List.mem_append,List.mem_cons]
 conv=>rhs;rw [← List.take_append_drop p xs,List.mem_append]
 constructor
 ·rintro (h | h | h)
  ·exact .inr (.inl h)
  ·exact .inl h
  ·exact .inr (.inr h)
 ·rintro (h | h | h)
  ·exact .inr (.inl h)
  ·exact .inl h
  ·exact .inr (.inr h)
theorem X6 {p:Nat} {x:GCopy} {xs:List GCopy} (q:Int):(iB p x xs).any (atB q)=(atB q x || xs.any (atB q)):=by
 unfold iB
 rw [List.any_append,List.any_cons]
 conv=>rhs;rw [← List.take_append_drop p xs,List.any_append]
 cases (xs.take p).any (atB q) <;>cases atB q x <;>cases (xs.drop p).any (atB q) <;>rfl
theorem R0 (m:GMachine) (r:Int) (xs:List GCell):(jC m r xs).alive=m.alive:=by unfold jC;split <;>rfl
theorem LL (m:GMachine) (r:Int) (xs:List GCell) (q:Int):dX (jC m r xs) q=(dX m q || decide (q=r)):=by
 unfold jC
 split
 ·rename_i h
  rw [mH]
  by_cases c:q=r
  ·subst c;rw [h];rfl
  ·rw [decide_eq_false c,Bool.or_false]
 ·show (iB _ _ m.copies).any (atB q)=_
  rw [X6,Bool.or_comm]
  congr 1
  show (r == q)=decide (q=r)
  by_cases c:q=r
  ·subst c;simp
  ·rw [decide_eq_false c];simp [Ne.symm c]
theorem YJ {m:GMachine} (h:dO m) {r:Int} (hr:0≤r∧r≤5) {xs:List GCell} (hx:dF xs=true):dO (jC m r xs):=by
 unfold jC
 split
 ·exact n7 h hx
 ·rename_i hh
  have hh:dX m r=false:=by simpa using hh
  have hc:=sA (wG h r)
  generalize o5 (vA r) aCp m.copies=p at hc
  obtain ⟨c1,c2⟩:=JH.1 h.2.2.1
  have hne:∀ x ∈ m.copies,x.region≠r:=fun x hx e=>by
   have:dX m r=true:=List.any_eq_true.2 ⟨x,hx,by simpa [atB] using e⟩
   rw [hh] at this;cases this
  obtain ⟨p1,p2,p3⟩:=hc
  have hP:(iB p ⟨r,xs⟩ m.copies).Pairwise fun a b=>a.region<b.region:=by
   refine s7 (z:=aCp) fun a b hab hb=>?_
   rw [kC p1] at hb
   rw [nN p1,nN p1]
   have key:∀ i,i<m.copies.length→(i<p→(m.copies.getD i aCp).region<r)∧(p≤i→r<(m.copies.getD i aCp).region):=fun i hi=>by
    refine ⟨fun h=>?_,fun h=>?_⟩
    ·have:=p2 i h;unfold vA at this;omega
    ·have h4:=p3 i h hi
     have h5:=hne _ (cJ (z:=aCp) hi)
     unfold vA at h4;omega
   by_cases a1:a<p
   ·rw [if_pos a1]
    by_cases b1:b<p
    ·rw [if_pos b1];exact iR (z:=aCp) c2 hab (by omega)
    ·rw [if_neg b1]
     by_cases b2:b<p+1
     ·rw [if_pos b2];exact (key a (by omega)).1 a1
     ·rw [if_neg b2];exact iR (z:=aCp) c2 (by omega) (by omega)
   ·rw [if_neg a1,if_neg (show ¬ b<p by omega),if_neg (show ¬ b<p+1 by omega)]
    by_cases a2:a<p+1
    ·rw [if_pos a2]
     exact (key (b - 1) (by omega)).2 (by omega)
    ·rw [if_neg a2]
     exact iR (z:=aCp) c2 (by omega) (by omega)
  have hA:∀ x ∈ iB p ⟨r,xs⟩ m.copies,(0≤x.region∧x.region≤5)∧dF x.cells=true:=fun x hx2=>by
   rcases X8.1 hx2 with rfl | hx2
   ·exact ⟨hr,hx⟩
   ·exact c1 x hx2
  have hL:(iB p ⟨r,xs⟩ m.copies).length≤6:=by
   rcases Nat.lt_or_ge 6 (iB p ⟨r,xs⟩ m.copies).length with g | g
   ·have h6:=SN hP (fun x hx=>(hA x hx).1.1) 6 g
    have h7:=(hA _ (cJ (z:=aCp) (i:=6) g)).1.2
    omega
   ·exact g
  exact ⟨⟨hL,h.1.2.1,h.1.2.2⟩,h.2.1,JH.2 ⟨hA,hP⟩,h.2.2.2⟩
theorem MF {al:List Bool} {next:List Int}:∀ k,∀ x ∈ dH al next k,x ∈ next∨(0≤x∧x<k∧al.getD x.toNat false=true)
 | 0,x,h => .inl h
 | k+1,x,h=>by
  rw [dH] at h
  have old:x ∈ dH al next k→x ∈ next∨(0≤x∧x<((k+1:Nat):Int)∧al.getD x.toNat false=true):=fun h=>by
   rcases MF k x h with h | h
   ·exact .inl h
   ·exact .inr ⟨h.1,by omega,h.2.2⟩
  cases c:al.getD k false with
  | false=>rw [c] at h;exact old h
  | true =>
   rw [c] at h
   revert h
   cases (bif bif true then decide (((dH al next k).length:Int)<3) else false then !decide ((k:Int) ∈ dH al next k) else false) with
   | false=>exact old
   | true =>
    intro h
    rcases List.mem_append.1 h with h | h
    ·exact old h
    ·have h:x=(k:Int):=by simpa using h
     subst h
     exact .inr ⟨by omega,by omega,by rw [Int.toNat_natCast];exact c⟩
theorem IX {al:List Bool} {next:List Int} (h:next.length≠0):∀ k,(dH al next k).length≠0∧(dH al next k).getD 0 0=next.getD 0 0
 | 0=>⟨h,rfl⟩
 | k+1=>by
  obtain ⟨h1,h2⟩:=IX h k (al:=al)
  rw [dH]
  cases (bif bif al.getD k false then decide (((dH al next k).length:Int)<3) else false then !decide ((k:Int) ∈ dH al next k) else false) with
  | false=>exact ⟨h1,h2⟩
  | true =>
   refine ⟨by rw [cond_true,List.length_append];omega,?_⟩
   rw [cond_true, ← h2]
   simp only [List.getD_eq_getElem?_getD]
   rw [List.getElem?_append_left (by omega)]
theorem ER {al:List Bool} {ps:List GPlace}:∀ {n:Nat},(g8 al ps n).length=0→∀ r,r<n→(fT al (ps.getD r aCi)).length≠0
 | 0,_,r,hr=>absurd hr (Nat.not_lt_zero _)
 | n+1,h,r,hr=>by
  rw [g8] at h
  split at h
  ·rw [List.length_append] at h;simp at h
  ·rename_i c
   by_cases e:r=n
   ·subst e;exact c
   ·exact ER h r (by omega)
abbrev iQ (c:GCluster) (r:Nat):Int:=((bK c).getD r aCi).machines.getD 0 0
structure NewPl (c:GCluster) (r:Nat):Prop where
 pos:0<((bK c).getD r aCi).machines.length
 le:((bK c).getD r aCi).machines.length≤3
 rng:∀ x ∈ ((bK c).getD r aCi).machines,0≤x∧x<c.machines.length
 alive:∀ x ∈ ((bK c).getD r aCi).machines,(c.machines.getD x.toNat aCj).alive=true
 fst:iQ c r ∈ (c.places.getD r aCi).machines
 has:dX (c.machines.getD (iQ c r).toNat aCj) r=true
theorem MD {c:GCluster} (hok:ClusOk c) {r:Nat} (hr:r<c.places.length) {x:Int} (hx:x ∈ fT (fQ c) (c.places.getD r aCi)):x ∈ (c.places.getD r aCi).machines∧(0≤x∧x<c.machines.length)∧(c.machines.getD x.toNat aCj).alive=true:=by
 obtain ⟨h1,h2⟩:=List.mem_filter.1 hx
 obtain ⟨k,hk,e⟩:=gW.1 h1
 have h3:=(hok.at hr hk).1
 have e2:mAt c r k=x:=e
 rw [e2] at h3
 refine ⟨h1,h3,?_⟩
 unfold nD at h2
 rw [qI,decide_eq_true h3.2,cond_true,zN c (by omega)] at h2
 exact h2
theorem xR {c:GCluster} (hok:ClusOk c) (hl:(g8 (fQ c) c.places c.places.length).length=0) {r:Nat} (hr:r<c.places.length):NewPl c r:=by
 have hk:=ER hl r hr
 have hq:((bK c).getD r aCi).machines=dH (fQ c) (fT (fQ c) (c.places.getD r aCi)) (fQ c).length:=by
  rw [bK,m7 (za:=aCi) _ hr]
  unfold n4
  rw [if_neg hk]
 have hpl:=hok.pl hr
 have hke:(fT (fQ c) (c.places.getD r aCi)).length≤3:=Nat.le_trans (List.length_filter_le _ _) hpl.2
 obtain ⟨f1,f2⟩:=IX hk (al:=fQ c) (fQ c).length
 have hm:∀ x ∈ ((bK c).getD r aCi).machines,(0≤x∧x<c.machines.length)∧(c.machines.getD x.toNat aCj).alive=true:=fun x hx=>by
  rw [hq] at hx
  rcases MF _ x hx with h | ⟨h1,h2,h3⟩
  ·exact (MD hok hr h).2
  ·rw [qI] at h2
   rw [zN c (by omega)] at h3
   exact ⟨⟨h1,h2⟩,h3⟩
 have hf:iQ c r ∈ fT (fQ c) (c.places.getD r aCi):=by
  rw [iQ,hq,f2];exact cJ (z:=0) (by omega)
 obtain ⟨g1,g2,g3⟩:=MD hok hr hf
 obtain ⟨k,hk2,e⟩:=gW.1 g1
 have h3:=(hok.at hr hk2).2
 have e2:mAt c r k=iQ c r:=e
 unfold bH at h3
 rw [e2] at h3
 exact ⟨by rw [hq];omega,by rw [hq];exact BJ hke _,fun x hx=>(hm x hx).1,fun x hx=>(hm x hx).2,g1,h3 g3⟩
structure More (ms ns:List GMachine):Prop where
 len:ns.length=ms.length
 ok:∀ j,j<ns.length→dO (ns.getD j aCj)∧(ns.getD j aCj).alive=(ms.getD j aCj).alive∧∀ q,dX (ms.getD j aCj) q=true→dX (ns.getD j aCj) q=true
theorem Like.more {ms ns:List GMachine} (h:Like ms ns):More ms ns:=⟨h.len,fun j hj=>⟨(h.ok j hj).1,(h.ok j hj).2.1,fun q hq=>by rw [(h.ok j hj).2.2];exact hq⟩⟩
theorem More.set {ms ns:List GMachine} (h:More ms ns) {m:Int} (hm:0≤m∧m<ms.length) {r:Int} (hr:0≤r∧r≤5) {xs:List GCell} (hx:dF xs=true):More ms (ns.set m.toNat (jC (ns.getD m.toNat aCj) r xs)):=by
 have hlt:m.toNat<ns.length:=by rw [h.len];omega
 refine ⟨by rw [List.length_set];exact h.len,fun j hj=>?_⟩
 rw [List.length_set] at hj
 rw [lA hlt]
 split
 ·rename_i e
  subst e
  obtain ⟨q1,q2,q3⟩:=h.ok _ hj
  exact ⟨YJ q1 hr hx,(R0 _ _ _).trans q2,fun q hq=>by rw [LL,q3 q hq];rfl⟩
 ·exact h.ok j hj
theorem EJ {old l:List Int} {r:Int} {xs:List GCell} {p:Int} (hp:p ∈ old) (hp0:0≤p) (hl:∀ x ∈ l,0≤x) {ms:List GMachine}:∀ k,k≤l.length→(iI old l r xs k ms).getD p.toNat aCj=ms.getD p.toNat aCj
 | 0,_=>rfl
 | k+1,hk=>by
  have ih:=EJ hp hp0 hl (xs:=xs) (r:=r) (ms:=ms) k (by omega)
  rw [iI]
  split
  ·exact ih
  ·rename_i hn
   have hne:l.getD k 0≠p:=fun e=>hn (e ▸ hp)
   have h0:=hl _ (cJ (z:=0) (show k<l.length by omega))
   rw [← ih]
   simp only [List.getD_eq_getElem?_getD]
   rw [List.getElem?_set_ne (by simp only [List.getD_eq_getElem?_getD] at hne h0;omega)]
theorem nC {ms0 ms:List GMachine} {old l:List Int} {r:Int} (hr:0≤r∧r≤5) {xs:List GCell} (hx:dF xs=true) (hl:∀ x ∈ l,0≤x∧x<ms0.length) (h:More ms0 ms):∀ k,k≤l.length→More ms0 (iI old l r xs k ms)
 | 0,_=>h
 | k+1,hk=>by
  have ih:=nC hr hx hl h (old:=old) k (by omega)
  rw [iI]
  split
  ·exact ih
  ·exact ih.set (hl _ (cJ (z:=0) (by omega))) hr hx
theorem m3 {c:GCluster} (hok:ClusOk c) (hl:(g8 (fQ c) c.places c.places.length).length=0) {ms:List GMachine} (h:More c.machines ms):∀ r,r≤c.places.length→More c.machines (gX c.places (bK c) r ms)
 | 0,_=>h
 | r+1,hr=>by
  have ih:=m3 hok hl h r (by omega)
  have np:=xR hok hl (r:=r) (by omega)
  have h5:=hok.2.1.1.2
  have hf:0≤iQ c r∧iQ c r<c.machines.length:=np.rng _ (cJ (z:=0) np.pos)
  obtain ⟨q1,q2,q3⟩:=ih.ok (iQ c r).toNat (by rw [ih.len];omega)
  rw [gX]
  exact nC (by omega) (fH q1 (q3 _ np.has)).2 np.rng ih _ (Nat.le_refl _)
end
section
theorem RecIn.eq {c d:GCluster} {i:Nat} (h:RecIn c d i):d=cwt c c.clock d.machines d.txs:=by
 have h1:=h.config;have h2:=h.clock;have h3:=h.places;have h4:=h.lost
 cases d
 simp only at h1 h2 h3 h4
 subst h1;subst h2;subst h3;subst h4
 rfl
theorem GK {c:GCluster} {i:Nat} (h:kA c (c.txs.getD i aCk)=true):dU c (i+1)=tM (dU c i) i:=by rw [dU,if_pos h]
theorem KZ {c:GCluster} {i:Nat} (h:kA c (c.txs.getD i aCk)=false):dU c (i+1)=dU c i:=by rw [dU,if_neg (by rw [h];simp)]
theorem SH (m:GMachine) (r:Int) (xs:List GCell):bJ (jC m r xs)=[.v (.bool m.alive), .sl 2 (jC m r xs).copies.length (fun i=>dA ((jC m r xs).copies.getD i aCp)), .sl 4 m.log.length (fun i=>cK (m.log.getD i aCq)), .sl 1 m.cleared.length (fun i=>bS (m.cleared.getD i 0))]:=by unfold jC;split <;>rfl
theorem J9 {a b:Nat} (h:a≠b):Nat.beq a b=false:=by
 cases e:Nat.beq a b with
 | false=>rfl
 | true=>exact absurd (Nat.eq_of_beq_eq_true e) h
abbrev E1 (m:GMachine) (r:Int) (v:Value):List D:=[.v (.int .i64 (m.copies.getD (eM m r).toNat aCp).region), .v v]
abbrev HT (m:GMachine) (r:Int) (v:Value):List D:=[.v (.bool m.alive), .sl 2 m.copies.length (fun i=>bif Nat.beq i (eM m r).toNat then E1 m r v else dA (m.copies.getD i aCp)), .sl 4 m.log.length (fun i=>cK (m.log.getD i aCq)), .sl 1 m.cleared.length (fun i=>bS (m.cleared.getD i 0))]
abbrev UE (ms:List GMachine) (p:Int) (P:List D):Ch := .arr 4 ms.length fun j=>bif Nat.beq j p.toNat then P else bJ (ms.getD j aCj)
abbrev rowO (m:GMachine):List V:=[.v (.bool m.alive), .s .o 2 m.copies.length (fun i=>dA (m.copies.getD i aCp)), .s .o 4 m.log.length (fun i=>cK (m.log.getD i aCq)), .s .o 1 m.cleared.length (fun i=>bS (m.cleared.getD i 0))]
theorem SO {ms:List GMachine} {p:Int} {P:List D} {m:Int} (h:m.toNat≠p.toNat):vK .o ((fun j=>bif Nat.beq j p.toNat then P else bJ (ms.getD j aCj)) m.toNat)=some (rowO (ms.getD m.toNat aCj)):=by
 show vK .o (bif Nat.beq m.toNat p.toNat then P else bJ (ms.getD m.toNat aCj))=_
 rw [J9 h];rfl
theorem XP {ms:List GMachine} {p:Int} (m:GMachine) (r:Int) (v:Value):vK .o ((fun j=>bif Nat.beq j p.toNat then HT m r v else bJ (ms.getD j aCj)) p.toNat)=some [.v (.bool m.alive), .s .o 2 m.copies.length (fun i=>bif Nat.beq i (eM m r).toNat then E1 m r v else dA (m.copies.getD i aCp)), .s .o 4 m.log.length (fun i=>cK (m.log.getD i aCq)), .s .o 1 m.cleared.length (fun i=>bS (m.cleared.getD i 0))]:=by
 show vK .o (bif Nat.beq p.toNat p.toNat then HT m r v else bJ (ms.getD p.toNat aCj))=_
 rw [Nat.beq_refl];rfl
theorem WM (m:GMachine) (r:Int) (v:Value):vK .o ((fun i=>bif Nat.beq i (eM m r).toNat then E1 m r v else dA (m.copies.getD i aCp)) (eM m r).toNat)=some [.v (.int .i64 (m.copies.getD (eM m r).toNat aCp).region), .v v]:=by
 show vK .o (bif Nat.beq (eM m r).toNat (eM m r).toNat then E1 m r v else dA (m.copies.getD (eM m r).toNat aCp))=_
 rw [Nat.beq_refl];rfl
theorem J3 {ns:List GMachine} {p x:Int} {P l:List D} {M:GMachine} {r:Int} {cs:List GCell} (hx:x.toNat<ns.length) (hne:x.toNat≠p.toNat) (hl:l=bJ (jC M r cs)):(Ch.arr 4 ns.length fun j=>bif Nat.beq j x.toNat then l else (bif Nat.beq j p.toNat then P else bJ (ns.getD j aCj))).imp (UE (ns.set x.toNat (jC M r cs)) p P):=by
 have e:(ns.set x.toNat (jC M r cs)).length=ns.length:=List.length_set
 unfold UE
 rw [e]
 refine Ch.imp_arr fun j hj=>?_
 rw [lA hx]
 by_cases c1:j=x.toNat
 ·subst c1;rw [Nat.beq_refl,J9 hne,if_pos rfl,hl];rfl
 ·rw [J9 c1,if_neg c1];rfl
theorem QJ {ns:List GMachine} {p r:Int} {v:Value} {m:GMachine} {cs:List GCell} (hp:ns.getD p.toNat aCj=m) (hcs:cs=(m.copies.getD (eM m r).toNat aCp).cells) :
  (Ch.arr 4 ns.length fun j=>bif Nat.beq j p.toNat then [.v (.bool m.alive), .sl 2 m.copies.length (fun i=>bif Nat.beq i (eM m r).toNat then [.v (.int .i64 (m.copies.getD (eM m r).toNat aCp).region), .sl 2 cs.length fun i=>cX (cs.getD i aCo)] else (bif Nat.beq i (eM m r).toNat then E1 m r v else dA (m.copies.getD i aCp))), .sl 4 m.log.length (fun i=>cK (m.log.getD i aCq)), .sl 1 m.cleared.length (fun i=>bS (m.cleared.getD i 0))] else (bif Nat.beq j p.toNat then HT m r v else bJ (ns.getD j aCj))).imp (bE 4 bJ aCj ns):=by
 refine Ch.imp_arr fun j hj=>?_
 by_cases c1:j=p.toNat
 ·subst c1
  rw [Nat.beq_refl,hp]
  have hc:(fun i=>bif Nat.beq i (eM m r).toNat then [.v (.int .i64 (m.copies.getD (eM m r).toNat aCp).region), .sl 2 cs.length fun i=>cX (cs.getD i aCo)] else (bif Nat.beq i (eM m r).toNat then E1 m r v else dA (m.copies.getD i aCp)))=fun i=>dA (m.copies.getD i aCp):=by
   funext i
   by_cases c2:i=(eM m r).toNat
   ·rw [c2,Nat.beq_refl,hcs];rfl
   ·rw [J9 c2];rfl
  rw [hc];rfl
 ·rw [J9 c1];rfl
theorem PW {α:Type} {sz i:Nat} {enc:α→List D} {z:α} {xs:List α} {l:List D} (hl:l=enc (xs.getD i z)):(Ch.arr sz xs.length fun j=>bif Nat.beq j i then l else enc (xs.getD j z)).imp (bE sz enc z xs):=Ch.imp_arr fun j hj=>by
 by_cases c1:j=i
 ·subst c1;rw [Nat.beq_refl,hl];rfl
 ·rw [J9 c1];rfl
abbrev jU (c:GCluster):List Int:=g8 (fQ c) c.places c.places.length
end
section
theorem yE {c:GCluster} (hok:ClusOk c) (hcf:c.config≠1000000) (hl:(jU c).length > 0):eZ c = { c with lost:=true }:=by unfold eZ;rw [if_pos ⟨hok,hcf⟩,if_pos hl]
noncomputable abbrev j9 (c:GCluster):GCluster:={ c with config:=c.config+1,places:=bK c,machines:=gX c.places (bK c) c.places.length (dU c c.txs.length).machines,txs:=(dU c c.txs.length).txs }
theorem uK {c:GCluster} (hok:ClusOk c) (hcf:c.config≠1000000) (hl:(jU c).length=0):eZ c=j9 c:=by
 have hR:=qS hok c.txs.length (Nat.le_refl _)
 unfold eZ
 rw [if_pos ⟨hok,hcf⟩,if_neg (by show ¬ (jU c).length > 0;omega)]
 show (⟨c.config+1,(dU c c.txs.length).clock,bK c,gX c.places (bK c) c.places.length (dU c c.txs.length).machines,(dU c c.txs.length).txs,(dU c c.txs.length).lost⟩:GCluster)=_
 rw [hR.clock,hR.lost]
theorem xH {c:GCluster} (h:¬ (ClusOk c∧c.config≠1000000)):eZ c=aCl:=by unfold eZ;rw [if_neg h]
end
section
theorem RN {al:List Bool} {next:List Int} {k n:Nat} (h:3≤(dH al next k).length) (hk:k≤n):dH al next n=dH al next k:=by
 obtain ⟨j,rfl⟩:∃ j,n=k+j:=⟨n - k,by omega⟩
 exact J0 h j
set_option maxHeartbeats 1000000 in
theorem P7 (ps:List GPlace) (hp:PlOk ps) (al:List Bool) (hal:al.length≤8) :
  Con Tryz.prog 109 [] [vL 1 cE aCi ps,vL 1 qT false al] [] (fun _:Unit=>True) (fun _=>[.a (.g 910), .a (.g 911)]) fun _=>[(910,bE 1 cE aCi (ps.map (n4 al))),(911,bE 1 bS 0 (g8 al ps ps.length))]:=by
 have hpl:=hp.1
 refine aE Tryz.func109 fun B0 r_ D_ w0=>?_
 refine aF ?_
 refine aM 41 (fun i=>bS (([]:List Int).getD i 0)) (fun i hi=>absurd hi (Nat.not_lt_zero _)) (mu1:=[]) ?_
 refine aN ?_
 refine aM 40 (fun i=>cE (([]:List GPlace).getD i aCi)) (fun i hi=>absurd hi (Nat.not_lt_zero _)) (mu1:=[]) ?_
 refine aN ?_
 refine aH (zZ ps) ?_
 refine bX (b:=bif !dec (PlOk ps) then true else decide ((al.length:Int) > 8)) rfl (fun e=>by rw [cN hp,decide_eq_false (show ¬ (al.length:Int) > 8 by omega)] at e;cases e) (fun _=>?_)
 refine aF ?_
 refine aK (ι:=Nat) (fun r=>[(8,vI r),(7, .a (.g 40)),(6, .a (.g 41))]) (fun r=>[(40,bE 1 cE aCi ((ps.take r).map (n4 al))),(41,bE 1 bS 0 (g8 al ps r))]) (fun r=>r≤ps.length∧(g8 al ps r).length≤r) (fun r=>ps.length - r) 0 [40,41] [40,41] ⟨Nat.zero_le _,Nat.le_refl _⟩ ?_
 intro r ⟨h1,hlo⟩
 have hl1:((ps.take r).map (n4 al)).length=r:=by rw [List.length_map,List.length_take];omega
 refine aF ?_
 refine aI (fun e=>?_) (fun e=>?_)
 ·have hr:r<ps.length:=by omega
  have hpr:=(hp.2 r hr).1
  refine aF ?_
  refine bB (a5 9 0 1 (fun i=>bS (([]:List Int).getD i 0))) ?_
  refine bB (a6 9 0 50) ?_
  refine aK (ι:=Nat) (fun j=>[(10,vI j)]) (fun j=>[(9, .row [.g 50]),(50,bE 1 bS 0 (((ps.getD r aCi).machines.take j).filter (nD al)))]) (fun j=>j≤(ps.getD r aCi).machines.length) (fun j=>(ps.getD r aCi).machines.length - j) 0 [9,50] [50] (Nat.zero_le _) ?_
  intro j h2
  have hfl:=mE (ps.getD r aCi).machines (nD al) j
  refine aF ?_
  refine aI (fun e2=>?_) (fun e2=>?_)
  ·simp only [Int.toNat_natCast] at e2
   have hj:j<(ps.getD r aCi).machines.length:=by omega
   have hm:=hp.le hr hj
   refine aF ?_
   refine aH (XZ al ((ps.getD r aCi).machines.getD j 0) hm.1) ?_
   refine aA (fun e3=>?_) (fun e3=>?_)
   ·have hF:=jM (z:=0) hj (p:=nD al) e3
    refine aW [50] [0,1,2,3,4,5,6,7,8,9,10,11,12,13] fun B0 H0=>?_
    refine bG 10 rfl (by kernel_rfl) (dV TT_ok 61 (fun _=>bS ((ps.getD r aCi).machines.getD j 0)) rfl rfl rfl rfl rfl rfl rfl (fun i hi=>by rcases i with _ | i <;>first | rfl | omega) (mu1:=[]) rfl rfl rfl (bD ?_))
    refine bG 11 rfl (by kernel_rfl) (dM TT_ok 50 61 62 rfl rfl rfl rfl rfl rfl rfl rfl rfl rfl rfl rfl ⟨by show ((((ps.getD r aCi).machines.take j).filter (nD al)).length+1) * 8≤_;omega,by unfold maxL;omega⟩ (bD ?_))
    refine aY [12,13] ?_
    refine dR 13 rfl (by kernel_rfl) (by kernel_rfl) (aV (eJ [] fun B0 H0=>?_))
    refine aP ?_
    refine bC (bL 50 62) ?_
    exact bN (j+1) hj (by omega) wF ⟨⟨_,rfl,aCt _⟩,⟨_,rfl,aS (x:=(ps.getD r aCi).machines.getD j 0) hF⟩,wM⟩
   ·have hF:=j4 (z:=0) hj (p:=nD al) e3
    refine aF ?_
    exact bN (j+1) hj (by omega) wF ⟨⟨_,rfl,aCt _⟩,⟨_,rfl,bP hF⟩,wM⟩
  simp only [Int.toNat_natCast] at e2
  have hj:j=(ps.getD r aCi).machines.length:=by omega
  subst hj
  rw [List.take_length]
  have hke:(fT al (ps.getD r aCi)).length≤3:=Nat.le_trans (List.length_filter_le _ _) hpr.2
  refine aF ?_
  refine aQ (fun e3=>?_) (fun e3=>?_)
  ·have e3:((fT al (ps.getD r aCi)).length:Int)=0:=e3
   have hrem:n4 al (ps.getD r aCi)=⟨(ps.getD r aCi).machines⟩:=by unfold n4;rw [if_pos (by omega)]
   have hlost:g8 al ps (r+1)=g8 al ps r ++ [(r:Int)]:=by rw [g8,if_pos (by omega)]
   refine aF ?_
   refine cV TT_ok 70 (fun _=>bS r) rfl rfl rfl rfl rfl rfl rfl (fun i hi=>by rcases i with _ | i <;>first | rfl | omega) (mu1:=[]) rfl rfl rfl ?_
   refine aN ?_
   refine cU TT_ok 41 70 71 rfl rfl rfl rfl rfl rfl rfl rfl rfl rfl rfl rfl ⟨by show ((g8 al ps r).length+1) * 8≤_;omega,by unfold maxL;omega⟩ ?_
   refine aN ?_
   refine aM 73 (fun i=>bS (([]:List Int).getD i 0)) (fun i hi=>absurd hi (Nat.not_lt_zero _)) (mu1:=[]) ?_
   refine aN ?_
   refine oG TT_ok 73 74 rfl rfl rfl rfl rfl rfl rfl rfl rfl rfl rfl rfl ⟨by show (0+(ps.getD r aCi).machines.length) * 8≤_;omega,by show 0+(ps.getD r aCi).machines.length≤maxL;unfold maxL;omega⟩ ?_
   refine eY (t5 74 (c':=bE 1 bS 0 (ps.getD r aCi).machines) rfl (mX (ys:=([]:List Int)) (by simp)) rfl) ?_
   refine aN ?_
   refine cV TT_ok 75 (fun _=>cE ⟨(ps.getD r aCi).machines⟩) rfl rfl rfl rfl rfl rfl rfl (fun i hi=>by rcases i with _ | i <;>first | rfl | omega) (mu1:=[(74, .arr 0 0 fun _=>[])]) rfl rfl rfl ?_
   refine aN ?_
   refine cU TT_ok 40 75 76 rfl rfl rfl rfl rfl rfl rfl rfl rfl rfl rfl rfl ⟨by show (((ps.take r).map (n4 al)).length+1) * 24≤_;omega,by unfold maxL;omega⟩ ?_
   refine aN ?_
   refine bC (bL 40 76) ?_
   refine bC (bL 41 71) ?_
   exact bN (r+1) ⟨hr,by rw [hlost,List.length_append,List.length_singleton];omega⟩ (by omega) wF ⟨⟨_,rfl,fJ (x:=(⟨(ps.getD r aCi).machines⟩:GPlace)) (by rw [cC (z:=aCi) hr,List.map_append,List.map_singleton,hrem]) rfl⟩,⟨_,rfl,aS (x:=(r:Int)) hlost⟩,wM⟩
  have e3:((fT al (ps.getD r aCi)).length:Int)≠0:=e3
  have hrem:n4 al (ps.getD r aCi)=⟨dH al (fT al (ps.getD r aCi)) al.length⟩:=by unfold n4;rw [if_neg (by omega)]
  have hlost:g8 al ps (r+1)=g8 al ps r:=by rw [g8,if_neg (by omega)]
  refine aF ?_
  refine aK (ι:=Nat) (fun m=>[(11,vI m)]) (fun m=>[(9, .row [.g 50]),(50,bE 1 bS 0 (dH al (fT al (ps.getD r aCi)) m))]) (fun m=>m≤al.length) (fun m=>al.length - m) 0 [9,50] [50] (Nat.zero_le _) ?_
  intro m h3
  have hfi:=BJ (al:=al) hke m
  refine aF ?_
  refine aA (b:=bif decide ((m:Int)<al.length) then decide (((dH al (fT al (ps.getD r aCi)) m).length:Int)<3) else false) (fun e4=>?_) (fun e4=>?_)
  ·have hml:(m:Int)<al.length∧((dH al (fT al (ps.getD r aCi)) m).length:Int)<3:=by
    by_cases c1:(m:Int)<al.length
    ·rw [decide_eq_true c1] at e4;exact ⟨c1,of_decide_eq_true e4⟩
    ·rw [decide_eq_false c1] at e4;cases e4
   have hm:m<al.length:=by omega
   refine aF ?_
   refine l4 TT_ok (mW (dH al (fT al (ps.getD r aCi)) m) (by omega) m) rfl rfl rfl rfl rfl ?_
   refine aA (b:=bif al.getD m false then !decide ((m:Int) ∈ dH al (fT al (ps.getD r aCi)) m) else false) (fun e5=>?_) (fun e5=>?_)
   ·refine aF ?_
    refine cV TT_ok 80 (fun _=>bS m) rfl rfl rfl rfl rfl rfl rfl (fun i hi=>by rcases i with _ | i <;>first | rfl | omega) (mu1:=[]) rfl rfl rfl ?_
    refine aN ?_
    refine cU TT_ok 50 80 81 rfl rfl rfl rfl rfl rfl rfl rfl rfl rfl rfl rfl ⟨by show ((dH al (fT al (ps.getD r aCi)) m).length+1) * 8≤_;omega,by unfold maxL;omega⟩ ?_
    refine aN ?_
    refine bC (bL 50 81) ?_
    exact bN (m+1) hm (by omega) wF ⟨⟨_,rfl,aCt _⟩,⟨_,rfl,fJ (x:=(m:Int)) (by rw [dH,decide_eq_true hml.2];revert e5;cases al.getD m false <;>cases decide ((m:Int) ∈ dH al (fT al (ps.getD r aCi)) m) <;>intro e5 <;>first | rfl | cases e5) rfl⟩,wM⟩
   ·refine aF ?_
    exact bN (m+1) hm (by omega) wF ⟨⟨_,rfl,aCt _⟩,⟨_,rfl,bP (by rw [dH,decide_eq_true hml.2];revert e5;cases al.getD m false <;>cases decide ((m:Int) ∈ dH al (fT al (ps.getD r aCi)) m) <;>intro e5 <;>first | rfl | cases e5)⟩,wM⟩
  have hend:dH al (fT al (ps.getD r aCi)) al.length=dH al (fT al (ps.getD r aCi)) m:=by
   by_cases c1:(m:Int)<al.length
   ·rw [decide_eq_true c1] at e4
    have:=of_decide_eq_false e4
    exact RN (by omega) h3
   ·rw [show m=al.length by omega]
  rw [← hend]
  refine aF ?_
  refine cV TT_ok 86 (fun _=>cE ⟨dH al (fT al (ps.getD r aCi)) al.length⟩) rfl rfl rfl rfl rfl rfl rfl (fun i hi=>by rcases i with _ | i <;>first | rfl | omega) (mu1:=[(50, .arr 0 0 fun _=>[])]) rfl rfl rfl ?_
  refine aN ?_
  refine cU TT_ok 40 86 87 rfl rfl rfl rfl rfl rfl rfl rfl rfl rfl rfl rfl ⟨by show (((ps.take r).map (n4 al)).length+1) * 24≤_;omega,by unfold maxL;omega⟩ ?_
  refine aN ?_
  refine bC (bL 40 87) ?_
  exact bN (r+1) ⟨hr,by rw [hlost];omega⟩ (by omega) wF ⟨⟨_,rfl,fJ (x:=(⟨dH al (fT al (ps.getD r aCi)) al.length⟩:GPlace)) (by rw [cC (z:=aCi) hr,List.map_append,List.map_singleton,hrem]) rfl⟩,⟨_,rfl,bP hlost.symm⟩,wM⟩
 have hr:r=ps.length:=by omega
 subst hr
 rw [List.take_length]
 refine aF ?_
 refine bB (bL 40 910) ?_
 refine bB (bL 41 911) ?_
 refine aC (()) [(4,none),(5,none)] ?_ ?_ ?_
 ·exact aCu _
 ·exact wM
 ·trivial
end
section
def uC (c:GCluster) (d:Bool) (t:GTx) (k j:Nat):List GMachine:=(mS c (bI t) false k ++ kW false ((bI t).getD k 0) (cR c ((bI t).getD k 0)) j).foldl (sI d t) c.machines
theorem aAh (c:GCluster) (d:Bool) (t:GTx) (k:Nat):uC c d t (k+1) 0=uC c d t k (cR c ((bI t).getD k 0)).length:=by
 unfold uC
 rw [mS]
 show (_ ++ []).foldl _ _=_
 rw [List.append_nil]
theorem Z9 (c:GCluster) (d:Bool) (t:GTx):uC c d t (bI t).length 0=(cW c t false).foldl (sI d t) c.machines:=by
 unfold uC
 show (_ ++ []).foldl _ _=_
 rw [List.append_nil];rfl
theorem W1 (c:GCluster) (d:Bool) (t:GTx) (k j:Nat):uC c d t k (j+1)=sI d t (uC c d t k j) ⟨(bI t).getD k 0,(cR c ((bI t).getD k 0)).getD j 0,decide ((j:Int) > 0)⟩:=by
 unfold uC
 rw [kW,show (bif decide ((j:Int) > 0) then true else !false)=true from by cases decide ((j:Int) > 0) <;>rfl,cond_true, ← List.append_assoc,List.foldl_append]
 rfl
theorem SQ {c:GCluster} {r:Int} (hr:0≤r∧r<c.places.length) {j:Nat} (hj:j<(cR c r).length):AtIn c ⟨r,(cR c r).getD j 0,decide ((j:Int) > 0)⟩:=⟨hr,j,hj,rfl,rfl⟩
theorem VN {c:GCluster} (hok:ClusOk c) {d:Bool} {t:GTx} (ht:TxIn c t) (k j:Nat) (hk:k<(bI t).length) (hj:j≤(cR c ((bI t).getD k 0)).length):Like c.machines (uC c d t k j):=zY hok ht.ok (fun x h=>by
 rcases List.mem_append.1 h with h | h
 ·exact AU (fun k hk=>iN ht hk) (by omega) h
 ·obtain ⟨i,h1,rfl⟩:=CN hj h
  exact SQ (iN ht hk) (by omega)) (Like.refl hok)
set_option maxHeartbeats 2000000 in
theorem ZI (c:GCluster) (hok:ClusOk c) (i:Nat) (hi:i<c.txs.length) :
  Con Tryz.prog 110 [900,901,902,903] [.a (.p 900 0),vI i] [(900, .rrow (fW c 901 902 903)),(901,roC 1 cE aCi c.places),(902,bE 4 bJ aCj c.machines),(903,bE 7 cTx aCk c.txs)]
   (fun _:Unit=>True) (fun _=>[]) fun _=>[(902,bE 4 bJ aCj (tM c i).machines),(903,bE 7 cTx aCk (tM c i).txs)]:=by
 have hb:=l8 hok
 have hx:=hok.txIn hi
 have hs1:=hx.ok.1.2.2.2.2.2.1
 have hs2:=hx.ok.1.2.2.2.2.2.2
 have hwl:=sB hx.ok
 have hvl:(kE c (c.txs.getD i aCk)).length=(bI (c.txs.getD i aCk)).length:=List.length_map _
 refine aE Tryz.func110 fun B0 r_ D_ w0=>?_
 refine aF ?_
 refine aR (aCv 900 14 (II hx.ok)) fun _ _=>?_
 refine aN ?_
 refine aM 40 (fun i=>bS (([]:List Int).getD i 0)) (fun i hi=>absurd hi (Nat.not_lt_zero _)) (mu1:=[]) ?_
 refine aN ?_
 refine aK (ι:=Nat) (fun k=>[(7,vI k),(6, .a (.g 40))]) (fun k=>[(40,bE 1 bS 0 ((kE c (c.txs.getD i aCk)).take k))]) (fun k=>k≤(bI (c.txs.getD i aCk)).length) (fun k=>(bI (c.txs.getD i aCk)).length - k) 0 [40] [40] (Nat.zero_le _) ?_
 intro k h1
 have hvt:((kE c (c.txs.getD i aCk)).take k).length≤k:=by rw [List.length_take];omega
 refine aF ?_
 refine aI (fun e=>?_) (fun e=>?_)
 ·have hk:k<(bI (c.txs.getD i aCk)).length:=by omega
  have hr:=iN hx hk
  refine aF ?_
  refine aW [40] [0,1,2,3,4,5,6,7,8,9,10,11,12,13,14,15] fun B0 H0=>?_
  refine fU 12 (MN c hb hok _ _ hr) rfl rfl rfl (aCu _) rfl ?_
  refine bG 13 rfl (by kernel_rfl) (dV TT_ok 28 (fun _=>bS (rY c (c.txs.getD i aCk).id ((bI (c.txs.getD i aCk)).getD k 0) (cR c ((bI (c.txs.getD i aCk)).getD k 0)).length)) rfl rfl rfl rfl rfl rfl rfl (fun i hi=>by rcases i with _ | i <;>first | rfl | omega) (mu1:=[]) rfl rfl rfl (bD ?_))
  refine bG 14 rfl (by kernel_rfl) (dM TT_ok 40 28 29 rfl rfl rfl rfl rfl rfl rfl rfl rfl rfl rfl rfl ⟨by show (((kE c (c.txs.getD i aCk)).take k).length+1) * 8≤_;omega,by unfold maxL;omega⟩ (bD ?_))
  refine aY [15] ?_
  refine aP ?_
  refine bC (bL 40 29) ?_
  exact bN (k+1) hk (by omega) wF ⟨⟨_,rfl,aS (x:=rY c (c.txs.getD i aCk).id ((bI (c.txs.getD i aCk)).getD k 0) (cR c ((bI (c.txs.getD i aCk)).getD k 0)).length) (L3 hk)⟩,wM⟩
 have hk:k=(bI (c.txs.getD i aCk)).length:=by omega
 subst hk
 rw [List.take_of_length_le (show (kE c (c.txs.getD i aCk)).length≤_ by omega)]
 refine aF ?_
 refine l4 TT_ok (CX (kE c (c.txs.getD i aCk)) (by omega)) rfl rfl rfl rfl rfl ?_
 rw [show (bif (bif (c.txs.getD (i:Int).toNat aCk).phase != 8 then (c.txs.getD (i:Int).toNat aCk).phase != 1 else false) then mT (kE c (c.txs.getD i aCk)) else false)=pG c (c.txs.getD i aCk) from J1 c _]
 generalize hD:pG c (c.txs.getD i aCk)=d
 have hres:tM c i = { c with machines:=(cW c (c.txs.getD i aCk) false).foldl (sI d (c.txs.getD i aCk)) c.machines,txs:=c.txs.set i (y9 d (c.txs.getD i aCk)) }:=by unfold tM;rw [hD]
 rw [hres, ← Z9]
 refine aK (ι:=Nat) (fun k=>[(9,vI k)]) (fun k=>[(902,bE 4 bJ aCj (uC c d (c.txs.getD i aCk) k 0))]) (fun k=>k≤(bI (c.txs.getD i aCk)).length) (fun k=>(bI (c.txs.getD i aCk)).length - k) 0 [902] [] (Nat.zero_le _) ?_
 intro k h1
 refine aF ?_
 refine aI (fun e=>?_) (fun e=>?_)
 ·have hk:k<(bI (c.txs.getD i aCk)).length:=by omega
  have hr:=iN hx hk
  have hpl:=nT hok hr
  obtain ⟨s1,s2,s3⟩:=oP hx.ok ((bI (c.txs.getD i aCk)).getD k 0)
  have hsl:(bY ((bI (c.txs.getD i aCk)).getD k 0) (c.txs.getD i aCk).sets).length≤(c.txs.getD i aCk).sets.length:=List.length_filter_le _ _
  refine aF ?_
  refine aW [] [0,1,2,3,4,5,6,7,8] fun B0 H0=>?_
  refine iH 7 (aCv 900 30 (BP (c.txs.getD i aCk) ((bI (c.txs.getD i aCk)).getD k 0) (by omega))) rfl rfl rfl (aCu _) (fun _=>rfl) rfl rfl rfl fun _ _=>?_
  refine aY [8] ?_
  refine aP ?_
  refine aW [] [0,1,2,3,4,5,6,7,8,9,10,11] fun B0 H0=>?_
  refine aP ?_
  refine aK (ι:=Nat) (fun j=>[(12,vI j)]) (fun j=>[(902,bE 4 bJ aCj (uC c d (c.txs.getD i aCk) k j))]) (fun j=>j≤(cR c ((bI (c.txs.getD i aCk)).getD k 0)).length) (fun j=>(cR c ((bI (c.txs.getD i aCk)).getD k 0)).length - j) 0 [902] [] (Nat.zero_le _) ?_
  intro j h2
  refine aF ?_
  refine aI (fun e2=>?_) (fun e2=>?_)
  ·have e2:(j:Int)<((cR c ((bI (c.txs.getD i aCk)).getD k 0)).length:Int):=e2
   have hj:j<(cR c ((bI (c.txs.getD i aCk)).getD k 0)).length:=by omega
   have hA:AtIn c ⟨((bI (c.txs.getD i aCk)).getD k 0),(cR c ((bI (c.txs.getD i aCk)).getD k 0)).getD j 0,decide ((j:Int) > 0)⟩:=SQ hr hj
   obtain ⟨hm1,hm2⟩:=hA.mach hok
   have hm1:0≤(cR c ((bI (c.txs.getD i aCk)).getD k 0)).getD j 0∧(cR c ((bI (c.txs.getD i aCk)).getD k 0)).getD j 0<c.machines.length:=hm1
   have hL:=VN hok (d:=d) hx k j hk (by omega)
   have hS:=W1 c d (c.txs.getD i aCk) k j
   have hN:j+1≤(cR c ((bI (c.txs.getD i aCk)).getD k 0)).length:=hj
   generalize uC c d (c.txs.getD i aCk) k j=ns at hL hS ⊢
   have hm3:0≤(cR c ((bI (c.txs.getD i aCk)).getD k 0)).getD j 0∧(cR c ((bI (c.txs.getD i aCk)).getD k 0)).getD j 0<ns.length:=by rw [hL.len];exact hm1
   obtain ⟨hM,hLa,hLh⟩:=hL.ok ((cR c ((bI (c.txs.getD i aCk)).getD k 0)).getD j 0).toNat (by omega)
   have hh:(ns.getD ((cR c ((bI (c.txs.getD i aCk)).getD k 0)).getD j 0).toNat aCj).alive=true→dX (ns.getD ((cR c ((bI (c.txs.getD i aCk)).getD k 0)).getD j 0).toNat aCj) ((bI (c.txs.getD i aCk)).getD k 0)=true:=fun h=>by rw [hLh];exact hm2 (hLa ▸ h)
   unfold sI at hS
   have g1:0≤(c.places.getD ((bI (c.txs.getD i aCk)).getD (k:Int).toNat 0).toNat aCi).machines.getD (j:Int).toNat 0∧(c.places.getD ((bI (c.txs.getD i aCk)).getD (k:Int).toNat 0).toNat aCi).machines.getD (j:Int).toNat 0<(ns.length:Int):=hm3
   have g2:0≤(bI (c.txs.getD i aCk)).getD (k:Int).toNat 0∧(bI (c.txs.getD i aCk)).getD (k:Int).toNat 0<(c.places.length:Int):=hr
   have g3:(j:Int)<((c.places.getD ((bI (c.txs.getD i aCk)).getD (k:Int).toNat 0).toNat aCi).machines.length:Int):=e2
   refine aF ?_
   refine aW [] [0,1,2,3,4,5,6,7,8,9] fun B0 H0=>?_
   refine aP ?_
   generalize hmm:(ns.getD ((cR c ((bI (c.txs.getD i aCk)).getD k 0)).getD j 0).toNat aCj)=m at hM hh hS
   refine bX (b := !m.alive) (by subst hmm;rfl) (fun e2=>?_) (fun e2=>?_)
   ·have ha:m.alive=false:=by simpa using e2
    have hS:uC c d (c.txs.getD i aCk) k (j+1)=ns.set ((cR c ((bI (c.txs.getD i aCk)).getD k 0)).getD j 0).toNat (y6 d (c.txs.getD i aCk) ((bI (c.txs.getD i aCk)).getD k 0) m):=hS
    rw [LI ha, ← hmm,set_self (z:=aCj) (by omega)] at hS
    refine aF ?_
    exact bN (j+1) hj (by omega) wF ⟨⟨_,rfl,bP hS.symm⟩,wM⟩
   have ha:m.alive=true:=by simpa using e2
   have hhas:=hh ha
   have bl:m.log.length≤200:=hM.1.2.1
   have bc:m.cleared.length≤60:=hM.1.2.2
   have bk:m.copies.length≤6:=hM.1.1
   have hrs:=(oU.1 hM.2.1).2
   have hcb:=(fH hM hhas).2
   have hS:uC c d (c.txs.getD i aCk) k (j+1)=ns.set ((cR c ((bI (c.txs.getD i aCk)).getD k 0)).getD j 0).toNat (y6 d (c.txs.getD i aCk) ((bI (c.txs.getD i aCk)).getD k 0) m):=hS
   rw [SI ha hhas] at hS
   have hix2:0≤eM m ((bI (c.txs.getD i aCk)).getD k 0)∧eM m ((bI (c.txs.getD i aCk)).getD k 0)<m.copies.length:=p7 hhas
   refine bB (d6 902 ((cR c ((bI (c.txs.getD i aCk)).getD k 0)).getD j 0) 60 rfl rfl rfl rfl rfl rfl hm3) ?_
   rw [hmm]
   refine bB (kL 13 rfl rfl rfl) ?_
   refine bB (a6 60 1 61) ?_
   refine bB (a6 60 2 62) ?_
   refine bB (a6 60 3 63) ?_
   have g4:0≤cI (atB ((bI (c.txs.getD i aCk)).getD (k:Int).toNat 0)) m.copies∧cI (atB ((bI (c.txs.getD i aCk)).getD (k:Int).toNat 0)) m.copies<(m.copies.length:Int):=hix2
   refine aF ?_
   refine aW [] [0,1,2,3,4,5,6,7,8,9,10,11,12,13,14,15] fun B0 H0=>?_
   refine fU 11 (wT m (by omega) _) rfl rfl rfl (aCu _) rfl ?_
   refine UC ?_
   refine rT TT_ok 12 rfl rfl rfl rfl ?_
   refine rT TT_ok 13 rfl rfl rfl rfl ?_
   refine qN (d6 61 (eM m ((bI (c.txs.getD i aCk)).getD k 0)) 64 rfl rfl rfl rfl rfl rfl hix2) ?_
   refine qN (a6 64 1 65) ?_
   refine qN (kL 121 rfl rfl rfl) ?_
   refine rT TT_ok 14 rfl rfl rfl rfl ?_
   refine rT TT_ok 15 rfl rfl rfl rfl ?_
   refine KL TT_ok rfl ?_
   have hcel:cellsOf m ((bI (c.txs.getD i aCk)).getD k 0)=(m.copies.getD (eM m ((bI (c.txs.getD i aCk)).getD k 0)).toNat aCp).cells:=eW hhas
   rw [← hcel]
   refine a7 (ι:=Unit) (fun _=>[]) (fun _=>[(65,bE 2 cX aCo (t6 d (c.txs.getD i aCk) ((bI (c.txs.getD i aCk)).getD k 0) m))]) (fun _=>True) [65] [] ?_ ?_
   ·refine aA (b:=d) (fun e3=>?_) (fun e3=>?_)
    ·refine aF ?_
     refine cO TT_ok (aCv 900 65 (AJ (cellsOf m ((bI (c.txs.getD i aCk)).getD k 0)) (bY ((bI (c.txs.getD i aCk)).getD k 0) (c.txs.getD i aCk).sets) (by omega) hcb s1)) rfl rfl (aCu _) (fun _=>rfl) rfl rfl rfl fun _ _=>?_
     refine aN ?_
     exact bN () trivial Nat.zero_lt_one wF ⟨⟨_,rfl,bP (by unfold t6;rw [e3];rfl)⟩,wM⟩
    ·refine aF ?_
     refine aW [] [0,1,2,3,4,5,6,7,8,9,10,11,12,13] fun B0 H0=>?_
     refine iH 11 (aCv 903 63 (aCv 902 62 (aCv 901 61 (HV m.alive m.log (by omega) (c.txs.getD i aCk).id ((bI (c.txs.getD i aCk)).getD k 0) 1)))) rfl rfl rfl (aCu _) (fun _=>rfl) rfl rfl rfl fun _ _=>?_
     refine aY [12,13] ?_
     refine aP ?_
     refine aI (fun e4=>?_) (fun e4=>?_)
     ·refine aF ?_
      refine cO TT_ok (aCv 900 65 (I3 (cellsOf m ((bI (c.txs.getD i aCk)).getD k 0)) (bY ((bI (c.txs.getD i aCk)).getD k 0) (c.txs.getD i aCk).sets) (by omega) hcb s1)) rfl rfl (aCu _) (fun _=>rfl) rfl rfl rfl fun _ _=>?_
      refine aN ?_
      exact bN () trivial Nat.zero_lt_one wF ⟨⟨_,rfl,bP (by unfold t6;rw [e3,cond_false,if_pos (show 0≤oD m (c.txs.getD i aCk).id ((bI (c.txs.getD i aCk)).getD k 0) 1 from e4)])⟩,wM⟩
     ·refine aF ?_
      exact bN () trivial Nat.zero_lt_one wF ⟨⟨_,rfl,bP (by unfold t6;rw [e3,cond_false,if_neg (show ¬ 0≤oD m (c.txs.getD i aCk).id ((bI (c.txs.getD i aCk)).getD k 0) 1 from e4)])⟩,wM⟩
   rintro ⟨⟩ _
   refine aZ ?_
   refine aW [60,62,63] [0,1,2,3,4,5,6,7,8,9] fun B0 H0=>?_
   refine iH 9 (aCv 905 67 (aCv 904 66 (aCv 903 63 (aCv 902 62 (aCv 901 61 (aCv 900 60 (zU m (by omega) (by omega) hrs (c.txs.getD i aCk).id ((bI (c.txs.getD i aCk)).getD k 0) false))))))) rfl rfl rfl (aCu _) (fun _=>rfl) rfl rfl rfl fun _ _=>?_
   refine aP ?_
   refine bC (a9 64 1 65) ?_
   refine bC (a8 61 64) ?_
   refine bC (t5 61 rfl (cG (y:=(oR m ((bI (c.txs.getD i aCk)).getD k 0) (t6 d (c.txs.getD i aCk) ((bI (c.txs.getD i aCk)).getD k 0) m))) (OwnI.refl _)) rfl) ?_
   refine bC (a9 60 1 61) ?_
   refine bC (a9 60 2 66) ?_
   refine bC (a9 60 3 67) ?_
   refine bC (a8 902 60) ?_
   exact bN (j+1) hj (by omega) wF ⟨⟨_,rfl,Ch.imp_trans (cG (y:=iP (cL m ((bI (c.txs.getD i aCk)).getD k 0) (t6 d (c.txs.getD i aCk) ((bI (c.txs.getD i aCk)).getD k 0) m)) (c.txs.getD i aCk).id ((bI (c.txs.getD i aCk)).getD k 0) false) (OwnI.refl _)) (bP hS.symm)⟩,wM⟩
  have e2:¬ (j:Int)<((cR c ((bI (c.txs.getD i aCk)).getD k 0)).length:Int):=e2
  have hj:j=(cR c ((bI (c.txs.getD i aCk)).getD k 0)).length:=by omega
  subst hj
  refine aF ?_
  exact bN (k+1) hk (by omega) wF ⟨⟨_,rfl,bP (aAh c d (c.txs.getD i aCk) k).symm⟩,wM⟩
 have hk:k=(bI (c.txs.getD i aCk)).length:=by omega
 subst hk
 refine bB (d6 903 (i:Int) 77 rfl rfl rfl rfl rfl rfl ⟨by omega,by omega⟩) ?_
 refine bB (kL 4 rfl rfl rfl) ?_
 refine aF ?_
 refine aA (b:=d) (fun e3=>?_) (fun e3=>?_)
 ·subst e3
  refine IE TT_ok rfl ?_
  refine bC (a8 903 77) ?_
  refine l5 TT_ok () [] rfl rfl ?_ ?_ ?_
  ·exact aCu _
  ·exact ⟨⟨_,rfl,aCt _⟩,⟨_,rfl,cG (y:=y9 true (c.txs.getD i aCk)) (OwnI.refl _)⟩,trivial⟩
  ·trivial
 ·subst e3
  refine bB (a8 903 77) ?_
  refine DK ?_
  refine l5 TT_ok () [] rfl rfl ?_ ?_ ?_
  ·exact aCu _
  ·exact ⟨⟨_,rfl,aCt _⟩,⟨_,rfl,cG (y:=y9 false (c.txs.getD i aCk)) (OwnI.refl _)⟩,trivial⟩
  ·trivial
end
section
section
variable {P:Program}
theorem Con.liftH {ι:Type} {f sz n k k3 ko sz3 n3:Nat} {g f3:Nat→List D} {xD:List D} {xr:Value→List Value} {ks:List Nat} {args:List SV} {args':(Nat→List Value)→Value→List SV} {rest:Mu} {rest':ι→Mu} {φ:ι→Prop} {res:ι→List SV} {m:ι→Nat} {ρ:ι→Nat→Option Nat} (hk:k≠k3)
  (hro:∀ j c,mlk j rest=some c→c.own? = true∧j≠k∧j≠k3) (hro':∀ y j c,mlk j (rest' y)=some c→c.own? = true∧j≠ko)
  (hgo:∀ i,i<n→tO (g i)=true) (hx:∀ (h:PH) v,D.own h (.sl sz3 n3 f3) v→D.owns h xD (xr v))
  (hσ:∀ y,φ y→∀ j,j<m y→∀ i,ρ y j=some i→i<n) (hin:∀ y,φ y→∀ i j,i<m y→j<m y→i≠j→ρ y i≠ρ y j)
  (hA:∀ (B:BE) (r r':PH) (H H':Nat→PH) (vals:List Value) (row:Nat→List Value),r.le r'→(∀ i,i<n→D.rds r' (g i) (row i))→D.rd r' (.sl sz3 n3 f3) (B k3)→SV.rels P B (Zf r H) args vals→SV.rels P B (Zf r' H') (args' row (B k3)) vals)
  (hR:∀ y (B:BE) (r r':PH) (H H':Nat→PH) (out:List Value),SV.rels P B (Zf r H) (res y) out→SV.rels P B (Zf r' H') (res y) out)
  (hrest:∀ y (B:BE) (r r' h:PH) j c,mlk j (rest' y)=some c→c.sat B r' h j→c.sat B r h j)
  (C:∀ (row:Nat→List Value) (sv:Value),(∀ i,i<n→(row i).length=sz)→(∀ i,i<n→∀ u ∈ row i,eQ u=true)→(∃ A c,sv = .slice A n3 c)→(∀ i,i<n→∃ h,D.rds h (g i) (row i))→Con P f ks (args' row sv) ((k, .arr sz n fun i=>(row i).map D.v) :: rest) φ res fun y=>(ko, .arr sz (m y) fun j=>(FE row (xr sv) (ρ y j)).map D.v) :: rest' y) :
  Con P f ks args ((k, .arr sz n g) :: (k3, .arr sz3 n3 f3) :: rest) φ res fun y=>(ko, .arr sz (m y) fun j=>FE g xD (ρ y j)) :: rest' y:=fun B r w H vals mm hemp hargs=>by
 have s1:D.own (H k) (.sl sz n g) (B k):=mm.sat k (.arr sz n g) (by rw [bV,if_pos rfl])
 have s3:D.own (H k3) (.sl sz3 n3 f3) (B k3):=mm.sat k3 (.arr sz3 n3 f3) (by rw [bV,if_neg hk,bV,if_pos rfl])
 obtain ⟨A,c,row,hc,hp,G,e1,e2,va,lc,lp,dcp,ho,hG,hd⟩:=lV s1
 have d13:(H k).dj (H k3):=mm.dj _ _ hk
 have dpp:hp.dj (H k3):=PH.dj_le d13 lp (PH.le_refl _)
 have drp1:r.dj hp:=PH.dj_symm (PH.dj_le (mm.djr k) lp (PH.le_refl _))
 have drp:r.dj (hp.un (H k3)):=PH.dj_un drp1 (PH.dj_symm (mm.djr k3))
 have ro:=PH.le_un_left r (hp.un (H k3))
 have rp:=PH.le_un_right drp
 have pl1:=PH.le_un_left hp (H k3)
 have pl2:=PH.le_un_right dpp
 let H1:Nat→PH:=fun j=>if j=k then hc else if j=k3 then PH.emp else H j
 have hk1:H1 k=hc:=by simp [H1]
 have hk3:H1 k3=PH.emp:=by simp [H1,Ne.symm hk]
 have hne:∀ j,j≠k→j≠k3→H1 j=H j:=fun j hj hj2=>by simp [H1,hj,hj2]
 have hle:∀ j,(H1 j).le (H j):=fun j=>by
  by_cases h:j=k
  ·subst h;rw [hk1];exact lc
  ·by_cases h2:j=k3
   ·subst h2;rw [hk3];exact PH.emp_le _
   ·rw [hne j h h2];exact PH.le_refl _
 have hdj:∀ j,(H1 j).dj (hp.un (H k3)):=fun j=>by
  refine PH.dj_un ?_ ?_
  ·by_cases h:j=k
   ·subst h;rw [hk1];exact dcp
   ·exact PH.dj_le (mm.dj j k h) (hle j) lp
  ·by_cases h:j=k3
   ·subst h;rw [hk3];exact PH.emp_dj _
   ·exact PH.dj_le (mm.dj j k3 h) (hle j) (PH.le_refl _)
 have satup:∀ (c:Ch) (h:PH) j,c.own? = true→c.sat B r h j→c.sat B (r.un (hp.un (H k3))) h j:=fun c h j hc hs=>by
  cases c with
  | row l=>obtain ⟨b,o,vs,h',a1,a2,a3⟩:=hs;exact ⟨b,o,vs,h',a1,V.owns_mono ro (PH.le_refl _) a2,a3⟩
  | arr=>exact hs
  | hole=>exact hs
  | ro=>cases hc
  | rrow=>cases hc
  | rd=>exact hs
  | rw=>exact hs
 have mm1:Mm B (r.un (hp.un (H k3))) ((k, .arr sz n fun i=>(row i).map D.v) :: rest) w H1:=by
  refine ⟨fun j d e=>?_,fun j=>(mm.fit j).le (hle j),fun i j hij=>PH.dj_le (mm.dj i j hij) (hle i) (hle j),fun j=>PH.dj_un (PH.dj_le (mm.djr j) (hle j) (PH.le_refl _)) (hdj j),Fit.un mm.fitr (Fit.un ((mm.fit k).fit.le lp) (mm.fit k3).fit)⟩
  rw [bV] at e
  by_cases hj:k=j
  ·subst hj
   rw [if_pos rfl] at e;injection e with e;subst e
   rw [hk1]
   show D.own hc _ (B k)
   rw [e1]
   exact lX (hp:=PH.emp) (G:=fun _=>PH.emp) va e2 (PH.le_refl _) (PH.emp_le _) (PH.dj_emp _) (fun i _=>jL) (fun _ _=>PH.le_refl _) fun _ _ _ _ _=>PH.emp_dj _
  ·rw [if_neg hj] at e
   obtain ⟨q1,q2,q3⟩:=hro j d e
   rw [hne j q2 q3]
   exact satup d _ j q1 (mm.sat j d (by rw [bV,if_neg hj,bV,if_neg (Ne.symm q3)];exact e))
 have keys:∀ {l:Mu} j,bF j (bU l)=true→∃ c,(j,c) ∈ l∧c.own? = true:=fun {l} j=>by
  induction l with
  | nil=>intro h;cases h
  | cons x r ih =>
   obtain ⟨i,c⟩:=x
   intro h
   simp only [bU] at h
   cases hc:c.own? with
   | false=>rw [hc] at h;obtain ⟨d,d1,d2⟩:=ih h;exact ⟨d,List.mem_cons_of_mem _ d1,d2⟩
   | true =>
    rw [hc] at h
    simp only [cond_true] at h
    rcases (fN j i _).1 h with e | e
    ·subst e;exact ⟨c,List.mem_cons_self,hc⟩
    ·obtain ⟨d,d1,d2⟩:=ih e;exact ⟨d,List.mem_cons_of_mem _ d1,d2⟩
 have up:∀ b o,kM ((k, .arr sz n fun i=>(row i).map D.v) :: rest) H1 b o→kM ((k, .arr sz n g) :: (k3, .arr sz3 n3 f3) :: rest) H b o:=fun b o ⟨j,h1,h2⟩=>by
  obtain ⟨c,c1,c2⟩:=keys j h1
  refine ⟨j,?_,PH.le_ne (hle j) h2⟩
  rcases List.mem_cons.1 c1 with e | e
  ·injection e with e1 e2
   subst e1
   exact jZ List.mem_cons_self rfl
  ·exact jZ (List.mem_cons_of_mem _ (List.mem_cons_of_mem _ e)) c2
 have own0:∀ j b o,j=k∨j=k3→H j b o≠none→kM ((k, .arr sz n g) :: (k3, .arr sz3 n3 f3) :: rest) H b o:=fun j b o hj h=>by
  refine ⟨j,?_,h⟩
  rcases hj with rfl | rfl
  ·exact jZ List.mem_cons_self rfl
  ·exact jZ (List.mem_cons_of_mem _ List.mem_cons_self) rfl
 obtain ⟨A3,c3,hv3,_⟩:=(show ∃ A c,B k3 = .slice A n3 c∧_ from s3)
 refine (C row (B k3) (fun i hi=>(ho i hi).2) (fun i hi=>sL (ho i hi).1 (o9 (hgo i hi))) ⟨A3,c3,hv3⟩ (fun i hi=>⟨_,D.owns_rds _ (ho i hi).1⟩) B _ w H1 vals mm1 (fun j hj=>?_)
  (hA B r _ H H1 vals row ro (fun i hi=>D.rds_mono (PH.le_trans (PH.le_trans (hG i) pl1) rp) _ (D.owns_rds _ (ho i hi).1)) (D.rd_mono (PH.le_trans pl2 rp) _ (D.own_rd _ s3)) hargs)).mono ?_
 ·by_cases h:j=k
  ·subst h;rw [jZ (c := .arr sz n fun i=>(row i).map D.v) List.mem_cons_self rfl] at hj;cases hj
  ·by_cases h2:j=k3
   ·subst h2;exact hk3
   ·rw [hne j h h2]
    refine hemp j ?_
    cases e:bF j (bU ((k, .arr sz n g) :: (k3, .arr sz3 n3 f3) :: rest)) with
    | false=>rfl
    | true =>
     obtain ⟨c,q1,q2⟩:=keys j e
     rcases List.mem_cons.1 q1 with e | e
     ·injection e with e1 e2;exact absurd e1 h
     ·rcases List.mem_cons.1 e with e | e
      ·injection e with e1 e2;exact absurd e1 h2
      ·rw [jZ (List.mem_cons_of_mem _ e) q2] at hj;cases hj
 rintro e w' ⟨y,B',H',out,hy,he,hres,mm2,hB,hkeep,hdom⟩
 have s2:D.own (H' ko) (.sl sz (m y) fun j=>(FE row (xr (B k3)) (ρ y j)).map D.v) (B' ko):=mm2.sat ko (.arr sz (m y) fun j=>(FE row (xr (B k3)) (ρ y j)).map D.v) (by rw [bV,if_pos rfl])
 obtain ⟨A2,c2,lO,hc2,hp2,G2,f1,f2,va2,lc2,lp2,dcp2,ho2,hG2,hd2⟩:=lV s2
 have heq:∀ j,j<m y→lO j=FE row (xr (B k3)) (ρ y j):=fun j hj=>zH (ho2 j hj).1
 have dk:∀ j,(H' j).dj (hp.un (H k3)):=fun j=>PH.dj_le (mm2.djr j) (PH.le_refl _) rp
 let H3:Nat→PH:=fun j=>if j=ko then (H' ko).un (hp.un (H k3)) else H' j
 have h3:H3 ko=(H' ko).un (hp.un (H k3)):=by simp [H3]
 have h3n:∀ j,j≠ko→H3 j=H' j:=fun j hj=>by simp [H3,hj]
 have fitp:FitO (hp.un (H k3)) w':=(((mm.fit k).le lp).un (mm.fit k3)).keep hkeep fun b o h ⟨j,_,h2⟩=>by
  rcases hdj j b o with h4 | h4
  ·exact h2 h4
  ·exact h h4
 refine ⟨y,B',H3,out,hy,he,hR y B' _ _ H' H3 out hres,⟨fun j d e=>?_,fun j=>?_,fun i j hij=>?_,fun j=>?_,mm2.fitr.le ro⟩,hB,hkeep.mono fun b _ o h=>up b o h,fun j b o h=>?_⟩
 ·rw [bV] at e
  by_cases hj:ko=j
  ·subst hj
   rw [if_pos rfl] at e;injection e with e;subst e
   rw [h3]
   show D.own _ _ (B' ko)
   rw [f1]
   refine lX (hc:=hc2) (hp:=hp.un (H k3)) (G:=fun j=>FE G (H k3) (ρ y j)) (row:=lO) va2 f2 (PH.le_trans lc2 (PH.le_un_left _ _)) (PH.le_un_right (dk ko)) (PH.dj_le (dk ko) lc2 (PH.le_refl _)) (fun j hj=>?_) (fun j _=>?_) fun i j hi hj hij=>?_
   ·rw [heq j hj]
    have h4:=hσ y hy j hj
    generalize ρ y j=x at h4
    cases x with
    | some a=>exact (ho a (h4 a rfl)).1
    | none=>exact hx _ _ s3
   ·generalize ρ y j=x
    cases x with
    | some a=>exact PH.le_trans (hG a) pl1
    | none=>exact pl2
   ·have h4:=hin y hy i j hi hj hij
    generalize ρ y i=x at h4
    generalize ρ y j=z at h4
    cases x with
    | some a =>
     cases z with
     | some a2=>exact hd a a2 fun e=>h4 (by rw [e])
     | none=>exact PH.dj_le dpp (hG a) (PH.le_refl _)
    | none =>
     cases z with
     | some a2=>exact PH.dj_symm (PH.dj_le dpp (hG a2) (PH.le_refl _))
     | none=>exact absurd rfl h4
  ·rw [if_neg hj] at e
   rw [h3n j (Ne.symm hj)]
   exact hrest y B' r _ _ j d e (mm2.sat j d (by rw [bV,if_neg hj];exact e))
 ·by_cases hj:j=ko
  ·subst hj;rw [h3];exact (mm2.fit j).un fitp
  ·rw [h3n j hj];exact mm2.fit j
 ·by_cases hi:i=ko
  ·subst hi
   rw [h3,h3n j (Ne.symm hij)]
   exact PH.un_dj (mm2.dj i j hij) (PH.dj_symm (dk j))
  ·by_cases hj:j=ko
   ·subst hj
    rw [h3,h3n i hi]
    exact PH.dj_un (mm2.dj i j hij) (dk i)
   ·rw [h3n i hi,h3n j hj];exact mm2.dj i j hij
 ·by_cases hj:j=ko
  ·subst hj;rw [h3];exact PH.un_dj (PH.dj_le (mm2.djr j) (PH.le_refl _) ro) (PH.dj_symm drp)
  ·rw [h3n j hj];exact PH.dj_le (mm2.djr j) (PH.le_refl _) ro
 ·by_cases hj:j=ko
  ·subst hj
   rw [h3] at h
   rcases PH.un_ne h with h1 | h1
   ·rcases hdom j b o h1 with h2 | h2
    ·exact .inl (up b o h2)
    ·exact .inr h2
   ·rcases PH.un_ne h1 with h2 | h2
    ·exact .inl (own0 k b o (.inl rfl) (PH.le_ne lp h2))
    ·exact .inl (own0 k3 b o (.inr rfl) h2)
  ·rw [h3n j hj] at h
   rcases hdom j b o h with h2 | h2
   ·exact .inl (up b o h2)
   ·exact .inr h2
end
end
section
theorem lY {sz n:Nat} {f:Nat→List D}:(Ch.arr sz n f).imp (.rd sz n f):=fun _ _ _ _ s=>D.own_rd (.sl sz n f) s
section
variable {E:Env} {mu mu' md:Mu} {fr fr0:Fr} {R:Exit→Act→World→Prop} {K:List KF} {c:Code} {x:Nx}
theorem aBy (k k2:Nat) {sz n:Nat} {g:Nat→List D} (hk:mlk k mu=some (.arr sz n g)) (hne:(k2 == k)=false) (h2:jO k2 fr [] mu E.A.ks=true) (hno:mlk k2 mu=none) (hcut:iJ (V.usesT k) fr=some fr0)
  {mu1:(Nat→List D)→Mu} (hmu:∀ f,jF k (.arr sz n f) mu=some (mu1 f))
  (h:∀ row:Nat→List Value,(∀ i,i<n→(row i).length=sz∧∃ hp,D.rds hp (g i) (row i))→T E R c fr0 ((k2, .rw fun hp => ∀ i,i<n→D.rds hp (g i) (row i)) :: mu1 fun i=>(row i).map D.v) K):T E R c fr mu K:=fun B a w H f m=>by
 have s1:D.own (H k) (.sl sz n g) (B k):=m.mm.sat k _ hk
 obtain ⟨A,cc,row,hc,hp,G,e1,e2,va,lc,lp,dcp,ho,hG,hd⟩:=lV s1
 have hne:k2≠k:=by simpa using hne
 have hm1:=hmu fun i=>(row i).map D.v
 obtain ⟨u1,u2,u3,u4⟩:=kK h2
 let H1:Nat→PH:=fun j=>if j=k2 then hp else if j=k then hc else H j
 have k1:H1 k=hc:=by simp [H1,Ne.symm hne]
 have k22:H1 k2=hp:=by simp [H1]
 have kn:∀ j,j≠k2→j≠k→H1 j=H j:=fun j a b=>by simp [H1,a,b]
 have eH:H1=HF.set (HF.set H k hc) k2 hp:=by
  funext j
  by_cases a:j=k2
  ·subst a;rw [HF.set_eq];exact k22
  ·rw [HF.set_ne _ _ a]
   by_cases b:j=k
   ·subst b;rw [HF.set_eq];exact k1
   ·rw [HF.set_ne _ _ b];exact kn j a b
 have f1:=FitsE.anew f (k:=k) hc hcut (by rfl:iY (V.usesT k) [] = some [])
 have cutU:∀ {φ ψ:V→Bool} {l m:Fr},iJ φ l=some m→(ψ .any=false)→g9 ψ l=false→g9 ψ m=false:=fun {φ ψ}=>by
  intro l
  induction l with
  | nil=>intro m h1 _ _;injection h1 with h1;subst h1;rfl
  | cons y r ih =>
   obtain ⟨t,y⟩:=y
   intro m h1 ha h2
   simp only [iJ] at h1
   simp only [g9] at h2
   cases c1:SV.anyV ψ y with
   | true=>rw [c1] at h2;cases h2
   | false =>
    rw [c1] at h2
    cases c2:iJ φ r with
    | none=>rw [c2] at h1;cases h1
    | some l' =>
     rw [c2] at h1
     have:=ih c2 ha h2
     cases c3:SV.anyV φ y with
     | true =>
      rw [c3] at h1;simp at h1;subst h1
      simp only [g9]
      rw [show SV.anyV ψ (.a .any)=false from ha];exact this
     | false =>
      rw [c3] at h1;simp at h1;subst h1
      simp only [g9,c1];exact this
 have f2:=FitsE.new f1 (k:=k2) (B k2) hp (cutU hcut rfl u1) rfl
 rw [← eH,BE.set_self] at f2
 have eB:BE.set B k2 (B k2)=B:=BE.set_self B k2
 rw [eB] at f2
 refine h row (fun i hi=>⟨(ho i hi).2,_,D.owns_rds _ (ho i hi).1⟩) B a w H1 f2 ⟨⟨fun j d e=>?_,fun j=>?_,fun i j hij=>?_,fun j=>?_,m.mm.fitr⟩,m.keep,fun j b o hb=>?_,m.anch⟩
 ·rw [bV] at e
  by_cases hj:k2=j
  ·subst hj
   rw [if_pos rfl] at e;injection e with e;subst e
   rw [k22]
   exact fun i hi=>D.rds_mono (hG i) _ (D.owns_rds _ (ho i hi).1)
  ·rw [if_neg hj] at e
   rw [m9 hm1 j] at e
   by_cases hj2:j=k
   ·subst hj2
    rw [if_pos rfl] at e;injection e with e;subst e
    rw [k1]
    show D.own hc _ (B j)
    rw [e1]
    exact lX (hp:=PH.emp) (G:=fun _=>PH.emp) va e2 (PH.le_refl _) (PH.emp_le _) (PH.dj_emp _) (fun i _=>jL) (fun _ _=>PH.le_refl _) fun _ _ _ _ _=>PH.emp_dj _
   ·rw [if_neg hj2] at e
    rw [kn j (Ne.symm hj) hj2]
    exact m.mm.sat j d e
 ·by_cases a:j=k2
  ·subst a;rw [k22];exact (m.mm.fit k).le lp
  ·by_cases b:j=k
   ·subst b;rw [k1];exact (m.mm.fit j).le lc
   ·rw [kn j a b];exact m.mm.fit j
 ·have key:∀ i j,i≠j→i=k2→(H1 i).dj (H1 j):=fun i j hij a=>by
   subst a;rw [k22]
   by_cases b:j=k
   ·subst b;rw [k1];exact PH.dj_symm dcp
   ·rw [kn j (Ne.symm hij) b]
    exact PH.dj_le (m.mm.dj k j (Ne.symm b)) lp (PH.le_refl _)
  by_cases a:i=k2
  ·exact key i j hij a
  ·by_cases a2:j=k2
   ·exact PH.dj_symm (key j i (Ne.symm hij) a2)
   ·by_cases b:i=k
    ·subst b;rw [k1,kn j a2 (Ne.symm hij)];exact PH.dj_le (m.mm.dj i j hij) lc (PH.le_refl _)
    ·rw [kn i a b]
     by_cases b2:j=k
     ·subst b2;rw [k1];exact PH.dj_le (m.mm.dj i j hij) (PH.le_refl _) lc
     ·rw [kn j a2 b2];exact m.mm.dj i j hij
 ·by_cases a:j=k2
  ·subst a;rw [k22];exact PH.dj_le (m.mm.djr k) lp (PH.le_refl _)
  ·by_cases b:j=k
   ·subst b;rw [k1];exact PH.dj_le (m.mm.djr j) lc (PH.le_refl _)
   ·rw [kn j a b];exact m.mm.djr j
 ·by_cases a:j=k2
  ·subst a;rw [k22] at hb;exact m.dom k b o (PH.le_ne lp hb)
  ·by_cases b':j=k
   ·subst b';rw [k1] at hb;exact m.dom j b o (PH.le_ne lc hb)
   ·rw [kn j a b'] at hb;exact m.dom j b o hb
theorem aA7 (k k2:Nat) {sz n:Nat} {g f:Nat→List D} {rows:Nat→List Value} {P:PH→Prop} {gf:GF} (hk:mlk k mu=some (.arr sz n g)) (hP:mlk k2 mu=some (.rw P)) (hne:(k2 == k)=false)
  (hrow:∀ i,i<n→g i=(rows i).map D.v) (hf:∀ hp,P hp→∀ i,i<n→D.rds hp (f i) (rows i)) (hd:pT k2 mu=some md) (hmu:jF k (.rd sz n f) md=some mu')
  (h2:g9 (V.uses k2) fr=false) (hg:gU (V.uses k2) gf=false) (hm:o6 (V.uses k2) k2 mu=false):kO E fr gf mu fr gf mu':=fun B w H a ff m=>by
 have s1:D.own (H k) (.sl sz n g) (B k):=m.mm.sat k _ hk
 have s2:P (H k2):=m.mm.sat k2 _ hP
 have hne:k2≠k:=by simpa using hne
 have djk:(H k).dj (H k2):=m.mm.dj _ _ (Ne.symm hne)
 have l1:(H k).le ((H k).un (H k2)):=PH.le_un_left _ _
 have l2:(H k2).le ((H k).un (H k2)):=PH.le_un_right djk
 let H1:Nat→PH:=HF.set (HF.set H k2 PH.emp) k ((H k).un (H k2))
 have k1:H1 k=(H k).un (H k2):=HF.set_eq _ _ _
 have k22:H1 k2=PH.emp:=by show HF.set _ k _ k2=_;rw [HF.set_ne _ _ hne,HF.set_eq]
 have kn:∀ j,j≠k2→j≠k→H1 j=H j:=fun j a b=>by show HF.set _ k _ j=_;rw [HF.set_ne _ _ b,HF.set_ne _ _ a]
 have f1:=FitsE.new ff (k:=k2) (B k2) PH.emp h2 hg
 rw [BE.set_self] at f1
 have f2:FitsE E B H1 fr gf a:=by
  have hz:∀ q,(Zf E.r (HF.set H k2 PH.emp) q).le (Zf E.r H1 q):=AQ (PH.le_refl _) fun j=>by
   by_cases b:j=k
   ·subst b;rw [k1,HF.set_ne _ _ (Ne.symm hne)];exact l1
   ·show PH.le _ (HF.set _ k _ j);rw [HF.set_ne _ _ b];exact PH.le_refl _
  exact ⟨f1.size,f1.defers,fun t x e1 e2=>SV.rel_mono hz x (f1.vfr t x e1 e2),fun t d w x e1 e2=>SV.rel_mono hz x (f1.vgf t d w x e1 e2),f1.vgu,f1.vno⟩
 refine ⟨B,H1,f2,⟨⟨fun j d e=>?_,fun j=>?_,fun i j hij=>?_,fun j=>?_,m.mm.fitr⟩,m.keep,fun j b o hb=>?_,m.anch⟩⟩
 ·rw [m9 hmu j] at e
  by_cases hj:j=k
  ·subst hj
   rw [if_pos rfl] at e;injection e with e;subst e
   rw [k1]
   show D.rd _ (.sl sz n f) (B j)
   obtain ⟨A,cc,e1,e2,e3,e4⟩:=D.own_rd (.sl sz n g) s1
   refine ⟨A,cc,e1,e2,e3,e4.imp id fun ⟨b,o,e5,e6⟩=>⟨b,o,e5,fun i hi=>?_⟩⟩
   obtain ⟨r0,r1,r2,r3⟩:=e6 i hi
   have hr:r0=rows i:=by
    rw [hrow i hi] at r1
    have:∀ (l:List Value) (y:List Value),D.rds (H j) (l.map D.v) y→y=l:=fun l=>by
     induction l with
     | nil=>intro y h;exact h
     | cons v t ih =>
      intro y h
      obtain ⟨a1,t1,h1,h2,h3⟩:=h
      rw [h1,ih t1 h3,show a1=v from h2]
    exact this _ _ r1
   subst hr
   exact ⟨_,D.rds_mono l2 _ (hf _ s2 i hi),r2,fun x hx=>k7 l1 r2 hx (r3 x hx)⟩
  ·rw [if_neg hj] at e
   have hs:=uD hd j
   by_cases hj2:j=k2
   ·rw [if_pos hj2] at hs;rw [hs] at e;cases e
   ·rw [if_neg hj2] at hs;rw [hs] at e
    rw [kn j hj2 hj]
    exact m.mm.sat j d e
 ·by_cases b:j=k
  ·subst b;rw [k1];exact (m.mm.fit j).un (m.mm.fit k2)
  ·by_cases a:j=k2
   ·subst a;rw [k22];exact FitO.emp w
   ·rw [kn j a b];exact m.mm.fit j
 ·have key:∀ i j,i≠j→i=k→(H1 i).dj (H1 j):=fun i j hij a=>by
   subst a;rw [k1]
   by_cases b:j=k2
   ·subst b;rw [k22];exact PH.dj_emp _
   ·rw [kn j b (Ne.symm hij)]
    exact PH.un_dj (m.mm.dj i j hij) (m.mm.dj k2 j (Ne.symm b))
  by_cases a:i=k
  ·exact key i j hij a
  ·by_cases a2:j=k
   ·exact PH.dj_symm (key j i (Ne.symm hij) a2)
   ·by_cases b:i=k2
    ·subst b;rw [k22];exact PH.emp_dj _
    ·rw [kn i b a]
     by_cases b2:j=k2
     ·subst b2;rw [k22];exact PH.dj_emp _
     ·rw [kn j b2 a2];exact m.mm.dj i j hij
 ·by_cases b:j=k
  ·subst b;rw [k1];exact PH.un_dj (m.mm.djr j) (m.mm.djr k2)
  ·by_cases a:j=k2
   ·subst a;rw [k22];exact PH.emp_dj _
   ·rw [kn j a b];exact m.mm.djr j
 ·by_cases b':j=k
  ·subst b';rw [k1] at hb
   rcases PH.un_ne hb with h1 | h1
   ·exact m.dom j b o h1
   ·exact m.dom k2 b o h1
  ·by_cases a:j=k2
   ·subst a;rw [k22] at hb;exact absurd rfl hb
   ·rw [kn j a b'] at hb;exact m.dom j b o hb
end
end
section
theorem qW {P:Nat→Prop} (h0:P 0) (h1:P 1) (h2:P 2) (h3:P 3):∀ i,i<4→P i:=fun i hi=>by
 rcases (by omega:i=0∨i=1∨i=2∨i=3) with e | e | e | e <;>subst e <;>assumption
theorem MM {α:Type} {z:α} (l:List α) (a j:Nat):(l.drop a).getD j z=l.getD (a+j) z:=by simp [List.getD_eq_getElem?_getD,List.getElem?_drop]
theorem n6 {n:Nat} {β:Nat→Int} (hn:n≤1048576) (hβ:eS β) (i h:Int) (h1:0≤i) (h2:i≤n):Con Tryz.prog 199 [700,701] [.a (.p 700 0)] (xB n β i h) (fun y:List GCell×Int×Int=>y.1.length≤6∧0≤y.2.1∧y.2.1≤n) (fun _=>[.a (.g 900)]) fun y=>[(700,dE y.2.1 y.2.2),(900,bE 2 cX aCo y.1)]:=by
 refine aE Tryz.func199 fun B0 r_ D_ w0=>?_
 refine aF ?_
 refine aR (nk:=[700,20]) (aCv 900 20 (QA hn hβ i h h1 h2)) fun y ⟨y1,y2,y3⟩=>?_
 obtain ⟨l,i1,i2⟩:=y
 dsimp only at y1 y2 y3 ⊢
 refine aN ?_
 refine aR (d9 hn hβ i1 i2 y2 y3 12) fun a ⟨a1,a2,a3⟩=>?_
 refine aN ?_
 refine a7 (ι:=List GCell×Int×Int) (fun _=>[(3, .a (.g 20))]) (fun y=>[(20,bE 2 cX aCo y.1),(700,dE y.2.1 y.2.2)]) (fun y=>y.1.length≤6∧0≤y.2.1∧y.2.1≤n) [20,700] [20] ?_ ?_
 ·refine aA (fun _=>?_) (fun _=>?_)
  rotate_left
  ·refine aF ?_
   exact aL (l,a.2.1,a.2.2) ⟨Nat.le_of_eq y1,a2,a3⟩ Nat.zero_lt_one
  refine aF ?_
  refine aR (bR hn hβ a.2.1 a.2.2 a2 a3 6) fun k ⟨k1,k2,k3⟩=>?_
  refine aN ?_
  have hk:0≤k.1∧k.1<l.length:=by omega
  refine aR (bR hn hβ k.2.1 k.2.2 k2 k3 3) fun g ⟨g1,g2,g3⟩=>?_
  refine aN ?_
  refine aA (fun _=>?_) (fun _=>?_)
  ·refine aF ?_
   refine aR (OU hn hβ g.2.1 g.2.2 g2 g3) fun d ⟨d1,d2,d3⟩=>?_
   refine aN ?_
   exact bN (l.set k.1.toNat ⟨d.1,(l.getD k.1.toNat aCo).value⟩,d.2.1,d.2.2) ⟨by simp [y1],d2,d3⟩ Nat.zero_lt_one wF ⟨⟨_,rfl,cG (OwnI.refl _)⟩,wM⟩
  refine aF ?_
  refine aA (fun _=>?_) (fun _=>?_)
  ·refine aF ?_
   refine aM 50 (fun i=>bS (([1000000000,1000000001, -1000000001,5]:List Int).getD i 0)) (qW rfl rfl rfl rfl) (mu1:=[]) ?_
   refine aN ?_
   refine aR (bR hn hβ g.2.1 g.2.2 g2 g3 4) fun z ⟨z1,z2,z3⟩=>?_
   refine aN ?_
   exact bN (l.set k.1.toNat ⟨(l.getD k.1.toNat aCo).head,([1000000000,1000000001, -1000000001,5]:List Int).getD z.1.toNat 0⟩,z.2.1,z.2.2) ⟨by simp [y1],z2,z3⟩ Nat.zero_lt_one wF ⟨⟨_,rfl,cG (OwnI.refl _)⟩,wM⟩
  refine aF ?_
  refine aA (fun _=>?_) (fun _=>?_)
  ·refine aF ?_
   refine bC (FS 3 20 21 rfl rfl rfl ⟨by decide,by omega,Int.le_refl _⟩ rfl rfl rfl) ?_
   refine bC (bL 20 21) ?_
   exact bN (l.drop 1,g.2.1,g.2.2) ⟨by simp [y1],g2,g3⟩ Nat.zero_lt_one wF ⟨⟨_,rfl,Ch.imp_len (by rw [List.length_drop];omega) fun j hj=>by show cX (l.getD (1+j) aCo)=_;rw [show (l.drop 1).getD j aCo=l.getD (1+j) aCo from MM l 1 j]⟩,wM⟩
  ·refine aF ?_
   exact aL (l,g.2.1,g.2.2) ⟨Nat.le_of_eq y1,g2,g3⟩ Nat.zero_lt_one
 rintro ⟨l,i3,i4⟩ ⟨u1,u2,u3⟩
 dsimp only at u1 u2 u3 ⊢
 refine aZ ?_
 refine bB (bL 20 900) ?_
 refine aC ((l,i3,i4)) [(2,none)] ?_ ?_ ?_
 ·exact aCu _
 ·exact wM
 ·exact ⟨u1,u2,u3⟩
def IA (m:GMachine):Prop:=m.copies.length≤5∧(∀ x ∈ m.copies,x.cells.length≤6)∧m.log.length≤201∧(∀ x ∈ m.log,x.sets.length≤7)∧m.cleared.length≤61
theorem Z4 {m:GMachine} (h:IA m):gM m≤2000:=by
 obtain ⟨h1,h2,h3,h4,h5⟩:=h
 have g1:gL I8 m.copies≤6 * m.copies.length:=kZ h2
 have g2:gL AW m.log≤7 * m.log.length:=kZ h4
 unfold gM wL
 omega
abbrev aAw (m:GMachine) (k1 k2 k3:Nat):List V:=[.v (.bool m.alive), .g k1, .g k2, .g k3]
theorem jY {α:Type} {P:α→Prop} {l:List α} {x:α} (h:∀ y ∈ l,P y) (hx:P x):∀ y ∈ l ++ [x],P y:=fun y hy=>by
 rcases List.mem_append.1 hy with hy | hy
 ·exact h y hy
 ·rw [List.mem_singleton.1 hy];exact hx
theorem ZF {n:Nat} {β:Nat→Int} (hn:n≤1048576) (hβ:eS β) (i h:Int) (h1:0≤i) (h2:i≤n):Con Tryz.prog 129 [700,701] [.a (.p 700 0)] (xB n β i h) (fun y:GMachine×Int×Int=>IA y.1∧0≤y.2.1∧y.2.1≤n) (fun y=>[.ag (aAw y.1 901 902 903)]) fun y=>[(700,dE y.2.1 y.2.2),(901,bE 2 dA aCp y.1.copies),(902,bE 4 cK aCq y.1.log),(903,bE 1 bS 0 y.1.cleared)]:=by
 refine aE Tryz.func129 fun B0 r_ D_ w0=>?_
 refine aF ?_
 refine aR (d9 hn hβ i h h1 h2 5) fun al ⟨al1,al2,al3⟩=>?_
 refine aN ?_
 refine bB (a5 3 1 2 (fun i=>dA (([]:List GCopy).getD i aCp))) ?_
 refine bB (a5 3 2 4 (fun i=>cK (([]:List GRecord).getD i aCq))) ?_
 refine bB (a5 3 3 1 (fun i=>bS (([]:List Int).getD i 0))) ?_
 refine bB (a6 3 1 31) ?_
 refine bB (a6 3 2 32) ?_
 refine bB (a6 3 3 33) ?_
 refine cY (ι:=List GCopy×Nat×Int×Int) (fun y=>[(4,vI y.2.1)]) (fun y=>[(3, .row [.v (.bool (!al.1)), .g 31, .g 32, .g 33]),(31,bE 2 dA aCp y.1),(700,dE y.2.2.1 y.2.2.2)]) (fun y=>(y.1.length≤y.2.1∧∀ x ∈ y.1,x.cells.length≤6)∧y.2.1≤4∧0≤y.2.2.1∧y.2.2.1≤n) (fun y=>4 - y.2.1) ([],0,al.2.1,al.2.2) [3,31,700] [31] rfl rfl ⟨⟨Nat.le_refl _,fun _ h=>(by cases h)⟩,Nat.zero_le _,al2,al3⟩ wF wM ?_
 rintro ⟨cs,m,i1,i2⟩ ⟨⟨q1,q2⟩,q3,q4,q5⟩
 dsimp only at q1 q2 q3 q4 q5 ⊢
 refine aF ?_
 refine aI (fun e=>?_) (fun e=>?_)
 ·have hm:m<4:=by omega
  refine aF ?_
  refine aR (d9 hn hβ i1 i2 q4 q5 2) fun a ⟨a1,a2,a3⟩=>?_
  refine aN ?_
  refine aA (fun _=>?_) (fun _=>?_)
  rotate_left
  ·refine aF ?_
   exact aL (cs,m+1,a.2.1,a.2.2) ⟨⟨Nat.le_succ_of_le q1,q2⟩,hm,a2,a3⟩ (by dsimp only;omega)
  refine aF ?_
  refine aW [700,31] [0,1,2,3,4,5,6,7,8,9] fun B0 H0=>?_
  refine aX (nk:=[700,55]) 4 (aCv 900 55 (QA hn hβ a.2.1 a.2.2 a2 a3)) fun y ⟨y1,y2,y3⟩=>?_
  refine aY [5,6,7,8,9] ?_
  refine bG 6 rfl (by kernel_rfl) (dV TT_ok 50 (fun _=>dA ⟨(m:Nat),y.1⟩) rfl rfl rfl rfl rfl rfl rfl (fun j hj=>by rcases j with _ | j <;>first | rfl | omega) (mu1:=[(55, .arr 0 0 fun _=>[])]) rfl rfl rfl (bD ?_))
  refine bG 7 rfl (by kernel_rfl) (dM TT_ok 31 50 51 rfl rfl rfl rfl rfl rfl rfl rfl rfl rfl rfl rfl ⟨by show (cs.length+1) * 32≤_;omega,by unfold maxL;omega⟩ (bD ?_))
  refine aY [8,9] ?_
  refine dR 9 rfl (by kernel_rfl) (by kernel_rfl) (aV (eJ [] fun B0 H0=>?_))
  refine aP ?_
  refine bC (bL 31 51) ?_
  exact bN (cs ++ [⟨(m:Nat),y.1⟩],m+1,y.2.1,y.2.2) ⟨⟨by simp;omega,jY q2 (Nat.le_of_eq y1)⟩,hm,y2,y3⟩ (by dsimp only;omega) wF ⟨⟨_,rfl,aCt _⟩,⟨_,rfl,aS rfl⟩,wM⟩
 have q6:cs.length≤4:=by omega
 refine aF ?_
 refine aR (bR hn hβ i1 i2 q4 q5 6) fun nn ⟨nn1,nn2,nn3⟩=>?_
 refine aN ?_
 refine cY (ι:=List GRecord×Int×Int×Int) (fun y=>[(5,vI y.2.1)]) (fun y=>[(3, .row [.v (.bool (!al.1)), .g 31, .g 32, .g 33]),(32,bE 4 cK aCq y.1),(700,dE y.2.2.1 y.2.2.2)]) (fun y=>((y.1.length:Int)+y.2.1≤5∧∀ x ∈ y.1,x.sets.length≤7)∧0≤y.2.1∧0≤y.2.2.1∧y.2.2.1≤n) (fun y=>y.2.1.toNat) ([],nn.1,nn.2.1,nn.2.2) [3,32,700] [32] rfl rfl ⟨⟨by simp only [List.length_nil];omega,fun _ h=>(by cases h)⟩,by dsimp only;omega,nn2,nn3⟩ wF wM ?_
 rintro ⟨lg,p,i3,i4⟩ ⟨⟨u1,u2⟩,u3,u4,u5⟩
 dsimp only at u1 u2 u3 u4 u5 ⊢
 refine aF ?_
 refine aI (fun e=>?_) (fun e=>?_)
 ·refine aF ?_
  refine aR (nk:=[700,56]) (aCv 901 56 (O7 hn hβ i3 i4 u4 u5)) fun y ⟨y1,y2,y3⟩=>?_
  refine aN ?_
  refine aR (bR hn hβ y.2.1 y.2.2 y2 y3 4) fun a ⟨a1,a2,a3⟩=>?_
  refine aN ?_
  refine l4 TT_ok (zT ⟨y.1.kind,1+a.1,y.1.region,y.1.sets⟩ (by show y.1.sets.length≤_;omega)) rfl rfl rfl rfl rfl ?_
  refine aA (fun _=>?_) (fun _=>?_)
  ·refine aF ?_
   refine cV TT_ok 46 (fun _=>cK ⟨y.1.kind,1+a.1,y.1.region,y.1.sets⟩) rfl rfl rfl rfl rfl rfl rfl (fun j hj=>by rcases j with _ | j <;>first | rfl | omega) (mu1:=[(56, .arr 0 0 fun _=>[])]) rfl rfl rfl ?_
   refine aN ?_
   refine cU TT_ok 32 46 47 rfl rfl rfl rfl rfl rfl rfl rfl rfl rfl rfl rfl ⟨by show (lg.length+1) * 48≤_;omega,by unfold maxL;omega⟩ ?_
   refine aN ?_
   refine bC (bL 32 47) ?_
   exact bN (lg ++ [⟨y.1.kind,1+a.1,y.1.region,y.1.sets⟩],p - 1,a.2.1,a.2.2) ⟨⟨by simp;omega,jY u2 y1⟩,by dsimp only;omega,a2,a3⟩ (by dsimp only;omega) wF ⟨⟨_,rfl,aCt _⟩,⟨_,rfl,aS rfl⟩,wM⟩
  ·refine aF ?_
   exact aL (lg,p - 1,a.2.1,a.2.2) ⟨⟨by dsimp only;omega,u2⟩,by dsimp only;omega,a2,a3⟩ (by dsimp only;omega)
 have u6:lg.length≤5:=by omega
 refine aF ?_
 refine cY (ι:=List Int×Nat×Int×Int) (fun y=>[(7,vI y.2.1)]) (fun y=>[(3, .row [.v (.bool (!al.1)), .g 31, .g 32, .g 33]),(33,bE 1 bS 0 y.1),(700,dE y.2.2.1 y.2.2.2)]) (fun y=>y.1.length≤y.2.1∧(1≤y.2.1∧y.2.1≤6)∧0≤y.2.2.1∧y.2.2.1≤n) (fun y=>6 - y.2.1) ([],1,i3,i4) [3,33,700] [33] rfl rfl ⟨Nat.zero_le _,by dsimp only;omega,u4,u5⟩ wF wM ?_
 rintro ⟨cl,q,i5,i6⟩ ⟨v1,v2,v3,v4⟩
 dsimp only at v1 v2 v3 v4 ⊢
 refine aF ?_
 refine aI (fun e=>?_) (fun e=>?_)
 ·refine aF ?_
  refine aR (d9 hn hβ i5 i6 v3 v4 3) fun a ⟨a1,a2,a3⟩=>?_
  refine aN ?_
  refine aA (fun _=>?_) (fun _=>?_)
  ·refine aF ?_
   refine cV TT_ok 58 (fun _=>bS (q:Nat)) rfl rfl rfl rfl rfl rfl rfl (fun j hj=>by rcases j with _ | j <;>first | rfl | omega) (mu1:=[]) rfl rfl rfl ?_
   refine aN ?_
   refine cU TT_ok 33 58 59 rfl rfl rfl rfl rfl rfl rfl rfl rfl rfl rfl rfl ⟨by show (cl.length+1) * 8≤_;omega,by unfold maxL;omega⟩ ?_
   refine aN ?_
   refine bC (bL 33 59) ?_
   exact bN (cl ++ [(q:Int)],q+1,a.2.1,a.2.2) ⟨by simp;omega,by dsimp only;omega,a2,a3⟩ (by dsimp only;omega) wF ⟨⟨_,rfl,aCt _⟩,⟨_,rfl,aS rfl⟩,wM⟩
  ·refine aF ?_
   exact aL (cl,q+1,a.2.1,a.2.2) ⟨by dsimp only;omega,by dsimp only;omega,a2,a3⟩ (by dsimp only;omega)
 have v5:cl.length≤6:=by omega
 refine aF ?_
 refine aR (d9 hn hβ i5 i6 v3 v4 12) fun a ⟨a1,a2,a3⟩=>?_
 refine aN ?_
 have hs:IA ⟨!al.1,cs,lg,cl⟩:=⟨Nat.le_succ_of_le q6,q2,Nat.le_trans u6 (by decide),u2,Nat.le_trans v5 (by decide)⟩
 refine a7 (ι:=GMachine×Int×Int) (fun _=>[]) (fun y=>[(3, .row (aAw y.1 31 32 33)),(31,bE 2 dA aCp y.1.copies),(32,bE 4 cK aCq y.1.log),(33,bE 1 bS 0 y.1.cleared),(700,dE y.2.1 y.2.2)]) (fun y=>IA y.1∧0≤y.2.1∧y.2.1≤n) [3,31,32,33,700] [31,32,33] ?_ ?_
 ·refine aA (fun _=>?_) (fun _=>?_)
  rotate_left
  ·refine aF ?_
   exact aL (⟨!al.1,cs,lg,cl⟩,a.2.1,a.2.2) ⟨hs,a2,a3⟩ Nat.zero_lt_one
  refine aF ?_
  refine aR (bR hn hβ a.2.1 a.2.2 a2 a3 5) fun g ⟨g1,g2,g3⟩=>?_
  refine aN ?_
  refine aA (fun _=>?_) (fun _=>?_)
  ·refine aF ?_
   refine a7 (ι:=List GCopy×Int×Int) (fun _=>[]) (fun y=>[(3, .row [.v (.bool (!al.1)), .g 31, .g 32, .g 33]),(31,bE 2 dA aCp y.1),(700,dE y.2.1 y.2.2)]) (fun y=>(y.1.length≤5∧∀ x ∈ y.1,x.cells.length≤6)∧0≤y.2.1∧y.2.1≤n) [3,31,700] [31] ?_ ?_
   ·refine aW [700,31] [0,1,3,7,2,4,5,6,8,9,10,11,12,13] fun B0 H0=>?_
    refine eU 2 4 rfl rfl (by kernel_rfl) (dV TT_ok 48 (fun i=>bS (([-1,0,5,6]:List Int).getD i 0)) rfl rfl rfl rfl rfl rfl rfl (qW rfl rfl rfl rfl) (mu1:=[]) rfl rfl rfl (bD ?_)) (gG (nk:=[700]) (bR hn hβ g.2.1 g.2.2 g2 g3 4) rfl rfl (aCu _) (fun _=>rfl) rfl rfl rfl (fun z ⟨z1,z2,z3⟩=>bD ?_))
    ·skip
     refine aX (nk:=[700]) 4 (bR hn hβ g.2.1 g.2.2 g2 g3 4) fun z ⟨z1,z2,z3⟩=>?_
     refine eU 5 8 rfl rfl (by kernel_rfl) (bA (bD ?_)) (gG (nk:=[700,55]) (aCv 900 55 (n6 hn hβ z.2.1 z.2.2 z2 z3)) rfl rfl (aCu _) (fun _=>rfl) rfl rfl rfl (fun y ⟨y1,y2,y3⟩=>bD ?_))
     ·skip
      refine eU 6 8 rfl rfl (by kernel_rfl) (bA (bD ?_)) (gG (nk:=[700,55]) (aCv 900 55 (n6 hn hβ z.2.1 z.2.2 z2 z3)) rfl rfl (aCu _) (fun _=>rfl) rfl rfl rfl (fun y ⟨y1,y2,y3⟩=>bD ?_))
      ·skip
       refine aX (nk:=[700,55]) 8 (aCv 900 55 (n6 hn hβ z.2.1 z.2.2 z2 z3)) fun y ⟨y1,y2,y3⟩=>?_
       refine aY [9,10,11,12,13] ?_
       refine bG 10 rfl (by kernel_rfl) (dV TT_ok 50 (fun _=>dA ⟨([-1,0,5,6]:List Int).getD z.1.toNat 0,y.1⟩) rfl rfl rfl rfl rfl rfl rfl (fun j hj=>by rcases j with _ | j <;>first | rfl | omega) (mu1:=[(55, .arr 0 0 fun _=>[])]) rfl rfl rfl (bD ?_))
       refine bG 11 rfl (by kernel_rfl) (dM TT_ok 31 50 51 rfl rfl rfl rfl rfl rfl rfl rfl rfl rfl rfl rfl ⟨by show (cs.length+1) * 32≤_;omega,by unfold maxL;omega⟩ (bD ?_))
       refine aY [12,13] ?_
       refine dR 13 rfl (by kernel_rfl) (by kernel_rfl) (aV (eJ [] fun B0 H0=>?_))
       refine aP ?_
       refine bC (bL 31 51) ?_
       exact bN (cs ++ [⟨([-1,0,5,6]:List Int).getD z.1.toNat 0,y.1⟩],y.2.1,y.2.2) ⟨⟨by simp;omega,jY q2 y1⟩,y2,y3⟩ Nat.zero_lt_one wF ⟨⟨_,rfl,aCt _⟩,⟨_,rfl,aS rfl⟩,wM⟩
      ·skip
       refine bG 6 rfl (by kernel_rfl) (bA (bD ?_))
       refine aY [9,10,11,12,13] ?_
       refine bG 10 rfl (by kernel_rfl) (dV TT_ok 50 (fun _=>dA ⟨([-1,0,5,6]:List Int).getD z.1.toNat 0,y.1⟩) rfl rfl rfl rfl rfl rfl rfl (fun j hj=>by rcases j with _ | j <;>first | rfl | omega) (mu1:=[(55, .arr 0 0 fun _=>[])]) rfl rfl rfl (bD ?_))
       refine bG 11 rfl (by kernel_rfl) (dM TT_ok 31 50 51 rfl rfl rfl rfl rfl rfl rfl rfl rfl rfl rfl rfl ⟨by show (cs.length+1) * 32≤_;omega,by unfold maxL;omega⟩ (bD ?_))
       refine aY [12,13] ?_
       refine dR 13 rfl (by kernel_rfl) (by kernel_rfl) (aV (eJ [] fun B0 H0=>?_))
       refine aP ?_
       refine bC (bL 31 51) ?_
       exact bN (cs ++ [⟨([-1,0,5,6]:List Int).getD z.1.toNat 0,y.1⟩],y.2.1,y.2.2) ⟨⟨by simp;omega,jY q2 y1⟩,y2,y3⟩ Nat.zero_lt_one wF ⟨⟨_,rfl,aCt _⟩,⟨_,rfl,aS rfl⟩,wM⟩
     ·skip
      refine bG 5 rfl (by kernel_rfl) (bA (bD ?_))
      refine bG 6 rfl (by kernel_rfl) (bA (bD ?_))
      refine aY [9,10,11,12,13] ?_
      refine bG 10 rfl (by kernel_rfl) (dV TT_ok 50 (fun _=>dA ⟨([-1,0,5,6]:List Int).getD z.1.toNat 0,y.1⟩) rfl rfl rfl rfl rfl rfl rfl (fun j hj=>by rcases j with _ | j <;>first | rfl | omega) (mu1:=[(55, .arr 0 0 fun _=>[])]) rfl rfl rfl (bD ?_))
      refine bG 11 rfl (by kernel_rfl) (dM TT_ok 31 50 51 rfl rfl rfl rfl rfl rfl rfl rfl rfl rfl rfl rfl ⟨by show (cs.length+1) * 32≤_;omega,by unfold maxL;omega⟩ (bD ?_))
      refine aY [12,13] ?_
      refine dR 13 rfl (by kernel_rfl) (by kernel_rfl) (aV (eJ [] fun B0 H0=>?_))
      refine aP ?_
      refine bC (bL 31 51) ?_
      exact bN (cs ++ [⟨([-1,0,5,6]:List Int).getD z.1.toNat 0,y.1⟩],y.2.1,y.2.2) ⟨⟨by simp;omega,jY q2 y1⟩,y2,y3⟩ Nat.zero_lt_one wF ⟨⟨_,rfl,aCt _⟩,⟨_,rfl,aS rfl⟩,wM⟩
    ·skip
     refine eU 2 8 rfl rfl (by kernel_rfl) (dV TT_ok 48 (fun i=>bS (([-1,0,5,6]:List Int).getD i 0)) rfl rfl rfl rfl rfl rfl rfl (qW rfl rfl rfl rfl) (mu1:=[]) rfl rfl rfl (bD ?_)) (gG (nk:=[700,55]) (aCv 900 55 (n6 hn hβ z.2.1 z.2.2 z2 z3)) rfl rfl (aCu _) (fun _=>rfl) rfl rfl rfl (fun y ⟨y1,y2,y3⟩=>bD ?_))
     ·skip
      refine eU 5 8 rfl rfl (by kernel_rfl) (bA (bD ?_)) (gG (nk:=[700,55]) (aCv 900 55 (n6 hn hβ z.2.1 z.2.2 z2 z3)) rfl rfl (aCu _) (fun _=>rfl) rfl rfl rfl (fun y ⟨y1,y2,y3⟩=>bD ?_))
      ·skip
       refine eU 6 8 rfl rfl (by kernel_rfl) (bA (bD ?_)) (gG (nk:=[700,55]) (aCv 900 55 (n6 hn hβ z.2.1 z.2.2 z2 z3)) rfl rfl (aCu _) (fun _=>rfl) rfl rfl rfl (fun y ⟨y1,y2,y3⟩=>bD ?_))
       ·skip
        refine aX (nk:=[700,55]) 8 (aCv 900 55 (n6 hn hβ z.2.1 z.2.2 z2 z3)) fun y ⟨y1,y2,y3⟩=>?_
        refine aY [9,10,11,12,13] ?_
        refine bG 10 rfl (by kernel_rfl) (dV TT_ok 50 (fun _=>dA ⟨([-1,0,5,6]:List Int).getD z.1.toNat 0,y.1⟩) rfl rfl rfl rfl rfl rfl rfl (fun j hj=>by rcases j with _ | j <;>first | rfl | omega) (mu1:=[(55, .arr 0 0 fun _=>[])]) rfl rfl rfl (bD ?_))
        refine bG 11 rfl (by kernel_rfl) (dM TT_ok 31 50 51 rfl rfl rfl rfl rfl rfl rfl rfl rfl rfl rfl rfl ⟨by show (cs.length+1) * 32≤_;omega,by unfold maxL;omega⟩ (bD ?_))
        refine aY [12,13] ?_
        refine dR 13 rfl (by kernel_rfl) (by kernel_rfl) (aV (eJ [] fun B0 H0=>?_))
        refine aP ?_
        refine bC (bL 31 51) ?_
        exact bN (cs ++ [⟨([-1,0,5,6]:List Int).getD z.1.toNat 0,y.1⟩],y.2.1,y.2.2) ⟨⟨by simp;omega,jY q2 y1⟩,y2,y3⟩ Nat.zero_lt_one wF ⟨⟨_,rfl,aCt _⟩,⟨_,rfl,aS rfl⟩,wM⟩
       ·skip
        refine bG 6 rfl (by kernel_rfl) (bA (bD ?_))
        refine aY [9,10,11,12,13] ?_
        refine bG 10 rfl (by kernel_rfl) (dV TT_ok 50 (fun _=>dA ⟨([-1,0,5,6]:List Int).getD z.1.toNat 0,y.1⟩) rfl rfl rfl rfl rfl rfl rfl (fun j hj=>by rcases j with _ | j <;>first | rfl | omega) (mu1:=[(55, .arr 0 0 fun _=>[])]) rfl rfl rfl (bD ?_))
        refine bG 11 rfl (by kernel_rfl) (dM TT_ok 31 50 51 rfl rfl rfl rfl rfl rfl rfl rfl rfl rfl rfl rfl ⟨by show (cs.length+1) * 32≤_;omega,by unfold maxL;omega⟩ (bD ?_))
        refine aY [12,13] ?_
        refine dR 13 rfl (by kernel_rfl) (by kernel_rfl) (aV (eJ [] fun B0 H0=>?_))
        refine aP ?_
        refine bC (bL 31 51) ?_
        exact bN (cs ++ [⟨([-1,0,5,6]:List Int).getD z.1.toNat 0,y.1⟩],y.2.1,y.2.2) ⟨⟨by simp;omega,jY q2 y1⟩,y2,y3⟩ Nat.zero_lt_one wF ⟨⟨_,rfl,aCt _⟩,⟨_,rfl,aS rfl⟩,wM⟩
      ·skip
       refine bG 5 rfl (by kernel_rfl) (bA (bD ?_))
       refine bG 6 rfl (by kernel_rfl) (bA (bD ?_))
       refine aY [9,10,11,12,13] ?_
       refine bG 10 rfl (by kernel_rfl) (dV TT_ok 50 (fun _=>dA ⟨([-1,0,5,6]:List Int).getD z.1.toNat 0,y.1⟩) rfl rfl rfl rfl rfl rfl rfl (fun j hj=>by rcases j with _ | j <;>first | rfl | omega) (mu1:=[(55, .arr 0 0 fun _=>[])]) rfl rfl rfl (bD ?_))
       refine bG 11 rfl (by kernel_rfl) (dM TT_ok 31 50 51 rfl rfl rfl rfl rfl rfl rfl rfl rfl rfl rfl rfl ⟨by show (cs.length+1) * 32≤_;omega,by unfold maxL;omega⟩ (bD ?_))
       refine aY [12,13] ?_
       refine dR 13 rfl (by kernel_rfl) (by kernel_rfl) (aV (eJ [] fun B0 H0=>?_))
       refine aP ?_
       refine bC (bL 31 51) ?_
       exact bN (cs ++ [⟨([-1,0,5,6]:List Int).getD z.1.toNat 0,y.1⟩],y.2.1,y.2.2) ⟨⟨by simp;omega,jY q2 y1⟩,y2,y3⟩ Nat.zero_lt_one wF ⟨⟨_,rfl,aCt _⟩,⟨_,rfl,aS rfl⟩,wM⟩
     ·skip
      refine bG 2 rfl (by kernel_rfl) (dV TT_ok 48 (fun i=>bS (([-1,0,5,6]:List Int).getD i 0)) rfl rfl rfl rfl rfl rfl rfl (qW rfl rfl rfl rfl) (mu1:=[]) rfl rfl rfl (bD ?_))
      refine bG 5 rfl (by kernel_rfl) (bA (bD ?_))
      refine bG 6 rfl (by kernel_rfl) (bA (bD ?_))
      refine aY [9,10,11,12,13] ?_
      refine bG 10 rfl (by kernel_rfl) (dV TT_ok 50 (fun _=>dA ⟨([-1,0,5,6]:List Int).getD z.1.toNat 0,y.1⟩) rfl rfl rfl rfl rfl rfl rfl (fun j hj=>by rcases j with _ | j <;>first | rfl | omega) (mu1:=[(55, .arr 0 0 fun _=>[])]) rfl rfl rfl (bD ?_))
      refine bG 11 rfl (by kernel_rfl) (dM TT_ok 31 50 51 rfl rfl rfl rfl rfl rfl rfl rfl rfl rfl rfl rfl ⟨by show (cs.length+1) * 32≤_;omega,by unfold maxL;omega⟩ (bD ?_))
      refine aY [12,13] ?_
      refine dR 13 rfl (by kernel_rfl) (by kernel_rfl) (aV (eJ [] fun B0 H0=>?_))
      refine aP ?_
      refine bC (bL 31 51) ?_
      exact bN (cs ++ [⟨([-1,0,5,6]:List Int).getD z.1.toNat 0,y.1⟩],y.2.1,y.2.2) ⟨⟨by simp;omega,jY q2 y1⟩,y2,y3⟩ Nat.zero_lt_one wF ⟨⟨_,rfl,aCt _⟩,⟨_,rfl,aS rfl⟩,wM⟩
   rintro ⟨cs2,i7,i8⟩ ⟨⟨w1,w2⟩,w3,w4⟩
   dsimp only at w1 w2 w3 w4 ⊢
   refine aZ ?_
   exact aL (⟨!al.1,cs2,lg,cl⟩,i7,i8) ⟨⟨w1,w2,hs.2.2⟩,w3,w4⟩ Nat.zero_lt_one
  refine aF ?_
  refine aA (fun _=>?_) (fun _=>?_)
  ·refine aF ?_
   refine aW [700,32] [0,1,2,3,4,5,6,7] fun B0 H0=>?_
   refine aX (nk:=[700,56]) 3 (aCv 901 56 (O7 hn hβ g.2.1 g.2.2 g2 g3)) fun y ⟨y1,y2,y3⟩=>?_
   refine bG 4 rfl (by kernel_rfl) (dV TT_ok 50 (fun _=>cK y.1) rfl rfl rfl rfl rfl rfl rfl (fun j hj=>by rcases j with _ | j <;>first | rfl | omega) (mu1:=[(56, .arr 0 0 fun _=>[])]) rfl rfl rfl (bD ?_))
   refine bG 5 rfl (by kernel_rfl) (dM TT_ok 32 50 51 rfl rfl rfl rfl rfl rfl rfl rfl rfl rfl rfl rfl ⟨by show (lg.length+1) * 48≤_;omega,by unfold maxL;omega⟩ (bD ?_))
   refine aY [6,7] ?_
   refine dR 7 rfl (by kernel_rfl) (by kernel_rfl) (aV (eJ [] fun B0 H0=>?_))
   refine aP ?_
   refine bC (bL 32 51) ?_
   exact bN (⟨!al.1,cs,lg ++ [y.1],cl⟩,y.2.1,y.2.2) ⟨⟨hs.1,q2,by show (lg ++ [y.1]).length≤201;simp;omega,jY u2 y1,hs.2.2.2.2⟩,y2,y3⟩ Nat.zero_lt_one wF ⟨⟨_,rfl,aCt _⟩,⟨_,rfl,aCt _⟩,⟨_,rfl,aS rfl⟩,wM⟩
  refine aF ?_
  refine aA (fun _=>?_) (fun _=>?_)
  ·refine aF ?_
   refine a7 (ι:=List Int×Int×Int) (fun _=>[]) (fun y=>[(3, .row [.v (.bool (!al.1)), .g 31, .g 32, .g 33]),(33,bE 1 bS 0 y.1),(700,dE y.2.1 y.2.2)]) (fun y=>y.1.length≤61∧0≤y.2.1∧y.2.1≤n) [3,33,700] [33] ?_ ?_
   ·refine aW [700,33] [0,1,3,2,4,5,6,7,8,9,10] fun B0 H0=>?_
    refine eU 2 4 rfl rfl (by kernel_rfl) (dV TT_ok 48 (fun i=>bS (([0,3,1000000,1000001]:List Int).getD i 0)) rfl rfl rfl rfl rfl rfl rfl (qW rfl rfl rfl rfl) (mu1:=[]) rfl rfl rfl (bD ?_)) (gG (nk:=[700]) (bR hn hβ g.2.1 g.2.2 g2 g3 4) rfl rfl (aCu _) (fun _=>rfl) rfl rfl rfl (fun z ⟨z1,z2,z3⟩=>bD ?_))
    ·skip
     refine aX (nk:=[700]) 4 (bR hn hβ g.2.1 g.2.2 g2 g3 4) fun z ⟨z1,z2,z3⟩=>?_
     refine bG 5 rfl (by kernel_rfl) (bA (bD ?_))
     refine bG 6 rfl (by kernel_rfl) (bA (bD ?_))
     refine bG 7 rfl (by kernel_rfl) (dV TT_ok 50 (fun _=>bS (([0,3,1000000,1000001]:List Int).getD z.1.toNat 0)) rfl rfl rfl rfl rfl rfl rfl (fun j hj=>by rcases j with _ | j <;>first | rfl | omega) (mu1:=[]) rfl rfl rfl (bD ?_))
     refine bG 8 rfl (by kernel_rfl) (dM TT_ok 33 50 51 rfl rfl rfl rfl rfl rfl rfl rfl rfl rfl rfl rfl ⟨by show (cl.length+1) * 8≤_;omega,by unfold maxL;omega⟩ (bD ?_))
     refine aY [9,10] ?_
     refine dR 10 rfl (by kernel_rfl) (by kernel_rfl) (aV (eJ [] fun B0 H0=>?_))
     refine aP ?_
     refine bC (bL 33 51) ?_
     exact bN (cl ++ [([0,3,1000000,1000001]:List Int).getD z.1.toNat 0],z.2.1,z.2.2) ⟨by simp;omega,z2,z3⟩ Nat.zero_lt_one wF ⟨⟨_,rfl,aCt _⟩,⟨_,rfl,aS rfl⟩,wM⟩
    ·skip
     refine bG 2 rfl (by kernel_rfl) (dV TT_ok 48 (fun i=>bS (([0,3,1000000,1000001]:List Int).getD i 0)) rfl rfl rfl rfl rfl rfl rfl (qW rfl rfl rfl rfl) (mu1:=[]) rfl rfl rfl (bD ?_))
     refine bG 5 rfl (by kernel_rfl) (bA (bD ?_))
     refine bG 6 rfl (by kernel_rfl) (bA (bD ?_))
     refine bG 7 rfl (by kernel_rfl) (dV TT_ok 50 (fun _=>bS (([0,3,1000000,1000001]:List Int).getD z.1.toNat 0)) rfl rfl rfl rfl rfl rfl rfl (fun j hj=>by rcases j with _ | j <;>first | rfl | omega) (mu1:=[]) rfl rfl rfl (bD ?_))
     refine bG 8 rfl (by kernel_rfl) (dM TT_ok 33 50 51 rfl rfl rfl rfl rfl rfl rfl rfl rfl rfl rfl rfl ⟨by show (cl.length+1) * 8≤_;omega,by unfold maxL;omega⟩ (bD ?_))
     refine aY [9,10] ?_
     refine dR 10 rfl (by kernel_rfl) (by kernel_rfl) (aV (eJ [] fun B0 H0=>?_))
     refine aP ?_
     refine bC (bL 33 51) ?_
     exact bN (cl ++ [([0,3,1000000,1000001]:List Int).getD z.1.toNat 0],z.2.1,z.2.2) ⟨by simp;omega,z2,z3⟩ Nat.zero_lt_one wF ⟨⟨_,rfl,aCt _⟩,⟨_,rfl,aS rfl⟩,wM⟩
   rintro ⟨cl2,i7,i8⟩ ⟨w1,w3,w4⟩
   dsimp only at w1 w3 w4 ⊢
   refine aZ ?_
   exact aL (⟨!al.1,cs,lg,cl2⟩,i7,i8) ⟨⟨hs.1,q2,hs.2.2.1,u2,w1⟩,w3,w4⟩ Nat.zero_lt_one
  refine aF ?_
  refine aA (fun _=>?_) (fun _=>?_)
  ·refine aF ?_
   refine aM 60 (fun i=>bS (([]:List Int).getD i 0)) (fun i hi=>absurd hi (Nat.not_lt_zero _)) (mu1:=[]) ?_
   refine aN ?_
   refine aK (ι:=List Int×Nat×Int×Int) (fun y=>[(8,vI y.2.1)]) (fun y=>[(3, .row [.v (.bool (!al.1)), .g 31, .g 32, .g 60]),(60,bE 1 bS 0 y.1),(700,dE y.2.2.1 y.2.2.2)]) (fun y=>(y.1.length=y.2.1∧y.2.1≤61)∧0≤y.2.2.1∧y.2.2.1≤n) (fun y=>61 - y.2.1) ([],0,g.2.1,g.2.2) [3,60,700] [60] ⟨⟨rfl,Nat.zero_le _⟩,g2,g3⟩ ?_
   rintro ⟨c2,k,i7,i8⟩ ⟨⟨w1,w2⟩,w3,w4⟩
   dsimp only at w1 w2 w3 w4 ⊢
   refine aF ?_
   refine aR (bR hn hβ i7 i8 w3 w4 2) fun z ⟨z1,z2,z3⟩=>?_
   refine aN ?_
   refine aI (fun e=>?_) (fun e=>?_)
   ·have hk:k<61:=by omega
    refine aF ?_
    refine cV TT_ok 116 (fun _=>bS ((k:Int)+10)) rfl rfl rfl rfl rfl rfl rfl (fun j hj=>by rcases j with _ | j <;>first | rfl | omega) (mu1:=[]) rfl rfl rfl ?_
    refine aN ?_
    refine cU TT_ok 60 116 117 rfl rfl rfl rfl rfl rfl rfl rfl rfl rfl rfl rfl ⟨by show (c2.length+1) * 8≤_;omega,by unfold maxL;omega⟩ ?_
    refine aN ?_
    refine bC (bL 60 117) ?_
    exact bN (c2 ++ [(k:Int)+10],k+1,z.2.1,z.2.2) ⟨⟨by simp [w1],hk⟩,z2,z3⟩ (by dsimp only;omega) wF ⟨⟨_,rfl,aCt _⟩,⟨_,rfl,aS rfl⟩,wM⟩
   ·refine aF ?_
    refine bC (bL 60 33) ?_
    exact aL (⟨!al.1,cs,lg,c2⟩,z.2.1,z.2.2) ⟨⟨hs.1,q2,hs.2.2.1,u2,by show c2.length≤61;omega⟩,z2,z3⟩ Nat.zero_lt_one
  refine aF ?_
  refine aA (fun _=>?_) (fun _=>?_)
  ·refine aF ?_
   refine aM 60 (fun i=>cK (([]:List GRecord).getD i aCq)) (fun i hi=>absurd hi (Nat.not_lt_zero _)) (mu1:=[]) ?_
   refine aN ?_
   refine cY (ι:=List GRecord×Nat×Int×Int) (fun y=>[(9,vI y.2.1)]) (fun y=>[(3, .row [.v (.bool (!al.1)), .g 31, .g 60, .g 33]),(60,bE 4 cK aCq y.1),(700,dE y.2.2.1 y.2.2.2)]) (fun y=>(y.1.length=y.2.1∧(∀ x ∈ y.1,x.sets.length≤7)∧y.2.1≤201)∧0≤y.2.2.1∧y.2.2.1≤n) (fun y=>201 - y.2.1) ([],0,g.2.1,g.2.2) [3,60,700] [60] rfl rfl ⟨⟨rfl,(fun _ h=>by cases h),Nat.zero_le _⟩,g2,g3⟩ wF wM ?_
   rintro ⟨c2,k,i7,i8⟩ ⟨⟨w1,w5,w2⟩,w3,w4⟩
   dsimp only at w1 w2 w3 w4 w5 ⊢
   refine aF ?_
   refine aR (bR hn hβ i7 i8 w3 w4 2) fun z ⟨z1,z2,z3⟩=>?_
   refine aN ?_
   refine aI (fun e=>?_) (fun e=>?_)
   ·have hk:k<201:=by omega
    refine aF ?_
    refine cV TT_ok 133 (fun _=>cP ⟨1,0,0,false,0⟩) rfl rfl rfl rfl rfl rfl rfl (fun j hj=>by rcases j with _ | j <;>first | rfl | omega) (mu1:=[]) rfl rfl rfl ?_
    refine aN ?_
    refine eY (t5 133 (c':=bE 5 cP aCm [⟨1,0,0,false,0⟩]) rfl (Ch.imp_arr fun j hj=>by rcases j with _ | j <;>first | rfl | omega) rfl) ?_
    refine cV TT_ok 135 (fun _=>cK ⟨1,3,1,[⟨1,0,0,false,0⟩]⟩) rfl rfl rfl rfl rfl rfl rfl (fun j hj=>by rcases j with _ | j <;>first | rfl | omega) (mu1:=[(133, .arr 0 0 fun _=>[])]) rfl rfl rfl ?_
    refine aN ?_
    refine cU TT_ok 60 135 136 rfl rfl rfl rfl rfl rfl rfl rfl rfl rfl rfl rfl ⟨by show (c2.length+1) * 48≤_;omega,by unfold maxL;omega⟩ ?_
    refine aN ?_
    refine bC (bL 60 136) ?_
    exact bN (c2 ++ [⟨1,3,1,[⟨1,0,0,false,0⟩]⟩],k+1,z.2.1,z.2.2) ⟨⟨by simp [w1],jY w5 (by decide),hk⟩,z2,z3⟩ (by dsimp only;omega) wF ⟨⟨_,rfl,aCt _⟩,⟨_,rfl,aS rfl⟩,wM⟩
   ·refine aF ?_
    refine bC (bL 60 32) ?_
    exact aL (⟨!al.1,cs,c2,cl⟩,z.2.1,z.2.2) ⟨⟨hs.1,q2,by show c2.length≤201;omega,w5,hs.2.2.2.2⟩,z2,z3⟩ Nat.zero_lt_one
  refine aF ?_
  exact aL (⟨!al.1,cs,lg,cl⟩,g.2.1,g.2.2) ⟨hs,g2,g3⟩ Nat.zero_lt_one
 rintro ⟨mm,i7,i8⟩ ⟨w1,w2,w3⟩
 dsimp only at w2 w3 ⊢
 refine aZ ?_
 refine bB (bL 31 901) ?_
 refine bB (bL 32 902) ?_
 refine bB (bL 33 903) ?_
 refine aC ((mm,i7,i8)) [(2,some 39)] ?_ ?_ ?_
 ·exact aCu _
 ·exact wM
 ·exact ⟨w1,w2,w3⟩
end
section
def AN (ps:List GPlace) (m:Nat):List GPlace:=ps ++ List.replicate (m - ps.length) (ps.getD 0 aCi)
def oW (n i:Nat):Nat:=if i<n then i else 0
theorem ZM {ps:List GPlace} {m:Nat} (h:ps.length≤m):(AN ps m).length=m:=by unfold AN;simp;omega
theorem aAj {ps:List GPlace} {m i:Nat} (hi:i<m):(AN ps m).getD i aCi=ps.getD (oW ps.length i) aCi:=by
 unfold AN oW
 by_cases c:i<ps.length
 ·rw [if_pos c];simp [List.getD_eq_getElem?_getD,List.getElem?_append_left c]
 ·rw [if_neg c]
  simp only [List.getD_eq_getElem?_getD]
  rw [List.getElem?_append_right (by omega),List.getElem?_replicate,if_pos (by omega)]
  rfl
theorem aAS {n i:Nat} (hn:0<n):oW n i<n:=by unfold oW;split <;>omega
theorem WI {h:PH} {p:GPlace} {row:List Value} (e:D.rds h (cE p) row):∃ A c,row=[.slice A p.machines.length c]:=by
 obtain ⟨y,t,rfl,⟨A,c,rfl,_⟩,e2⟩:=e
 have e2:t=[]:=e2
 subst e2;exact ⟨A,c,rfl⟩
abbrev Z2 (ps:List GPlace):Ch := .rd 1 ps.length fun i=>cE (ps.getD i aCi)
theorem aAb {n:Nat} {β:Nat→Int} (hn:n≤1048576) (hβ:eS β) (i h:Int) (h1:0≤i) (h2:i≤n):Con Tryz.prog 128 [700,701] [.a (.p 700 0)] (xB n β i h) (fun y:List GPlace×Int×Int=>(y.1.length≤7∧∀ p ∈ y.1,p.machines.length≤4)∧0≤y.2.1∧y.2.1≤n) (fun _=>[.a (.g 900)]) fun y=>[(700,dE y.2.1 y.2.2),(900,Z2 y.1)]:=by
 refine aE Tryz.func128 fun B0 r_ D_ w0=>?_
 refine aF ?_
 refine aM 20 (fun i=>cE (([]:List GPlace).getD i aCi)) (fun i hi=>absurd hi (Nat.not_lt_zero _)) (mu1:=[]) ?_
 refine aN ?_
 refine aR (bR hn hβ i h h1 h2 4) fun nn ⟨nn1,nn2,nn3⟩=>?_
 refine aN ?_
 refine cY (ι:=List GPlace×Int×Int×Int) (fun y=>[(3, .a (.g 20)),(4,vI y.2.1)]) (fun y=>[(20,bE 1 cE aCi y.1),(700,dE y.2.2.1 y.2.2.2)]) (fun y=>(((y.1.length:Int)+y.2.1≤4∧(1≤(y.1.length:Int)+y.2.1)∧∀ p ∈ y.1,1≤p.machines.length∧p.machines.length≤3))∧0≤y.2.1∧0≤y.2.2.1∧y.2.2.1≤n) (fun y=>y.2.1.toNat) ([],1+nn.1,nn.2.1,nn.2.2) [20,700] [20] rfl rfl ⟨⟨by simp only [List.length_nil];omega,by simp only [List.length_nil];omega,fun _ h=>(by cases h)⟩,by dsimp only;omega,nn2,nn3⟩ wF wM ?_
 rintro ⟨ps,m,i1,i2⟩ ⟨⟨q1,q6,q2⟩,q3,q4,q5⟩
 dsimp only at q1 q2 q3 q4 q5 q6 ⊢
 refine aF ?_
 refine aI (fun e=>?_) (fun e=>?_)
 ·refine aF ?_
  refine aR (bR hn hβ i1 i2 q4 q5 3) fun k0 ⟨k01,k02,k03⟩=>?_
  refine aN ?_
  refine bB (a5 5 0 1 (fun i=>bS (([]:List Int).getD i 0))) ?_
  refine bB (a6 5 0 50) ?_
  refine cY (ι:=List Int×Int×Int×Int) (fun y=>[(6,vI y.2.1)]) (fun y=>[(5, .row [.g 50]),(50,bE 1 bS 0 y.1),(700,dE y.2.2.1 y.2.2.2)]) (fun y=>((y.1.length:Int)+y.2.1≤3∧1≤(y.1.length:Int)+y.2.1)∧0≤y.2.1∧0≤y.2.2.1∧y.2.2.1≤n) (fun y=>y.2.1.toNat) ([],1+k0.1,k0.2.1,k0.2.2) [5,50,700] [50] rfl rfl ⟨⟨by simp only [List.length_nil];omega,by simp only [List.length_nil];omega⟩,by dsimp only;omega,k02,k03⟩ wF wM ?_
  rintro ⟨ms,k,i3,i4⟩ ⟨⟨u1,u2⟩,u3,u4,u5⟩
  dsimp only at u1 u2 u3 u4 u5 ⊢
  refine aF ?_
  refine aI (fun e2=>?_) (fun e2=>?_)
  ·refine aF ?_
   refine aR (bR hn hβ i3 i4 u4 u5 6) fun x ⟨x1,x2,x3⟩=>?_
   refine aN ?_
   refine l4 TT_ok (mW ms (by omega) x.1) rfl rfl rfl rfl rfl ?_
   refine aA (fun e3=>?_) (fun e3=>?_)
   ·refine aF ?_
    refine cV TT_ok 35 (fun _=>bS x.1) rfl rfl rfl rfl rfl rfl rfl (fun j hj=>by rcases j with _ | j <;>first | rfl | omega) (mu1:=[]) rfl rfl rfl ?_
    refine aN ?_
    refine cU TT_ok 50 35 36 rfl rfl rfl rfl rfl rfl rfl rfl rfl rfl rfl rfl ⟨by show (ms.length+1) * 8≤_;omega,by unfold maxL;omega⟩ ?_
    refine aN ?_
    refine bC (bL 50 36) ?_
    exact bN (ms ++ [x.1],k - 1,x.2.1,x.2.2) ⟨⟨by simp;omega,by simp;omega⟩,by dsimp only;omega,x2,x3⟩ (by dsimp only;omega) wF ⟨⟨_,rfl,aCt _⟩,⟨_,rfl,aS rfl⟩,wM⟩
   ·have hne:ms≠[]:=fun e0=>by subst e0;simp at e3
    have hpos:=List.length_pos_iff.2 hne
    refine aF ?_
    exact aL (ms,k - 1,x.2.1,x.2.2) ⟨⟨by dsimp only;omega,by dsimp only;omega⟩,by dsimp only;omega,x2,x3⟩ (by dsimp only;omega)
  ·have hps:ps.length≤4:=by omega
   refine aF ?_
   refine cV TT_ok 40 (fun _=>cE ⟨ms⟩) rfl rfl rfl rfl rfl rfl rfl (fun j hj=>by rcases j with _ | j <;>first | rfl | omega) (mu1:=[(50, .arr 0 0 fun _=>[])]) rfl rfl rfl ?_
   refine aN ?_
   refine cU TT_ok 20 40 41 rfl rfl rfl rfl rfl rfl rfl rfl rfl rfl rfl rfl ⟨by show (ps.length+1) * 24≤_;omega,by unfold maxL;omega⟩ ?_
   refine aN ?_
   refine bC (bL 20 41) ?_
   exact bN (ps ++ [⟨ms⟩],m - 1,i3,i4) ⟨⟨by simp;omega,by simp;omega,jY q2 ⟨by show 1≤ms.length;omega,by show ms.length≤3;omega⟩⟩,by dsimp only;omega,u4,u5⟩ (by dsimp only;omega) wF ⟨⟨_,rfl,aS rfl⟩,wM⟩
 have hp1:1≤ps.length∧ps.length≤4:=by omega
 have hfin:ps.length≤7∧∀ p ∈ ps,p.machines.length≤4:=⟨by omega,fun p hp=>Nat.le_succ_of_le (q2 p hp).2⟩
 refine aF ?_
 refine aR (d9 hn hβ i1 i2 q4 q5 10) fun a ⟨a1,a2,a3⟩=>?_
 refine aN ?_
 refine aA (fun _=>?_) (fun _=>?_)
 rotate_left
 ·refine aF ?_
  refine bB (bL 20 900) ?_
  refine aC ((ps,a.2.1,a.2.2)) [(2,none)] ?_ ?_ ?_
  ·exact aCu _
  ·exact ⟨⟨_,rfl,aCt _⟩,⟨_,rfl,lY⟩,trivial⟩
  ·exact ⟨hfin,a2,a3⟩
 refine aF ?_
 refine aR (bR hn hβ a.2.1 a.2.2 a2 a3 ps.length) fun p ⟨p1,p2,p3⟩=>?_
 refine aN ?_
 have hp:0≤p.1∧p.1<ps.length:=by omega
 refine aR (bR hn hβ p.2.1 p.2.2 p2 p3 3) fun g ⟨g1,g2,g3⟩=>?_
 refine aN ?_
 refine aA (fun _=>?_) (fun _=>?_)
 ·refine aF ?_
  have hm:1≤(ps.getD p.1.toNat aCi).machines.length∧(ps.getD p.1.toNat aCi).machines.length≤3:=q2 _ (cJ (by omega))
  refine bB (d6 20 p.1 77 rfl rfl rfl rfl rfl rfl hp) ?_
  refine bB (a6 77 0 78) ?_
  refine bB (kL 8 rfl rfl rfl) ?_
  refine aW [700,78] [0,1,2,3,4,5,6,7,8,12,9,10,11,13,14,15,16,17,18,19,20] fun B0 H0=>?_
  refine eU 9 13 rfl rfl (by kernel_rfl) (bA (bD ?_)) (gG (nk:=[700]) (bR hn hβ g.2.1 g.2.2 g2 g3 4) rfl rfl (aCu _) (fun _=>rfl) rfl rfl rfl (fun z ⟨z1,z2,z3⟩=>bD ?_))
  ·skip
   refine eU 10 13 rfl rfl (by kernel_rfl) (bA (bD ?_)) (gG (nk:=[700]) (bR hn hβ g.2.1 g.2.2 g2 g3 4) rfl rfl (aCu _) (fun _=>rfl) rfl rfl rfl (fun z ⟨z1,z2,z3⟩=>bD ?_))
   ·skip
    refine eU 11 13 rfl rfl (by kernel_rfl) (dV TT_ok 65 (fun i=>bS (([-1,7,8,(ps.getD p.1.toNat aCi).machines.getD 0 0]:List Int).getD i 0)) rfl rfl rfl rfl rfl rfl rfl (qW rfl rfl rfl rfl) (mu1:=[]) rfl rfl rfl (bD ?_)) (gG (nk:=[700]) (bR hn hβ g.2.1 g.2.2 g2 g3 4) rfl rfl (aCu _) (fun _=>rfl) rfl rfl rfl (fun z ⟨z1,z2,z3⟩=>bD ?_))
    ·skip
     refine aX (nk:=[700]) 13 (bR hn hβ g.2.1 g.2.2 g2 g3 4) fun z ⟨z1,z2,z3⟩=>?_
     refine bG 14 rfl (by kernel_rfl) (bA (bD ?_))
     refine bG 15 rfl (by kernel_rfl) (bA (bD ?_))
     refine bG 16 rfl (by kernel_rfl) (dV TT_ok 70 (fun _=>bS (([-1,7,8,(ps.getD p.1.toNat aCi).machines.getD 0 0]:List Int).getD z.1.toNat 0)) rfl rfl rfl rfl rfl rfl rfl (fun j hj=>by rcases j with _ | j <;>first | rfl | omega) (mu1:=[]) rfl rfl rfl (bD ?_))
     refine bG 17 rfl (by kernel_rfl) (dM TT_ok 78 70 51 rfl rfl rfl rfl rfl rfl rfl rfl rfl rfl rfl rfl ⟨by show ((ps.getD p.1.toNat aCi).machines.length+1) * 8≤_;omega,by unfold maxL;omega⟩ (bD ?_))
     refine aY [18,19,20] ?_
     refine dR 20 rfl (by kernel_rfl) (by kernel_rfl) (aV (eJ [] fun B0 H0=>?_))
     refine aP ?_
     refine bB (t5 51 (c':=bE 1 bS 0 ((ps.getD p.1.toNat aCi).machines ++ [([-1,7,8,(ps.getD p.1.toNat aCi).machines.getD 0 0]:List Int).getD z.1.toNat 0])) rfl (aS rfl) rfl) ?_
     refine bB (a9 77 0 51) ?_
     refine bB (a8 20 77) ?_
     refine bB (bL 20 900) ?_
     refine aC ((ps.set p.1.toNat ⟨(ps.getD p.1.toNat aCi).machines ++ [([-1,7,8,(ps.getD p.1.toNat aCi).machines.getD 0 0]:List Int).getD z.1.toNat 0]⟩,z.2.1,z.2.2)) [(2,none)] ?_ ?_ ?_
     ·exact aCu _
     ·exact ⟨⟨_,rfl,aCt _⟩,⟨_,rfl,Ch.imp_trans (cG (y:=(⟨(ps.getD p.1.toNat aCi).machines ++ [([-1,7,8,(ps.getD p.1.toNat aCi).machines.getD 0 0]:List Int).getD z.1.toNat 0]⟩:GPlace)) (OwnI.refl _)) lY⟩,trivial⟩
     ·refine ⟨⟨by show (ps.set _ _).length≤7;rw [List.length_set];omega,fun x hx=>?_⟩,z2,z3⟩
      rcases List.mem_or_eq_of_mem_set hx with hx | rfl
      ·exact hfin.2 x hx
      ·show ((ps.getD p.1.toNat aCi).machines ++ [([-1,7,8,(ps.getD p.1.toNat aCi).machines.getD 0 0]:List Int).getD z.1.toNat 0]).length≤4;rw [List.length_append,List.length_singleton];omega
    ·skip
     refine bG 11 rfl (by kernel_rfl) (dV TT_ok 65 (fun i=>bS (([-1,7,8,(ps.getD p.1.toNat aCi).machines.getD 0 0]:List Int).getD i 0)) rfl rfl rfl rfl rfl rfl rfl (qW rfl rfl rfl rfl) (mu1:=[]) rfl rfl rfl (bD ?_))
     refine bG 14 rfl (by kernel_rfl) (bA (bD ?_))
     refine bG 15 rfl (by kernel_rfl) (bA (bD ?_))
     refine bG 16 rfl (by kernel_rfl) (dV TT_ok 70 (fun _=>bS (([-1,7,8,(ps.getD p.1.toNat aCi).machines.getD 0 0]:List Int).getD z.1.toNat 0)) rfl rfl rfl rfl rfl rfl rfl (fun j hj=>by rcases j with _ | j <;>first | rfl | omega) (mu1:=[]) rfl rfl rfl (bD ?_))
     refine bG 17 rfl (by kernel_rfl) (dM TT_ok 78 70 51 rfl rfl rfl rfl rfl rfl rfl rfl rfl rfl rfl rfl ⟨by show ((ps.getD p.1.toNat aCi).machines.length+1) * 8≤_;omega,by unfold maxL;omega⟩ (bD ?_))
     refine aY [18,19,20] ?_
     refine dR 20 rfl (by kernel_rfl) (by kernel_rfl) (aV (eJ [] fun B0 H0=>?_))
     refine aP ?_
     refine bB (t5 51 (c':=bE 1 bS 0 ((ps.getD p.1.toNat aCi).machines ++ [([-1,7,8,(ps.getD p.1.toNat aCi).machines.getD 0 0]:List Int).getD z.1.toNat 0])) rfl (aS rfl) rfl) ?_
     refine bB (a9 77 0 51) ?_
     refine bB (a8 20 77) ?_
     refine bB (bL 20 900) ?_
     refine aC ((ps.set p.1.toNat ⟨(ps.getD p.1.toNat aCi).machines ++ [([-1,7,8,(ps.getD p.1.toNat aCi).machines.getD 0 0]:List Int).getD z.1.toNat 0]⟩,z.2.1,z.2.2)) [(2,none)] ?_ ?_ ?_
     ·exact aCu _
     ·exact ⟨⟨_,rfl,aCt _⟩,⟨_,rfl,Ch.imp_trans (cG (y:=(⟨(ps.getD p.1.toNat aCi).machines ++ [([-1,7,8,(ps.getD p.1.toNat aCi).machines.getD 0 0]:List Int).getD z.1.toNat 0]⟩:GPlace)) (OwnI.refl _)) lY⟩,trivial⟩
     ·refine ⟨⟨by show (ps.set _ _).length≤7;rw [List.length_set];omega,fun x hx=>?_⟩,z2,z3⟩
      rcases List.mem_or_eq_of_mem_set hx with hx | rfl
      ·exact hfin.2 x hx
      ·show ((ps.getD p.1.toNat aCi).machines ++ [([-1,7,8,(ps.getD p.1.toNat aCi).machines.getD 0 0]:List Int).getD z.1.toNat 0]).length≤4;rw [List.length_append,List.length_singleton];omega
   ·skip
    refine bG 10 rfl (by kernel_rfl) (bA (bD ?_))
    refine bG 11 rfl (by kernel_rfl) (dV TT_ok 65 (fun i=>bS (([-1,7,8,(ps.getD p.1.toNat aCi).machines.getD 0 0]:List Int).getD i 0)) rfl rfl rfl rfl rfl rfl rfl (qW rfl rfl rfl rfl) (mu1:=[]) rfl rfl rfl (bD ?_))
    refine bG 14 rfl (by kernel_rfl) (bA (bD ?_))
    refine bG 15 rfl (by kernel_rfl) (bA (bD ?_))
    refine bG 16 rfl (by kernel_rfl) (dV TT_ok 70 (fun _=>bS (([-1,7,8,(ps.getD p.1.toNat aCi).machines.getD 0 0]:List Int).getD z.1.toNat 0)) rfl rfl rfl rfl rfl rfl rfl (fun j hj=>by rcases j with _ | j <;>first | rfl | omega) (mu1:=[]) rfl rfl rfl (bD ?_))
    refine bG 17 rfl (by kernel_rfl) (dM TT_ok 78 70 51 rfl rfl rfl rfl rfl rfl rfl rfl rfl rfl rfl rfl ⟨by show ((ps.getD p.1.toNat aCi).machines.length+1) * 8≤_;omega,by unfold maxL;omega⟩ (bD ?_))
    refine aY [18,19,20] ?_
    refine dR 20 rfl (by kernel_rfl) (by kernel_rfl) (aV (eJ [] fun B0 H0=>?_))
    refine aP ?_
    refine bB (t5 51 (c':=bE 1 bS 0 ((ps.getD p.1.toNat aCi).machines ++ [([-1,7,8,(ps.getD p.1.toNat aCi).machines.getD 0 0]:List Int).getD z.1.toNat 0])) rfl (aS rfl) rfl) ?_
    refine bB (a9 77 0 51) ?_
    refine bB (a8 20 77) ?_
    refine bB (bL 20 900) ?_
    refine aC ((ps.set p.1.toNat ⟨(ps.getD p.1.toNat aCi).machines ++ [([-1,7,8,(ps.getD p.1.toNat aCi).machines.getD 0 0]:List Int).getD z.1.toNat 0]⟩,z.2.1,z.2.2)) [(2,none)] ?_ ?_ ?_
    ·exact aCu _
    ·exact ⟨⟨_,rfl,aCt _⟩,⟨_,rfl,Ch.imp_trans (cG (y:=(⟨(ps.getD p.1.toNat aCi).machines ++ [([-1,7,8,(ps.getD p.1.toNat aCi).machines.getD 0 0]:List Int).getD z.1.toNat 0]⟩:GPlace)) (OwnI.refl _)) lY⟩,trivial⟩
    ·refine ⟨⟨by show (ps.set _ _).length≤7;rw [List.length_set];omega,fun x hx=>?_⟩,z2,z3⟩
     rcases List.mem_or_eq_of_mem_set hx with hx | rfl
     ·exact hfin.2 x hx
     ·show ((ps.getD p.1.toNat aCi).machines ++ [([-1,7,8,(ps.getD p.1.toNat aCi).machines.getD 0 0]:List Int).getD z.1.toNat 0]).length≤4;rw [List.length_append,List.length_singleton];omega
  ·skip
   refine bG 9 rfl (by kernel_rfl) (bA (bD ?_))
   refine bG 10 rfl (by kernel_rfl) (bA (bD ?_))
   refine bG 11 rfl (by kernel_rfl) (dV TT_ok 65 (fun i=>bS (([-1,7,8,(ps.getD p.1.toNat aCi).machines.getD 0 0]:List Int).getD i 0)) rfl rfl rfl rfl rfl rfl rfl (qW rfl rfl rfl rfl) (mu1:=[]) rfl rfl rfl (bD ?_))
   refine bG 14 rfl (by kernel_rfl) (bA (bD ?_))
   refine bG 15 rfl (by kernel_rfl) (bA (bD ?_))
   refine bG 16 rfl (by kernel_rfl) (dV TT_ok 70 (fun _=>bS (([-1,7,8,(ps.getD p.1.toNat aCi).machines.getD 0 0]:List Int).getD z.1.toNat 0)) rfl rfl rfl rfl rfl rfl rfl (fun j hj=>by rcases j with _ | j <;>first | rfl | omega) (mu1:=[]) rfl rfl rfl (bD ?_))
   refine bG 17 rfl (by kernel_rfl) (dM TT_ok 78 70 51 rfl rfl rfl rfl rfl rfl rfl rfl rfl rfl rfl rfl ⟨by show ((ps.getD p.1.toNat aCi).machines.length+1) * 8≤_;omega,by unfold maxL;omega⟩ (bD ?_))
   refine aY [18,19,20] ?_
   refine dR 20 rfl (by kernel_rfl) (by kernel_rfl) (aV (eJ [] fun B0 H0=>?_))
   refine aP ?_
   refine bB (t5 51 (c':=bE 1 bS 0 ((ps.getD p.1.toNat aCi).machines ++ [([-1,7,8,(ps.getD p.1.toNat aCi).machines.getD 0 0]:List Int).getD z.1.toNat 0])) rfl (aS rfl) rfl) ?_
   refine bB (a9 77 0 51) ?_
   refine bB (a8 20 77) ?_
   refine bB (bL 20 900) ?_
   refine aC ((ps.set p.1.toNat ⟨(ps.getD p.1.toNat aCi).machines ++ [([-1,7,8,(ps.getD p.1.toNat aCi).machines.getD 0 0]:List Int).getD z.1.toNat 0]⟩,z.2.1,z.2.2)) [(2,none)] ?_ ?_ ?_
   ·exact aCu _
   ·exact ⟨⟨_,rfl,aCt _⟩,⟨_,rfl,Ch.imp_trans (cG (y:=(⟨(ps.getD p.1.toNat aCi).machines ++ [([-1,7,8,(ps.getD p.1.toNat aCi).machines.getD 0 0]:List Int).getD z.1.toNat 0]⟩:GPlace)) (OwnI.refl _)) lY⟩,trivial⟩
   ·refine ⟨⟨by show (ps.set _ _).length≤7;rw [List.length_set];omega,fun x hx=>?_⟩,z2,z3⟩
    rcases List.mem_or_eq_of_mem_set hx with hx | rfl
    ·exact hfin.2 x hx
    ·show ((ps.getD p.1.toNat aCi).machines ++ [([-1,7,8,(ps.getD p.1.toNat aCi).machines.getD 0 0]:List Int).getD z.1.toNat 0]).length≤4;rw [List.length_append,List.length_singleton];omega
 refine aF ?_
 refine aA (fun _=>?_) (fun _=>?_)
 ·refine bB (d6 20 p.1 77 rfl rfl rfl rfl rfl rfl hp) ?_
  refine bB (kL 8 rfl rfl rfl) ?_
  refine aF ?_
  refine aM 79 (fun i=>bS (([]:List Int).getD i 0)) (fun i hi=>absurd hi (Nat.not_lt_zero _)) (mu1:=[]) ?_
  refine aN ?_
  refine bB (a9 77 0 79) ?_
  refine bB (a8 20 77) ?_
  refine bB (bL 20 900) ?_
  refine aC ((ps.set p.1.toNat ⟨[]⟩,g.2.1,g.2.2)) [(2,none)] ?_ ?_ ?_
  ·exact aCu _
  ·exact ⟨⟨_,rfl,aCt _⟩,⟨_,rfl,Ch.imp_trans (cG (y:=(⟨[]⟩:GPlace)) (OwnI.refl _)) lY⟩,trivial⟩
  ·refine ⟨⟨by show (ps.set _ _).length≤7;rw [List.length_set];omega,fun x hx=>?_⟩,g2,g3⟩
   rcases List.mem_or_eq_of_mem_set hx with hx | rfl
   ·exact hfin.2 x hx
   ·exact Nat.zero_le _
 refine aF ?_
 refine aA (fun _=>?_) (fun _=>?_)
 rotate_left
 ·refine aF ?_
  refine bB (bL 20 900) ?_
  refine aC ((ps,g.2.1,g.2.2)) [(2,none)] ?_ ?_ ?_
  ·exact aCu _
  ·exact ⟨⟨_,rfl,aCt _⟩,⟨_,rfl,lY⟩,trivial⟩
  ·exact ⟨hfin,g2,g3⟩
 refine aBy 20 21 rfl rfl rfl rfl rfl (fun _=>rfl) fun row hrow=>?_
 have hr:∀ i,i<ps.length→∃ A c,row i=[.slice A (ps.getD i aCi).machines.length c]:=fun i hi=>by
  obtain ⟨_,hq,e⟩:=hrow i hi
  exact WI e
 obtain ⟨AF,CF,hF⟩:∃ (AF:Nat→Option Addr) (CF:Nat→Nat),∀ i,i<ps.length→row i=[.slice (AF i) (ps.getD i aCi).machines.length (CF i)] :=
  ⟨fun i=>if hi:i<ps.length then (hr i hi).choose else none,fun i=>if hi:i<ps.length then (hr i hi).choose_spec.choose else 0,fun i hi=>by
   simp only [dif_pos hi]
   exact (hr i hi).choose_spec.choose_spec⟩
 refine bB (t5 20 (c' := .arr 1 ps.length fun i=>[.v (.slice (AF i) (ps.getD i aCi).machines.length (CF i))]) rfl (Ch.imp_arr fun i hi=>by rw [hF i hi];rfl) rfl) ?_
 refine aF ?_
 refine cY (ι:=Nat) (fun _=>[(3, .a (.g 20))]) (fun m=>[(20, .arr 1 m fun i=>[.v (.slice (AF (oW ps.length i)) (ps.getD (oW ps.length i) aCi).machines.length (CF (oW ps.length i)))])]) (fun m=>ps.length≤m∧m≤7) (fun m=>7 - m) ps.length [20] [20] rfl rfl ⟨Nat.le_refl _,by omega⟩ wF ⟨⟨_,rfl,Ch.imp_arr fun i hi=>by simp only [oW,if_pos hi]⟩,wM⟩ ?_
 intro m ⟨w1,w2⟩
 refine aF ?_
 refine aI (fun e2=>?_) (fun e2=>?_)
 ·have hm7:m<7:=by omega
  refine aF ?_
  refine cV TT_ok 42 (fun _=>[.v (.slice (AF (oW ps.length 0)) (ps.getD (oW ps.length 0) aCi).machines.length (CF (oW ps.length 0)))]) rfl rfl rfl rfl rfl rfl rfl (fun j hj=>by rcases j with _ | j <;>first | rfl | omega) (mu1:=[]) rfl rfl rfl ?_
  refine aN ?_
  refine cU TT_ok 20 42 43 rfl rfl rfl rfl rfl rfl rfl rfl rfl rfl rfl rfl ⟨by show (m+1) * 24≤_;omega,by unfold maxL;omega⟩ ?_
  refine aN ?_
  refine bC (bL 20 43) ?_
  refine bN (m+1) ⟨by omega,hm7⟩ (by omega) wF ⟨⟨_,rfl,Ch.imp_arr fun j hj=>?_⟩,wM⟩
  by_cases c:j<m
  ·rw [jA c]
  ·rw [mU (by omega)]
   have e0:oW ps.length j=0:=by unfold oW;rw [if_neg (by omega)]
   have e1:oW ps.length 0=0:=by unfold oW;split <;>rfl
   simp only [e0,e1]
 ·obtain rfl:m=7:=by omega
  refine aF ?_
  refine bB (aA7 20 21 (rows:=fun i=>[.slice (AF (oW ps.length i)) (ps.getD (oW ps.length i) aCi).machines.length (CF (oW ps.length i))]) (f:=fun i=>cE ((AN ps 7).getD i aCi)) rfl rfl rfl (fun i hi=>rfl) (fun hp hP i hi=>by
   have h4:=aAS (n:=ps.length) (i:=i) (by omega)
   rw [aAj hi]
   have h5:=hP (oW ps.length i) h4
   rw [hF _ h4] at h5
   exact h5) rfl rfl rfl rfl rfl) ?_
  refine bB (bL 20 900) ?_
  have h7:(AN ps 7).length=7:=ZM (by omega)
  refine aC ((AN ps 7,g.2.1,g.2.2)) [(2,none)] ?_ ?_ ?_
  ·exact aCu _
  ·exact ⟨⟨_,rfl,aCt _⟩,⟨_,rfl,Ch.imp_of (show (Ch.rd 1 7 fun i=>cE ((AN ps 7).getD i aCi)) = .rd 1 (AN ps 7).length _ from by rw [h7])⟩,trivial⟩
  ·refine ⟨⟨Nat.le_of_eq h7,fun x hx=>?_⟩,g2,g3⟩
   unfold AN at hx
   rcases List.mem_append.1 hx with hx | hx
   ·exact hfin.2 x hx
   ·rw [(List.mem_replicate.1 hx).2];exact hfin.2 _ (cJ (by omega))
end
section
theorem JO (xs:List GCell) (hx:dF xs=true) (but:List Int) (hl:but.length≤1048576):Ans Tryz.prog 250 [] [vL 2 cX aCo xs,vL 1 bS 0 but] [] (vI (qQ xs fun s=>decide (s ∈ but))):=by
 have h6:=xP hx
 refine aE Tryz.func250 fun B0 r_ D_ w0=>?_
 refine aF ?_
 refine aH (vG xs) ?_
 refine eF rfl (fun e=>by rw [hx] at e;cases e) (fun _=>?_)
 refine aF ?_
 refine aK (ι:=Nat) (fun i=>[(5,vI i)]) (fun _=>[]) (fun i=>i≤6∧∀ j,j<i→pR xs (fun s=>decide (s ∈ but)) j=false) (fun i=>6 - i) 0 [] [] ⟨Nat.zero_le _,fun j hj=>absurd hj (Nat.not_lt_zero _)⟩ ?_
 intro i ⟨h1,h2⟩
 refine aF ?_
 refine aI (fun e=>?_) (fun e=>?_)
 ·have hi:i<6:=by omega
  refine aF ?_
  refine aH (AL _) ?_
  refine aH (pC _) ?_
  refine aH (mW but hl _) ?_
  refine aA (b:=pR xs (fun s=>decide (s ∈ but)) i) (fun e2=>?_) (fun e2=>?_)
  ·refine aF ?_
   exact aJ [(4,none)] ((OP hi h2 e2).symm)
  ·refine aF ?_
   exact aL (i+1) ⟨hi,b5 h2 e2⟩ (by omega)
 ·refine aF ?_
  exact dK TT_ok [(4,none)] rfl rfl ((PL fun j hj=>h2 j (by omega)).symm)
theorem XU {t:GTx} {r s:Int}:(bif decide (cI (eG r s) t.reads ≥ 0) then true else decide (cI (dS r s) t.sets ≥ 0))=t8 t r s:=by
 unfold t8
 have h1:decide (cI (eG r s) t.reads ≥ 0)=t.reads.any (eG r s):=by
  rw [Bool.eq_iff_iff,decide_eq_true_iff];exact gJ (z:=aCn)
 have h2:decide (cI (dS r s) t.sets ≥ 0)=t.sets.any (dS r s):=by
  rw [Bool.eq_iff_iff,decide_eq_true_iff];exact gJ (z:=aCm)
 rw [h1,h2]
def w9 (t:GTx) (r:Int) (n:Nat):List Int:=((List.range n).filter fun s:Nat=>t8 t r s).map fun s:Nat=>(s:Int)
theorem NQ (t:GTx) (r:Int) (n:Nat):(w9 t r n).length≤n:=by
 unfold w9
 rw [List.length_map]
 exact Nat.le_trans (List.length_filter_le _ _) (by simp)
theorem Z0 {t:GTx} {r:Int} {s:Nat} (hs:s<6):decide ((s:Int) ∈ w9 t r 6)=t8 t r s:=by
 rw [Bool.eq_iff_iff,decide_eq_true_iff]
 unfold w9
 rw [List.mem_map]
 constructor
 ·rintro ⟨n,h1,h2⟩
  have:n=s:=by omega
  subst this
  exact (List.mem_filter.1 h1).2
 ·intro h
  exact ⟨s,List.mem_filter.2 ⟨by simpa using hs,h⟩,rfl⟩
theorem LW (t:GTx) (r:Int) (n:Nat):w9 t r (n+1)=if t8 t r n then w9 t r n ++ [(n:Int)] else w9 t r n:=by
 unfold w9
 rw [List.range_succ,List.filter_append,List.map_append]
 by_cases h:t8 t r n
 ·rw [if_pos h];simp [h]
 ·rw [if_neg h];simp [h]
theorem tW (c:GCluster) (hb:D.bds dJ (bO c)) (id r:Int):aAv Tryz.prog 190 [vR (bO c),vI id,vI r] (iM c id r).1 (iM c id r).2.1 (iM c id r).2.2:=by
 have b1:c.places.length≤1048576:=hb.2.2.1.1
 have b3:c.txs.length≤1048576:=hb.2.2.2.2.1.1
 refine aE Tryz.func190 fun B0 r_ D_ w0=>?_
 refine aT ?_
 refine aU 3 fun r_=>?_
 refine aF ?_
 refine aR (yW c hb id) fun _ _=>?_
 refine aN ?_
 by_cases hok:ClusOk c
 ·by_cases h0:dG c id=0
  ·have hge:=(jS h0).2.2
   have hlt:=gO (c:=c) (id:=id)
   have hin:=dW hge
   have ht:=hok.tx hin.1
   have hl1:=ht.1.2.2.2.2.2.1
   have hl2:=ht.1.2.2.2.2.2.2
   have hsN:=tI ht.2.1
   rw [show iM c id r=if kG c (bT c id) r=0 then (t7 c id (yF c (bT c id) r),kF c (bT c id) r,0) else (c, -1,kG c (bT c id) r) from by unfold iM;rw [if_pos hok,if_pos h0]]
   rw [show jH c id=(bQ c id,0) from by unfold jH;rw [if_pos hok,if_pos h0]]
   refine aH (eA _ _ _) ?_
   refine aA (b := !inB r 0 ((c.places.length:Int) - 1)) (fun e=>?_) (fun e=>?_)
   ·have hN:kG c (bT c id) r=5:=by unfold kG;rw [e];rfl
    rw [if_neg (by rw [hN];decide),hN]
    refine aF ?_
    refine bX rfl (fun _=>?_) (fun e=>by cases e)
    refine aF ?_
    refine cO TT_ok (mK c hb 5 (by decide)) rfl rfl (aCu _) (fun _=>rfl) rfl rfl rfl fun _ _=>?_
    refine aN ?_
    refine aC (()) [(6,some 28),(7,none),(8,none)] ?_ ?_ ?_
    ·exact aCu _
    ·exact wM
    ·trivial
   have hr:=vV e
   have hpl:=hok.pl (r:=r.toNat) (by omega)
   have hm:=(hok.at (r:=r.toNat) (k:=0) (by omega) (by omega)).1
   have hP:=FW c hb hok r hr
   refine aF ?_
   refine bX rfl (fun e=>by cases e) (fun _=>?_)
   refine aF ?_
   cases ha:(bH c r.toNat 0).alive with
   | false =>
    rw [if_neg (by rw [ha];simp)] at hP
    have hN:kG c (bT c id) r=6:=by unfold kG;rw [e,ha];rfl
    rw [if_neg (by rw [hN];decide),hN]
    refine aR (hP) fun _ _=>?_
    refine aN ?_
    refine bX rfl (fun _=>?_) (fun e=>by cases e)
    refine aF ?_
    refine aR (fY c hb) fun _ _=>?_
    refine aN ?_
    refine aC (()) [(6,some 28),(7,none),(8,none)] ?_ ?_ ?_
    ·exact aCu _
    ·exact wM
    ·trivial
   | true =>
    rw [if_pos ha] at hP
    have hhas:=(hok.at (r:=r.toNat) (k:=0) (by omega) (by omega)).2 ha
    rw [Int.toNat_of_nonneg hr.1] at hhas
    have hix:=oE (z:=aCp) ((gJ (z:=aCp)).2 (show (bH c r.toNat 0).copies.any (atB r)=true from hhas))
    have hix2:0≤cI (atB r) (bH c r.toNat 0).copies∧cI (atB r) (bH c r.toNat 0).copies<(bH c r.toNat 0).copies.length:=⟨(gJ (z:=aCp)).2 hhas,by omega⟩
    have hco:=eW hhas
    have hcB:=(fH (hok.mach (r:=r.toNat) (k:=0) (by omega) (by omega)) hhas).2
    have hA:kG c (bT c id) r=bif decide (kF c (bT c id) r<0) then 9 else bif !(cD (bT c id) (jK c (bT c id) r)).2 then 9 else bif !eO (o4 c (bT c id) r) then 9 else bif !(eX (cD (bT c id) (jK c (bT c id) r)).1 (o4 c (bT c id) r)).2 then 9 else 0:=by
     unfold kG;rw [e,ha];rfl
    refine aR (hP) fun _ _=>?_
    refine aN ?_
    refine mC rfl (fun e=>absurd e (by omega)) (fun _=>?_)
    have hin2:0≤bQ c id∧bQ c id<c.txs.length:=⟨hge,hlt⟩
    refine aF ?_
    refine aM 90 (fun i=>bS (([]:List Int).getD i 0)) (fun i hi=>absurd hi (Nat.not_lt_zero _)) (mu1:=[]) ?_
    refine aN ?_
    refine aK (ι:=Nat) (fun i=>[(17,vI i),(16, .a (.g 90))]) (fun i=>[(90,bE 1 bS 0 (w9 (bT c id) r i))]) (fun i=>i≤6) (fun i=>6 - i) 0 [90] [90] (Nat.zero_le _) ?_
    intro i h1
    refine aF ?_
    refine aI (fun e2=>?_) (fun e2=>?_)
    ·have hi:i<6:=by omega
     have hle:=NQ (bT c id) r i
     refine aF ?_
     refine l4 TT_ok (zC (bT c id) (Nat.le_trans hl1 (by decide)) r i) rfl rfl rfl rfl rfl ?_
     refine l4 TT_ok (FL (bT c id) (Nat.le_trans hl2 (by decide)) r i) rfl rfl rfl rfl rfl ?_
     rw [XU]
     refine aA (b:=t8 (bT c id) r i) (fun e3=>?_) (fun e3=>?_)
     ·refine aF ?_
      refine cV TT_ok 85 (fun _=>bS (i:Int)) rfl rfl rfl rfl rfl rfl rfl (fun i hi=>by rcases i with _ | i <;>first | rfl | omega) (mu1:=[]) rfl rfl rfl ?_
      refine aN ?_
      refine cU TT_ok 90 85 86 rfl rfl rfl rfl rfl rfl rfl rfl rfl rfl rfl rfl ⟨by show ((w9 (bT c id) r i).length+1) * 8≤_;omega,by unfold maxL;omega⟩ ?_
      refine aN ?_
      refine bC (bL 90 86) ?_
      exact bN (i+1) hi (by omega) wF ⟨⟨_,rfl,fJ (x:=(i:Int)) (by rw [LW,if_pos e3]) rfl⟩,wM⟩
     ·refine aF ?_
      exact bN (i+1) hi (by omega) wF ⟨⟨_,rfl,bP (by rw [LW,if_neg (by rw [e3];simp)])⟩,wM⟩
    have hi:i=6:=by omega
    subst hi
    have hble:=NQ (bT c id) r 6
    refine aF ?_
    refine l4 TT_ok (JO _ (by rw [← hco];exact hcB) (w9 (bT c id) r 6) (by omega)) rfl rfl rfl rfl rfl ?_
    rw [show qQ _ (fun s=>decide (s ∈ w9 (bT c id) r 6))=kF c (bT c id) r from by
     unfold kF
     rw [hco]
     exact R9 fun s hs=>Z0 hs]
    refine aI (fun e4=>?_) (fun e4=>?_)
    ·have hN:kG c (bT c id) r=9:=by rw [hA,decide_eq_true e4];rfl
     rw [if_neg (by rw [hN];decide),hN]
     refine aF ?_
     refine aR (fY c hb) fun _ _=>?_
     refine aN ?_
     refine aC (()) [(6,some 28),(7,none),(8,none)] ?_ ?_ ?_
     ·exact aCu _
     ·exact wM
     ·trivial
    rw [decide_eq_false e4] at hA
    have hs:0≤kF c (bT c id) r∧kF c (bT c id) r≤5:=by
     refine ⟨by omega,?_⟩
     unfold kF
     rcases PK (xs:=cellsOf (bH c r.toNat 0) r) (b:=t8 (bT c id) r) with ⟨h1,_⟩ | ⟨i,h1,h2,_⟩ <;>omega
    obtain ⟨c1,c2,c3⟩:=E8 hok hr hs ha
    have hh:=kR.1 c2
    have hv:0≤(gN c r (kF c (bT c id) r)).head.tdiv 4∧(gN c r (kF c (bT c id) r)).head.tdiv 4≤1000000:=by
     rw [Int.tdiv_eq_ediv_of_nonneg hh.1];omega
    have hlen:0≤kF c (bT c id) r∧kF c (bT c id) r<((bH c r.toNat 0).copies.getD (cI (atB r) (bH c r.toNat 0).copies).toNat aCp).cells.length:=by rw [← hco,c1];omega
    have hcell:((bH c r.toNat 0).copies.getD (cI (atB r) (bH c r.toNat 0).copies).toNat aCp).cells.getD (kF c (bT c id) r).toNat aCo=gN c r (kF c (bT c id) r):=by rw [← hco];rfl
    refine aF ?_
    rw [hcell]
    refine aH (mF _) ?_
    rw [show yN (gN c r (kF c (bT c id) r)).head=DH c (bT c id) r from by unfold DH yN;rw [if_pos c2]]
    have hNB:iX (jK c (bT c id) r)=true:=by
     have h6:=hok.2.1.1.2
     unfold iX jK
     rw [b6.2 (show (0:Int)≤r∧r≤5 from by omega),b6.2 (show (0:Int)≤kF c (bT c id) r∧kF c (bT c id) r≤5 from hs)]
     dsimp only
     rw [b6.2 (show (0:Int)≤DH c (bT c id) r∧DH c (bT c id) r≤1000000 from hv)]
     rfl
    have hbt:D.bds dJ (cTx (bT c id)):=FH _ (Nat.le_trans (DS ht) (by decide))
    refine aR (aCv 901 161 (aCv 902 162 (mB (bT c id) hbt (jK c (bT c id) r)))) fun _ _=>?_
    refine aN ?_
    cases h1:(cD (bT c id) (jK c (bT c id) r)).2 with
    | false =>
     have hN:kG c (bT c id) r=9:=by rw [hA,h1];rfl
     rw [if_neg (by rw [hN];decide),hN]
     rw [show d8 (bT c id) (jK c (bT c id) r)=(aCk,false) from by unfold d8;rw [if_neg fun h=>by rw [h1] at h;cases h.2.2]]
     refine bX rfl (fun _=>?_) (fun e=>by cases e)
     refine aF ?_
     refine aR (fY c hb) fun _ _=>?_
     refine aN ?_
     refine aC (()) [(6,some 28),(7,none),(8,none)] ?_ ?_ ?_
     ·exact aCu _
     ·exact wM
     ·trivial
    | true =>
     rw [h1] at hA
     rw [show d8 (bT c id) (jK c (bT c id) r)=((cD (bT c id) (jK c (bT c id) r)).1,true) from by unfold d8;rw [if_pos ⟨ht,hNB,h1⟩]]
     have ht1:=(xL ht hNB).1
     have hbt1:D.bds dJ (cTx (cD (bT c id) (jK c (bT c id) r)).1):=FH _ (Nat.le_trans (DS ht1) (by decide))
     refine bX rfl (fun e=>by cases e) (fun _=>?_)
     refine aF ?_
     refine aR (aCv 901 171 (aCv 902 172 (mY (cD (bT c id) (jK c (bT c id) r)).1 hbt1 (o4 c (bT c id) r)))) fun _ _=>?_
     refine aN ?_
     by_cases h2:eO (o4 c (bT c id) r)=true∧(eX (cD (bT c id) (jK c (bT c id) r)).1 (o4 c (bT c id) r)).2=true
     ·have hN:kG c (bT c id) r=0:=by rw [hA,h2.1,h2.2];rfl
      rw [if_pos hN]
      rw [show eK (cD (bT c id) (jK c (bT c id) r)).1 (o4 c (bT c id) r)=(yF c (bT c id) r,true) from by unfold eK;rw [if_pos ⟨ht1,h2.1,h2.2⟩];rfl]
      refine bX rfl (fun e=>by cases e) (fun _=>?_)
      refine aF ?_
      refine aR (fY c hb) fun _ _=>?_
      refine aN ?_
      refine eY (d6 903 (bQ c id) 77 rfl rfl rfl rfl rfl rfl ⟨hge,hlt⟩) ?_
      refine eY (kL 142 rfl rfl rfl) ?_
      refine aN ?_
      refine bB (a9 77 4 171) ?_
      refine bB (a9 77 5 172) ?_
      refine bB (a8 903 77) ?_
      refine aC (()) [(6,some 28),(7,none),(8,none)] ?_ ?_ ?_
      ·exact aCu _
      ·exact ⟨⟨_,rfl,aCt _⟩,⟨_,rfl,aCt _⟩,⟨_,rfl,cG (OwnI.refl _)⟩,trivial⟩
      ·trivial
     ·have hN:kG c (bT c id) r=9:=by
       rw [hA]
       cases g1:eO (o4 c (bT c id) r) with
       | false=>rfl
       | true =>
        cases g2:(eX (cD (bT c id) (jK c (bT c id) r)).1 (o4 c (bT c id) r)).2 with
        | false=>rfl
        | true=>exact absurd ⟨g1,g2⟩ h2
      rw [if_neg (by rw [hN];decide),hN]
      rw [show eK (cD (bT c id) (jK c (bT c id) r)).1 (o4 c (bT c id) r)=(aCk,false) from by unfold eK;rw [if_neg fun h=>h2 h.2]]
      refine bX rfl (fun _=>?_) (fun e=>by cases e)
      refine aF ?_
      refine aR (fY c hb) fun _ _=>?_
      refine aN ?_
      refine aC (()) [(6,some 28),(7,none),(8,none)] ?_ ?_ ?_
      ·exact aCu _
      ·exact wM
      ·trivial
  ·rw [show iM c id r=(c, -1,dG c id) from by unfold iM;rw [if_pos hok,if_neg h0]]
   rw [show jH c id=(-1,dG c id) from by unfold jH;rw [if_pos hok,if_neg h0]]
   refine aH (eA _ _ _) ?_
   rw [show (dG c id == 0)=false from by simpa using h0]
   refine bX rfl (fun e=>by cases e) (fun _=>?_)
   refine aF ?_
   refine fO rfl (fun e=>?_) (fun e=>absurd e h0)
   refine aF ?_
   have h1:dG c id≠1:=by
    unfold dG
    cases decide (bQ c id<0) <;>cases jE c id <;>cases (bT c id).phase == 1 <;>decide
   refine aR (mK c hb (dG c id) h1) fun _ _=>?_
   refine aN ?_
   refine aC (()) [(6,some 28),(7,none),(8,none)] ?_ ?_ ?_
   ·exact aCu _
   ·exact wM
   ·trivial
 ·rw [show iM c id r=(aCl, -1,1) from if_neg hok]
  rw [show jH c id=(-1,1) from if_neg hok]
  refine aH (eA _ _ _) ?_
  refine bX rfl (fun e=>by cases e) (fun _=>?_)
  refine aF ?_
  refine bX rfl (fun _=>?_) (fun e=>by cases e)
  refine aF ?_
  refine aR (tA c) fun _ _=>?_
  refine aN ?_
  refine aC (()) [(6,some 28),(7,none),(8,none)] ?_ ?_ ?_
  ·exact aCu _
  ·exact wM
  ·trivial
end
section
theorem More.refl {ms:List GMachine} (h:∀ j,j<ms.length→dO (ms.getD j aCj)):More ms ms:=⟨rfl,fun j hj=>⟨h j hj,rfl,fun _ hq=>hq⟩⟩
theorem More.trans {a b c:List GMachine} (h:More a b) (k:More b c):More a c:=⟨k.len.trans h.len,fun j hj=>by
 have hb:j<b.length:=by rw [← k.len];exact hj
 obtain ⟨q1,q2,q3⟩:=k.ok j hj
 obtain ⟨p1,p2,p3⟩:=h.ok j hb
 exact ⟨q1,q2.trans p2,fun q hq=>q3 q (p3 q hq)⟩⟩
theorem NB {ms:List GMachine} (hm:∀ j,j<ms.length→dO (ms.getD j aCj)) {old l:List Int} {r:Int} (hr:0≤r∧r≤5) {xs:List GCell} (hx:dF xs=true) (hl:∀ x ∈ l,0≤x∧x<ms.length) (ho:∀ x ∈ l,x ∈ old→dX (ms.getD x.toNat aCj) r=true):∀ k,k≤l.length→∀ i,i<k→dX ((iI old l r xs k ms).getD (l.getD i 0).toNat aCj) r=true
 | 0,_,i,hi=>absurd hi (Nat.not_lt_zero _)
 | k+1,hk,i,hi=>by
  have ih:=NB hm hr hx hl ho (old:=old) k (by omega)
  have hM:=nC (old:=old) hr hx hl (More.refl hm) k (by omega)
  have hlk:l.getD k 0 ∈ l:=cJ (z:=0) (by omega)
  have hli:l.getD i 0 ∈ l:=cJ (z:=0) (by omega)
  have hin:=hl _ hlk
  have hi2:=hl _ hli
  rw [iI]
  by_cases c:l.getD k 0 ∈ old
  ·rw [if_pos c]
   by_cases e:i<k
   ·exact ih i e
   ·have:i=k:=by omega
    subst this
    exact (hM.ok _ (by rw [hM.len];omega)).2.2 r (ho _ hli c)
  ·rw [if_neg c,lA (by rw [hM.len];omega)]
   by_cases e:(l.getD i 0).toNat=(l.getD k 0).toNat
   ·rw [if_pos e,LL,decide_eq_true rfl];cases dX _ r <;>rfl
   ·rw [if_neg e]
    have:i<k:=by
     rcases Nat.lt_or_ge i k with h | h
     ·exact h
     ·have:i=k:=by omega
      subst this;exact absurd rfl e
    exact ih i this
theorem M1 {c:GCluster} (hok:ClusOk c) (hl:(jU c).length=0) {ms:List GMachine} (h:More c.machines ms) {r:Nat} (hr:r<c.places.length) :
  More (gX c.places (bK c) r ms) (gX c.places (bK c) (r+1) ms)∧∀ x ∈ ((bK c).getD r aCi).machines,dX ((gX c.places (bK c) (r+1) ms).getD x.toNat aCj) r=true:=by
 have ih:=m3 hok hl h r (by omega)
 have np:=xR hok hl hr
 have h5:=hok.2.1.1.2
 have hf:0≤iQ c r∧iQ c r<c.machines.length:=np.rng _ (cJ (z:=0) np.pos)
 obtain ⟨q1,q2,q3⟩:=ih.ok (iQ c r).toNat (by rw [ih.len];omega)
 have hcb:=(fH q1 (q3 _ np.has)).2
 have hrr:0≤(r:Int)∧(r:Int)≤5:=by omega
 have hmo:∀ j,j<(gX c.places (bK c) r ms).length→dO ((gX c.places (bK c) r ms).getD j aCj):=fun j hj=>(ih.ok j hj).1
 have hrng:∀ x ∈ ((bK c).getD r aCi).machines,0≤x∧x<(gX c.places (bK c) r ms).length:=fun x hx=>by rw [ih.len];exact np.rng x hx
 have hold:∀ x ∈ ((bK c).getD r aCi).machines,x ∈ (c.places.getD r aCi).machines→dX ((gX c.places (bK c) r ms).getD x.toNat aCj) (r:Int)=true:=fun x hx ho=>by
  obtain ⟨k,hk,e⟩:=gW.1 ho
  have h3:=(hok.at hr hk).2
  have e2:mAt c r k=x:=e
  unfold bH at h3
  rw [e2] at h3
  have hx2:=np.rng x hx
  exact (ih.ok x.toNat (by rw [ih.len];omega)).2.2 _ (h3 (np.alive x hx))
 rw [gX]
 refine ⟨nC hrr hcb hrng (More.refl hmo) _ (Nat.le_refl _),fun x hx=>?_⟩
 obtain ⟨i,hi,e⟩:=gW.1 hx
 rw [← e]
 exact NB hmo hrr hcb hrng hold _ (Nat.le_refl _) i hi
theorem LP {c:GCluster} (hok:ClusOk c) (hl:(jU c).length=0) {ms:List GMachine} (h:More c.machines ms) {r:Nat}:∀ n,r+n≤c.places.length→More (gX c.places (bK c) r ms) (gX c.places (bK c) (r+n) ms)
 | 0,hn=>More.refl fun j hj=>((m3 hok hl h r (by omega)).ok j hj).1
 | n+1,hn=>(LP hok hl h n (by omega)).trans (M1 hok hl h (r:=r+n) (by omega)).1
theorem ZG {c:GCluster} (hok:ClusOk c) (hl:(jU c).length=0) {ms:List GMachine} (h:More c.machines ms) {r:Nat} (hr:r<c.places.length) {x:Int} (hx:x ∈ ((bK c).getD r aCi).machines):dX ((gX c.places (bK c) c.places.length ms).getD x.toNat aCj) r=true:=by
 have h1:=(M1 hok hl h hr).2 x hx
 have h2:=LP hok hl h (r:=r+1) (c.places.length - (r+1)) (by omega)
 rw [show r+1+(c.places.length - (r+1))=c.places.length by omega] at h2
 have hx2:=(xR hok hl hr).rng x hx
 have hM:=m3 hok hl h c.places.length (Nat.le_refl _)
 exact (h2.ok x.toNat (by rw [hM.len];omega)).2.2 _ h1
theorem FX {l:List Int} {k:Nat}:xT l k=false ↔ (0≤l.getD k 0∧l.getD k 0≤7)∧¬ l.getD k 0 ∈ l.take k:=by
 unfold xT
 rw [cF]
 constructor
 ·rintro ⟨h1,h2⟩
  exact ⟨b6.1 (by simpa using h1),of_decide_eq_false h2⟩
 ·rintro ⟨h1,h2⟩
  exact ⟨by rw [b6.2 h1];rfl,decide_eq_false h2⟩
theorem WD {l:List Int} (h:l.Nodup) {k:Nat} (hk:k<l.length):¬ l.getD k 0 ∈ l.take k:=fun hm=>by
 obtain ⟨j,hj,e⟩:=gW.1 hm
 rw [List.length_take] at hj
 have hj2:j<l.length:=by omega
 rw [m5 (by rw [List.length_take];omega)] at e
 have:=List.pairwise_iff_getElem.1 h j k hj2 hk (by omega)
 simp only [List.getD_eq_getElem?_getD,List.getElem?_eq_getElem hj2,List.getElem?_eq_getElem hk,Option.getD_some] at e
 exact this e
theorem V1 {l:List Int} (h:∀ k,k<l.length→¬ l.getD k 0 ∈ l.take k):l.Nodup:=by
 refine List.pairwise_iff_getElem.2 fun i j hi hj hij e=>h j hj ?_
 refine gW.2 ⟨i,by rw [List.length_take];omega,?_⟩
 rw [m5 (by rw [List.length_take];omega)]
 simp only [List.getD_eq_getElem?_getD,List.getElem?_eq_getElem hi,List.getElem?_eq_getElem hj,Option.getD_some]
 exact e
theorem GA {al:List Bool} {next:List Int} (h:next.Nodup):∀ k,(dH al next k).Nodup
 | 0=>h
 | k+1=>by
  have ih:=GA h k (al:=al)
  rw [dH]
  by_cases c:(k:Int) ∈ dH al next k
  ·rw [decide_eq_true c]
   cases (bif al.getD k false then decide (((dH al next k).length:Int)<3) else false) <;>exact ih
  ·cases (bif bif al.getD k false then decide (((dH al next k).length:Int)<3) else false then !decide ((k:Int) ∈ dH al next k) else false) with
   | false=>exact ih
   | true =>
    rw [cond_true]
    exact List.nodup_append.2 ⟨ih,by simp,fun a ha b hb=>by
     have:b=(k:Int):=by simpa using hb
     rintro rfl;exact c (this ▸ ha)⟩
theorem VB {c:GCluster} (hok:ClusOk c) (hl:(jU c).length=0):PlOk (bK c):=by
 have hql:(bK c).length=c.places.length:=List.length_map _
 refine ⟨by rw [hql];exact hok.2.1.1,fun r hr=>?_⟩
 rw [hql] at hr
 have np:=xR hok hl hr
 refine ⟨⟨np.pos,np.le⟩,fun k hk=>FX.2 ⟨?_,WD ?_ hk⟩⟩
 ·have:=np.rng _ (cJ (z:=0) hk)
  have:=hok.1.2.2.1
  omega
 ·have hkp:=ER hl r hr
  have hq:((bK c).getD r aCi).machines=dH (fQ c) (fT (fQ c) (c.places.getD r aCi)) (fQ c).length:=by
   rw [bK,m7 (za:=aCi) _ hr]
   unfold n4
   rw [if_neg hkp]
  rw [hq]
  refine GA ?_ _
  unfold fT
  exact (V1 fun k hk=>(FX.1 ((hok.2.1.2 r hr).2 k hk)).2).sublist List.filter_sublist
theorem TJ {c:GCluster} (hok:ClusOk c) (hcf:c.config≠1000000) (hl:(jU c).length=0):ClusOk (j9 c):=by
 have hR:=qS hok c.txs.length (Nat.le_refl _)
 have hokd:=hR.ok hok
 have hM0:More c.machines (dU c c.txs.length).machines:=hR.like.more
 have hM:=m3 hok hl hM0 c.places.length (Nat.le_refl _)
 have hql:(bK c).length=c.places.length:=List.length_map _
 have hcg:=hok.1.1
 refine ⟨⟨by show 1≤c.config+1∧c.config+1≤1000000;omega,hok.1.2.1,by show 1≤(gX _ _ _ _).length∧_;rw [hM.len];exact hok.1.2.2.1,by show (dU c c.txs.length).txs.length≤60;rw [hR.len];exact hok.1.2.2.2⟩,VB hok hl,fun j hj=>(hM.ok j hj).1,fun r hr k hk=>?_,fun j hj=>?_⟩
 ·have hr:r<(bK c).length:=hr
  rw [hql] at hr
  have hk:k<((bK c).getD r aCi).machines.length:=hk
  have hx:=ZG hok hl hM0 hr (cJ (z:=0) hk)
  have hrg:=(xR hok hl hr).rng _ (cJ (z:=0) hk)
  unfold o8
  have e1:mAt (j9 c) r k=((bK c).getD r aCi).machines.getD k 0:=rfl
  rw [e1]
  show (bif decide (_ ≥ ((gX c.places (bK c) c.places.length (dU c c.txs.length).machines).length:Int)) then true else bif ((gX c.places (bK c) c.places.length (dU c c.txs.length).machines).getD _ aCj).alive then !dX ((gX c.places (bK c) c.places.length (dU c c.txs.length).machines).getD _ aCj) (r:Int) else false)=false
  rw [hM.len,decide_eq_false (by omega),cond_false,hx]
  cases ((gX c.places (bK c) c.places.length (dU c c.txs.length).machines).getD _ aCj).alive <;>rfl
 ·have g:=hokd.2.2.2.2 j hj
  refine ⟨?_,by show ∀ k,k<_→_<((bK c).length:Int);rw [hql];have:=g.2.1;rw [hR.places] at this;exact this,by show ∀ k,k<_→_<((bK c).length:Int);rw [hql];have:=g.2.2;rw [hR.places] at this;exact this⟩
  have g1:=g.1
  unfold l0 at g1 ⊢
  rw [hR.like.len,hR.clock] at g1
  show (bif (bif (bif !dec (eN ((dU c c.txs.length).txs.getD j aCk)) then true else _) then true else decide (_ ≥ ((gX c.places (bK c) c.places.length (dU c c.txs.length).machines).length:Int))) then true else decide (_ > c.clock))=false
  rw [hM.len];exact g1
end
section
theorem Z3:dO aCj:=⟨⟨Nat.zero_le _,Nat.zero_le _,Nat.zero_le _⟩,rfl,fun j hj=>absurd hj (Nat.not_lt_zero _),fun j hj=>absurd hj (Nat.not_lt_zero _)⟩
theorem BH {c:GCluster} {m0:Int} (hk:lL c.machines m0=true) (j:Nat):(fX c.machines m0).getD j aCj=if j=m0.toNat then aCj else c.machines.getD j aCj:=by
 have:=sD hk
 unfold fX
 rw [if_pos hk,lA (by omega)]
theorem uW (ms:List GMachine) (m0:Int):(fX ms m0).length=ms.length:=by unfold fX;split <;>simp
abbrev vZ (c:GCluster) (m0:Int):GCluster:={ c with machines:=fX c.machines m0 }
theorem K3 {c:GCluster} (hok:ClusOk c) {m0:Int} (hk:lL c.machines m0=true):ClusOk (vZ c m0):=by
 refine ⟨⟨hok.1.1,hok.1.2.1,by show 1≤(fX c.machines m0).length∧(fX c.machines m0).length≤8;rw [uW];exact hok.1.2.2.1,hok.1.2.2.2⟩,hok.2.1,fun j hj=>?_,fun r hr k hkk=>?_,fun j hj=>?_⟩
 ·have hj:j<(fX c.machines m0).length:=hj
  rw [uW] at hj
  show dO ((fX c.machines m0).getD j aCj)
  rw [BH hk]
  split
  ·exact Z3
  ·exact hok.2.2.1 j hj
 ·have g:=hok.2.2.2.1 r hr k hkk
  unfold o8 at g ⊢
  show (bif decide (mAt c r k ≥ ((fX c.machines m0).length:Int)) then true else bif ((fX c.machines m0).getD (mAt c r k).toNat aCj).alive then !dX ((fX c.machines m0).getD (mAt c r k).toNat aCj) r else false)=false
  rw [uW,BH hk]
  split
  ·cases c1:decide (mAt c r k ≥ (c.machines.length:Int)) with
   | true=>rw [c1] at g;cases g
   | false=>rfl
  ·exact g
 ·have g:=hok.2.2.2.2 j hj
  refine ⟨?_,g.2⟩
  have g1:=g.1
  unfold l0 at g1 ⊢
  show (bif (bif (bif !dec (eN (c.txs.getD j aCk)) then true else _) then true else decide (_ ≥ ((fX c.machines m0).length:Int))) then true else decide (_ > c.clock))=false
  rw [uW];exact g1
theorem Y3 {c:GCluster} (hok:ClusOk c):∀ {i j:Nat},i<j→j<c.txs.length→(c.txs.getD i aCk).id<(c.txs.getD j aCk).id:=fun {i j} hij hj=>by
 have h1:∀ k,k+1<c.txs.length→(c.txs.getD k aCk).id<(c.txs.getD (k+1) aCk).id:=fun k hk=>by
  have g:=(hok.2.2.2.2 (k+1) hk).1
  unfold l0 at g
  have g:=(cF.1 (cF.1 (cF.1 g).1).1).2
  rw [decide_eq_true (show ((k+1:Nat):Int) > 0 by omega),cond_true,show (((k+1:Nat):Int) - 1).toNat=k by omega] at g
  have:=of_decide_eq_false g
  omega
 induction j with
 | zero=>omega
 | succ j ih =>
  have:=h1 j hj
  by_cases e:i=j
  ·subst e;exact this
  ·have:=ih (by omega) (by omega);omega
abbrev sH (c:GCluster) (id home:Int):GCluster:={ c with txs:=c.txs ++ [oB id home] }
theorem WO {c:GCluster} {id:Int} (h:n9 c id=false):(1≤id∧id≤1000000)∧c.txs.length≠60∧(0<c.txs.length→(c.txs.getD (c.txs.length - 1) aCk).id<id):=by
 unfold n9 at h
 obtain ⟨h1,h2⟩:=cF.1 h
 obtain ⟨h3,h4⟩:=cF.1 h1
 refine ⟨b6.1 (by simpa using h3),fun e=>?_,fun hp=>?_⟩
 ·have:=of_decide_eq_false h4;omega
 ·rw [decide_eq_true (by omega),cond_true] at h2
  have:=of_decide_eq_false h2
  rw [show ((c.txs.length:Int) - 1).toNat=c.txs.length - 1 by omega] at this
  omega
theorem S5 {c:GCluster} (hok:ClusOk c) {id:Int} (h:n9 c id=false) {j:Nat} (hj:j<c.txs.length):(c.txs.getD j aCk).id<id:=by
 have h3:=(WO h).2.2 (by omega)
 by_cases e:j=c.txs.length - 1
 ·rw [e];exact h3
 ·have:=Y3 hok (i:=j) (j:=c.txs.length - 1) (by omega) (by omega)
  omega
theorem FK (c:GCluster) (id home:Int) (j:Nat):(sH c id home).txs.getD j aCk=if j<c.txs.length then c.txs.getD j aCk else if j=c.txs.length then oB id home else aCk:=by
 show (c.txs ++ [oB id home]).getD j aCk=_
 simp only [List.getD_eq_getElem?_getD]
 by_cases c1:j<c.txs.length
 ·rw [if_pos c1,List.getElem?_append_left c1]
 ·rw [if_neg c1,List.getElem?_append_right (by omega)]
  by_cases c2:j=c.txs.length
  ·rw [if_pos c2,c2,Nat.sub_self];rfl
  ·rw [if_neg c2]
   rw [List.getElem?_eq_none (by simp;omega)];rfl
theorem aBb {id home:Int} (h1:1≤id∧id≤1000000) (h2:0≤home∧home≤7):eN (oB id home):=by
 refine ⟨?_,?_,?_⟩
 ·unfold nK oB
  simp only [List.length_nil]
  omega
 ·exact fun j hj=>absurd hj (Nat.not_lt_zero _)
 ·exact fun j hj=>absurd hj (Nat.not_lt_zero _)
theorem WE {c:GCluster} (hok:ClusOk c) {id home:Int} (h:n9 c id=false) (h3:qP c home=false):ClusOk (sH c id home):=by
 obtain ⟨i1,i2,i3⟩:=WO h
 have hh:0≤home∧home<c.machines.length:=by
  unfold qP at h3
  have:=b6.1 (show inB home 0 ((c.machines.length:Int) - 1)=true by simpa using (cF.1 h3).1)
  omega
 have hml:=hok.1.2.2.1
 have hlen:(sH c id home).txs.length=c.txs.length+1:=by show (c.txs ++ [oB id home]).length=_;simp
 refine ⟨⟨hok.1.1,hok.1.2.1,hok.1.2.2.1,by rw [hlen];have:=hok.1.2.2.2;omega⟩,hok.2.1,hok.2.2.1,hok.2.2.2.1,fun j hj=>?_⟩
 rw [hlen] at hj
 have hg:=FK c id home
 by_cases c1:j<c.txs.length
 ·have g:=hok.2.2.2.2 j c1
  have e1:=hg j
  rw [if_pos c1] at e1
  unfold l0
  rw [e1]
  refine ⟨?_,g.2⟩
  have g1:=g.1
  unfold l0 at g1
  by_cases c2:(j:Int) > 0
  ·have e2:=hg ((j:Int) - 1).toNat
   rw [if_pos (by omega)] at e2
   rw [e2];exact g1
  ·rw [decide_eq_false c2] at g1 ⊢;exact g1
 ·have hj2:j=c.txs.length:=by omega
  subst hj2
  have e1:=hg c.txs.length
  rw [if_neg (Nat.lt_irrefl _),if_pos rfl] at e1
  unfold l0
  rw [e1]
  refine ⟨?_,fun k hk=>absurd hk (Nat.not_lt_zero _),fun k hk=>absurd hk (Nat.not_lt_zero _)⟩
  rw [cN (aBb i1 (by omega))]
  refine cF.2 ⟨cF.2 ⟨cF.2 ⟨rfl,?_⟩,decide_eq_false (by show ¬ home ≥ (c.machines.length:Int);omega)⟩,decide_eq_false (by show ¬ (0:Int) > c.clock;have:=hok.1.2.1;omega)⟩
  by_cases c2:((c.txs.length:Nat):Int) > 0
  ·have e2:=hg (((c.txs.length:Nat):Int) - 1).toNat
   rw [if_pos (by omega)] at e2
   rw [decide_eq_true c2,cond_true,e2]
   have:=S5 hok h (j:=(((c.txs.length:Nat):Int) - 1).toNat) (by omega)
   exact decide_eq_false (by show ¬ id≤_;omega)
  ·rw [decide_eq_false c2];rfl
end
section
def W5 (n m:Nat):Bool:=decide ((gF n m).length=n) && (List.range n).all fun r=>decide (1≤((gF n m).getD r aCi).machines.length∧((gF n m).getD r aCi).machines.length≤3) && (List.range 3).all fun k => !(decide (k<((gF n m).getD r aCi).machines.length) && xT ((gF n m).getD r aCi).machines k)
def aB2 (n m:Nat):Bool:=(List.range m).all fun i=>decide (((gQ n m).machines.getD i aCj).copies.length≤6) && (List.range 6).all fun j => !(decide (j<((gQ n m).machines.getD i aCj).copies.length) && sT ((gQ n m).machines.getD i aCj).copies j)
def aBO (n m:Nat):Bool:=(List.range n).all fun r=>(List.range 3).all fun k => !(decide (k<((gF n m).getD r aCi).machines.length) && o8 (gQ n m) r k)
theorem Y6:((List.range 6).all fun n=>(List.range 8).all fun m=>W5 (n+1) (m+1) && aB2 (n+1) (m+1) && aBO (n+1) (m+1))=true:=by decide +kernel
theorem A8 {n m:Nat} (hn:1≤n∧n≤6) (hm:1≤m∧m≤8):ClusOk (gQ n m):=by
 have h:=List.all_eq_true.1 Y6 (n - 1) (List.mem_range.2 (by omega))
 have h:=List.all_eq_true.1 h (m - 1) (List.mem_range.2 (by omega))
 rw [show n - 1+1=n by omega,show m - 1+1=m by omega] at h
 simp only [Bool.and_eq_true] at h
 obtain ⟨⟨h1,h2⟩,h3⟩:=h
 unfold W5 at h1
 simp only [Bool.and_eq_true,decide_eq_true_eq] at h1
 obtain ⟨h0,h1⟩:=h1
 have hml:(gQ n m).machines.length=m:=by show ((List.range m).map _).length=m;simp
 have hpl:∀ r,r<n→QL ((gF n m).getD r aCi):=fun r hr=>by
  have g:=List.all_eq_true.1 h1 r (List.mem_range.2 hr)
  simp only [Bool.and_eq_true,decide_eq_true_eq] at g
  refine ⟨g.1,fun k hk=>?_⟩
  have g2:=List.all_eq_true.1 g.2 k (List.mem_range.2 (by omega))
  rw [decide_eq_true hk] at g2
  simpa using g2
 refine ⟨⟨by show (1:Int)≤1∧(1:Int)≤1000000;omega,by show (0:Int)≤0∧(0:Int)≤1000000;omega,by rw [hml];exact hm,Nat.zero_le _⟩,⟨by show 1≤(gF n m).length∧(gF n m).length≤6;omega,fun r hr=>hpl r (by have hr:r<(gF n m).length:=hr;omega)⟩,fun i hi=>?_,fun r hr k hk=>?_,fun j hj=>absurd hj (Nat.not_lt_zero _)⟩
 ·rw [hml] at hi
  have g:=List.all_eq_true.1 h2 i (List.mem_range.2 hi)
  simp only [Bool.and_eq_true,decide_eq_true_eq] at g
  have e:(gQ n m).machines.getD i aCj=oT n m i:=by
   show ((List.range m).map (oT n m)).getD i aCj=_
   simp [List.getD_eq_getElem?_getD,hi]
  have hl:((gQ n m).machines.getD i aCj).log=[]:=by rw [e];rfl
  have hc:((gQ n m).machines.getD i aCj).cleared=[]:=by rw [e];rfl
  refine ⟨⟨g.1,by rw [hl];exact Nat.zero_le _,by rw [hc];exact Nat.zero_le _⟩,by rw [hc];rfl,fun j hj=>?_,fun j hj=>by rw [hl] at hj;exact absurd hj (Nat.not_lt_zero _)⟩
  have g2:=List.all_eq_true.1 g.2 j (List.mem_range.2 (by omega))
  rw [decide_eq_true hj] at g2
  simpa using g2
 ·have hr:r<(gF n m).length:=hr
  have hk:k<((gF n m).getD r aCi).machines.length:=hk
  have g:=List.all_eq_true.1 h3 r (List.mem_range.2 (by omega))
  have:=(hpl r (by omega)).1
  have g2:=List.all_eq_true.1 g k (List.mem_range.2 (by omega))
  rw [decide_eq_true hk] at g2
  simpa using g2
end
section
structure KeepT (t u:GTx):Prop where
 id:u.id=t.id
 home:u.home=t.home
 stamp:u.stamp=t.stamp
theorem KeepT.refl (t:GTx):KeepT t t:=⟨rfl,rfl,rfl⟩
theorem KeepT.trans {t u w:GTx} (h:KeepT t u) (k:KeepT u w):KeepT t w:=⟨k.id.trans h.id,k.home.trans h.home,k.stamp.trans h.stamp⟩
theorem E4 {c:GCluster} (hok:ClusOk c) {id:Int} (hf:0≤bQ c id) {u:GTx} (hk:KeepT (bT c id) u) (hu:TxIn c u):ClusOk (t7 c id u):=by
 have hi:=(dW hf).1
 have hget:∀ j,(c.txs.set (bQ c id).toNat u).getD j aCk=if j=(bQ c id).toNat then u else c.txs.getD j aCk:=fun j=>lA hi j
 have hid:∀ j,((c.txs.set (bQ c id).toNat u).getD j aCk).id=(c.txs.getD j aCk).id:=fun j=>by
  rw [hget];split
  ·rename_i e;subst e;exact hk.id
  ·rfl
 refine ⟨⟨hok.1.1,hok.1.2.1,hok.1.2.2.1,by show (c.txs.set _ u).length≤60;rw [List.length_set];exact hok.1.2.2.2⟩,hok.2.1,hok.2.2.1,hok.2.2.2.1,fun j hj=>?_⟩
 have hj:j<c.txs.length:=by
  have:j<(c.txs.set (bQ c id).toNat u).length:=hj
  rwa [List.length_set] at this
 have g:=hok.2.2.2.2 j hj
 have e2:(t7 c id u).txs=c.txs.set (bQ c id).toNat u:=rfl
 have e3:(t7 c id u).places=c.places:=rfl
 rw [e2,e3]
 refine ⟨?_,?_,?_⟩
 ·have g1:=g.1
  unfold l0 at g1 ⊢
  rw [e2]
  have e4:(t7 c id u).machines.length=c.machines.length:=rfl
  have e5:(t7 c id u).clock=c.clock:=rfl
  rw [e4,e5]
  obtain ⟨g2,g3⟩:=cF.1 g1
  obtain ⟨g4,g5⟩:=cF.1 g2
  obtain ⟨g6,g7⟩:=cF.1 g4
  rw [hid,hid]
  refine cF.2 ⟨cF.2 ⟨cF.2 ⟨?_,g7⟩,?_⟩,?_⟩
  ·rw [hget];split
   ·rw [cN hu.ok];rfl
   ·exact g6
  ·rw [hget];split
   ·exact decide_eq_false (by have:=hu.home;omega)
   ·exact g5
  ·rw [hget];split
   ·rename_i e;subst e;rw [hk.stamp];exact g3
   ·exact g3
 ·rw [hget];split
  ·exact fun k hk=>(hu.note k hk).2
  ·exact g.2.1
 ·rw [hget];split
  ·exact fun k hk=>(hu.set k hk).2
  ·exact g.2.2
theorem RC {t:GTx} {n:GNote}:∀ y ∈ (cD t n).1.reads,y ∈ t.reads∨y=n:=fun y hy=>by
 unfold cD at hy
 cases h1:t.reads.any (eG n.region n.slot) with
 | true=>rw [h1] at hy;exact .inl hy
 | false =>
  rw [h1] at hy
  cases h2:decide ((t.reads.length:Int)=12) with
  | true=>rw [h2] at hy;exact .inl hy
  | false =>
   rw [h2] at hy
   exact (pA.1 hy).symm
theorem yT (t:GTx) (n:GNote):KeepT t (cD t n).1∧(cD t n).1.phase=t.phase∧(cD t n).1.done=t.done:=by
 unfold cD
 cases t.reads.any (eG n.region n.slot) with
 | true=>exact ⟨.refl _,rfl,rfl⟩
 | false=>cases decide ((t.reads.length:Int)=12) <;>exact ⟨⟨rfl,rfl,rfl⟩,rfl,rfl⟩
theorem AK (t:GTx) (s:GSet):KeepT t (eX t s).1∧(eX t s).1.phase=t.phase∧(eX t s).1.done=t.done∧(eX t s).1.reads=t.reads:=by
 unfold eX
 cases t.sets.any (dS s.region s.slot) with
 | true=>exact ⟨⟨rfl,rfl,rfl⟩,rfl,rfl,rfl⟩
 | false=>cases decide ((t.sets.length:Int)=12) <;>exact ⟨⟨rfl,rfl,rfl⟩,rfl,rfl,rfl⟩
theorem T8 {t:GTx} {s:GSet}:∀ y ∈ (eX t s).1.sets,y ∈ t.sets∨y.region=s.region:=fun y hy=>by
 unfold eX at hy
 cases h1:t.sets.any (dS s.region s.slot) with
 | true =>
  rw [h1] at hy
  rcases List.mem_or_eq_of_mem_set hy with hy | rfl
  ·exact .inl hy
  ·exact .inr rfl
 | false =>
  rw [h1] at hy
  cases h2:decide ((t.sets.length:Int)=12) with
  | true=>rw [h2] at hy;exact .inl hy
  | false =>
   rw [h2] at hy
   rcases pA.1 hy with rfl | hy
   ·exact .inr rfl
   ·exact .inl hy
theorem IG {α:Type} {z:α} {P:α→Prop} {xs:List α}:(∀ k,k<xs.length→P (xs.getD k z)) ↔ ∀ x ∈ xs,P x:=by
 constructor
 ·intro h x hx
  obtain ⟨i,hi,rfl⟩:=List.mem_iff_getElem.1 hx
  have:=h i hi
  simpa [hi] using this
 ·exact fun h k hk=>h _ (cJ hk)
theorem H9 {c:GCluster} {t:GTx} (ht:TxIn c t) {n:GNote} (hn:iX n=true) (hr:0≤n.region∧n.region<c.places.length):TxIn c (cD t n).1:=by
 have hk:=(yT t n).1
 refine ⟨(xL ht.ok hn).1,by rw [hk.home];exact ht.home,(IG (z:=aCn) (P:=fun y:GNote=>0≤y.region∧y.region<c.places.length)).2 fun y hy=>?_,by rw [DL];exact ht.set⟩
 rcases RC y hy with hy | rfl
 ·exact (IG (z:=aCn) (P:=fun y:GNote=>0≤y.region∧y.region<c.places.length)).1 ht.note y hy
 ·exact hr
theorem MO {c:GCluster} {t:GTx} (ht:TxIn c t) {s:GSet} (hn:eO s=true) (hr:0≤s.region∧s.region<c.places.length):TxIn c (eX t s).1:=by
 have hk:=AK t s
 refine ⟨(MT ht.ok hn).1,by rw [hk.1.home];exact ht.home,by rw [hk.2.2.2];exact ht.note,(IG (z:=aCm) (P:=fun y:GSet=>0≤y.region∧y.region<c.places.length)).2 fun y hy=>?_⟩
 rcases T8 y hy with hy | e
 ·exact (IG (z:=aCm) (P:=fun y:GSet=>0≤y.region∧y.region<c.places.length)).1 ht.set y hy
 ·rw [e];exact hr
theorem HQ (c:GCluster) (t:GTx) (r s:Int):KeepT t (gP c t r s).1∧(gP c t r s).1.phase=t.phase∧(gP c t r s).1.done=t.done:=by
 unfold gP
 cases t.sets.any (dS r s) with
 | true=>exact ⟨.refl _,rfl,rfl⟩
 | false =>
  cases t.reads.any (eG r s) with
  | true=>exact ⟨.refl _,rfl,rfl⟩
  | false =>
   cases (bH c r.toNat 0).alive with
   | false=>exact ⟨.refl _,rfl,rfl⟩
   | true =>
    cases fD (gN c r s).head with
    | true=>exact ⟨.refl _,rfl,rfl⟩
    | false =>
     cases (cD t (eI c r s)).2 with
     | true=>exact yT _ _
     | false=>exact ⟨.refl _,rfl,rfl⟩
theorem P8 {c:GCluster} (hok:ClusOk c) {t:GTx} (ht:TxIn c t) {r s:Int} (hr:0≤r∧r<c.places.length) (hs:0≤s∧s≤5):TxIn c (gP c t r s).1:=by
 unfold gP
 cases t.sets.any (dS r s) with
 | true=>exact ht
 | false =>
  cases t.reads.any (eG r s) with
  | true=>exact ht
  | false =>
   cases ha:(bH c r.toNat 0).alive with
   | false=>exact ht
   | true =>
    cases fD (gN c r s).head with
    | true=>exact ht
    | false =>
     have:=H9 ht (MS hok hr hs ha) (n:=eI c r s) hr
     cases (cD t (eI c r s)).2 with
     | true=>exact this
     | false=>exact ht
theorem VY {n:GNote}:iX n=true ↔ (0≤n.region∧n.region≤5)∧(0≤n.slot∧n.slot≤5)∧(0≤n.version∧n.version≤1000000)∧(-1000000000≤n.value∧n.value≤1000000000):=by
 rw [← b6, ← b6, ← b6, ← b6]
 unfold iX
 cases inB n.region 0 5 <;>cases inB n.slot 0 5 <;>cases inB n.version 0 1000000 <;>cases inB n.value (-1000000000) 1000000000 <;>simp
theorem T7 {c:GCluster} {t:GTx} {r:Int} (h:kG c t r=0):iX (jK c t r)=true:=by
 have h7:=sP.1 (GG h).2.2.2.2.1
 unfold o4 at h7
 dsimp only at h7
 exact VY.2 ⟨h7.1,h7.2.1,by show 0≤DH c t r∧DH c t r≤1000000;omega,by show (-1000000000:Int)≤0∧(0:Int)≤1000000000;omega⟩
theorem W7 {c:GCluster} {t:GTx} (ht:TxIn c t) {r:Int} (h:kG c t r=0):TxIn c (yF c t r):=by
 have hf:=GG h
 exact MO (H9 ht (T7 h) (n:=jK c t r) hf.1) hf.2.2.2.2.1 (s:=o4 c t r) hf.1
theorem Q9 (c:GCluster) (t:GTx) (r:Int):KeepT t (yF c t r)∧(yF c t r).phase=t.phase∧(yF c t r).done=t.done:=by
 have h1:=yT t (jK c t r)
 have h2:=AK (cD t (jK c t r)).1 (o4 c t r)
 exact ⟨h1.1.trans h2.1,h2.2.1.trans h1.2.1,h2.2.2.1.trans h1.2.2⟩
def AO (t:GTx) (r s:Int):Int:=if 0≤cI (eG r s) t.reads then (oC t r s).version else 0
noncomputable def OS (c:GCluster) (t:GTx) (r s v:Int) (u:Bool):GSet:=⟨r,s,v,u,AO (fP c t r s).1 r s⟩
noncomputable def AM (c:GCluster) (t:GTx) (r s v:Int) (u:Bool):GTx×Int :=
 if (fP c t r s).2.2=0 then (if (eK (fP c t r s).1 (OS c t r s v u)).2=true then ((eK (fP c t r s).1 (OS c t r s v u)).1,0) else (t,9)) else (t,(fP c t r s).2.2)
noncomputable def uG (c:GCluster) (id r s v:Int) (u:Bool):GCluster×Int :=
 if (AM c (bT c id) r s v u).2=0 then (t7 c id (AM c (bT c id) r s v u).1,0) else (c,(AM c (bT c id) r s v u).2)
open Classical in
noncomputable def oM (c:GCluster) (id r s v:Int):GCluster×Int :=
 if ClusOk c then (if dG c id=0 then (bif inB v (-1000000000) 1000000000 then uG c id r s v true else (c,10)) else (c,dG c id)) else (aCl,1)
open Classical in
noncomputable def uJ (c:GCluster) (id r s:Int):GCluster×Int :=
 if ClusOk c then (if dG c id=0 then uG c id r s 0 false else (c,dG c id)) else (aCl,1)
theorem QS {c:GCluster} (hok:ClusOk c) {t:GTx} (ht:TxIn c t) {r s:Int}:TxIn c (fP c t r s).1∧KeepT t (fP c t r s).1:=by
 unfold fP
 cases hc:tJ c r s with
 | true=>exact ⟨ht, .refl _⟩
 | false =>
  have:=BS hc
  exact ⟨P8 hok ht this.1 this.2,(HQ c t r s).1⟩
theorem aA1 {c:GCluster} (hok:ClusOk c) {t:GTx} (ht:TxIn c t) {r s v:Int} {u:Bool} (h0:(AM c t r s v u).2=0):TxIn c (AM c t r s v u).1∧KeepT t (AM c t r s v u).1:=by
 obtain ⟨g1,g2⟩:=QS hok ht (r:=r) (s:=s)
 unfold AM at h0 ⊢
 by_cases h1:(fP c t r s).2.2=0
 ·rw [if_pos h1] at h0 ⊢
  have hc:tJ c r s=false:=by
   cases hc:tJ c r s with
   | false=>rfl
   | true=>unfold fP at h1;rw [hc] at h1;exact absurd (show (5:Int)=0 from h1) (by decide)
  have hr:=(BS hc).1
  by_cases h2:(eK (fP c t r s).1 (OS c t r s v u)).2=true
  ·rw [if_pos h2] at h0 ⊢
   obtain ⟨q1,q2,q3,q4⟩:=IK h2
   rw [q4]
   exact ⟨MO g1 q2 (s:=OS c t r s v u) hr,g2.trans (AK _ _).1⟩
  ·rw [if_neg h2] at h0
   exact absurd (show (9:Int)=0 from h0) (by decide)
 ·rw [if_neg h1] at h0
  exact absurd h0 h1
theorem S1 {c:GCluster} (hok:ClusOk c) {id:Int} (h0:dG c id=0) (r s v:Int) (u:Bool):ClusOk (uG c id r s v u).1:=by
 have hge:=(jS h0).2.2
 unfold uG
 by_cases h:(AM c (bT c id) r s v u).2=0
 ·rw [if_pos h]
  have:=aA1 hok (hok.txIn (dW hge).1) h
  exact E4 hok hge this.2 this.1
 ·rw [if_neg h];exact hok
noncomputable def opR (c:GCluster) (o:GOp):GCluster×Int :=
 if o.kind=1 then fA c o.id o.a
 else if o.kind=2 then ((pO c o.id o.a o.b).1,(pO c o.id o.a o.b).2.2)
 else if o.kind=3 then oM c o.id o.a o.b o.c
 else if o.kind=4 then ((iM c o.id o.a).1,(iM c o.id o.a).2.2)
 else if o.kind=5 then uJ c o.id o.a o.b
 else if o.kind=6 then eP c o.id
 else if o.kind=7 then bZ c o.id
 else if o.kind=10 then cM c o.id
 else if o.kind=8 then ((fR c o.a).1,bif !(fR c o.a).2 then 1 else 0)
 else if o.kind=9 then (eZ c,bif (eZ c).lost then 1 else 0)
 else (aCl,0)
noncomputable def opM (c:GCluster) (o:GOp):GCluster×Int:=if (opR c o).1.machines.length=0 then (c,1) else opR c o
noncomputable def lC (c:GCluster) (l:List GOp):Nat→GCluster×List Int
 | 0=>(c,[])
 | i+1=>((opM (lC c l i).1 (l.getD i aCr)).1,(lC c l i).2 ++ [(opM (lC c l i).1 (l.getD i aCr)).2])
open Classical in
noncomputable def vW (c:GCluster) (l:List GOp):GCluster×List Int:=if ClusOk c∧l.length≤300 then lC c l l.length else (aCl,[])
theorem EU {c:GCluster} (hok:ClusOk c) (id home:Int):ClusOk (fA c id home).1:=by
 unfold fA
 rw [if_pos hok]
 cases h2:n9 c id with
 | true=>exact hok
 | false =>
  cases h3:qP c home with
  | true=>exact hok
  | false=>exact WE hok h2 h3
theorem Y8 {c:GCluster} (hok:ClusOk c) (id r s:Int):ClusOk (pO c id r s).1:=by
 unfold pO
 rw [if_pos hok]
 by_cases h0:dG c id=0
 ·rw [if_pos h0]
  have hge:=(jS h0).2.2
  cases hc:tJ c r s with
  | true=>exact hok
  | false =>
   have:=BS hc
   exact E4 hok hge (HQ c _ r s).1 (P8 hok (hok.txIn (dW hge).1) this.1 this.2)
 ·rw [if_neg h0];exact hok
theorem WG {c:GCluster} (hok:ClusOk c) (id r s v:Int):ClusOk (oM c id r s v).1:=by
 unfold oM
 rw [if_pos hok]
 by_cases h0:dG c id=0
 ·rw [if_pos h0]
  cases inB v (-1000000000) 1000000000 with
  | true=>exact S1 hok h0 r s v true
  | false=>exact hok
 ·rw [if_neg h0];exact hok
theorem YI {c:GCluster} (hok:ClusOk c) (id r s:Int):ClusOk (uJ c id r s).1:=by
 unfold uJ
 rw [if_pos hok]
 by_cases h0:dG c id=0
 ·rw [if_pos h0];exact S1 hok h0 r s 0 false
 ·rw [if_neg h0];exact hok
theorem M6 {c:GCluster} (hok:ClusOk c) (id r:Int):ClusOk (iM c id r).1:=by
 unfold iM
 rw [if_pos hok]
 by_cases h0:dG c id=0
 ·rw [if_pos h0]
  have hge:=(jS h0).2.2
  by_cases h1:kG c (bT c id) r=0
  ·rw [if_pos h1]
   exact E4 hok hge (Q9 c _ r).1 (W7 (hok.txIn (dW hge).1) h1)
  ·rw [if_neg h1];exact hok
 ·rw [if_neg h0];exact hok
theorem BW {c:GCluster} (hok:ClusOk c) (id:Int):ClusOk (eP c id).1:=by
 unfold eP
 rw [if_pos hok]
 by_cases h0:dG c id=0
 ·rw [if_pos h0]
  have hge:=(jS h0).2.2
  have ht:=hok.txIn (dW hge).1
  refine E4 (u:=goT (bT c id)) hok hge ⟨rfl,rfl,rfl⟩ (ht.same ⟨rfl,rfl,rfl,rfl⟩ ?_ ?_ ht.ok.1.2.2.2.2.1)
  ·show (1:Int)≤2∧(2:Int)≤9;omega
  ·show (0:Int)≤0∧(0:Int)≤1000;omega
 ·rw [if_neg h0];exact hok
theorem N6 {c:GCluster} (hok:ClusOk c) (m0:Int):ClusOk (fR c m0).1:=by
 unfold fR
 rw [if_pos hok]
 cases hk:lL c.machines m0 with
 | true=>exact K3 hok hk
 | false =>
  have e:fX c.machines m0=c.machines:=by unfold fX;rw [if_neg (by rw [hk];simp)]
  show ClusOk { c with machines:=fX c.machines m0 }
  rw [e];exact hok
theorem aAT {c:GCluster} (hok:ClusOk c) (b:Bool):ClusOk { c with lost:=b }:=hok
theorem F8 {c:GCluster} (hok:ClusOk c):ClusOk (eZ c)∨eZ c=aCl:=by
 by_cases h:c.config=1000000
 ·right;unfold eZ;rw [if_neg fun e=>e.2 h]
 ·left
  by_cases h2:(jU c).length=0
  ·rw [uK hok h h2];exact TJ hok h h2
  ·have h3:(g8 (fQ c) c.places c.places.length).length > 0:=Nat.pos_of_ne_zero h2
   have e:eZ c = { c with lost:=true }:=by
    unfold eZ
    rw [if_pos ⟨hok,h⟩,if_pos h3]
   rw [e];exact aAT hok true
theorem JK {c:GCluster} (hok:ClusOk c) (id:Int):ClusOk (cM c id).1:=by
 unfold cM
 rw [if_pos hok]
 exact EY hok
theorem aBP {c:GCluster} (hok:ClusOk c) (o:GOp):ClusOk (opR c o).1∨(opR c o).1=aCl:=by
 unfold opR
 split
 ·exact .inl (EU hok _ _)
 split
 ·exact .inl (Y8 hok _ _ _)
 split
 ·exact .inl (WG hok _ _ _ _)
 split
 ·exact .inl (M6 hok _ _)
 split
 ·exact .inl (YI hok _ _ _)
 split
 ·exact .inl (BW hok _)
 split
 ·exact .inl (lQ hok _)
 split
 ·exact .inl (JK hok _)
 split
 ·exact .inl (N6 hok _)
 split
 ·exact F8 hok
 ·exact .inr rfl
theorem aB4 {c:GCluster} (hok:ClusOk c) (o:GOp):ClusOk (opM c o).1:=by
 unfold opM
 by_cases h:(opR c o).1.machines.length=0
 ·rw [if_pos h];exact hok
 ·rw [if_neg h]
  rcases aBP hok o with h1 | h1
  ·exact h1
  ·rw [h1] at h;exact absurd rfl h
theorem G6 {c:GCluster} (hok:ClusOk c) (l:List GOp):∀ i,ClusOk (lC c l i).1
 | 0=>hok
 | i+1=>aB4 (G6 hok l i) _
theorem MH (c:GCluster) (l:List GOp):∀ i,(lC c l i).2.length=i
 | 0=>rfl
 | i+1=>by
  show ((lC c l i).2 ++ _).length=i+1
  rw [List.length_append,MH c l i];rfl
end
section
theorem TN (c:GCluster) (t:GTx) (r s:Int):(fP c t r s).2.2≠1:=by
 have hf:∀ u:Bool,qM u≠1:=fun u=>by cases u <;>decide
 unfold fP
 cases tJ c r s with
 | true=>exact (by decide:(5:Int)≠1)
 | false =>
  show (gP c t r s).2.2.2≠1
  unfold gP
  cases t.sets.any (dS r s) with
  | true=>exact hf _
  | false =>
   cases t.reads.any (eG r s) with
   | true=>exact hf _
   | false =>
    cases (bH c r.toNat 0).alive with
    | false=>exact (by decide:(6:Int)≠1)
    | true =>
     cases fD (gN c r s).head with
     | true=>exact (by decide:(7:Int)≠1)
     | false =>
      cases (cD t (eI c r s)).2 with
      | false=>exact (by decide:(9:Int)≠1)
      | true=>exact hf _
theorem TF (c:GCluster) (hb:D.bds dJ (bO c)) (hok:ClusOk c) (id r s v:Int) (u:Bool) (h0:dG c id=0) :
  vQ Tryz.prog 282 [vR (bO c),vI (bQ c id),vI r,vI s,vI v,vB u] (uG c id r s v u).1 (uG c id r s v u).2:=by
 have b3:c.txs.length≤1048576:=hb.2.2.2.2.1.1
 have hge:=(jS h0).2.2
 have hlt:=gO (c:=c) (id:=id)
 have hin:=dW hge
 have ht:=hok.tx hin.1
 have hq:=(QS hok (hok.txIn hin.1) (r:=r) (s:=s)).1.ok
 have hcode:=TN c (bT c id) r s
 refine aE Tryz.func282 fun B0 r_ D_ w0=>?_
 refine aT ?_
 refine aU 6 fun r_=>?_
 refine aF ?_
 refine aR (aCv 901 6001 (aCv 902 6002 (aCv 903 6003 (fY c hb)))) fun _ _=>?_
 refine aN ?_
 refine bB (d6 6003 (bQ c id) 77 rfl rfl rfl rfl rfl rfl ⟨hge,hlt⟩) ?_
 refine bB (a6 77 4 78) ?_
 refine bB (a6 77 5 79) ?_
 refine a7 (ι:=Unit) (fun _=>[(15, .a (.p 15 0)),(16,vI (fP c (bT c id) r s).2.1),(17,vI (fP c (bT c id) r s).2.2)]) (fun _=>[(15, .row (o3 (fP c (bT c id) r s).1 80 81)),(80,bE 5 cT aCn (fP c (bT c id) r s).1.reads),(81,bE 5 cP aCm (fP c (bT c id) r s).1.sets)]) (fun _=>True) [78,79] [] ?_ ?_
 ·refine aW [78,79] [0,1,2,3,4,6,7,5,8,9,10,11,12,13,14,15,16] fun B0 H0=>?_
  refine AB (z8 29 rfl rfl rfl) ?_
  refine aY [5,8,9,10,11,12,13,14,15,16] ?_
  refine eU 8 13 rfl rfl (by kernel_rfl) (gG (BO c hb hok (bT c id) ht r s) rfl rfl (aCu _) (fun _=>rfl) rfl rfl rfl (fun _ _=>bD ?_)) (aV (bD ?_))
  ·refine aY [9,10,11,12,13,14,15,16] ?_
   refine bG 13 rfl (by kernel_rfl) (aV (bD ?_))
   refine bG 14 rfl (by kernel_rfl) (aV (bD ?_))
   refine aY [15,16] ?_
   refine aP ?_
   exact aL () trivial Nat.zero_lt_one
  ·skip
   refine aX 8 (BO c hb hok (bT c id) ht r s) fun _ _=>?_
   refine aY [9,10,11,12,14,15,16] ?_
   refine bG 14 rfl (by kernel_rfl) (aV (bD ?_))
   refine aY [15,16] ?_
   refine aP ?_
   exact aL () trivial Nat.zero_lt_one
 rintro ⟨⟩ _
 generalize hQ:(fP c (bT c id) r s).1=q at hq
 generalize hC:(fP c (bT c id) r s).2.2=code at hcode
 have hSet:AM c (bT c id) r s v u=if code=0 then (if (eK q ⟨r,s,v,u,AO q r s⟩).2=true then ((eK q ⟨r,s,v,u,AO q r s⟩).1,0) else (bT c id,9)) else (bT c id,code):=by
  unfold AM OS
  rw [hQ,hC]
 have hl1:=hq.1.2.2.2.2.2.1
 refine aZ ?_
 refine fO rfl (fun e=>?_) (fun e=>?_)
 ·rw [show uG c id r s v u=(c,code) from by unfold uG;rw [hSet,if_neg e];exact if_neg e]
  refine aF ?_
  refine aR (mK c hb code hcode) fun _ _=>?_
  refine aN ?_
  refine aC (()) [(12,some 28),(13,none)] ?_ ?_ ?_
  ·exact aCu _
  ·exact wM
  ·trivial
 refine aF ?_
 refine l4 TT_ok (zC q (by omega) r s) rfl rfl rfl rfl rfl ?_
 refine a7 (ι:=Unit) (fun _=>[]) (fun _=>[(18, .row [.v (.int .i64 r), .v (.int .i64 s), .v (.int .i64 v), .v (.bool u), .v (.int .i64 (AO q r s))])]) (fun _=>True) [18] [] ?_ ?_
 ·refine aI (fun e2=>?_) (fun e2=>?_)
  ·have hi:=oE (z:=aCn) (show 0≤cI (eG r s) q.reads by omega)
   have hi2:0≤cI (eG r s) q.reads∧cI (eG r s) q.reads<q.reads.length:=⟨by omega,by omega⟩
   rw [show AO q r s=(q.reads.getD (cI (eG r s) q.reads).toNat aCn).version from if_pos hi2.1]
   refine aF ?_
   exact aL () trivial Nat.zero_lt_one
  ·rw [show AO q r s=0 from if_neg e2]
   refine aF ?_
   exact aL () trivial Nat.zero_lt_one
 rintro ⟨⟩ _
 have hbt:D.bds dJ (cTx q):=FH _ (Nat.le_trans (DS hq) (by decide))
 refine aZ ?_
 refine aR (aCv 901 171 (aCv 902 172 (mY q hbt ⟨r,s,v,u,AO q r s⟩))) fun _ _=>?_
 refine aN ?_
 by_cases h2:(eK q ⟨r,s,v,u,AO q r s⟩).2=true
 ·rw [if_pos e,if_pos h2] at hSet
  rw [show uG c id r s v u=(t7 c id (eK q ⟨r,s,v,u,AO q r s⟩).1,0) from by unfold uG;rw [hSet];exact if_pos rfl]
  rw [h2]
  refine bX rfl (fun e=>by cases e) (fun _=>?_)
  refine aF ?_
  refine eY (kL 78 rfl rfl rfl) ?_
  refine aN ?_
  refine bB (a9 77 4 171) ?_
  refine bB (a9 77 5 172) ?_
  refine bB (a8 6003 77) ?_
  refine bB (bL 6001 901) ?_
  refine bB (bL 6002 902) ?_
  refine bB (bL 6003 903) ?_
  refine aC (()) [(12,some 28),(13,none)] ?_ ?_ ?_
  ·exact aCu _
  ·exact ⟨⟨_,rfl,aCt _⟩,⟨_,rfl,aCt _⟩,⟨_,rfl,cG (OwnI.refl _)⟩,trivial⟩
  ·trivial
 ·rw [if_pos e,if_neg h2] at hSet
  rw [show uG c id r s v u=(c,9) from by unfold uG;rw [hSet];exact if_neg (show ¬ (9:Int)=0 by decide)]
  rw [show (eK q ⟨r,s,v,u,AO q r s⟩).2=false from by simpa using h2]
  refine bX rfl (fun _=>?_) (fun e=>by cases e)
  refine aF ?_
  refine cO TT_ok (mK c hb 9 (by decide)) rfl rfl (aCu _) (fun _=>rfl) rfl rfl rfl fun _ _=>?_
  refine aN ?_
  refine aC (()) [(12,some 28),(13,none)] ?_ ?_ ?_
  ·exact aCu _
  ·exact wM
  ·trivial
theorem QY (c:GCluster) (hb:D.bds dJ (bO c)) (id r s v:Int):vQ Tryz.prog 274 [vR (bO c),vI id,vI r,vI s,vI v] (oM c id r s v).1 (oM c id r s v).2:=by
 have b3:c.txs.length≤1048576:=hb.2.2.2.2.1.1
 refine aE Tryz.func274 fun B0 r_ D_ w0=>?_
 refine aT ?_
 refine aU 5 fun r_=>?_
 refine aF ?_
 refine aR (yW c hb id) fun _ _=>?_
 refine aN ?_
 by_cases hok:ClusOk c
 ·by_cases h0:dG c id=0
  ·rw [show jH c id=(bQ c id,0) from by unfold jH;rw [if_pos hok,if_pos h0]]
   refine bX rfl (fun e=>by cases e) (fun _=>?_)
   refine aF ?_
   refine aH (rC _) ?_
   refine aA (b := !inB v (-1000000000) 1000000000) (fun e=>?_) (fun e=>?_)
   ·rw [show oM c id r s v=(c,10) from by unfold oM;rw [if_pos hok,if_pos h0,show inB v (-1000000000) 1000000000=false from by simpa using e];rfl]
    refine aF ?_
    refine cO TT_ok (mK c hb 10 (by decide)) rfl rfl (aCu _) (fun _=>rfl) rfl rfl rfl fun _ _=>?_
    refine aN ?_
    refine aC (()) [(10,some 28),(11,none)] ?_ ?_ ?_
    ·exact aCu _
    ·exact wM
    ·trivial
   rw [show oM c id r s v=uG c id r s v true from by unfold oM;rw [if_pos hok,if_pos h0,show inB v (-1000000000) 1000000000=true from by simpa using e];rfl]
   refine aF ?_
   refine aR (TF c hb hok id r s v true h0) fun _ _=>?_
   refine aN ?_
   refine aC (()) [(10,some 28),(11,none)] ?_ ?_ ?_
   ·exact aCu _
   ·exact wM
   ·trivial
  ·rw [show oM c id r s v=(c,dG c id) from by unfold oM;rw [if_pos hok,if_neg h0]]
   rw [show jH c id=(-1,dG c id) from by unfold jH;rw [if_pos hok,if_neg h0]]
   refine fO rfl (fun e=>?_) (fun e=>absurd e h0)
   refine aF ?_
   have h1:dG c id≠1:=by
    unfold dG
    cases decide (bQ c id<0) <;>cases jE c id <;>cases (bT c id).phase == 1 <;>decide
   refine aR (mK c hb (dG c id) h1) fun _ _=>?_
   refine aN ?_
   refine aC (()) [(10,some 28),(11,none)] ?_ ?_ ?_
   ·exact aCu _
   ·exact wM
   ·trivial
 ·rw [show oM c id r s v=(aCl,1) from if_neg hok]
  rw [show jH c id=(-1,1) from if_neg hok]
  refine bX rfl (fun _=>?_) (fun e=>by cases e)
  refine aF ?_
  refine aR (tA c) fun _ _=>?_
  refine aN ?_
  refine aC (()) [(10,some 28),(11,none)] ?_ ?_ ?_
  ·exact aCu _
  ·exact wM
  ·trivial
theorem RR (c:GCluster) (hb:D.bds dJ (bO c)) (id r s:Int):vQ Tryz.prog 275 [vR (bO c),vI id,vI r,vI s] (uJ c id r s).1 (uJ c id r s).2:=by
 have b3:c.txs.length≤1048576:=hb.2.2.2.2.1.1
 refine aE Tryz.func275 fun B0 r_ D_ w0=>?_
 refine aT ?_
 refine aU 4 fun r_=>?_
 refine aF ?_
 refine aR (yW c hb id) fun _ _=>?_
 refine aN ?_
 by_cases hok:ClusOk c
 ·by_cases h0:dG c id=0
  ·rw [show jH c id=(bQ c id,0) from by unfold jH;rw [if_pos hok,if_pos h0]]
   refine bX rfl (fun e=>by cases e) (fun _=>?_)
   rw [show uJ c id r s=uG c id r s 0 false from by unfold uJ;rw [if_pos hok,if_pos h0]]
   refine aF ?_
   refine aR (TF c hb hok id r s 0 false h0) fun _ _=>?_
   refine aN ?_
   refine aC (()) [(8,some 28),(9,none)] ?_ ?_ ?_
   ·exact aCu _
   ·exact wM
   ·trivial
  ·rw [show uJ c id r s=(c,dG c id) from by unfold uJ;rw [if_pos hok,if_neg h0]]
   rw [show jH c id=(-1,dG c id) from by unfold jH;rw [if_pos hok,if_neg h0]]
   refine fO rfl (fun e=>?_) (fun e=>absurd e h0)
   refine aF ?_
   have h1:dG c id≠1:=by
    unfold dG
    cases decide (bQ c id<0) <;>cases jE c id <;>cases (bT c id).phase == 1 <;>decide
   refine aR (mK c hb (dG c id) h1) fun _ _=>?_
   refine aN ?_
   refine aC (()) [(8,some 28),(9,none)] ?_ ?_ ?_
   ·exact aCu _
   ·exact wM
   ·trivial
 ·rw [show uJ c id r s=(aCl,1) from if_neg hok]
  rw [show jH c id=(-1,1) from if_neg hok]
  refine bX rfl (fun _=>?_) (fun e=>by cases e)
  refine aF ?_
  refine aR (tA c) fun _ _=>?_
  refine aN ?_
  refine aC (()) [(8,some 28),(9,none)] ?_ ?_ ?_
  ·exact aCu _
  ·exact wM
  ·trivial
end
section
abbrev RW:=Int×Option Addr×Nat×Nat
abbrev eR (p:RW):List D:=[.v (.int .i64 p.1), .v (.slice p.2.1 p.2.2.1 p.2.2.2)]
abbrev zR:RW:=(0,none,0,0)
theorem aB9 (rs:List RW) (hl:rs.length≤1048576) (al:Bool) (r0:Int) :
  Con Tryz.prog 98 [901,902,903] [.ag [.v (.bool al), .g 901, .g 902, .g 903],vI r0] [(901, .ro 2 rs.length fun i=>eR (rs.getD i zR))] (fun _:Unit=>True) (fun _=>[vI (cI (fun p=>p.1 == r0) rs)]) fun _=>[]:=by
 refine aE Tryz.func98 fun B0 r_ D_ w0=>?_
 refine aF ?_
 refine aK (ι:=Nat) (fun i=>[(5,vI i)]) (fun _=>[]) (fun i=>i≤rs.length∧∀ j,j<i→((rs.getD j zR).1 == r0)=false) (fun i=>rs.length - i) 0 [] [] ⟨Nat.zero_le _,fun j hj=>absurd hj (Nat.not_lt_zero _)⟩ ?_
 intro i ⟨h1,h2⟩
 refine aF ?_
 refine aI (fun e=>?_) (fun e=>?_)
 ·have hi:i<rs.length:=by omega
  refine aF ?_
  refine aA (fun e2=>?_) (fun e2=>?_)
  ·refine aF ?_
   refine aC (()) [(4,none)] ?_ ?_ ?_
   ·exact SVs.cons (aCw (fL (gA (z:=zR) (p:=fun p=>p.1 == r0) hi h2 e2).symm)) rfl
   ·trivial
   ·trivial
  ·refine aF ?_
   exact aL (i+1) ⟨hi,b5 h2 e2⟩ (by omega)
 ·refine aF ?_
  refine aC (()) [(4,none)] ?_ ?_ ?_
  ·exact SVs.cons (aCw (fL (gT (z:=zR) fun j hj=>h2 j (by omega)).symm)) rfl
  ·trivial
  ·trivial
set_option maxHeartbeats 1000000 in
theorem aBc (rs:List RW) (hl:rs.length≤100) (al:Bool) (r0:Int) (sv:Option Addr×Nat×Nat) (p:Nat) (hp:jJ (fun x=>x.1 - r0) zR rs p) (hrise:qB (fun x=>x.1 - r0) zR rs) (hno:cI (fun p=>p.1 == r0) rs<0) :
  Con Tryz.prog 111 [900,901,902,903,905] [.a (.p 900 0),vI r0, .a (.v (.slice sv.1 sv.2.1 sv.2.2))] [(901,bE 2 eR zR rs),(900, .row [.v (.bool al), .g 901, .g 902, .g 903])] (fun _:Unit=>True) (fun _=>[])
   fun _=>[(904,bE 2 eR zR (iB p (r0,sv) rs)),(900, .row [.v (.bool al), .g 904, .g 902, .g 903])]:=by
 refine aE Tryz.func111 fun B0 r_ D_ w0=>?_
 refine aF ?_
 refine cO TT_ok (aB9 rs (by omega) al r0) rfl rfl (aCu _) (fun _=>rfl) rfl rfl rfl fun _ _=>?_
 refine aN ?_
 refine mC rfl (fun e=>absurd e (by omega)) (fun _=>?_)
 refine aF ?_
 refine aM 40 (fun i=>eR (([]:List RW).getD i zR)) (fun i hi=>absurd hi (Nat.not_lt_zero _)) (mu1:=[]) ?_
 refine aN ?_
 refine cY (ι:=Nat) (fun i=>[(8,vI i),(7, .a (.g 40))]) (fun i=>[(40,bE 2 eR zR (rs.take i))]) (fun i=>i≤rs.length∧∀ a,a<i→(rs.getD a zR).1<r0) (fun i=>rs.length - i) 0 [40] [40] rfl rfl ⟨Nat.zero_le _,fun a ha=>absurd ha (Nat.not_lt_zero _)⟩ wF ⟨⟨_,rfl,bP (sz:=2) (enc:=eR) (z:=zR) (xs:=[]) rfl⟩,trivial⟩ ?_
 intro i ⟨h1,h2⟩
 refine aF ?_
 refine aA (b:=bif decide ((i:Int)<rs.length) then decide ((rs.getD i zR).1<r0) else false) (fun e3=>?_) (fun e3=>?_)
 ·have hi:i<rs.length:=by
   rcases Nat.lt_or_ge i rs.length with h | h
   ·exact h
   ·rw [decide_eq_false (by omega)] at e3;cases e3
  have hlt:(rs.take i).length=i:=by rw [List.length_take];omega
  rw [decide_eq_true (by omega)] at e3
  have e3:(rs.getD i zR).1<r0:=of_decide_eq_true e3
  refine aF ?_
  refine cV TT_ok 80 (fun _=>eR (rs.getD i zR)) rfl rfl rfl rfl rfl rfl rfl (fun i hi=>by rcases i with _ | i <;>first | rfl | omega) (mu1:=[]) rfl rfl rfl ?_
  refine aN ?_
  refine cU TT_ok 40 80 81 rfl rfl rfl rfl rfl rfl rfl rfl rfl rfl rfl rfl ⟨by show ((rs.take i).length+1) * 32≤_;omega,by unfold maxL;omega⟩ ?_
  refine aN ?_
  refine bC (bL 40 81) ?_
  refine bN (i+1) ⟨hi,fun a ha=>?_⟩ (by omega) wF ⟨⟨_,rfl,aS (x:=rs.getD i zR) (cC hi)⟩,wM⟩
  by_cases c:a<i
  ·exact h2 a c
  ·have:a=i:=by omega
   subst this
   exact e3
 have hc:p=i:=H6 hp ⟨h1,fun a ha=>by have:=h2 a ha;show (rs.getD a zR).1 - r0<0;omega,fun a ha hb hlt=>by
  have h3:=hrise i a ha hb hlt
  have h3:(rs.getD i zR).1 - r0<0:=h3
  rw [decide_eq_true (show (i:Int)<rs.length by omega),cond_true] at e3
  have:=of_decide_eq_false e3
  omega⟩
 subst hc
 have hlt:(rs.take p).length=p:=by rw [List.length_take];omega
 refine aF ?_
 refine zM 7 40 rfl rfl fun cp _=>?_
 refine aW [40] [0,1,2,3,6,7,8,9,10,11,12,4,5,13,14] fun B0 H0=>?_
 refine bG 4 rfl (by kernel_rfl) (dV TT_ok 84 (fun _=>eR (r0,sv)) rfl rfl rfl rfl rfl rfl rfl (fun j hj=>by rcases j with _ | j <;>first | rfl | omega) (mu1:=[]) rfl rfl rfl (bD ?_))
 refine bG 5 rfl (by kernel_rfl) (dM TT_ok 40 84 85 rfl rfl rfl rfl rfl rfl rfl rfl rfl rfl rfl rfl ⟨by show ((rs.take p).length+1) * 32≤_;omega,by unfold maxL;omega⟩ (bD ?_))
 refine bG 13 rfl (by kernel_rfl) (qJ TT_ok 85 91 rfl rfl rfl rfl rfl rfl rfl rfl rfl rfl rfl rfl ⟨by show ((rs.take p).length+1+_) * 32≤_;omega,by unfold maxL;omega⟩ (bD ?_) (hob:=⟨rfl,⟨by omega,by omega,by omega⟩,trivial⟩))
 refine aY [14] ?_
 refine tX (by kernel_rfl) ?_
 refine X_T ?_
 refine IE TT_ok rfl ?_
 refine bC (bL 91 904) ?_
 refine l5 TT_ok () [] rfl rfl ?_ ?_ ?_
 ·exact aCu _
 ·exact ⟨⟨_,rfl,CG (x:=(r0,sv)) h1⟩,⟨_,rfl,aCt _⟩,trivial⟩
 ·trivial
end
section
def hdS:Value→Option Addr×Nat×Nat
 | .slice A n c=>(A,n,c)
 | _=>(none,0,0)
theorem YC {h:PH} {x:GCopy} {ys:List Value} (e:D.rds h (dA x) ys):∃ A n c,ys=[.int .i64 x.region, .slice A n c]:=by
 obtain ⟨y,t,rfl,e1,z,t2,rfl,⟨A,c,e2,_⟩,e3⟩:=e
 have e1:y = .int .i64 x.region:=e1
 have e3:t2=[]:=e3
 subst e1;subst e2;subst e3
 exact ⟨A,_,c,rfl⟩
def mR (xs:List GCopy) (row:Nat→List Value):List RW:=(List.range xs.length).map fun i=>((xs.getD i aCp).region,hdS ((row i).getD 1 undef))
theorem V2 (xs:List GCopy) (row:Nat→List Value):(mR xs row).length=xs.length:=by unfold mR;rw [List.length_map,List.length_range]
theorem OT {xs:List GCopy} {row:Nat→List Value} {i:Nat} (h:i<xs.length):(mR xs row).getD i zR=((xs.getD i aCp).region,hdS ((row i).getD 1 undef)):=by
 unfold mR
 rw [m7 (za:=0) _ (by rw [List.length_range];exact h)]
 simp [List.getD_eq_getElem?_getD,h]
theorem WF {xs:List GCopy} {row:Nat→List Value} {i:Nat} (h:i<xs.length) {hp:PH} (e:D.rds hp (dA (xs.getD i aCp)) (row i)):(row i).map D.v=eR ((mR xs row).getD i zR):=by
 rw [OT h]
 obtain ⟨A,n,c,e⟩:=YC e
 rw [e];rfl
theorem PR (m:GMachine) (hM:dO m) (r:Int) (hn:dX m r=false) (cs:List GCell) :
  Con Tryz.prog 111 [900,901,902,903,905] [.a (.p 900 0),vI r, .a (.g 905)] [(901,bE 2 dA aCp m.copies),(905,bE 2 cX aCo cs),(900, .row (nX m 901 902 903))] (fun _:Unit=>True) (fun _=>[])
   fun _=>[(904,bE 2 dA aCp (jC m r cs).copies),(900, .row (nX m 904 902 903))]:=by
 have bk:m.copies.length≤6:=hM.1.1
 have hc:=sA (wG hM r)
 have hrep:(jC m r cs).copies=iB (o5 (vA r) aCp m.copies) ⟨r,cs⟩ m.copies:=by
  unfold jC;rw [if_neg (by rw [hn];simp)]
 rw [hrep]
 generalize o5 (vA r) aCp m.copies=p at hc
 have hC:=Con.liftH (P:=Tryz.prog) (ι:=Unit) (f:=111) (sz:=2) (n:=m.copies.length) (k:=901) (k3:=905) (ko:=904) (sz3:=2) (n3:=cs.length) (g:=fun i=>dA (m.copies.getD i aCp)) (f3:=fun i=>cX (cs.getD i aCo)) (xD:=dA ⟨r,cs⟩) (xr:=fun v=>[.int .i64 r,v]) (ks:=[900,901,902,903,905])
  (args:=[.a (.p 900 0),vI r, .a (.g 905)]) (args':=fun _ sv=>[.a (.p 900 0),vI r, .a (.v sv)]) (rest:=[(900, .row (nX m 901 902 903))]) (rest':=fun _=>[(900, .row (nX m 904 902 903))]) (φ:=fun _=>True) (res:=fun _=>[]) (m:=fun _=>m.copies.length+1)
  (ρ:=fun _ j=>if j<p then some j else if j<p+1 then none else some (j - 1)) (by decide)
  (fun j c e=>by
   rw [bV] at e
   by_cases hj:900=j
   ·subst hj;rw [if_pos rfl] at e;injection e with e;subst e;exact ⟨rfl,by decide,by decide⟩
   ·rw [if_neg hj] at e;cases e)
  (fun _ j c e=>by
   rw [bV] at e
   by_cases hj:900=j
   ·subst hj;rw [if_pos rfl] at e;injection e with e;subst e;exact ⟨rfl,by decide⟩
   ·rw [if_neg hj] at e;cases e)
  (fun _ _=>rfl)
  (fun h v e=>⟨_,_,PH.emp,h,rfl,PH.emp_le _,PH.le_refl _,PH.emp_dj _,rfl,_,_,h,PH.emp,rfl,PH.le_refl _,PH.emp_le _,PH.dj_emp _,e,rfl⟩)
  (fun _ _ j hj i e=>by
   by_cases c1:j<p
   ·rw [if_pos c1] at e;injection e with e;have:=hc.1;omega
   ·rw [if_neg c1] at e
    by_cases c2:j<p+1
    ·rw [if_pos c2] at e;cases e
    ·rw [if_neg c2] at e;injection e with e;omega)
  (fun _ _ a b ha hb hab e=>by
   by_cases c1:a<p <;>by_cases c2:a<p+1 <;>by_cases c3:b<p <;>by_cases c4:b<p+1 <;>simp [c1,c2,c3,c4] at e <;>omega)
  (fun B r1 r2 H H' vals row _ _ _ e=>by
   obtain ⟨y1,t1,e1,e2,y2,t2,e3,e4,y3,t3,e5,e6,e7⟩:=e
   have e7:t3=[]:=e7
   subst e1;subst e3;subst e5;subst e7
   exact ⟨_,_,rfl,e2,_,_,rfl,e4,_,_,rfl,e6.1,rfl⟩)
  (fun _ B r1 r2 H H' out e=>e)
  (fun _ B r1 r2 h j c e hs=>by
   rw [bV] at e
   by_cases hj:900=j
   ·subst hj;rw [if_pos rfl] at e;injection e with e;subst e;exact hs
   ·rw [if_neg hj] at e;cases e)
  (fun row sv h1 h2 ⟨A,cp,hsv⟩ h3=>?_)
 ·refine hC.wkM fun _ _=>⟨⟨_,rfl,Ch.imp_len (by rw [kC hc.1]) fun j hj=>?_⟩,⟨_,rfl,aCt _⟩,trivial⟩
  rw [nN hc.1]
  by_cases c1:j<p
  ·rw [if_pos c1,if_pos c1];rfl
  ·by_cases c2:j<p+1
   ·rw [if_neg c1,if_pos c2,if_neg c1,if_pos c2];rfl
   ·rw [if_neg c1,if_neg c2,if_neg c1,if_neg c2];rfl
 ·subst hsv
  have hl:=V2 m.copies row
  have hreg:∀ i,i<m.copies.length→((mR m.copies row).getD i zR).1=(m.copies.getD i aCp).region:=fun i hi=>by rw [OT hi]
  have hp:jJ (fun x=>x.1 - r) zR (mR m.copies row) p:=⟨by rw [hl];exact hc.1,fun a ha=>by
   have:=hc.2.1 a ha
   show ((mR m.copies row).getD a zR).1 - r<0
   rw [hreg a (by have:=hc.1;omega)];exact this,fun a ha hb=>by
   rw [hl] at hb
   have:=hc.2.2 a ha hb
   show ¬ ((mR m.copies row).getD a zR).1 - r<0
   rw [hreg a hb];exact this⟩
  have hri:qB (fun x=>x.1 - r) zR (mR m.copies row):=fun a b hab hb h=>by
   rw [hl] at hb
   have h:((mR m.copies row).getD b zR).1 - r<0:=h
   show ((mR m.copies row).getD a zR).1 - r<0
   rw [hreg b hb] at h
   rw [hreg a (by omega)]
   exact wG hM r a b hab hb h
  have hno:cI (fun p=>p.1 == r) (mR m.copies row)<0:=by
   by_cases h:cI (fun p=>p.1 == r) (mR m.copies row)<0
   ·exact h
   ·have h:=(gJ (z:=zR)).1 (show 0≤cI (fun p=>p.1 == r) (mR m.copies row) by omega)
    obtain ⟨x,hx,e⟩:=List.any_eq_true.1 h
    obtain ⟨i,hi,hxi⟩:=List.mem_iff_getElem.1 hx
    have hi2:i<m.copies.length:=by rw [← hl];exact hi
    have h4:=hreg i hi2
    rw [List.getD_eq_getElem?_getD,List.getElem?_eq_getElem hi,Option.getD_some,hxi] at h4
    have h5:x.1=r:=by simpa using e
    have:dX m r=true:=List.any_eq_true.2 ⟨_,cJ (z:=aCp) hi2,by show ((m.copies.getD i aCp).region == r)=true;rw [← h4,h5];simp⟩
    rw [hn] at this;cases this
  have hi1:p≤(mR m.copies row).length:=by rw [hl];exact hc.1
  have hrow:∀ i,i<m.copies.length→(row i).map D.v=eR ((mR m.copies row).getD i zR):=fun i hi=>by
   obtain ⟨hh,e⟩:=h3 i hi
   exact WF hi e
  have hI:=Con.inM (mu0:=[(901, .arr 2 m.copies.length fun i=>(row i).map D.v),(900, .row (nX m 901 902 903))]) (aBc (mR m.copies row) (by omega) m.alive r (A,cs.length,cp) p hp hri hno) rfl ⟨⟨_,rfl,Ch.imp_len hl.symm fun i hi=>hrow i hi⟩,⟨_,rfl,aCt _⟩,trivial⟩
  refine hI.wkM fun _ _=>⟨⟨_,rfl,Ch.imp_len (by rw [kC hi1,hl]) fun j hj=>?_⟩,⟨_,rfl,aCt _⟩,trivial⟩
  rw [kC hi1,hl] at hj
  rw [nN hi1]
  by_cases c1:j<p
  ·rw [if_pos c1,if_pos c1];exact (hrow j (by have:=hc.1;omega)).symm
  ·by_cases c2:j<p+1
   ·rw [if_neg c1,if_pos c2,if_neg c1,if_pos c2];rfl
   ·rw [if_neg c1,if_neg c2,if_neg c1,if_neg c2];exact (hrow (j - 1) (by omega)).symm
end
end Go.Proofs.YtnffflcjaipdkaaGreat
