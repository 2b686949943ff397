/-
  What the claim leans on, made short by program.
-/
import Derived.Test.YthpjoddhlkcciaaGreatQD
namespace Go.Proofs.YthpjoddhlkcciaaGreat
open Go Go.RowKit
set_option linter.unusedVariables false
set_option linter.unusedSimpArgs false
set_option maxRecDepth 4000
section
theorem SV.imp_sl {P:Program} {sz n m:Nat} {f g:Nat→List D} (h:n=m) (e:∀ i,i<n→f i=g i):(SV.a (.s .r sz n f)).imp P (.a (.s .r sz m g)):=by
 subst h;exact SV.imp_s e
abbrev cwt (c:GCluster) (n:Int) (ms:List GMachine) (ts:List GTx):GCluster:={ c with clock:=n,machines:=ms,txs:=ts }
theorem DY {t:GTx} (h:dV t):MkL Tryz.prog 245 [vR (cTx t)] 1 bL 0 (bG t):=by
 have hs:=h.1.2.2.2.2.2.2
 have:=P2 t (by omega)
 rw [VE h] at this
 exact this
theorem CU {t:GTx} (h:dV t):MkL Tryz.prog 238 [vR (cTx t)] 5 cR Y8 (cD t):=by
 have h1:=h.1.2.2.2.2.2.1
 have h2:=h.1.2.2.2.2.2.2
 exact FI t (by omega) (by omega)
theorem CR {r:Int} {ms:List Int}:∀ {i:Nat},i≤ms.length→(j8 true r ms i).map GCopyAt.machine=(ms.take i).drop 1∧(j8 true r ms i).map GCopyAt.region=List.replicate (i - 1) r
 | 0,_=>⟨by simp [j8],by simp [j8]⟩
 | i+1,h=>by
  obtain ⟨h1,h2⟩:=CR (r:=r) (ms:=ms) (i:=i) (by omega)
  rw [j8]
  by_cases c:i=0
  ·subst c
   refine ⟨?_,?_⟩
   ·simp [j8]
   ·simp [j8]
  ·rw [decide_eq_true (by omega),cond_true,cond_true,List.map_append,List.map_append,h1,h2]
   refine ⟨?_,?_⟩
   ·rw [b7 (z:=0) (by omega),List.drop_append_of_le_length (by rw [List.length_take];omega)]
    rfl
   ·show List.replicate (i - 1) r ++ List.replicate 1 r=_
    rw [List.replicate_append_replicate]
    congr 1;omega
theorem AZ {r:Int} {ms:List Int}:∀ {i:Nat},i≤ms.length→(j8 false r ms i).map GCopyAt.machine=ms.take i∧(j8 false r ms i).map GCopyAt.region=List.replicate i r
 | 0,_=>⟨by simp [j8],by simp [j8]⟩
 | i+1,h=>by
  obtain ⟨h1,h2⟩:=AZ (r:=r) (ms:=ms) (i:=i) (by omega)
  rw [j8]
  have hb:(bif decide ((i:Int) > 0) then true else !false)=true:=by cases decide ((i:Int) > 0) <;>rfl
  rw [hb,cond_true,List.map_append,List.map_append,h1,h2]
  refine ⟨?_,?_⟩
  ·rw [b7 (z:=0) (by omega)];rfl
  ·show List.replicate i r ++ List.replicate 1 r=_
   rw [List.replicate_append_replicate]
def qH (p:Int) (ms:List Int):List Int:=if p=4 then ms.drop 1 else if p=6 then ms else ms.take 1
def iU (c:GCluster) (t:GTx) (k:Nat):List GCopyAt:=if t.phase=4 then mJ c (bG t) true k else if t.phase=6 then mJ c (bG t) false k else ((bG t).take k).map (y9 c)
theorem O3 {c:GCluster} (hok:ClusOk c) {t:GTx} (ht:TxIn c t) {k:Nat} (hk:k<(bG t).length) :
  (iU c t (k+1)).map GCopyAt.machine=(iU c t k).map GCopyAt.machine ++ qH t.phase (cI c ((bG t).getD k 0))∧(iU c t (k+1)).map GCopyAt.region=(iU c t k).map GCopyAt.region ++ List.replicate (qH t.phase (cI c ((bG t).getD k 0))).length ((bG t).getD k 0):=by
 have hp:=oV hok (jI ht hk)
 unfold iU qH
 by_cases h4:t.phase=4
 ·rw [if_pos h4,if_pos h4,if_pos h4,mJ,List.map_append,List.map_append]
  obtain ⟨h1,h2⟩:=CR (r:=(bG t).getD k 0) (ms:=cI c ((bG t).getD k 0)) (Nat.le_refl _)
  rw [h1,h2,List.take_length,List.length_drop]
  exact ⟨rfl,rfl⟩
 ·by_cases h6:t.phase=6
  ·rw [if_neg h4,if_neg h4,if_neg h4,if_pos h6,if_pos h6,if_pos h6,mJ,List.map_append,List.map_append]
   obtain ⟨h1,h2⟩:=AZ (r:=(bG t).getD k 0) (ms:=cI c ((bG t).getD k 0)) (Nat.le_refl _)
   rw [h1,h2,List.take_length]
   exact ⟨rfl,rfl⟩
  ·rw [if_neg h4,if_neg h4,if_neg h4,if_neg h6,if_neg h6,if_neg h6,b7 (z:=0) hk,List.map_append,List.map_append,List.map_append]
   have hl:((cI c ((bG t).getD k 0)).take 1).length=1:=by rw [List.length_take];omega
   rw [hl]
   refine ⟨?_,rfl⟩
   congr 1
   show [mAt c ((bG t).getD k 0).toNat 0] = (cI c ((bG t).getD k 0)).take 1
   cases e:cI c ((bG t).getD k 0) with
   | nil=>rw [e] at hp;simp at hp
   | cons a l=>unfold mAt;rw [show (c.places.getD ((bG t).getD k 0).toNat Y3).machines=a :: l from e];rfl
theorem WT (xs:List Int) (i:Nat):bL (xs.getD ((1:Int).toNat+i) 0)=bL ((xs.drop 1).getD i 0):=by
 show bL (xs.getD (1+i) 0)=_
 rw [List.getD_eq_getElem?_getD,List.getD_eq_getElem?_getD,List.getElem?_drop]
theorem EL (c:GCluster) (t:GTx) (f:GCopyAt→Int):(iU c t 0).map f=[]:=by
 unfold iU
 split
 ·rfl
 ·split <;>rfl
theorem RE {c:GCluster} {t:GTx} (h:¬ (t.phase=3∨t.phase=1∨t.phase=7∨t.phase=9)):iU c t (bG t).length=fF c t:=by
 unfold iU fF
 rw [if_neg (show ¬ t.phase=3 by omega),if_neg (show ¬ (t.phase=1∨t.phase=7∨t.phase=9) by omega),List.take_length]
 rfl
theorem TB {c:GCluster} (hok:ClusOk c) {t:GTx} (ht:TxIn c t) {k:Nat} (hk:k≤(bG t).length):(iU c t k).length≤36:=by
 have h1:=zE ht.ok
 have h2:=fun b=>G1 hok (ws:=bG t) (fun k hk=>jI ht hk) (b:=b) hk
 unfold iU
 split
 ·have:=h2 true;omega
 ·split
  ·have:=h2 false;omega
  ·rw [List.length_map,List.length_take];omega
theorem EY {c:GCluster} {t:GTx} (h:t.phase=1∨t.phase=7∨t.phase=9):fF c t=[]:=by
 unfold fF
 rw [if_neg (by omega),if_neg (by omega),if_neg (by omega),if_pos h]
set_option maxHeartbeats 1000000 in
theorem IT (c:GCluster) (hok:ClusOk c) (n:Int) (ms:List GMachine) (ts:List GTx) (t:GTx) (ht:TxIn c t) :
  Con Tryz.prog 235 [] [vR (bK (cwt c n ms ts)),vR (cTx t)] [] (fun _:Unit=>True) (fun _=>[.a (.g 901), .a (.g 902)]) fun _=>[(901,bE 1 bL 0 ((fF c t).map GCopyAt.region)),(902,bE 1 bL 0 ((fF c t).map GCopyAt.machine))]:=by
 have hs1:=ht.ok.1.2.2.2.2.2.1
 have hs2:=ht.ok.1.2.2.2.2.2.2
 have hwl:=zE ht.ok
 refine aD Tryz.func235 fun B0 r_ D_ w0=>?_
 refine aE ?_
 refine aL 14 (fun i=>bL (([]:List Int).getD i 0)) (fun i hi=>absurd hi (Nat.not_lt_zero _)) (mu1:=[]) ?_
 refine aM ?_
 refine aL 15 (fun i=>bL (([]:List Int).getD i 0)) (fun i hi=>absurd hi (Nat.not_lt_zero _)) (mu1:=[]) ?_
 refine aM ?_
 refine aP (ZG 900 17 (DY ht.ok)) fun _ _=>?_
 refine aM ?_
 refine aO (fun e3=>?_) (fun e3=>?_)
 ·have hC:(cD t).length≤12:=Nat.le_trans (List.length_filter_le _ _) hs1
  have hP:fF c t=(cD t).map fun n=>y9 c n.region:=by unfold fF;rw [if_pos e3]
  refine aE ?_
  refine aP (ZG 900 23 (CU ht.ok)) fun _ _=>?_
  refine aM ?_
  refine cW (ι:=Nat) (fun i=>[(10,vI i),(6, .a (.g 14)),(7, .a (.g 15))]) (fun i=>[(14,bE 1 bL 0 (((cD t).take i).map GNote.region)),(15,bE 1 bL 0 (((cD t).take i).map fun n=>mAt c n.region.toNat 0))]) (fun i=>i≤(cD t).length) (fun i=>(cD t).length - i) 0 [14,15] [14,15] rfl rfl (Nat.zero_le _) wF ⟨⟨_,rfl,bU (sz:=1) (enc:=bL) (z:=0) (xs:=[]) rfl⟩,⟨_,rfl,bU (sz:=1) (enc:=bL) (z:=0) (xs:=[]) rfl⟩,wM⟩ ?_
  intro i h1
  have hle:((cD t).take i).length≤i:=by rw [List.length_take];omega
  refine aE ?_
  refine aH (fun e=>?_) (fun e=>?_)
  ·have hi:i<(cD t).length:=by omega
   have hr:=yC ht hi
   have hp:=oV hok hr
   have hp0:0<(c.places.getD ((cD t).getD i Y8).region.toNat Y3).machines.length:=hp.1
   refine aE ?_
   refine cJ TT_ok 36 (fun _=>bL ((cD t).getD i Y8).region) rfl rfl rfl rfl rfl rfl rfl (fun i hi=>by rcases i with _ | i <;>first | rfl | omega) (mu1:=[]) rfl rfl rfl ?_
   refine aM ?_
   refine cL TT_ok 14 36 37 rfl rfl rfl rfl rfl rfl rfl rfl rfl rfl rfl rfl ⟨by show ((((cD t).take i).map GNote.region).length+1) * 8≤_;rw [List.length_map];omega,by rw [List.length_map];unfold maxL;omega⟩ ?_
   refine aM ?_
   refine aW [15] [0,1,2,3,4,5,6,7,8,9,10,11,12,13,14,15] fun B0 H0=>?_
   refine bB 13 rfl (by kernel_rfl) (dK TT_ok 51 (fun _=>bL (mAt c ((cD t).getD i Y8).region.toNat 0)) rfl rfl rfl rfl rfl rfl rfl (fun j hj=>by rcases j with _ | j <;>first | rfl | omega) (mu1:=[]) rfl rfl rfl (bA ?_))
   refine bB 14 rfl (by kernel_rfl) (dE TT_ok 15 51 52 rfl rfl rfl rfl rfl rfl rfl rfl rfl rfl rfl rfl ⟨by show ((((cD t).take i).map fun n=>mAt c n.region.toNat 0).length+1) * 8≤_;rw [List.length_map];omega,by rw [List.length_map];unfold maxL;omega⟩ (bA ?_))
   refine aY [15] ?_
   refine aN ?_
   refine bC (bH 14 37) ?_
   refine bC (bH 15 52) ?_
   exact bF (i+1) hi (by omega) wF ⟨⟨_,rfl,cX (x:=((cD t).getD i Y8).region) (by rw [b7 (z:=Y8) hi,List.map_append];rfl) rfl⟩,⟨_,rfl,cX (x:=mAt c ((cD t).getD i Y8).region.toNat 0) (by rw [b7 (z:=Y8) hi,List.map_append];rfl) rfl⟩,wM⟩
  ·have hi:i=(cD t).length:=by omega
   subst hi
   rw [List.take_length,hP,List.map_map,List.map_map]
   refine aE ?_
   refine a9 (bH 14 901) ?_
   refine a9 (bH 15 902) ?_
   refine aC (()) [(4,none),(5,none)] ?_ ?_ ?_
   ·exact ZF _
   ·exact wM
   ·trivial
 have hend:∀ p,t.phase=p→(p=1∨p=7∨p=9)→fF c t=[]:=fun p h1 h2=>EY (by omega)
 refine aE ?_
 refine dC (ι:=Unit) (fun _=>[(55,vB (decide (t.phase=1∨t.phase=7∨t.phase=9)))]) (fun _=>[]) (fun _=>True) [] [] rfl rfl ?_ ?_
 ·refine aO (fun e1=>?_) (fun e1=>?_)
  ·refine aE ?_
   exact bF () trivial Nat.zero_lt_one ⟨⟨_,rfl,ZH (congrArg (fun b=>SV.a (.v (.bool b))) (by rw [decide_eq_true (p:=t.phase=1∨t.phase=7∨t.phase=9) (.inl e1)];exact beq_iff_eq.2 e1))⟩,wF⟩ wM
  ·refine aE ?_
   refine aO (fun e7=>?_) (fun e7=>?_)
   ·refine aE ?_
    exact bF () trivial Nat.zero_lt_one ⟨⟨_,rfl,ZH (congrArg (fun b=>SV.a (.v (.bool b))) (by rw [decide_eq_true (p:=t.phase=1∨t.phase=7∨t.phase=9) (.inr (.inl e7))];exact beq_iff_eq.2 e7))⟩,wF⟩ wM
   ·refine aE ?_
    exact bF () trivial Nat.zero_lt_one ⟨⟨_,rfl,ZH (congrArg (fun b=>SV.a (.v (.bool b))) (by
     by_cases e9:t.phase=9
     ·rw [decide_eq_true (p:=t.phase=1∨t.phase=7∨t.phase=9) (.inr (.inr e9))];exact beq_iff_eq.2 e9
     ·rw [decide_eq_false (p:=t.phase=1∨t.phase=7∨t.phase=9) (fun h=>by omega)];exact beq_eq_false_iff_ne.2 e9))⟩,wF⟩ wM
 rintro ⟨⟩ _
 refine aT ?_
 refine aH (fun e=>?_) (fun e=>?_)
 ·rw [EY e]
  refine aE ?_
  refine a9 (bH 14 901) ?_
  refine a9 (bH 15 902) ?_
  refine aC (()) [(4,none),(5,none)] ?_ ?_ ?_
  ·exact ZF _
  ·exact ⟨⟨_,rfl,bU (sz:=1) (enc:=bL) (z:=0) (xs:=[]) rfl⟩,⟨_,rfl,bU (sz:=1) (enc:=bL) (z:=0) (xs:=[]) rfl⟩,trivial⟩
  ·trivial
 have hph:¬ (t.phase=3∨t.phase=1∨t.phase=7∨t.phase=9):=by
  have e3:t.phase≠3:=e3
  omega
 refine aE ?_
 refine cW (ι:=Nat) (fun k=>[(11,vI k),(6, .a (.g 14)),(7, .a (.g 15))]) (fun k=>[(14,bE 1 bL 0 ((iU c t k).map GCopyAt.region)),(15,bE 1 bL 0 ((iU c t k).map GCopyAt.machine))]) (fun k=>k≤(bG t).length) (fun k=>(bG t).length - k) 0 [14,15] [14,15] rfl rfl (Nat.zero_le _) wF ⟨⟨_,rfl,bU (sz:=1) (enc:=bL) (z:=0) (xs:=[]) (EL c t GCopyAt.region).symm⟩,⟨_,rfl,bU (sz:=1) (enc:=bL) (z:=0) (xs:=[]) (EL c t GCopyAt.machine).symm⟩,wM⟩ ?_
 intro k h1
 refine aE ?_
 refine aH (fun e=>?_) (fun e=>?_)
 ·have hk:k<(bG t).length:=by omega
  have hr:=jI ht hk
  have hp:=oV hok hr
  have hle:=TB hok ht (k:=k) (by omega)
  obtain ⟨q1,q2⟩:=O3 hok ht hk
  have hsel:(qH t.phase (cI c ((bG t).getD k 0))).length≤3:=by
   unfold qH
   split
   ·rw [List.length_drop];omega
   ·split
    ·omega
    ·rw [List.length_take];omega
  have hp1:1≤(c.places.getD ((bG t).getD k 0).toNat Y3).machines.length∧(c.places.getD ((bG t).getD k 0).toNat Y3).machines.length≤3:=hp
  refine aE ?_
  refine aW [] [0,1,2,3,4,5,6,7,8,9] fun B0 H0=>?_
  refine aN ?_
  refine dC (ι:=Unit) (fun _=>[(12,vL 1 bL 0 (qH t.phase (cI c ((bG t).getD k 0))))]) (fun _=>[]) (fun _=>True) [] [] rfl rfl ?_ ?_
  ·refine aO (fun e4=>?_) (fun e4=>?_)
   ·refine aE ?_
    exact bF () trivial Nat.zero_lt_one ⟨⟨_,rfl,SV.imp_sl (by unfold qH;rw [if_pos e4,List.length_drop];simp only [Int.toNat_natCast];show _=(c.places.getD ((bG t).getD k 0).toNat Y3).machines.length - 1;omega) fun i hi=>by unfold qH;rw [if_pos e4];simp only [Int.toNat_natCast];exact WT _ i⟩,wF⟩ wM
   ·refine aE ?_
    refine aO (fun e6=>?_) (fun e6=>?_)
    ·refine aE ?_
     exact bF () trivial Nat.zero_lt_one ⟨⟨_,rfl,SV.imp_sl (by unfold qH;rw [if_neg e4,if_pos e6];simp only [Int.toNat_natCast]) fun i hi=>by unfold qH;rw [if_neg e4,if_pos e6];simp only [Int.toNat_natCast]⟩,wF⟩ wM
    ·refine aE ?_
     exact bF () trivial Nat.zero_lt_one ⟨⟨_,rfl,SV.imp_sl (by unfold qH;rw [if_neg e4,if_neg e6,List.length_take];show (1:Nat)=min 1 (c.places.getD ((bG t).getD k 0).toNat Y3).machines.length;omega) fun i hi=>by
      unfold qH
      have hi0:i=0:=by have hi:i<1:=hi;omega
      subst hi0
      rw [if_neg e4,if_neg e6]
      simp only [Int.toNat_natCast]
      show bL ((c.places.getD ((bG t).getD k 0).toNat Y3).machines.getD 0 0)=bL (((c.places.getD ((bG t).getD k 0).toNat Y3).machines.take 1).getD 0 0)
      congr 1
      cases (c.places.getD ((bG t).getD k 0).toNat Y3).machines <;>rfl⟩,wF⟩ wM
  rintro ⟨⟩ _
  refine aT ?_
  generalize hL:qH t.phase (cI c ((bG t).getD k 0))=L at hsel q1 q2 ⊢
  refine cW (ι:=Nat) (fun j=>[(13,vI j),(6, .a (.g 14)),(7, .a (.g 15))]) (fun j=>[(14,bE 1 bL 0 ((iU c t k).map GCopyAt.region ++ List.replicate j ((bG t).getD k 0))),(15,bE 1 bL 0 ((iU c t k).map GCopyAt.machine ++ L.take j))]) (fun j=>j≤L.length) (fun j=>L.length - j) 0 [14,15] [14,15] rfl rfl (Nat.zero_le _) wF ⟨⟨_,rfl,bU (by simp)⟩,⟨_,rfl,bU (by simp)⟩,wM⟩ ?_
  intro j h2
  have hl1:((iU c t k).map GCopyAt.region ++ List.replicate j ((bG t).getD k 0)).length=(iU c t k).length+j:=by simp
  have hl2:((iU c t k).map GCopyAt.machine ++ L.take j).length≤(iU c t k).length+j:=by simp;omega
  refine aE ?_
  refine aH (fun e2=>?_) (fun e2=>?_)
  ·have hj:j<L.length:=by omega
   refine aE ?_
   refine cJ TT_ok 97 (fun _=>bL ((bG t).getD k 0)) rfl rfl rfl rfl rfl rfl rfl (fun i hi=>by rcases i with _ | i <;>first | rfl | omega) (mu1:=[]) rfl rfl rfl ?_
   refine aM ?_
   refine cL TT_ok 14 97 98 rfl rfl rfl rfl rfl rfl rfl rfl rfl rfl rfl rfl ⟨by show (((iU c t k).map GCopyAt.region ++ List.replicate j ((bG t).getD k 0)).length+1) * 8≤_;omega,by unfold maxL;omega⟩ ?_
   refine aM ?_
   refine cJ TT_ok 104 (fun _=>bL (L.getD j 0)) rfl rfl rfl rfl rfl rfl rfl (fun i hi=>by rcases i with _ | i <;>first | rfl | omega) (mu1:=[]) rfl rfl rfl ?_
   refine aM ?_
   refine cL TT_ok 15 104 105 rfl rfl rfl rfl rfl rfl rfl rfl rfl rfl rfl rfl ⟨by show (((iU c t k).map GCopyAt.machine ++ L.take j).length+1) * 8≤_;omega,by unfold maxL;omega⟩ ?_
   refine aM ?_
   refine bC (bH 14 98) ?_
   refine bC (bH 15 105) ?_
   exact bF (j+1) hj (by omega) wF ⟨⟨_,rfl,cX (x:=(bG t).getD k 0) (by rw [List.append_assoc, ← List.replicate_succ']) rfl⟩,⟨_,rfl,cX (x:=L.getD j 0) (by rw [b7 (z:=0) hj,List.append_assoc]) rfl⟩,wM⟩
  ·have hj:j=L.length:=by omega
   subst hj
   refine aE ?_
   exact bF (k+1) hk (by omega) wF ⟨⟨_,rfl,bU q2.symm⟩,⟨_,rfl,bU (by rw [List.take_length];exact q1.symm)⟩,wM⟩
 ·have hk:k=(bG t).length:=by omega
  subst hk
  rw [RE hph]
  refine aE ?_
  refine a9 (bH 14 901) ?_
  refine a9 (bH 15 902) ?_
  refine aC (()) [(4,none),(5,none)] ?_ ?_ ?_
  ·exact ZF _
  ·exact wM
  ·trivial
end
section
theorem RZ {c:GCluster} {i:Nat} (hi:i<c.txs.length) (t:GTx):(c.txs.set i t).getD (i:Int).toNat Y5=t:=by
 simp [hi]
theorem fR {c:GCluster} {i:Nat} {t u:GTx} {l:List D} (hl:OwnI l (cTx u)):(Ch.arr 7 (c.txs.set i t).length fun j=>bif Nat.beq j (i:Int).toNat then l else cTx ((c.txs.set i t).getD j Y5)).imp (bE 7 cTx Y5 (c.txs.set i u)) :=
 Ch.imp_trans (bS hl) (bU (by simp))
set_option maxHeartbeats 1000000 in
theorem t9 (c:GCluster) (hok:ClusOk c) (i:Nat) (hi:i<c.txs.length) (ms:List GMachine) (y:Int×GTx) (hx:TxIn c y.2) (hp:2≤y.2.phase∧y.2.phase≤9) (hc:0≤y.1∧y.1≤1000000) (hl:y.2.phase=2→y.1<1000000) :
  Con Tryz.prog 234 [900,901,902,903] [.a (.p 900 0),vI i] [(900, .row (qB (clk c y.1) 901 902 903)),(901,roC 1 cN Y3 c.places),(902,roC 4 bQ Y4 ms),(903,bE 7 cTx Y5 (c.txs.set i y.2))]
   (fun _:Unit=>True) (fun _=>[]) fun _=>[(900, .row (qB (clk c (g9 c y).1) 901 902 903)),(903,bE 7 cTx Y5 (c.txs.set i (g9 c y).2))]:=by
 have hs2:=hx.ok.1.2.2.2.2.2.2
 have hst:=hx.ok.1.2.2.2.2.1
 refine aD Tryz.func234 fun B0 r_ D_ w0=>?_
 refine aE ?_
 refine cW (ι:=Nat×Int×Int×Int×Int) (fun _=>[]) (fun z=>[(900, .row (qB (clk c z.2.1) 901 902 903)),(903,bE 7 cTx Y5 (c.txs.set i (tw y.2 z.2.2.1 z.2.2.2.1 z.2.2.2.2)))])
  (fun z=>iN c z.1 (z.2.1,tw y.2 z.2.2.1 z.2.2.2.1 z.2.2.2.2)=g9 c y∧9 - z.2.2.1<z.1∧(2≤z.2.2.1∧z.2.2.1≤9)∧(0≤z.2.2.2.1∧z.2.2.2.1≤1000)∧(0≤z.2.2.2.2∧z.2.2.2.2≤1000000)∧(0≤z.2.1∧z.2.1≤1000000)∧(z.2.2.1=2→z.2.1<1000000))
  (fun z=>z.1) (8,y.1,y.2.phase,y.2.done,y.2.stamp) [900,903] [] rfl rfl ⟨rfl,by show 9 - y.2.phase<((8:Nat):Int);omega,hp,hx.ok.1.2.2.2.1,hst,hc,hl⟩ wF wM ?_
 rintro ⟨n,k,p,d,s⟩ ⟨h1,h2,h3,h4,h5,h6,h7⟩
 dsimp only at h1 h2 h3 h4 h5 h6 h7 ⊢
 have hT:TxIn c (tw y.2 p d s):=hx.tw (by omega) h4 h5
 have hle:=C6 hok hT
 have hlen:(c.txs.set i (tw y.2 p d s)).length=c.txs.length:=List.length_set
 have hget:=RZ hi (tw y.2 p d s)
 refine aE ?_
 refine aW [] [0,1,2,3,4,5,6,7,8,9,10,11] fun B0 H0=>?_
 rw [hget]
 refine aX 6 (ZG 901 14 (ZG 902 15 (IT c hok k ms (c.txs.set i (tw y.2 p d s)) (tw y.2 p d s) hT))) fun _ _=>?_
 refine aY [7,8,9,10,11] ?_
 refine aN ?_
 refine a9 (d6 903 (i:Int) 77 rfl rfl rfl rfl rfl rfl ⟨by omega,by omega⟩) ?_
 refine a9 (j6 4 rfl rfl rfl) ?_
 rw [hget]
 refine aE ?_
 refine aA (fun e=>?_) (fun e=>?_)
 ·have hA:g9 c y=(k,tw y.2 p d s):=by
   rw [← h1]
   refine UD (y:=(k,tw y.2 p d s)) (show p=7∨p=9∨d<(fF c (tw y.2 p d s)).length from ?_) n
   simp only [List.length_map] at e
   cases c1:p == 7 with
   | true=>exact .inl (by simpa using c1)
   | false =>
    cases c2:p == 9 with
    | true=>exact .inr (.inl (by simpa using c2))
    | false =>
     have e:(bif (bif p == 7 then true else p == 9) then true else decide (d<((fF c (tw y.2 p d s)).length:Int)))=true:=e
     rw [c1,c2] at e
     exact .inr (.inr (of_decide_eq_true e))
  rw [hA]
  refine aE ?_
  refine a9 (aZ 903 77) ?_
  refine aC (()) [] ?_ ?_ ?_
  ·exact ZF _
  ·exact ⟨⟨_,rfl,ZE _⟩,⟨_,rfl,fR (OwnI.refl _)⟩,trivial⟩
  ·trivial
 have h79:p≠7∧p≠9:=by
  have e:(bif (bif p == 7 then true else p == 9) then true else decide (d<(((fF c (tw y.2 p d s)).map GCopyAt.region).length:Int)))=false:=e
  refine ⟨fun h=>?_,fun h=>?_⟩
  ·rw [h] at e;cases e
  ·rw [h] at e;cases e
 have hns:¬ xU c (k,tw y.2 p d s).2:=fun h=>by
  rcases h with h | h | h
  ·exact h79.1 h
  ·exact h79.2 h
  ·have e:(bif (bif p == 7 then true else p == 9) then true else decide (d<(((fF c (tw y.2 p d s)).map GCopyAt.region).length:Int)))=false:=e
   rw [List.length_map,beq_eq_false_iff_ne.2 h79.1,beq_eq_false_iff_ne.2 h79.2] at e
   exact of_decide_eq_false e h
 obtain ⟨m,rfl⟩:∃ m,n=m+1:=⟨n - 1,by omega⟩
 rw [Y0 hns] at h1
 have go:∀ (p' k' s':Int),(p=2→k'=k+1∧s'=k+1)→(p≠2→k'=k∧s'=s)→p'=iC (tw y.2 p d s)→iN c m (k',tw y.2 p' 0 s')=g9 c y:=fun p' k' s' g1 g2 g3=>by
  rw [← h1]
  congr 1
  unfold C9
  by_cases c2:p=2
  ·obtain ⟨q1,q2⟩:=g1 c2
   rw [if_pos (show (k,tw y.2 p d s).2.phase=2 from c2),if_pos (show (k,tw y.2 p d s).2.phase=2 from c2),q1,q2,g3]
  ·obtain ⟨q1,q2⟩:=g2 c2
   rw [if_neg (show ¬ (k,tw y.2 p d s).2.phase=2 from c2),if_neg (show ¬ (k,tw y.2 p d s).2.phase=2 from c2),q1,q2,g3]
 refine aE ?_
 refine aO (fun e2=>?_) (fun e2=>?_)
 ·have e2:p=2:=e2
  have hk:=h7 e2
  refine aE ?_
  refine bC (aZ 903 77) ?_
  exact bF (m,k+1,3,0,k+1) ⟨go _ _ _ (fun _=>⟨rfl,rfl⟩) (fun h=>absurd e2 h) (by unfold iC;rw [if_pos e2]),by dsimp only;omega,⟨by dsimp only;omega,by dsimp only;omega⟩,⟨by dsimp only;omega,by dsimp only;omega⟩,⟨by dsimp only;omega,by dsimp only;omega⟩,⟨by dsimp only;omega,by dsimp only;omega⟩,fun h=>by dsimp only at h;omega⟩ (Nat.lt_succ_self m) wF ⟨⟨_,rfl,ZE _⟩,⟨_,rfl,fR (OwnI.refl _)⟩,wM⟩
 have e2:p≠2:=e2
 have mk2:∀ p':Int,p<p'→p'≤9→p'=iC (tw y.2 p d s)→(fun z:Nat×Int×Int×Int×Int=>iN c z.1 (z.2.1,tw y.2 z.2.2.1 z.2.2.2.1 z.2.2.2.2)=g9 c y∧9 - z.2.2.1<z.1∧(2≤z.2.2.1∧z.2.2.1≤9)∧(0≤z.2.2.2.1∧z.2.2.2.1≤1000)∧(0≤z.2.2.2.2∧z.2.2.2.2≤1000000)∧(0≤z.2.1∧z.2.1≤1000000)∧(z.2.2.1=2→z.2.1<1000000)) (m,k,p',0,s):=fun p' q1 q2 q3 =>
  ⟨go _ _ _ (fun h=>absurd h e2) (fun _=>⟨rfl,rfl⟩) q3,by dsimp only;omega,⟨by dsimp only;omega,q2⟩,⟨by dsimp only;omega,by dsimp only;omega⟩,h5,h6,fun h=>by dsimp only at h;omega⟩
 refine aE ?_
 refine aO (fun e3=>?_) (fun e3=>?_)
 ·have e3:p=3:=e3
  refine aE ?_
  refine aO (fun e4=>?_) (fun e4=>?_)
  ·have e4:(y.2.sets.length:Int)=0:=e4
   refine aE ?_
   refine bC (aZ 903 77) ?_
   exact bF (m,k,7,0,s) (mk2 7 (by omega) (by omega) (by unfold iC;rw [if_neg e2,if_pos e3,if_pos (show y.2.sets.length=0 by omega)])) (Nat.lt_succ_self m) wF ⟨⟨_,rfl,ZE _⟩,⟨_,rfl,fR (OwnI.refl _)⟩,wM⟩
  ·have e4:(y.2.sets.length:Int)≠0:=e4
   refine aE ?_
   refine bC (aZ 903 77) ?_
   exact bF (m,k,4,0,s) (mk2 4 (by omega) (by omega) (by unfold iC;rw [if_neg e2,if_pos e3,if_neg (show ¬ y.2.sets.length=0 by omega)])) (Nat.lt_succ_self m) wF ⟨⟨_,rfl,ZE _⟩,⟨_,rfl,fR (OwnI.refl _)⟩,wM⟩
 have e3:p≠3:=e3
 refine aE ?_
 refine aO (fun e4=>?_) (fun e4=>?_)
 ·have e4:p=4:=e4
  refine aE ?_
  refine bC (aZ 903 77) ?_
  exact bF (m,k,5,0,s) (mk2 5 (by omega) (by omega) (by unfold iC;rw [if_neg e2,if_neg e3,if_pos e4])) (Nat.lt_succ_self m) wF ⟨⟨_,rfl,ZE _⟩,⟨_,rfl,fR (OwnI.refl _)⟩,wM⟩
 have e4:p≠4:=e4
 refine aE ?_
 refine aO (fun e5=>?_) (fun e5=>?_)
 ·have e5:p=5:=e5
  refine aE ?_
  refine bC (aZ 903 77) ?_
  exact bF (m,k,6,0,s) (mk2 6 (by omega) (by omega) (by unfold iC;rw [if_neg e2,if_neg e3,if_neg e4,if_pos e5])) (Nat.lt_succ_self m) wF ⟨⟨_,rfl,ZE _⟩,⟨_,rfl,fR (OwnI.refl _)⟩,wM⟩
 have e5:p≠5:=e5
 refine aE ?_
 refine aO (fun e6=>?_) (fun e6=>?_)
 ·have e6:p=6:=e6
  refine aE ?_
  refine bC (aZ 903 77) ?_
  exact bF (m,k,7,0,s) (mk2 7 (by omega) (by omega) (by unfold iC;rw [if_neg e2,if_neg e3,if_neg e4,if_neg e5,if_pos e6])) (Nat.lt_succ_self m) wF ⟨⟨_,rfl,ZE _⟩,⟨_,rfl,fR (OwnI.refl _)⟩,wM⟩
 have e6:p≠6:=e6
 refine aE ?_
 refine aO (fun e8=>?_) (fun e8=>?_)
 ·have e8:p=8:=e8
  refine aE ?_
  refine bC (aZ 903 77) ?_
  exact bF (m,k,9,0,s) (mk2 9 (by omega) (by omega) (by unfold iC;rw [if_neg e2,if_neg e3,if_neg e4,if_neg e5,if_neg e6])) (Nat.lt_succ_self m) wF ⟨⟨_,rfl,ZE _⟩,⟨_,rfl,fR (OwnI.refl _)⟩,wM⟩
 ·have e8:p≠8:=e8
  omega
end
section
theorem R7 {c:GCluster} (hok:ClusOk c) {x:GCopyAt} (h:AtIn c x):x.backup=(x.machine != mAt c x.region.toNat 0):=by
 obtain ⟨j,h1,h2,h3⟩:=h.at'
 rw [h2,h3]
 by_cases c0:j=0
 ·subst c0;simp
 ·rw [decide_eq_true (by omega)]
  have hr:=h.region
  have hp:=((hok.2.1.2 x.region.toNat (by omega)).2 j h1)
  unfold sQ at hp
  have hn:¬ (cI c x.region).getD j 0 ∈ (cI c x.region).take j:=of_decide_eq_false (bV.1 hp).2
  have h0:mAt c x.region.toNat 0 ∈ (cI c x.region).take j:=by
   refine fY.2 ⟨0,by rw [List.length_take];omega,?_⟩
   rw [vH (by rw [List.length_take];omega)]
  have:mAt c x.region.toNat j≠mAt c x.region.toNat 0:=fun e=>hn (by
   have e2:(cI c x.region).getD j 0=mAt c x.region.toNat j:=rfl
   rw [e2,e];exact h0)
  exact (bne_iff_ne.2 this).symm
theorem zH {m:GMachine} (h:m.cleared.length≤60) (tx:Int):(bif !decide (tx ∈ m.cleared) then ((m.cleared.length:Int) == 60) else false) = !m6 m tx:=by
 unfold m6
 by_cases c1:(m.cleared.length:Int)<60
 ·rw [decide_eq_true c1,beq_eq_false_iff_ne.2 (by omega)]
  cases decide (tx ∈ m.cleared) <;>rfl
 ·rw [decide_eq_false c1,beq_iff_eq.2 (by omega)]
  cases decide (tx ∈ m.cleared) <;>rfl
set_option maxHeartbeats 4000000 in
theorem RU (c:GCluster) (hok:ClusOk c) (i:Nat) (hi:i<c.txs.length) (hp:2≤(c.txs.getD i Y5).phase∧(c.txs.getD i Y5).phase≤9) (hclk:c.clock≠1000000) :
  Con Tryz.prog 229 [900,901,902,903] [.a (.p 900 0),vI i] [(900, .row (qB c 901 902 903)),(901,roC 1 cN Y3 c.places),(902,bE 4 bQ Y4 c.machines),(903,bE 7 cTx Y5 c.txs)]
   (fun _:Unit=>True) (fun _=>[vI (fO c i).1]) fun _=>if (fO c i).1=0 then [(900, .row (qB (fO c i).2 901 902 903)),(902,bE 4 bQ Y4 (fO c i).2.machines),(903,bE 7 cTx Y5 (fO c i).2.txs)] else []:=by
 have hmid:=A7 hok hi hp hclk
 have hx:=hok.txIn hi
 have hck:=hok.1.2.1
 refine aD Tryz.func229 fun B0 r_ D_ w0=>?_
 refine a9 (fI 903 rfl (bU (sz:=7) (enc:=cTx) (z:=Y5) (set_self (z:=Y5) hi).symm) rfl) ?_
 refine aE ?_
 refine dZ TT_ok (t9 c hok i hi c.machines (c.clock,c.txs.getD i Y5) hx hp hck (fun _=>by show c.clock<1000000;omega)) rfl rfl (ZF _) (fun _=>rfl) rfl rfl rfl fun _ _=>?_
 refine aM ?_
 have hRo:=PC (c:=c) (i:=i)
 have hRn:=TZ (c:=c) (i:=i)
 have hRy:=QL (c:=c) (i:=i)
 generalize hy:g9 c (c.clock,c.txs.getD i Y5)=y at hmid hRo hRn hRy ⊢
 have hlen:(c.txs.set i y.2).length=c.txs.length:=List.length_set
 have hget:=RZ hi y.2
 rw [hget]
 refine aA (b:=bif y.2.phase == 7 then true else y.2.phase == 9) (fun e=>?_) (fun e=>?_)
 ·have h79:y.2.phase=7∨y.2.phase=9:=by
   cases c2:y.2.phase == 7 with
   | true=>exact .inl (by simpa using c2)
   | false=>rw [c2] at e;exact .inr (by simpa using e)
  rw [hRo h79,if_pos rfl]
  refine aE ?_
  refine aC (()) [(4,none)] ?_ ?_ ?_
  ·exact ZF _
  ·exact wM
  ·trivial
 have h79:¬ (y.2.phase=7∨y.2.phase=9):=by
  rintro (h | h) <;>rw [h] at e <;>cases e
 have hd:=hmid.done h79
 have hle:=C6 hok hmid.tx
 obtain ⟨hAt,hw3,hmi1,hmi0,hhas⟩:=hmid.at hok h79
 have hmi:0≤(eG c y.2).machine∧(eG c y.2).machine<c.machines.length:=⟨hmi0,by omega⟩
 have hreg:((fF c y.2).map GCopyAt.region).getD y.2.done.toNat 0=(eG c y.2).region:=lO (za:=GCopyAt.z) GCopyAt.region hd.2
 have hmch:((fF c y.2).map GCopyAt.machine).getD y.2.done.toNat 0=(eG c y.2).machine:=lO (za:=GCopyAt.z) GCopyAt.machine hd.2
 have hd1:0≤y.2.done∧y.2.done<(((fF c y.2).map GCopyAt.region).length:Int):=by rw [List.length_map];omega
 have hd2:0≤y.2.done∧y.2.done<(((fF c y.2).map GCopyAt.machine).length:Int):=by rw [List.length_map];omega
 have hmr:0≤((fF c y.2).map GCopyAt.machine).getD y.2.done.toNat 0∧((fF c y.2).map GCopyAt.machine).getD y.2.done.toNat 0<c.machines.length:=by rw [hmch];exact hmi
 have hRn:=hRn h79
 have hRy:=hRy h79
 refine aE ?_
 refine aW [] [0,1,2,3,4,5,6,7,8,9,10,11] fun B0 H0=>?_
 rw [hget]
 refine aX 6 (ZG 901 114 (ZG 902 115 (IT c hok y.1 c.machines (c.txs.set i y.2) y.2 hmid.tx))) fun _ _=>?_
 refine aY [7,8,9,10,11] ?_
 refine D0 (by kernel_rfl) ?_
 refine bC (d6 903 (i:Int) 77 rfl rfl rfl rfl rfl rfl ⟨by omega,by omega⟩) ?_
 refine bC (j6 5 rfl rfl rfl) ?_
 rw [hget]
 refine aT ?_
 rw [hreg]
 refine aW [] [0,1,2,3,4,5,6,7,8,9,10,11,12] fun B0 H0=>?_
 refine aN ?_
 rw [hmch]
 refine aA (b := !(mOf c (eG c y.2).machine).alive) (fun e=>?_) (fun e=>?_)
 ·have ha:(mOf c (eG c y.2).machine).alive=false:=by simpa using e
  have hC:eE c y.2=(6,mOf c (eG c y.2).machine,y.2):=QG ha
  have hR:=hRn (by rw [hC];show (6:Int)≠0;decide)
  rw [hR,show (eE c y.2).1=6 from by rw [hC],if_neg (by decide)]
  refine aE ?_
  refine aC (()) [(4,none)] ?_ ?_ ?_
  ·exact ZF _
  ·trivial
  ·trivial
 have ha:(c.machines.getD (eG c y.2).machine.toNat Y4).alive=true:=by simpa using e
 have hM:=hok.2.2.1 (eG c y.2).machine.toNat hmi1
 have hh:=hhas ha
 have hC0:eE c y.2=kH y.2 (eG c y.2) ((cD y.2).getD y.2.done.toNat Y8) (c.machines.getD (eG c y.2).machine.toNat Y4):=rfl
 have hA2:∀ h0:(eE c y.2).1=0,BQ (c.machines.getD (eG c y.2).machine.toNat Y4) (eE c y.2).2.1 y.2 (eE c y.2).2.2:=fun h0=>LB hok hmid h79 h0
 generalize hr:(eG c y.2).region=r at hreg hAt hw3 hh ⊢
 generalize hmm:c.machines.getD (eG c y.2).machine.toNat Y4=m at ha hM hh hC0 hA2 ⊢
 have bl:m.log.length≤200:=hM.1.2.1
 have bc:m.cleared.length≤60:=hM.1.2.2
 have bk:m.copies.length≤6:=hM.1.1
 have hrs:=(sY.1 hM.2.1).2
 obtain ⟨s1,s2,s3⟩:=rW hmid.tx.ok r
 have hs1:=hmid.tx.ok.1.2.2.2.2.2.1
 have hs2:=hmid.tx.ok.1.2.2.2.2.2.2
 have hsl:(cA r y.2.sets).length≤y.2.sets.length:=List.length_filter_le _ _
 have hcb:=(gM hM hh).2
 have hc6:(cellsOf m r).length=6:=(eI.1 hcb).1
 have hself:=zJ hh
 have hix2:0≤eU m r∧eU m r<m.copies.length:=⟨(eY (z:=ZA)).2 hh,by have:=lL (z:=ZA) ((eY (z:=ZA)).2 (show m.copies.any (atB r)=true from hh));have:=(eY (z:=ZA)).2 hh;show b0 (atB r) m.copies<_;omega⟩
 have hix3:0≤b0 (atB r) m.copies∧b0 (atB r) m.copies<m.copies.length:=hix2
 have hT1:dV (fG y.2):=(hmid.tx.same (u:=fG y.2) ⟨rfl,rfl,rfl,rfl⟩ (by have:=hmid.phase;show 1≤y.2.phase∧y.2.phase≤9;omega) (by show 0≤y.2.done+1∧y.2.done+1≤1000;omega) (hmid.tx.ok.1.2.2.2.2.1)).ok
 have hcel:cellsOf m r=(m.copies.getD (eU m r).toNat ZA).cells:=iZ hh
 refine a9 (d6 902 (eG c y.2).machine 60 rfl rfl rfl rfl rfl rfl hmi) ?_
 refine a9 (j6 9 rfl rfl rfl) ?_
 rw [show c.machines.getD (eG c y.2).machine.toNat Y4=m from hmm]
 refine a9 (aV 60 1 61) ?_
 refine a9 (aV 60 2 62) ?_
 refine a9 (aV 60 3 63) ?_
 refine aE ?_
 refine aW [] [0,1,2,3,4,5,6,7,8,9,10,11,12] fun B0 H0=>?_
 refine f6 8 (w8 m (by omega) r) rfl rfl rfl (ZF _) rfl ?_
 refine OV ?_
 refine oM TT_ok 9 rfl rfl rfl rfl ?_
 refine oM TT_ok 10 rfl rfl rfl rfl ?_
 refine nV (d6 61 (eU m r) 64 rfl rfl rfl rfl rfl rfl hix2) ?_
 refine nV (aV 64 1 65) ?_
 refine nV (j6 82 rfl rfl rfl) ?_
 refine oM TT_ok 11 rfl rfl rfl rfl ?_
 refine oM TT_ok 12 rfl rfl rfl rfl ?_
 refine F9 TT_ok rfl ?_
 refine dZ TT_ok (ZG 900 30 (FS y.2 r (by omega))) rfl rfl (ZF _) (fun _=>rfl) rfl rfl rfl fun _ _=>?_
 refine aM ?_
 rw [← hcel]
 refine dC (ι:=Unit) (fun _=>[]) (fun _=>[(902,bE 4 bQ Y4 (c.machines.set (eG c y.2).machine.toNat (eE c y.2).2.1)),(903,bE 7 cTx Y5 (c.txs.set i (eE c y.2).2.2))]) (fun _=>(eE c y.2).1=0) [902,903,77,60,61,62,63,64,65,30] [77,60,61,62,63,64,65,30] rfl rfl ?_ ?_
 ·refine aO (fun e2=>?_) (fun e2=>?_)
  ·have e2:y.2.phase=2:=e2
   have hC:=hC0.trans (YL ha e2)
   rw [hr] at hC
   refine aE ?_
   refine dZ TT_ok (ZG 901 40 (NA (cellsOf m r) (cA r y.2.sets) (by omega) hcb s1 s2 (UJ s1 s2 s3))) rfl rfl (ZF _) (fun _=>rfl) rfl rfl rfl fun _ _=>?_
   refine aM ?_
   refine eZ rfl (fun e=>?_) (fun e=>?_)
   ·have hC:eE c y.2=(0,m,sG y.2):=by rw [hC,e];rfl
    refine aE ?_
    refine cK (a7 64 1 65) ?_
    refine cK (aZ 61 64) ?_
    refine cK (fI 61 rfl (bS (y:=(r8 m r (cellsOf m r))) (OwnI.refl _)) rfl) ?_
    refine cK (a7 60 1 61) ?_
    refine cK (a7 60 2 62) ?_
    refine cK (a7 60 3 63) ?_
    refine cK (aZ 902 60) ?_
    refine cK (aZ 903 77) ?_
    refine cK (fI 902 rfl (Ch.imp_trans (bS (y:=cG m r (cellsOf m r)) (OwnI.refl _)) (bU (ys:=c.machines.set (eG c y.2).machine.toNat (eE c y.2).2.1) (by rw [hC,hself]))) rfl) ?_
    refine cK (fI 903 rfl (Ch.imp_trans (fR (u:=sG y.2) (OwnI.refl _)) (bU (ys:=c.txs.set i (eE c y.2).2.2) (by rw [hC]))) rfl) ?_
    have h0:(eE c y.2).1=0:=by rw [hC]
    have ha2:=hA2 h0
    have hR:=hRy h0
    have hphs:=hmid.phase
    have hstm:=hmid.stamp
    have hclo:=hmid.clock
    have hx2:TxIn c (eE c y.2).2.2:=hmid.tx.same ha2.same (by rcases ha2.phase with q | q <;>omega) (by rcases ha2.phase with q | q <;>omega) (by rw [ha2.stamp];omega)
    rw [hR,if_pos rfl]
    refine dZ TT_ok (t9 c hok i hi (c.machines.set (eG c y.2).machine.toNat (eE c y.2).2.1) (y.1,(eE c y.2).2.2) hx2 (by show 2≤(eE c y.2).2.2.phase∧(eE c y.2).2.2.phase≤9;rcases ha2.phase with q | q <;>omega) (by show 0≤y.1∧y.1≤1000000;omega) (fun h=>hmid.lock (by have h:(eE c y.2).2.2.phase=2:=h;rcases ha2.phase with q | q <;>omega))) rfl rfl (ZF _) (fun _=>rfl) rfl rfl rfl fun _ _=>?_
    refine aM ?_
    refine aC (()) [(4,none)] ?_ ?_ ?_
    ·exact ZF _
    ·exact wM
    ·trivial
   rw [show yF (cellsOf m r) (cA r y.2.sets)=sV (cellsOf m r) (cA r y.2.sets) from by unfold yF;rw [e];rfl]
   refine aE ?_
   refine aO (fun e5=>?_) (fun e5=>?_)
   ·have hC:eE c y.2=(9,m,y.2):=by rw [hC,e,decide_eq_true e5];rfl
    have hR:=hRn (by rw [hC];show (9:Int)≠0;decide)
    rw [hR,show (eE c y.2).1=9 from by rw [hC],if_neg (by decide)]
    refine aE ?_
    refine aC (()) [(4,none)] ?_ ?_ ?_
    ·exact ZF _
    ·trivial
    ·trivial
   have hC:eE c y.2=(0,pG (cG m r (sV (cellsOf m r) (cA r y.2.sets))) ⟨1,y.2.id,r,cA r y.2.sets⟩,fG y.2):=by rw [hC,e,decide_eq_false e5];rfl
   refine aE ?_
   refine cK (a7 64 1 65) ?_
   refine cK (aZ 61 64) ?_
   refine cK (fI 61 rfl (Ch.imp_trans (bS (y:=r8 m r (cellsOf m r)) (OwnI.refl _)) (bU (congrArg GMachine.copies hself))) rfl) ?_
   refine dZ TT_ok (ZG 905 40 (ZG 903 63 (ZG 902 62 (ZG 901 61 (ZG 900 60 (CX m (by omega) (by omega) (by omega) r hh (sV (cellsOf m r) (cA r y.2.sets)))))))) rfl rfl (ZF _) (fun _=>rfl) rfl rfl rfl fun _ _=>?_
   refine aM ?_
   refine aW [62,30] [0,1,2,3,4,5,6,7,8,9,10,11,12,13,14,15,16] fun B0 H0=>?_
   refine bB 12 rfl (by kernel_rfl) (dK TT_ok 140 (fun _=>cM ⟨1,y.2.id,r,cA r y.2.sets⟩) rfl rfl rfl rfl rfl rfl rfl (fun j hj=>by rcases j with _ | j <;>first | rfl | omega) (mu1:=[(30, .arr 0 0 fun _=>[])]) rfl rfl rfl (bA ?_))
   refine bB 13 rfl (by kernel_rfl) (dE TT_ok 62 140 66 rfl rfl rfl rfl rfl rfl rfl rfl rfl rfl rfl rfl ⟨by show (m.log.length+1) * 48≤_;omega,by unfold maxL;omega⟩ (bA ?_))
   refine aY [14,15,16] ?_
   refine d7 16 rfl (by kernel_rfl) (by kernel_rfl) (aR (eX [] fun B0 H0=>?_))
   refine aN ?_
   refine bC (a7 60 1 61) ?_
   refine bC (fI 66 rfl (cX (x:=(⟨1,y.2.id,r,cA r y.2.sets⟩:GRecord)) rfl rfl) rfl) ?_
   refine bC (a7 60 2 66) ?_
   refine bC (a7 60 3 63) ?_
   refine bC (aZ 902 60) ?_
   refine bC (aZ 903 77) ?_
   exact bF () (by rw [hC]) Nat.zero_lt_one wF ⟨⟨_,rfl,Ch.imp_trans (bS (y:=pG (cG m r (sV (cellsOf m r) (cA r y.2.sets))) ⟨1,y.2.id,r,cA r y.2.sets⟩) (OwnI.refl _)) (bU (by rw [hC]))⟩,⟨_,rfl,Ch.imp_trans (fR (u:=fG y.2) (OwnI.refl _)) (bU (by rw [hC]))⟩,wM⟩
  refine aE ?_
  refine aO (fun e3=>?_) (fun e3=>?_)
  ·have e3:y.2.phase=3:=e3
   have hk:y.2.done.toNat<(cD y.2).length:=by rw [← VS (c:=c) e3];exact hd.2
   have hk2:0≤y.2.done∧y.2.done.toNat<(cD (fG y.2)).length:=⟨hd.1,hk⟩
   have hnb:=O6 ((wI.1 hmid.tx.ok.2.1).1 _ (List.mem_filter.1 (bY (z:=Y8) hk)).1)
   have hnb2:0≤((cD (fG y.2)).getD y.2.done.toNat Y8).slot∧((cD (fG y.2)).getD y.2.done.toNat Y8).slot<(cellsOf m r).length:=⟨hnb.1,by rw [hc6];exact Int.lt_of_le_of_lt hnb.2 (by decide)⟩
   have hrn:((cD y.2).getD y.2.done.toNat Y8).region=r:=by rw [← hr,XW e3 hd.2];rfl
   have hC:=hC0.trans (YH ha e3 (by rw [hr,hrn]))
   refine aE ?_
   refine aP (ZG 900 50 (CU hT1)) fun _ _=>?_
   refine aM ?_
   have hhd:gF ((cellsOf m r).getD ((cD (fG y.2)).getD y.2.done.toNat Y8).slot.toNat Y9).head=true:=by
    have h1:=(jW.1 ((eI.1 hcb).2 _ (bY (z:=Y9) (i:=((cD (fG y.2)).getD y.2.done.toNat Y8).slot.toNat) (by omega)))).1
    exact gZ.2 h1
   have hV:=GW hhd
   refine aW [] [0,1,2,3,4,5,6,7,8] fun B0 H0=>?_
   refine f6 1 (mC _) rfl rfl rfl (ZF _) rfl ?_
   refine aY [2,3,5,6,4,7,8] ?_
   refine f6 4 (gV _) rfl rfl rfl (ZF _) rfl ?_
   refine aY [7,8] ?_
   refine aN ?_
   rw [hV]
   have hb:∀ b,(bif eW ((cellsOf m r).getD ((cD (fG y.2)).getD y.2.done.toNat Y8).slot.toNat Y9).head then true else ((cellsOf m r).getD ((cD (fG y.2)).getD y.2.done.toNat Y8).slot.toNat Y9).head.tdiv 4 != ((cD (fG y.2)).getD y.2.done.toNat Y8).version)=b→S1 m ((cD y.2).getD y.2.done.toNat Y8)=b:=fun b h=>by
    unfold S1
    rw [hrn];exact h
   refine aA (fun e=>?_) (fun e=>?_)
   ·have hC:eE c y.2=(0,m,sG y.2):=by rw [hC,hb _ e];rfl
    refine aE ?_
    refine bC (a7 64 1 65) ?_
    refine bC (aZ 61 64) ?_
    refine bC (fI 61 rfl (bS (y:=(r8 m r (cellsOf m r))) (OwnI.refl _)) rfl) ?_
    refine bC (a7 60 1 61) ?_
    refine bC (a7 60 2 62) ?_
    refine bC (a7 60 3 63) ?_
    refine bC (aZ 902 60) ?_
    refine bC (aZ 903 77) ?_
    exact bF () (by rw [hC]) Nat.zero_lt_one wF ⟨⟨_,rfl,Ch.imp_trans (bS (y:=cG m r (cellsOf m r)) (OwnI.refl _)) (bU (by rw [hC,hself]))⟩,⟨_,rfl,Ch.imp_trans (fR (u:=sG y.2) (OwnI.refl _)) (bU (by rw [hC]))⟩,wM⟩
   ·have hC:eE c y.2=(0,m,fG y.2):=by rw [hC,hb _ e];rfl
    refine aE ?_
    refine bC (a7 64 1 65) ?_
    refine bC (aZ 61 64) ?_
    refine bC (fI 61 rfl (bS (y:=(r8 m r (cellsOf m r))) (OwnI.refl _)) rfl) ?_
    refine bC (a7 60 1 61) ?_
    refine bC (a7 60 2 62) ?_
    refine bC (a7 60 3 63) ?_
    refine bC (aZ 902 60) ?_
    refine bC (aZ 903 77) ?_
    exact bF () (by rw [hC]) Nat.zero_lt_one wF ⟨⟨_,rfl,Ch.imp_trans (bS (y:=cG m r (cellsOf m r)) (OwnI.refl _)) (bU (by rw [hC,hself]))⟩,⟨_,rfl,Ch.imp_trans (fR (u:=fG y.2) (OwnI.refl _)) (bU (by rw [hC]))⟩,wM⟩
  refine aE ?_
  refine aO (fun e4=>?_) (fun e4=>?_)
  ·have e4:y.2.phase=4:=e4
   have hC:=hC0.trans (YZ ha e4)
   rw [hr] at hC
   refine aE ?_
   refine aO (fun e5=>?_) (fun e5=>?_)
   ·have hC:eE c y.2=(9,m,y.2):=by rw [hC,decide_eq_true e5];rfl
    have hR:=hRn (by rw [hC];show (9:Int)≠0;decide)
    rw [hR,show (eE c y.2).1=9 from by rw [hC],if_neg (by decide)]
    refine aE ?_
    refine aC (()) [(4,none)] ?_ ?_ ?_
    ·exact ZF _
    ·trivial
    ·trivial
   have hC:eE c y.2=(0,pG m ⟨2,y.2.id,r,cA r y.2.sets⟩,fG y.2):=by rw [hC,decide_eq_false e5];rfl
   refine aE ?_
   refine aW [62,30] [0,1,2,3,4,5,6,7,8,9,10,11,12,13,14,15,16] fun B0 H0=>?_
   refine bB 12 rfl (by kernel_rfl) (dK TT_ok 140 (fun _=>cM ⟨2,y.2.id,r,cA r y.2.sets⟩) rfl rfl rfl rfl rfl rfl rfl (fun j hj=>by rcases j with _ | j <;>first | rfl | omega) (mu1:=[(30, .arr 0 0 fun _=>[])]) rfl rfl rfl (bA ?_))
   refine bB 13 rfl (by kernel_rfl) (dE TT_ok 62 140 66 rfl rfl rfl rfl rfl rfl rfl rfl rfl rfl rfl rfl ⟨by show (m.log.length+1) * 48≤_;omega,by unfold maxL;omega⟩ (bA ?_))
   refine aY [14,15,16] ?_
   refine d7 16 rfl (by kernel_rfl) (by kernel_rfl) (aR (eX [] fun B0 H0=>?_))
   refine aN ?_
   refine bC (fI 66 rfl (cX (x:=(⟨2,y.2.id,r,cA r y.2.sets⟩:GRecord)) rfl rfl) rfl) ?_
   refine bC (a7 64 1 65) ?_
   refine bC (aZ 61 64) ?_
   refine bC (fI 61 rfl (bS (y:=(r8 m r (cellsOf m r))) (OwnI.refl _)) rfl) ?_
   refine bC (a7 60 1 61) ?_
   refine bC (a7 60 2 66) ?_
   refine bC (a7 60 3 63) ?_
   refine bC (aZ 902 60) ?_
   refine bC (aZ 903 77) ?_
   exact bF () (by rw [hC]) Nat.zero_lt_one wF ⟨⟨_,rfl,Ch.imp_trans (bS (y:=pG (cG m r (cellsOf m r)) ⟨2,y.2.id,r,cA r y.2.sets⟩) (OwnI.refl _)) (bU (by rw [hC,hself]))⟩,⟨_,rfl,Ch.imp_trans (fR (u:=fG y.2) (OwnI.refl _)) (bU (by rw [hC]))⟩,wM⟩
  refine aE ?_
  refine aO (fun e5=>?_) (fun e5=>?_)
  ·have e5:y.2.phase=5:=e5
   have hC:=hC0.trans (X9 ha e5)
   rw [hr] at hC
   refine aE ?_
   refine dZ TT_ok (ZG 900 65 (qZ (cellsOf m r) (cA r y.2.sets) (by omega) hcb s1)) rfl rfl (ZF _) (fun _=>rfl) rfl rfl rfl fun _ _=>?_
   refine aM ?_
   refine dZ TT_ok (ZG 903 63 (ZG 902 62 (ZG 901 61 (ZG 900 60 (SM m (by omega) y.2.id r))))) rfl rfl (ZF _) (fun _=>rfl) rfl rfl rfl fun _ _=>?_
   refine aM ?_
   refine bC (a7 64 1 65) ?_
   refine bC (aZ 61 64) ?_
   refine bC (fI 61 rfl (bS (y:=(r8 m r (mM (cellsOf m r) (cA r y.2.sets)))) (OwnI.refl _)) rfl) ?_
   refine bC (a7 60 1 61) ?_
   refine bC (a7 60 2 62) ?_
   refine bC (a7 60 3 63) ?_
   refine bC (aZ 902 60) ?_
   refine bC (aZ 903 77) ?_
   exact bF () (by rw [hC]) Nat.zero_lt_one wF ⟨⟨_,rfl,Ch.imp_trans (bS (y:=JE (cG m r (mM (cellsOf m r) (cA r y.2.sets))) y.2.id r) (OwnI.refl _)) (bU (by rw [hC]))⟩,⟨_,rfl,Ch.imp_trans (fR (u:=fG y.2) (OwnI.refl _)) (bU (by rw [hC]))⟩,wM⟩
  refine aE ?_
  refine aO (fun e6=>?_) (fun e6=>?_)
  ·have e6:y.2.phase=6:=e6
   have hC:=hC0.trans (YE ha e6)
   have hbk:=R7 hok hAt
   refine aE ?_
   refine aW [] [0,1,2,3,4,5,6,7,8,9,10,11,12,13,14,15,16,17] fun B0 H0=>?_
   refine f6 8 (kJ m.cleared (by omega) _) rfl rfl rfl (ZF _) rfl ?_
   refine aY [9,10,11,12,13,14,15,16,17] ?_
   refine aN ?_
   refine aA (b:=bif !decide (y.2.id ∈ m.cleared) then ((m.cleared.length:Int) == 60) else false) (fun e=>?_) (fun e=>?_)
   ·have hC:eE c y.2=(9,m,y.2):=by rw [hC, ← zH bc,e];rfl
    have hR:=hRn (by rw [hC];show (9:Int)≠0;decide)
    rw [hR,show (eE c y.2).1=9 from by rw [hC],if_neg (by decide)]
    refine aE ?_
    refine aC (()) [(4,none)] ?_ ?_ ?_
    ·exact ZF _
    ·trivial
    ·trivial
   have hC:eE c y.2=(0,T6 y.2 (eG c y.2) m,fG y.2):=by rw [hC, ← zH bc,e];rfl
   unfold T6 at hC
   rw [hr] at hC
   have hpl:=oV hok hAt.region
   have hpl0:0<(c.places.getD r.toNat Y3).machines.length:=by
    have h0:=hpl.1
    rw [hr] at h0
    exact h0
   have hrr:0≤r∧r<c.places.length:=by rw [← hr];exact hAt.region
   refine aE ?_
   refine aW [] [0,1,2,3,4,5,6,7,8,9,10,11,12,13,14] fun B0 H0=>?_
   refine aN ?_
   rw [hmch]
   rw [hr] at hbk
   refine aA (fun e2=>?_) (fun e2=>?_)
   ·have hb:(eG c y.2).backup=true:=by rw [hbk];exact e2
    have hC:eE c y.2=(0,jN (cG m r (mM (cellsOf m r) (cA r y.2.sets))) y.2.id r true,fG y.2):=by rw [hC,hb];rfl
    refine aE ?_
    refine dZ TT_ok (ZG 900 65 (qZ (cellsOf m r) (cA r y.2.sets) (by omega) hcb s1)) rfl rfl (ZF _) (fun _=>rfl) rfl rfl rfl fun _ _=>?_
    refine aM ?_
    refine dZ TT_ok (ZG 905 67 (ZG 904 66 (ZG 903 63 (ZG 902 62 (ZG 901 61 (ZG 900 60 (vK m (by omega) (by omega) hrs y.2.id r true))))))) rfl rfl (ZF _) (fun _=>rfl) rfl rfl rfl fun _ _=>?_
    refine aM ?_
    refine bC (a7 64 1 65) ?_
    refine bC (aZ 61 64) ?_
    refine bC (fI 61 rfl (bS (y:=(r8 m r (mM (cellsOf m r) (cA r y.2.sets)))) (OwnI.refl _)) rfl) ?_
    refine bC (a7 60 1 61) ?_
    refine bC (a7 60 2 66) ?_
    refine bC (a7 60 3 67) ?_
    refine bC (aZ 902 60) ?_
    refine bC (aZ 903 77) ?_
    exact bF () (by rw [hC]) Nat.zero_lt_one wF ⟨⟨_,rfl,Ch.imp_trans (bS (y:=jN (cG m r (mM (cellsOf m r) (cA r y.2.sets))) y.2.id r true) (OwnI.refl _)) (bU (by rw [hC]))⟩,⟨_,rfl,Ch.imp_trans (fR (u:=fG y.2) (OwnI.refl _)) (bU (by rw [hC]))⟩,wM⟩
   ·have hb:(eG c y.2).backup=false:=by rw [hbk];exact e2
    have hC:eE c y.2=(0,jN m y.2.id r true,fG y.2):=by rw [hC,hb];rfl
    refine aE ?_
    refine dZ TT_ok (ZG 905 67 (ZG 904 66 (ZG 903 63 (ZG 902 62 (ZG 901 61 (ZG 900 60 (vK m (by omega) (by omega) hrs y.2.id r true))))))) rfl rfl (ZF _) (fun _=>rfl) rfl rfl rfl fun _ _=>?_
    refine aM ?_
    refine bC (a7 64 1 65) ?_
    refine bC (aZ 61 64) ?_
    refine bC (fI 61 rfl (bS (y:=(r8 m r (cellsOf m r))) (OwnI.refl _)) rfl) ?_
    refine bC (a7 60 1 61) ?_
    refine bC (a7 60 2 66) ?_
    refine bC (a7 60 3 67) ?_
    refine bC (aZ 902 60) ?_
    refine bC (aZ 903 77) ?_
    exact bF () (by rw [hC]) Nat.zero_lt_one wF ⟨⟨_,rfl,Ch.imp_trans (bS (y:=jN (cG m r (cellsOf m r)) y.2.id r true) (OwnI.refl _)) (bU (by rw [hC,hself]))⟩,⟨_,rfl,Ch.imp_trans (fR (u:=fG y.2) (OwnI.refl _)) (bU (by rw [hC]))⟩,wM⟩
  have e8:y.2.phase=8:=by
   have hph:=hmid.phase
   have e2:y.2.phase≠2:=e2
   have e3:y.2.phase≠3:=e3
   have e4:y.2.phase≠4:=e4
   have e5:y.2.phase≠5:=e5
   have e6:y.2.phase≠6:=e6
   omega
  have hC:=hC0.trans (YF ha e8)
  rw [hr] at hC
  refine aE ?_
  refine aO (fun _=>?_) (fun e=>absurd e8 e)
  refine aE ?_
  refine aW [] [0,1,2,3,4,5,6,7,8,9] fun B0 H0=>?_
  refine qU 8 (ZG 903 63 (ZG 902 62 (ZG 901 61 (EH m.alive m.log (by omega) y.2.id r 1)))) rfl rfl rfl (ZF _) (fun _=>rfl) rfl rfl rfl fun _ _=>?_
  refine aY [9] ?_
  refine aN ?_
  refine aH (fun e=>?_) (fun e=>?_)
  ·have hC:eE c y.2=(0,jN (cG m r (sI (cellsOf m r) (cA r y.2.sets))) y.2.id r false,fG y.2):=by rw [hC,if_pos (show 0≤pC m y.2.id r 1 from e)]
   refine aE ?_
   refine dZ TT_ok (ZG 900 65 (E3 (cellsOf m r) (cA r y.2.sets) (by omega) hcb s1)) rfl rfl (ZF _) (fun _=>rfl) rfl rfl rfl fun _ _=>?_
   refine aM ?_
   refine dZ TT_ok (ZG 905 67 (ZG 904 66 (ZG 903 63 (ZG 902 62 (ZG 901 61 (ZG 900 60 (vK m (by omega) (by omega) hrs y.2.id r false))))))) rfl rfl (ZF _) (fun _=>rfl) rfl rfl rfl fun _ _=>?_
   refine aM ?_
   refine bC (a7 64 1 65) ?_
   refine bC (aZ 61 64) ?_
   refine bC (fI 61 rfl (bS (y:=(r8 m r (sI (cellsOf m r) (cA r y.2.sets)))) (OwnI.refl _)) rfl) ?_
   refine bC (a7 60 1 61) ?_
   refine bC (a7 60 2 66) ?_
   refine bC (a7 60 3 67) ?_
   refine bC (aZ 902 60) ?_
   refine bC (aZ 903 77) ?_
   exact bF () (by rw [hC]) Nat.zero_lt_one wF ⟨⟨_,rfl,Ch.imp_trans (bS (y:=jN (cG m r (sI (cellsOf m r) (cA r y.2.sets))) y.2.id r false) (OwnI.refl _)) (bU (by rw [hC]))⟩,⟨_,rfl,Ch.imp_trans (fR (u:=fG y.2) (OwnI.refl _)) (bU (by rw [hC]))⟩,wM⟩
  ·have hC:eE c y.2=(0,m,fG y.2):=by rw [hC,if_neg (show ¬ 0≤pC m y.2.id r 1 from e)]
   refine aE ?_
   refine bC (a7 64 1 65) ?_
   refine bC (aZ 61 64) ?_
   refine bC (fI 61 rfl (bS (y:=(r8 m r (cellsOf m r))) (OwnI.refl _)) rfl) ?_
   refine bC (a7 60 1 61) ?_
   refine bC (a7 60 2 62) ?_
   refine bC (a7 60 3 63) ?_
   refine bC (aZ 902 60) ?_
   refine bC (aZ 903 77) ?_
   exact bF () (by rw [hC]) Nat.zero_lt_one wF ⟨⟨_,rfl,Ch.imp_trans (bS (y:=cG m r (cellsOf m r)) (OwnI.refl _)) (bU (by rw [hC,hself]))⟩,⟨_,rfl,Ch.imp_trans (fR (u:=fG y.2) (OwnI.refl _)) (bU (by rw [hC]))⟩,wM⟩
 rintro ⟨⟩ h0
 refine aT ?_
 have ha2:=hA2 h0
 have hR:=hRy h0
 have hphs:=hmid.phase
 have hstm:=hmid.stamp
 have hclo:=hmid.clock
 have hx2:TxIn c (eE c y.2).2.2:=hmid.tx.same ha2.same (by rcases ha2.phase with q | q <;>omega) (by rcases ha2.phase with q | q <;>omega) (by rw [ha2.stamp];omega)
 rw [hR,if_pos rfl]
 refine dZ TT_ok (t9 c hok i hi (c.machines.set (eG c y.2).machine.toNat (eE c y.2).2.1) (y.1,(eE c y.2).2.2) hx2 (by show 2≤(eE c y.2).2.2.phase∧(eE c y.2).2.2.phase≤9;rcases ha2.phase with q | q <;>omega) (by show 0≤y.1∧y.1≤1000000;omega) (fun h=>hmid.lock (by have h:(eE c y.2).2.2.phase=2:=h;rcases ha2.phase with q | q <;>omega))) rfl rfl (ZF _) (fun _=>rfl) rfl rfl rfl fun _ _=>?_
 refine aM ?_
 refine aC (()) [(4,none)] ?_ ?_ ?_
 ·exact ZF _
 ·exact wM
 ·trivial
end
section
open Classical in
noncomputable def kG (c:GCluster) (id:Int):Int×Int:=if ClusOk c then (if eQ c id=0 then (bZ c id,0) else (-1,eQ c id)) else (-1,1)
theorem D5 (c:GCluster) (hb:D.bds eA (bK c)) (id:Int):Con Tryz.prog 228 [] [vR (bK c),vI id] [] (fun _:Unit=>True) (fun _=>[vI (kG c id).1,vI (kG c id).2]) fun _=>[]:=by
 have b3:c.txs.length≤1048576:=hb.2.2.2.2.1.1
 refine aD Tryz.func228 fun B0 r_ D_ w0=>?_
 refine d5 TT_ok rfl ?_
 refine aS 2 fun r_=>?_
 refine aE ?_
 refine aG (eK c hb) ?_
 refine eZ rfl (fun e=>?_) (fun e=>?_)
 ·rw [show kG c id=(-1,1) from if_neg (kO.1 e)]
  refine aE ?_
  refine aC (()) [(4,none),(5,none)] ?_ ?_ ?_
  ·exact ZF _
  ·trivial
  ·trivial
 have hok:=fP.1 e
 have hR:kG c id=if eQ c id=0 then (bZ c id,0) else (-1,eQ c id):=if_pos hok
 refine aE ?_
 refine aG (xP c b3 id) ?_
 refine aH (fun e1=>?_) (fun e1=>?_)
 ·have h:eQ c id=2:=by unfold eQ;rw [decide_eq_true e1];rfl
  rw [show kG c id=(-1,eQ c id) from by rw [hR,if_neg (by rw [h];decide)],h]
  refine aE ?_
  refine aC (()) [(4,none),(5,none)] ?_ ?_ ?_
  ·exact ZF _
  ·trivial
  ·trivial
 have hin:=fS (c:=c) (id:=id) (by omega)
 have hlt:=lT (c:=c) (id:=id)
 have hh:=hok.home hin.1
 refine aE ?_
 refine aW [] [0,1,2,3,4,5,6,7,8,9,10,11,12] fun B0 H0=>?_
 refine aN ?_
 refine aA (b := !kQ c id) (fun e2=>?_) (fun e2=>?_)
 ·have h:eQ c id=3:=by unfold eQ;rw [decide_eq_false e1,e2];rfl
  rw [show kG c id=(-1,eQ c id) from by rw [hR,if_neg (by rw [h];decide)],h]
  refine aE ?_
  refine aC (()) [(4,none),(5,none)] ?_ ?_ ?_
  ·exact ZF _
  ·trivial
  ·trivial
 refine aE ?_
 have hm:eQ c id=bif (bif (bif (bP c id).phase == 1 then true else (bP c id).phase == 7) then true else (bP c id).phase == 9) then 4 else 0:=by
  unfold eQ
  rw [decide_eq_false e1,e2]
  cases (bP c id).phase == 1 <;>cases (bP c id).phase == 7 <;>rfl
 refine aA (b:=bif (bif (bP c id).phase == 1 then true else (bP c id).phase == 7) then true else (bP c id).phase == 9) (fun e3=>?_) (fun e3=>?_)
 ·have h:eQ c id=4:=by rw [hm,e3];rfl
  rw [show kG c id=(-1,eQ c id) from by rw [hR,if_neg (by rw [h];decide)],h]
  refine aE ?_
  refine aC (()) [(4,none),(5,none)] ?_ ?_ ?_
  ·exact ZF _
  ·trivial
  ·trivial
 have h:eQ c id=0:=by rw [hm,e3];rfl
 rw [show kG c id=(bZ c id,0) from by rw [hR,if_pos h]]
 refine aE ?_
 refine aC (()) [(4,none),(5,none)] ?_ ?_ ?_
 ·exact ZF _
 ·trivial
 ·trivial
theorem HI (c:GCluster) (id:Int):eQ c id≠1:=by
 unfold eQ
 cases decide (bZ c id<0) <;>cases kQ c id <;>cases (bif (bP c id).phase == 1 then true else bif (bP c id).phase == 7 then true else (bP c id).phase == 9) <;>decide
theorem UR (t:GTx) (x:GCopyAt) (n:GNote) (m:GMachine):(kH t x n m).1≠1:=by
 unfold kH
 cases m.alive with
 | false=>simp
 | true =>
  simp only [Bool.not_true,cond_false]
  split
  ·cases oK (cellsOf m x.region) (cA x.region t.sets) <;>cases decide ((m.log.length:Int)=200) <;>simp
  ·split
   ·cases (bif eW ((cellsOf m x.region).getD n.slot.toNat Y9).head then true else ((cellsOf m x.region).getD n.slot.toNat Y9).head.tdiv 4 != n.version) <;>simp
   ·split
    ·cases decide ((m.log.length:Int)=200) <;>simp
    ·split
     ·simp
     ·split
      ·cases m6 m t.id <;>simp
      ·split <;>simp
theorem QB (c:GCluster) (i:Nat):(fO c i).1≠1:=by
 unfold fO
 dsimp only
 split
 ·simp
 ·split
  ·simp
  ·exact UR _ _ _ _
theorem CY (c:GCluster) (hb:D.bds eA (bK c)) (id:Int):yN Tryz.prog 215 [vR (bK c),vI id] (eF c id).1 (eF c id).2:=by
 refine aD Tryz.func215 fun B0 r_ D_ w0=>?_
 refine d5 TT_ok rfl ?_
 refine aS 2 fun r_=>?_
 refine aE ?_
 refine aP (D5 c hb id) fun _ _=>?_
 refine aM ?_
 by_cases hok:ClusOk c
 ·by_cases hm:eQ c id=0
  ·rw [show kG c id=(bZ c id,0) from by unfold kG;rw [if_pos hok,if_pos hm]]
   obtain ⟨hge,_⟩:=pN hm
   have hi:=(fS hge).1
   have hpp:=xW hok hm
   refine bW rfl (fun e=>by cases e) (fun _=>?_)
   refine aE ?_
   refine aO (fun e2=>?_) (fun e2=>?_)
   ·rw [show eF c id=(c,9) from by unfold eF;rw [if_pos hok,if_neg (by omega),if_pos e2]]
    refine aE ?_
    refine dZ TT_ok (j7 c hb 9 (by decide)) rfl rfl (ZF _) (fun _=>rfl) rfl rfl rfl fun _ _=>?_
    refine aM ?_
    refine aC (()) [(4,some 33),(5,none)] ?_ ?_ ?_
    ·exact ZF _
    ·exact wM
    ·trivial
   have hS:=M5 hok hm e2
   have hpl:=LY hok id
   obtain ⟨n,hn⟩:=Int.eq_ofNat_of_zero_le hge
   have hnn:(bZ c id).toNat=n:=by rw [hn];rfl
   rw [hnn] at hS hi
   have hpp:2≤(c.txs.getD n Y5).phase∧(c.txs.getD n Y5).phase≤9:=by rw [← hnn];exact hpp
   have hst:=RU c hok n hi hpp e2
   refine aE ?_
   refine aP (gR c hb) fun _ _=>?_
   refine aM ?_
   rw [hn]
   by_cases h0:(fO c n).1=0
   ·rw [if_pos h0,h0] at hst
    rw [if_pos h0] at hS
    rw [hS] at hpl
    rw [hS]
    refine dZ TT_ok (ZG 900 8 hst) rfl rfl (ZF _) (fun _=>rfl) rfl rfl rfl (fun _ _=>?_) (hin:=by repeat (first | exact trivial | refine And.intro ⟨_,rfl,tT⟩ ?_ | refine And.intro ⟨_,rfl,yG⟩ ?_ | refine And.intro ⟨_,rfl,uM⟩ ?_ | refine And.intro ⟨_,rfl,F5⟩ ?_ | refine And.intro ⟨_,rfl,ZE _⟩ ?_))
    refine aM ?_
    refine bW rfl (fun e=>by cases e) (fun _=>?_)
    refine aE ?_
    refine aC (()) [(4,some 33),(5,none)] ?_ ?_ ?_
    ·exact ZF _
    ·exact ⟨⟨_,rfl,bU hpl.symm⟩,⟨_,rfl,ZE _⟩,⟨_,rfl,ZE _⟩,trivial⟩
    ·trivial
   ·rw [if_neg h0] at hst hS
    rw [hS]
    refine dZ TT_ok (ZG 900 8 hst) rfl rfl (ZF _) (fun _=>rfl) rfl rfl rfl (fun _ _=>?_) (hin:=by repeat (first | exact trivial | refine And.intro ⟨_,rfl,tT⟩ ?_ | refine And.intro ⟨_,rfl,yG⟩ ?_ | refine And.intro ⟨_,rfl,uM⟩ ?_ | refine And.intro ⟨_,rfl,F5⟩ ?_ | refine And.intro ⟨_,rfl,ZE _⟩ ?_))
    refine aM ?_
    refine iJ rfl (fun _=>?_) (fun e=>absurd e h0)
    refine aE ?_
    refine aP (ZG 901 911 (ZG 902 912 (ZG 903 913 (j7 c hb (fO c n).1 (QB c n))))) fun _ _=>?_
    refine aM ?_
    refine a9 (bH 911 901) ?_
    refine a9 (bH 912 902) ?_
    refine a9 (bH 913 903) ?_
    refine aC (()) [(4,some 33),(5,none)] ?_ ?_ ?_
    ·exact ZF _
    ·exact wM
    ·trivial
  ·rw [show eF c id=(c,eQ c id) from by unfold eF;rw [if_pos hok,if_pos hm]]
   rw [show kG c id=(-1,eQ c id) from by unfold kG;rw [if_pos hok,if_neg hm]]
   refine iJ rfl (fun _=>?_) (fun e=>absurd e hm)
   refine aE ?_
   refine aP (j7 c hb (eQ c id) (HI c id)) fun _ _=>?_
   refine aM ?_
   refine aC (()) [(4,some 33),(5,none)] ?_ ?_ ?_
   ·exact ZF _
   ·exact wM
   ·trivial
 ·rw [show eF c id=(Y6,1) from by unfold eF;rw [if_neg hok]]
  rw [show kG c id=(-1,1) from if_neg hok]
  refine bW rfl (fun _=>?_) (fun e=>by cases e)
  refine aE ?_
  refine aP (o8 c) fun _ _=>?_
  refine aM ?_
  refine aC (()) [(4,some 33),(5,none)] ?_ ?_ ?_
  ·exact ZF _
  ·exact wM
  ·trivial
set_option maxHeartbeats 1000000 in
theorem IZ (c:GCluster) (hb:D.bds eA (bK c)) (id:Int):yN Tryz.prog 216 [vR (bK c),vI id] (kP c id).1 (kP c id).2:=by
 refine aD Tryz.func216 fun B0 r_ D_ w0=>?_
 refine d5 TT_ok rfl ?_
 refine aS 2 fun r_=>?_
 refine aE ?_
 refine aP (D5 c hb id) fun _ _=>?_
 refine aM ?_
 by_cases hok:ClusOk c
 ·by_cases hm:eQ c id=0
  ·rw [show kG c id=(bZ c id,0) from by unfold kG;rw [if_pos hok,if_pos hm]]
   obtain ⟨hge,_⟩:=pN hm
   have hF:kP c id=pQ id 200 c:=by unfold kP;rw [if_pos hok]
   rw [hF]
   refine bW rfl (fun e=>by cases e) (fun _=>?_)
   refine aE ?_
   refine aP (gR c hb) fun _ _=>?_
   refine aM ?_
   refine cW (ι:=Nat×GCluster) (fun z=>[(9,vI z.1)]) (fun z=>[(8, .row (qB z.2 901 902 903)),(901,bE 1 cN Y3 z.2.places),(902,bE 4 bQ Y4 z.2.machines),(903,bE 7 cTx Y5 z.2.txs)])
    (fun z=>z.1≤200∧ClusOk z.2∧0≤bZ z.2 id∧pQ id 200 c=pQ id (200 - z.1) z.2) (fun z=>200 - z.1) (0,c) [8,901,902,903] [901,902,903] rfl rfl ⟨Nat.zero_le _,hok,hge,rfl⟩ wF wM ?_
   rintro ⟨i,d⟩ ⟨h1,h2,h3,h4⟩
   dsimp only at h1 h2 h3 h4 ⊢
   refine aE ?_
   refine aH (fun e=>?_) (fun e=>?_)
   ·have hi:i<200:=by omega
    rw [R1 (d:=d) i,if_pos hi] at h4
    have hok2:=xL h2 id
    have b3:(eF d id).1.txs.length≤1048576:=by have:=hok2.1.2.2.2;omega
    have hf2:bZ (eF d id).1 id=bZ d id:=O7 h2 id id
    have hlt:=lT (c:=(eF d id).1) (id:=id)
    have hge2:0≤bZ (eF d id).1 id:=by rw [hf2];exact h3
    refine aE ?_
    refine aP (ZG 901 911 (ZG 902 912 (ZG 903 913 (CY d (vN h2) id)))) fun _ _=>?_
    refine aM ?_
    by_cases h0:(eF d id).2=0
    ·rw [if_pos h0] at h4
     rw [h0]
     refine bW rfl (fun e=>by cases e) (fun _=>?_)
     refine aE ?_
     refine aW [] [0,1,2,3,4,5,6,7,8] fun B0 H0=>?_
     refine f6 4 (xP (eF d id).1 b3 id) rfl rfl rfl (ZF _) rfl ?_
     refine aY [5,6,7,8] ?_
     refine N8 49 4 951 rfl rfl rfl rfl rfl rfl ?_
     refine N8 49 5 952 rfl rfl rfl rfl rfl rfl ?_
     refine bB 7 rfl (by kernel_rfl) (aR (bA ?_))
     refine bB 8 rfl (by kernel_rfl) (aR (bA ?_))
     refine aN ?_
     refine aA (b:=PR (bP (eF d id).1 id)) (fun e2=>?_) (fun e2=>?_)
     ·rw [if_pos e2] at h4
      rw [h4]
      refine aE ?_
      refine a9 (bH 911 901) ?_
      refine a9 (bH 912 902) ?_
      refine a9 (bH 913 903) ?_
      refine aC (()) [(4,some 33),(5,none)] ?_ ?_ ?_
      ·exact ZF _
      ·exact wM
      ·trivial
     ·rw [if_neg (by rw [e2];simp)] at h4
      refine aE ?_
      refine bC (bH 911 901) ?_
      refine bC (bH 912 902) ?_
      refine bC (bH 913 903) ?_
      exact aK (i+1,(eF d id).1) ⟨hi,hok2,hge2,h4⟩ (by show 200 - (i+1)<200 - i;omega)
    ·rw [if_neg h0] at h4
     rw [h4]
     refine iJ rfl (fun _=>?_) (fun e=>absurd e h0)
     refine aE ?_
     refine aC (()) [(4,some 33),(5,none)] ?_ ?_ ?_
     ·exact ZF _
     ·exact wM
     ·trivial
   ·have hi:i=200:=by omega
    subst hi
    rw [h4,show pQ id (200 - 200) d=(d,0) from rfl]
    refine aE ?_
    refine aC (()) [(4,some 33),(5,none)] ?_ ?_ ?_
    ·exact ZF _
    ·exact wM
    ·trivial
  ·rw [MU hok hm]
   rw [show kG c id=(-1,eQ c id) from by unfold kG;rw [if_pos hok,if_neg hm]]
   refine iJ rfl (fun _=>?_) (fun e=>absurd e hm)
   refine aE ?_
   refine aP (j7 c hb (eQ c id) (HI c id)) fun _ _=>?_
   refine aM ?_
   refine aC (()) [(4,some 33),(5,none)] ?_ ?_ ?_
   ·exact ZF _
   ·exact wM
   ·trivial
 ·rw [show kP c id=(Y6,1) from by unfold kP;rw [if_neg hok]]
  rw [show kG c id=(-1,1) from if_neg hok]
  refine bW rfl (fun _=>?_) (fun e=>by cases e)
  refine aE ?_
  refine aP (o8 c) fun _ _=>?_
  refine aM ?_
  refine aC (()) [(4,some 33),(5,none)] ?_ ?_ ?_
  ·exact ZF _
  ·exact wM
  ·trivial
end
section
def fU (c:GCluster):List Bool:=c.machines.map GMachine.alive
def rU (al:List Bool) (m:Int):Bool:=bif decide (m<(al.length:Int)) then al.getD m.toNat false else false
def dA (al:List Bool) (next:List Int):Nat→List Int
 | 0=>next
 | m+1=>bif (bif (bif al.getD m false then decide (((dA al next m).length:Int)<3) else false) then !decide ((m:Int) ∈ dA al next m) else false) then dA al next m ++ [(m:Int)] else dA al next m
def gG (al:List Bool) (p:GPlace):List Int:=p.machines.filter (rU al)
def sD (al:List Bool) (p:GPlace):GPlace:=if (gG al p).length=0 then ⟨p.machines⟩ else ⟨dA al (gG al p) al.length⟩
def jT (al:List Bool) (ps:List GPlace):Nat→List Int
 | 0=>[]
 | r+1=>if (gG al (ps.getD r Y3)).length=0 then jT al ps r ++ [(r:Int)] else jT al ps r
theorem EX {al:List Bool} {next:List Int} {k:Nat} (h:3≤(dA al next k).length):∀ j,dA al next (k+j)=dA al next k
 | 0=>rfl
 | j+1=>by
  have ih:=EX h j
  rw [show k+(j+1)=(k+j)+1 from rfl,dA,ih,decide_eq_false (show ¬ ((dA al next k).length:Int)<3 by omega)]
  cases al.getD (k+j) false <;>rfl
theorem DF {al:List Bool} {next:List Int} (h:next.length≤3):∀ k,(dA al next k).length≤3
 | 0=>h
 | k+1=>by
  have ih:=DF h k (al:=al)
  rw [dA]
  by_cases c:((dA al next k).length:Int)<3
  ·cases (bif (bif al.getD k false then decide (((dA al next k).length:Int)<3) else false) then !decide ((k:Int) ∈ dA al next k) else false) with
   | true=>simp only [cond_true,List.length_append,List.length_singleton];omega
   | false=>exact ih
  ·rw [decide_eq_false c]
   cases al.getD k false <;>exact ih
def mD (c:GCluster) (t:GTx):List Int:=(bG t).map fun r=>yI c t.id r (cI c r).length
def qS (vs:List Int):Bool:=vs.any (· == 4) || (vs.any (· == 3) && vs.all (fun v=>decide (2≤v)) )
def tR (d:Bool) (t:GTx) (r:Int) (m:GMachine):GMachine :=
 bif !m.alive then m
 else E5 (bif d then cG m r (mM (cellsOf m r) (cA r t.sets)) else if 0≤pC m t.id r 1 then cG m r (sI (cellsOf m r) (cA r t.sets)) else m) t.id r
def vX (d:Bool) (t:GTx) (ms:List GMachine) (x:GCopyAt):List GMachine:=ms.set x.machine.toNat (tR d t x.region (ms.getD x.machine.toNat Y4))
def OO (d:Bool) (t:GTx):GTx:={ t with phase:=(bif d then 7 else 9),done:=0 }
theorem WS {d:Bool} {t:GTx} (ht:dV t) {r:Int} {m:GMachine} (hm:cS m) (hh:m.alive=true→dQ m r=true):cS (tR d t r m)∧(tR d t r m).alive=m.alive∧∀ q,dQ (tR d t r m) q=dQ m q:=by
 unfold tR
 cases ha:m.alive with
 | false=>exact ⟨hm,ha,fun _=>rfl⟩
 | true =>
  have hc:=(gM hm (hh ha)).2
  have s1:=(rW ht r).1
  have cl:∀ {x:GMachine},cS x→cS (E5 x t.id r):=fun {x} h=>uX (d:=false) h ht.1.1 fun e=>by cases e
  simp only [Bool.not_true,cond_false]
  cases d with
  | true=>exact ⟨cl (kZ hm (DV hc s1)),ha,fun q=>j9 _ _ _ _⟩
  | false =>
   simp only [cond_false]
   split
   ·exact ⟨cl (kZ hm (K6 hc s1)),ha,fun q=>j9 _ _ _ _⟩
   ·exact ⟨cl hm,ha,fun _=>rfl⟩
structure Like (ms ns:List GMachine):Prop where
 len:ns.length=ms.length
 ok:∀ j,j<ns.length→cS (ns.getD j Y4)∧(ns.getD j Y4).alive=(ms.getD j Y4).alive∧∀ q,dQ (ns.getD j Y4) q=dQ (ms.getD j Y4) q
theorem RM {c:GCluster} (hok:ClusOk c) {d:Bool} {t:GTx} (ht:dV t) {ms:List GMachine} (h:Like c.machines ms) {x:GCopyAt} (hx:AtIn c x):Like c.machines (vX d t ms x):=by
 obtain ⟨j,h2,h3,h4⟩:=hx.at'
 have h5:=hok.at (r:=x.region.toNat) (k:=j) (by have:=hx.region;omega) h2
 rw [← h3,Int.toNat_of_nonneg hx.region.1] at h5
 have h6:=h5.2
 unfold b8 at h6
 rw [← h3] at h6
 have hlt:x.machine.toNat<ms.length:=by rw [h.len];omega
 obtain ⟨g1,g2,g3⟩:=h.ok _ hlt
 obtain ⟨q1,q2,q3⟩:=WS (d:=d) ht (r:=x.region) g1 (fun e=>by rw [g3];exact h6 (g2 ▸ e))
 refine ⟨by unfold vX;rw [List.length_set];exact h.len,fun k hk=>?_⟩
 unfold vX at hk ⊢
 rw [List.length_set] at hk
 rw [gW hlt]
 split
 ·rename_i e;subst e;exact ⟨q1,q2.trans g2,fun q=>(q3 q).trans (g3 q)⟩
 ·exact h.ok k hk
theorem Like.refl {c:GCluster} (hok:ClusOk c):Like c.machines c.machines:=⟨rfl,fun j hj=>⟨hok.2.2.1 j hj,rfl,fun _=>rfl⟩⟩
theorem A6 {c:GCluster} (hok:ClusOk c) {d:Bool} {t:GTx} (ht:dV t):∀ {xs:List GCopyAt} {ms:List GMachine},(∀ x ∈ xs,AtIn c x)→Like c.machines ms→Like c.machines (xs.foldl (vX d t) ms)
 | [],_,_,h=>h
 | x :: r,ms,hx,h=>by
  rw [List.foldl_cons]
  exact A6 hok ht (fun y hy=>hx y (by simp [hy])) (RM hok ht h (hx x (by simp)))
def qM (c:GCluster) (t:GTx):Bool:=bif t.phase != 8 then (bif t.phase != 1 then qS (mD c t) else false) else false
def AD (d:GCluster) (i:Nat):GCluster:={ d with machines:=(mF d (d.txs.getD i Y5) false).foldl (vX (qM d (d.txs.getD i Y5)) (d.txs.getD i Y5)) d.machines,txs:=d.txs.set i (OO (qM d (d.txs.getD i Y5)) (d.txs.getD i Y5)) }
def fX (c:GCluster):Nat→GCluster
 | 0=>c
 | i+1=>if yW c (c.txs.getD i Y5)=true then AD (fX c i) i else fX c i
def BC (r:Int) (x:GCopy):Int:=x.region - r
noncomputable def iW (m:GMachine) (r:Int) (xs:List GCell):GMachine :=
 if dQ m r=true then cG m r xs else { m with copies:=fD (oC (BC r) ZA m.copies) ⟨r,xs⟩ m.copies }
noncomputable def jG (old l:List Int) (r:Int) (xs:List GCell):Nat→List GMachine→List GMachine
 | 0,ms=>ms
 | k+1,ms=>if l.getD k 0 ∈ old then jG old l r xs k ms else (jG old l r xs k ms).set (l.getD k 0).toNat (iW ((jG old l r xs k ms).getD (l.getD k 0).toNat Y4) r xs)
noncomputable def iG (ps qs:List GPlace):Nat→List GMachine→List GMachine
 | 0,ms=>ms
 | r+1,ms=>jG (ps.getD r Y3).machines (qs.getD r Y3).machines (r:Int) (cellsOf ((iG ps qs r ms).getD ((qs.getD r Y3).machines.getD 0 0).toNat Y4) (r:Int)) (qs.getD r Y3).machines.length (iG ps qs r ms)
abbrev bN (c:GCluster):List GPlace:=c.places.map (sD (fU c))
open Classical in
noncomputable def f9 (c:GCluster):GCluster :=
 if ClusOk c∧c.config≠1000000 then
  (if (jT (fU c) c.places c.places.length).length > 0 then { c with lost:=true }
   else { fX c c.txs.length with machines:=iG c.places (bN c) c.places.length (fX c c.txs.length).machines,places:=bN c,config:=c.config+1 })
 else Y6
structure RecIn (c d:GCluster) (i:Nat):Prop where
 like:Like c.machines d.machines
 config:d.config=c.config
 clock:d.clock=c.clock
 places:d.places=c.places
 lost:d.lost=c.lost
 len:d.txs.length=c.txs.length
 rest:∀ j,i≤j→d.txs.getD j Y5=c.txs.getD j Y5
 txs:∀ j,j<c.txs.length→Same (c.txs.getD j Y5) (d.txs.getD j Y5)∧(1≤(d.txs.getD j Y5).phase∧(d.txs.getD j Y5).phase≤9)∧(0≤(d.txs.getD j Y5).done∧(d.txs.getD j Y5).done≤1000)∧(d.txs.getD j Y5).stamp=(c.txs.getD j Y5).stamp
theorem GY {c d:GCluster} (h:d.places=c.places) (t:GTx) (b:Bool):mF d t b=mF c t b:=by
 have:∀ (ws:List Int) k,mJ d ws b k=mJ c ws b k:=fun ws k=>by
  induction k with
  | zero=>rfl
  | succ k ih=>rw [mJ,mJ,ih];unfold cI;rw [h]
 exact this _ _
theorem PJ {c:GCluster} {t:GTx} (ht:TxIn c t) {b:Bool}:∀ x ∈ mF c t b,AtIn c x:=fun _ h=>wS (fun _ hk=>jI ht hk) (Nat.le_refl _) h
theorem RecIn.ok {c d:GCluster} {i:Nat} (hok:ClusOk c) (h:RecIn c d i):ClusOk d:=by
 refine ⟨⟨by rw [h.config];exact hok.1.1,by rw [h.clock];exact hok.1.2.1,by rw [h.like.len];exact hok.1.2.2.1,by rw [h.len];exact hok.1.2.2.2⟩,by rw [h.places];exact hok.2.1,fun j hj=>(h.like.ok j hj).1,fun r hr k hk=>?_,fun j hj=>?_⟩
 ·rw [h.places] at hr hk
  have g:=hok.2.2.2.1 r hr k hk
  unfold l6 at g ⊢
  have e1:mAt d r k=mAt c r k:=by unfold mAt;rw [h.places]
  rw [e1,h.like.len]
  by_cases c1:mAt c r k ≥ (c.machines.length:Int)
  ·rw [decide_eq_true c1] at g;cases g
  ·have c2:=(hok.at hr hk).1
   obtain ⟨_,q2,q3⟩:=h.like.ok (mAt c r k).toNat (by rw [h.like.len];omega)
   rw [q2,q3];exact g
 ·rw [h.len] at hj
  have g:=hok.2.2.2.2 j hj
  obtain ⟨hs,hp,hd,hst⟩:=h.txs j hj
  obtain ⟨k1,k2,k3⟩:=hok.tx hj
  rw [h.places]
  refine ⟨?_,by rw [hs.reads];exact g.2.1,by rw [hs.sets];exact g.2.2⟩
  have g1:=g.1
  unfold jQ at g1 ⊢
  rw [h.like.len,h.clock]
  obtain ⟨g2,g3⟩:=bV.1 g1
  obtain ⟨g4,g5⟩:=bV.1 g2
  obtain ⟨g6,g7⟩:=bV.1 g4
  refine bV.2 ⟨bV.2 ⟨bV.2 ⟨?_,?_⟩,by rw [hs.home];exact g5⟩,by rw [hst];exact g3⟩
  ·have ht:dV (d.txs.getD j Y5):=by
    unfold dV m7
    rw [hs.id,hs.home,hs.reads,hs.sets,hst]
    exact ⟨⟨k1.1,k1.2.1,hp,hd,k1.2.2.2.2.1,k1.2.2.2.2.2⟩,k2,k3⟩
   rw [dG ht];rfl
  ·rw [hs.id]
   by_cases c1:(j:Int) > 0
   ·rw [decide_eq_true c1] at g7 ⊢
    have:=(h.txs ((j:Int) - 1).toNat (by omega)).1.id
    rw [this];exact g7
   ·rw [decide_eq_false c1];rfl
theorem WU {c d:GCluster} {i:Nat} (hok:ClusOk c) (hi:i<c.txs.length) (h:RecIn c d i):RecIn c (AD d i) (i+1):=by
 have e:d.txs.getD i Y5=c.txs.getD i Y5:=h.rest i (Nat.le_refl _)
 have hin:=hok.txIn hi
 unfold AD
 rw [e]
 generalize qM d (c.txs.getD i Y5)=b
 have hlt:i<d.txs.length:=by rw [h.len];exact hi
 refine ⟨?_,h.config,h.clock,h.places,h.lost,by dsimp only;rw [List.length_set];exact h.len,fun j hj=>?_,fun j hj=>?_⟩
 ·dsimp only
  rw [GY h.places]
  exact A6 hok hin.ok (PJ hin) h.like
 ·dsimp only
  rw [gW hlt,if_neg (by omega)]
  exact h.rest j (by omega)
 ·dsimp only
  rw [gW hlt]
  split
  ·rename_i e2;subst e2
   refine ⟨⟨rfl,rfl,rfl,rfl⟩,?_,?_,rfl⟩
   ·show 1≤(bif b then (7:Int) else 9)∧(bif b then (7:Int) else 9)≤9
    cases b <;>decide
   ·show (0:Int)≤0∧(0:Int)≤1000
    omega
  ·exact h.txs j hj
theorem B7 {c:GCluster} (hok:ClusOk c):∀ i,i≤c.txs.length→RecIn c (fX c i) i
 | 0,_=>⟨Like.refl hok,rfl,rfl,rfl,rfl,rfl,fun _ _=>rfl,fun j hj=>by
  have:=(hok.tx hj).1
  exact ⟨.refl _,this.2.2.1,this.2.2.2.1,rfl⟩⟩
 | i+1,hi=>by
  have ih:=B7 hok i (by omega)
  rw [fX]
  split
  ·exact WU hok (by omega) ih
  ·exact ⟨ih.like,ih.config,ih.clock,ih.places,ih.lost,ih.len,fun j hj=>ih.rest j (by omega),ih.txs⟩
end
section
theorem W8 (vs:List Int):vs.all (fun v=>decide (2≤v)) = !vs.any fun v=>decide (v<2):=by
 induction vs with
 | nil=>rfl
 | cons a r ih =>
  rw [List.all_cons,List.any_cons,ih,Bool.not_or]
  congr 1
  by_cases c:a<2
  ·rw [decide_eq_true c,decide_eq_false (by omega)];rfl
  ·rw [decide_eq_false c,decide_eq_true (by omega)];rfl
theorem OA (vs:List Int) (n:Int):vs.any (· == n)=decide (n ∈ vs):=by
 by_cases c:n ∈ vs
 ·rw [decide_eq_true c];exact List.any_eq_true.2 ⟨n,c,by simp⟩
 ·rw [decide_eq_false c]
  cases e:vs.any (· == n) with
  | false=>rfl
  | true =>
   obtain ⟨x,h1,h2⟩:=List.any_eq_true.1 e
   have h3:x=n:=by simpa using h2
   exact absurd (h3 ▸ h1) c
theorem OH (vs:List Int):qS vs=bif decide ((4:Int) ∈ vs) then true else (bif decide ((3:Int) ∈ vs) then !vs.any (fun v=>decide (v<2)) else false):=by
 unfold qS
 rw [OA,OA,W8]
 cases decide ((4:Int) ∈ vs) <;>cases decide ((3:Int) ∈ vs) <;>rfl
def GJ (vs:List Int):Nat→Int
 | 0=>4
 | k+1=>if GJ vs k<vs.getD k 0 then GJ vs k else vs.getD k 0
def xN (vs:List Int):Nat→Int
 | 0=>0
 | k+1=>DH (xN vs k) (vs.getD k 0)
theorem OC {vs:List Int}:∀ {k:Nat},k≤vs.length→(2≤GJ vs k ↔ ∀ j,j<k→2≤vs.getD j 0)
 | 0,_=>⟨fun _ j hj=>absurd hj (Nat.not_lt_zero _),fun _=>by show (2:Int)≤4;decide⟩
 | k+1,h=>by
  have ih:=OC (vs:=vs) (k:=k) (by omega)
  rw [GJ]
  constructor
  ·intro h2 j hj
   split at h2
   ·by_cases c:j<k
    ·exact ih.1 h2 j c
    ·have:j=k:=by omega
     subst this;omega
   ·by_cases c:j<k
    ·exact ih.1 (by omega) j c
    ·have:j=k:=by omega
     subst this;exact h2
  ·intro h2
   split
   ·exact ih.2 fun j hj=>h2 j (by omega)
   ·exact h2 k (Nat.lt_succ_self k)
theorem HU {vs:List Int}:∀ {k:Nat},k≤vs.length→0≤xN vs k∧∀ j,j<k→vs.getD j 0≤xN vs k
 | 0,_=>⟨Int.le_refl _,fun j hj=>absurd hj (Nat.not_lt_zero _)⟩
 | k+1,h=>by
  obtain ⟨h1,h2⟩:=HU (vs:=vs) (k:=k) (by omega)
  rw [xN]
  unfold DH
  refine ⟨by split <;>omega,fun j hj=>?_⟩
  by_cases c:j<k
  ·have:=h2 j c
   split <;>omega
  ·have:j=k:=by omega
   subst this
   split <;>omega
theorem OK (vs:List Int):(bif decide ((4:Int) ∈ vs) then true else bif (bif decide ((3:Int) ∈ vs) then decide (GJ vs vs.length ≥ 2) else false) then decide (xN vs vs.length > 0) else false)=qS vs:=by
 rw [OH]
 by_cases c4:(4:Int) ∈ vs
 ·rw [decide_eq_true c4];rfl
 ·rw [decide_eq_false c4]
  by_cases c3:(3:Int) ∈ vs
  ·rw [decide_eq_true c3]
   obtain ⟨j,hj,e⟩:=fY.1 c3
   have hh:=(HU (vs:=vs) (Nat.le_refl _)).2 j hj
   rw [decide_eq_true (show xN vs vs.length > 0 by omega)]
   have hlow:=OC (vs:=vs) (Nat.le_refl _)
   cases ha:vs.any (fun v=>decide (v<2)) with
   | true =>
    obtain ⟨x,h1,h2⟩:=List.any_eq_true.1 ha
    obtain ⟨i,hi,e2⟩:=fY.1 h1
    rw [decide_eq_false (fun h=>by have:=hlow.1 h i hi;have:=of_decide_eq_true h2;omega)]
    rfl
   | false =>
    rw [decide_eq_true (hlow.2 fun i hi=>?_)]
    ·rfl
    ·cases e3:decide (vs.getD i 0<2) with
     | true=>rw [List.any_eq_true.2 ⟨_,bY (z:=0) hi,e3⟩] at ha;cases ha
     | false=>have:=of_decide_eq_false e3;omega
  ·rw [decide_eq_false c3];rfl
theorem W7 (a b:Int):Ans Tryz.prog 207 [] [vI a,vI b] [] (vI (if a<b then a else b)):=by
 refine aD Tryz.func207 fun B0 r_ D_ w0=>?_
 refine aE ?_
 refine aH (fun e=>?_) (fun e=>?_)
 ·refine aE ?_
  exact aI [(4,none)] ((if_pos e).symm)
 ·refine aE ?_
  exact aI [(4,none)] ((if_neg e).symm)
theorem I4 (vs:List Int) (hl:vs.length≤1048576):Ans Tryz.prog 247 [] [vL 1 bL 0 vs] [] (vB (qS vs)):=by
 refine aD Tryz.func247 fun B0 r_ D_ w0=>?_
 refine aE ?_
 refine aJ (ι:=Nat) (fun k=>[(5,vI k),(3,vI (GJ vs k)),(4,vI (xN vs k))]) (fun _=>[]) (fun k=>k≤vs.length) (fun k=>vs.length - k) 0 [] [] (Nat.zero_le _) ?_
 intro k h1
 refine aE ?_
 refine aH (fun e=>?_) (fun e=>?_)
 ·have hk:k<vs.length:=by omega
  refine aE ?_
  refine aG (W7 _ _) ?_
  refine aG (xI _ _) ?_
  exact aK (k+1) hk (by omega)
 ·have hk:k=vs.length:=by omega
  subst hk
  refine aE ?_
  refine aG (kJ vs hl 4) ?_
  refine aG (kJ vs hl 3) ?_
  exact aF [(2,none)] (OK vs)
theorem AK (c:GCluster) {k:Nat} (hk:k<c.machines.length):(fU c).getD k false=(c.machines.getD k Y4).alive:=lO (za:=Y4) GMachine.alive hk
theorem zA (c:GCluster):(fU c).length=c.machines.length:=List.length_map _
theorem QA (al:List Bool) (m:Int) (hm:0≤m):Ans Tryz.prog 243 [] [vL 1 BM false al,vI m] [] (vB (rU al m)):=by
 refine aD Tryz.func243 fun B0 r_ D_ w0=>?_
 refine aE ?_
 exact aF [(4,none)] (rfl)
theorem PlOk.le {ps:List GPlace} (h:PlOk ps) {r k:Nat} (hr:r<ps.length) (hk:k<(ps.getD r Y3).machines.length):0≤(ps.getD r Y3).machines.getD k 0∧(ps.getD r Y3).machines.getD k 0≤7:=by
 have:=(h.2 r hr).2 k hk
 unfold sQ at this
 have h2:=(bV.1 this).1
 have h3:inB ((ps.getD r Y3).machines.getD k 0) 0 7=true:=by simpa using h2
 exact bR.1 h3
end
section
section
variable {E:Env} {mu mu':Mu} {fr:Fr} {gf:GF} {R:Exit→Act→World→Prop} {K:List KF} {c:Code} {x:Nx} {v:Value}
theorem SP (k:Nat) (hk:bD k E.A.ks=false) (h:∀ v,T { E with A:=⟨k :: E.A.ks,fun j=>if j=k then v else E.A.B j⟩ } R c fr mu K):T E R c fr mu K:=fun B a w H f m =>
 h (B k) B a w H f ⟨m.mm,m.keep,m.dom,fun j hj=>by
  by_cases e:j=k
  ·subst e
   show B j=if j=j then B j else _
   rw [if_pos rfl]
  ·rcases (fE j k _).1 hj with e2 | e2
   ·exact absurd e2.symm e
   ·show B j=if j=k then _ else _
    rw [if_neg e];exact m.anch j e2⟩
theorem YP {B:BE} {w:World} {H:Nat→PH} {k:Nat} (hk:bD k E.A.ks=false) (m:Mem { E with A:=⟨k :: E.A.ks,fun j=>if j=k then v else E.A.B j⟩ } B mu w H):Mem E B mu w H:=⟨m.mm,m.keep,m.dom,fun j hj=>by
 have h1:B j=if j=k then v else E.A.B j:=m.anch j ((fE j k _).2 (.inr hj))
 have h2:j≠k:=fun e=>by subst e;rw [hk] at hj;cases hj
 rw [h1,if_neg h2]⟩
theorem TO (k:Nat) (hk:bD k E.A.ks=false) (h:T E R c fr mu K):T { E with A:=⟨k :: E.A.ks,fun j=>if j=k then v else E.A.B j⟩ } R c fr mu K:=fun B a w H f m=>h B a w H f (YP hk m)
theorem OM (j:Nat) {l l':List V} (hk:mlk j mu=some (.row l)) (hmu:gB j (.row l') mu=some mu') (hlen:l'.length=l.length)
  (h:∀ B w H,Mem E B mu w H→∀ h' vs,V.owns B E.r h' l vs→V.owns B E.r h' l' vs):jA E fr gf mu fr gf mu':=fun B w H a f m =>
 ⟨B,H,f,⟨⟨fun i d e=>by
  rw [jV hmu i] at e
  by_cases hj:i=j
  ·rw [if_pos hj] at e;injection e with e;subst e;subst hj
   obtain ⟨b,o,vs,h',e1,e2,e3,e4⟩:=m.mm.sat i _ hk
   exact ⟨b,o,vs,h',e1,h B w H m h' vs e2,e3,fun n hn=>e4 n (by rw [← hlen];exact hn)⟩
  ·rw [if_neg hj] at e;exact m.mm.sat i d e,m.mm.fit,m.mm.dj,m.mm.djr,m.mm.fitr⟩,m.keep,m.dom,m.anch⟩⟩
theorem V_gv (j k:Nat) {r:Value} (hk:mlk j mu=some (.row [.v r, .g k])) (ha:bD k E.A.ks=true) (hv:E.A.B k=v) (hmu:gB j (.row [.v r, .v v]) mu=some mu'):jA E fr gf mu fr gf mu' :=
 OM j hk hmu rfl fun B w H m h' vs ⟨y1,t1,h1,h2,q1,q2,q3,q4,q5,y2,t2,h3,h4,p1,p2,p3,p4,p5,p6⟩=>⟨y1,t1,h1,h2,q1,q2,q3,q4,q5,y2,t2,h3,h4,p1,p2,p3,p4,by
  have e:y2=B k∧eL y2=true:=p5
  show y2=v
  rw [e.1,m.anch k ha,hv],p6⟩
theorem V_vg (j k:Nat) {r:Value} {sz n:Nat} {f:Nat→List D} (hk:mlk j mu=some (.row [.v r, .v v])) (ha:bD k E.A.ks=true) (hv:E.A.B k=v) (hk2:mlk k mu=some (.arr sz n f)) (hmu:gB j (.row [.v r, .g k]) mu=some mu'):jA E fr gf mu fr gf mu' :=
 OM j hk hmu rfl fun B w H m h' vs ⟨y1,t1,h1,h2,q1,q2,q3,q4,q5,y2,t2,h3,h4,p1,p2,p3,p4,p5,p6⟩=>⟨y1,t1,h1,h2,q1,q2,q3,q4,q5,y2,t2,h3,h4,p1,p2,p3,p4,by
  have e:y2=v:=p5
  show y2=B k∧eL y2=true
  have e2:y2=B k:=by rw [e,m.anch k ha,hv]
  exact ⟨e2,by rw [e2];exact GA (m.mm.sat k _ hk2)⟩,p6⟩
theorem SB (k:Nat) (hd:mS k mu=some mu'):jA E fr gf mu fr gf mu':=fun B w H a f m =>
 ⟨B,H,f,⟨⟨fun j d e=>by
  rw [pM hd j] at e
  by_cases hj:j=k
  ·rw [if_pos hj] at e;cases e
  ·rw [if_neg hj] at e;exact m.mm.sat j d e,m.mm.fit,m.mm.dj,m.mm.djr,m.mm.fitr⟩,m.keep,m.dom,m.anch⟩⟩
end
end
section
def AS (d:Bool) (t:GTx) (r:Int) (m:GMachine):List GCell:=bif d then mM (cellsOf m r) (cA r t.sets) else if 0≤pC m t.id r 1 then sI (cellsOf m r) (cA r t.sets) else cellsOf m r
theorem XS {d:Bool} {t:GTx} {r:Int} {m:GMachine} (ha:m.alive=true) (hh:dQ m r=true):tR d t r m=jN (cG m r (AS d t r m)) t.id r false:=by
 unfold tR AS
 rw [ha]
 cases d with
 | true=>rfl
 | false =>
  simp only [Bool.not_true,cond_false]
  by_cases c:0≤pC m t.id r 1
  ·rw [if_pos c,if_pos c];rfl
  ·rw [if_neg c,if_neg c,zJ hh];rfl
theorem RX {d:Bool} {t:GTx} {r:Int} {m:GMachine} (ha:m.alive=false):tR d t r m=m:=by unfold tR;rw [ha];rfl
theorem PD (c:GCluster) (t:GTx):(bif (bif t.phase != 8 then t.phase != 1 else false) then qS (mD c t) else false)=qM c t:=by
 unfold qM
 cases t.phase != 8 <;>cases t.phase != 1 <;>rfl
theorem R4 {c:GCluster} {t:GTx} {k:Nat} (hk:k<(bG t).length):(mD c t).take (k+1)=(mD c t).take k ++ [yI c t.id ((bG t).getD k 0) (cI c ((bG t).getD k 0)).length]:=by
 have hl:(mD c t).length=(bG t).length:=List.length_map _
 rw [b7 (z:=0) (by omega)]
 congr 2
 exact lO (za:=0) _ hk
theorem AtIn.mach {c:GCluster} (hok:ClusOk c) {x:GCopyAt} (h:AtIn c x):(0≤x.machine∧x.machine<c.machines.length)∧((mOf c x.machine).alive=true→dQ (mOf c x.machine) x.region=true):=by
 obtain ⟨j,h2,h3,h4⟩:=h.at'
 have h5:=hok.at (r:=x.region.toNat) (k:=j) (by have:=h.region;omega) h2
 rw [← h3,Int.toNat_of_nonneg h.region.1] at h5
 have h6:=h5.2
 unfold b8 at h6
 rw [← h3] at h6
 exact ⟨h5.1,h6⟩
end
section
theorem MZ {m:GMachine} (h:cS m):m.copies.Pairwise fun a b=>a.region<b.region:=by
 have h3:∀ j,j+1<m.copies.length→(m.copies.getD j ZA).region<(m.copies.getD (j+1) ZA).region:=fun j hj=>by
  have:=(bV.1 (h.2.2.1 (j+1) hj)).2
  rw [decide_eq_true (show ((j+1:Nat):Int) > 0 by omega)] at this
  have:=of_decide_eq_false this
  rw [show (((j+1:Nat):Int) - 1).toNat=j by omega] at this
  omega
 refine lG (z:=ZA) fun a b hab hb=>?_
 induction b with
 | zero=>omega
 | succ b ih =>
  have:=h3 b hb
  by_cases c:a=b
  ·subst c;exact this
  ·have:=ih (by omega) (by omega);omega
theorem v6 {m:GMachine} (h:cS m) (r:Int):rL (BC r) ZA m.copies:=fun a b hab hb hc=>by
 by_cases c:a=b
 ·subst c;exact hc
 ·have:=eV (z:=ZA) (MZ h) (a:=a) (b:=b) (by omega) hb
  unfold BC at hc ⊢
  omega
end
section
theorem DW {xs:List GCopy}:(∀ j,j<xs.length→o3 xs j=false) ↔ (∀ x ∈ xs,(0≤x.region∧x.region≤5)∧cO x.cells=true)∧xs.Pairwise fun a b=>a.region<b.region:=by
 constructor
 ·intro h
  refine ⟨l5 (z:=ZA) fun i hi=>?_,lG (z:=ZA) fun a b hab hb=>?_⟩
  ·have h1:=(bV.1 (bV.1 (h i hi)).1)
   exact ⟨bR.1 (by simpa using h1.1),by simpa using h1.2⟩
  ·have h3:∀ j,j+1<xs.length→(xs.getD j ZA).region<(xs.getD (j+1) ZA).region:=fun j hj=>by
    have:=(bV.1 (h (j+1) hj)).2
    rw [decide_eq_true (show ((j+1:Nat):Int) > 0 by omega)] at this
    have:=of_decide_eq_false this
    rw [show (((j+1:Nat):Int) - 1).toNat=j by omega] at this
    omega
   induction b with
   | zero=>omega
   | succ b ih =>
    have:=h3 b hb
    by_cases c:a=b
    ·subst c;exact this
    ·have:=ih (by omega) (by omega);omega
 ·rintro ⟨h1,h2⟩ j hj
  obtain ⟨h3,h4⟩:=h1 _ (bY (z:=ZA) hj)
  unfold o3
  rw [bR.2 h3,h4]
  by_cases c:(j:Int) > 0
  ·rw [decide_eq_true c]
   have:=eV (z:=ZA) h2 (a:=((j:Int) - 1).toNat) (b:=j) (by omega) hj
   rw [decide_eq_false (by omega)];rfl
  ·rw [decide_eq_false c];rfl
theorem NY {xs:List GCopy} (h:xs.Pairwise fun a b=>a.region<b.region) (h0:∀ x ∈ xs,0≤x.region):∀ j,j<xs.length→(j:Int)≤(xs.getD j ZA).region
 | 0,hj=>h0 _ (bY (z:=ZA) hj)
 | j+1,hj=>by
  have ih:=NY h h0 j (by omega)
  have:=eV (z:=ZA) h (a:=j) (b:=j+1) (by omega) hj
  omega
theorem SR {α:Type} {p:Nat} {x y:α} {xs:List α}:y ∈ fD p x xs ↔ y=x∨y ∈ xs:=by
 unfold fD
 rw [List.mem_append,List.mem_cons]
 conv=>rhs;rw [← List.take_append_drop p xs,List.mem_append]
 constructor
 ·rintro (h | h | h)
  ·exact .inr (.inl h)
  ·exact .inl h
  ·exact .inr (.inr h)
 ·rintro (h | h | h)
  ·exact .inr (.inl h)
  ·exact .inl h
  ·exact .inr (.inr h)
theorem U0 {p:Nat} {x:GCopy} {xs:List GCopy} (q:Int):(fD p x xs).any (atB q)=(atB q x || xs.any (atB q)):=by
 unfold fD
 rw [List.any_append,List.any_cons]
 conv=>rhs;rw [← List.take_append_drop p xs,List.any_append]
 cases (xs.take p).any (atB q) <;>cases atB q x <;>cases (xs.drop p).any (atB q) <;>rfl
theorem MC (m:GMachine) (r:Int) (xs:List GCell):(iW m r xs).alive=m.alive:=by unfold iW;split <;>rfl
theorem H4 (m:GMachine) (r:Int) (xs:List GCell) (q:Int):dQ (iW m r xs) q=(dQ m q || decide (q=r)):=by
 unfold iW
 split
 ·rename_i h
  rw [j9]
  by_cases c:q=r
  ·subst c;rw [h];rfl
  ·rw [decide_eq_false c,Bool.or_false]
 ·show (fD _ _ m.copies).any (atB q)=_
  rw [U0,Bool.or_comm]
  congr 1
  show (r == q)=decide (q=r)
  by_cases c:q=r
  ·subst c;simp
  ·rw [decide_eq_false c];simp [Ne.symm c]
theorem TD {m:GMachine} (h:cS m) {r:Int} (hr:0≤r∧r≤5) {xs:List GCell} (hx:cO xs=true):cS (iW m r xs):=by
 unfold iW
 split
 ·exact kZ h hx
 ·rename_i hh
  have hh:dQ m r=false:=by simpa using hh
  have hc:=qV (v6 h r)
  generalize oC (BC r) ZA m.copies=p at hc
  obtain ⟨c1,c2⟩:=DW.1 h.2.2.1
  have hne:∀ x ∈ m.copies,x.region≠r:=fun x hx e=>by
   have:dQ m r=true:=List.any_eq_true.2 ⟨x,hx,by simpa [atB] using e⟩
   rw [hh] at this;cases this
  obtain ⟨p1,p2,p3⟩:=hc
  have hP:(fD p ⟨r,xs⟩ m.copies).Pairwise fun a b=>a.region<b.region:=by
   refine lG (z:=ZA) fun a b hab hb=>?_
   rw [gL p1] at hb
   rw [jX p1,jX p1]
   have key:∀ i,i<m.copies.length→(i<p→(m.copies.getD i ZA).region<r)∧(p≤i→r<(m.copies.getD i ZA).region):=fun i hi=>by
    refine ⟨fun h=>?_,fun h=>?_⟩
    ·have:=p2 i h;unfold BC at this;omega
    ·have h4:=p3 i h hi
     have h5:=hne _ (bY (z:=ZA) hi)
     unfold BC at h4;omega
   by_cases a1:a<p
   ·rw [if_pos a1]
    by_cases b1:b<p
    ·rw [if_pos b1];exact eV (z:=ZA) c2 hab (by omega)
    ·rw [if_neg b1]
     by_cases b2:b<p+1
     ·rw [if_pos b2];exact (key a (by omega)).1 a1
     ·rw [if_neg b2];exact eV (z:=ZA) c2 (by omega) (by omega)
   ·rw [if_neg a1,if_neg (show ¬ b<p by omega),if_neg (show ¬ b<p+1 by omega)]
    by_cases a2:a<p+1
    ·rw [if_pos a2]
     exact (key (b - 1) (by omega)).2 (by omega)
    ·rw [if_neg a2]
     exact eV (z:=ZA) c2 (by omega) (by omega)
  have hA:∀ x ∈ fD p ⟨r,xs⟩ m.copies,(0≤x.region∧x.region≤5)∧cO x.cells=true:=fun x hx2=>by
   rcases SR.1 hx2 with rfl | hx2
   ·exact ⟨hr,hx⟩
   ·exact c1 x hx2
  have hL:(fD p ⟨r,xs⟩ m.copies).length≤6:=by
   rcases Nat.lt_or_ge 6 (fD p ⟨r,xs⟩ m.copies).length with g | g
   ·have h6:=NY hP (fun x hx=>(hA x hx).1.1) 6 g
    have h7:=(hA _ (bY (z:=ZA) (i:=6) g)).1.2
    omega
   ·exact g
  exact ⟨⟨hL,h.1.2.1,h.1.2.2⟩,h.2.1,DW.2 ⟨hA,hP⟩,h.2.2.2⟩
theorem IH {al:List Bool} {next:List Int}:∀ k,∀ x ∈ dA al next k,x ∈ next∨(0≤x∧x<k∧al.getD x.toNat false=true)
 | 0,x,h => .inl h
 | k+1,x,h=>by
  rw [dA] at h
  have old:x ∈ dA al next k→x ∈ next∨(0≤x∧x<((k+1:Nat):Int)∧al.getD x.toNat false=true):=fun h=>by
   rcases IH k x h with h | h
   ·exact .inl h
   ·exact .inr ⟨h.1,by omega,h.2.2⟩
  cases c:al.getD k false with
  | false=>rw [c] at h;exact old h
  | true =>
   rw [c] at h
   revert h
   cases (bif bif true then decide (((dA al next k).length:Int)<3) else false then !decide ((k:Int) ∈ dA al next k) else false) with
   | false=>exact old
   | true =>
    intro h
    rcases List.mem_append.1 h with h | h
    ·exact old h
    ·have h:x=(k:Int):=by simpa using h
     subst h
     exact .inr ⟨by omega,by omega,by rw [Int.toNat_natCast];exact c⟩
theorem ED {al:List Bool} {next:List Int} (h:next.length≠0):∀ k,(dA al next k).length≠0∧(dA al next k).getD 0 0=next.getD 0 0
 | 0=>⟨h,rfl⟩
 | k+1=>by
  obtain ⟨h1,h2⟩:=ED h k (al:=al)
  rw [dA]
  cases (bif bif al.getD k false then decide (((dA al next k).length:Int)<3) else false then !decide ((k:Int) ∈ dA al next k) else false) with
  | false=>exact ⟨h1,h2⟩
  | true =>
   refine ⟨by rw [cond_true,List.length_append];omega,?_⟩
   rw [cond_true, ← h2]
   simp only [List.getD_eq_getElem?_getD]
   rw [List.getElem?_append_left (by omega)]
theorem BI {al:List Bool} {ps:List GPlace}:∀ {n:Nat},(jT al ps n).length=0→∀ r,r<n→(gG al (ps.getD r Y3)).length≠0
 | 0,_,r,hr=>absurd hr (Nat.not_lt_zero _)
 | n+1,h,r,hr=>by
  rw [jT] at h
  split at h
  ·rw [List.length_append] at h;simp at h
  ·rename_i c
   by_cases e:r=n
   ·subst e;exact c
   ·exact BI h r (by omega)
abbrev kD (c:GCluster) (r:Nat):Int:=((bN c).getD r Y3).machines.getD 0 0
structure NewPl (c:GCluster) (r:Nat):Prop where
 pos:0<((bN c).getD r Y3).machines.length
 le:((bN c).getD r Y3).machines.length≤3
 rng:∀ x ∈ ((bN c).getD r Y3).machines,0≤x∧x<c.machines.length
 alive:∀ x ∈ ((bN c).getD r Y3).machines,(c.machines.getD x.toNat Y4).alive=true
 fst:kD c r ∈ (c.places.getD r Y3).machines
 has:dQ (c.machines.getD (kD c r).toNat Y4) r=true
theorem IF {c:GCluster} (hok:ClusOk c) {r:Nat} (hr:r<c.places.length) {x:Int} (hx:x ∈ gG (fU c) (c.places.getD r Y3)):x ∈ (c.places.getD r Y3).machines∧(0≤x∧x<c.machines.length)∧(c.machines.getD x.toNat Y4).alive=true:=by
 obtain ⟨h1,h2⟩:=List.mem_filter.1 hx
 obtain ⟨k,hk,e⟩:=fY.1 h1
 have h3:=(hok.at hr hk).1
 have e2:mAt c r k=x:=e
 rw [e2] at h3
 refine ⟨h1,h3,?_⟩
 unfold rU at h2
 rw [zA,decide_eq_true h3.2,cond_true,AK c (by omega)] at h2
 exact h2
theorem B5 {c:GCluster} (hok:ClusOk c) (hl:(jT (fU c) c.places c.places.length).length=0) {r:Nat} (hr:r<c.places.length):NewPl c r:=by
 have hk:=BI hl r hr
 have hq:((bN c).getD r Y3).machines=dA (fU c) (gG (fU c) (c.places.getD r Y3)) (fU c).length:=by
  rw [bN,lO (za:=Y3) _ hr]
  unfold sD
  rw [if_neg hk]
 have hpl:=hok.pl hr
 have hke:(gG (fU c) (c.places.getD r Y3)).length≤3:=Nat.le_trans (List.length_filter_le _ _) hpl.2
 obtain ⟨f1,f2⟩:=ED hk (al:=fU c) (fU c).length
 have hm:∀ x ∈ ((bN c).getD r Y3).machines,(0≤x∧x<c.machines.length)∧(c.machines.getD x.toNat Y4).alive=true:=fun x hx=>by
  rw [hq] at hx
  rcases IH _ x hx with h | ⟨h1,h2,h3⟩
  ·exact (IF hok hr h).2
  ·rw [zA] at h2
   rw [AK c (by omega)] at h3
   exact ⟨⟨h1,h2⟩,h3⟩
 have hf:kD c r ∈ gG (fU c) (c.places.getD r Y3):=by
  rw [kD,hq,f2];exact bY (z:=0) (by omega)
 obtain ⟨g1,g2,g3⟩:=IF hok hr hf
 obtain ⟨k,hk2,e⟩:=fY.1 g1
 have h3:=(hok.at hr hk2).2
 have e2:mAt c r k=kD c r:=e
 unfold b8 at h3
 rw [e2] at h3
 exact ⟨by rw [hq];omega,by rw [hq];exact DF hke _,fun x hx=>(hm x hx).1,fun x hx=>(hm x hx).2,g1,h3 g3⟩
structure More (ms ns:List GMachine):Prop where
 len:ns.length=ms.length
 ok:∀ j,j<ns.length→cS (ns.getD j Y4)∧(ns.getD j Y4).alive=(ms.getD j Y4).alive∧∀ q,dQ (ms.getD j Y4) q=true→dQ (ns.getD j Y4) q=true
theorem Like.more {ms ns:List GMachine} (h:Like ms ns):More ms ns:=⟨h.len,fun j hj=>⟨(h.ok j hj).1,(h.ok j hj).2.1,fun q hq=>by rw [(h.ok j hj).2.2];exact hq⟩⟩
theorem More.set {ms ns:List GMachine} (h:More ms ns) {m:Int} (hm:0≤m∧m<ms.length) {r:Int} (hr:0≤r∧r≤5) {xs:List GCell} (hx:cO xs=true):More ms (ns.set m.toNat (iW (ns.getD m.toNat Y4) r xs)):=by
 have hlt:m.toNat<ns.length:=by rw [h.len];omega
 refine ⟨by rw [List.length_set];exact h.len,fun j hj=>?_⟩
 rw [List.length_set] at hj
 rw [gW hlt]
 split
 ·rename_i e
  subst e
  obtain ⟨q1,q2,q3⟩:=h.ok _ hj
  exact ⟨TD q1 hr hx,(MC _ _ _).trans q2,fun q hq=>by rw [H4,q3 q hq];rfl⟩
 ·exact h.ok j hj
theorem IC {old l:List Int} {r:Int} {xs:List GCell} {p:Int} (hp:p ∈ old) (hp0:0≤p) (hl:∀ x ∈ l,0≤x) {ms:List GMachine}:∀ k,k≤l.length→(jG old l r xs k ms).getD p.toNat Y4=ms.getD p.toNat Y4
 | 0,_=>rfl
 | k+1,hk=>by
  have ih:=IC hp hp0 hl (xs:=xs) (r:=r) (ms:=ms) k (by omega)
  rw [jG]
  split
  ·exact ih
  ·rename_i hn
   have hne:l.getD k 0≠p:=fun e=>hn (e ▸ hp)
   have h0:=hl _ (bY (z:=0) (show k<l.length by omega))
   rw [← ih]
   simp only [List.getD_eq_getElem?_getD]
   rw [List.getElem?_set_ne (by simp only [List.getD_eq_getElem?_getD] at hne h0;omega)]
theorem nY {ms0 ms:List GMachine} {old l:List Int} {r:Int} (hr:0≤r∧r≤5) {xs:List GCell} (hx:cO xs=true) (hl:∀ x ∈ l,0≤x∧x<ms0.length) (h:More ms0 ms):∀ k,k≤l.length→More ms0 (jG old l r xs k ms)
 | 0,_=>h
 | k+1,hk=>by
  have ih:=nY hr hx hl h (old:=old) k (by omega)
  rw [jG]
  split
  ·exact ih
  ·exact ih.set (hl _ (bY (z:=0) (by omega))) hr hx
theorem o1 {c:GCluster} (hok:ClusOk c) (hl:(jT (fU c) c.places c.places.length).length=0) {ms:List GMachine} (h:More c.machines ms):∀ r,r≤c.places.length→More c.machines (iG c.places (bN c) r ms)
 | 0,_=>h
 | r+1,hr=>by
  have ih:=o1 hok hl h r (by omega)
  have np:=B5 hok hl (r:=r) (by omega)
  have h5:=hok.2.1.1.2
  have hf:0≤kD c r∧kD c r<c.machines.length:=np.rng _ (bY (z:=0) np.pos)
  obtain ⟨q1,q2,q3⟩:=ih.ok (kD c r).toNat (by rw [ih.len];omega)
  rw [iG]
  exact nY (by omega) (gM q1 (q3 _ np.has)).2 np.rng ih _ (Nat.le_refl _)
end
section
theorem RecIn.eq {c d:GCluster} {i:Nat} (h:RecIn c d i):d=cwt c c.clock d.machines d.txs:=by
 have h1:=h.config;have h2:=h.clock;have h3:=h.places;have h4:=h.lost
 cases d
 simp only at h1 h2 h3 h4
 subst h1;subst h2;subst h3;subst h4
 rfl
theorem T9 {c:GCluster} {i:Nat} (h:yW c (c.txs.getD i Y5)=true):fX c (i+1)=AD (fX c i) i:=by rw [fX,if_pos h]
theorem V7 {c:GCluster} {i:Nat} (h:yW c (c.txs.getD i Y5)=false):fX c (i+1)=fX c i:=by rw [fX,if_neg (by rw [h];simp)]
theorem V4 (m:GMachine) (r:Int) (xs:List GCell):bQ (iW m r xs)=[.v (.bool m.alive), .sl 2 (iW m r xs).copies.length (fun i=>dY ((iW m r xs).copies.getD i ZA)), .sl 4 m.log.length (fun i=>cM (m.log.getD i ZB)), .sl 1 m.cleared.length (fun i=>bL (m.cleared.getD i 0))]:=by unfold iW;split <;>rfl
theorem F8 {a b:Nat} (h:a≠b):Nat.beq a b=false:=by
 cases e:Nat.beq a b with
 | false=>rfl
 | true=>exact absurd (Nat.eq_of_beq_eq_true e) h
abbrev BO (m:GMachine) (r:Int) (v:Value):List D:=[.v (.int .i64 (m.copies.getD (eU m r).toNat ZA).region), .v v]
abbrev JA (m:GMachine) (r:Int) (v:Value):List D:=[.v (.bool m.alive), .sl 2 m.copies.length (fun i=>bif Nat.beq i (eU m r).toNat then BO m r v else dY (m.copies.getD i ZA)), .sl 4 m.log.length (fun i=>cM (m.log.getD i ZB)), .sl 1 m.cleared.length (fun i=>bL (m.cleared.getD i 0))]
abbrev VB (ms:List GMachine) (p:Int) (P:List D):Ch := .arr 4 ms.length fun j=>bif Nat.beq j p.toNat then P else bQ (ms.getD j Y4)
abbrev rowO (m:GMachine):List V:=[.v (.bool m.alive), .s .o 2 m.copies.length (fun i=>dY (m.copies.getD i ZA)), .s .o 4 m.log.length (fun i=>cM (m.log.getD i ZB)), .s .o 1 m.cleared.length (fun i=>bL (m.cleared.getD i 0))]
theorem XB {ms:List GMachine} {p:Int} {P:List D} {m:Int} (h:m.toNat≠p.toNat):qJ .o ((fun j=>bif Nat.beq j p.toNat then P else bQ (ms.getD j Y4)) m.toNat)=some (rowO (ms.getD m.toNat Y4)):=by
 show qJ .o (bif Nat.beq m.toNat p.toNat then P else bQ (ms.getD m.toNat Y4))=_
 rw [F8 h];rfl
theorem YK {ms:List GMachine} {p:Int} (m:GMachine) (r:Int) (v:Value):qJ .o ((fun j=>bif Nat.beq j p.toNat then JA m r v else bQ (ms.getD j Y4)) p.toNat)=some [.v (.bool m.alive), .s .o 2 m.copies.length (fun i=>bif Nat.beq i (eU m r).toNat then BO m r v else dY (m.copies.getD i ZA)), .s .o 4 m.log.length (fun i=>cM (m.log.getD i ZB)), .s .o 1 m.cleared.length (fun i=>bL (m.cleared.getD i 0))]:=by
 show qJ .o (bif Nat.beq p.toNat p.toNat then JA m r v else bQ (ms.getD p.toNat Y4))=_
 rw [Nat.beq_refl];rfl
theorem YD (m:GMachine) (r:Int) (v:Value):qJ .o ((fun i=>bif Nat.beq i (eU m r).toNat then BO m r v else dY (m.copies.getD i ZA)) (eU m r).toNat)=some [.v (.int .i64 (m.copies.getD (eU m r).toNat ZA).region), .v v]:=by
 show qJ .o (bif Nat.beq (eU m r).toNat (eU m r).toNat then BO m r v else dY (m.copies.getD (eU m r).toNat ZA))=_
 rw [Nat.beq_refl];rfl
theorem NM {ns:List GMachine} {p x:Int} {P l:List D} {M:GMachine} {r:Int} {cs:List GCell} (hx:x.toNat<ns.length) (hne:x.toNat≠p.toNat) (hl:l=bQ (iW M r cs)):(Ch.arr 4 ns.length fun j=>bif Nat.beq j x.toNat then l else (bif Nat.beq j p.toNat then P else bQ (ns.getD j Y4))).imp (VB (ns.set x.toNat (iW M r cs)) p P):=by
 have e:(ns.set x.toNat (iW M r cs)).length=ns.length:=List.length_set
 unfold VB
 rw [e]
 refine Ch.imp_arr fun j hj=>?_
 rw [gW hx]
 by_cases c1:j=x.toNat
 ·subst c1;rw [Nat.beq_refl,F8 hne,if_pos rfl,hl];rfl
 ·rw [F8 c1,if_neg c1];rfl
theorem UL {ns:List GMachine} {p r:Int} {v:Value} {m:GMachine} {cs:List GCell} (hp:ns.getD p.toNat Y4=m) (hcs:cs=(m.copies.getD (eU m r).toNat ZA).cells) :
  (Ch.arr 4 ns.length fun j=>bif Nat.beq j p.toNat then [.v (.bool m.alive), .sl 2 m.copies.length (fun i=>bif Nat.beq i (eU m r).toNat then [.v (.int .i64 (m.copies.getD (eU m r).toNat ZA).region), .sl 2 cs.length fun i=>cQ (cs.getD i Y9)] else (bif Nat.beq i (eU m r).toNat then BO m r v else dY (m.copies.getD i ZA))), .sl 4 m.log.length (fun i=>cM (m.log.getD i ZB)), .sl 1 m.cleared.length (fun i=>bL (m.cleared.getD i 0))] else (bif Nat.beq j p.toNat then JA m r v else bQ (ns.getD j Y4))).imp (bE 4 bQ Y4 ns):=by
 refine Ch.imp_arr fun j hj=>?_
 by_cases c1:j=p.toNat
 ·subst c1
  rw [Nat.beq_refl,hp]
  have hc:(fun i=>bif Nat.beq i (eU m r).toNat then [.v (.int .i64 (m.copies.getD (eU m r).toNat ZA).region), .sl 2 cs.length fun i=>cQ (cs.getD i Y9)] else (bif Nat.beq i (eU m r).toNat then BO m r v else dY (m.copies.getD i ZA)))=fun i=>dY (m.copies.getD i ZA):=by
   funext i
   by_cases c2:i=(eU m r).toNat
   ·rw [c2,Nat.beq_refl,hcs];rfl
   ·rw [F8 c2];rfl
  rw [hc];rfl
 ·rw [F8 c1];rfl
theorem VC {α:Type} {sz i:Nat} {enc:α→List D} {z:α} {xs:List α} {l:List D} (hl:l=enc (xs.getD i z)):(Ch.arr sz xs.length fun j=>bif Nat.beq j i then l else enc (xs.getD j z)).imp (bE sz enc z xs):=Ch.imp_arr fun j hj=>by
 by_cases c1:j=i
 ·subst c1;rw [Nat.beq_refl,hl];rfl
 ·rw [F8 c1];rfl
abbrev oQ (c:GCluster):List Int:=jT (fU c) c.places c.places.length
end
section
theorem J5 {c:GCluster} (hok:ClusOk c) (hcf:c.config≠1000000) (hl:(oQ c).length > 0):f9 c = { c with lost:=true }:=by unfold f9;rw [if_pos ⟨hok,hcf⟩,if_pos hl]
noncomputable abbrev TA (c:GCluster):GCluster:={ c with config:=c.config+1,places:=bN c,machines:=iG c.places (bN c) c.places.length (fX c c.txs.length).machines,txs:=(fX c c.txs.length).txs }
theorem FE {c:GCluster} (hok:ClusOk c) (hcf:c.config≠1000000) (hl:(oQ c).length=0):f9 c=TA c:=by
 have hR:=B7 hok c.txs.length (Nat.le_refl _)
 unfold f9
 rw [if_pos ⟨hok,hcf⟩,if_neg (by show ¬ (oQ c).length > 0;omega)]
 show (⟨c.config+1,(fX c c.txs.length).clock,bN c,iG c.places (bN c) c.places.length (fX c c.txs.length).machines,(fX c c.txs.length).txs,(fX c c.txs.length).lost⟩:GCluster)=_
 rw [hR.clock,hR.lost]
theorem OL {c:GCluster} (h:¬ (ClusOk c∧c.config≠1000000)):f9 c=Y6:=by unfold f9;rw [if_neg h]
end
section
theorem MP {al:List Bool} {next:List Int} {k n:Nat} (h:3≤(dA al next k).length) (hk:k≤n):dA al next n=dA al next k:=by
 obtain ⟨j,rfl⟩:∃ j,n=k+j:=⟨n - k,by omega⟩
 exact EX h j
set_option maxHeartbeats 1000000 in
theorem J1 (ps:List GPlace) (hp:PlOk ps) (al:List Bool) (hal:al.length≤8) :
  Con Tryz.prog 230 [] [vL 1 cN Y3 ps,vL 1 BM false al] [] (fun _:Unit=>True) (fun _=>[.a (.g 910), .a (.g 911)]) fun _=>[(910,bE 1 cN Y3 (ps.map (sD al))),(911,bE 1 bL 0 (jT al ps ps.length))]:=by
 have hpl:=hp.1
 refine aD Tryz.func230 fun B0 r_ D_ w0=>?_
 refine aE ?_
 refine aL 41 (fun i=>bL (([]:List Int).getD i 0)) (fun i hi=>absurd hi (Nat.not_lt_zero _)) (mu1:=[]) ?_
 refine aM ?_
 refine aL 40 (fun i=>cN (([]:List GPlace).getD i Y3)) (fun i hi=>absurd hi (Nat.not_lt_zero _)) (mu1:=[]) ?_
 refine aM ?_
 refine aG (u7 ps) ?_
 refine bW (b:=bif !dec (PlOk ps) then true else decide ((al.length:Int) > 8)) rfl (fun e=>by rw [dG hp,decide_eq_false (show ¬ (al.length:Int) > 8 by omega)] at e;cases e) (fun _=>?_)
 refine aE ?_
 refine aJ (ι:=Nat) (fun r=>[(8,vI r),(7, .a (.g 40)),(6, .a (.g 41))]) (fun r=>[(40,bE 1 cN Y3 ((ps.take r).map (sD al))),(41,bE 1 bL 0 (jT al ps r))]) (fun r=>r≤ps.length∧(jT al ps r).length≤r) (fun r=>ps.length - r) 0 [40,41] [40,41] ⟨Nat.zero_le _,Nat.le_refl _⟩ ?_
 intro r ⟨h1,hlo⟩
 have hl1:((ps.take r).map (sD al)).length=r:=by rw [List.length_map,List.length_take];omega
 refine aE ?_
 refine aH (fun e=>?_) (fun e=>?_)
 ·have hr:r<ps.length:=by omega
  have hpr:=(hp.2 r hr).1
  refine aE ?_
  refine a9 (aU 9 0 1 (fun i=>bL (([]:List Int).getD i 0))) ?_
  refine a9 (aV 9 0 50) ?_
  refine aJ (ι:=Nat) (fun j=>[(10,vI j)]) (fun j=>[(9, .row [.g 50]),(50,bE 1 bL 0 (((ps.getD r Y3).machines.take j).filter (rU al)))]) (fun j=>j≤(ps.getD r Y3).machines.length) (fun j=>(ps.getD r Y3).machines.length - j) 0 [9,50] [50] (Nat.zero_le _) ?_
  intro j h2
  have hfl:=w9 (ps.getD r Y3).machines (rU al) j
  refine aE ?_
  refine aH (fun e2=>?_) (fun e2=>?_)
  ·simp only [Int.toNat_natCast] at e2
   have hj:j<(ps.getD r Y3).machines.length:=by omega
   have hm:=hp.le hr hj
   refine aE ?_
   refine aG (QA al ((ps.getD r Y3).machines.getD j 0) hm.1) ?_
   refine aA (fun e3=>?_) (fun e3=>?_)
   ·have hF:=mP (z:=0) hj (p:=rU al) e3
    refine aW [50] [0,1,2,3,4,5,6,7,8,9,10,11,12,13] fun B0 H0=>?_
    refine bB 10 rfl (by kernel_rfl) (dK TT_ok 61 (fun _=>bL ((ps.getD r Y3).machines.getD j 0)) rfl rfl rfl rfl rfl rfl rfl (fun i hi=>by rcases i with _ | i <;>first | rfl | omega) (mu1:=[]) rfl rfl rfl (bA ?_))
    refine bB 11 rfl (by kernel_rfl) (dE TT_ok 50 61 62 rfl rfl rfl rfl rfl rfl rfl rfl rfl rfl rfl rfl ⟨by show ((((ps.getD r Y3).machines.take j).filter (rU al)).length+1) * 8≤_;omega,by unfold maxL;omega⟩ (bA ?_))
    refine aY [12,13] ?_
    refine d7 13 rfl (by kernel_rfl) (by kernel_rfl) (aR (eX [] fun B0 H0=>?_))
    refine aN ?_
    refine bC (bH 50 62) ?_
    exact bF (j+1) hj (by omega) wF ⟨⟨_,rfl,ZE _⟩,⟨_,rfl,cX (x:=(ps.getD r Y3).machines.getD j 0) hF rfl⟩,wM⟩
   ·have hF:=nW (z:=0) hj (p:=rU al) e3
    refine aE ?_
    exact bF (j+1) hj (by omega) wF ⟨⟨_,rfl,ZE _⟩,⟨_,rfl,bU hF⟩,wM⟩
  simp only [Int.toNat_natCast] at e2
  have hj:j=(ps.getD r Y3).machines.length:=by omega
  subst hj
  rw [List.take_length]
  have hke:(gG al (ps.getD r Y3)).length≤3:=Nat.le_trans (List.length_filter_le _ _) hpr.2
  refine aE ?_
  refine aO (fun e3=>?_) (fun e3=>?_)
  ·have e3:((gG al (ps.getD r Y3)).length:Int)=0:=e3
   have hrem:sD al (ps.getD r Y3)=⟨(ps.getD r Y3).machines⟩:=by unfold sD;rw [if_pos (by omega)]
   have hlost:jT al ps (r+1)=jT al ps r ++ [(r:Int)]:=by rw [jT,if_pos (by omega)]
   refine aE ?_
   refine cJ TT_ok 70 (fun _=>bL r) rfl rfl rfl rfl rfl rfl rfl (fun i hi=>by rcases i with _ | i <;>first | rfl | omega) (mu1:=[]) rfl rfl rfl ?_
   refine aM ?_
   refine cL TT_ok 41 70 71 rfl rfl rfl rfl rfl rfl rfl rfl rfl rfl rfl rfl ⟨by show ((jT al ps r).length+1) * 8≤_;omega,by unfold maxL;omega⟩ ?_
   refine aM ?_
   refine aL 73 (fun i=>bL (([]:List Int).getD i 0)) (fun i hi=>absurd hi (Nat.not_lt_zero _)) (mu1:=[]) ?_
   refine aM ?_
   refine qI TT_ok 73 74 rfl rfl rfl rfl rfl rfl rfl rfl rfl rfl rfl rfl ⟨by show (0+(ps.getD r Y3).machines.length) * 8≤_;omega,by show 0+(ps.getD r Y3).machines.length≤maxL;unfold maxL;omega⟩ ?_
   refine cK (fI 74 (c':=bE 1 bL 0 (ps.getD r Y3).machines) rfl (o7 (ys:=([]:List Int)) (by simp)) rfl) ?_
   refine aM ?_
   refine cJ TT_ok 75 (fun _=>cN ⟨(ps.getD r Y3).machines⟩) rfl rfl rfl rfl rfl rfl rfl (fun i hi=>by rcases i with _ | i <;>first | rfl | omega) (mu1:=[(74, .arr 0 0 fun _=>[])]) rfl rfl rfl ?_
   refine aM ?_
   refine cL TT_ok 40 75 76 rfl rfl rfl rfl rfl rfl rfl rfl rfl rfl rfl rfl ⟨by show (((ps.take r).map (sD al)).length+1) * 24≤_;omega,by unfold maxL;omega⟩ ?_
   refine aM ?_
   refine bC (bH 40 76) ?_
   refine bC (bH 41 71) ?_
   exact bF (r+1) ⟨hr,by rw [hlost,List.length_append,List.length_singleton];omega⟩ (by omega) wF ⟨⟨_,rfl,cX (x:=(⟨(ps.getD r Y3).machines⟩:GPlace)) (by rw [b7 (z:=Y3) hr,List.map_append,List.map_singleton,hrem]) rfl⟩,⟨_,rfl,cX (x:=(r:Int)) hlost rfl⟩,wM⟩
  have e3:((gG al (ps.getD r Y3)).length:Int)≠0:=e3
  have hrem:sD al (ps.getD r Y3)=⟨dA al (gG al (ps.getD r Y3)) al.length⟩:=by unfold sD;rw [if_neg (by omega)]
  have hlost:jT al ps (r+1)=jT al ps r:=by rw [jT,if_neg (by omega)]
  refine aE ?_
  refine aJ (ι:=Nat) (fun m=>[(11,vI m)]) (fun m=>[(9, .row [.g 50]),(50,bE 1 bL 0 (dA al (gG al (ps.getD r Y3)) m))]) (fun m=>m≤al.length) (fun m=>al.length - m) 0 [9,50] [50] (Nat.zero_le _) ?_
  intro m h3
  have hfi:=DF (al:=al) hke m
  refine aE ?_
  refine aA (b:=bif decide ((m:Int)<al.length) then decide (((dA al (gG al (ps.getD r Y3)) m).length:Int)<3) else false) (fun e4=>?_) (fun e4=>?_)
  ·have hml:(m:Int)<al.length∧((dA al (gG al (ps.getD r Y3)) m).length:Int)<3:=by
    by_cases c1:(m:Int)<al.length
    ·rw [decide_eq_true c1] at e4;exact ⟨c1,of_decide_eq_true e4⟩
    ·rw [decide_eq_false c1] at e4;cases e4
   have hm:m<al.length:=by omega
   refine aE ?_
   refine mI TT_ok (kJ (dA al (gG al (ps.getD r Y3)) m) (by omega) m) rfl rfl rfl rfl rfl ?_
   refine aA (b:=bif al.getD m false then !decide ((m:Int) ∈ dA al (gG al (ps.getD r Y3)) m) else false) (fun e5=>?_) (fun e5=>?_)
   ·refine aE ?_
    refine cJ TT_ok 80 (fun _=>bL m) rfl rfl rfl rfl rfl rfl rfl (fun i hi=>by rcases i with _ | i <;>first | rfl | omega) (mu1:=[]) rfl rfl rfl ?_
    refine aM ?_
    refine cL TT_ok 50 80 81 rfl rfl rfl rfl rfl rfl rfl rfl rfl rfl rfl rfl ⟨by show ((dA al (gG al (ps.getD r Y3)) m).length+1) * 8≤_;omega,by unfold maxL;omega⟩ ?_
    refine aM ?_
    refine bC (bH 50 81) ?_
    exact bF (m+1) hm (by omega) wF ⟨⟨_,rfl,ZE _⟩,⟨_,rfl,cX (x:=(m:Int)) (by rw [dA,decide_eq_true hml.2];revert e5;cases al.getD m false <;>cases decide ((m:Int) ∈ dA al (gG al (ps.getD r Y3)) m) <;>intro e5 <;>first | rfl | cases e5) rfl⟩,wM⟩
   ·refine aE ?_
    exact bF (m+1) hm (by omega) wF ⟨⟨_,rfl,ZE _⟩,⟨_,rfl,bU (by rw [dA,decide_eq_true hml.2];revert e5;cases al.getD m false <;>cases decide ((m:Int) ∈ dA al (gG al (ps.getD r Y3)) m) <;>intro e5 <;>first | rfl | cases e5)⟩,wM⟩
  have hend:dA al (gG al (ps.getD r Y3)) al.length=dA al (gG al (ps.getD r Y3)) m:=by
   by_cases c1:(m:Int)<al.length
   ·rw [decide_eq_true c1] at e4
    have:=of_decide_eq_false e4
    exact MP (by omega) h3
   ·rw [show m=al.length by omega]
  rw [← hend]
  refine aE ?_
  refine cJ TT_ok 86 (fun _=>cN ⟨dA al (gG al (ps.getD r Y3)) al.length⟩) rfl rfl rfl rfl rfl rfl rfl (fun i hi=>by rcases i with _ | i <;>first | rfl | omega) (mu1:=[(50, .arr 0 0 fun _=>[])]) rfl rfl rfl ?_
  refine aM ?_
  refine cL TT_ok 40 86 87 rfl rfl rfl rfl rfl rfl rfl rfl rfl rfl rfl rfl ⟨by show (((ps.take r).map (sD al)).length+1) * 24≤_;omega,by unfold maxL;omega⟩ ?_
  refine aM ?_
  refine bC (bH 40 87) ?_
  exact bF (r+1) ⟨hr,by rw [hlost];omega⟩ (by omega) wF ⟨⟨_,rfl,cX (x:=(⟨dA al (gG al (ps.getD r Y3)) al.length⟩:GPlace)) (by rw [b7 (z:=Y3) hr,List.map_append,List.map_singleton,hrem]) rfl⟩,⟨_,rfl,bU hlost.symm⟩,wM⟩
 have hr:r=ps.length:=by omega
 subst hr
 rw [List.take_length]
 refine aE ?_
 refine a9 (bH 40 910) ?_
 refine a9 (bH 41 911) ?_
 refine aC (()) [(4,none),(5,none)] ?_ ?_ ?_
 ·exact ZF _
 ·exact wM
 ·trivial
end
section
def pD (c:GCluster) (d:Bool) (t:GTx) (k j:Nat):List GMachine:=(mJ c (bG t) false k ++ j8 false ((bG t).getD k 0) (cI c ((bG t).getD k 0)) j).foldl (vX d t) c.machines
theorem TE (c:GCluster) (d:Bool) (t:GTx) (k:Nat):pD c d t (k+1) 0=pD c d t k (cI c ((bG t).getD k 0)).length:=by
 unfold pD
 rw [mJ]
 show (_ ++ []).foldl _ _=_
 rw [List.append_nil]
theorem UP (c:GCluster) (d:Bool) (t:GTx):pD c d t (bG t).length 0=(mF c t false).foldl (vX d t) c.machines:=by
 unfold pD
 show (_ ++ []).foldl _ _=_
 rw [List.append_nil];rfl
theorem RO (c:GCluster) (d:Bool) (t:GTx) (k j:Nat):pD c d t k (j+1)=vX d t (pD c d t k j) ⟨(bG t).getD k 0,(cI c ((bG t).getD k 0)).getD j 0,decide ((j:Int) > 0)⟩:=by
 unfold pD
 rw [j8,show (bif decide ((j:Int) > 0) then true else !false)=true from by cases decide ((j:Int) > 0) <;>rfl,cond_true, ← List.append_assoc,List.foldl_append]
 rfl
theorem N1 {c:GCluster} {r:Int} (hr:0≤r∧r<c.places.length) {j:Nat} (hj:j<(cI c r).length):AtIn c ⟨r,(cI c r).getD j 0,decide ((j:Int) > 0)⟩:=⟨hr,j,hj,rfl,rfl⟩
theorem RP {c:GCluster} (hok:ClusOk c) {d:Bool} {t:GTx} (ht:TxIn c t) (k j:Nat) (hk:k<(bG t).length) (hj:j≤(cI c ((bG t).getD k 0)).length):Like c.machines (pD c d t k j):=A6 hok ht.ok (fun x h=>by
 rcases List.mem_append.1 h with h | h
 ·exact wS (fun k hk=>jI ht hk) (by omega) h
 ·obtain ⟨i,h1,rfl⟩:=xK hj h
  exact N1 (jI ht hk) (by omega)) (Like.refl hok)
set_option maxHeartbeats 2000000 in
theorem SI (c:GCluster) (hok:ClusOk c) (i:Nat) (hi:i<c.txs.length) :
  Con Tryz.prog 232 [900,901,902,903] [.a (.p 900 0),vI i] [(900, .rrow (qB c 901 902 903)),(901,roC 1 cN Y3 c.places),(902,bE 4 bQ Y4 c.machines),(903,bE 7 cTx Y5 c.txs)]
   (fun _:Unit=>True) (fun _=>[]) fun _=>[(902,bE 4 bQ Y4 (AD c i).machines),(903,bE 7 cTx Y5 (AD c i).txs)]:=by
 have hb:=vN hok
 have hx:=hok.txIn hi
 have hs1:=hx.ok.1.2.2.2.2.2.1
 have hs2:=hx.ok.1.2.2.2.2.2.2
 have hwl:=zE hx.ok
 have hvl:(mD c (c.txs.getD i Y5)).length=(bG (c.txs.getD i Y5)).length:=List.length_map _
 refine aD Tryz.func232 fun B0 r_ D_ w0=>?_
 refine aE ?_
 refine aP (ZG 900 14 (DY hx.ok)) fun _ _=>?_
 refine aM ?_
 refine aL 40 (fun i=>bL (([]:List Int).getD i 0)) (fun i hi=>absurd hi (Nat.not_lt_zero _)) (mu1:=[]) ?_
 refine aM ?_
 refine aJ (ι:=Nat) (fun k=>[(7,vI k),(6, .a (.g 40))]) (fun k=>[(40,bE 1 bL 0 ((mD c (c.txs.getD i Y5)).take k))]) (fun k=>k≤(bG (c.txs.getD i Y5)).length) (fun k=>(bG (c.txs.getD i Y5)).length - k) 0 [40] [40] (Nat.zero_le _) ?_
 intro k h1
 have hvt:((mD c (c.txs.getD i Y5)).take k).length≤k:=by rw [List.length_take];omega
 refine aE ?_
 refine aH (fun e=>?_) (fun e=>?_)
 ·have hk:k<(bG (c.txs.getD i Y5)).length:=by omega
  have hr:=jI hx hk
  refine aE ?_
  refine aW [40] [0,1,2,3,4,5,6,7,8,9,10,11,12,13,14,15] fun B0 H0=>?_
  refine f6 12 (P5 c hb hok _ _ hr) rfl rfl rfl (ZF _) rfl ?_
  refine bB 13 rfl (by kernel_rfl) (dK TT_ok 28 (fun _=>bL (yI c (c.txs.getD i Y5).id ((bG (c.txs.getD i Y5)).getD k 0) (cI c ((bG (c.txs.getD i Y5)).getD k 0)).length)) rfl rfl rfl rfl rfl rfl rfl (fun i hi=>by rcases i with _ | i <;>first | rfl | omega) (mu1:=[]) rfl rfl rfl (bA ?_))
  refine bB 14 rfl (by kernel_rfl) (dE TT_ok 40 28 29 rfl rfl rfl rfl rfl rfl rfl rfl rfl rfl rfl rfl ⟨by show (((mD c (c.txs.getD i Y5)).take k).length+1) * 8≤_;omega,by unfold maxL;omega⟩ (bA ?_))
  refine aY [15] ?_
  refine aN ?_
  refine bC (bH 40 29) ?_
  exact bF (k+1) hk (by omega) wF ⟨⟨_,rfl,cX (x:=yI c (c.txs.getD i Y5).id ((bG (c.txs.getD i Y5)).getD k 0) (cI c ((bG (c.txs.getD i Y5)).getD k 0)).length) (R4 hk) rfl⟩,wM⟩
 have hk:k=(bG (c.txs.getD i Y5)).length:=by omega
 subst hk
 rw [List.take_of_length_le (show (mD c (c.txs.getD i Y5)).length≤_ by omega)]
 refine aE ?_
 refine mI TT_ok (I4 (mD c (c.txs.getD i Y5)) (by omega)) rfl rfl rfl rfl rfl ?_
 rw [show (bif (bif (c.txs.getD (i:Int).toNat Y5).phase != 8 then (c.txs.getD (i:Int).toNat Y5).phase != 1 else false) then qS (mD c (c.txs.getD i Y5)) else false)=qM c (c.txs.getD i Y5) from PD c _]
 generalize hD:qM c (c.txs.getD i Y5)=d
 have hres:AD c i = { c with machines:=(mF c (c.txs.getD i Y5) false).foldl (vX d (c.txs.getD i Y5)) c.machines,txs:=c.txs.set i (OO d (c.txs.getD i Y5)) }:=by unfold AD;rw [hD]
 rw [hres, ← UP]
 refine aJ (ι:=Nat) (fun k=>[(9,vI k)]) (fun k=>[(902,bE 4 bQ Y4 (pD c d (c.txs.getD i Y5) k 0))]) (fun k=>k≤(bG (c.txs.getD i Y5)).length) (fun k=>(bG (c.txs.getD i Y5)).length - k) 0 [902] [] (Nat.zero_le _) ?_
 intro k h1
 refine aE ?_
 refine aH (fun e=>?_) (fun e=>?_)
 ·have hk:k<(bG (c.txs.getD i Y5)).length:=by omega
  have hr:=jI hx hk
  have hpl:=oV hok hr
  obtain ⟨s1,s2,s3⟩:=rW hx.ok ((bG (c.txs.getD i Y5)).getD k 0)
  have hsl:(cA ((bG (c.txs.getD i Y5)).getD k 0) (c.txs.getD i Y5).sets).length≤(c.txs.getD i Y5).sets.length:=List.length_filter_le _ _
  refine aE ?_
  refine aW [] [0,1,2,3,4,5,6,7,8] fun B0 H0=>?_
  refine qU 7 (ZG 900 30 (FS (c.txs.getD i Y5) ((bG (c.txs.getD i Y5)).getD k 0) (by omega))) rfl rfl rfl (ZF _) (fun _=>rfl) rfl rfl rfl fun _ _=>?_
  refine aY [8] ?_
  refine aN ?_
  refine aW [] [0,1,2,3,4,5,6,7,8,9,10,11] fun B0 H0=>?_
  refine aN ?_
  refine aJ (ι:=Nat) (fun j=>[(12,vI j)]) (fun j=>[(902,bE 4 bQ Y4 (pD c d (c.txs.getD i Y5) k j))]) (fun j=>j≤(cI c ((bG (c.txs.getD i Y5)).getD k 0)).length) (fun j=>(cI c ((bG (c.txs.getD i Y5)).getD k 0)).length - j) 0 [902] [] (Nat.zero_le _) ?_
  intro j h2
  refine aE ?_
  refine aH (fun e2=>?_) (fun e2=>?_)
  ·have e2:(j:Int)<((cI c ((bG (c.txs.getD i Y5)).getD k 0)).length:Int):=e2
   have hj:j<(cI c ((bG (c.txs.getD i Y5)).getD k 0)).length:=by omega
   have hA:AtIn c ⟨((bG (c.txs.getD i Y5)).getD k 0),(cI c ((bG (c.txs.getD i Y5)).getD k 0)).getD j 0,decide ((j:Int) > 0)⟩:=N1 hr hj
   obtain ⟨hm1,hm2⟩:=hA.mach hok
   have hm1:0≤(cI c ((bG (c.txs.getD i Y5)).getD k 0)).getD j 0∧(cI c ((bG (c.txs.getD i Y5)).getD k 0)).getD j 0<c.machines.length:=hm1
   have hL:=RP hok (d:=d) hx k j hk (by omega)
   have hS:=RO c d (c.txs.getD i Y5) k j
   have hN:j+1≤(cI c ((bG (c.txs.getD i Y5)).getD k 0)).length:=hj
   generalize pD c d (c.txs.getD i Y5) k j=ns at hL hS ⊢
   have hm3:0≤(cI c ((bG (c.txs.getD i Y5)).getD k 0)).getD j 0∧(cI c ((bG (c.txs.getD i Y5)).getD k 0)).getD j 0<ns.length:=by rw [hL.len];exact hm1
   obtain ⟨hM,hLa,hLh⟩:=hL.ok ((cI c ((bG (c.txs.getD i Y5)).getD k 0)).getD j 0).toNat (by omega)
   have hh:(ns.getD ((cI c ((bG (c.txs.getD i Y5)).getD k 0)).getD j 0).toNat Y4).alive=true→dQ (ns.getD ((cI c ((bG (c.txs.getD i Y5)).getD k 0)).getD j 0).toNat Y4) ((bG (c.txs.getD i Y5)).getD k 0)=true:=fun h=>by rw [hLh];exact hm2 (hLa ▸ h)
   unfold vX at hS
   have g1:0≤(c.places.getD ((bG (c.txs.getD i Y5)).getD (k:Int).toNat 0).toNat Y3).machines.getD (j:Int).toNat 0∧(c.places.getD ((bG (c.txs.getD i Y5)).getD (k:Int).toNat 0).toNat Y3).machines.getD (j:Int).toNat 0<(ns.length:Int):=hm3
   have g2:0≤(bG (c.txs.getD i Y5)).getD (k:Int).toNat 0∧(bG (c.txs.getD i Y5)).getD (k:Int).toNat 0<(c.places.length:Int):=hr
   have g3:(j:Int)<((c.places.getD ((bG (c.txs.getD i Y5)).getD (k:Int).toNat 0).toNat Y3).machines.length:Int):=e2
   refine aE ?_
   refine aW [] [0,1,2,3,4,5,6,7,8,9] fun B0 H0=>?_
   refine aN ?_
   generalize hmm:(ns.getD ((cI c ((bG (c.txs.getD i Y5)).getD k 0)).getD j 0).toNat Y4)=m at hM hh hS
   refine bW (b := !m.alive) (by subst hmm;rfl) (fun e2=>?_) (fun e2=>?_)
   ·have ha:m.alive=false:=by simpa using e2
    have hS:pD c d (c.txs.getD i Y5) k (j+1)=ns.set ((cI c ((bG (c.txs.getD i Y5)).getD k 0)).getD j 0).toNat (tR d (c.txs.getD i Y5) ((bG (c.txs.getD i Y5)).getD k 0) m):=hS
    rw [RX ha, ← hmm,set_self (z:=Y4) (by omega)] at hS
    refine aE ?_
    exact bF (j+1) hj (by omega) wF ⟨⟨_,rfl,bU hS.symm⟩,wM⟩
   have ha:m.alive=true:=by simpa using e2
   have hhas:=hh ha
   have bl:m.log.length≤200:=hM.1.2.1
   have bc:m.cleared.length≤60:=hM.1.2.2
   have bk:m.copies.length≤6:=hM.1.1
   have hrs:=(sY.1 hM.2.1).2
   have hcb:=(gM hM hhas).2
   have hS:pD c d (c.txs.getD i Y5) k (j+1)=ns.set ((cI c ((bG (c.txs.getD i Y5)).getD k 0)).getD j 0).toNat (tR d (c.txs.getD i Y5) ((bG (c.txs.getD i Y5)).getD k 0) m):=hS
   rw [XS ha hhas] at hS
   have hix2:0≤eU m ((bG (c.txs.getD i Y5)).getD k 0)∧eU m ((bG (c.txs.getD i Y5)).getD k 0)<m.copies.length:=yB hhas
   refine a9 (d6 902 ((cI c ((bG (c.txs.getD i Y5)).getD k 0)).getD j 0) 60 rfl rfl rfl rfl rfl rfl hm3) ?_
   rw [hmm]
   refine a9 (j6 13 rfl rfl rfl) ?_
   refine a9 (aV 60 1 61) ?_
   refine a9 (aV 60 2 62) ?_
   refine a9 (aV 60 3 63) ?_
   have g4:0≤b0 (atB ((bG (c.txs.getD i Y5)).getD (k:Int).toNat 0)) m.copies∧b0 (atB ((bG (c.txs.getD i Y5)).getD (k:Int).toNat 0)) m.copies<(m.copies.length:Int):=hix2
   refine aE ?_
   refine aW [] [0,1,2,3,4,5,6,7,8,9,10,11,12,13,14,15] fun B0 H0=>?_
   refine f6 11 (w8 m (by omega) _) rfl rfl rfl (ZF _) rfl ?_
   refine OV ?_
   refine oM TT_ok 12 rfl rfl rfl rfl ?_
   refine oM TT_ok 13 rfl rfl rfl rfl ?_
   refine nV (d6 61 (eU m ((bG (c.txs.getD i Y5)).getD k 0)) 64 rfl rfl rfl rfl rfl rfl hix2) ?_
   refine nV (aV 64 1 65) ?_
   refine nV (j6 121 rfl rfl rfl) ?_
   refine oM TT_ok 14 rfl rfl rfl rfl ?_
   refine oM TT_ok 15 rfl rfl rfl rfl ?_
   refine F9 TT_ok rfl ?_
   have hcel:cellsOf m ((bG (c.txs.getD i Y5)).getD k 0)=(m.copies.getD (eU m ((bG (c.txs.getD i Y5)).getD k 0)).toNat ZA).cells:=iZ hhas
   rw [← hcel]
   refine dC (ι:=Unit) (fun _=>[]) (fun _=>[(65,bE 2 cQ Y9 (AS d (c.txs.getD i Y5) ((bG (c.txs.getD i Y5)).getD k 0) m))]) (fun _=>True) [65] [] rfl rfl ?_ ?_
   ·refine aA (b:=d) (fun e3=>?_) (fun e3=>?_)
    ·refine aE ?_
     refine dZ TT_ok (ZG 900 65 (qZ (cellsOf m ((bG (c.txs.getD i Y5)).getD k 0)) (cA ((bG (c.txs.getD i Y5)).getD k 0) (c.txs.getD i Y5).sets) (by omega) hcb s1)) rfl rfl (ZF _) (fun _=>rfl) rfl rfl rfl fun _ _=>?_
     refine aM ?_
     exact bF () trivial Nat.zero_lt_one wF ⟨⟨_,rfl,bU (by unfold AS;rw [e3];rfl)⟩,wM⟩
    ·refine aE ?_
     refine aW [] [0,1,2,3,4,5,6,7,8,9,10,11,12,13] fun B0 H0=>?_
     refine qU 11 (ZG 903 63 (ZG 902 62 (ZG 901 61 (EH m.alive m.log (by omega) (c.txs.getD i Y5).id ((bG (c.txs.getD i Y5)).getD k 0) 1)))) rfl rfl rfl (ZF _) (fun _=>rfl) rfl rfl rfl fun _ _=>?_
     refine aY [12,13] ?_
     refine aN ?_
     refine aH (fun e4=>?_) (fun e4=>?_)
     ·refine aE ?_
      refine dZ TT_ok (ZG 900 65 (E3 (cellsOf m ((bG (c.txs.getD i Y5)).getD k 0)) (cA ((bG (c.txs.getD i Y5)).getD k 0) (c.txs.getD i Y5).sets) (by omega) hcb s1)) rfl rfl (ZF _) (fun _=>rfl) rfl rfl rfl fun _ _=>?_
      refine aM ?_
      exact bF () trivial Nat.zero_lt_one wF ⟨⟨_,rfl,bU (by unfold AS;rw [e3,cond_false,if_pos (show 0≤pC m (c.txs.getD i Y5).id ((bG (c.txs.getD i Y5)).getD k 0) 1 from e4)])⟩,wM⟩
     ·refine aE ?_
      exact bF () trivial Nat.zero_lt_one wF ⟨⟨_,rfl,bU (by unfold AS;rw [e3,cond_false,if_neg (show ¬ 0≤pC m (c.txs.getD i Y5).id ((bG (c.txs.getD i Y5)).getD k 0) 1 from e4)])⟩,wM⟩
   rintro ⟨⟩ _
   refine aT ?_
   refine aW [60,62,63] [0,1,2,3,4,5,6,7,8,9] fun B0 H0=>?_
   refine qU 9 (ZG 905 67 (ZG 904 66 (ZG 903 63 (ZG 902 62 (ZG 901 61 (ZG 900 60 (vK m (by omega) (by omega) hrs (c.txs.getD i Y5).id ((bG (c.txs.getD i Y5)).getD k 0) false))))))) rfl rfl rfl (ZF _) (fun _=>rfl) rfl rfl rfl fun _ _=>?_
   refine aN ?_
   refine bC (a7 64 1 65) ?_
   refine bC (aZ 61 64) ?_
   refine bC (fI 61 rfl (bS (y:=(r8 m ((bG (c.txs.getD i Y5)).getD k 0) (AS d (c.txs.getD i Y5) ((bG (c.txs.getD i Y5)).getD k 0) m))) (OwnI.refl _)) rfl) ?_
   refine bC (a7 60 1 61) ?_
   refine bC (a7 60 2 66) ?_
   refine bC (a7 60 3 67) ?_
   refine bC (aZ 902 60) ?_
   exact bF (j+1) hj (by omega) wF ⟨⟨_,rfl,Ch.imp_trans (bS (y:=jN (cG m ((bG (c.txs.getD i Y5)).getD k 0) (AS d (c.txs.getD i Y5) ((bG (c.txs.getD i Y5)).getD k 0) m)) (c.txs.getD i Y5).id ((bG (c.txs.getD i Y5)).getD k 0) false) (OwnI.refl _)) (bU hS.symm)⟩,wM⟩
  have e2:¬ (j:Int)<((cI c ((bG (c.txs.getD i Y5)).getD k 0)).length:Int):=e2
  have hj:j=(cI c ((bG (c.txs.getD i Y5)).getD k 0)).length:=by omega
  subst hj
  refine aE ?_
  exact bF (k+1) hk (by omega) wF ⟨⟨_,rfl,bU (TE c d (c.txs.getD i Y5) k).symm⟩,wM⟩
 have hk:k=(bG (c.txs.getD i Y5)).length:=by omega
 subst hk
 refine a9 (d6 903 (i:Int) 77 rfl rfl rfl rfl rfl rfl ⟨by omega,by omega⟩) ?_
 refine a9 (j6 4 rfl rfl rfl) ?_
 refine aE ?_
 refine aA (b:=d) (fun e3=>?_) (fun e3=>?_)
 ·subst e3
  refine VT TT_ok rfl ?_
  refine bC (aZ 903 77) ?_
  refine lC TT_ok () [] rfl rfl ?_ ?_ ?_
  ·exact ZF _
  ·exact ⟨⟨_,rfl,ZE _⟩,⟨_,rfl,bS (y:=OO true (c.txs.getD i Y5)) (OwnI.refl _)⟩,trivial⟩
  ·trivial
 ·subst e3
  refine a9 (aZ 903 77) ?_
  refine FH ?_
  refine lC TT_ok () [] rfl rfl ?_ ?_ ?_
  ·exact ZF _
  ·exact ⟨⟨_,rfl,ZE _⟩,⟨_,rfl,bS (y:=OO false (c.txs.getD i Y5)) (OwnI.refl _)⟩,trivial⟩
  ·trivial
end
section
section
variable {P:Program}
theorem Con.liftH {ι:Type} {f sz n k k3 ko sz3 n3:Nat} {g f3:Nat→List D} {xD:List D} {xr:Value→List Value} {ks:List Nat} {args:List SV} {args':(Nat→List Value)→Value→List SV} {rest:Mu} {rest':ι→Mu} {φ:ι→Prop} {res:ι→List SV} {m:ι→Nat} {ρ:ι→Nat→Option Nat} (hk:k≠k3)
  (hro:∀ j c,mlk j rest=some c→c.own? = true∧j≠k∧j≠k3) (hro':∀ y j c,mlk j (rest' y)=some c→c.own? = true∧j≠ko)
  (hgo:∀ i,i<n→vC (g i)=true) (hx:∀ (h:PH) v,D.own h (.sl sz3 n3 f3) v→D.owns h xD (xr v))
  (hσ:∀ y,φ y→∀ j,j<m y→∀ i,ρ y j=some i→i<n) (hin:∀ y,φ y→∀ i j,i<m y→j<m y→i≠j→ρ y i≠ρ y j)
  (hA:∀ (B:BE) (r r':PH) (H H':Nat→PH) (vals:List Value) (row:Nat→List Value),r.le r'→(∀ i,i<n→D.rds r' (g i) (row i))→D.rd r' (.sl sz3 n3 f3) (B k3)→SV.rels P B (Zf r H) args vals→SV.rels P B (Zf r' H') (args' row (B k3)) vals)
  (hR:∀ y (B:BE) (r r':PH) (H H':Nat→PH) (out:List Value),SV.rels P B (Zf r H) (res y) out→SV.rels P B (Zf r' H') (res y) out)
  (hrest:∀ y (B:BE) (r r' h:PH) j c,mlk j (rest' y)=some c→c.sat B r' h j→c.sat B r h j)
  (C:∀ (row:Nat→List Value) (sv:Value),(∀ i,i<n→(row i).length=sz)→(∀ i,i<n→∀ u ∈ row i,eL u=true)→(∃ A c,sv = .slice A n3 c)→(∀ i,i<n→∃ h,D.rds h (g i) (row i))→Con P f ks (args' row sv) ((k, .arr sz n fun i=>(row i).map D.v) :: rest) φ res fun y=>(ko, .arr sz (m y) fun j=>(BV row (xr sv) (ρ y j)).map D.v) :: rest' y) :
  Con P f ks args ((k, .arr sz n g) :: (k3, .arr sz3 n3 f3) :: rest) φ res fun y=>(ko, .arr sz (m y) fun j=>BV g xD (ρ y j)) :: rest' y:=fun B r w H vals mm hemp hargs=>by
 have s1:D.own (H k) (.sl sz n g) (B k):=mm.sat k (.arr sz n g) (by rw [bO,if_pos rfl])
 have s3:D.own (H k3) (.sl sz3 n3 f3) (B k3):=mm.sat k3 (.arr sz3 n3 f3) (by rw [bO,if_neg hk,bO,if_pos rfl])
 obtain ⟨A,c,row,hc,hp,G,e1,e2,va,lc,lp,dcp,ho,hG,hd⟩:=uD s1
 have d13:(H k).dj (H k3):=mm.dj _ _ hk
 have dpp:hp.dj (H k3):=PH.dj_le d13 lp (PH.le_refl _)
 have drp1:r.dj hp:=PH.dj_symm (PH.dj_le (mm.djr k) lp (PH.le_refl _))
 have drp:r.dj (hp.un (H k3)):=PH.dj_un drp1 (PH.dj_symm (mm.djr k3))
 have ro:=PH.le_un_left r (hp.un (H k3))
 have rp:=PH.le_un_right drp
 have pl1:=PH.le_un_left hp (H k3)
 have pl2:=PH.le_un_right dpp
 let H1:Nat→PH:=fun j=>if j=k then hc else if j=k3 then PH.emp else H j
 have hk1:H1 k=hc:=by simp [H1]
 have hk3:H1 k3=PH.emp:=by simp [H1,Ne.symm hk]
 have hne:∀ j,j≠k→j≠k3→H1 j=H j:=fun j hj hj2=>by simp [H1,hj,hj2]
 have hle:∀ j,(H1 j).le (H j):=fun j=>by
  by_cases h:j=k
  ·subst h;rw [hk1];exact lc
  ·by_cases h2:j=k3
   ·subst h2;rw [hk3];exact PH.emp_le _
   ·rw [hne j h h2];exact PH.le_refl _
 have hdj:∀ j,(H1 j).dj (hp.un (H k3)):=fun j=>by
  refine PH.dj_un ?_ ?_
  ·by_cases h:j=k
   ·subst h;rw [hk1];exact dcp
   ·exact PH.dj_le (mm.dj j k h) (hle j) lp
  ·by_cases h:j=k3
   ·subst h;rw [hk3];exact PH.emp_dj _
   ·exact PH.dj_le (mm.dj j k3 h) (hle j) (PH.le_refl _)
 have satup:∀ (c:Ch) (h:PH) j,c.own? = true→c.sat B r h j→c.sat B (r.un (hp.un (H k3))) h j:=fun c h j hc hs=>by
  cases c with
  | row l=>obtain ⟨b,o,vs,h',a1,a2,a3⟩:=hs;exact ⟨b,o,vs,h',a1,V.owns_mono ro (PH.le_refl _) a2,a3⟩
  | arr=>exact hs
  | hole=>exact hs
  | ro=>cases hc
  | rrow=>cases hc
  | rd=>exact hs
  | rw=>exact hs
 have mm1:Mm B (r.un (hp.un (H k3))) ((k, .arr sz n fun i=>(row i).map D.v) :: rest) w H1:=by
  refine ⟨fun j d e=>?_,fun j=>(mm.fit j).le (hle j),fun i j hij=>PH.dj_le (mm.dj i j hij) (hle i) (hle j),fun j=>PH.dj_un (PH.dj_le (mm.djr j) (hle j) (PH.le_refl _)) (hdj j),Fit.un mm.fitr (Fit.un ((mm.fit k).fit.le lp) (mm.fit k3).fit)⟩
  rw [bO] at e
  by_cases hj:k=j
  ·subst hj
   rw [if_pos rfl] at e;injection e with e;subst e
   rw [hk1]
   show D.own hc _ (B k)
   rw [e1]
   exact rV (hp:=PH.emp) (G:=fun _=>PH.emp) va e2 (PH.le_refl _) (PH.emp_le _) (PH.dj_emp _) (fun i _=>o5) (fun _ _=>PH.le_refl _) fun _ _ _ _ _=>PH.emp_dj _
  ·rw [if_neg hj] at e
   obtain ⟨q1,q2,q3⟩:=hro j d e
   rw [hne j q2 q3]
   exact satup d _ j q1 (mm.sat j d (by rw [bO,if_neg hj,bO,if_neg (Ne.symm q3)];exact e))
 have keys:∀ {l:Mu} j,bD j (bJ l)=true→∃ c,(j,c) ∈ l∧c.own? = true:=fun {l} j=>by
  induction l with
  | nil=>intro h;cases h
  | cons x r ih =>
   obtain ⟨i,c⟩:=x
   intro h
   simp only [bJ] at h
   cases hc:c.own? with
   | false=>rw [hc] at h;obtain ⟨d,d1,d2⟩:=ih h;exact ⟨d,List.mem_cons_of_mem _ d1,d2⟩
   | true =>
    rw [hc] at h
    simp only [cond_true] at h
    rcases (fE j i _).1 h with e | e
    ·subst e;exact ⟨c,List.mem_cons_self,hc⟩
    ·obtain ⟨d,d1,d2⟩:=ih e;exact ⟨d,List.mem_cons_of_mem _ d1,d2⟩
 have up:∀ b o,iP ((k, .arr sz n fun i=>(row i).map D.v) :: rest) H1 b o→iP ((k, .arr sz n g) :: (k3, .arr sz3 n3 f3) :: rest) H b o:=fun b o ⟨j,h1,h2⟩=>by
  obtain ⟨c,c1,c2⟩:=keys j h1
  refine ⟨j,?_,PH.le_ne (hle j) h2⟩
  rcases List.mem_cons.1 c1 with e | e
  ·injection e with e1 e2
   subst e1
   exact gU List.mem_cons_self rfl
  ·exact gU (List.mem_cons_of_mem _ (List.mem_cons_of_mem _ e)) c2
 have own0:∀ j b o,j=k∨j=k3→H j b o≠none→iP ((k, .arr sz n g) :: (k3, .arr sz3 n3 f3) :: rest) H b o:=fun j b o hj h=>by
  refine ⟨j,?_,h⟩
  rcases hj with rfl | rfl
  ·exact gU List.mem_cons_self rfl
  ·exact gU (List.mem_cons_of_mem _ List.mem_cons_self) rfl
 obtain ⟨A3,c3,hv3,_⟩:=(show ∃ A c,B k3 = .slice A n3 c∧_ from s3)
 refine (C row (B k3) (fun i hi=>(ho i hi).2) (fun i hi=>yR (ho i hi).1 (qA (hgo i hi))) ⟨A3,c3,hv3⟩ (fun i hi=>⟨_,D.owns_rds _ (ho i hi).1⟩) B _ w H1 vals mm1 (fun j hj=>?_)
  (hA B r _ H H1 vals row ro (fun i hi=>D.rds_mono (PH.le_trans (PH.le_trans (hG i) pl1) rp) _ (D.owns_rds _ (ho i hi).1)) (D.rd_mono (PH.le_trans pl2 rp) _ (D.own_rd _ s3)) hargs)).mono ?_
 ·by_cases h:j=k
  ·subst h;rw [gU (c := .arr sz n fun i=>(row i).map D.v) List.mem_cons_self rfl] at hj;cases hj
  ·by_cases h2:j=k3
   ·subst h2;exact hk3
   ·rw [hne j h h2]
    refine hemp j ?_
    cases e:bD j (bJ ((k, .arr sz n g) :: (k3, .arr sz3 n3 f3) :: rest)) with
    | false=>rfl
    | true =>
     obtain ⟨c,q1,q2⟩:=keys j e
     rcases List.mem_cons.1 q1 with e | e
     ·injection e with e1 e2;exact absurd e1 h
     ·rcases List.mem_cons.1 e with e | e
      ·injection e with e1 e2;exact absurd e1 h2
      ·rw [gU (List.mem_cons_of_mem _ e) q2] at hj;cases hj
 rintro e w' ⟨y,B',H',out,hy,he,hres,mm2,hB,hkeep,hdom⟩
 have s2:D.own (H' ko) (.sl sz (m y) fun j=>(BV row (xr (B k3)) (ρ y j)).map D.v) (B' ko):=mm2.sat ko (.arr sz (m y) fun j=>(BV row (xr (B k3)) (ρ y j)).map D.v) (by rw [bO,if_pos rfl])
 obtain ⟨A2,c2,GZ,hc2,hp2,G2,f1,f2,va2,lc2,lp2,dcp2,ho2,hG2,hd2⟩:=uD s2
 have heq:∀ j,j<m y→GZ j=BV row (xr (B k3)) (ρ y j):=fun j hj=>HK (ho2 j hj).1
 have dk:∀ j,(H' j).dj (hp.un (H k3)):=fun j=>PH.dj_le (mm2.djr j) (PH.le_refl _) rp
 let H3:Nat→PH:=fun j=>if j=ko then (H' ko).un (hp.un (H k3)) else H' j
 have h3:H3 ko=(H' ko).un (hp.un (H k3)):=by simp [H3]
 have h3n:∀ j,j≠ko→H3 j=H' j:=fun j hj=>by simp [H3,hj]
 have fitp:FitO (hp.un (H k3)) w':=(((mm.fit k).le lp).un (mm.fit k3)).keep hkeep fun b o h ⟨j,_,h2⟩=>by
  rcases hdj j b o with h4 | h4
  ·exact h2 h4
  ·exact h h4
 refine ⟨y,B',H3,out,hy,he,hR y B' _ _ H' H3 out hres,⟨fun j d e=>?_,fun j=>?_,fun i j hij=>?_,fun j=>?_,mm2.fitr.le ro⟩,hB,hkeep.mono fun b _ o h=>up b o h,fun j b o h=>?_⟩
 ·rw [bO] at e
  by_cases hj:ko=j
  ·subst hj
   rw [if_pos rfl] at e;injection e with e;subst e
   rw [h3]
   show D.own _ _ (B' ko)
   rw [f1]
   refine rV (hc:=hc2) (hp:=hp.un (H k3)) (G:=fun j=>BV G (H k3) (ρ y j)) (row:=GZ) va2 f2 (PH.le_trans lc2 (PH.le_un_left _ _)) (PH.le_un_right (dk ko)) (PH.dj_le (dk ko) lc2 (PH.le_refl _)) (fun j hj=>?_) (fun j _=>?_) fun i j hi hj hij=>?_
   ·rw [heq j hj]
    have h4:=hσ y hy j hj
    generalize ρ y j=x at h4
    cases x with
    | some a=>exact (ho a (h4 a rfl)).1
    | none=>exact hx _ _ s3
   ·generalize ρ y j=x
    cases x with
    | some a=>exact PH.le_trans (hG a) pl1
    | none=>exact pl2
   ·have h4:=hin y hy i j hi hj hij
    generalize ρ y i=x at h4
    generalize ρ y j=z at h4
    cases x with
    | some a =>
     cases z with
     | some a2=>exact hd a a2 fun e=>h4 (by rw [e])
     | none=>exact PH.dj_le dpp (hG a) (PH.le_refl _)
    | none =>
     cases z with
     | some a2=>exact PH.dj_symm (PH.dj_le dpp (hG a2) (PH.le_refl _))
     | none=>exact absurd rfl h4
  ·rw [if_neg hj] at e
   rw [h3n j (Ne.symm hj)]
   exact hrest y B' r _ _ j d e (mm2.sat j d (by rw [bO,if_neg hj];exact e))
 ·by_cases hj:j=ko
  ·subst hj;rw [h3];exact (mm2.fit j).un fitp
  ·rw [h3n j hj];exact mm2.fit j
 ·by_cases hi:i=ko
  ·subst hi
   rw [h3,h3n j (Ne.symm hij)]
   exact PH.un_dj (mm2.dj i j hij) (PH.dj_symm (dk j))
  ·by_cases hj:j=ko
   ·subst hj
    rw [h3,h3n i hi]
    exact PH.dj_un (mm2.dj i j hij) (dk i)
   ·rw [h3n i hi,h3n j hj];exact mm2.dj i j hij
 ·by_cases hj:j=ko
  ·subst hj;rw [h3];exact PH.un_dj (PH.dj_le (mm2.djr j) (PH.le_refl _) ro) (PH.dj_symm drp)
  ·rw [h3n j hj];exact PH.dj_le (mm2.djr j) (PH.le_refl _) ro
 ·by_cases hj:j=ko
  ·subst hj
   rw [h3] at h
   rcases PH.un_ne h with h1 | h1
   ·rcases hdom j b o h1 with h2 | h2
    ·exact .inl (up b o h2)
    ·exact .inr h2
   ·rcases PH.un_ne h1 with h2 | h2
    ·exact .inl (own0 k b o (.inl rfl) (PH.le_ne lp h2))
    ·exact .inl (own0 k3 b o (.inr rfl) h2)
  ·rw [h3n j hj] at h
   rcases hdom j b o h with h2 | h2
   ·exact .inl (up b o h2)
   ·exact .inr h2
end
end
section
theorem rM {sz n:Nat} {f:Nat→List D}:(Ch.arr sz n f).imp (.rd sz n f):=fun _ _ _ _ s=>D.own_rd (.sl sz n f) s
section
variable {E:Env} {mu mu' md:Mu} {fr fr0:Fr} {R:Exit→Act→World→Prop} {K:List KF} {c:Code} {x:Nx}
theorem WX (k k2:Nat) {sz n:Nat} {g:Nat→List D} (hk:mlk k mu=some (.arr sz n g)) (hne:(k2 == k)=false) (h2:gJ k2 fr [] mu E.A.ks=true) (hno:mlk k2 mu=none) (hcut:fW (V.usesT k) fr=some fr0)
  {mu1:(Nat→List D)→Mu} (hmu:∀ f,gB k (.arr sz n f) mu=some (mu1 f))
  (h:∀ row:Nat→List Value,(∀ i,i<n→(row i).length=sz∧∃ hp,D.rds hp (g i) (row i))→T E R c fr0 ((k2, .rw fun hp => ∀ i,i<n→D.rds hp (g i) (row i)) :: mu1 fun i=>(row i).map D.v) K):T E R c fr mu K:=fun B a w H f m=>by
 have s1:D.own (H k) (.sl sz n g) (B k):=m.mm.sat k _ hk
 obtain ⟨A,cc,row,hc,hp,G,e1,e2,va,lc,lp,dcp,ho,hG,hd⟩:=uD s1
 have hne:k2≠k:=by simpa using hne
 have hm1:=hmu fun i=>(row i).map D.v
 obtain ⟨u1,u2,u3,u4⟩:=iE h2
 let H1:Nat→PH:=fun j=>if j=k2 then hp else if j=k then hc else H j
 have k1:H1 k=hc:=by simp [H1,Ne.symm hne]
 have k22:H1 k2=hp:=by simp [H1]
 have kn:∀ j,j≠k2→j≠k→H1 j=H j:=fun j a b=>by simp [H1,a,b]
 have eH:H1=HF.set (HF.set H k hc) k2 hp:=by
  funext j
  by_cases a:j=k2
  ·subst a;rw [HF.set_eq];exact k22
  ·rw [HF.set_ne _ _ a]
   by_cases b:j=k
   ·subst b;rw [HF.set_eq];exact k1
   ·rw [HF.set_ne _ _ b];exact kn j a b
 have f1:=FitsE.anew f (k:=k) hc hcut (by rfl:f0 (V.usesT k) [] = some [])
 have cutU:∀ {φ ψ:V→Bool} {l m:Fr},fW φ l=some m→(ψ .any=false)→fN ψ l=false→fN ψ m=false:=fun {φ ψ}=>by
  intro l
  induction l with
  | nil=>intro m h1 _ _;injection h1 with h1;subst h1;rfl
  | cons y r ih =>
   obtain ⟨t,y⟩:=y
   intro m h1 ha h2
   simp only [fW] at h1
   simp only [fN] at h2
   cases c1:SV.anyV ψ y with
   | true=>rw [c1] at h2;cases h2
   | false =>
    rw [c1] at h2
    cases c2:fW φ r with
    | none=>rw [c2] at h1;cases h1
    | some l' =>
     rw [c2] at h1
     have:=ih c2 ha h2
     cases c3:SV.anyV φ y with
     | true =>
      rw [c3] at h1;simp at h1;subst h1
      simp only [fN]
      rw [show SV.anyV ψ (.a .any)=false from ha];exact this
     | false =>
      rw [c3] at h1;simp at h1;subst h1
      simp only [fN,c1];exact this
 have f2:=FitsE.new f1 (k:=k2) (B k2) hp (cutU hcut rfl u1) rfl
 rw [← eH,BE.set_self] at f2
 have eB:BE.set B k2 (B k2)=B:=BE.set_self B k2
 rw [eB] at f2
 refine h row (fun i hi=>⟨(ho i hi).2,_,D.owns_rds _ (ho i hi).1⟩) B a w H1 f2 ⟨⟨fun j d e=>?_,fun j=>?_,fun i j hij=>?_,fun j=>?_,m.mm.fitr⟩,m.keep,fun j b o hb=>?_,m.anch⟩
 ·rw [bO] at e
  by_cases hj:k2=j
  ·subst hj
   rw [if_pos rfl] at e;injection e with e;subst e
   rw [k22]
   exact fun i hi=>D.rds_mono (hG i) _ (D.owns_rds _ (ho i hi).1)
  ·rw [if_neg hj] at e
   rw [jV hm1 j] at e
   by_cases hj2:j=k
   ·subst hj2
    rw [if_pos rfl] at e;injection e with e;subst e
    rw [k1]
    show D.own hc _ (B j)
    rw [e1]
    exact rV (hp:=PH.emp) (G:=fun _=>PH.emp) va e2 (PH.le_refl _) (PH.emp_le _) (PH.dj_emp _) (fun i _=>o5) (fun _ _=>PH.le_refl _) fun _ _ _ _ _=>PH.emp_dj _
   ·rw [if_neg hj2] at e
    rw [kn j (Ne.symm hj) hj2]
    exact m.mm.sat j d e
 ·by_cases a:j=k2
  ·subst a;rw [k22];exact (m.mm.fit k).le lp
  ·by_cases b:j=k
   ·subst b;rw [k1];exact (m.mm.fit j).le lc
   ·rw [kn j a b];exact m.mm.fit j
 ·have key:∀ i j,i≠j→i=k2→(H1 i).dj (H1 j):=fun i j hij a=>by
   subst a;rw [k22]
   by_cases b:j=k
   ·subst b;rw [k1];exact PH.dj_symm dcp
   ·rw [kn j (Ne.symm hij) b]
    exact PH.dj_le (m.mm.dj k j (Ne.symm b)) lp (PH.le_refl _)
  by_cases a:i=k2
  ·exact key i j hij a
  ·by_cases a2:j=k2
   ·exact PH.dj_symm (key j i (Ne.symm hij) a2)
   ·by_cases b:i=k
    ·subst b;rw [k1,kn j a2 (Ne.symm hij)];exact PH.dj_le (m.mm.dj i j hij) lc (PH.le_refl _)
    ·rw [kn i a b]
     by_cases b2:j=k
     ·subst b2;rw [k1];exact PH.dj_le (m.mm.dj i j hij) (PH.le_refl _) lc
     ·rw [kn j a2 b2];exact m.mm.dj i j hij
 ·by_cases a:j=k2
  ·subst a;rw [k22];exact PH.dj_le (m.mm.djr k) lp (PH.le_refl _)
  ·by_cases b:j=k
   ·subst b;rw [k1];exact PH.dj_le (m.mm.djr j) lc (PH.le_refl _)
   ·rw [kn j a b];exact m.mm.djr j
 ·by_cases a:j=k2
  ·subst a;rw [k22] at hb;exact m.dom k b o (PH.le_ne lp hb)
  ·by_cases b':j=k
   ·subst b';rw [k1] at hb;exact m.dom j b o (PH.le_ne lc hb)
   ·rw [kn j a b'] at hb;exact m.dom j b o hb
theorem XC (k k2:Nat) {sz n:Nat} {g f:Nat→List D} {rows:Nat→List Value} {P:PH→Prop} {gf:GF} (hk:mlk k mu=some (.arr sz n g)) (hP:mlk k2 mu=some (.rw P)) (hne:(k2 == k)=false)
  (hrow:∀ i,i<n→g i=(rows i).map D.v) (hf:∀ hp,P hp→∀ i,i<n→D.rds hp (f i) (rows i)) (hd:mS k2 mu=some md) (hmu:gB k (.rd sz n f) md=some mu')
  (h2:fN (V.uses k2) fr=false) (hg:fJ (V.uses k2) gf=false) (hm:lU (V.uses k2) k2 mu=false):jA E fr gf mu fr gf mu':=fun B w H a ff m=>by
 have s1:D.own (H k) (.sl sz n g) (B k):=m.mm.sat k _ hk
 have s2:P (H k2):=m.mm.sat k2 _ hP
 have hne:k2≠k:=by simpa using hne
 have djk:(H k).dj (H k2):=m.mm.dj _ _ (Ne.symm hne)
 have l1:(H k).le ((H k).un (H k2)):=PH.le_un_left _ _
 have l2:(H k2).le ((H k).un (H k2)):=PH.le_un_right djk
 let H1:Nat→PH:=HF.set (HF.set H k2 PH.emp) k ((H k).un (H k2))
 have k1:H1 k=(H k).un (H k2):=HF.set_eq _ _ _
 have k22:H1 k2=PH.emp:=by show HF.set _ k _ k2=_;rw [HF.set_ne _ _ hne,HF.set_eq]
 have kn:∀ j,j≠k2→j≠k→H1 j=H j:=fun j a b=>by show HF.set _ k _ j=_;rw [HF.set_ne _ _ b,HF.set_ne _ _ a]
 have f1:=FitsE.new ff (k:=k2) (B k2) PH.emp h2 hg
 rw [BE.set_self] at f1
 have f2:FitsE E B H1 fr gf a:=by
  have hz:∀ q,(Zf E.r (HF.set H k2 PH.emp) q).le (Zf E.r H1 q):=wZ (PH.le_refl _) fun j=>by
   by_cases b:j=k
   ·subst b;rw [k1,HF.set_ne _ _ (Ne.symm hne)];exact l1
   ·show PH.le _ (HF.set _ k _ j);rw [HF.set_ne _ _ b];exact PH.le_refl _
  exact ⟨f1.size,f1.defers,fun t x e1 e2=>SV.rel_mono hz x (f1.vfr t x e1 e2),fun t d w x e1 e2=>SV.rel_mono hz x (f1.vgf t d w x e1 e2),f1.vgu,f1.vno⟩
 refine ⟨B,H1,f2,⟨⟨fun j d e=>?_,fun j=>?_,fun i j hij=>?_,fun j=>?_,m.mm.fitr⟩,m.keep,fun j b o hb=>?_,m.anch⟩⟩
 ·rw [jV hmu j] at e
  by_cases hj:j=k
  ·subst hj
   rw [if_pos rfl] at e;injection e with e;subst e
   rw [k1]
   show D.rd _ (.sl sz n f) (B j)
   obtain ⟨A,cc,e1,e2,e3,e4⟩:=D.own_rd (.sl sz n g) s1
   refine ⟨A,cc,e1,e2,e3,e4.imp id fun ⟨b,o,e5,e6⟩=>⟨b,o,e5,fun i hi=>?_⟩⟩
   obtain ⟨r0,r1,r2,r3⟩:=e6 i hi
   have hr:r0=rows i:=by
    rw [hrow i hi] at r1
    have:∀ (l:List Value) (y:List Value),D.rds (H j) (l.map D.v) y→y=l:=fun l=>by
     induction l with
     | nil=>intro y h;exact h
     | cons v t ih =>
      intro y h
      obtain ⟨a1,t1,h1,h2,h3⟩:=h
      rw [h1,ih t1 h3,show a1=v from h2]
    exact this _ _ r1
   subst hr
   exact ⟨_,D.rds_mono l2 _ (hf _ s2 i hi),r2,fun x hx=>iS l1 r2 hx (r3 x hx)⟩
  ·rw [if_neg hj] at e
   have hs:=pM hd j
   by_cases hj2:j=k2
   ·rw [if_pos hj2] at hs;rw [hs] at e;cases e
   ·rw [if_neg hj2] at hs;rw [hs] at e
    rw [kn j hj2 hj]
    exact m.mm.sat j d e
 ·by_cases b:j=k
  ·subst b;rw [k1];exact (m.mm.fit j).un (m.mm.fit k2)
  ·by_cases a:j=k2
   ·subst a;rw [k22];exact FitO.emp w
   ·rw [kn j a b];exact m.mm.fit j
 ·have key:∀ i j,i≠j→i=k→(H1 i).dj (H1 j):=fun i j hij a=>by
   subst a;rw [k1]
   by_cases b:j=k2
   ·subst b;rw [k22];exact PH.dj_emp _
   ·rw [kn j b (Ne.symm hij)]
    exact PH.un_dj (m.mm.dj i j hij) (m.mm.dj k2 j (Ne.symm b))
  by_cases a:i=k
  ·exact key i j hij a
  ·by_cases a2:j=k
   ·exact PH.dj_symm (key j i (Ne.symm hij) a2)
   ·by_cases b:i=k2
    ·subst b;rw [k22];exact PH.emp_dj _
    ·rw [kn i b a]
     by_cases b2:j=k2
     ·subst b2;rw [k22];exact PH.dj_emp _
     ·rw [kn j b2 a2];exact m.mm.dj i j hij
 ·by_cases b:j=k
  ·subst b;rw [k1];exact PH.un_dj (m.mm.djr j) (m.mm.djr k2)
  ·by_cases a:j=k2
   ·subst a;rw [k22];exact PH.emp_dj _
   ·rw [kn j a b];exact m.mm.djr j
 ·by_cases b':j=k
  ·subst b';rw [k1] at hb
   rcases PH.un_ne hb with h1 | h1
   ·exact m.dom j b o h1
   ·exact m.dom k2 b o h1
  ·by_cases a:j=k2
   ·subst a;rw [k22] at hb;exact absurd rfl hb
   ·rw [kn j a b'] at hb;exact m.dom j b o hb
end
end
section
theorem pK {P:Nat→Prop} (h0:P 0) (h1:P 1) (h2:P 2) (h3:P 3):∀ i,i<4→P i:=fun i hi=>by
 rcases (by omega:i=0∨i=1∨i=2∨i=3) with e | e | e | e <;>subst e <;>assumption
theorem IS {α:Type} {z:α} (l:List α) (a j:Nat):(l.drop a).getD j z=l.getD (a+j) z:=by simp [List.getD_eq_getElem?_getD,List.getElem?_drop]
theorem kX {n:Nat} {β:Nat→Int} (hn:n≤1048576) (hβ:g0 β) (i h:Int) (h1:0≤i) (h2:i≤n):Con Tryz.prog 163 [700,701] [.a (.p 700 0)] (tZ n β i h) (fun y:List GCell×Int×Int=>y.1.length≤6∧0≤y.2.1∧y.2.1≤n) (fun _=>[.a (.g 900)]) fun y=>[(700,dP y.2.1 y.2.2),(900,bE 2 cQ Y9 y.1)]:=by
 refine aD Tryz.func163 fun B0 r_ D_ w0=>?_
 refine aE ?_
 refine aP (nk:=[700,20]) (ZG 900 20 (LL hn hβ i h h1 h2)) fun y ⟨y1,y2,y3⟩=>?_
 obtain ⟨l,i1,i2⟩:=y
 dsimp only at y1 y2 y3 ⊢
 refine aM ?_
 refine aP (dX hn hβ i1 i2 y2 y3 12) fun a ⟨a1,a2,a3⟩=>?_
 refine aM ?_
 refine dC (ι:=List GCell×Int×Int) (fun _=>[(3, .a (.g 20))]) (fun y=>[(20,bE 2 cQ Y9 y.1),(700,dP y.2.1 y.2.2)]) (fun y=>y.1.length≤6∧0≤y.2.1∧y.2.1≤n) [20,700] [20] rfl rfl ?_ ?_
 ·refine aA (fun _=>?_) (fun _=>?_)
  rotate_left
  ·refine aE ?_
   exact aK (l,a.2.1,a.2.2) ⟨Nat.le_of_eq y1,a2,a3⟩ Nat.zero_lt_one
  refine aE ?_
  refine aP (bI hn hβ a.2.1 a.2.2 a2 a3 6) fun k ⟨k1,k2,k3⟩=>?_
  refine aM ?_
  have hk:0≤k.1∧k.1<l.length:=by omega
  refine aP (bI hn hβ k.2.1 k.2.2 k2 k3 3) fun g ⟨g1,g2,g3⟩=>?_
  refine aM ?_
  refine aA (fun _=>?_) (fun _=>?_)
  ·refine aE ?_
   refine aP (KC hn hβ g.2.1 g.2.2 g2 g3) fun d ⟨d1,d2,d3⟩=>?_
   refine aM ?_
   exact bF (l.set k.1.toNat ⟨d.1,(l.getD k.1.toNat Y9).value⟩,d.2.1,d.2.2) ⟨by simp [y1],d2,d3⟩ Nat.zero_lt_one wF ⟨⟨_,rfl,bS (OwnI.refl _)⟩,wM⟩
  refine aE ?_
  refine aA (fun _=>?_) (fun _=>?_)
  ·refine aE ?_
   refine aL 50 (fun i=>bL (([1000000000,1000000001, -1000000001,5]:List Int).getD i 0)) (pK rfl rfl rfl rfl) (mu1:=[]) ?_
   refine aM ?_
   refine aP (bI hn hβ g.2.1 g.2.2 g2 g3 4) fun z ⟨z1,z2,z3⟩=>?_
   refine aM ?_
   exact bF (l.set k.1.toNat ⟨(l.getD k.1.toNat Y9).head,([1000000000,1000000001, -1000000001,5]:List Int).getD z.1.toNat 0⟩,z.2.1,z.2.2) ⟨by simp [y1],z2,z3⟩ Nat.zero_lt_one wF ⟨⟨_,rfl,bS (OwnI.refl _)⟩,wM⟩
  refine aE ?_
  refine aA (fun _=>?_) (fun _=>?_)
  ·refine aE ?_
   refine bC (VQ 3 20 21 rfl rfl rfl ⟨by decide,by omega,Int.le_refl _⟩ rfl rfl rfl) ?_
   refine bC (bH 20 21) ?_
   exact bF (l.drop 1,g.2.1,g.2.2) ⟨by simp [y1],g2,g3⟩ Nat.zero_lt_one wF ⟨⟨_,rfl,Ch.imp_len (by rw [List.length_drop];omega) fun j hj=>by show cQ (l.getD (1+j) Y9)=_;rw [show (l.drop 1).getD j Y9=l.getD (1+j) Y9 from IS l 1 j]⟩,wM⟩
  ·refine aE ?_
   exact aK (l,g.2.1,g.2.2) ⟨Nat.le_of_eq y1,g2,g3⟩ Nat.zero_lt_one
 rintro ⟨l,i3,i4⟩ ⟨u1,u2,u3⟩
 dsimp only at u1 u2 u3 ⊢
 refine aT ?_
 refine a9 (bH 20 900) ?_
 refine aC ((l,i3,i4)) [(2,none)] ?_ ?_ ?_
 ·exact ZF _
 ·exact wM
 ·exact ⟨u1,u2,u3⟩
def EM (m:GMachine):Prop:=m.copies.length≤5∧(∀ x ∈ m.copies,x.cells.length≤6)∧m.log.length≤201∧(∀ x ∈ m.log,x.sets.length≤7)∧m.cleared.length≤61
theorem TS {m:GMachine} (h:EM m):eO m≤2000:=by
 obtain ⟨h1,h2,h3,h4,h5⟩:=h
 have g1:fC sP m.copies≤6 * m.copies.length:=k8 h2
 have g2:fC wX m.log≤7 * m.log.length:=k8 h4
 unfold eO wL
 omega
abbrev VY (m:GMachine) (k1 k2 k3:Nat):List V:=[.v (.bool m.alive), .g k1, .g k2, .g k3]
theorem gS {α:Type} {P:α→Prop} {l:List α} {x:α} (h:∀ y ∈ l,P y) (hx:P x):∀ y ∈ l ++ [x],P y:=fun y hy=>by
 rcases List.mem_append.1 hy with hy | hy
 ·exact h y hy
 ·rw [List.mem_singleton.1 hy];exact hx
theorem TC {n:Nat} {β:Nat→Int} (hn:n≤1048576) (hβ:g0 β) (i h:Int) (h1:0≤i) (h2:i≤n):Con Tryz.prog 112 [700,701] [.a (.p 700 0)] (tZ n β i h) (fun y:GMachine×Int×Int=>EM y.1∧0≤y.2.1∧y.2.1≤n) (fun y=>[.ag (VY y.1 901 902 903)]) fun y=>[(700,dP y.2.1 y.2.2),(901,bE 2 dY ZA y.1.copies),(902,bE 4 cM ZB y.1.log),(903,bE 1 bL 0 y.1.cleared)]:=by
 refine aD Tryz.func112 fun B0 r_ D_ w0=>?_
 refine aE ?_
 refine aP (dX hn hβ i h h1 h2 5) fun al ⟨al1,al2,al3⟩=>?_
 refine aM ?_
 refine a9 (aU 3 1 2 (fun i=>dY (([]:List GCopy).getD i ZA))) ?_
 refine a9 (aU 3 2 4 (fun i=>cM (([]:List GRecord).getD i ZB))) ?_
 refine a9 (aU 3 3 1 (fun i=>bL (([]:List Int).getD i 0))) ?_
 refine a9 (aV 3 1 31) ?_
 refine a9 (aV 3 2 32) ?_
 refine a9 (aV 3 3 33) ?_
 refine cW (ι:=List GCopy×Nat×Int×Int) (fun y=>[(4,vI y.2.1)]) (fun y=>[(3, .row [.v (.bool (!al.1)), .g 31, .g 32, .g 33]),(31,bE 2 dY ZA y.1),(700,dP y.2.2.1 y.2.2.2)]) (fun y=>(y.1.length≤y.2.1∧∀ x ∈ y.1,x.cells.length≤6)∧y.2.1≤4∧0≤y.2.2.1∧y.2.2.1≤n) (fun y=>4 - y.2.1) ([],0,al.2.1,al.2.2) [3,31,700] [31] rfl rfl ⟨⟨Nat.le_refl _,fun _ h=>(by cases h)⟩,Nat.zero_le _,al2,al3⟩ wF wM ?_
 rintro ⟨cs,m,i1,i2⟩ ⟨⟨q1,q2⟩,q3,q4,q5⟩
 dsimp only at q1 q2 q3 q4 q5 ⊢
 refine aE ?_
 refine aH (fun e=>?_) (fun e=>?_)
 ·have hm:m<4:=by omega
  refine aE ?_
  refine aP (dX hn hβ i1 i2 q4 q5 2) fun a ⟨a1,a2,a3⟩=>?_
  refine aM ?_
  refine aA (fun _=>?_) (fun _=>?_)
  rotate_left
  ·refine aE ?_
   exact aK (cs,m+1,a.2.1,a.2.2) ⟨⟨Nat.le_succ_of_le q1,q2⟩,hm,a2,a3⟩ (by dsimp only;omega)
  refine aE ?_
  refine aW [700,31] [0,1,2,3,4,5,6,7,8,9] fun B0 H0=>?_
  refine aX (nk:=[700,55]) 4 (ZG 900 55 (LL hn hβ a.2.1 a.2.2 a2 a3)) fun y ⟨y1,y2,y3⟩=>?_
  refine aY [5,6,7,8,9] ?_
  refine bB 6 rfl (by kernel_rfl) (dK TT_ok 50 (fun _=>dY ⟨(m:Nat),y.1⟩) rfl rfl rfl rfl rfl rfl rfl (fun j hj=>by rcases j with _ | j <;>first | rfl | omega) (mu1:=[(55, .arr 0 0 fun _=>[])]) rfl rfl rfl (bA ?_))
  refine bB 7 rfl (by kernel_rfl) (dE TT_ok 31 50 51 rfl rfl rfl rfl rfl rfl rfl rfl rfl rfl rfl rfl ⟨by show (cs.length+1) * 32≤_;omega,by unfold maxL;omega⟩ (bA ?_))
  refine aY [8,9] ?_
  refine d7 9 rfl (by kernel_rfl) (by kernel_rfl) (aR (eX [] fun B0 H0=>?_))
  refine aN ?_
  refine bC (bH 31 51) ?_
  exact bF (cs ++ [⟨(m:Nat),y.1⟩],m+1,y.2.1,y.2.2) ⟨⟨by simp;omega,gS q2 (Nat.le_of_eq y1)⟩,hm,y2,y3⟩ (by dsimp only;omega) wF ⟨⟨_,rfl,ZE _⟩,⟨_,rfl,aQ⟩,wM⟩
 have q6:cs.length≤4:=by omega
 refine aE ?_
 refine aP (bI hn hβ i1 i2 q4 q5 6) fun nn ⟨nn1,nn2,nn3⟩=>?_
 refine aM ?_
 refine cW (ι:=List GRecord×Int×Int×Int) (fun y=>[(5,vI y.2.1)]) (fun y=>[(3, .row [.v (.bool (!al.1)), .g 31, .g 32, .g 33]),(32,bE 4 cM ZB y.1),(700,dP y.2.2.1 y.2.2.2)]) (fun y=>((y.1.length:Int)+y.2.1≤5∧∀ x ∈ y.1,x.sets.length≤7)∧0≤y.2.1∧0≤y.2.2.1∧y.2.2.1≤n) (fun y=>y.2.1.toNat) ([],nn.1,nn.2.1,nn.2.2) [3,32,700] [32] rfl rfl ⟨⟨by simp only [List.length_nil];omega,fun _ h=>(by cases h)⟩,by dsimp only;omega,nn2,nn3⟩ wF wM ?_
 rintro ⟨lg,p,i3,i4⟩ ⟨⟨u1,u2⟩,u3,u4,u5⟩
 dsimp only at u1 u2 u3 u4 u5 ⊢
 refine aE ?_
 refine aH (fun e=>?_) (fun e=>?_)
 ·refine aE ?_
  refine aP (nk:=[700,56]) (ZG 901 56 (LD hn hβ i3 i4 u4 u5)) fun y ⟨y1,y2,y3⟩=>?_
  refine aM ?_
  refine aP (bI hn hβ y.2.1 y.2.2 y2 y3 4) fun a ⟨a1,a2,a3⟩=>?_
  refine aM ?_
  refine mI TT_ok (uS ⟨y.1.kind,1+a.1,y.1.region,y.1.sets⟩ (by show y.1.sets.length≤_;omega)) rfl rfl rfl rfl rfl ?_
  refine aA (fun _=>?_) (fun _=>?_)
  ·refine aE ?_
   refine cJ TT_ok 46 (fun _=>cM ⟨y.1.kind,1+a.1,y.1.region,y.1.sets⟩) rfl rfl rfl rfl rfl rfl rfl (fun j hj=>by rcases j with _ | j <;>first | rfl | omega) (mu1:=[(56, .arr 0 0 fun _=>[])]) rfl rfl rfl ?_
   refine aM ?_
   refine cL TT_ok 32 46 47 rfl rfl rfl rfl rfl rfl rfl rfl rfl rfl rfl rfl ⟨by show (lg.length+1) * 48≤_;omega,by unfold maxL;omega⟩ ?_
   refine aM ?_
   refine bC (bH 32 47) ?_
   exact bF (lg ++ [⟨y.1.kind,1+a.1,y.1.region,y.1.sets⟩],p - 1,a.2.1,a.2.2) ⟨⟨by simp;omega,gS u2 y1⟩,by dsimp only;omega,a2,a3⟩ (by dsimp only;omega) wF ⟨⟨_,rfl,ZE _⟩,⟨_,rfl,aQ⟩,wM⟩
  ·refine aE ?_
   exact aK (lg,p - 1,a.2.1,a.2.2) ⟨⟨by dsimp only;omega,u2⟩,by dsimp only;omega,a2,a3⟩ (by dsimp only;omega)
 have u6:lg.length≤5:=by omega
 refine aE ?_
 refine cW (ι:=List Int×Nat×Int×Int) (fun y=>[(7,vI y.2.1)]) (fun y=>[(3, .row [.v (.bool (!al.1)), .g 31, .g 32, .g 33]),(33,bE 1 bL 0 y.1),(700,dP y.2.2.1 y.2.2.2)]) (fun y=>y.1.length≤y.2.1∧(1≤y.2.1∧y.2.1≤6)∧0≤y.2.2.1∧y.2.2.1≤n) (fun y=>6 - y.2.1) ([],1,i3,i4) [3,33,700] [33] rfl rfl ⟨Nat.zero_le _,by dsimp only;omega,u4,u5⟩ wF wM ?_
 rintro ⟨cl,q,i5,i6⟩ ⟨v1,v2,v3,v4⟩
 dsimp only at v1 v2 v3 v4 ⊢
 refine aE ?_
 refine aH (fun e=>?_) (fun e=>?_)
 ·refine aE ?_
  refine aP (dX hn hβ i5 i6 v3 v4 3) fun a ⟨a1,a2,a3⟩=>?_
  refine aM ?_
  refine aA (fun _=>?_) (fun _=>?_)
  ·refine aE ?_
   refine cJ TT_ok 58 (fun _=>bL (q:Nat)) rfl rfl rfl rfl rfl rfl rfl (fun j hj=>by rcases j with _ | j <;>first | rfl | omega) (mu1:=[]) rfl rfl rfl ?_
   refine aM ?_
   refine cL TT_ok 33 58 59 rfl rfl rfl rfl rfl rfl rfl rfl rfl rfl rfl rfl ⟨by show (cl.length+1) * 8≤_;omega,by unfold maxL;omega⟩ ?_
   refine aM ?_
   refine bC (bH 33 59) ?_
   exact bF (cl ++ [(q:Int)],q+1,a.2.1,a.2.2) ⟨by simp;omega,by dsimp only;omega,a2,a3⟩ (by dsimp only;omega) wF ⟨⟨_,rfl,ZE _⟩,⟨_,rfl,aQ⟩,wM⟩
  ·refine aE ?_
   exact aK (cl,q+1,a.2.1,a.2.2) ⟨by dsimp only;omega,by dsimp only;omega,a2,a3⟩ (by dsimp only;omega)
 have v5:cl.length≤6:=by omega
 refine aE ?_
 refine aP (dX hn hβ i5 i6 v3 v4 12) fun a ⟨a1,a2,a3⟩=>?_
 refine aM ?_
 have hs:EM ⟨!al.1,cs,lg,cl⟩:=⟨Nat.le_succ_of_le q6,q2,Nat.le_trans u6 (by decide),u2,Nat.le_trans v5 (by decide)⟩
 refine dC (ι:=GMachine×Int×Int) (fun _=>[]) (fun y=>[(3, .row (VY y.1 31 32 33)),(31,bE 2 dY ZA y.1.copies),(32,bE 4 cM ZB y.1.log),(33,bE 1 bL 0 y.1.cleared),(700,dP y.2.1 y.2.2)]) (fun y=>EM y.1∧0≤y.2.1∧y.2.1≤n) [3,31,32,33,700] [31,32,33] rfl rfl ?_ ?_
 ·refine aA (fun _=>?_) (fun _=>?_)
  rotate_left
  ·refine aE ?_
   exact aK (⟨!al.1,cs,lg,cl⟩,a.2.1,a.2.2) ⟨hs,a2,a3⟩ Nat.zero_lt_one
  refine aE ?_
  refine aP (bI hn hβ a.2.1 a.2.2 a2 a3 5) fun g ⟨g1,g2,g3⟩=>?_
  refine aM ?_
  refine aA (fun _=>?_) (fun _=>?_)
  ·refine aE ?_
   refine dC (ι:=List GCopy×Int×Int) (fun _=>[]) (fun y=>[(3, .row [.v (.bool (!al.1)), .g 31, .g 32, .g 33]),(31,bE 2 dY ZA y.1),(700,dP y.2.1 y.2.2)]) (fun y=>(y.1.length≤5∧∀ x ∈ y.1,x.cells.length≤6)∧0≤y.2.1∧y.2.1≤n) [3,31,700] [31] rfl rfl ?_ ?_
   ·refine aW [700,31] [0,1,3,7,2,4,5,6,8,9,10,11,12,13] fun B0 H0=>?_
    refine cZ 2 4 rfl rfl (by kernel_rfl) (dK TT_ok 48 (fun i=>bL (([-1,0,5,6]:List Int).getD i 0)) rfl rfl rfl rfl rfl rfl rfl (pK rfl rfl rfl rfl) (mu1:=[]) rfl rfl rfl (bA ?_)) (iV (nk:=[700]) (bI hn hβ g.2.1 g.2.2 g2 g3 4) rfl rfl (ZF _) (fun _=>rfl) rfl rfl rfl (fun z ⟨z1,z2,z3⟩=>bA ?_))
    ·skip
     refine aX (nk:=[700]) 4 (bI hn hβ g.2.1 g.2.2 g2 g3 4) fun z ⟨z1,z2,z3⟩=>?_
     refine cZ 5 8 rfl rfl (by kernel_rfl) (a8 (bA ?_)) (iV (nk:=[700,55]) (ZG 900 55 (kX hn hβ z.2.1 z.2.2 z2 z3)) rfl rfl (ZF _) (fun _=>rfl) rfl rfl rfl (fun y ⟨y1,y2,y3⟩=>bA ?_))
     ·skip
      refine cZ 6 8 rfl rfl (by kernel_rfl) (a8 (bA ?_)) (iV (nk:=[700,55]) (ZG 900 55 (kX hn hβ z.2.1 z.2.2 z2 z3)) rfl rfl (ZF _) (fun _=>rfl) rfl rfl rfl (fun y ⟨y1,y2,y3⟩=>bA ?_))
      ·skip
       refine aX (nk:=[700,55]) 8 (ZG 900 55 (kX hn hβ z.2.1 z.2.2 z2 z3)) fun y ⟨y1,y2,y3⟩=>?_
       refine aY [9,10,11,12,13] ?_
       refine bB 10 rfl (by kernel_rfl) (dK TT_ok 50 (fun _=>dY ⟨([-1,0,5,6]:List Int).getD z.1.toNat 0,y.1⟩) rfl rfl rfl rfl rfl rfl rfl (fun j hj=>by rcases j with _ | j <;>first | rfl | omega) (mu1:=[(55, .arr 0 0 fun _=>[])]) rfl rfl rfl (bA ?_))
       refine bB 11 rfl (by kernel_rfl) (dE TT_ok 31 50 51 rfl rfl rfl rfl rfl rfl rfl rfl rfl rfl rfl rfl ⟨by show (cs.length+1) * 32≤_;omega,by unfold maxL;omega⟩ (bA ?_))
       refine aY [12,13] ?_
       refine d7 13 rfl (by kernel_rfl) (by kernel_rfl) (aR (eX [] fun B0 H0=>?_))
       refine aN ?_
       refine bC (bH 31 51) ?_
       exact bF (cs ++ [⟨([-1,0,5,6]:List Int).getD z.1.toNat 0,y.1⟩],y.2.1,y.2.2) ⟨⟨by simp;omega,gS q2 y1⟩,y2,y3⟩ Nat.zero_lt_one wF ⟨⟨_,rfl,ZE _⟩,⟨_,rfl,aQ⟩,wM⟩
      ·skip
       refine bB 6 rfl (by kernel_rfl) (a8 (bA ?_))
       refine aY [9,10,11,12,13] ?_
       refine bB 10 rfl (by kernel_rfl) (dK TT_ok 50 (fun _=>dY ⟨([-1,0,5,6]:List Int).getD z.1.toNat 0,y.1⟩) rfl rfl rfl rfl rfl rfl rfl (fun j hj=>by rcases j with _ | j <;>first | rfl | omega) (mu1:=[(55, .arr 0 0 fun _=>[])]) rfl rfl rfl (bA ?_))
       refine bB 11 rfl (by kernel_rfl) (dE TT_ok 31 50 51 rfl rfl rfl rfl rfl rfl rfl rfl rfl rfl rfl rfl ⟨by show (cs.length+1) * 32≤_;omega,by unfold maxL;omega⟩ (bA ?_))
       refine aY [12,13] ?_
       refine d7 13 rfl (by kernel_rfl) (by kernel_rfl) (aR (eX [] fun B0 H0=>?_))
       refine aN ?_
       refine bC (bH 31 51) ?_
       exact bF (cs ++ [⟨([-1,0,5,6]:List Int).getD z.1.toNat 0,y.1⟩],y.2.1,y.2.2) ⟨⟨by simp;omega,gS q2 y1⟩,y2,y3⟩ Nat.zero_lt_one wF ⟨⟨_,rfl,ZE _⟩,⟨_,rfl,aQ⟩,wM⟩
     ·skip
      refine bB 5 rfl (by kernel_rfl) (a8 (bA ?_))
      refine bB 6 rfl (by kernel_rfl) (a8 (bA ?_))
      refine aY [9,10,11,12,13] ?_
      refine bB 10 rfl (by kernel_rfl) (dK TT_ok 50 (fun _=>dY ⟨([-1,0,5,6]:List Int).getD z.1.toNat 0,y.1⟩) rfl rfl rfl rfl rfl rfl rfl (fun j hj=>by rcases j with _ | j <;>first | rfl | omega) (mu1:=[(55, .arr 0 0 fun _=>[])]) rfl rfl rfl (bA ?_))
      refine bB 11 rfl (by kernel_rfl) (dE TT_ok 31 50 51 rfl rfl rfl rfl rfl rfl rfl rfl rfl rfl rfl rfl ⟨by show (cs.length+1) * 32≤_;omega,by unfold maxL;omega⟩ (bA ?_))
      refine aY [12,13] ?_
      refine d7 13 rfl (by kernel_rfl) (by kernel_rfl) (aR (eX [] fun B0 H0=>?_))
      refine aN ?_
      refine bC (bH 31 51) ?_
      exact bF (cs ++ [⟨([-1,0,5,6]:List Int).getD z.1.toNat 0,y.1⟩],y.2.1,y.2.2) ⟨⟨by simp;omega,gS q2 y1⟩,y2,y3⟩ Nat.zero_lt_one wF ⟨⟨_,rfl,ZE _⟩,⟨_,rfl,aQ⟩,wM⟩
    ·skip
     refine cZ 2 8 rfl rfl (by kernel_rfl) (dK TT_ok 48 (fun i=>bL (([-1,0,5,6]:List Int).getD i 0)) rfl rfl rfl rfl rfl rfl rfl (pK rfl rfl rfl rfl) (mu1:=[]) rfl rfl rfl (bA ?_)) (iV (nk:=[700,55]) (ZG 900 55 (kX hn hβ z.2.1 z.2.2 z2 z3)) rfl rfl (ZF _) (fun _=>rfl) rfl rfl rfl (fun y ⟨y1,y2,y3⟩=>bA ?_))
     ·skip
      refine cZ 5 8 rfl rfl (by kernel_rfl) (a8 (bA ?_)) (iV (nk:=[700,55]) (ZG 900 55 (kX hn hβ z.2.1 z.2.2 z2 z3)) rfl rfl (ZF _) (fun _=>rfl) rfl rfl rfl (fun y ⟨y1,y2,y3⟩=>bA ?_))
      ·skip
       refine cZ 6 8 rfl rfl (by kernel_rfl) (a8 (bA ?_)) (iV (nk:=[700,55]) (ZG 900 55 (kX hn hβ z.2.1 z.2.2 z2 z3)) rfl rfl (ZF _) (fun _=>rfl) rfl rfl rfl (fun y ⟨y1,y2,y3⟩=>bA ?_))
       ·skip
        refine aX (nk:=[700,55]) 8 (ZG 900 55 (kX hn hβ z.2.1 z.2.2 z2 z3)) fun y ⟨y1,y2,y3⟩=>?_
        refine aY [9,10,11,12,13] ?_
        refine bB 10 rfl (by kernel_rfl) (dK TT_ok 50 (fun _=>dY ⟨([-1,0,5,6]:List Int).getD z.1.toNat 0,y.1⟩) rfl rfl rfl rfl rfl rfl rfl (fun j hj=>by rcases j with _ | j <;>first | rfl | omega) (mu1:=[(55, .arr 0 0 fun _=>[])]) rfl rfl rfl (bA ?_))
        refine bB 11 rfl (by kernel_rfl) (dE TT_ok 31 50 51 rfl rfl rfl rfl rfl rfl rfl rfl rfl rfl rfl rfl ⟨by show (cs.length+1) * 32≤_;omega,by unfold maxL;omega⟩ (bA ?_))
        refine aY [12,13] ?_
        refine d7 13 rfl (by kernel_rfl) (by kernel_rfl) (aR (eX [] fun B0 H0=>?_))
        refine aN ?_
        refine bC (bH 31 51) ?_
        exact bF (cs ++ [⟨([-1,0,5,6]:List Int).getD z.1.toNat 0,y.1⟩],y.2.1,y.2.2) ⟨⟨by simp;omega,gS q2 y1⟩,y2,y3⟩ Nat.zero_lt_one wF ⟨⟨_,rfl,ZE _⟩,⟨_,rfl,aQ⟩,wM⟩
       ·skip
        refine bB 6 rfl (by kernel_rfl) (a8 (bA ?_))
        refine aY [9,10,11,12,13] ?_
        refine bB 10 rfl (by kernel_rfl) (dK TT_ok 50 (fun _=>dY ⟨([-1,0,5,6]:List Int).getD z.1.toNat 0,y.1⟩) rfl rfl rfl rfl rfl rfl rfl (fun j hj=>by rcases j with _ | j <;>first | rfl | omega) (mu1:=[(55, .arr 0 0 fun _=>[])]) rfl rfl rfl (bA ?_))
        refine bB 11 rfl (by kernel_rfl) (dE TT_ok 31 50 51 rfl rfl rfl rfl rfl rfl rfl rfl rfl rfl rfl rfl ⟨by show (cs.length+1) * 32≤_;omega,by unfold maxL;omega⟩ (bA ?_))
        refine aY [12,13] ?_
        refine d7 13 rfl (by kernel_rfl) (by kernel_rfl) (aR (eX [] fun B0 H0=>?_))
        refine aN ?_
        refine bC (bH 31 51) ?_
        exact bF (cs ++ [⟨([-1,0,5,6]:List Int).getD z.1.toNat 0,y.1⟩],y.2.1,y.2.2) ⟨⟨by simp;omega,gS q2 y1⟩,y2,y3⟩ Nat.zero_lt_one wF ⟨⟨_,rfl,ZE _⟩,⟨_,rfl,aQ⟩,wM⟩
      ·skip
       refine bB 5 rfl (by kernel_rfl) (a8 (bA ?_))
       refine bB 6 rfl (by kernel_rfl) (a8 (bA ?_))
       refine aY [9,10,11,12,13] ?_
       refine bB 10 rfl (by kernel_rfl) (dK TT_ok 50 (fun _=>dY ⟨([-1,0,5,6]:List Int).getD z.1.toNat 0,y.1⟩) rfl rfl rfl rfl rfl rfl rfl (fun j hj=>by rcases j with _ | j <;>first | rfl | omega) (mu1:=[(55, .arr 0 0 fun _=>[])]) rfl rfl rfl (bA ?_))
       refine bB 11 rfl (by kernel_rfl) (dE TT_ok 31 50 51 rfl rfl rfl rfl rfl rfl rfl rfl rfl rfl rfl rfl ⟨by show (cs.length+1) * 32≤_;omega,by unfold maxL;omega⟩ (bA ?_))
       refine aY [12,13] ?_
       refine d7 13 rfl (by kernel_rfl) (by kernel_rfl) (aR (eX [] fun B0 H0=>?_))
       refine aN ?_
       refine bC (bH 31 51) ?_
       exact bF (cs ++ [⟨([-1,0,5,6]:List Int).getD z.1.toNat 0,y.1⟩],y.2.1,y.2.2) ⟨⟨by simp;omega,gS q2 y1⟩,y2,y3⟩ Nat.zero_lt_one wF ⟨⟨_,rfl,ZE _⟩,⟨_,rfl,aQ⟩,wM⟩
     ·skip
      refine bB 2 rfl (by kernel_rfl) (dK TT_ok 48 (fun i=>bL (([-1,0,5,6]:List Int).getD i 0)) rfl rfl rfl rfl rfl rfl rfl (pK rfl rfl rfl rfl) (mu1:=[]) rfl rfl rfl (bA ?_))
      refine bB 5 rfl (by kernel_rfl) (a8 (bA ?_))
      refine bB 6 rfl (by kernel_rfl) (a8 (bA ?_))
      refine aY [9,10,11,12,13] ?_
      refine bB 10 rfl (by kernel_rfl) (dK TT_ok 50 (fun _=>dY ⟨([-1,0,5,6]:List Int).getD z.1.toNat 0,y.1⟩) rfl rfl rfl rfl rfl rfl rfl (fun j hj=>by rcases j with _ | j <;>first | rfl | omega) (mu1:=[(55, .arr 0 0 fun _=>[])]) rfl rfl rfl (bA ?_))
      refine bB 11 rfl (by kernel_rfl) (dE TT_ok 31 50 51 rfl rfl rfl rfl rfl rfl rfl rfl rfl rfl rfl rfl ⟨by show (cs.length+1) * 32≤_;omega,by unfold maxL;omega⟩ (bA ?_))
      refine aY [12,13] ?_
      refine d7 13 rfl (by kernel_rfl) (by kernel_rfl) (aR (eX [] fun B0 H0=>?_))
      refine aN ?_
      refine bC (bH 31 51) ?_
      exact bF (cs ++ [⟨([-1,0,5,6]:List Int).getD z.1.toNat 0,y.1⟩],y.2.1,y.2.2) ⟨⟨by simp;omega,gS q2 y1⟩,y2,y3⟩ Nat.zero_lt_one wF ⟨⟨_,rfl,ZE _⟩,⟨_,rfl,aQ⟩,wM⟩
   rintro ⟨cs2,i7,i8⟩ ⟨⟨w1,w2⟩,w3,w4⟩
   dsimp only at w1 w2 w3 w4 ⊢
   refine aT ?_
   exact aK (⟨!al.1,cs2,lg,cl⟩,i7,i8) ⟨⟨w1,w2,hs.2.2⟩,w3,w4⟩ Nat.zero_lt_one
  refine aE ?_
  refine aA (fun _=>?_) (fun _=>?_)
  ·refine aE ?_
   refine aW [700,32] [0,1,2,3,4,5,6,7] fun B0 H0=>?_
   refine aX (nk:=[700,56]) 3 (ZG 901 56 (LD hn hβ g.2.1 g.2.2 g2 g3)) fun y ⟨y1,y2,y3⟩=>?_
   refine bB 4 rfl (by kernel_rfl) (dK TT_ok 50 (fun _=>cM y.1) rfl rfl rfl rfl rfl rfl rfl (fun j hj=>by rcases j with _ | j <;>first | rfl | omega) (mu1:=[(56, .arr 0 0 fun _=>[])]) rfl rfl rfl (bA ?_))
   refine bB 5 rfl (by kernel_rfl) (dE TT_ok 32 50 51 rfl rfl rfl rfl rfl rfl rfl rfl rfl rfl rfl rfl ⟨by show (lg.length+1) * 48≤_;omega,by unfold maxL;omega⟩ (bA ?_))
   refine aY [6,7] ?_
   refine d7 7 rfl (by kernel_rfl) (by kernel_rfl) (aR (eX [] fun B0 H0=>?_))
   refine aN ?_
   refine bC (bH 32 51) ?_
   exact bF (⟨!al.1,cs,lg ++ [y.1],cl⟩,y.2.1,y.2.2) ⟨⟨hs.1,q2,by show (lg ++ [y.1]).length≤201;simp;omega,gS u2 y1,hs.2.2.2.2⟩,y2,y3⟩ Nat.zero_lt_one wF ⟨⟨_,rfl,ZE _⟩,⟨_,rfl,ZE _⟩,⟨_,rfl,aQ⟩,wM⟩
  refine aE ?_
  refine aA (fun _=>?_) (fun _=>?_)
  ·refine aE ?_
   refine dC (ι:=List Int×Int×Int) (fun _=>[]) (fun y=>[(3, .row [.v (.bool (!al.1)), .g 31, .g 32, .g 33]),(33,bE 1 bL 0 y.1),(700,dP y.2.1 y.2.2)]) (fun y=>y.1.length≤61∧0≤y.2.1∧y.2.1≤n) [3,33,700] [33] rfl rfl ?_ ?_
   ·refine aW [700,33] [0,1,3,2,4,5,6,7,8,9,10] fun B0 H0=>?_
    refine cZ 2 4 rfl rfl (by kernel_rfl) (dK TT_ok 48 (fun i=>bL (([0,3,1000000,1000001]:List Int).getD i 0)) rfl rfl rfl rfl rfl rfl rfl (pK rfl rfl rfl rfl) (mu1:=[]) rfl rfl rfl (bA ?_)) (iV (nk:=[700]) (bI hn hβ g.2.1 g.2.2 g2 g3 4) rfl rfl (ZF _) (fun _=>rfl) rfl rfl rfl (fun z ⟨z1,z2,z3⟩=>bA ?_))
    ·skip
     refine aX (nk:=[700]) 4 (bI hn hβ g.2.1 g.2.2 g2 g3 4) fun z ⟨z1,z2,z3⟩=>?_
     refine bB 5 rfl (by kernel_rfl) (a8 (bA ?_))
     refine bB 6 rfl (by kernel_rfl) (a8 (bA ?_))
     refine bB 7 rfl (by kernel_rfl) (dK TT_ok 50 (fun _=>bL (([0,3,1000000,1000001]:List Int).getD z.1.toNat 0)) rfl rfl rfl rfl rfl rfl rfl (fun j hj=>by rcases j with _ | j <;>first | rfl | omega) (mu1:=[]) rfl rfl rfl (bA ?_))
     refine bB 8 rfl (by kernel_rfl) (dE TT_ok 33 50 51 rfl rfl rfl rfl rfl rfl rfl rfl rfl rfl rfl rfl ⟨by show (cl.length+1) * 8≤_;omega,by unfold maxL;omega⟩ (bA ?_))
     refine aY [9,10] ?_
     refine d7 10 rfl (by kernel_rfl) (by kernel_rfl) (aR (eX [] fun B0 H0=>?_))
     refine aN ?_
     refine bC (bH 33 51) ?_
     exact bF (cl ++ [([0,3,1000000,1000001]:List Int).getD z.1.toNat 0],z.2.1,z.2.2) ⟨by simp;omega,z2,z3⟩ Nat.zero_lt_one wF ⟨⟨_,rfl,ZE _⟩,⟨_,rfl,aQ⟩,wM⟩
    ·skip
     refine bB 2 rfl (by kernel_rfl) (dK TT_ok 48 (fun i=>bL (([0,3,1000000,1000001]:List Int).getD i 0)) rfl rfl rfl rfl rfl rfl rfl (pK rfl rfl rfl rfl) (mu1:=[]) rfl rfl rfl (bA ?_))
     refine bB 5 rfl (by kernel_rfl) (a8 (bA ?_))
     refine bB 6 rfl (by kernel_rfl) (a8 (bA ?_))
     refine bB 7 rfl (by kernel_rfl) (dK TT_ok 50 (fun _=>bL (([0,3,1000000,1000001]:List Int).getD z.1.toNat 0)) rfl rfl rfl rfl rfl rfl rfl (fun j hj=>by rcases j with _ | j <;>first | rfl | omega) (mu1:=[]) rfl rfl rfl (bA ?_))
     refine bB 8 rfl (by kernel_rfl) (dE TT_ok 33 50 51 rfl rfl rfl rfl rfl rfl rfl rfl rfl rfl rfl rfl ⟨by show (cl.length+1) * 8≤_;omega,by unfold maxL;omega⟩ (bA ?_))
     refine aY [9,10] ?_
     refine d7 10 rfl (by kernel_rfl) (by kernel_rfl) (aR (eX [] fun B0 H0=>?_))
     refine aN ?_
     refine bC (bH 33 51) ?_
     exact bF (cl ++ [([0,3,1000000,1000001]:List Int).getD z.1.toNat 0],z.2.1,z.2.2) ⟨by simp;omega,z2,z3⟩ Nat.zero_lt_one wF ⟨⟨_,rfl,ZE _⟩,⟨_,rfl,aQ⟩,wM⟩
   rintro ⟨cl2,i7,i8⟩ ⟨w1,w3,w4⟩
   dsimp only at w1 w3 w4 ⊢
   refine aT ?_
   exact aK (⟨!al.1,cs,lg,cl2⟩,i7,i8) ⟨⟨hs.1,q2,hs.2.2.1,u2,w1⟩,w3,w4⟩ Nat.zero_lt_one
  refine aE ?_
  refine aA (fun _=>?_) (fun _=>?_)
  ·refine aE ?_
   refine aL 60 (fun i=>bL (([]:List Int).getD i 0)) (fun i hi=>absurd hi (Nat.not_lt_zero _)) (mu1:=[]) ?_
   refine aM ?_
   refine aJ (ι:=List Int×Nat×Int×Int) (fun y=>[(8,vI y.2.1)]) (fun y=>[(3, .row [.v (.bool (!al.1)), .g 31, .g 32, .g 60]),(60,bE 1 bL 0 y.1),(700,dP y.2.2.1 y.2.2.2)]) (fun y=>(y.1.length=y.2.1∧y.2.1≤61)∧0≤y.2.2.1∧y.2.2.1≤n) (fun y=>61 - y.2.1) ([],0,g.2.1,g.2.2) [3,60,700] [60] ⟨⟨rfl,Nat.zero_le _⟩,g2,g3⟩ ?_
   rintro ⟨c2,k,i7,i8⟩ ⟨⟨w1,w2⟩,w3,w4⟩
   dsimp only at w1 w2 w3 w4 ⊢
   refine aE ?_
   refine aP (bI hn hβ i7 i8 w3 w4 2) fun z ⟨z1,z2,z3⟩=>?_
   refine aM ?_
   refine aH (fun e=>?_) (fun e=>?_)
   ·have hk:k<61:=by omega
    refine aE ?_
    refine cJ TT_ok 116 (fun _=>bL ((k:Int)+10)) rfl rfl rfl rfl rfl rfl rfl (fun j hj=>by rcases j with _ | j <;>first | rfl | omega) (mu1:=[]) rfl rfl rfl ?_
    refine aM ?_
    refine cL TT_ok 60 116 117 rfl rfl rfl rfl rfl rfl rfl rfl rfl rfl rfl rfl ⟨by show (c2.length+1) * 8≤_;omega,by unfold maxL;omega⟩ ?_
    refine aM ?_
    refine bC (bH 60 117) ?_
    exact bF (c2 ++ [(k:Int)+10],k+1,z.2.1,z.2.2) ⟨⟨by simp [w1],hk⟩,z2,z3⟩ (by dsimp only;omega) wF ⟨⟨_,rfl,ZE _⟩,⟨_,rfl,aQ⟩,wM⟩
   ·refine aE ?_
    refine bC (bH 60 33) ?_
    exact aK (⟨!al.1,cs,lg,c2⟩,z.2.1,z.2.2) ⟨⟨hs.1,q2,hs.2.2.1,u2,by show c2.length≤61;omega⟩,z2,z3⟩ Nat.zero_lt_one
  refine aE ?_
  refine aA (fun _=>?_) (fun _=>?_)
  ·refine aE ?_
   refine aL 60 (fun i=>cM (([]:List GRecord).getD i ZB)) (fun i hi=>absurd hi (Nat.not_lt_zero _)) (mu1:=[]) ?_
   refine aM ?_
   refine cW (ι:=List GRecord×Nat×Int×Int) (fun y=>[(9,vI y.2.1)]) (fun y=>[(3, .row [.v (.bool (!al.1)), .g 31, .g 60, .g 33]),(60,bE 4 cM ZB y.1),(700,dP y.2.2.1 y.2.2.2)]) (fun y=>(y.1.length=y.2.1∧(∀ x ∈ y.1,x.sets.length≤7)∧y.2.1≤201)∧0≤y.2.2.1∧y.2.2.1≤n) (fun y=>201 - y.2.1) ([],0,g.2.1,g.2.2) [3,60,700] [60] rfl rfl ⟨⟨rfl,(fun _ h=>by cases h),Nat.zero_le _⟩,g2,g3⟩ wF wM ?_
   rintro ⟨c2,k,i7,i8⟩ ⟨⟨w1,w5,w2⟩,w3,w4⟩
   dsimp only at w1 w2 w3 w4 w5 ⊢
   refine aE ?_
   refine aP (bI hn hβ i7 i8 w3 w4 2) fun z ⟨z1,z2,z3⟩=>?_
   refine aM ?_
   refine aH (fun e=>?_) (fun e=>?_)
   ·have hk:k<201:=by omega
    refine aE ?_
    refine cJ TT_ok 133 (fun _=>cH ⟨1,0,0,false,0⟩) rfl rfl rfl rfl rfl rfl rfl (fun j hj=>by rcases j with _ | j <;>first | rfl | omega) (mu1:=[]) rfl rfl rfl ?_
    refine aM ?_
    refine cK (fI 133 (c':=bE 5 cH Y7 [⟨1,0,0,false,0⟩]) rfl (Ch.imp_arr fun j hj=>by rcases j with _ | j <;>first | rfl | omega) rfl) ?_
    refine cJ TT_ok 135 (fun _=>cM ⟨1,3,1,[⟨1,0,0,false,0⟩]⟩) rfl rfl rfl rfl rfl rfl rfl (fun j hj=>by rcases j with _ | j <;>first | rfl | omega) (mu1:=[(133, .arr 0 0 fun _=>[])]) rfl rfl rfl ?_
    refine aM ?_
    refine cL TT_ok 60 135 136 rfl rfl rfl rfl rfl rfl rfl rfl rfl rfl rfl rfl ⟨by show (c2.length+1) * 48≤_;omega,by unfold maxL;omega⟩ ?_
    refine aM ?_
    refine bC (bH 60 136) ?_
    exact bF (c2 ++ [⟨1,3,1,[⟨1,0,0,false,0⟩]⟩],k+1,z.2.1,z.2.2) ⟨⟨by simp [w1],gS w5 (by decide),hk⟩,z2,z3⟩ (by dsimp only;omega) wF ⟨⟨_,rfl,ZE _⟩,⟨_,rfl,aQ⟩,wM⟩
   ·refine aE ?_
    refine bC (bH 60 32) ?_
    exact aK (⟨!al.1,cs,c2,cl⟩,z.2.1,z.2.2) ⟨⟨hs.1,q2,by show c2.length≤201;omega,w5,hs.2.2.2.2⟩,z2,z3⟩ Nat.zero_lt_one
  refine aE ?_
  exact aK (⟨!al.1,cs,lg,cl⟩,g.2.1,g.2.2) ⟨hs,g2,g3⟩ Nat.zero_lt_one
 rintro ⟨mm,i7,i8⟩ ⟨w1,w2,w3⟩
 dsimp only at w2 w3 ⊢
 refine aT ?_
 refine a9 (bH 31 901) ?_
 refine a9 (bH 32 902) ?_
 refine a9 (bH 33 903) ?_
 refine aC ((mm,i7,i8)) [(2,some 85)] ?_ ?_ ?_
 ·exact ZF _
 ·exact wM
 ·exact ⟨w1,w2,w3⟩
end
section
def wE (ps:List GPlace) (m:Nat):List GPlace:=ps ++ List.replicate (m - ps.length) (ps.getD 0 Y3)
def lR (n i:Nat):Nat:=if i<n then i else 0
theorem UW {ps:List GPlace} {m:Nat} (h:ps.length≤m):(wE ps m).length=m:=by unfold wE;simp;omega
theorem U2 {ps:List GPlace} {m i:Nat} (hi:i<m):(wE ps m).getD i Y3=ps.getD (lR ps.length i) Y3:=by
 unfold wE lR
 by_cases c:i<ps.length
 ·rw [if_pos c];simp [List.getD_eq_getElem?_getD,List.getElem?_append_left c]
 ·rw [if_neg c]
  simp only [List.getD_eq_getElem?_getD]
  rw [List.getElem?_append_right (by omega),List.getElem?_replicate,if_pos (by omega)]
  rfl
theorem W9 {n i:Nat} (hn:0<n):lR n i<n:=by unfold lR;split <;>omega
theorem RA {h:PH} {p:GPlace} {row:List Value} (e:D.rds h (cN p) row):∃ A c,row=[.slice A p.machines.length c]:=by
 obtain ⟨y,t,rfl,⟨A,c,rfl,_⟩,e2⟩:=e
 have e2:t=[]:=e2
 subst e2;exact ⟨A,c,rfl⟩
abbrev T0 (ps:List GPlace):Ch := .rd 1 ps.length fun i=>cN (ps.getD i Y3)
theorem SS {n:Nat} {β:Nat→Int} (hn:n≤1048576) (hβ:g0 β) (i h:Int) (h1:0≤i) (h2:i≤n):Con Tryz.prog 111 [700,701] [.a (.p 700 0)] (tZ n β i h) (fun y:List GPlace×Int×Int=>(y.1.length≤7∧∀ p ∈ y.1,p.machines.length≤4)∧0≤y.2.1∧y.2.1≤n) (fun _=>[.a (.g 900)]) fun y=>[(700,dP y.2.1 y.2.2),(900,T0 y.1)]:=by
 refine aD Tryz.func111 fun B0 r_ D_ w0=>?_
 refine aE ?_
 refine aL 20 (fun i=>cN (([]:List GPlace).getD i Y3)) (fun i hi=>absurd hi (Nat.not_lt_zero _)) (mu1:=[]) ?_
 refine aM ?_
 refine aP (bI hn hβ i h h1 h2 4) fun nn ⟨nn1,nn2,nn3⟩=>?_
 refine aM ?_
 refine cW (ι:=List GPlace×Int×Int×Int) (fun y=>[(3, .a (.g 20)),(4,vI y.2.1)]) (fun y=>[(20,bE 1 cN Y3 y.1),(700,dP y.2.2.1 y.2.2.2)]) (fun y=>(((y.1.length:Int)+y.2.1≤4∧(1≤(y.1.length:Int)+y.2.1)∧∀ p ∈ y.1,1≤p.machines.length∧p.machines.length≤3))∧0≤y.2.1∧0≤y.2.2.1∧y.2.2.1≤n) (fun y=>y.2.1.toNat) ([],1+nn.1,nn.2.1,nn.2.2) [20,700] [20] rfl rfl ⟨⟨by simp only [List.length_nil];omega,by simp only [List.length_nil];omega,fun _ h=>(by cases h)⟩,by dsimp only;omega,nn2,nn3⟩ wF wM ?_
 rintro ⟨ps,m,i1,i2⟩ ⟨⟨q1,q6,q2⟩,q3,q4,q5⟩
 dsimp only at q1 q2 q3 q4 q5 q6 ⊢
 refine aE ?_
 refine aH (fun e=>?_) (fun e=>?_)
 ·refine aE ?_
  refine aP (bI hn hβ i1 i2 q4 q5 3) fun k0 ⟨k01,k02,k03⟩=>?_
  refine aM ?_
  refine a9 (aU 5 0 1 (fun i=>bL (([]:List Int).getD i 0))) ?_
  refine a9 (aV 5 0 50) ?_
  refine cW (ι:=List Int×Int×Int×Int) (fun y=>[(6,vI y.2.1)]) (fun y=>[(5, .row [.g 50]),(50,bE 1 bL 0 y.1),(700,dP y.2.2.1 y.2.2.2)]) (fun y=>((y.1.length:Int)+y.2.1≤3∧1≤(y.1.length:Int)+y.2.1)∧0≤y.2.1∧0≤y.2.2.1∧y.2.2.1≤n) (fun y=>y.2.1.toNat) ([],1+k0.1,k0.2.1,k0.2.2) [5,50,700] [50] rfl rfl ⟨⟨by simp only [List.length_nil];omega,by simp only [List.length_nil];omega⟩,by dsimp only;omega,k02,k03⟩ wF wM ?_
  rintro ⟨ms,k,i3,i4⟩ ⟨⟨u1,u2⟩,u3,u4,u5⟩
  dsimp only at u1 u2 u3 u4 u5 ⊢
  refine aE ?_
  refine aH (fun e2=>?_) (fun e2=>?_)
  ·refine aE ?_
   refine aP (bI hn hβ i3 i4 u4 u5 6) fun x ⟨x1,x2,x3⟩=>?_
   refine aM ?_
   refine mI TT_ok (kJ ms (by omega) x.1) rfl rfl rfl rfl rfl ?_
   refine aA (fun e3=>?_) (fun e3=>?_)
   ·refine aE ?_
    refine cJ TT_ok 35 (fun _=>bL x.1) rfl rfl rfl rfl rfl rfl rfl (fun j hj=>by rcases j with _ | j <;>first | rfl | omega) (mu1:=[]) rfl rfl rfl ?_
    refine aM ?_
    refine cL TT_ok 50 35 36 rfl rfl rfl rfl rfl rfl rfl rfl rfl rfl rfl rfl ⟨by show (ms.length+1) * 8≤_;omega,by unfold maxL;omega⟩ ?_
    refine aM ?_
    refine bC (bH 50 36) ?_
    exact bF (ms ++ [x.1],k - 1,x.2.1,x.2.2) ⟨⟨by simp;omega,by simp;omega⟩,by dsimp only;omega,x2,x3⟩ (by dsimp only;omega) wF ⟨⟨_,rfl,ZE _⟩,⟨_,rfl,aQ⟩,wM⟩
   ·have hne:ms≠[]:=fun e0=>by subst e0;simp at e3
    have hpos:=List.length_pos_iff.2 hne
    refine aE ?_
    exact aK (ms,k - 1,x.2.1,x.2.2) ⟨⟨by dsimp only;omega,by dsimp only;omega⟩,by dsimp only;omega,x2,x3⟩ (by dsimp only;omega)
  ·have hps:ps.length≤4:=by omega
   refine aE ?_
   refine cJ TT_ok 40 (fun _=>cN ⟨ms⟩) rfl rfl rfl rfl rfl rfl rfl (fun j hj=>by rcases j with _ | j <;>first | rfl | omega) (mu1:=[(50, .arr 0 0 fun _=>[])]) rfl rfl rfl ?_
   refine aM ?_
   refine cL TT_ok 20 40 41 rfl rfl rfl rfl rfl rfl rfl rfl rfl rfl rfl rfl ⟨by show (ps.length+1) * 24≤_;omega,by unfold maxL;omega⟩ ?_
   refine aM ?_
   refine bC (bH 20 41) ?_
   exact bF (ps ++ [⟨ms⟩],m - 1,i3,i4) ⟨⟨by simp;omega,by simp;omega,gS q2 ⟨by show 1≤ms.length;omega,by show ms.length≤3;omega⟩⟩,by dsimp only;omega,u4,u5⟩ (by dsimp only;omega) wF ⟨⟨_,rfl,aQ⟩,wM⟩
 have hp1:1≤ps.length∧ps.length≤4:=by omega
 have hfin:ps.length≤7∧∀ p ∈ ps,p.machines.length≤4:=⟨by omega,fun p hp=>Nat.le_succ_of_le (q2 p hp).2⟩
 refine aE ?_
 refine aP (dX hn hβ i1 i2 q4 q5 10) fun a ⟨a1,a2,a3⟩=>?_
 refine aM ?_
 refine aA (fun _=>?_) (fun _=>?_)
 rotate_left
 ·refine aE ?_
  refine a9 (bH 20 900) ?_
  refine aC ((ps,a.2.1,a.2.2)) [(2,none)] ?_ ?_ ?_
  ·exact ZF _
  ·exact ⟨⟨_,rfl,ZE _⟩,⟨_,rfl,rM⟩,trivial⟩
  ·exact ⟨hfin,a2,a3⟩
 refine aE ?_
 refine aP (bI hn hβ a.2.1 a.2.2 a2 a3 ps.length) fun p ⟨p1,p2,p3⟩=>?_
 refine aM ?_
 have hp:0≤p.1∧p.1<ps.length:=by omega
 refine aP (bI hn hβ p.2.1 p.2.2 p2 p3 3) fun g ⟨g1,g2,g3⟩=>?_
 refine aM ?_
 refine aA (fun _=>?_) (fun _=>?_)
 ·refine aE ?_
  have hm:1≤(ps.getD p.1.toNat Y3).machines.length∧(ps.getD p.1.toNat Y3).machines.length≤3:=q2 _ (bY (by omega))
  refine a9 (d6 20 p.1 77 rfl rfl rfl rfl rfl rfl hp) ?_
  refine a9 (aV 77 0 78) ?_
  refine a9 (j6 8 rfl rfl rfl) ?_
  refine aW [700,78] [0,1,2,3,4,5,6,7,8,12,9,10,11,13,14,15,16,17,18,19,20] fun B0 H0=>?_
  refine cZ 9 13 rfl rfl (by kernel_rfl) (a8 (bA ?_)) (iV (nk:=[700]) (bI hn hβ g.2.1 g.2.2 g2 g3 4) rfl rfl (ZF _) (fun _=>rfl) rfl rfl rfl (fun z ⟨z1,z2,z3⟩=>bA ?_))
  ·skip
   refine cZ 10 13 rfl rfl (by kernel_rfl) (a8 (bA ?_)) (iV (nk:=[700]) (bI hn hβ g.2.1 g.2.2 g2 g3 4) rfl rfl (ZF _) (fun _=>rfl) rfl rfl rfl (fun z ⟨z1,z2,z3⟩=>bA ?_))
   ·skip
    refine cZ 11 13 rfl rfl (by kernel_rfl) (dK TT_ok 65 (fun i=>bL (([-1,7,8,(ps.getD p.1.toNat Y3).machines.getD 0 0]:List Int).getD i 0)) rfl rfl rfl rfl rfl rfl rfl (pK rfl rfl rfl rfl) (mu1:=[]) rfl rfl rfl (bA ?_)) (iV (nk:=[700]) (bI hn hβ g.2.1 g.2.2 g2 g3 4) rfl rfl (ZF _) (fun _=>rfl) rfl rfl rfl (fun z ⟨z1,z2,z3⟩=>bA ?_))
    ·skip
     refine aX (nk:=[700]) 13 (bI hn hβ g.2.1 g.2.2 g2 g3 4) fun z ⟨z1,z2,z3⟩=>?_
     refine bB 14 rfl (by kernel_rfl) (a8 (bA ?_))
     refine bB 15 rfl (by kernel_rfl) (a8 (bA ?_))
     refine bB 16 rfl (by kernel_rfl) (dK TT_ok 70 (fun _=>bL (([-1,7,8,(ps.getD p.1.toNat Y3).machines.getD 0 0]:List Int).getD z.1.toNat 0)) rfl rfl rfl rfl rfl rfl rfl (fun j hj=>by rcases j with _ | j <;>first | rfl | omega) (mu1:=[]) rfl rfl rfl (bA ?_))
     refine bB 17 rfl (by kernel_rfl) (dE TT_ok 78 70 51 rfl rfl rfl rfl rfl rfl rfl rfl rfl rfl rfl rfl ⟨by show ((ps.getD p.1.toNat Y3).machines.length+1) * 8≤_;omega,by unfold maxL;omega⟩ (bA ?_))
     refine aY [18,19,20] ?_
     refine d7 20 rfl (by kernel_rfl) (by kernel_rfl) (aR (eX [] fun B0 H0=>?_))
     refine aN ?_
     refine a9 (fI 51 (c':=bE 1 bL 0 ((ps.getD p.1.toNat Y3).machines ++ [([-1,7,8,(ps.getD p.1.toNat Y3).machines.getD 0 0]:List Int).getD z.1.toNat 0])) rfl (aQ) rfl) ?_
     refine a9 (a7 77 0 51) ?_
     refine a9 (aZ 20 77) ?_
     refine a9 (bH 20 900) ?_
     refine aC ((ps.set p.1.toNat ⟨(ps.getD p.1.toNat Y3).machines ++ [([-1,7,8,(ps.getD p.1.toNat Y3).machines.getD 0 0]:List Int).getD z.1.toNat 0]⟩,z.2.1,z.2.2)) [(2,none)] ?_ ?_ ?_
     ·exact ZF _
     ·exact ⟨⟨_,rfl,ZE _⟩,⟨_,rfl,Ch.imp_trans (bS (y:=(⟨(ps.getD p.1.toNat Y3).machines ++ [([-1,7,8,(ps.getD p.1.toNat Y3).machines.getD 0 0]:List Int).getD z.1.toNat 0]⟩:GPlace)) (OwnI.refl _)) rM⟩,trivial⟩
     ·refine ⟨⟨by show (ps.set _ _).length≤7;rw [List.length_set];omega,fun x hx=>?_⟩,z2,z3⟩
      rcases List.mem_or_eq_of_mem_set hx with hx | rfl
      ·exact hfin.2 x hx
      ·show ((ps.getD p.1.toNat Y3).machines ++ [([-1,7,8,(ps.getD p.1.toNat Y3).machines.getD 0 0]:List Int).getD z.1.toNat 0]).length≤4;rw [List.length_append,List.length_singleton];omega
    ·skip
     refine bB 11 rfl (by kernel_rfl) (dK TT_ok 65 (fun i=>bL (([-1,7,8,(ps.getD p.1.toNat Y3).machines.getD 0 0]:List Int).getD i 0)) rfl rfl rfl rfl rfl rfl rfl (pK rfl rfl rfl rfl) (mu1:=[]) rfl rfl rfl (bA ?_))
     refine bB 14 rfl (by kernel_rfl) (a8 (bA ?_))
     refine bB 15 rfl (by kernel_rfl) (a8 (bA ?_))
     refine bB 16 rfl (by kernel_rfl) (dK TT_ok 70 (fun _=>bL (([-1,7,8,(ps.getD p.1.toNat Y3).machines.getD 0 0]:List Int).getD z.1.toNat 0)) rfl rfl rfl rfl rfl rfl rfl (fun j hj=>by rcases j with _ | j <;>first | rfl | omega) (mu1:=[]) rfl rfl rfl (bA ?_))
     refine bB 17 rfl (by kernel_rfl) (dE TT_ok 78 70 51 rfl rfl rfl rfl rfl rfl rfl rfl rfl rfl rfl rfl ⟨by show ((ps.getD p.1.toNat Y3).machines.length+1) * 8≤_;omega,by unfold maxL;omega⟩ (bA ?_))
     refine aY [18,19,20] ?_
     refine d7 20 rfl (by kernel_rfl) (by kernel_rfl) (aR (eX [] fun B0 H0=>?_))
     refine aN ?_
     refine a9 (fI 51 (c':=bE 1 bL 0 ((ps.getD p.1.toNat Y3).machines ++ [([-1,7,8,(ps.getD p.1.toNat Y3).machines.getD 0 0]:List Int).getD z.1.toNat 0])) rfl (aQ) rfl) ?_
     refine a9 (a7 77 0 51) ?_
     refine a9 (aZ 20 77) ?_
     refine a9 (bH 20 900) ?_
     refine aC ((ps.set p.1.toNat ⟨(ps.getD p.1.toNat Y3).machines ++ [([-1,7,8,(ps.getD p.1.toNat Y3).machines.getD 0 0]:List Int).getD z.1.toNat 0]⟩,z.2.1,z.2.2)) [(2,none)] ?_ ?_ ?_
     ·exact ZF _
     ·exact ⟨⟨_,rfl,ZE _⟩,⟨_,rfl,Ch.imp_trans (bS (y:=(⟨(ps.getD p.1.toNat Y3).machines ++ [([-1,7,8,(ps.getD p.1.toNat Y3).machines.getD 0 0]:List Int).getD z.1.toNat 0]⟩:GPlace)) (OwnI.refl _)) rM⟩,trivial⟩
     ·refine ⟨⟨by show (ps.set _ _).length≤7;rw [List.length_set];omega,fun x hx=>?_⟩,z2,z3⟩
      rcases List.mem_or_eq_of_mem_set hx with hx | rfl
      ·exact hfin.2 x hx
      ·show ((ps.getD p.1.toNat Y3).machines ++ [([-1,7,8,(ps.getD p.1.toNat Y3).machines.getD 0 0]:List Int).getD z.1.toNat 0]).length≤4;rw [List.length_append,List.length_singleton];omega
   ·skip
    refine bB 10 rfl (by kernel_rfl) (a8 (bA ?_))
    refine bB 11 rfl (by kernel_rfl) (dK TT_ok 65 (fun i=>bL (([-1,7,8,(ps.getD p.1.toNat Y3).machines.getD 0 0]:List Int).getD i 0)) rfl rfl rfl rfl rfl rfl rfl (pK rfl rfl rfl rfl) (mu1:=[]) rfl rfl rfl (bA ?_))
    refine bB 14 rfl (by kernel_rfl) (a8 (bA ?_))
    refine bB 15 rfl (by kernel_rfl) (a8 (bA ?_))
    refine bB 16 rfl (by kernel_rfl) (dK TT_ok 70 (fun _=>bL (([-1,7,8,(ps.getD p.1.toNat Y3).machines.getD 0 0]:List Int).getD z.1.toNat 0)) rfl rfl rfl rfl rfl rfl rfl (fun j hj=>by rcases j with _ | j <;>first | rfl | omega) (mu1:=[]) rfl rfl rfl (bA ?_))
    refine bB 17 rfl (by kernel_rfl) (dE TT_ok 78 70 51 rfl rfl rfl rfl rfl rfl rfl rfl rfl rfl rfl rfl ⟨by show ((ps.getD p.1.toNat Y3).machines.length+1) * 8≤_;omega,by unfold maxL;omega⟩ (bA ?_))
    refine aY [18,19,20] ?_
    refine d7 20 rfl (by kernel_rfl) (by kernel_rfl) (aR (eX [] fun B0 H0=>?_))
    refine aN ?_
    refine a9 (fI 51 (c':=bE 1 bL 0 ((ps.getD p.1.toNat Y3).machines ++ [([-1,7,8,(ps.getD p.1.toNat Y3).machines.getD 0 0]:List Int).getD z.1.toNat 0])) rfl (aQ) rfl) ?_
    refine a9 (a7 77 0 51) ?_
    refine a9 (aZ 20 77) ?_
    refine a9 (bH 20 900) ?_
    refine aC ((ps.set p.1.toNat ⟨(ps.getD p.1.toNat Y3).machines ++ [([-1,7,8,(ps.getD p.1.toNat Y3).machines.getD 0 0]:List Int).getD z.1.toNat 0]⟩,z.2.1,z.2.2)) [(2,none)] ?_ ?_ ?_
    ·exact ZF _
    ·exact ⟨⟨_,rfl,ZE _⟩,⟨_,rfl,Ch.imp_trans (bS (y:=(⟨(ps.getD p.1.toNat Y3).machines ++ [([-1,7,8,(ps.getD p.1.toNat Y3).machines.getD 0 0]:List Int).getD z.1.toNat 0]⟩:GPlace)) (OwnI.refl _)) rM⟩,trivial⟩
    ·refine ⟨⟨by show (ps.set _ _).length≤7;rw [List.length_set];omega,fun x hx=>?_⟩,z2,z3⟩
     rcases List.mem_or_eq_of_mem_set hx with hx | rfl
     ·exact hfin.2 x hx
     ·show ((ps.getD p.1.toNat Y3).machines ++ [([-1,7,8,(ps.getD p.1.toNat Y3).machines.getD 0 0]:List Int).getD z.1.toNat 0]).length≤4;rw [List.length_append,List.length_singleton];omega
  ·skip
   refine bB 9 rfl (by kernel_rfl) (a8 (bA ?_))
   refine bB 10 rfl (by kernel_rfl) (a8 (bA ?_))
   refine bB 11 rfl (by kernel_rfl) (dK TT_ok 65 (fun i=>bL (([-1,7,8,(ps.getD p.1.toNat Y3).machines.getD 0 0]:List Int).getD i 0)) rfl rfl rfl rfl rfl rfl rfl (pK rfl rfl rfl rfl) (mu1:=[]) rfl rfl rfl (bA ?_))
   refine bB 14 rfl (by kernel_rfl) (a8 (bA ?_))
   refine bB 15 rfl (by kernel_rfl) (a8 (bA ?_))
   refine bB 16 rfl (by kernel_rfl) (dK TT_ok 70 (fun _=>bL (([-1,7,8,(ps.getD p.1.toNat Y3).machines.getD 0 0]:List Int).getD z.1.toNat 0)) rfl rfl rfl rfl rfl rfl rfl (fun j hj=>by rcases j with _ | j <;>first | rfl | omega) (mu1:=[]) rfl rfl rfl (bA ?_))
   refine bB 17 rfl (by kernel_rfl) (dE TT_ok 78 70 51 rfl rfl rfl rfl rfl rfl rfl rfl rfl rfl rfl rfl ⟨by show ((ps.getD p.1.toNat Y3).machines.length+1) * 8≤_;omega,by unfold maxL;omega⟩ (bA ?_))
   refine aY [18,19,20] ?_
   refine d7 20 rfl (by kernel_rfl) (by kernel_rfl) (aR (eX [] fun B0 H0=>?_))
   refine aN ?_
   refine a9 (fI 51 (c':=bE 1 bL 0 ((ps.getD p.1.toNat Y3).machines ++ [([-1,7,8,(ps.getD p.1.toNat Y3).machines.getD 0 0]:List Int).getD z.1.toNat 0])) rfl (aQ) rfl) ?_
   refine a9 (a7 77 0 51) ?_
   refine a9 (aZ 20 77) ?_
   refine a9 (bH 20 900) ?_
   refine aC ((ps.set p.1.toNat ⟨(ps.getD p.1.toNat Y3).machines ++ [([-1,7,8,(ps.getD p.1.toNat Y3).machines.getD 0 0]:List Int).getD z.1.toNat 0]⟩,z.2.1,z.2.2)) [(2,none)] ?_ ?_ ?_
   ·exact ZF _
   ·exact ⟨⟨_,rfl,ZE _⟩,⟨_,rfl,Ch.imp_trans (bS (y:=(⟨(ps.getD p.1.toNat Y3).machines ++ [([-1,7,8,(ps.getD p.1.toNat Y3).machines.getD 0 0]:List Int).getD z.1.toNat 0]⟩:GPlace)) (OwnI.refl _)) rM⟩,trivial⟩
   ·refine ⟨⟨by show (ps.set _ _).length≤7;rw [List.length_set];omega,fun x hx=>?_⟩,z2,z3⟩
    rcases List.mem_or_eq_of_mem_set hx with hx | rfl
    ·exact hfin.2 x hx
    ·show ((ps.getD p.1.toNat Y3).machines ++ [([-1,7,8,(ps.getD p.1.toNat Y3).machines.getD 0 0]:List Int).getD z.1.toNat 0]).length≤4;rw [List.length_append,List.length_singleton];omega
 refine aE ?_
 refine aA (fun _=>?_) (fun _=>?_)
 ·refine a9 (d6 20 p.1 77 rfl rfl rfl rfl rfl rfl hp) ?_
  refine a9 (j6 8 rfl rfl rfl) ?_
  refine aE ?_
  refine aL 79 (fun i=>bL (([]:List Int).getD i 0)) (fun i hi=>absurd hi (Nat.not_lt_zero _)) (mu1:=[]) ?_
  refine aM ?_
  refine a9 (a7 77 0 79) ?_
  refine a9 (aZ 20 77) ?_
  refine a9 (bH 20 900) ?_
  refine aC ((ps.set p.1.toNat ⟨[]⟩,g.2.1,g.2.2)) [(2,none)] ?_ ?_ ?_
  ·exact ZF _
  ·exact ⟨⟨_,rfl,ZE _⟩,⟨_,rfl,Ch.imp_trans (bS (y:=(⟨[]⟩:GPlace)) (OwnI.refl _)) rM⟩,trivial⟩
  ·refine ⟨⟨by show (ps.set _ _).length≤7;rw [List.length_set];omega,fun x hx=>?_⟩,g2,g3⟩
   rcases List.mem_or_eq_of_mem_set hx with hx | rfl
   ·exact hfin.2 x hx
   ·exact Nat.zero_le _
 refine aE ?_
 refine aA (fun _=>?_) (fun _=>?_)
 rotate_left
 ·refine aE ?_
  refine a9 (bH 20 900) ?_
  refine aC ((ps,g.2.1,g.2.2)) [(2,none)] ?_ ?_ ?_
  ·exact ZF _
  ·exact ⟨⟨_,rfl,ZE _⟩,⟨_,rfl,rM⟩,trivial⟩
  ·exact ⟨hfin,g2,g3⟩
 refine WX 20 21 rfl rfl rfl rfl rfl (fun _=>rfl) fun row hrow=>?_
 have hr:∀ i,i<ps.length→∃ A c,row i=[.slice A (ps.getD i Y3).machines.length c]:=fun i hi=>by
  obtain ⟨_,hq,e⟩:=hrow i hi
  exact RA e
 obtain ⟨AF,CF,hF⟩:∃ (AF:Nat→Option Addr) (CF:Nat→Nat),∀ i,i<ps.length→row i=[.slice (AF i) (ps.getD i Y3).machines.length (CF i)] :=
  ⟨fun i=>if hi:i<ps.length then (hr i hi).choose else none,fun i=>if hi:i<ps.length then (hr i hi).choose_spec.choose else 0,fun i hi=>by
   simp only [dif_pos hi]
   exact (hr i hi).choose_spec.choose_spec⟩
 refine a9 (fI 20 (c' := .arr 1 ps.length fun i=>[.v (.slice (AF i) (ps.getD i Y3).machines.length (CF i))]) rfl (Ch.imp_arr fun i hi=>by rw [hF i hi];rfl) rfl) ?_
 refine aE ?_
 refine cW (ι:=Nat) (fun _=>[(3, .a (.g 20))]) (fun m=>[(20, .arr 1 m fun i=>[.v (.slice (AF (lR ps.length i)) (ps.getD (lR ps.length i) Y3).machines.length (CF (lR ps.length i)))])]) (fun m=>ps.length≤m∧m≤7) (fun m=>7 - m) ps.length [20] [20] rfl rfl ⟨Nat.le_refl _,by omega⟩ wF ⟨⟨_,rfl,Ch.imp_arr fun i hi=>by simp only [lR,if_pos hi]⟩,wM⟩ ?_
 intro m ⟨w1,w2⟩
 refine aE ?_
 refine aH (fun e2=>?_) (fun e2=>?_)
 ·have hm7:m<7:=by omega
  refine aE ?_
  refine cJ TT_ok 42 (fun _=>[.v (.slice (AF (lR ps.length 0)) (ps.getD (lR ps.length 0) Y3).machines.length (CF (lR ps.length 0)))]) rfl rfl rfl rfl rfl rfl rfl (fun j hj=>by rcases j with _ | j <;>first | rfl | omega) (mu1:=[]) rfl rfl rfl ?_
  refine aM ?_
  refine cL TT_ok 20 42 43 rfl rfl rfl rfl rfl rfl rfl rfl rfl rfl rfl rfl ⟨by show (m+1) * 24≤_;omega,by unfold maxL;omega⟩ ?_
  refine aM ?_
  refine bC (bH 20 43) ?_
  refine bF (m+1) ⟨by omega,hm7⟩ (by omega) wF ⟨⟨_,rfl,Ch.imp_arr fun j hj=>?_⟩,wM⟩
  by_cases c:j<m
  ·rw [kK c]
  ·rw [kL (by omega)]
   have e0:lR ps.length j=0:=by unfold lR;rw [if_neg (by omega)]
   have e1:lR ps.length 0=0:=by unfold lR;split <;>rfl
   simp only [e0,e1]
 ·obtain rfl:m=7:=by omega
  refine aE ?_
  refine a9 (XC 20 21 (rows:=fun i=>[.slice (AF (lR ps.length i)) (ps.getD (lR ps.length i) Y3).machines.length (CF (lR ps.length i))]) (f:=fun i=>cN ((wE ps 7).getD i Y3)) rfl rfl rfl (fun i hi=>rfl) (fun hp hP i hi=>by
   have h4:=W9 (n:=ps.length) (i:=i) (by omega)
   rw [U2 hi]
   have h5:=hP (lR ps.length i) h4
   rw [hF _ h4] at h5
   exact h5) rfl rfl rfl rfl rfl) ?_
  refine a9 (bH 20 900) ?_
  have h7:(wE ps 7).length=7:=UW (by omega)
  refine aC ((wE ps 7,g.2.1,g.2.2)) [(2,none)] ?_ ?_ ?_
  ·exact ZF _
  ·exact ⟨⟨_,rfl,ZE _⟩,⟨_,rfl,Ch.imp_of (show (Ch.rd 1 7 fun i=>cN ((wE ps 7).getD i Y3)) = .rd 1 (wE ps 7).length _ from by rw [h7])⟩,trivial⟩
  ·refine ⟨⟨Nat.le_of_eq h7,fun x hx=>?_⟩,g2,g3⟩
   unfold wE at hx
   rcases List.mem_append.1 hx with hx | hx
   ·exact hfin.2 x hx
   ·rw [(List.mem_replicate.1 hx).2];exact hfin.2 _ (bY (by omega))
end
section
theorem FO (xs:List GCell) (hx:cO xs=true) (but:List Int) (hl:but.length≤1048576):Ans Tryz.prog 227 [] [vL 2 cQ Y9 xs,vL 1 bL 0 but] [] (vI (n9 xs fun s=>decide (s ∈ but))):=by
 have h6:=sL hx
 refine aD Tryz.func227 fun B0 r_ D_ w0=>?_
 refine aE ?_
 refine aG (p9 xs) ?_
 refine eZ rfl (fun e=>by rw [hx] at e;cases e) (fun _=>?_)
 refine aE ?_
 refine aJ (ι:=Nat) (fun i=>[(5,vI i)]) (fun _=>[]) (fun i=>i≤6∧∀ j,j<i→mO xs (fun s=>decide (s ∈ but)) j=false) (fun i=>6 - i) 0 [] [] ⟨Nat.zero_le _,fun j hj=>absurd hj (Nat.not_lt_zero _)⟩ ?_
 intro i ⟨h1,h2⟩
 refine aE ?_
 refine aH (fun e=>?_) (fun e=>?_)
 ·have hi:i<6:=by omega
  refine aE ?_
  refine aG (qY _) ?_
  refine aG (mC _) ?_
  refine aG (kJ but hl _) ?_
  refine aA (b:=mO xs (fun s=>decide (s ∈ but)) i) (fun e2=>?_) (fun e2=>?_)
  ·refine aE ?_
   exact aI [(4,none)] ((JH hi h2 e2).symm)
  ·refine aE ?_
   exact aK (i+1) ⟨hi,bX h2 e2⟩ (by omega)
 ·refine aE ?_
  exact d8 TT_ok [(4,none)] rfl rfl ((KH fun j hj=>h2 j (by omega)).symm)
theorem RL {t:GTx} {r s:Int}:(bif decide (b0 (dD r s) t.reads ≥ 0) then true else decide (b0 (dF r s) t.sets ≥ 0))=pR t r s:=by
 unfold pR
 have h1:decide (b0 (dD r s) t.reads ≥ 0)=t.reads.any (dD r s):=by
  rw [Bool.eq_iff_iff,decide_eq_true_iff];exact eY (z:=Y8)
 have h2:decide (b0 (dF r s) t.sets ≥ 0)=t.sets.any (dF r s):=by
  rw [Bool.eq_iff_iff,decide_eq_true_iff];exact eY (z:=Y7)
 rw [h1,h2]
def r9 (t:GTx) (r:Int) (n:Nat):List Int:=((List.range n).filter fun s:Nat=>pR t r s).map fun s:Nat=>(s:Int)
theorem JR (t:GTx) (r:Int) (n:Nat):(r9 t r n).length≤n:=by
 unfold r9
 rw [List.length_map]
 exact Nat.le_trans (List.length_filter_le _ _) (by simp)
theorem S8 {t:GTx} {r:Int} {s:Nat} (hs:s<6):decide ((s:Int) ∈ r9 t r 6)=pR t r s:=by
 rw [Bool.eq_iff_iff,decide_eq_true_iff]
 unfold r9
 rw [List.mem_map]
 constructor
 ·rintro ⟨n,h1,h2⟩
  have:n=s:=by omega
  subst this
  exact (List.mem_filter.1 h1).2
 ·intro h
  exact ⟨s,List.mem_filter.2 ⟨by simpa using hs,h⟩,rfl⟩
theorem HR (t:GTx) (r:Int) (n:Nat):r9 t r (n+1)=if pR t r n then r9 t r n ++ [(n:Int)] else r9 t r n:=by
 unfold r9
 rw [List.range_succ,List.filter_append,List.map_append]
 by_cases h:pR t r n
 ·rw [if_pos h];simp [h]
 ·rw [if_neg h];simp [h]
theorem KN (c:GCluster) (hb:D.bds eA (bK c)) (id r:Int):VP Tryz.prog 212 [vR (bK c),vI id,vI r] (kW c id r).1 (kW c id r).2.1 (kW c id r).2.2:=by
 have b1:c.places.length≤1048576:=hb.2.2.1.1
 have b3:c.txs.length≤1048576:=hb.2.2.2.2.1.1
 refine aD Tryz.func212 fun B0 r_ D_ w0=>?_
 refine d5 TT_ok rfl ?_
 refine aS 3 fun r_=>?_
 refine aE ?_
 refine aP (uN c hb id) fun _ _=>?_
 refine aM ?_
 by_cases hok:ClusOk c
 ·by_cases h0:cY c id=0
  ·have hge:=(jY h0).2.2
   have hlt:=lT (c:=c) (id:=id)
   have hin:=fS hge
   have ht:=hok.tx hin.1
   have hl1:=ht.1.2.2.2.2.2.1
   have hl2:=ht.1.2.2.2.2.2.2
   have hsN:=pV ht.2.1
   rw [show kW c id r=if iB c (bP c id) r=0 then (pP c id (tN c (bP c id) r),iI c (bP c id) r,0) else (c, -1,iB c (bP c id) r) from by unfold kW;rw [if_pos hok,if_pos h0]]
   rw [show gA c id=(bZ c id,0) from by unfold gA;rw [if_pos hok,if_pos h0]]
   refine aG (cV _ _ _) ?_
   refine aA (b := !inB r 0 ((c.places.length:Int) - 1)) (fun e=>?_) (fun e=>?_)
   ·have hN:iB c (bP c id) r=5:=by unfold iB;rw [e];rfl
    rw [if_neg (by rw [hN];decide),hN]
    refine aE ?_
    refine bW rfl (fun _=>?_) (fun e=>by cases e)
    refine aE ?_
    refine dZ TT_ok (j7 c hb 5 (by decide)) rfl rfl (ZF _) (fun _=>rfl) rfl rfl rfl fun _ _=>?_
    refine aM ?_
    refine aC (()) [(6,some 33),(7,none),(8,none)] ?_ ?_ ?_
    ·exact ZF _
    ·exact wM
    ·trivial
   have hr:=DK e
   have hpl:=hok.pl (r:=r.toNat) (by omega)
   have hm:=(hok.at (r:=r.toNat) (k:=0) (by omega) (by omega)).1
   have hP:=vZ c hb hok r hr
   refine aE ?_
   refine bW rfl (fun e=>by cases e) (fun _=>?_)
   refine aE ?_
   cases ha:(b8 c r.toNat 0).alive with
   | false =>
    rw [if_neg (by rw [ha];simp)] at hP
    have hN:iB c (bP c id) r=6:=by unfold iB;rw [e,ha];rfl
    rw [if_neg (by rw [hN];decide),hN]
    refine aP (hP) fun _ _=>?_
    refine aM ?_
    refine bW rfl (fun _=>?_) (fun e=>by cases e)
    refine aE ?_
    refine aP (gR c hb) fun _ _=>?_
    refine aM ?_
    refine aC (()) [(6,some 33),(7,none),(8,none)] ?_ ?_ ?_
    ·exact ZF _
    ·exact wM
    ·trivial
   | true =>
    rw [if_pos ha] at hP
    have hhas:=(hok.at (r:=r.toNat) (k:=0) (by omega) (by omega)).2 ha
    rw [Int.toNat_of_nonneg hr.1] at hhas
    have hix:=lL (z:=ZA) ((eY (z:=ZA)).2 (show (b8 c r.toNat 0).copies.any (atB r)=true from hhas))
    have hix2:0≤b0 (atB r) (b8 c r.toNat 0).copies∧b0 (atB r) (b8 c r.toNat 0).copies<(b8 c r.toNat 0).copies.length:=⟨(eY (z:=ZA)).2 hhas,by omega⟩
    have hco:=iZ hhas
    have hcB:=(gM (hok.mach (r:=r.toNat) (k:=0) (by omega) (by omega)) hhas).2
    have hA:iB c (bP c id) r=bif decide (iI c (bP c id) r<0) then 9 else bif !(bT (bP c id) (gC c (bP c id) r)).2 then 9 else bif !setB (lP c (bP c id) r) then 9 else bif !(dW (bT (bP c id) (gC c (bP c id) r)).1 (lP c (bP c id) r)).2 then 9 else 0:=by
     unfold iB;rw [e,ha];rfl
    refine aP (hP) fun _ _=>?_
    refine aM ?_
    refine nZ rfl (fun e=>absurd e (by omega)) (fun _=>?_)
    have hin2:0≤bZ c id∧bZ c id<c.txs.length:=⟨hge,hlt⟩
    refine aE ?_
    refine aL 90 (fun i=>bL (([]:List Int).getD i 0)) (fun i hi=>absurd hi (Nat.not_lt_zero _)) (mu1:=[]) ?_
    refine aM ?_
    refine aJ (ι:=Nat) (fun i=>[(17,vI i),(16, .a (.g 90))]) (fun i=>[(90,bE 1 bL 0 (r9 (bP c id) r i))]) (fun i=>i≤6) (fun i=>6 - i) 0 [90] [90] (Nat.zero_le _) ?_
    intro i h1
    refine aE ?_
    refine aH (fun e2=>?_) (fun e2=>?_)
    ·have hi:i<6:=by omega
     have hle:=JR (bP c id) r i
     refine aE ?_
     refine mI TT_ok (tL (bP c id) (Nat.le_trans hl1 (by decide)) r i) rfl rfl rfl rfl rfl ?_
     refine mI TT_ok (CB (bP c id) (Nat.le_trans hl2 (by decide)) r i) rfl rfl rfl rfl rfl ?_
     rw [RL]
     refine aA (b:=pR (bP c id) r i) (fun e3=>?_) (fun e3=>?_)
     ·refine aE ?_
      refine cJ TT_ok 85 (fun _=>bL (i:Int)) rfl rfl rfl rfl rfl rfl rfl (fun i hi=>by rcases i with _ | i <;>first | rfl | omega) (mu1:=[]) rfl rfl rfl ?_
      refine aM ?_
      refine cL TT_ok 90 85 86 rfl rfl rfl rfl rfl rfl rfl rfl rfl rfl rfl rfl ⟨by show ((r9 (bP c id) r i).length+1) * 8≤_;omega,by unfold maxL;omega⟩ ?_
      refine aM ?_
      refine bC (bH 90 86) ?_
      exact bF (i+1) hi (by omega) wF ⟨⟨_,rfl,cX (x:=(i:Int)) (by rw [HR,if_pos e3]) rfl⟩,wM⟩
     ·refine aE ?_
      exact bF (i+1) hi (by omega) wF ⟨⟨_,rfl,bU (by rw [HR,if_neg (by rw [e3];simp)])⟩,wM⟩
    have hi:i=6:=by omega
    subst hi
    have hble:=JR (bP c id) r 6
    refine aE ?_
    refine mI TT_ok (FO _ (by rw [← hco];exact hcB) (r9 (bP c id) r 6) (by omega)) rfl rfl rfl rfl rfl ?_
    rw [show n9 _ (fun s=>decide (s ∈ r9 (bP c id) r 6))=iI c (bP c id) r from by
     unfold iI
     rw [hco]
     exact MH fun s hs=>S8 hs]
    refine aH (fun e4=>?_) (fun e4=>?_)
    ·have hN:iB c (bP c id) r=9:=by rw [hA,decide_eq_true e4];rfl
     rw [if_neg (by rw [hN];decide),hN]
     refine aE ?_
     refine aP (gR c hb) fun _ _=>?_
     refine aM ?_
     refine aC (()) [(6,some 33),(7,none),(8,none)] ?_ ?_ ?_
     ·exact ZF _
     ·exact wM
     ·trivial
    rw [decide_eq_false e4] at hA
    have hs:0≤iI c (bP c id) r∧iI c (bP c id) r≤5:=by
     refine ⟨by omega,?_⟩
     unfold iI
     rcases L7 (xs:=cellsOf (b8 c r.toNat 0) r) (b:=pR (bP c id) r) with ⟨h1,_⟩ | ⟨i,h1,h2,_⟩ <;>omega
    obtain ⟨c1,c2,c3⟩:=GT hok hr hs ha
    have hh:=gZ.1 c2
    have hv:0≤(fB c r (iI c (bP c id) r)).head.tdiv 4∧(fB c r (iI c (bP c id) r)).head.tdiv 4≤1000000:=by
     rw [Int.tdiv_eq_ediv_of_nonneg hh.1];omega
    have hlen:0≤iI c (bP c id) r∧iI c (bP c id) r<((b8 c r.toNat 0).copies.getD (b0 (atB r) (b8 c r.toNat 0).copies).toNat ZA).cells.length:=by rw [← hco,c1];omega
    have hcell:((b8 c r.toNat 0).copies.getD (b0 (atB r) (b8 c r.toNat 0).copies).toNat ZA).cells.getD (iI c (bP c id) r).toNat Y9=fB c r (iI c (bP c id) r):=by rw [← hco];rfl
    refine aE ?_
    rw [hcell]
    refine aG (gV _) ?_
    rw [show qC (fB c r (iI c (bP c id) r)).head=zY c (bP c id) r from by unfold zY qC;rw [if_pos c2]]
    have hNB:noteB (gC c (bP c id) r)=true:=by
     have h6:=hok.2.1.1.2
     unfold noteB gC
     rw [bR.2 (show (0:Int)≤r∧r≤5 from by omega),bR.2 (show (0:Int)≤iI c (bP c id) r∧iI c (bP c id) r≤5 from hs)]
     dsimp only
     rw [bR.2 (show (0:Int)≤zY c (bP c id) r∧zY c (bP c id) r≤1000000 from hv)]
     rfl
    have hbt:D.bds eA (cTx (bP c id)):=BX _ (Nat.le_trans (EC ht) (by decide))
    refine aP (ZG 901 161 (ZG 902 162 (j0 (bP c id) hbt (gC c (bP c id) r)))) fun _ _=>?_
    refine aM ?_
    cases h1:(bT (bP c id) (gC c (bP c id) r)).2 with
    | false =>
     have hN:iB c (bP c id) r=9:=by rw [hA,h1];rfl
     rw [if_neg (by rw [hN];decide),hN]
     rw [show c9 (bP c id) (gC c (bP c id) r)=(Y5,false) from by unfold c9;rw [if_neg fun h=>by rw [h1] at h;cases h.2.2]]
     refine bW rfl (fun _=>?_) (fun e=>by cases e)
     refine aE ?_
     refine aP (gR c hb) fun _ _=>?_
     refine aM ?_
     refine aC (()) [(6,some 33),(7,none),(8,none)] ?_ ?_ ?_
     ·exact ZF _
     ·exact wM
     ·trivial
    | true =>
     rw [h1] at hA
     rw [show c9 (bP c id) (gC c (bP c id) r)=((bT (bP c id) (gC c (bP c id) r)).1,true) from by unfold c9;rw [if_pos ⟨ht,hNB,h1⟩]]
     have ht1:=(sM ht hNB).1
     have hbt1:D.bds eA (cTx (bT (bP c id) (gC c (bP c id) r)).1):=BX _ (Nat.le_trans (EC ht1) (by decide))
     refine bW rfl (fun e=>by cases e) (fun _=>?_)
     refine aE ?_
     refine aP (ZG 901 171 (ZG 902 172 (kN (bT (bP c id) (gC c (bP c id) r)).1 hbt1 (lP c (bP c id) r)))) fun _ _=>?_
     refine aM ?_
     by_cases h2:setB (lP c (bP c id) r)=true∧(dW (bT (bP c id) (gC c (bP c id) r)).1 (lP c (bP c id) r)).2=true
     ·have hN:iB c (bP c id) r=0:=by rw [hA,h2.1,h2.2];rfl
      rw [if_pos hN]
      rw [show dM (bT (bP c id) (gC c (bP c id) r)).1 (lP c (bP c id) r)=(tN c (bP c id) r,true) from by unfold dM;rw [if_pos ⟨ht1,h2.1,h2.2⟩];rfl]
      refine bW rfl (fun e=>by cases e) (fun _=>?_)
      refine aE ?_
      refine aP (gR c hb) fun _ _=>?_
      refine aM ?_
      refine cK (d6 903 (bZ c id) 77 rfl rfl rfl rfl rfl rfl ⟨hge,hlt⟩) ?_
      refine cK (j6 142 rfl rfl rfl) ?_
      refine aM ?_
      refine a9 (a7 77 4 171) ?_
      refine a9 (a7 77 5 172) ?_
      refine a9 (aZ 903 77) ?_
      refine aC (()) [(6,some 33),(7,none),(8,none)] ?_ ?_ ?_
      ·exact ZF _
      ·exact ⟨⟨_,rfl,ZE _⟩,⟨_,rfl,ZE _⟩,⟨_,rfl,bS (OwnI.refl _)⟩,trivial⟩
      ·trivial
     ·have hN:iB c (bP c id) r=9:=by
       rw [hA]
       cases g1:setB (lP c (bP c id) r) with
       | false=>rfl
       | true =>
        cases g2:(dW (bT (bP c id) (gC c (bP c id) r)).1 (lP c (bP c id) r)).2 with
        | false=>rfl
        | true=>exact absurd ⟨g1,g2⟩ h2
      rw [if_neg (by rw [hN];decide),hN]
      rw [show dM (bT (bP c id) (gC c (bP c id) r)).1 (lP c (bP c id) r)=(Y5,false) from by unfold dM;rw [if_neg fun h=>h2 h.2]]
      refine bW rfl (fun _=>?_) (fun e=>by cases e)
      refine aE ?_
      refine aP (gR c hb) fun _ _=>?_
      refine aM ?_
      refine aC (()) [(6,some 33),(7,none),(8,none)] ?_ ?_ ?_
      ·exact ZF _
      ·exact wM
      ·trivial
  ·rw [show kW c id r=(c, -1,cY c id) from by unfold kW;rw [if_pos hok,if_neg h0]]
   rw [show gA c id=(-1,cY c id) from by unfold gA;rw [if_pos hok,if_neg h0]]
   refine aG (cV _ _ _) ?_
   rw [show (cY c id == 0)=false from by simpa using h0]
   refine bW rfl (fun e=>by cases e) (fun _=>?_)
   refine aE ?_
   refine iJ rfl (fun e=>?_) (fun e=>absurd e h0)
   refine aE ?_
   have h1:cY c id≠1:=by
    unfold cY
    cases decide (bZ c id<0) <;>cases kQ c id <;>cases (bP c id).phase == 1 <;>decide
   refine aP (j7 c hb (cY c id) h1) fun _ _=>?_
   refine aM ?_
   refine aC (()) [(6,some 33),(7,none),(8,none)] ?_ ?_ ?_
   ·exact ZF _
   ·exact wM
   ·trivial
 ·rw [show kW c id r=(Y6, -1,1) from if_neg hok]
  rw [show gA c id=(-1,1) from if_neg hok]
  refine aG (cV _ _ _) ?_
  refine bW rfl (fun e=>by cases e) (fun _=>?_)
  refine aE ?_
  refine bW rfl (fun _=>?_) (fun e=>by cases e)
  refine aE ?_
  refine aP (o8 c) fun _ _=>?_
  refine aM ?_
  refine aC (()) [(6,some 33),(7,none),(8,none)] ?_ ?_ ?_
  ·exact ZF _
  ·exact wM
  ·trivial
end
section
theorem More.refl {ms:List GMachine} (h:∀ j,j<ms.length→cS (ms.getD j Y4)):More ms ms:=⟨rfl,fun j hj=>⟨h j hj,rfl,fun _ hq=>hq⟩⟩
theorem More.trans {a b c:List GMachine} (h:More a b) (k:More b c):More a c:=⟨k.len.trans h.len,fun j hj=>by
 have hb:j<b.length:=by rw [← k.len];exact hj
 obtain ⟨q1,q2,q3⟩:=k.ok j hj
 obtain ⟨p1,p2,p3⟩:=h.ok j hb
 exact ⟨q1,q2.trans p2,fun q hq=>q3 q (p3 q hq)⟩⟩
theorem HA {ms:List GMachine} (hm:∀ j,j<ms.length→cS (ms.getD j Y4)) {old l:List Int} {r:Int} (hr:0≤r∧r≤5) {xs:List GCell} (hx:cO xs=true) (hl:∀ x ∈ l,0≤x∧x<ms.length) (ho:∀ x ∈ l,x ∈ old→dQ (ms.getD x.toNat Y4) r=true):∀ k,k≤l.length→∀ i,i<k→dQ ((jG old l r xs k ms).getD (l.getD i 0).toNat Y4) r=true
 | 0,_,i,hi=>absurd hi (Nat.not_lt_zero _)
 | k+1,hk,i,hi=>by
  have ih:=HA hm hr hx hl ho (old:=old) k (by omega)
  have hM:=nY (old:=old) hr hx hl (More.refl hm) k (by omega)
  have hlk:l.getD k 0 ∈ l:=bY (z:=0) (by omega)
  have hli:l.getD i 0 ∈ l:=bY (z:=0) (by omega)
  have hin:=hl _ hlk
  have hi2:=hl _ hli
  rw [jG]
  by_cases c:l.getD k 0 ∈ old
  ·rw [if_pos c]
   by_cases e:i<k
   ·exact ih i e
   ·have:i=k:=by omega
    subst this
    exact (hM.ok _ (by rw [hM.len];omega)).2.2 r (ho _ hli c)
  ·rw [if_neg c,gW (by rw [hM.len];omega)]
   by_cases e:(l.getD i 0).toNat=(l.getD k 0).toNat
   ·rw [if_pos e,H4,decide_eq_true rfl];cases dQ _ r <;>rfl
   ·rw [if_neg e]
    have:i<k:=by
     rcases Nat.lt_or_ge i k with h | h
     ·exact h
     ·have:i=k:=by omega
      subst this;exact absurd rfl e
    exact ih i this
theorem HW {c:GCluster} (hok:ClusOk c) (hl:(oQ c).length=0) {ms:List GMachine} (h:More c.machines ms) {r:Nat} (hr:r<c.places.length) :
  More (iG c.places (bN c) r ms) (iG c.places (bN c) (r+1) ms)∧∀ x ∈ ((bN c).getD r Y3).machines,dQ ((iG c.places (bN c) (r+1) ms).getD x.toNat Y4) r=true:=by
 have ih:=o1 hok hl h r (by omega)
 have np:=B5 hok hl hr
 have h5:=hok.2.1.1.2
 have hf:0≤kD c r∧kD c r<c.machines.length:=np.rng _ (bY (z:=0) np.pos)
 obtain ⟨q1,q2,q3⟩:=ih.ok (kD c r).toNat (by rw [ih.len];omega)
 have hcb:=(gM q1 (q3 _ np.has)).2
 have hrr:0≤(r:Int)∧(r:Int)≤5:=by omega
 have hmo:∀ j,j<(iG c.places (bN c) r ms).length→cS ((iG c.places (bN c) r ms).getD j Y4):=fun j hj=>(ih.ok j hj).1
 have hrng:∀ x ∈ ((bN c).getD r Y3).machines,0≤x∧x<(iG c.places (bN c) r ms).length:=fun x hx=>by rw [ih.len];exact np.rng x hx
 have hold:∀ x ∈ ((bN c).getD r Y3).machines,x ∈ (c.places.getD r Y3).machines→dQ ((iG c.places (bN c) r ms).getD x.toNat Y4) (r:Int)=true:=fun x hx ho=>by
  obtain ⟨k,hk,e⟩:=fY.1 ho
  have h3:=(hok.at hr hk).2
  have e2:mAt c r k=x:=e
  unfold b8 at h3
  rw [e2] at h3
  have hx2:=np.rng x hx
  exact (ih.ok x.toNat (by rw [ih.len];omega)).2.2 _ (h3 (np.alive x hx))
 rw [iG]
 refine ⟨nY hrr hcb hrng (More.refl hmo) _ (Nat.le_refl _),fun x hx=>?_⟩
 obtain ⟨i,hi,e⟩:=fY.1 hx
 rw [← e]
 exact HA hmo hrr hcb hrng hold _ (Nat.le_refl _) i hi
theorem HV {c:GCluster} (hok:ClusOk c) (hl:(oQ c).length=0) {ms:List GMachine} (h:More c.machines ms) {r:Nat}:∀ n,r+n≤c.places.length→More (iG c.places (bN c) r ms) (iG c.places (bN c) (r+n) ms)
 | 0,hn=>More.refl fun j hj=>((o1 hok hl h r (by omega)).ok j hj).1
 | n+1,hn=>(HV hok hl h n (by omega)).trans (HW hok hl h (r:=r+n) (by omega)).1
theorem S4 {c:GCluster} (hok:ClusOk c) (hl:(oQ c).length=0) {ms:List GMachine} (h:More c.machines ms) {r:Nat} (hr:r<c.places.length) {x:Int} (hx:x ∈ ((bN c).getD r Y3).machines):dQ ((iG c.places (bN c) c.places.length ms).getD x.toNat Y4) r=true:=by
 have h1:=(HW hok hl h hr).2 x hx
 have h2:=HV hok hl h (r:=r+1) (c.places.length - (r+1)) (by omega)
 rw [show r+1+(c.places.length - (r+1))=c.places.length by omega] at h2
 have hx2:=(B5 hok hl hr).rng x hx
 have hM:=o1 hok hl h c.places.length (Nat.le_refl _)
 exact (h2.ok x.toNat (by rw [hM.len];omega)).2.2 _ h1
theorem CL {l:List Int} {k:Nat}:sQ l k=false ↔ (0≤l.getD k 0∧l.getD k 0≤7)∧¬ l.getD k 0 ∈ l.take k:=by
 unfold sQ
 rw [bV]
 constructor
 ·rintro ⟨h1,h2⟩
  exact ⟨bR.1 (by simpa using h1),of_decide_eq_false h2⟩
 ·rintro ⟨h1,h2⟩
  exact ⟨by rw [bR.2 h1];rfl,decide_eq_false h2⟩
theorem QC {l:List Int} (h:l.Nodup) {k:Nat} (hk:k<l.length):¬ l.getD k 0 ∈ l.take k:=fun hm=>by
 obtain ⟨j,hj,e⟩:=fY.1 hm
 rw [List.length_take] at hj
 have hj2:j<l.length:=by omega
 rw [vH (by rw [List.length_take];omega)] at e
 have:=List.pairwise_iff_getElem.1 h j k hj2 hk (by omega)
 simp only [List.getD_eq_getElem?_getD,List.getElem?_eq_getElem hj2,List.getElem?_eq_getElem hk,Option.getD_some] at e
 exact this e
theorem P9 {l:List Int} (h:∀ k,k<l.length→¬ l.getD k 0 ∈ l.take k):l.Nodup:=by
 refine List.pairwise_iff_getElem.2 fun i j hi hj hij e=>h j hj ?_
 refine fY.2 ⟨i,by rw [List.length_take];omega,?_⟩
 rw [vH (by rw [List.length_take];omega)]
 simp only [List.getD_eq_getElem?_getD,List.getElem?_eq_getElem hi,List.getElem?_eq_getElem hj,Option.getD_some]
 exact e
theorem CW {al:List Bool} {next:List Int} (h:next.Nodup):∀ k,(dA al next k).Nodup
 | 0=>h
 | k+1=>by
  have ih:=CW h k (al:=al)
  rw [dA]
  by_cases c:(k:Int) ∈ dA al next k
  ·rw [decide_eq_true c]
   cases (bif al.getD k false then decide (((dA al next k).length:Int)<3) else false) <;>exact ih
  ·cases (bif bif al.getD k false then decide (((dA al next k).length:Int)<3) else false then !decide ((k:Int) ∈ dA al next k) else false) with
   | false=>exact ih
   | true =>
    rw [cond_true]
    exact List.nodup_append.2 ⟨ih,by simp,fun a ha b hb=>by
     have:b=(k:Int):=by simpa using hb
     rintro rfl;exact c (this ▸ ha)⟩
theorem OZ {c:GCluster} (hok:ClusOk c) (hl:(oQ c).length=0):PlOk (bN c):=by
 have hql:(bN c).length=c.places.length:=List.length_map _
 refine ⟨by rw [hql];exact hok.2.1.1,fun r hr=>?_⟩
 rw [hql] at hr
 have np:=B5 hok hl hr
 refine ⟨⟨np.pos,np.le⟩,fun k hk=>CL.2 ⟨?_,QC ?_ hk⟩⟩
 ·have:=np.rng _ (bY (z:=0) hk)
  have:=hok.1.2.2.1
  omega
 ·have hkp:=BI hl r hr
  have hq:((bN c).getD r Y3).machines=dA (fU c) (gG (fU c) (c.places.getD r Y3)) (fU c).length:=by
   rw [bN,lO (za:=Y3) _ hr]
   unfold sD
   rw [if_neg hkp]
  rw [hq]
  refine CW ?_ _
  unfold gG
  exact (P9 fun k hk=>(CL.1 ((hok.2.1.2 r hr).2 k hk)).2).sublist List.filter_sublist
theorem WC {c:GCluster} (hok:ClusOk c) (hcf:c.config≠1000000) (hl:(oQ c).length=0):ClusOk (TA c):=by
 have hR:=B7 hok c.txs.length (Nat.le_refl _)
 have hokd:=hR.ok hok
 have hM0:More c.machines (fX c c.txs.length).machines:=hR.like.more
 have hM:=o1 hok hl hM0 c.places.length (Nat.le_refl _)
 have hql:(bN c).length=c.places.length:=List.length_map _
 have hcg:=hok.1.1
 refine ⟨⟨by show 1≤c.config+1∧c.config+1≤1000000;omega,hok.1.2.1,by show 1≤(iG _ _ _ _).length∧_;rw [hM.len];exact hok.1.2.2.1,by show (fX c c.txs.length).txs.length≤60;rw [hR.len];exact hok.1.2.2.2⟩,OZ hok hl,fun j hj=>(hM.ok j hj).1,fun r hr k hk=>?_,fun j hj=>?_⟩
 ·have hr:r<(bN c).length:=hr
  rw [hql] at hr
  have hk:k<((bN c).getD r Y3).machines.length:=hk
  have hx:=S4 hok hl hM0 hr (bY (z:=0) hk)
  have hrg:=(B5 hok hl hr).rng _ (bY (z:=0) hk)
  unfold l6
  have e1:mAt (TA c) r k=((bN c).getD r Y3).machines.getD k 0:=rfl
  rw [e1]
  show (bif decide (_ ≥ ((iG c.places (bN c) c.places.length (fX c c.txs.length).machines).length:Int)) then true else bif ((iG c.places (bN c) c.places.length (fX c c.txs.length).machines).getD _ Y4).alive then !dQ ((iG c.places (bN c) c.places.length (fX c c.txs.length).machines).getD _ Y4) (r:Int) else false)=false
  rw [hM.len,decide_eq_false (by omega),cond_false,hx]
  cases ((iG c.places (bN c) c.places.length (fX c c.txs.length).machines).getD _ Y4).alive <;>rfl
 ·have g:=hokd.2.2.2.2 j hj
  refine ⟨?_,by show ∀ k,k<_→_<((bN c).length:Int);rw [hql];have:=g.2.1;rw [hR.places] at this;exact this,by show ∀ k,k<_→_<((bN c).length:Int);rw [hql];have:=g.2.2;rw [hR.places] at this;exact this⟩
  have g1:=g.1
  unfold jQ at g1 ⊢
  rw [hR.like.len,hR.clock] at g1
  show (bif (bif (bif !dec (dV ((fX c c.txs.length).txs.getD j Y5)) then true else _) then true else decide (_ ≥ ((iG c.places (bN c) c.places.length (fX c c.txs.length).machines).length:Int))) then true else decide (_ > c.clock))=false
  rw [hM.len];exact g1
end
section
theorem UI:cS Y4:=⟨⟨Nat.zero_le _,Nat.zero_le _,Nat.zero_le _⟩,rfl,fun j hj=>absurd hj (Nat.not_lt_zero _),fun j hj=>absurd hj (Nat.not_lt_zero _)⟩
theorem KD {c:GCluster} {m0:Int} (hk:rF c.machines m0=true) (j:Nat):(jF c.machines m0).getD j Y4=if j=m0.toNat then Y4 else c.machines.getD j Y4:=by
 have:=LH hk
 unfold jF
 rw [if_pos hk,gW (by omega)]
theorem x7 (ms:List GMachine) (m0:Int):(jF ms m0).length=ms.length:=by unfold jF;split <;>simp
abbrev killC (c:GCluster) (m0:Int):GCluster:={ c with machines:=jF c.machines m0 }
theorem WP {c:GCluster} (hok:ClusOk c) {m0:Int} (hk:rF c.machines m0=true):ClusOk (killC c m0):=by
 refine ⟨⟨hok.1.1,hok.1.2.1,by show 1≤(jF c.machines m0).length∧(jF c.machines m0).length≤8;rw [x7];exact hok.1.2.2.1,hok.1.2.2.2⟩,hok.2.1,fun j hj=>?_,fun r hr k hkk=>?_,fun j hj=>?_⟩
 ·have hj:j<(jF c.machines m0).length:=hj
  rw [x7] at hj
  show cS ((jF c.machines m0).getD j Y4)
  rw [KD hk]
  split
  ·exact UI
  ·exact hok.2.2.1 j hj
 ·have g:=hok.2.2.2.1 r hr k hkk
  unfold l6 at g ⊢
  show (bif decide (mAt c r k ≥ ((jF c.machines m0).length:Int)) then true else bif ((jF c.machines m0).getD (mAt c r k).toNat Y4).alive then !dQ ((jF c.machines m0).getD (mAt c r k).toNat Y4) r else false)=false
  rw [x7,KD hk]
  split
  ·cases c1:decide (mAt c r k ≥ (c.machines.length:Int)) with
   | true=>rw [c1] at g;cases g
   | false=>rfl
  ·exact g
 ·have g:=hok.2.2.2.2 j hj
  refine ⟨?_,g.2⟩
  have g1:=g.1
  unfold jQ at g1 ⊢
  show (bif (bif (bif !dec (dV (c.txs.getD j Y5)) then true else _) then true else decide (_ ≥ ((jF c.machines m0).length:Int))) then true else decide (_ > c.clock))=false
  rw [x7];exact g1
theorem oT {c:GCluster} (hok:ClusOk c):∀ {i j:Nat},i<j→j<c.txs.length→(c.txs.getD i Y5).id<(c.txs.getD j Y5).id:=fun {i j} hij hj=>by
 have h1:∀ k,k+1<c.txs.length→(c.txs.getD k Y5).id<(c.txs.getD (k+1) Y5).id:=fun k hk=>by
  have g:=(hok.2.2.2.2 (k+1) hk).1
  unfold jQ at g
  have g:=(bV.1 (bV.1 (bV.1 g).1).1).2
  rw [decide_eq_true (show ((k+1:Nat):Int) > 0 by omega),cond_true,show (((k+1:Nat):Int) - 1).toNat=k by omega] at g
  have:=of_decide_eq_false g
  omega
 induction j with
 | zero=>omega
 | succ j ih =>
  have:=h1 j hj
  by_cases e:i=j
  ·subst e;exact this
  ·have:=ih (by omega) (by omega);omega
abbrev UZ (c:GCluster) (id home:Int):GCluster:={ c with txs:=c.txs ++ [tU id home] }
theorem QD {c:GCluster} {id:Int} (h:sN c id=false):(1≤id∧id≤1000000)∧c.txs.length≠60∧(0<c.txs.length→(c.txs.getD (c.txs.length - 1) Y5).id<id):=by
 unfold sN at h
 obtain ⟨h1,h2⟩:=bV.1 h
 obtain ⟨h3,h4⟩:=bV.1 h1
 refine ⟨bR.1 (by simpa using h3),fun e=>?_,fun hp=>?_⟩
 ·have:=of_decide_eq_false h4;omega
 ·rw [decide_eq_true (by omega),cond_true] at h2
  have:=of_decide_eq_false h2
  rw [show ((c.txs.length:Int) - 1).toNat=c.txs.length - 1 by omega] at this
  omega
theorem WJ {c:GCluster} (hok:ClusOk c) {id:Int} (h:sN c id=false) {j:Nat} (hj:j<c.txs.length):(c.txs.getD j Y5).id<id:=by
 have h3:=(QD h).2.2 (by omega)
 by_cases e:j=c.txs.length - 1
 ·rw [e];exact h3
 ·have:=oT hok (i:=j) (j:=c.txs.length - 1) (by omega) (by omega)
  omega
theorem XN (c:GCluster) (id home:Int) (j:Nat):(UZ c id home).txs.getD j Y5=if j<c.txs.length then c.txs.getD j Y5 else if j=c.txs.length then tU id home else Y5:=by
 show (c.txs ++ [tU id home]).getD j Y5=_
 simp only [List.getD_eq_getElem?_getD]
 by_cases c1:j<c.txs.length
 ·rw [if_pos c1,List.getElem?_append_left c1]
 ·rw [if_neg c1,List.getElem?_append_right (by omega)]
  by_cases c2:j=c.txs.length
  ·rw [if_pos c2,c2,Nat.sub_self];rfl
  ·rw [if_neg c2]
   rw [List.getElem?_eq_none (by simp;omega)];rfl
theorem XQ {id home:Int} (h1:1≤id∧id≤1000000) (h2:0≤home∧home≤7):dV (tU id home):=by
 refine ⟨?_,?_,?_⟩
 ·unfold m7 tU
  simp only [List.length_nil]
  omega
 ·exact fun j hj=>absurd hj (Nat.not_lt_zero _)
 ·exact fun j hj=>absurd hj (Nat.not_lt_zero _)
theorem X2 {c:GCluster} (hok:ClusOk c) {id home:Int} (h:sN c id=false) (h3:yT c home=false):ClusOk (UZ c id home):=by
 obtain ⟨i1,i2,i3⟩:=QD h
 have hh:0≤home∧home<c.machines.length:=by
  unfold yT at h3
  have:=bR.1 (show inB home 0 ((c.machines.length:Int) - 1)=true by simpa using (bV.1 h3).1)
  omega
 have hml:=hok.1.2.2.1
 have hlen:(UZ c id home).txs.length=c.txs.length+1:=by show (c.txs ++ [tU id home]).length=_;simp
 refine ⟨⟨hok.1.1,hok.1.2.1,hok.1.2.2.1,by rw [hlen];have:=hok.1.2.2.2;omega⟩,hok.2.1,hok.2.2.1,hok.2.2.2.1,fun j hj=>?_⟩
 rw [hlen] at hj
 have hg:=XN c id home
 by_cases c1:j<c.txs.length
 ·have g:=hok.2.2.2.2 j c1
  have e1:=hg j
  rw [if_pos c1] at e1
  unfold jQ
  rw [e1]
  refine ⟨?_,g.2⟩
  have g1:=g.1
  unfold jQ at g1
  by_cases c2:(j:Int) > 0
  ·have e2:=hg ((j:Int) - 1).toNat
   rw [if_pos (by omega)] at e2
   rw [e2];exact g1
  ·rw [decide_eq_false c2] at g1 ⊢;exact g1
 ·have hj2:j=c.txs.length:=by omega
  subst hj2
  have e1:=hg c.txs.length
  rw [if_neg (Nat.lt_irrefl _),if_pos rfl] at e1
  unfold jQ
  rw [e1]
  refine ⟨?_,fun k hk=>absurd hk (Nat.not_lt_zero _),fun k hk=>absurd hk (Nat.not_lt_zero _)⟩
  rw [dG (XQ i1 (by omega))]
  refine bV.2 ⟨bV.2 ⟨bV.2 ⟨rfl,?_⟩,decide_eq_false (by show ¬ home ≥ (c.machines.length:Int);omega)⟩,decide_eq_false (by show ¬ (0:Int) > c.clock;have:=hok.1.2.1;omega)⟩
  by_cases c2:((c.txs.length:Nat):Int) > 0
  ·have e2:=hg (((c.txs.length:Nat):Int) - 1).toNat
   rw [if_pos (by omega)] at e2
   rw [decide_eq_true c2,cond_true,e2]
   have:=WJ hok h (j:=(((c.txs.length:Nat):Int) - 1).toNat) (by omega)
   exact decide_eq_false (by show ¬ id≤_;omega)
  ·rw [decide_eq_false c2];rfl
end
section
def QY (n m:Nat):Bool:=decide ((f5 n m).length=n) && (List.range n).all fun r=>decide (1≤((f5 n m).getD r Y3).machines.length∧((f5 n m).getD r Y3).machines.length≤3) && (List.range 3).all fun k => !(decide (k<((f5 n m).getD r Y3).machines.length) && sQ ((f5 n m).getD r Y3).machines k)
def YJ (n m:Nat):Bool:=(List.range m).all fun i=>decide (((qG n m).machines.getD i Y4).copies.length≤6) && (List.range 6).all fun j => !(decide (j<((qG n m).machines.getD i Y4).copies.length) && o3 ((qG n m).machines.getD i Y4).copies j)
def YA (n m:Nat):Bool:=(List.range n).all fun r=>(List.range 3).all fun k => !(decide (k<((f5 n m).getD r Y3).machines.length) && l6 (qG n m) r k)
theorem VF:((List.range 6).all fun n=>(List.range 8).all fun m=>QY (n+1) (m+1) && YJ (n+1) (m+1) && YA (n+1) (m+1))=true:=by decide +kernel
theorem XD {n m:Nat} (hn:1≤n∧n≤6) (hm:1≤m∧m≤8):ClusOk (qG n m):=by
 have h:=List.all_eq_true.1 VF (n - 1) (List.mem_range.2 (by omega))
 have h:=List.all_eq_true.1 h (m - 1) (List.mem_range.2 (by omega))
 rw [show n - 1+1=n by omega,show m - 1+1=m by omega] at h
 simp only [Bool.and_eq_true] at h
 obtain ⟨⟨h1,h2⟩,h3⟩:=h
 unfold QY at h1
 simp only [Bool.and_eq_true,decide_eq_true_eq] at h1
 obtain ⟨h0,h1⟩:=h1
 have hml:(qG n m).machines.length=m:=by show ((List.range m).map _).length=m;simp
 have hpl:∀ r,r<n→KL ((f5 n m).getD r Y3):=fun r hr=>by
  have g:=List.all_eq_true.1 h1 r (List.mem_range.2 hr)
  simp only [Bool.and_eq_true,decide_eq_true_eq] at g
  refine ⟨g.1,fun k hk=>?_⟩
  have g2:=List.all_eq_true.1 g.2 k (List.mem_range.2 (by omega))
  rw [decide_eq_true hk] at g2
  simpa using g2
 refine ⟨⟨by show (1:Int)≤1∧(1:Int)≤1000000;omega,by show (0:Int)≤0∧(0:Int)≤1000000;omega,by rw [hml];exact hm,Nat.zero_le _⟩,⟨by show 1≤(f5 n m).length∧(f5 n m).length≤6;omega,fun r hr=>hpl r (by have hr:r<(f5 n m).length:=hr;omega)⟩,fun i hi=>?_,fun r hr k hk=>?_,fun j hj=>absurd hj (Nat.not_lt_zero _)⟩
 ·rw [hml] at hi
  have g:=List.all_eq_true.1 h2 i (List.mem_range.2 hi)
  simp only [Bool.and_eq_true,decide_eq_true_eq] at g
  have e:(qG n m).machines.getD i Y4=xQ n m i:=by
   show ((List.range m).map (xQ n m)).getD i Y4=_
   simp [List.getD_eq_getElem?_getD,hi]
  have hl:((qG n m).machines.getD i Y4).log=[]:=by rw [e];rfl
  have hc:((qG n m).machines.getD i Y4).cleared=[]:=by rw [e];rfl
  refine ⟨⟨g.1,by rw [hl];exact Nat.zero_le _,by rw [hc];exact Nat.zero_le _⟩,by rw [hc];rfl,fun j hj=>?_,fun j hj=>by rw [hl] at hj;exact absurd hj (Nat.not_lt_zero _)⟩
  have g2:=List.all_eq_true.1 g.2 j (List.mem_range.2 (by omega))
  rw [decide_eq_true hj] at g2
  simpa using g2
 ·have hr:r<(f5 n m).length:=hr
  have hk:k<((f5 n m).getD r Y3).machines.length:=hk
  have g:=List.all_eq_true.1 h3 r (List.mem_range.2 (by omega))
  have:=(hpl r (by omega)).1
  have g2:=List.all_eq_true.1 g k (List.mem_range.2 (by omega))
  rw [decide_eq_true hk] at g2
  simpa using g2
end
section
structure KeepT (t u:GTx):Prop where
 id:u.id=t.id
 home:u.home=t.home
 stamp:u.stamp=t.stamp
theorem KeepT.refl (t:GTx):KeepT t t:=⟨rfl,rfl,rfl⟩
theorem KeepT.trans {t u w:GTx} (h:KeepT t u) (k:KeepT u w):KeepT t w:=⟨k.id.trans h.id,k.home.trans h.home,k.stamp.trans h.stamp⟩
theorem BR {c:GCluster} (hok:ClusOk c) {id:Int} (hf:0≤bZ c id) {u:GTx} (hk:KeepT (bP c id) u) (hu:TxIn c u):ClusOk (pP c id u):=by
 have hi:=(fS hf).1
 have hget:∀ j,(c.txs.set (bZ c id).toNat u).getD j Y5=if j=(bZ c id).toNat then u else c.txs.getD j Y5:=fun j=>gW hi j
 have hid:∀ j,((c.txs.set (bZ c id).toNat u).getD j Y5).id=(c.txs.getD j Y5).id:=fun j=>by
  rw [hget];split
  ·rename_i e;subst e;exact hk.id
  ·rfl
 refine ⟨⟨hok.1.1,hok.1.2.1,hok.1.2.2.1,by show (c.txs.set _ u).length≤60;rw [List.length_set];exact hok.1.2.2.2⟩,hok.2.1,hok.2.2.1,hok.2.2.2.1,fun j hj=>?_⟩
 have hj:j<c.txs.length:=by
  have:j<(c.txs.set (bZ c id).toNat u).length:=hj
  rwa [List.length_set] at this
 have g:=hok.2.2.2.2 j hj
 have e2:(pP c id u).txs=c.txs.set (bZ c id).toNat u:=rfl
 have e3:(pP c id u).places=c.places:=rfl
 rw [e2,e3]
 refine ⟨?_,?_,?_⟩
 ·have g1:=g.1
  unfold jQ at g1 ⊢
  rw [e2]
  have e4:(pP c id u).machines.length=c.machines.length:=rfl
  have e5:(pP c id u).clock=c.clock:=rfl
  rw [e4,e5]
  obtain ⟨g2,g3⟩:=bV.1 g1
  obtain ⟨g4,g5⟩:=bV.1 g2
  obtain ⟨g6,g7⟩:=bV.1 g4
  rw [hid,hid]
  refine bV.2 ⟨bV.2 ⟨bV.2 ⟨?_,g7⟩,?_⟩,?_⟩
  ·rw [hget];split
   ·rw [dG hu.ok];rfl
   ·exact g6
  ·rw [hget];split
   ·exact decide_eq_false (by have:=hu.home;omega)
   ·exact g5
  ·rw [hget];split
   ·rename_i e;subst e;rw [hk.stamp];exact g3
   ·exact g3
 ·rw [hget];split
  ·exact fun k hk=>(hu.note k hk).2
  ·exact g.2.1
 ·rw [hget];split
  ·exact fun k hk=>(hu.set k hk).2
  ·exact g.2.2
theorem MT {t:GTx} {n:GNote}:∀ y ∈ (bT t n).1.reads,y ∈ t.reads∨y=n:=fun y hy=>by
 unfold bT at hy
 cases h1:t.reads.any (dD n.region n.slot) with
 | true=>rw [h1] at hy;exact .inl hy
 | false =>
  rw [h1] at hy
  cases h2:decide ((t.reads.length:Int)=12) with
  | true=>rw [h2] at hy;exact .inl hy
  | false =>
   rw [h2] at hy
   exact (l0.1 hy).symm
theorem tW (t:GTx) (n:GNote):KeepT t (bT t n).1∧(bT t n).1.phase=t.phase∧(bT t n).1.done=t.done:=by
 unfold bT
 cases t.reads.any (dD n.region n.slot) with
 | true=>exact ⟨.refl _,rfl,rfl⟩
 | false=>cases decide ((t.reads.length:Int)=12) <;>exact ⟨⟨rfl,rfl,rfl⟩,rfl,rfl⟩
theorem v9 (t:GTx) (s:GSet):KeepT t (dW t s).1∧(dW t s).1.phase=t.phase∧(dW t s).1.done=t.done∧(dW t s).1.reads=t.reads:=by
 unfold dW
 cases t.sets.any (dF s.region s.slot) with
 | true=>exact ⟨⟨rfl,rfl,rfl⟩,rfl,rfl,rfl⟩
 | false=>cases decide ((t.sets.length:Int)=12) <;>exact ⟨⟨rfl,rfl,rfl⟩,rfl,rfl,rfl⟩
theorem PU {t:GTx} {s:GSet}:∀ y ∈ (dW t s).1.sets,y ∈ t.sets∨y.region=s.region:=fun y hy=>by
 unfold dW at hy
 cases h1:t.sets.any (dF s.region s.slot) with
 | true =>
  rw [h1] at hy
  rcases List.mem_or_eq_of_mem_set hy with hy | rfl
  ·exact .inl hy
  ·exact .inr rfl
 | false =>
  rw [h1] at hy
  cases h2:decide ((t.sets.length:Int)=12) with
  | true=>rw [h2] at hy;exact .inl hy
  | false =>
   rw [h2] at hy
   rcases l0.1 hy with rfl | hy
   ·exact .inr rfl
   ·exact .inl hy
theorem EP {α:Type} {z:α} {P:α→Prop} {xs:List α}:(∀ k,k<xs.length→P (xs.getD k z)) ↔ ∀ x ∈ xs,P x:=by
 constructor
 ·intro h x hx
  obtain ⟨i,hi,rfl⟩:=List.mem_iff_getElem.1 hx
  have:=h i hi
  simpa [hi] using this
 ·exact fun h k hk=>h _ (bY hk)
theorem FJ {c:GCluster} {t:GTx} (ht:TxIn c t) {n:GNote} (hn:noteB n=true) (hr:0≤n.region∧n.region<c.places.length):TxIn c (bT t n).1:=by
 have hk:=(tW t n).1
 refine ⟨(sM ht.ok hn).1,by rw [hk.home];exact ht.home,(EP (z:=Y8) (P:=fun y:GNote=>0≤y.region∧y.region<c.places.length)).2 fun y hy=>?_,by rw [AC];exact ht.set⟩
 rcases MT y hy with hy | rfl
 ·exact (EP (z:=Y8) (P:=fun y:GNote=>0≤y.region∧y.region<c.places.length)).1 ht.note y hy
 ·exact hr
theorem IN {c:GCluster} {t:GTx} (ht:TxIn c t) {s:GSet} (hn:setB s=true) (hr:0≤s.region∧s.region<c.places.length):TxIn c (dW t s).1:=by
 have hk:=v9 t s
 refine ⟨(H9 ht.ok hn).1,by rw [hk.1.home];exact ht.home,by rw [hk.2.2.2];exact ht.note,(EP (z:=Y7) (P:=fun y:GSet=>0≤y.region∧y.region<c.places.length)).2 fun y hy=>?_⟩
 rcases PU y hy with hy | e
 ·exact (EP (z:=Y7) (P:=fun y:GSet=>0≤y.region∧y.region<c.places.length)).1 ht.set y hy
 ·rw [e];exact hr
theorem E4 (c:GCluster) (t:GTx) (r s:Int):KeepT t (fH c t r s).1∧(fH c t r s).1.phase=t.phase∧(fH c t r s).1.done=t.done:=by
 unfold fH
 cases t.sets.any (dF r s) with
 | true=>exact ⟨.refl _,rfl,rfl⟩
 | false =>
  cases t.reads.any (dD r s) with
  | true=>exact ⟨.refl _,rfl,rfl⟩
  | false =>
   cases (b8 c r.toNat 0).alive with
   | false=>exact ⟨.refl _,rfl,rfl⟩
   | true =>
    cases eW (fB c r s).head with
    | true=>exact ⟨.refl _,rfl,rfl⟩
    | false =>
     cases (bT t (dJ c r s)).2 with
     | true=>exact tW _ _
     | false=>exact ⟨.refl _,rfl,rfl⟩
theorem K1 {c:GCluster} (hok:ClusOk c) {t:GTx} (ht:TxIn c t) {r s:Int} (hr:0≤r∧r<c.places.length) (hs:0≤s∧s≤5):TxIn c (fH c t r s).1:=by
 unfold fH
 cases t.sets.any (dF r s) with
 | true=>exact ht
 | false =>
  cases t.reads.any (dD r s) with
  | true=>exact ht
  | false =>
   cases ha:(b8 c r.toNat 0).alive with
   | false=>exact ht
   | true =>
    cases eW (fB c r s).head with
    | true=>exact ht
    | false =>
     have:=FJ ht (IP hok hr hs ha) (n:=dJ c r s) hr
     cases (bT t (dJ c r s)).2 with
     | true=>exact this
     | false=>exact ht
theorem vM {n:GNote}:noteB n=true ↔ (0≤n.region∧n.region≤5)∧(0≤n.slot∧n.slot≤5)∧(0≤n.version∧n.version≤1000000)∧(-1000000000≤n.value∧n.value≤1000000000):=by
 rw [← bR, ← bR, ← bR, ← bR]
 unfold noteB
 cases inB n.region 0 5 <;>cases inB n.slot 0 5 <;>cases inB n.version 0 1000000 <;>cases inB n.value (-1000000000) 1000000000 <;>simp
theorem PX {c:GCluster} {t:GTx} {r:Int} (h:iB c t r=0):noteB (gC c t r)=true:=by
 have h7:=k9.1 (CS h).2.2.2.2.1
 unfold lP at h7
 dsimp only at h7
 exact vM.2 ⟨h7.1,h7.2.1,by show 0≤zY c t r∧zY c t r≤1000000;omega,by show (-1000000000:Int)≤0∧(0:Int)≤1000000000;omega⟩
theorem P4 {c:GCluster} {t:GTx} (ht:TxIn c t) {r:Int} (h:iB c t r=0):TxIn c (tN c t r):=by
 have hf:=CS h
 exact IN (FJ ht (PX h) (n:=gC c t r) hf.1) hf.2.2.2.2.1 (s:=lP c t r) hf.1
theorem NB (c:GCluster) (t:GTx) (r:Int):KeepT t (tN c t r)∧(tN c t r).phase=t.phase∧(tN c t r).done=t.done:=by
 have h1:=tW t (gC c t r)
 have h2:=v9 (bT t (gC c t r)).1 (lP c t r)
 exact ⟨h1.1.trans h2.1,h2.2.1.trans h1.2.1,h2.2.2.1.trans h1.2.2⟩
def wH (t:GTx) (r s:Int):Int:=if 0≤b0 (dD r s) t.reads then (lH t r s).version else 0
noncomputable def LE (c:GCluster) (t:GTx) (r s v:Int) (u:Bool):GSet:=⟨r,s,v,u,wH (eJ c t r s).1 r s⟩
noncomputable def wP (c:GCluster) (t:GTx) (r s v:Int) (u:Bool):GTx×Int :=
 if (eJ c t r s).2.2=0 then (if (dM (eJ c t r s).1 (LE c t r s v u)).2=true then ((dM (eJ c t r s).1 (LE c t r s v u)).1,0) else (t,9)) else (t,(eJ c t r s).2.2)
noncomputable def pH (c:GCluster) (id r s v:Int) (u:Bool):GCluster×Int :=
 if (wP c (bP c id) r s v u).2=0 then (pP c id (wP c (bP c id) r s v u).1,0) else (c,(wP c (bP c id) r s v u).2)
open Classical in
noncomputable def lI (c:GCluster) (id r s v:Int):GCluster×Int :=
 if ClusOk c then (if cY c id=0 then (bif inB v (-1000000000) 1000000000 then pH c id r s v true else (c,10)) else (c,cY c id)) else (Y6,1)
open Classical in
noncomputable def pX (c:GCluster) (id r s:Int):GCluster×Int :=
 if ClusOk c then (if cY c id=0 then pH c id r s 0 false else (c,cY c id)) else (Y6,1)
theorem LW {c:GCluster} (hok:ClusOk c) {t:GTx} (ht:TxIn c t) {r s:Int}:TxIn c (eJ c t r s).1∧KeepT t (eJ c t r s).1:=by
 unfold eJ
 cases hc:pZ c r s with
 | true=>exact ⟨ht, .refl _⟩
 | false =>
  have:=yO hc
  exact ⟨K1 hok ht this.1 this.2,(E4 c t r s).1⟩
theorem WN {c:GCluster} (hok:ClusOk c) {t:GTx} (ht:TxIn c t) {r s v:Int} {u:Bool} (h0:(wP c t r s v u).2=0):TxIn c (wP c t r s v u).1∧KeepT t (wP c t r s v u).1:=by
 obtain ⟨g1,g2⟩:=LW hok ht (r:=r) (s:=s)
 unfold wP at h0 ⊢
 by_cases h1:(eJ c t r s).2.2=0
 ·rw [if_pos h1] at h0 ⊢
  have hc:pZ c r s=false:=by
   cases hc:pZ c r s with
   | false=>rfl
   | true=>unfold eJ at h1;rw [hc] at h1;exact absurd (show (5:Int)=0 from h1) (by decide)
  have hr:=(yO hc).1
  by_cases h2:(dM (eJ c t r s).1 (LE c t r s v u)).2=true
  ·rw [if_pos h2] at h0 ⊢
   obtain ⟨q1,q2,q3,q4⟩:=ER h2
   rw [q4]
   exact ⟨IN g1 q2 (s:=LE c t r s v u) hr,g2.trans (v9 _ _).1⟩
  ·rw [if_neg h2] at h0
   exact absurd (show (9:Int)=0 from h0) (by decide)
 ·rw [if_neg h1] at h0
  exact absurd h0 h1
theorem NW {c:GCluster} (hok:ClusOk c) {id:Int} (h0:cY c id=0) (r s v:Int) (u:Bool):ClusOk (pH c id r s v u).1:=by
 have hge:=(jY h0).2.2
 unfold pH
 by_cases h:(wP c (bP c id) r s v u).2=0
 ·rw [if_pos h]
  have:=WN hok (hok.txIn (fS hge).1) h
  exact BR hok hge this.2 this.1
 ·rw [if_neg h];exact hok
noncomputable def opR (c:GCluster) (o:GOp):GCluster×Int :=
 if o.kind=1 then rR c o.id o.a
 else if o.kind=2 then ((mQ c o.id o.a o.b).1,(mQ c o.id o.a o.b).2.2)
 else if o.kind=3 then lI c o.id o.a o.b o.c
 else if o.kind=4 then ((kW c o.id o.a).1,(kW c o.id o.a).2.2)
 else if o.kind=5 then pX c o.id o.a o.b
 else if o.kind=6 then lJ c o.id
 else if o.kind=7 then eF c o.id
 else if o.kind=10 then kP c o.id
 else if o.kind=8 then ((q7 c o.a).1,bif !(q7 c o.a).2 then 1 else 0)
 else if o.kind=9 then (f9 c,bif (f9 c).lost then 1 else 0)
 else (Y6,0)
noncomputable def opM (c:GCluster) (o:GOp):GCluster×Int:=if (opR c o).1.machines.length=0 then (c,1) else opR c o
noncomputable def iY (c:GCluster) (l:List GOp):Nat→GCluster×List Int
 | 0=>(c,[])
 | i+1=>((opM (iY c l i).1 (l.getD i ZC)).1,(iY c l i).2 ++ [(opM (iY c l i).1 (l.getD i ZC)).2])
open Classical in
noncomputable def rI (c:GCluster) (l:List GOp):GCluster×List Int:=if ClusOk c∧l.length≤300 then iY c l l.length else (Y6,[])
theorem P6 {c:GCluster} (hok:ClusOk c) (id home:Int):ClusOk (rR c id home).1:=by
 unfold rR
 rw [if_pos hok]
 cases h2:sN c id with
 | true=>exact hok
 | false =>
  cases h3:yT c home with
  | true=>exact hok
  | false=>exact X2 hok h2 h3
theorem T7 {c:GCluster} (hok:ClusOk c) (id r s:Int):ClusOk (mQ c id r s).1:=by
 unfold mQ
 rw [if_pos hok]
 by_cases h0:cY c id=0
 ·rw [if_pos h0]
  have hge:=(jY h0).2.2
  cases hc:pZ c r s with
  | true=>exact hok
  | false =>
   have:=yO hc
   exact BR hok hge (E4 c _ r s).1 (K1 hok (hok.txIn (fS hge).1) this.1 this.2)
 ·rw [if_neg h0];exact hok
theorem RN {c:GCluster} (hok:ClusOk c) (id r s v:Int):ClusOk (lI c id r s v).1:=by
 unfold lI
 rw [if_pos hok]
 by_cases h0:cY c id=0
 ·rw [if_pos h0]
  cases inB v (-1000000000) 1000000000 with
  | true=>exact NW hok h0 r s v true
  | false=>exact hok
 ·rw [if_neg h0];exact hok
theorem T4 {c:GCluster} (hok:ClusOk c) (id r s:Int):ClusOk (pX c id r s).1:=by
 unfold pX
 rw [if_pos hok]
 by_cases h0:cY c id=0
 ·rw [if_pos h0];exact NW hok h0 r s 0 false
 ·rw [if_neg h0];exact hok
theorem SF {c:GCluster} (hok:ClusOk c) (id r:Int):ClusOk (kW c id r).1:=by
 unfold kW
 rw [if_pos hok]
 by_cases h0:cY c id=0
 ·rw [if_pos h0]
  have hge:=(jY h0).2.2
  by_cases h1:iB c (bP c id) r=0
  ·rw [if_pos h1]
   exact BR hok hge (NB c _ r).1 (P4 (hok.txIn (fS hge).1) h1)
  ·rw [if_neg h1];exact hok
 ·rw [if_neg h0];exact hok
theorem O0 {c:GCluster} (hok:ClusOk c) (id:Int):ClusOk (lJ c id).1:=by
 unfold lJ
 rw [if_pos hok]
 by_cases h0:cY c id=0
 ·rw [if_pos h0]
  have hge:=(jY h0).2.2
  have ht:=hok.txIn (fS hge).1
  refine BR (u:=goT (bP c id)) hok hge ⟨rfl,rfl,rfl⟩ (ht.same ⟨rfl,rfl,rfl,rfl⟩ ?_ ?_ ht.ok.1.2.2.2.2.1)
  ·show (1:Int)≤2∧(2:Int)≤9;omega
  ·show (0:Int)≤0∧(0:Int)≤1000;omega
 ·rw [if_neg h0];exact hok
theorem SQ {c:GCluster} (hok:ClusOk c) (m0:Int):ClusOk (q7 c m0).1:=by
 unfold q7
 rw [if_pos hok]
 cases hk:rF c.machines m0 with
 | true=>exact WP hok hk
 | false =>
  have e:jF c.machines m0=c.machines:=by unfold jF;rw [if_neg (by rw [hk];simp)]
  show ClusOk { c with machines:=jF c.machines m0 }
  rw [e];exact hok
theorem XM {c:GCluster} (hok:ClusOk c) (b:Bool):ClusOk { c with lost:=b }:=hok
theorem MY {c:GCluster} (hok:ClusOk c):ClusOk (f9 c)∨f9 c=Y6:=by
 by_cases h:c.config=1000000
 ·right;unfold f9;rw [if_neg fun e=>e.2 h]
 ·left
  by_cases h2:(oQ c).length=0
  ·rw [FE hok h h2];exact WC hok h h2
  ·have h3:(jT (fU c) c.places c.places.length).length > 0:=Nat.pos_of_ne_zero h2
   have e:f9 c = { c with lost:=true }:=by
    unfold f9
    rw [if_pos ⟨hok,h⟩,if_pos h3]
   rw [e];exact XM hok true
theorem PZ {c:GCluster} (hok:ClusOk c) (id:Int):ClusOk (kP c id).1:=by
 unfold kP
 rw [if_pos hok]
 exact N4 hok
theorem YW {c:GCluster} (hok:ClusOk c) (o:GOp):ClusOk (opR c o).1∨(opR c o).1=Y6:=by
 unfold opR
 split
 ·exact .inl (P6 hok _ _)
 split
 ·exact .inl (T7 hok _ _ _)
 split
 ·exact .inl (RN hok _ _ _ _)
 split
 ·exact .inl (SF hok _ _)
 split
 ·exact .inl (T4 hok _ _ _)
 split
 ·exact .inl (O0 hok _)
 split
 ·exact .inl (xL hok _)
 split
 ·exact .inl (PZ hok _)
 split
 ·exact .inl (SQ hok _)
 split
 ·exact MY hok
 ·exact .inr rfl
theorem YX {c:GCluster} (hok:ClusOk c) (o:GOp):ClusOk (opM c o).1:=by
 unfold opM
 by_cases h:(opR c o).1.machines.length=0
 ·rw [if_pos h];exact hok
 ·rw [if_neg h]
  rcases YW hok o with h1 | h1
  ·exact h1
  ·rw [h1] at h;exact absurd rfl h
theorem DQ {c:GCluster} (hok:ClusOk c) (l:List GOp):∀ i,ClusOk (iY c l i).1
 | 0=>hok
 | i+1=>YX (DQ hok l i) _
theorem IU (c:GCluster) (l:List GOp):∀ i,(iY c l i).2.length=i
 | 0=>rfl
 | i+1=>by
  show ((iY c l i).2 ++ _).length=i+1
  rw [List.length_append,IU c l i];rfl
end
section
theorem P0 (c:GCluster) (t:GTx) (r s:Int):(eJ c t r s).2.2≠1:=by
 have hf:∀ u:Bool,nX u≠1:=fun u=>by cases u <;>decide
 unfold eJ
 cases pZ c r s with
 | true=>exact (by decide:(5:Int)≠1)
 | false =>
  show (fH c t r s).2.2.2≠1
  unfold fH
  cases t.sets.any (dF r s) with
  | true=>exact hf _
  | false =>
   cases t.reads.any (dD r s) with
   | true=>exact hf _
   | false =>
    cases (b8 c r.toNat 0).alive with
    | false=>exact (by decide:(6:Int)≠1)
    | true =>
     cases eW (fB c r s).head with
     | true=>exact (by decide:(7:Int)≠1)
     | false =>
      cases (bT t (dJ c r s)).2 with
      | false=>exact (by decide:(9:Int)≠1)
      | true=>exact hf _
theorem NR (c:GCluster) (hb:D.bds eA (bK c)) (hok:ClusOk c) (id r s v:Int) (u:Bool) (h0:cY c id=0) :
  yN Tryz.prog 226 [vR (bK c),vI (bZ c id),vI r,vI s,vI v,vB u] (pH c id r s v u).1 (pH c id r s v u).2:=by
 have b3:c.txs.length≤1048576:=hb.2.2.2.2.1.1
 have hge:=(jY h0).2.2
 have hlt:=lT (c:=c) (id:=id)
 have hin:=fS hge
 have ht:=hok.tx hin.1
 have hq:=(LW hok (hok.txIn hin.1) (r:=r) (s:=s)).1.ok
 have hcode:=P0 c (bP c id) r s
 refine aD Tryz.func226 fun B0 r_ D_ w0=>?_
 refine d5 TT_ok rfl ?_
 refine aS 6 fun r_=>?_
 refine aE ?_
 refine aP (ZG 901 6001 (ZG 902 6002 (ZG 903 6003 (gR c hb)))) fun _ _=>?_
 refine aM ?_
 refine a9 (d6 6003 (bZ c id) 77 rfl rfl rfl rfl rfl rfl ⟨hge,hlt⟩) ?_
 refine a9 (aV 77 4 78) ?_
 refine a9 (aV 77 5 79) ?_
 refine dC (ι:=Unit) (fun _=>[(15, .a (.p 15 0)),(16,vI (eJ c (bP c id) r s).2.1),(17,vI (eJ c (bP c id) r s).2.2)]) (fun _=>[(15, .row (r7 (eJ c (bP c id) r s).1 80 81)),(80,bE 5 cR Y8 (eJ c (bP c id) r s).1.reads),(81,bE 5 cH Y7 (eJ c (bP c id) r s).1.sets)]) (fun _=>True) [78,79] [] rfl rfl ?_ ?_
 ·refine aW [78,79] [0,1,2,3,4,6,7,5,8,9,10,11,12,13,14,15,16] fun B0 H0=>?_
  refine vF (uZ 29 rfl rfl rfl) ?_
  refine aY [5,8,9,10,11,12,13,14,15,16] ?_
  refine cZ 8 13 rfl rfl (by kernel_rfl) (iV (yV c hb hok (bP c id) ht r s) rfl rfl (ZF _) (fun _=>rfl) rfl rfl rfl (fun _ _=>bA ?_)) (aR (bA ?_))
  ·refine aY [9,10,11,12,13,14,15,16] ?_
   refine bB 13 rfl (by kernel_rfl) (aR (bA ?_))
   refine bB 14 rfl (by kernel_rfl) (aR (bA ?_))
   refine aY [15,16] ?_
   refine aN ?_
   exact aK () trivial Nat.zero_lt_one
  ·skip
   refine aX 8 (yV c hb hok (bP c id) ht r s) fun _ _=>?_
   refine aY [9,10,11,12,14,15,16] ?_
   refine bB 14 rfl (by kernel_rfl) (aR (bA ?_))
   refine aY [15,16] ?_
   refine aN ?_
   exact aK () trivial Nat.zero_lt_one
 rintro ⟨⟩ _
 generalize hQ:(eJ c (bP c id) r s).1=q at hq
 generalize hC:(eJ c (bP c id) r s).2.2=code at hcode
 have hSet:wP c (bP c id) r s v u=if code=0 then (if (dM q ⟨r,s,v,u,wH q r s⟩).2=true then ((dM q ⟨r,s,v,u,wH q r s⟩).1,0) else (bP c id,9)) else (bP c id,code):=by
  unfold wP LE
  rw [hQ,hC]
 have hl1:=hq.1.2.2.2.2.2.1
 refine aT ?_
 refine iJ rfl (fun e=>?_) (fun e=>?_)
 ·rw [show pH c id r s v u=(c,code) from by unfold pH;rw [hSet,if_neg e];exact if_neg e]
  refine aE ?_
  refine aP (j7 c hb code hcode) fun _ _=>?_
  refine aM ?_
  refine aC (()) [(12,some 33),(13,none)] ?_ ?_ ?_
  ·exact ZF _
  ·exact wM
  ·trivial
 refine aE ?_
 refine mI TT_ok (tL q (by omega) r s) rfl rfl rfl rfl rfl ?_
 refine dC (ι:=Unit) (fun _=>[]) (fun _=>[(18, .row [.v (.int .i64 r), .v (.int .i64 s), .v (.int .i64 v), .v (.bool u), .v (.int .i64 (wH q r s))])]) (fun _=>True) [18] [] rfl rfl ?_ ?_
 ·refine aH (fun e2=>?_) (fun e2=>?_)
  ·have hi:=lL (z:=Y8) (show 0≤b0 (dD r s) q.reads by omega)
   have hi2:0≤b0 (dD r s) q.reads∧b0 (dD r s) q.reads<q.reads.length:=⟨by omega,by omega⟩
   rw [show wH q r s=(q.reads.getD (b0 (dD r s) q.reads).toNat Y8).version from if_pos hi2.1]
   refine aE ?_
   exact aK () trivial Nat.zero_lt_one
  ·rw [show wH q r s=0 from if_neg e2]
   refine aE ?_
   exact aK () trivial Nat.zero_lt_one
 rintro ⟨⟩ _
 have hbt:D.bds eA (cTx q):=BX _ (Nat.le_trans (EC hq) (by decide))
 refine aT ?_
 refine aP (ZG 901 171 (ZG 902 172 (kN q hbt ⟨r,s,v,u,wH q r s⟩))) fun _ _=>?_
 refine aM ?_
 by_cases h2:(dM q ⟨r,s,v,u,wH q r s⟩).2=true
 ·rw [if_pos e,if_pos h2] at hSet
  rw [show pH c id r s v u=(pP c id (dM q ⟨r,s,v,u,wH q r s⟩).1,0) from by unfold pH;rw [hSet];exact if_pos rfl]
  rw [h2]
  refine bW rfl (fun e=>by cases e) (fun _=>?_)
  refine aE ?_
  refine cK (j6 78 rfl rfl rfl) ?_
  refine aM ?_
  refine a9 (a7 77 4 171) ?_
  refine a9 (a7 77 5 172) ?_
  refine a9 (aZ 6003 77) ?_
  refine a9 (bH 6001 901) ?_
  refine a9 (bH 6002 902) ?_
  refine a9 (bH 6003 903) ?_
  refine aC (()) [(12,some 33),(13,none)] ?_ ?_ ?_
  ·exact ZF _
  ·exact ⟨⟨_,rfl,ZE _⟩,⟨_,rfl,ZE _⟩,⟨_,rfl,bS (OwnI.refl _)⟩,trivial⟩
  ·trivial
 ·rw [if_pos e,if_neg h2] at hSet
  rw [show pH c id r s v u=(c,9) from by unfold pH;rw [hSet];exact if_neg (show ¬ (9:Int)=0 by decide)]
  rw [show (dM q ⟨r,s,v,u,wH q r s⟩).2=false from by simpa using h2]
  refine bW rfl (fun _=>?_) (fun e=>by cases e)
  refine aE ?_
  refine dZ TT_ok (j7 c hb 9 (by decide)) rfl rfl (ZF _) (fun _=>rfl) rfl rfl rfl fun _ _=>?_
  refine aM ?_
  refine aC (()) [(12,some 33),(13,none)] ?_ ?_ ?_
  ·exact ZF _
  ·exact wM
  ·trivial
theorem LJ (c:GCluster) (hb:D.bds eA (bK c)) (id r s v:Int):yN Tryz.prog 211 [vR (bK c),vI id,vI r,vI s,vI v] (lI c id r s v).1 (lI c id r s v).2:=by
 have b3:c.txs.length≤1048576:=hb.2.2.2.2.1.1
 refine aD Tryz.func211 fun B0 r_ D_ w0=>?_
 refine d5 TT_ok rfl ?_
 refine aS 5 fun r_=>?_
 refine aE ?_
 refine aP (uN c hb id) fun _ _=>?_
 refine aM ?_
 by_cases hok:ClusOk c
 ·by_cases h0:cY c id=0
  ·rw [show gA c id=(bZ c id,0) from by unfold gA;rw [if_pos hok,if_pos h0]]
   refine bW rfl (fun e=>by cases e) (fun _=>?_)
   refine aE ?_
   refine aG (nK _) ?_
   refine aA (b := !inB v (-1000000000) 1000000000) (fun e=>?_) (fun e=>?_)
   ·rw [show lI c id r s v=(c,10) from by unfold lI;rw [if_pos hok,if_pos h0,show inB v (-1000000000) 1000000000=false from by simpa using e];rfl]
    refine aE ?_
    refine dZ TT_ok (j7 c hb 10 (by decide)) rfl rfl (ZF _) (fun _=>rfl) rfl rfl rfl fun _ _=>?_
    refine aM ?_
    refine aC (()) [(10,some 33),(11,none)] ?_ ?_ ?_
    ·exact ZF _
    ·exact wM
    ·trivial
   rw [show lI c id r s v=pH c id r s v true from by unfold lI;rw [if_pos hok,if_pos h0,show inB v (-1000000000) 1000000000=true from by simpa using e];rfl]
   refine aE ?_
   refine aP (NR c hb hok id r s v true h0) fun _ _=>?_
   refine aM ?_
   refine aC (()) [(10,some 33),(11,none)] ?_ ?_ ?_
   ·exact ZF _
   ·exact wM
   ·trivial
  ·rw [show lI c id r s v=(c,cY c id) from by unfold lI;rw [if_pos hok,if_neg h0]]
   rw [show gA c id=(-1,cY c id) from by unfold gA;rw [if_pos hok,if_neg h0]]
   refine iJ rfl (fun e=>?_) (fun e=>absurd e h0)
   refine aE ?_
   have h1:cY c id≠1:=by
    unfold cY
    cases decide (bZ c id<0) <;>cases kQ c id <;>cases (bP c id).phase == 1 <;>decide
   refine aP (j7 c hb (cY c id) h1) fun _ _=>?_
   refine aM ?_
   refine aC (()) [(10,some 33),(11,none)] ?_ ?_ ?_
   ·exact ZF _
   ·exact wM
   ·trivial
 ·rw [show lI c id r s v=(Y6,1) from if_neg hok]
  rw [show gA c id=(-1,1) from if_neg hok]
  refine bW rfl (fun _=>?_) (fun e=>by cases e)
  refine aE ?_
  refine aP (o8 c) fun _ _=>?_
  refine aM ?_
  refine aC (()) [(10,some 33),(11,none)] ?_ ?_ ?_
  ·exact ZF _
  ·exact wM
  ·trivial
theorem M6 (c:GCluster) (hb:D.bds eA (bK c)) (id r s:Int):yN Tryz.prog 213 [vR (bK c),vI id,vI r,vI s] (pX c id r s).1 (pX c id r s).2:=by
 have b3:c.txs.length≤1048576:=hb.2.2.2.2.1.1
 refine aD Tryz.func213 fun B0 r_ D_ w0=>?_
 refine d5 TT_ok rfl ?_
 refine aS 4 fun r_=>?_
 refine aE ?_
 refine aP (uN c hb id) fun _ _=>?_
 refine aM ?_
 by_cases hok:ClusOk c
 ·by_cases h0:cY c id=0
  ·rw [show gA c id=(bZ c id,0) from by unfold gA;rw [if_pos hok,if_pos h0]]
   refine bW rfl (fun e=>by cases e) (fun _=>?_)
   rw [show pX c id r s=pH c id r s 0 false from by unfold pX;rw [if_pos hok,if_pos h0]]
   refine aE ?_
   refine aP (NR c hb hok id r s 0 false h0) fun _ _=>?_
   refine aM ?_
   refine aC (()) [(8,some 33),(9,none)] ?_ ?_ ?_
   ·exact ZF _
   ·exact wM
   ·trivial
  ·rw [show pX c id r s=(c,cY c id) from by unfold pX;rw [if_pos hok,if_neg h0]]
   rw [show gA c id=(-1,cY c id) from by unfold gA;rw [if_pos hok,if_neg h0]]
   refine iJ rfl (fun e=>?_) (fun e=>absurd e h0)
   refine aE ?_
   have h1:cY c id≠1:=by
    unfold cY
    cases decide (bZ c id<0) <;>cases kQ c id <;>cases (bP c id).phase == 1 <;>decide
   refine aP (j7 c hb (cY c id) h1) fun _ _=>?_
   refine aM ?_
   refine aC (()) [(8,some 33),(9,none)] ?_ ?_ ?_
   ·exact ZF _
   ·exact wM
   ·trivial
 ·rw [show pX c id r s=(Y6,1) from if_neg hok]
  rw [show gA c id=(-1,1) from if_neg hok]
  refine bW rfl (fun _=>?_) (fun e=>by cases e)
  refine aE ?_
  refine aP (o8 c) fun _ _=>?_
  refine aM ?_
  refine aC (()) [(8,some 33),(9,none)] ?_ ?_ ?_
  ·exact ZF _
  ·exact wM
  ·trivial
end
section
abbrev RW:=Int×Option Addr×Nat×Nat
abbrev eR (p:RW):List D:=[.v (.int .i64 p.1), .v (.slice p.2.1 p.2.2.1 p.2.2.2)]
abbrev zR:RW:=(0,none,0,0)
theorem YR (rs:List RW) (hl:rs.length≤1048576) (al:Bool) (r0:Int) :
  Con Tryz.prog 70 [901,902,903] [.ag [.v (.bool al), .g 901, .g 902, .g 903],vI r0] [(901, .ro 2 rs.length fun i=>eR (rs.getD i zR))] (fun _:Unit=>True) (fun _=>[vI (b0 (fun p=>p.1 == r0) rs)]) fun _=>[]:=by
 refine aD Tryz.func70 fun B0 r_ D_ w0=>?_
 refine aE ?_
 refine aJ (ι:=Nat) (fun i=>[(5,vI i)]) (fun _=>[]) (fun i=>i≤rs.length∧∀ j,j<i→((rs.getD j zR).1 == r0)=false) (fun i=>rs.length - i) 0 [] [] ⟨Nat.zero_le _,fun j hj=>absurd hj (Nat.not_lt_zero _)⟩ ?_
 intro i ⟨h1,h2⟩
 refine aE ?_
 refine aH (fun e=>?_) (fun e=>?_)
 ·have hi:i<rs.length:=by omega
  refine aE ?_
  refine aA (fun e2=>?_) (fun e2=>?_)
  ·refine aE ?_
   refine aC (()) [(4,none)] ?_ ?_ ?_
   ·exact SVs.cons (ZH (cT (gH (z:=zR) (p:=fun p=>p.1 == r0) hi h2 e2).symm)) rfl
   ·trivial
   ·trivial
  ·refine aE ?_
   exact aK (i+1) ⟨hi,bX h2 e2⟩ (by omega)
 ·refine aE ?_
  refine aC (()) [(4,none)] ?_ ?_ ?_
  ·exact SVs.cons (ZH (cT (gI (z:=zR) fun j hj=>h2 j (by omega)).symm)) rfl
  ·trivial
  ·trivial
set_option maxHeartbeats 1000000 in
theorem XR (rs:List RW) (hl:rs.length≤100) (al:Bool) (r0:Int) (sv:Option Addr×Nat×Nat) (p:Nat) (hp:lD (fun x=>x.1 - r0) zR rs p) (hrise:rL (fun x=>x.1 - r0) zR rs) (hno:b0 (fun p=>p.1 == r0) rs<0) :
  Con Tryz.prog 233 [900,901,902,903,905] [.a (.p 900 0),vI r0, .a (.v (.slice sv.1 sv.2.1 sv.2.2))] [(901,bE 2 eR zR rs),(900, .row [.v (.bool al), .g 901, .g 902, .g 903])] (fun _:Unit=>True) (fun _=>[])
   fun _=>[(904,bE 2 eR zR (fD p (r0,sv) rs)),(900, .row [.v (.bool al), .g 904, .g 902, .g 903])]:=by
 refine aD Tryz.func233 fun B0 r_ D_ w0=>?_
 refine aE ?_
 refine dZ TT_ok (YR rs (by omega) al r0) rfl rfl (ZF _) (fun _=>rfl) rfl rfl rfl fun _ _=>?_
 refine aM ?_
 refine nZ rfl (fun e=>absurd e (by omega)) (fun _=>?_)
 refine aE ?_
 refine aL 40 (fun i=>eR (([]:List RW).getD i zR)) (fun i hi=>absurd hi (Nat.not_lt_zero _)) (mu1:=[]) ?_
 refine aM ?_
 refine cW (ι:=Nat) (fun i=>[(8,vI i),(7, .a (.g 40))]) (fun i=>[(40,bE 2 eR zR (rs.take i))]) (fun i=>i≤rs.length∧∀ a,a<i→(rs.getD a zR).1<r0) (fun i=>rs.length - i) 0 [40] [40] rfl rfl ⟨Nat.zero_le _,fun a ha=>absurd ha (Nat.not_lt_zero _)⟩ wF ⟨⟨_,rfl,bU (sz:=2) (enc:=eR) (z:=zR) (xs:=[]) rfl⟩,trivial⟩ ?_
 intro i ⟨h1,h2⟩
 refine aE ?_
 refine aA (b:=bif decide ((i:Int)<rs.length) then decide ((rs.getD i zR).1<r0) else false) (fun e3=>?_) (fun e3=>?_)
 ·have hi:i<rs.length:=by
   rcases Nat.lt_or_ge i rs.length with h | h
   ·exact h
   ·rw [decide_eq_false (by omega)] at e3;cases e3
  have hlt:(rs.take i).length=i:=by rw [List.length_take];omega
  rw [decide_eq_true (by omega)] at e3
  have e3:(rs.getD i zR).1<r0:=of_decide_eq_true e3
  refine aE ?_
  refine cJ TT_ok 80 (fun _=>eR (rs.getD i zR)) rfl rfl rfl rfl rfl rfl rfl (fun i hi=>by rcases i with _ | i <;>first | rfl | omega) (mu1:=[]) rfl rfl rfl ?_
  refine aM ?_
  refine cL TT_ok 40 80 81 rfl rfl rfl rfl rfl rfl rfl rfl rfl rfl rfl rfl ⟨by show ((rs.take i).length+1) * 32≤_;omega,by unfold maxL;omega⟩ ?_
  refine aM ?_
  refine bC (bH 40 81) ?_
  refine bF (i+1) ⟨hi,fun a ha=>?_⟩ (by omega) wF ⟨⟨_,rfl,cX (x:=rs.getD i zR) (b7 hi) rfl⟩,wM⟩
  by_cases c:a<i
  ·exact h2 a c
  ·have:a=i:=by omega
   subst this
   exact e3
 have hc:p=i:=FA hp ⟨h1,fun a ha=>by have:=h2 a ha;show (rs.getD a zR).1 - r0<0;omega,fun a ha hb hlt=>by
  have h3:=hrise i a ha hb hlt
  have h3:(rs.getD i zR).1 - r0<0:=h3
  rw [decide_eq_true (show (i:Int)<rs.length by omega),cond_true] at e3
  have:=of_decide_eq_false e3
  omega⟩
 subst hc
 have hlt:(rs.take p).length=p:=by rw [List.length_take];omega
 refine aE ?_
 refine JD 7 40 rfl rfl fun cp _=>?_
 refine aW [40] [0,1,2,3,6,7,8,9,10,11,12,4,5,13,14] fun B0 H0=>?_
 refine bB 4 rfl (by kernel_rfl) (dK TT_ok 84 (fun _=>eR (r0,sv)) rfl rfl rfl rfl rfl rfl rfl (fun j hj=>by rcases j with _ | j <;>first | rfl | omega) (mu1:=[]) rfl rfl rfl (bA ?_))
 refine bB 5 rfl (by kernel_rfl) (dE TT_ok 40 84 85 rfl rfl rfl rfl rfl rfl rfl rfl rfl rfl rfl rfl ⟨by show ((rs.take p).length+1) * 32≤_;omega,by unfold maxL;omega⟩ (bA ?_))
 refine bB 13 rfl (by kernel_rfl) (nN TT_ok 85 91 rfl rfl rfl rfl rfl rfl rfl rfl rfl rfl rfl rfl ⟨by show ((rs.take p).length+1+_) * 32≤_;omega,by unfold maxL;omega⟩ (bA ?_) (hob:=⟨rfl,⟨by omega,by omega,by omega⟩,trivial⟩))
 refine aY [14] ?_
 refine D0 (by kernel_rfl) ?_
 refine X_T ?_
 refine VT TT_ok rfl ?_
 refine bC (bH 91 904) ?_
 refine lC TT_ok () [] rfl rfl ?_ ?_ ?_
 ·exact ZF _
 ·exact ⟨⟨_,rfl,x9 (x:=(r0,sv)) h1⟩,⟨_,rfl,ZE _⟩,trivial⟩
 ·trivial
end
section
def hdS:Value→Option Addr×Nat×Nat
 | .slice A n c=>(A,n,c)
 | _=>(none,0,0)
theorem S7 {h:PH} {x:GCopy} {ys:List Value} (e:D.rds h (dY x) ys):∃ A n c,ys=[.int .i64 x.region, .slice A n c]:=by
 obtain ⟨y,t,rfl,e1,z,t2,rfl,⟨A,c,e2,_⟩,e3⟩:=e
 have e1:y = .int .i64 x.region:=e1
 have e3:t2=[]:=e3
 subst e1;subst e2;subst e3
 exact ⟨A,_,c,rfl⟩
def kF (xs:List GCopy) (row:Nat→List Value):List RW:=(List.range xs.length).map fun i=>((xs.getD i ZA).region,hdS ((row i).getD 1 undef))
theorem QE (xs:List GCopy) (row:Nat→List Value):(kF xs row).length=xs.length:=by unfold kF;rw [List.length_map,List.length_range]
theorem L2 {xs:List GCopy} {row:Nat→List Value} {i:Nat} (h:i<xs.length):(kF xs row).getD i zR=((xs.getD i ZA).region,hdS ((row i).getD 1 undef)):=by
 unfold kF
 rw [lO (za:=0) _ (by rw [List.length_range];exact h)]
 simp [List.getD_eq_getElem?_getD,h]
theorem QW {xs:List GCopy} {row:Nat→List Value} {i:Nat} (h:i<xs.length) {hp:PH} (e:D.rds hp (dY (xs.getD i ZA)) (row i)):(row i).map D.v=eR ((kF xs row).getD i zR):=by
 rw [L2 h]
 obtain ⟨A,n,c,e⟩:=S7 e
 rw [e];rfl
theorem KZ (m:GMachine) (hM:cS m) (r:Int) (hn:dQ m r=false) (cs:List GCell) :
  Con Tryz.prog 233 [900,901,902,903,905] [.a (.p 900 0),vI r, .a (.g 905)] [(901,bE 2 dY ZA m.copies),(905,bE 2 cQ Y9 cs),(900, .row (sA m 901 902 903))] (fun _:Unit=>True) (fun _=>[])
   fun _=>[(904,bE 2 dY ZA (iW m r cs).copies),(900, .row (sA m 904 902 903))]:=by
 have bk:m.copies.length≤6:=hM.1.1
 have hc:=qV (v6 hM r)
 have hrep:(iW m r cs).copies=fD (oC (BC r) ZA m.copies) ⟨r,cs⟩ m.copies:=by
  unfold iW;rw [if_neg (by rw [hn];simp)]
 rw [hrep]
 generalize oC (BC r) ZA m.copies=p at hc
 have hC:=Con.liftH (P:=Tryz.prog) (ι:=Unit) (f:=233) (sz:=2) (n:=m.copies.length) (k:=901) (k3:=905) (ko:=904) (sz3:=2) (n3:=cs.length) (g:=fun i=>dY (m.copies.getD i ZA)) (f3:=fun i=>cQ (cs.getD i Y9)) (xD:=dY ⟨r,cs⟩) (xr:=fun v=>[.int .i64 r,v]) (ks:=[900,901,902,903,905])
  (args:=[.a (.p 900 0),vI r, .a (.g 905)]) (args':=fun _ sv=>[.a (.p 900 0),vI r, .a (.v sv)]) (rest:=[(900, .row (sA m 901 902 903))]) (rest':=fun _=>[(900, .row (sA m 904 902 903))]) (φ:=fun _=>True) (res:=fun _=>[]) (m:=fun _=>m.copies.length+1)
  (ρ:=fun _ j=>if j<p then some j else if j<p+1 then none else some (j - 1)) (by decide)
  (fun j c e=>by
   rw [bO] at e
   by_cases hj:900=j
   ·subst hj;rw [if_pos rfl] at e;injection e with e;subst e;exact ⟨rfl,by decide,by decide⟩
   ·rw [if_neg hj] at e;cases e)
  (fun _ j c e=>by
   rw [bO] at e
   by_cases hj:900=j
   ·subst hj;rw [if_pos rfl] at e;injection e with e;subst e;exact ⟨rfl,by decide⟩
   ·rw [if_neg hj] at e;cases e)
  (fun _ _=>rfl)
  (fun h v e=>⟨_,_,PH.emp,h,rfl,PH.emp_le _,PH.le_refl _,PH.emp_dj _,rfl,_,_,h,PH.emp,rfl,PH.le_refl _,PH.emp_le _,PH.dj_emp _,e,rfl⟩)
  (fun _ _ j hj i e=>by
   by_cases c1:j<p
   ·rw [if_pos c1] at e;injection e with e;have:=hc.1;omega
   ·rw [if_neg c1] at e
    by_cases c2:j<p+1
    ·rw [if_pos c2] at e;cases e
    ·rw [if_neg c2] at e;injection e with e;omega)
  (fun _ _ a b ha hb hab e=>by
   by_cases c1:a<p <;>by_cases c2:a<p+1 <;>by_cases c3:b<p <;>by_cases c4:b<p+1 <;>simp [c1,c2,c3,c4] at e <;>omega)
  (fun B r1 r2 H H' vals row _ _ _ e=>by
   obtain ⟨y1,t1,e1,e2,y2,t2,e3,e4,y3,t3,e5,e6,e7⟩:=e
   have e7:t3=[]:=e7
   subst e1;subst e3;subst e5;subst e7
   exact ⟨_,_,rfl,e2,_,_,rfl,e4,_,_,rfl,e6.1,rfl⟩)
  (fun _ B r1 r2 H H' out e=>e)
  (fun _ B r1 r2 h j c e hs=>by
   rw [bO] at e
   by_cases hj:900=j
   ·subst hj;rw [if_pos rfl] at e;injection e with e;subst e;exact hs
   ·rw [if_neg hj] at e;cases e)
  (fun row sv h1 h2 ⟨A,cp,hsv⟩ h3=>?_)
 ·refine hC.wkM fun _ _=>⟨⟨_,rfl,Ch.imp_len (by rw [gL hc.1]) fun j hj=>?_⟩,⟨_,rfl,ZE _⟩,trivial⟩
  rw [jX hc.1]
  by_cases c1:j<p
  ·rw [if_pos c1,if_pos c1];rfl
  ·by_cases c2:j<p+1
   ·rw [if_neg c1,if_pos c2,if_neg c1,if_pos c2];rfl
   ·rw [if_neg c1,if_neg c2,if_neg c1,if_neg c2];rfl
 ·subst hsv
  have hl:=QE m.copies row
  have hreg:∀ i,i<m.copies.length→((kF m.copies row).getD i zR).1=(m.copies.getD i ZA).region:=fun i hi=>by rw [L2 hi]
  have hp:lD (fun x=>x.1 - r) zR (kF m.copies row) p:=⟨by rw [hl];exact hc.1,fun a ha=>by
   have:=hc.2.1 a ha
   show ((kF m.copies row).getD a zR).1 - r<0
   rw [hreg a (by have:=hc.1;omega)];exact this,fun a ha hb=>by
   rw [hl] at hb
   have:=hc.2.2 a ha hb
   show ¬ ((kF m.copies row).getD a zR).1 - r<0
   rw [hreg a hb];exact this⟩
  have hri:rL (fun x=>x.1 - r) zR (kF m.copies row):=fun a b hab hb h=>by
   rw [hl] at hb
   have h:((kF m.copies row).getD b zR).1 - r<0:=h
   show ((kF m.copies row).getD a zR).1 - r<0
   rw [hreg b hb] at h
   rw [hreg a (by omega)]
   exact v6 hM r a b hab hb h
  have hno:b0 (fun p=>p.1 == r) (kF m.copies row)<0:=by
   by_cases h:b0 (fun p=>p.1 == r) (kF m.copies row)<0
   ·exact h
   ·have h:=(eY (z:=zR)).1 (show 0≤b0 (fun p=>p.1 == r) (kF m.copies row) by omega)
    obtain ⟨x,hx,e⟩:=List.any_eq_true.1 h
    obtain ⟨i,hi,hxi⟩:=List.mem_iff_getElem.1 hx
    have hi2:i<m.copies.length:=by rw [← hl];exact hi
    have h4:=hreg i hi2
    rw [List.getD_eq_getElem?_getD,List.getElem?_eq_getElem hi,Option.getD_some,hxi] at h4
    have h5:x.1=r:=by simpa using e
    have:dQ m r=true:=List.any_eq_true.2 ⟨_,bY (z:=ZA) hi2,by show ((m.copies.getD i ZA).region == r)=true;rw [← h4,h5];simp⟩
    rw [hn] at this;cases this
  have hi1:p≤(kF m.copies row).length:=by rw [hl];exact hc.1
  have hrow:∀ i,i<m.copies.length→(row i).map D.v=eR ((kF m.copies row).getD i zR):=fun i hi=>by
   obtain ⟨hh,e⟩:=h3 i hi
   exact QW hi e
  have hI:=Con.inM (mu0:=[(901, .arr 2 m.copies.length fun i=>(row i).map D.v),(900, .row (sA m 901 902 903))]) (XR (kF m.copies row) (by omega) m.alive r (A,cs.length,cp) p hp hri hno) rfl ⟨⟨_,rfl,Ch.imp_len hl.symm fun i hi=>hrow i hi⟩,⟨_,rfl,ZE _⟩,trivial⟩
  refine hI.wkM fun _ _=>⟨⟨_,rfl,Ch.imp_len (by rw [gL hi1,hl]) fun j hj=>?_⟩,⟨_,rfl,ZE _⟩,trivial⟩
  rw [gL hi1,hl] at hj
  rw [jX hi1]
  by_cases c1:j<p
  ·rw [if_pos c1,if_pos c1];exact (hrow j (by have:=hc.1;omega)).symm
  ·by_cases c2:j<p+1
   ·rw [if_neg c1,if_pos c2,if_neg c1,if_pos c2];rfl
   ·rw [if_neg c1,if_neg c2,if_neg c1,if_neg c2];exact (hrow (j - 1) (by omega)).symm
end
end Go.Proofs.YthpjoddhlkcciaaGreat
