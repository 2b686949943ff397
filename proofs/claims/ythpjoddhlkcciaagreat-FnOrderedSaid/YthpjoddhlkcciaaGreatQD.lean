/-
  What the claim leans on, made short by program.
-/
import Derived.Test.YthpjoddhlkcciaaGreatQC
namespace Go.Proofs.YthpjoddhlkcciaaGreat
open Go Go.RowKit
set_option linter.unusedVariables false
set_option linter.unusedSimpArgs false
set_option maxRecDepth 4000
section
abbrev SX (P:Program) (f:Nat) (args:List SV) (c:GCluster) (b:Bool):Prop:=Con P f [] args [] (fun _:Unit=>True) (fun _=>[iH c 901 902 903,vB b]) fun _=>[(901,bE 1 cN Y3 c.places),(902,bE 4 bQ Y4 c.machines),(903,bE 7 cTx Y5 c.txs)]
abbrev yN (P:Program) (f:Nat) (args:List SV) (c:GCluster) (n:Int):Prop:=Con P f [] args [] (fun _:Unit=>True) (fun _=>[iH c 901 902 903,vI n]) fun _=>[(901,bE 1 cN Y3 c.places),(902,bE 4 bQ Y4 c.machines),(903,bE 7 cTx Y5 c.txs)]
abbrev qB (c:GCluster) (k1 k2 k3:Nat):List V:=[.v (.int .i64 c.config), .v (.int .i64 c.clock), .g k1, .g k2, .g k3, .v (.bool c.lost)]
theorem bS {α:Type} {sz k:Nat} {enc:α→List D} {z y:α} {xs:List α} {l:List D} (hl:OwnI l (enc y)):(Ch.arr sz xs.length fun j=>bif Nat.beq j k then l else enc (xs.getD j z)).imp (bE sz enc z (xs.set k y)) :=
 Ch.imp_own (by simp) fun j hj=>by
  by_cases c:j=k
  ·subst c
   rw [Nat.beq_refl]
   have:(xs.set j y).getD j z=y:=by simp [hj]
   rw [this];exact hl
  ·have h1:Nat.beq j k=false:=by
    cases e:Nat.beq j k with
    | false=>rfl
    | true=>exact absurd (Nat.eq_of_beq_eq_true e) c
   have h2:(xs.set k y).getD j z=xs.getD j z:=by simp [List.getElem?_set_ne (Ne.symm c)]
   rw [h1,h2];exact OwnI.refl _
theorem QI:OwnI [.v (.bool false), .v (.slice none 0 0), .v (.slice none 0 0), .v (.slice none 0 0)] (bQ Y4):=OwnI.c (OwnI.n (OwnI.n (OwnI.n OwnI.e)))
def rF (ms:List GMachine) (m0:Int):Bool:=bif inB m0 0 ((ms.length:Int) - 1) then (ms.getD m0.toNat Y4).alive else false
def jF (ms:List GMachine) (m0:Int):List GMachine:=if rF ms m0=true then ms.set m0.toNat Y4 else ms
open Classical in
noncomputable def q7 (c:GCluster) (m0:Int):GCluster×Bool:=if ClusOk c then ({ c with machines:=jF c.machines m0 },rF c.machines m0) else (Y6,false)
theorem LH {ms:List GMachine} {m0:Int} (h:rF ms m0=true):0≤m0∧m0<ms.length:=by
 unfold rF at h
 cases c:inB m0 0 ((ms.length:Int) - 1) with
 | false=>rw [c] at h;cases h
 | true=>have:=bR.1 c;omega
theorem QQ {ms:List GMachine} {m0:Int}:(bif !inB m0 0 ((ms.length:Int) - 1) then true else !(ms.getD m0.toNat Y4).alive) = !rF ms m0:=by
 unfold rF
 cases inB m0 0 ((ms.length:Int) - 1) <;>rfl
theorem DK {n:Nat} {m0:Int} (k:(!inB m0 0 ((n:Int) - 1))=false):0≤m0∧m0<n:=by
 have:=bR.1 (show inB m0 0 ((n:Int) - 1)=true from by simpa using k)
 omega
theorem M7 (c:GCluster) (hb:D.bds eA (bK c)) (m0:Int) (hC:KM Tryz.prog 197 [vR (bK c)] c):SX Tryz.prog 217 [vR (bK c),vI m0] (q7 c m0).1 (q7 c m0).2:=by
 have b2:c.machines.length≤1048576:=hb.2.2.2.1.1
 refine aD Tryz.func217 fun B0 r_ D_ w0=>?_
 refine d5 TT_ok rfl ?_
 refine aS 2 fun r_=>?_
 refine aE ?_
 refine aG (eK c hb) ?_
 refine eZ rfl (fun e=>?_) (fun e=>?_)
 ·rw [show q7 c m0=(Y6,false) from if_neg (kO.1 e)]
  refine aE ?_
  refine a9 (aU 4 2 1 (fun i=>cN (([]:List GPlace).getD i Y3))) ?_
  refine a9 (aU 4 3 4 (fun i=>bQ (([]:List GMachine).getD i Y4))) ?_
  refine a9 (aU 4 4 7 (fun i=>cTx (([]:List GTx).getD i Y5))) ?_
  refine a9 (aV 4 2 901) ?_
  refine a9 (aV 4 3 902) ?_
  refine a9 (aV 4 4 903) ?_
  refine aC (()) [(4,some 33),(5,none)] ?_ ?_ ?_
  ·exact ZF _
  ·exact wM
  ·trivial
 rw [show q7 c m0=({ c with machines:=jF c.machines m0 },rF c.machines m0) from if_pos (fP.1 e)]
 refine aE ?_
 refine aP (ZG 901 6001 (ZG 902 6002 (ZG 903 6003 hC))) fun _ _=>?_
 refine aM ?_
 refine OP TT_ok (cV _ _ _) rfl rfl (ZF _) rfl rfl ?_ ?_
 ·exact ⟨DK,trivial⟩
 rw [QQ]
 refine eZ rfl (fun e1=>?_) (fun e1=>?_)
 ·rw [show jF c.machines m0=c.machines from if_neg (by rw [e1];simp),e1]
  refine aE ?_
  refine a9 (bH 6001 901) ?_
  refine a9 (bH 6002 902) ?_
  refine a9 (bH 6003 903) ?_
  refine aC (()) [(4,some 33),(5,none)] ?_ ?_ ?_
  ·exact ZF _
  ·exact wM
  ·trivial
 ·have hin:=LH e1
  rw [show jF c.machines m0=c.machines.set m0.toNat Y4 from if_pos e1,e1]
  refine aE ?_
  refine a9 (bH 6001 901) ?_
  refine a9 (bH 6002 902) ?_
  refine a9 (bH 6003 903) ?_
  refine aC (()) [(4,some 33),(5,none)] ?_ ?_ ?_
  ·exact ZF _
  ·exact ⟨⟨_,rfl,ZE _⟩,⟨_,rfl,bS QI⟩,⟨_,rfl,ZE _⟩,trivial⟩
  ·trivial
end
section
section
variable {E:Env} {B:BE} {mu mu':Mu} {w:World} {H:Nat→PH} {TT:List TI} {fr fr':Fr} {gf gf':GF} {a:Act} {all rest:List Oper} {Q:Exit→Act→World→Prop} {o:Oper} {J:Act→World→Prop} {G:AG}
theorem iV {ι:Type} {f:Nat} {ks nk:List Nat} {args:List SV} {mu1:Mu} {φ:ι→Prop} {res:ι→List SV} {mu1':ι→Mu} (C:Con E.P f ks args mu1 φ res mu1') {svs args':List SV} {g:Option (Nat×Nat×Bool)} {t:Nat} {q:Ob} {es:List Prop} {gs:List GO} {md:Mu}
  (hc:g8 E.N all fr gf o=some (f,svs,g,t,gf')) (hw:jC mu (bJ mu1) ks svs=some (args',q)) (ha:SVs.imp E.P args' args) (hnk:∀ y,j5 (mu1' y)=nk) (hs:cP fr gf [] q [] [] = some (es,gs)) (hmd:dR (eC (bJ mu1) nk) mu=some md) {gf2:GF} (hcut:gP (bJ mu1) fr gf'=some (fr',gf2))
  (k:∀ y,φ y→SJ G J E ((t,vY (res y)) :: fr') gf2 (jL (mu1' y) md))
  (hin:jK mu mu1:=by exact iD) (hg:BB fr gf g:=by first | exact trivial | exact ⟨rfl,rfl⟩) (hkeys:gE ks nk mu1 fr gf mu E.A.ks G.ks=true:=by exact rfl) (hout:∀ y,(SV.inKL (eC ks nk) (res y) && kI (eC ks nk) (mu1' y))=true:=by exact fun _=>rfl) (hen:fK E.P f:=by exact aB) (he:cC es:=by exact eD) (ho:cB gs:=by exact gD):OJ G E all Q J o fr gf mu :=
 US C hc hg hen hw ha hs he ho hin hnk hkeys hout hmd hcut k
end
theorem vV {α:Type} {sz:Nat} {enc:α→List D} {z x:α} {ys rs:List α} {g:Nat→List D} (h:rs=ys ++ [x]) (hg:OwnI (g 0) (enc x)):(Ch.arr sz (ys.length+1) (mX ys.length (fun i=>enc (ys.getD i z)) g)).imp (bE sz enc z rs):=by
 subst h
 refine Ch.imp_own (by simp) fun i hi=>?_
 by_cases c:i<ys.length
 ·rw [kK c];exact OwnI.of (by congr 1;simp [List.getElem?_append_left c])
 ·have:i=ys.length:=by omega
  subst this
  rw [kL (by omega),Nat.sub_self]
  have e:(ys ++ [x]).getD ys.length z=x:=by simp
  rw [e];exact hg
theorem OwnI.sl {l m:List D} {sz n n':Nat} {f g:Nat→List D} (hn:n=n') (h:∀ i,i<n→f i=g i) (k:OwnI l m):OwnI (.sl sz n f :: l) (.sl sz n' g :: m):=fun hh vs ⟨y,t,h1,h2,e1,e2,e3,e4,e5,e6⟩ =>
 ⟨y,t,h1,h2,e1,e2,e3,e4,by subst hn;exact D.own_congr h e5,k _ _ e6⟩
theorem gR (c:GCluster) (hb:D.bds eA (bK c)):KM Tryz.prog 197 [vR (bK c)] c:=by
 have b1:c.places.length≤1048576:=hb.2.2.1.1
 have b2:c.machines.length≤1048576:=hb.2.2.2.1.1
 have b3:c.txs.length≤1048576:=hb.2.2.2.2.1.1
 refine aD Tryz.func197 fun B0 r_ D_ w0=>?_
 refine d5 TT_ok rfl ?_
 refine aS 1 fun r_=>?_
 refine aE ?_
 refine a9 (aU 3 2 1 (fun i=>cN (([]:List GPlace).getD i Y3))) ?_
 refine a9 (aU 3 3 4 (fun i=>bQ (([]:List GMachine).getD i Y4))) ?_
 refine a9 (aU 3 4 7 (fun i=>cTx (([]:List GTx).getD i Y5))) ?_
 refine a9 (aV 3 2 901) ?_
 refine a9 (aV 3 3 902) ?_
 refine a9 (aV 3 4 903) ?_
 refine aJ (ι:=Nat) (fun i=>[(4,vI i)]) (fun i=>[(901,bE 1 cN Y3 (c.places.take i)),(3, .row [.v (.int .i64 c.config), .v (.int .i64 c.clock), .g 901, .g 902, .g 903, .v (.bool c.lost)])]) (fun i=>i≤c.places.length) (fun i=>c.places.length - i) 0 [901,3] [901] (Nat.zero_le _) ?_
 intro i h1
 refine aE ?_
 refine aH (fun e=>?_) (fun e=>?_)
 ·have hi:i<c.places.length:=by omega
  have hl:(c.places.take i).length=i:=by rw [List.length_take];omega
  have hm:(c.places.getD i Y3).machines.length≤1048576:=(hb.2.2.1.2 i hi).1.1
  refine aE ?_
  refine aW [901] [0,1,3,4,5,6,7,8,2,9,10,11,12,13,14] fun B0 H0=>?_
  refine bB 2 rfl (by kernel_rfl) (dK TT_ok 23 (fun i=>bL (([]:List Int).getD i 0)) rfl rfl rfl rfl rfl rfl rfl (fun i hi=>absurd hi (Nat.not_lt_zero _)) (mu1:=[]) rfl rfl rfl (bA ?_))
  refine bB 9 rfl (by kernel_rfl) (nN TT_ok 23 30 rfl rfl rfl rfl rfl rfl rfl rfl rfl rfl rfl rfl ⟨by simp;simp at hm;omega,by unfold maxL;simp at hm ⊢;omega⟩ (bA ?_))
  refine aY [10,11,12,13,14] ?_
  refine bB 11 rfl (by kernel_rfl) (dK TT_ok 32 (fun _=>[.sl 1 _ _]) rfl rfl rfl rfl rfl rfl rfl (fun j hj=>by rcases j with _ | j <;>first | rfl | omega) (mu1:=[(30, .arr 0 0 fun _=>[])]) rfl rfl rfl (bA ?_))
  refine bB 12 rfl (by kernel_rfl) (dE TT_ok 901 32 33 rfl rfl rfl rfl rfl rfl rfl rfl rfl rfl rfl rfl ⟨by show ((c.places.take i).length+1) * 24≤_;omega,by unfold maxL;omega⟩ (bA ?_))
  refine aY [13,14] ?_
  refine d7 14 rfl (by kernel_rfl) (by kernel_rfl) (aR (eX [] fun B0 H0=>?_))
  refine aN ?_
  refine bC (bH 901 33) ?_
  exact bF (i+1) hi (by omega) wF ⟨⟨_,rfl,vV (x:=c.places.getD i Y3) (b7 hi) (OwnI.sl (by simp) (fun i _=>kL (Nat.zero_le _)) OwnI.e)⟩,wM⟩
 have hi:i=c.places.length:=by omega
 subst hi
 rw [List.take_length]
 refine aE ?_
 refine aJ (ι:=Nat) (fun i=>[(5,vI i)]) (fun i=>[(902,bE 4 bQ Y4 (c.machines.take i)),(3, .row [.v (.int .i64 c.config), .v (.int .i64 c.clock), .g 901, .g 902, .g 903, .v (.bool c.lost)])]) (fun i=>i≤c.machines.length) (fun i=>c.machines.length - i) 0 [902,3] [902] (Nat.zero_le _) ?_
 intro i h1
 refine aE ?_
 refine aH (fun e=>?_) (fun e=>?_)
 ·have hi:i<c.machines.length:=by omega
  have hl:(c.machines.take i).length=i:=by rw [List.length_take];omega
  refine aE ?_
  refine aW [902] [0,1,2,3,4,5,6,7,8,9,10,11] fun B0 H0=>?_
  refine aX 7 (ZG 901 491 (ZG 902 492 (ZG 903 493 (S0 (c.machines.getD i Y4) (hb.2.2.2.1.2 i hi))))) fun _ _=>?_
  refine bB 8 rfl (by kernel_rfl) (dK TT_ok 50 (fun _=>bQ (c.machines.getD i Y4)) rfl rfl rfl rfl rfl rfl rfl (fun j hj=>by rcases j with _ | j <;>first | rfl | omega) (mu1:=[(491, .arr 0 0 fun _=>[]),(492, .arr 0 0 fun _=>[]),(493, .arr 0 0 fun _=>[])]) rfl rfl rfl (bA ?_))
  refine bB 9 rfl (by kernel_rfl) (dE TT_ok 902 50 51 rfl rfl rfl rfl rfl rfl rfl rfl rfl rfl rfl rfl ⟨by show ((c.machines.take i).length+1) * 80≤_;omega,by unfold maxL;omega⟩ (bA ?_))
  refine aY [10,11] ?_
  refine d7 11 rfl (by kernel_rfl) (by kernel_rfl) (aR (eX [] fun B0 H0=>?_))
  refine aN ?_
  refine bC (bH 902 51) ?_
  exact bF (i+1) hi (by omega) wF ⟨⟨_,rfl,cX (x:=c.machines.getD i Y4) (b7 hi) rfl⟩,wM⟩
 have hi:i=c.machines.length:=by omega
 subst hi
 rw [List.take_length]
 refine aE ?_
 refine aJ (ι:=Nat) (fun i=>[(6,vI i)]) (fun i=>[(903,bE 7 cTx Y5 (c.txs.take i)),(3, .row [.v (.int .i64 c.config), .v (.int .i64 c.clock), .g 901, .g 902, .g 903, .v (.bool c.lost)])]) (fun i=>i≤c.txs.length) (fun i=>c.txs.length - i) 0 [903,3] [903] (Nat.zero_le _) ?_
 intro i h1
 refine aE ?_
 refine aH (fun e=>?_) (fun e=>?_)
 ·have hi:i<c.txs.length:=by omega
  have hl:(c.txs.take i).length=i:=by rw [List.length_take];omega
  have ht:=hb.2.2.2.2.1.2 i hi
  refine aE ?_
  refine aW [903] [0,1,2,3,4,5,6,7,8,9,10,11] fun B0 H0=>?_
  refine aX 7 (ZG 901 671 (ZG 902 672 (x5 (c.txs.getD i Y5) ht.2.2.2.2.1.1 ht.2.2.2.2.2.1.1))) fun _ _=>?_
  refine bB 8 rfl (by kernel_rfl) (dK TT_ok 68 (fun _=>cTx (c.txs.getD i Y5)) rfl rfl rfl rfl rfl rfl rfl (fun j hj=>by rcases j with _ | j <;>first | rfl | omega) (mu1:=[(671, .arr 0 0 fun _=>[]),(672, .arr 0 0 fun _=>[])]) rfl rfl rfl (bA ?_))
  refine bB 9 rfl (by kernel_rfl) (dE TT_ok 903 68 69 rfl rfl rfl rfl rfl rfl rfl rfl rfl rfl rfl rfl ⟨by show ((c.txs.take i).length+1) * 88≤_;omega,by unfold maxL;omega⟩ (bA ?_))
  refine aY [10,11] ?_
  refine d7 11 rfl (by kernel_rfl) (by kernel_rfl) (aR (eX [] fun B0 H0=>?_))
  refine aN ?_
  refine bC (bH 903 69) ?_
  exact bF (i+1) hi (by omega) wF ⟨⟨_,rfl,cX (x:=c.txs.getD i Y5) (b7 hi) rfl⟩,wM⟩
 have hi:i=c.txs.length:=by omega
 subst hi
 rw [List.take_length]
 refine aE ?_
 refine aC (()) [(2,some 33)] ?_ ?_ ?_
 ·exact ZF _
 ·exact wM
 ·trivial
end
section
abbrev UF (P:Program) (f:Nat) (args:List SV) (t:GTx) (b:Bool):Prop:=Con P f [] args [] (fun _:Unit=>True) (fun _=>[FR t 901 902,vB b]) fun _=>[(901,bE 5 cR Y8 t.reads),(902,bE 5 cH Y7 t.sets)]
open Classical in
noncomputable def uV (c:GCluster) (id:Int):GTx×Bool:=if ClusOk c∧0≤bZ c id then (c.txs.getD (bZ c id).toNat Y5,true) else (Y5,false)
theorem CO (c:GCluster) (hb:D.bds eA (bK c)) (id:Int):UF Tryz.prog 35 [vR (bK c),vI id] (uV c id).1 (uV c id).2:=by
 have b3:c.txs.length≤1048576:=hb.2.2.2.2.1.1
 have bt:=XJ hb (bZ c id).toNat
 have hlt:=lT (c:=c) (id:=id)
 refine aD Tryz.func35 fun B0 r_ D_ w0=>?_
 refine d5 TT_ok rfl ?_
 refine aS 2 fun r_=>?_
 refine aE ?_
 refine aG (xP c b3 id) ?_
 by_cases hg:ClusOk c∧0≤bZ c id
 ·have e0:(bif !dec (ClusOk c) then true else decide (bZ c id<0))=false:=by rw [dG hg.1,decide_eq_false (by omega)];rfl
  have hin:=fS hg.2
  rw [show uV c id=(c.txs.getD (bZ c id).toNat Y5,true) from if_pos hg]
  refine aG (eK c hb) ?_
  rw [e0]
  refine bW rfl (fun e=>by cases e) (fun e=>?_)
  refine aE ?_
  refine aP (x5 (c.txs.getD (bZ c id).toNat Y5) bt.2.2.2.2.1.1 bt.2.2.2.2.2.1.1) fun _ _=>?_
  refine aM ?_
  refine aC (()) [(4,some 57),(5,none)] ?_ ?_ ?_
  ·exact ZF _
  ·exact wM
  ·trivial
 ·have e0:(bif !dec (ClusOk c) then true else decide (bZ c id<0))=true:=by
   by_cases h1:ClusOk c
   ·rw [dG h1,decide_eq_true (Int.not_le.1 fun h=>hg ⟨h1,h⟩)];rfl
   ·rw [cF h1];rfl
  rw [show uV c id=(Y5,false) from if_neg hg]
  refine aG (eK c hb) ?_
  rw [e0]
  refine bW rfl (fun e=>?_) (fun e=>by cases e)
  refine aE ?_
  refine a9 (aU 4 4 5 (fun i=>cR (([]:List GNote).getD i Y8))) ?_
  refine a9 (aU 4 5 5 (fun i=>cH (([]:List GSet).getD i Y7))) ?_
  refine a9 (aV 4 4 901) ?_
  refine a9 (aV 4 5 902) ?_
  refine aC (()) [(4,some 57),(5,none)] ?_ ?_ ?_
  ·exact ZF _
  ·exact wM
  ·trivial
theorem o8 (c:GCluster):yN Tryz.prog 223 [vR (bK c),vI 1] Y6 1:=by
 refine aD Tryz.func223 fun B0 r_ D_ w0=>?_
 refine d5 TT_ok rfl ?_
 refine aS 2 fun r_=>?_
 refine aE ?_
 refine bW rfl (fun e=>?_) (fun e=>by cases e)
 refine aE ?_
 refine a9 (aU 4 2 1 (fun i=>cN (([]:List GPlace).getD i Y3))) ?_
 refine a9 (aU 4 3 4 (fun i=>bQ (([]:List GMachine).getD i Y4))) ?_
 refine a9 (aU 4 4 7 (fun i=>cTx (([]:List GTx).getD i Y5))) ?_
 refine a9 (aV 4 2 901) ?_
 refine a9 (aV 4 3 902) ?_
 refine a9 (aV 4 4 903) ?_
 refine aC (()) [(4,some 33),(5,none)] ?_ ?_ ?_
 ·exact ZF _
 ·exact wM
 ·trivial
theorem j7 (c:GCluster) (hb:D.bds eA (bK c)) (n:Int) (h:n≠1):yN Tryz.prog 223 [vR (bK c),vI n] c n:=by
 refine aD Tryz.func223 fun B0 r_ D_ w0=>?_
 refine d5 TT_ok rfl ?_
 refine aS 2 fun r_=>?_
 refine aE ?_
 refine aH (fun e=>absurd e h) (fun e=>?_)
 refine aE ?_
 refine aP (gR c hb) fun _ _=>?_
 refine aM ?_
 refine aC (()) [(4,some 33),(5,none)] ?_ ?_ ?_
 ·exact ZF _
 ·exact wM
 ·trivial
abbrev agNew (id home:Int):List V:=[.v (.int .i64 id), .v (.int .i64 home), .v (.int .i64 1), .v (.int .i64 0),wB,wB, .v (.int .i64 0)]
abbrev SN (id home:Int):List D:=[dI id,dI home,dI 1,dI 0, .v (.slice none 0 0), .v (.slice none 0 0),dI 0]
def tU (id home:Int):GTx:=⟨id,home,1,0,[],[],0⟩
theorem JN (id home:Int):OwnI (SN id home) (cTx (tU id home)):=OwnI.c (OwnI.c (OwnI.c (OwnI.c (OwnI.n (OwnI.n (OwnI.c OwnI.e))))))
theorem uJ (id home:Int) (h1:inB id 1 1000000=true) (h2:inB home 0 7=true):Con Tryz.prog 114 [] [vI id,vI home] [] (fun _:Unit=>True) (fun _=>[.ag (agNew id home),vB true]) fun _=>[]:=by
 refine aD Tryz.func114 fun B0 r_ D_ w0=>?_
 refine aE ?_
 refine aG (mG _) ?_
 refine aG (oW _) ?_
 rw [h1,h2]
 refine bW rfl (fun e=>by cases e) (fun e=>?_)
 refine aE ?_
 refine aC (()) [(4,some 57),(5,none)] ?_ ?_ ?_
 ·exact ZF _
 ·exact trivial
 ·trivial
def sN (c:GCluster) (id:Int):Bool:=bif (bif !inB id 1 1000000 then true else decide ((c.txs.length:Int)=60)) then true else bif decide ((c.txs.length:Int) > 0) then decide ((c.txs.getD ((c.txs.length:Int) - 1).toNat Y5).id ≥ id) else false
def yT (c:GCluster) (home:Int):Bool:=bif !inB home 0 ((c.machines.length:Int) - 1) then true else !(c.machines.getD home.toNat Y4).alive
open Classical in
noncomputable def rR (c:GCluster) (id home:Int):GCluster×Int:=if ClusOk c then (bif sN c id then (c,2) else bif yT c home then (c,3) else ({ c with txs:=c.txs ++ [tU id home] },0)) else (Y6,1)
theorem JI (c:GCluster) (hb:D.bds eA (bK c)) (id home:Int):yN Tryz.prog 209 [vR (bK c),vI id,vI home] (rR c id home).1 (rR c id home).2:=by
 have b2:c.machines.length≤1048576:=hb.2.2.2.1.1
 have b3:c.txs.length≤1048576:=hb.2.2.2.2.1.1
 refine aD Tryz.func209 fun B0 r_ D_ w0=>?_
 refine d5 TT_ok rfl ?_
 refine aS 3 fun r_=>?_
 refine aE ?_
 refine aG (eK c hb) ?_
 refine eZ rfl (fun e=>?_) (fun e=>?_)
 ·rw [show rR c id home=(Y6,1) from if_neg (kO.1 e)]
  refine aE ?_
  refine aP (o8 c) fun _ _=>?_
  refine aM ?_
  refine aC (()) [(6,some 33),(7,none)] ?_ ?_ ?_
  ·exact ZF _
  ·exact wM
  ·trivial
 have hok:=fP.1 e
 rw [show rR c id home=(bif sN c id then (c,2) else bif yT c home then (c,3) else ({ c with txs:=c.txs ++ [tU id home] },0)) from if_pos hok]
 refine aE ?_
 refine aG (mG _) ?_
 refine aA (b:=sN c id) (fun e=>?_) (fun e2=>?_)
 ·rw [e]
  refine aE ?_
  refine dZ TT_ok (j7 c hb 2 (by decide)) rfl rfl (ZF _) (fun _=>rfl) rfl rfl rfl fun _ _=>?_
  refine aM ?_
  refine aC (()) [(6,some 33),(7,none)] ?_ ?_ ?_
  ·exact ZF _
  ·exact wM
  ·trivial
 rw [e2]
 refine aE ?_
 refine OP TT_ok (cV _ _ _) rfl rfl (ZF _) rfl rfl ?_ ?_
 ·exact ⟨DK,trivial⟩
 refine aA (b:=yT c home) (fun e=>?_) (fun e3=>?_)
 ·rw [e]
  refine aE ?_
  refine dZ TT_ok (j7 c hb 3 (by decide)) rfl rfl (ZF _) (fun _=>rfl) rfl rfl rfl fun _ _=>?_
  refine aM ?_
  refine aC (()) [(6,some 33),(7,none)] ?_ ?_ ?_
  ·exact ZF _
  ·exact wM
  ·trivial
 rw [e3]
 have h1:inB id 1 1000000=true:=by
  unfold sN at e2
  cases h:inB id 1 1000000 with
  | true=>rfl
  | false=>rw [h] at e2;cases e2
 have h2:inB home 0 7=true:=by
  unfold yT at e3
  cases h:inB home 0 ((c.machines.length:Int) - 1) with
  | true=>have:=bR.1 h;have:=hok.1.2.2.1.2;exact bR.2 (by omega)
  | false=>rw [h] at e3;cases e3
 have h3:c.txs.length≤60:=hok.1.2.2.2
 refine aE ?_
 refine aP (ZG 901 6001 (ZG 902 6002 (ZG 903 6003 (gR c hb)))) fun _ _=>?_
 refine aM ?_
 refine aP (uJ id home h1 h2) fun _ _=>?_
 refine aM ?_
 refine cJ TT_ok 84 (fun _=>SN id home) rfl rfl rfl rfl rfl rfl rfl (fun i hi=>by rcases i with _ | i <;>first | rfl | omega) (mu1:=[]) rfl rfl rfl ?_
 refine aM ?_
 refine cL TT_ok 6003 84 85 rfl rfl rfl rfl rfl rfl rfl rfl rfl rfl rfl rfl ⟨by show (c.txs.length+1) * 88≤_;omega,by unfold maxL;omega⟩ ?_
 refine aM ?_
 refine a9 (bH 6001 901) ?_
 refine a9 (bH 6002 902) ?_
 refine a9 (bH 85 903) ?_
 refine aC (()) [(6,some 33),(7,none)] ?_ ?_ ?_
 ·exact ZF _
 ·exact ⟨⟨_,rfl,ZE _⟩,⟨_,rfl,ZE _⟩,⟨_,rfl,vV rfl (JN id home)⟩,trivial⟩
 ·trivial
end
section
def GC (xs:List GNote):Prop := ∀ a b,a<b→b<xs.length→lessN (xs.getD a Y8) (xs.getD b Y8)
theorem pV {xs:List GNote} (h:readsOk xs xs.length):GC xs:=fun a b hab hb=>by
 induction b with
 | zero=>omega
 | succ b ih =>
  have h1:=(h (b+1) hb).2 (by omega)
  rw [Nat.add_sub_cancel] at h1
  by_cases c:a=b
  ·subst c;exact h1
  ·have h2:=ih (by omega) (by omega)
   unfold lessN at h1 h2 ⊢
   omega
def B6 (r s:Int) (x:GNote):Int:=wK x.region x.slot r s
theorem BG {xs:List GNote} (h:GC xs) (r s:Int):rL (B6 r s) Y8 xs:=fun a b hab hb hc=>by
 by_cases c:a=b
 ·subst c;exact hc
 ·have:=h a b (by omega) hb
  unfold B6 at hc ⊢
  rw [n8] at hc ⊢
  unfold lessN at this
  omega
def dD (r s:Int) (x:GNote):Bool:=bif x.region == r then x.slot == s else false
theorem sO {r s:Int} {x:GNote}:dD r s x=true ↔ x.region=r∧x.slot=s:=by
 unfold dD
 by_cases h:x.region=r <;>simp [h]
theorem tL (t:GTx) (hl:t.reads.length≤1048576) (r0 s0:Int):Ans Tryz.prog 201 [] [vR (cTx t),vI r0,vI s0] [] (vI (b0 (dD r0 s0) t.reads)):=by
 refine aD Tryz.func201 fun B0 r_ D_ w0=>?_
 refine aE ?_
 refine aJ (ι:=Nat) (fun i=>[(7,vI i)]) (fun _=>[]) (fun i=>i≤t.reads.length∧∀ j,j<i→dD r0 s0 (t.reads.getD j Y8)=false) (fun i=>t.reads.length - i) 0 [] [] ⟨Nat.zero_le _,fun j hj=>absurd hj (Nat.not_lt_zero _)⟩ ?_
 intro i ⟨h1,h2⟩
 refine aE ?_
 refine aH (fun e=>?_) (fun e=>?_)
 ·have hi:i<t.reads.length:=by omega
  refine aE ?_
  refine aA (fun e2=>?_) (fun e2=>?_)
  ·refine aE ?_
   exact aI [(6,none)] ((gH hi h2 e2).symm)
  ·refine aE ?_
   exact aK (i+1) ⟨hi,bX h2 e2⟩ (by omega)
 ·refine aE ?_
  exact d8 TT_ok [(6,none)] rfl rfl ((gI fun j hj=>h2 j (by omega)).symm)
theorem FA {α:Type} {c:α→Int} {z:α} {xs:List α} {i j:Nat} (h:lD c z xs i) (k:lD c z xs j):i=j:=by
 rcases Nat.lt_trichotomy i j with h1 | h1 | h1
 ·exact absurd (k.2.1 i h1) (h.2.2 i (Nat.le_refl _) (by have:=k.1;omega))
 ·exact h1
 ·exact absurd (h.2.1 j h1) (k.2.2 j (Nat.le_refl _) (by have:=h.1;omega))
open Classical in
noncomputable def oC {α:Type} (c:α→Int) (z:α) (xs:List α):Nat:=if h:∃ i,lD c z xs i then h.choose else 0
theorem tB {α:Type} {c:α→Int} {z:α} {xs:List α} {i:Nat} (h:lD c z xs i):oC c z xs=i:=by
 have hx:∃ i,lD c z xs i:=⟨i,h⟩
 unfold oC
 rw [dif_pos hx]
 exact FA hx.choose_spec h
def fD {α:Type} (p:Nat) (x:α) (xs:List α):List α:=xs.take p ++ x :: xs.drop p
theorem gL {α:Type} {p:Nat} {x:α} {xs:List α} (h:p≤xs.length):(fD p x xs).length=xs.length+1:=by simp [fD];omega
theorem jX {α:Type} {p:Nat} {x z:α} {xs:List α} (h:p≤xs.length) (j:Nat):(fD p x xs).getD j z=if j<p then xs.getD j z else if j<p+1 then x else xs.getD (j - 1) z:=by
 unfold fD
 by_cases a:j<p
 ·rw [if_pos a]
  simp only [List.getD_eq_getElem?_getD]
  rw [List.getElem?_append_left (by simp;omega),List.getElem?_take_of_lt a]
 ·rw [if_neg a]
  simp only [List.getD_eq_getElem?_getD]
  rw [List.getElem?_append_right (by simp;omega)]
  have hl:(xs.take p).length=p:=by simp;omega
  rw [hl]
  by_cases b:j<p+1
  ·rw [if_pos b]
   have:j - p=0:=by omega
   rw [this];simp
  ·rw [if_neg b]
   obtain ⟨k,hk⟩:∃ k,j - p=k+1:=⟨j - p - 1,by omega⟩
   rw [hk,List.getElem?_cons_succ,List.getElem?_drop]
   congr 2;omega
theorem lL {α:Type} {p:α→Bool} {z:α} {xs:List α} (h:0≤b0 p xs):(b0 p xs).toNat<xs.length∧p (xs.getD (b0 p xs).toNat z)=true:=by
 rcases gO p z xs with ⟨h1,_⟩ | ⟨i,h1,h2,_,h4⟩
 ·rw [h1] at h;omega
 ·rw [h2];exact ⟨by simpa using h1,by simpa using h4⟩
theorem eY {α:Type} {p:α→Bool} {z:α} {xs:List α}:0≤b0 p xs ↔ xs.any p=true:=by
 constructor
 ·intro h
  obtain ⟨h1,h2⟩:=lL (z:=z) h
  exact List.any_eq_true.2 ⟨xs.getD (b0 p xs).toNat z,by simp [h1],h2⟩
 ·intro h
  rcases gO p z xs with ⟨h1,h2⟩ | ⟨i,h1,h2,_⟩
  ·obtain ⟨x,hx,hp⟩:=List.any_eq_true.1 h
   obtain ⟨a,ha,rfl⟩:=List.mem_iff_getElem.1 hx
   have:=h2 a ha
   simp [ha] at this
   rw [this] at hp;cases hp
  ·omega
abbrev r7 (t:GTx) (k1 k2:Nat):List V:=[.v (.int .i64 t.id), .v (.int .i64 t.home), .v (.int .i64 t.phase), .v (.int .i64 t.done), .g k1, .g k2, .v (.int .i64 t.stamp)]
noncomputable def bT (t:GTx) (n:GNote):GTx×Bool:=bif t.reads.any (dD n.region n.slot) then (t,true) else bif decide ((t.reads.length:Int)=12) then (t,false) else ({ t with reads:=fD (oC (B6 n.region n.slot) Y8 t.reads) n t.reads },true)
theorem AC (t:GTx) (n:GNote):(bT t n).1.sets=t.sets:=by
 unfold bT
 cases t.reads.any (dD n.region n.slot) with
 | true=>rfl
 | false=>cases decide ((t.reads.length:Int)=12) <;>rfl
open Classical in
noncomputable def c9 (t:GTx) (n:GNote):GTx×Bool:=if dV t∧noteB n=true∧(bT t n).2=true then ((bT t n).1,true) else (Y5,false)
theorem vT {r s q t:Int}:wK r s q t<0 ↔ sS r s q t=true:=by rw [n8,jU]
theorem x9 {α:Type} {sz:Nat} {enc:α→List D} {z x:α} {p:Nat} {xs:List α} (h:p≤xs.length):(Ch.arr sz ((xs.take p).length+1+((xs.length:Int) - ((xs.take p).length:Int)).toNat) (mX ((xs.take p).length+1) (mX (xs.take p).length (fun i=>enc ((xs.take p).getD i z)) fun _=>enc x) fun i=>enc (xs.getD (((xs.take p).length:Int).toNat+i) z))).imp (bE sz enc z (fD p x xs)):=by
 have hl:(xs.take p).length=p:=by rw [List.length_take];omega
 refine Ch.imp_len (by rw [gL h];omega) fun j hj=>?_
 rw [jX h,hl]
 by_cases a:j<p
 ·rw [if_pos a,kK (by omega),kK a]
  congr 1
  simp only [List.getD_eq_getElem?_getD]
  rw [List.getElem?_take_of_lt a]
 ·rw [if_neg a]
  by_cases b:j<p+1
  ·rw [if_pos b,kK b,kL (by omega)]
  ·rw [if_neg b,kL (by omega)]
   have:(p:Int).toNat+(j - (p+1))=j - 1:=by omega
   show enc (xs.getD ((p:Int).toNat+(j - (p+1))) z)=_
   rw [this]
theorem j0 (t:GTx) (hb:D.bds eA (cTx t)) (n:GNote):UF Tryz.prog 164 [vR (cTx t),vR (cR n)] (c9 t n).1 (c9 t n).2:=by
 have b1:t.reads.length≤1048576:=hb.2.2.2.2.1.1
 have b2:t.sets.length≤1048576:=hb.2.2.2.2.2.1.1
 refine aD Tryz.func164 fun B0 r_ D_ w0=>?_
 refine d5 TT_ok rfl ?_
 refine aS 2 fun r_=>?_
 refine aE ?_
 refine aG (rG t) ?_
 refine aG (zM n) ?_
 by_cases hg:dV t∧noteB n=true
 ·have e0:(bif !dec (dV t) then true else !noteB n)=false:=by rw [dG hg.1,hg.2];rfl
  have hl:=hg.1.1.2.2.2.2.2.1
  have hs:=pV hg.1.2.1
  rw [e0]
  refine bW rfl (fun e=>by cases e) (fun _=>?_)
  refine aE ?_
  refine aP (x5 t b1 b2) fun _ _=>?_
  refine aM ?_
  refine aG (tL t b1 n.region n.slot) ?_
  refine aH (fun e=>?_) (fun e=>?_)
  ·have hany:t.reads.any (dD n.region n.slot)=true:=(eY (z:=Y8)).1 e
   have hM:bT t n=(t,true):=by unfold bT;rw [hany];rfl
   rw [show c9 t n=(t,true) from by unfold c9;rw [if_pos ⟨hg.1,hg.2,by rw [hM]⟩,hM]]
   refine aE ?_
   refine aC (()) [(4,some 57),(5,none)] ?_ ?_ ?_
   ·exact ZF _
   ·exact wM
   ·trivial
  have hany:t.reads.any (dD n.region n.slot)=false:=by
   cases h:t.reads.any (dD n.region n.slot) with
   | false=>rfl
   | true=>exact absurd ((eY (z:=Y8)).2 h) e
  refine aE ?_
  refine aH (fun e2=>?_) (fun e2=>?_)
  ·have hM:bT t n=(t,false):=by unfold bT;rw [hany,decide_eq_true e2];rfl
   rw [show c9 t n=(Y5,false) from if_neg fun h=>by rw [hM] at h;exact absurd h.2.2 (by simp)]
   refine aE ?_
   refine a9 (aU 4 4 5 (fun i=>cR (([]:List GNote).getD i Y8))) ?_
   refine a9 (aU 4 5 5 (fun i=>cH (([]:List GSet).getD i Y7))) ?_
   refine a9 (aV 4 4 911) ?_
   refine a9 (aV 4 5 912) ?_
   refine a9 (bH 911 901) ?_
   refine a9 (bH 912 902) ?_
   refine aC (()) [(4,some 57),(5,none)] ?_ ?_ ?_
   ·exact ZF _
   ·exact wM
   ·trivial
  refine aE ?_
  refine aL 33 (fun i=>cR (([]:List GNote).getD i Y8)) (fun i hi=>absurd hi (Nat.not_lt_zero _)) (mu1:=[]) ?_
  refine aM ?_
  refine cW (ι:=Nat) (fun i=>[(8,vI i),(7, .a (.g 33))]) (fun i=>[(33,bE 5 cR Y8 (t.reads.take i))]) (fun i=>i≤t.reads.length∧∀ a,a<i→B6 n.region n.slot (t.reads.getD a Y8)<0) (fun i=>t.reads.length - i) 0 [33] [33] rfl rfl ⟨Nat.zero_le _,fun a ha=>absurd ha (Nat.not_lt_zero _)⟩ wF ⟨⟨_,rfl,bU (sz:=5) (enc:=cR) (z:=Y8) (xs:=[]) rfl⟩,trivial⟩ ?_
  intro i ⟨h1,h2⟩
  refine aE ?_
  refine dN TT_ok [] rfl rfl fun B0 H0=>?_
  refine iF TT_ok (oP _ _ _ _) rfl rfl rfl rfl rfl rfl ?_
  refine aN ?_
  refine aA (fun e3=>?_) (fun e3=>?_)
  ·have hi:i<t.reads.length:=by
    rcases Nat.lt_or_ge i t.reads.length with h | h
    ·exact h
    ·rw [decide_eq_false (by omega)] at e3;cases e3
   have hlt:(t.reads.take i).length=i:=by rw [List.length_take];omega
   rw [decide_eq_true (by omega)] at e3
   refine aE ?_
   refine cJ TT_ok 66 (fun _=>cR (t.reads.getD i Y8)) rfl rfl rfl rfl rfl rfl rfl (fun i hi=>by rcases i with _ | i <;>first | rfl | omega) (mu1:=[]) rfl rfl rfl ?_
   refine aM ?_
   refine cL TT_ok 33 66 67 rfl rfl rfl rfl rfl rfl rfl rfl rfl rfl rfl rfl ⟨by show ((t.reads.take i).length+1) * 40≤_;omega,by unfold maxL;omega⟩ ?_
   refine aM ?_
   refine bC (bH 33 67) ?_
   refine bF (i+1) ⟨hi,fun a ha=>?_⟩ (by omega) wF ⟨⟨_,rfl,cX (x:=t.reads.getD i Y8) (b7 hi) rfl⟩,wM⟩
   by_cases c:a<i
   ·exact h2 a c
   ·have:a=i:=by omega
    subst this
    exact vT.2 e3
  have hc:lD (B6 n.region n.slot) Y8 t.reads i:=⟨h1,h2,fun a ha hb2 hlt=>by
   have h3:=BG hs n.region n.slot i a ha hb2 hlt
   have e4:sS (t.reads.getD i Y8).region (t.reads.getD i Y8).slot n.region n.slot=false:=by rw [decide_eq_true (by omega)] at e3;exact e3
   rw [vT.1 h3] at e4
   cases e4⟩
  have hM:bT t n=({ t with reads:=fD i n t.reads },true):=by unfold bT;rw [hany,decide_eq_false e2,tB hc];rfl
  rw [show c9 t n=({ t with reads:=fD i n t.reads },true) from by unfold c9;rw [if_pos ⟨hg.1,hg.2,by rw [hM]⟩,hM]]
  have hlt:(t.reads.take i).length=i:=by rw [List.length_take];omega
  refine aE ?_
  refine JD 7 33 rfl rfl fun cp _=>?_
  refine aW [33] [0,1,4,5,6,7,8,2,3,9,10,11] fun B0 H0=>?_
  refine bB 2 rfl (by kernel_rfl) (dK TT_ok 70 (fun _=>cR n) rfl rfl rfl rfl rfl rfl rfl (fun j hj=>by rcases j with _ | j <;>first | rfl | omega) (mu1:=[]) rfl rfl rfl (bA ?_))
  refine bB 3 rfl (by kernel_rfl) (dE TT_ok 33 70 71 rfl rfl rfl rfl rfl rfl rfl rfl rfl rfl rfl rfl ⟨by show ((t.reads.take i).length+1) * 40≤_;omega,by unfold maxL;omega⟩ (bA ?_))
  refine bB 9 rfl (by kernel_rfl) (nN TT_ok 71 77 rfl rfl rfl rfl rfl rfl rfl rfl rfl rfl rfl rfl ⟨by show ((t.reads.take i).length+1+_) * 40≤_;omega,by unfold maxL;omega⟩ (bA ?_))
  refine aY [10,11] ?_
  refine d7 11 rfl (by kernel_rfl) (by kernel_rfl) (aR (eX [] fun B0 H0=>?_))
  refine aN ?_
  refine a9 (bH 77 901) ?_
  refine aC (()) [(4,some 57),(5,none)] ?_ ?_ ?_
  ·exact ZF _
  ·exact ⟨⟨_,rfl,x9 h1⟩,⟨_,rfl,ZE _⟩,trivial⟩
  ·trivial
 ·have e0:(bif !dec (dV t) then true else !noteB n)=true:=by
   by_cases h1:dV t
   ·rw [dG h1]
    cases h2:noteB n with
    | true=>exact absurd ⟨h1,h2⟩ hg
    | false=>rfl
   ·rw [cF h1];rfl
  rw [show c9 t n=(Y5,false) from if_neg fun h=>hg ⟨h.1,h.2.1⟩]
  rw [e0]
  refine bW rfl (fun e=>?_) (fun e=>by cases e)
  refine aE ?_
  refine a9 (aU 4 4 5 (fun i=>cR (([]:List GNote).getD i Y8))) ?_
  refine a9 (aU 4 5 5 (fun i=>cH (([]:List GSet).getD i Y7))) ?_
  refine a9 (aV 4 4 911) ?_
  refine a9 (aV 4 5 912) ?_
  refine a9 (bH 911 901) ?_
  refine a9 (bH 912 902) ?_
  refine aC (()) [(4,some 57),(5,none)] ?_ ?_ ?_
  ·exact ZF _
  ·exact wM
  ·trivial
theorem WD {xs:List GSet} (hs:BP xs) {r s:Int} (h:0≤b0 (dF r s) xs):lD (lZ r s) Y7 xs (b0 (dF r s) xs).toNat∧(b0 (dF r s) xs).toNat<xs.length:=by
 obtain ⟨h1,h2⟩:=lL (z:=Y7) h
 obtain ⟨e1,e2⟩:=oA.1 h2
 refine ⟨⟨Nat.le_of_lt h1,fun a ha=>?_,fun a ha hb hc=>?_⟩,h1⟩
 ·have:=hs a _ ha h1
  unfold lZ
  rw [n8]
  unfold lessS at this
  rw [e1,e2] at this
  exact this
 ·unfold lZ at hc
  rw [n8] at hc
  by_cases c:a=(b0 (dF r s) xs).toNat
  ·subst c;rw [e1,e2] at hc;omega
  ·have:=hs (b0 (dF r s) xs).toNat a (by omega) hb
   unfold lessS at this
   rw [e1,e2] at this
   omega
noncomputable def FC (t:GTx) (s:GSet) (p:Nat):GTx:={ t with sets:=t.sets.set p ⟨s.region,s.slot,s.value,s.used,(t.sets.getD p Y7).version⟩ }
noncomputable def dW (t:GTx) (s:GSet):GTx×Bool:=bif t.sets.any (dF s.region s.slot) then (FC t s (oC (lZ s.region s.slot) Y7 t.sets),true) else bif decide ((t.sets.length:Int)=12) then (t,false) else ({ t with sets:=fD (oC (lZ s.region s.slot) Y7 t.sets) s t.sets },true)
open Classical in
noncomputable def dM (t:GTx) (s:GSet):GTx×Bool:=if dV t∧setB s=true∧(dW t s).2=true then ((dW t s).1,true) else (Y5,false)
theorem kN (t:GTx) (hb:D.bds eA (cTx t)) (s:GSet):UF Tryz.prog 166 [vR (cTx t),vR (cH s)] (dM t s).1 (dM t s).2:=by
 have b1:t.reads.length≤1048576:=hb.2.2.2.2.1.1
 have b2:t.sets.length≤1048576:=hb.2.2.2.2.2.1.1
 refine aD Tryz.func166 fun B0 r_ D_ w0=>?_
 refine d5 TT_ok rfl ?_
 refine aS 2 fun r_=>?_
 refine aE ?_
 refine aG (rG t) ?_
 refine aG (tY s) ?_
 by_cases hg:dV t∧setB s=true
 ·have e0:(bif !dec (dV t) then true else !setB s)=false:=by rw [dG hg.1,hg.2];rfl
  have hl:=hg.1.1.2.2.2.2.2.2
  have hs:=sX hg.1.2.2
  rw [e0]
  refine bW rfl (fun e=>by cases e) (fun _=>?_)
  refine aE ?_
  refine aP (x5 t b1 b2) fun _ _=>?_
  refine aM ?_
  refine aG (CB t b2 s.region s.slot) ?_
  refine aH (fun e=>?_) (fun e=>?_)
  ·obtain ⟨hc,hil⟩:=WD hs e
   have hin:0≤b0 (dF s.region s.slot) t.sets∧b0 (dF s.region s.slot) t.sets<t.sets.length:=⟨e,by omega⟩
   have hany:t.sets.any (dF s.region s.slot)=true:=(eY (z:=Y7)).1 e
   have hM:dW t s=(FC t s (b0 (dF s.region s.slot) t.sets).toNat,true):=by unfold dW;rw [hany,tB hc];rfl
   rw [show dM t s=(FC t s (b0 (dF s.region s.slot) t.sets).toNat,true) from by unfold dM;rw [if_pos ⟨hg.1,hg.2,by rw [hM]⟩,hM]]
   refine aE ?_
   refine aC (()) [(4,some 57),(5,none)] ?_ ?_ ?_
   ·exact ZF _
   ·exact ⟨⟨_,rfl,ZE _⟩,⟨_,rfl,bS (OwnI.refl _)⟩,trivial⟩
   ·trivial
  have hany:t.sets.any (dF s.region s.slot)=false:=by
   cases h:t.sets.any (dF s.region s.slot) with
   | false=>rfl
   | true=>exact absurd ((eY (z:=Y7)).2 h) e
  refine aE ?_
  refine aH (fun e2=>?_) (fun e2=>?_)
  ·have hM:dW t s=(t,false):=by unfold dW;rw [hany,decide_eq_true e2];rfl
   rw [show dM t s=(Y5,false) from if_neg fun h=>by rw [hM] at h;exact absurd h.2.2 (by simp)]
   refine aE ?_
   refine a9 (aU 4 4 5 (fun i=>cR (([]:List GNote).getD i Y8))) ?_
   refine a9 (aU 4 5 5 (fun i=>cH (([]:List GSet).getD i Y7))) ?_
   refine a9 (aV 4 4 911) ?_
   refine a9 (aV 4 5 912) ?_
   refine a9 (bH 911 901) ?_
   refine a9 (bH 912 902) ?_
   refine aC (()) [(4,some 57),(5,none)] ?_ ?_ ?_
   ·exact ZF _
   ·exact wM
   ·trivial
  refine aE ?_
  refine aL 47 (fun i=>cH (([]:List GSet).getD i Y7)) (fun i hi=>absurd hi (Nat.not_lt_zero _)) (mu1:=[]) ?_
  refine aM ?_
  refine cW (ι:=Nat) (fun i=>[(9,vI i),(8, .a (.g 47))]) (fun i=>[(47,bE 5 cH Y7 (t.sets.take i))]) (fun i=>i≤t.sets.length∧∀ a,a<i→lZ s.region s.slot (t.sets.getD a Y7)<0) (fun i=>t.sets.length - i) 0 [47] [47] rfl rfl ⟨Nat.zero_le _,fun a ha=>absurd ha (Nat.not_lt_zero _)⟩ wF ⟨⟨_,rfl,bU (sz:=5) (enc:=cH) (z:=Y7) (xs:=[]) rfl⟩,trivial⟩ ?_
  intro i ⟨h1,h2⟩
  refine aE ?_
  refine dN TT_ok [] rfl rfl fun B0 H0=>?_
  refine iF TT_ok (oP _ _ _ _) rfl rfl rfl rfl rfl rfl ?_
  refine aN ?_
  refine aA (fun e3=>?_) (fun e3=>?_)
  ·have hi:i<t.sets.length:=by
    rcases Nat.lt_or_ge i t.sets.length with h | h
    ·exact h
    ·rw [decide_eq_false (by omega)] at e3;cases e3
   have hlt:(t.sets.take i).length=i:=by rw [List.length_take];omega
   rw [decide_eq_true (by omega)] at e3
   refine aE ?_
   refine cJ TT_ok 80 (fun _=>cH (t.sets.getD i Y7)) rfl rfl rfl rfl rfl rfl rfl (fun i hi=>by rcases i with _ | i <;>first | rfl | omega) (mu1:=[]) rfl rfl rfl ?_
   refine aM ?_
   refine cL TT_ok 47 80 81 rfl rfl rfl rfl rfl rfl rfl rfl rfl rfl rfl rfl ⟨by show ((t.sets.take i).length+1) * 40≤_;omega,by unfold maxL;omega⟩ ?_
   refine aM ?_
   refine bC (bH 47 81) ?_
   refine bF (i+1) ⟨hi,fun a ha=>?_⟩ (by omega) wF ⟨⟨_,rfl,cX (x:=t.sets.getD i Y7) (b7 hi) rfl⟩,wM⟩
   by_cases c:a<i
   ·exact h2 a c
   ·have:a=i:=by omega
    subst this
    exact vT.2 e3
  have hc:lD (lZ s.region s.slot) Y7 t.sets i:=⟨h1,h2,fun a ha hb2 hlt=>by
   have h3:=uO hs s.region s.slot i a ha hb2 hlt
   have e4:sS (t.sets.getD i Y7).region (t.sets.getD i Y7).slot s.region s.slot=false:=by rw [decide_eq_true (by omega)] at e3;exact e3
   rw [vT.1 h3] at e4
   cases e4⟩
  have hM:dW t s=({ t with sets:=fD i s t.sets },true):=by unfold dW;rw [hany,decide_eq_false e2,tB hc];rfl
  rw [show dM t s=({ t with sets:=fD i s t.sets },true) from by unfold dM;rw [if_pos ⟨hg.1,hg.2,by rw [hM]⟩,hM]]
  have hlt:(t.sets.take i).length=i:=by rw [List.length_take];omega
  refine aE ?_
  refine JD 8 47 rfl rfl fun cp _=>?_
  refine aW [47] [0,1,4,5,6,7,8,2,3,9,10,11] fun B0 H0=>?_
  refine bB 2 rfl (by kernel_rfl) (dK TT_ok 84 (fun _=>cH s) rfl rfl rfl rfl rfl rfl rfl (fun j hj=>by rcases j with _ | j <;>first | rfl | omega) (mu1:=[]) rfl rfl rfl (bA ?_))
  refine bB 3 rfl (by kernel_rfl) (dE TT_ok 47 84 85 rfl rfl rfl rfl rfl rfl rfl rfl rfl rfl rfl rfl ⟨by show ((t.sets.take i).length+1) * 40≤_;omega,by unfold maxL;omega⟩ (bA ?_))
  refine bB 9 rfl (by kernel_rfl) (nN TT_ok 85 91 rfl rfl rfl rfl rfl rfl rfl rfl rfl rfl rfl rfl ⟨by show ((t.sets.take i).length+1+_) * 40≤_;omega,by unfold maxL;omega⟩ (bA ?_))
  refine aY [10,11] ?_
  refine d7 11 rfl (by kernel_rfl) (by kernel_rfl) (aR (eX [] fun B0 H0=>?_))
  refine aN ?_
  refine a9 (bH 91 902) ?_
  refine aC (()) [(4,some 57),(5,none)] ?_ ?_ ?_
  ·exact ZF _
  ·exact ⟨⟨_,rfl,ZE _⟩,⟨_,rfl,x9 h1⟩,trivial⟩
  ·trivial
 ·have e0:(bif !dec (dV t) then true else !setB s)=true:=by
   by_cases h1:dV t
   ·rw [dG h1]
    cases h2:setB s with
    | true=>exact absurd ⟨h1,h2⟩ hg
    | false=>rfl
   ·rw [cF h1];rfl
  rw [show dM t s=(Y5,false) from if_neg fun h=>hg ⟨h.1,h.2.1⟩]
  rw [e0]
  refine bW rfl (fun e=>?_) (fun e=>by cases e)
  refine aE ?_
  refine a9 (aU 4 4 5 (fun i=>cR (([]:List GNote).getD i Y8))) ?_
  refine a9 (aU 4 5 5 (fun i=>cH (([]:List GSet).getD i Y7))) ?_
  refine a9 (aV 4 4 911) ?_
  refine a9 (aV 4 5 912) ?_
  refine a9 (bH 911 901) ?_
  refine a9 (bH 912 902) ?_
  refine aC (()) [(4,some 57),(5,none)] ?_ ?_ ?_
  ·exact ZF _
  ·exact wM
  ·trivial
end
section
theorem X3 {α:Type} {c:α→Int} {z:α} {xs:List α} (h:rL c z xs):∃ i,lD c z xs i:=by
 have key:∀ k,k≤xs.length→(∃ i,lD c z xs i)∨∀ a,a<k→c (xs.getD a z)<0:=fun k=>by
  induction k with
  | zero=>exact fun _ => .inr fun a ha=>absurd ha (Nat.not_lt_zero _)
  | succ k ih =>
   intro hk
   rcases ih (by omega) with h1 | h1
   ·exact .inl h1
   ·by_cases h2:c (xs.getD k z)<0
    ·exact .inr fun a ha=>by
      by_cases e:a=k
      ·subst e;exact h2
      ·exact h1 a (by omega)
    ·exact .inl ⟨k,by omega,h1,fun a a1 a2 a3=>h2 (h k a a1 a2 a3)⟩
 rcases key xs.length (Nat.le_refl _) with h1 | h1
 ·exact h1
 ·exact ⟨xs.length,Nat.le_refl _,h1,fun a a1 a2=>by omega⟩
theorem qV {α:Type} {c:α→Int} {z:α} {xs:List α} (h:rL c z xs):lD c z xs (oC c z xs):=by
 obtain ⟨i,hi⟩:=X3 h
 rw [tB hi];exact hi
section
variable {α:Type} {reg slot:α→Int} {z x:α} {xs:List α}
def L8 (reg slot:α→Int) (a b:α):Prop:=reg a<reg b∨reg a=reg b∧slot a<slot b
theorem l0 {p:Nat} {y:α}:y ∈ fD p x xs ↔ y=x∨y ∈ xs:=by
 unfold fD
 rw [List.mem_append,List.mem_cons]
 constructor
 ·rintro (h | h | h)
  ·exact .inr (List.mem_of_mem_take h)
  ·exact .inl h
  ·exact .inr (List.mem_of_mem_drop h)
 ·rintro (h | h)
  ·exact .inr (.inl h)
  ·rw [← List.take_append_drop p xs,List.mem_append] at h
   rcases h with h | h
   ·exact .inl h
   ·exact .inr (.inr h)
theorem EW {p:Nat} (hs:xs.Pairwise (L8 reg slot)) (hc:lD (fun y=>wK (reg y) (slot y) (reg x) (slot x)) z xs p) (hn:∀ y ∈ xs,¬ (reg y=reg x∧slot y=slot x)):(fD p x xs).Pairwise (L8 reg slot):=by
 obtain ⟨c1,c2,c3⟩:=hc
 have ht:∀ y ∈ xs.take p,L8 reg slot y x:=fun y hy=>by
  obtain ⟨a,ha,rfl⟩:=List.mem_iff_getElem.1 hy
  have hap:a<p:=by rw [List.length_take] at ha;omega
  have:=c2 a hap
  rw [n8] at this
  rw [List.getElem_take]
  simp only [List.getD_eq_getElem?_getD,List.getElem?_eq_getElem (show a<xs.length by omega),Option.getD_some] at this
  exact this
 have hd:∀ y ∈ xs.drop p,L8 reg slot x y:=fun y hy=>by
  have hm:=hn y (List.mem_of_mem_drop hy)
  obtain ⟨a,ha,rfl⟩:=List.mem_iff_getElem.1 hy
  have hl:p+a<xs.length:=by rw [List.length_drop] at ha;omega
  have:=c3 (p+a) (by omega) hl
  rw [n8] at this
  rw [List.getElem_drop] at hm ⊢
  simp only [List.getD_eq_getElem?_getD,List.getElem?_eq_getElem hl,Option.getD_some] at this
  unfold L8
  omega
 unfold fD
 refine List.pairwise_append.2 ⟨hs.sublist (List.take_sublist p xs),List.pairwise_cons.2 ⟨hd,hs.sublist (List.drop_sublist p xs)⟩,fun a ha b hb=>?_⟩
 rcases List.mem_cons.1 hb with rfl | hb
 ·exact ht a ha
 ·rw [← List.take_append_drop p xs] at hs
  exact (List.pairwise_append.1 hs).2.2 a ha b hb
theorem eV {R:α→α→Prop} (h:xs.Pairwise R) {a b:Nat} (hab:a<b) (hb:b<xs.length):R (xs.getD a z) (xs.getD b z):=by
 have:=List.pairwise_iff_getElem.1 h a b (by omega) hb hab
 simpa [hb,show a<xs.length by omega] using this
end
theorem lG {α:Type} {R:α→α→Prop} {z:α}:∀ {xs:List α},(∀ a b,a<b→b<xs.length→R (xs.getD a z) (xs.getD b z))→xs.Pairwise R:=fun {xs} h=>by
 rw [List.pairwise_iff_getElem]
 intro i j hi hj hij
 have:=h i j hij hj
 simpa [hi,hj] using this
theorem bY {α:Type} {z:α} {xs:List α} {i:Nat} (h:i<xs.length):xs.getD i z ∈ xs:=by simp [h]
theorem wI {xs:List GNote}:readsOk xs xs.length ↔ (∀ n ∈ xs,noteB n=true)∧xs.Pairwise lessN:=by
 constructor
 ·intro h
  refine ⟨fun n hn=>?_,lG (z:=Y8) (pV h)⟩
  obtain ⟨i,hi,rfl⟩:=List.mem_iff_getElem.1 hn
  simpa [hi] using (h i hi).1
 ·rintro ⟨h1,h2⟩ j hj
  exact ⟨h1 _ (bY hj),fun h0=>eV (z:=Y8) h2 (by omega) hj⟩
theorem pL {xs:List GSet}:setsOk xs xs.length ↔ (∀ n ∈ xs,setB n=true)∧xs.Pairwise lessS:=by
 constructor
 ·intro h
  refine ⟨fun n hn=>?_,lG (z:=Y7) (sX h)⟩
  obtain ⟨i,hi,rfl⟩:=List.mem_iff_getElem.1 hn
  simpa [hi] using (h i hi).1
 ·rintro ⟨h1,h2⟩ j hj
  exact ⟨h1 _ (bY hj),fun h0=>eV (z:=Y7) h2 (by omega) hj⟩
theorem AO {xs:List GNote} {r s:Int} (h:xs.any (dD r s)=false):∀ y ∈ xs,¬ (y.region=r∧y.slot=s):=fun y hy e=>by
 have:xs.any (dD r s)=true:=List.any_eq_true.2 ⟨y,hy,sO.2 e⟩
 rw [h] at this;cases this
theorem JT {xs:List GSet} {r s:Int} (h:xs.any (dF r s)=false):∀ y ∈ xs,¬ (y.region=r∧y.slot=s):=fun y hy e=>by
 have:xs.any (dF r s)=true:=List.any_eq_true.2 ⟨y,hy,oA.2 e⟩
 rw [h] at this;cases this
theorem sM {t:GTx} (ht:dV t) {n:GNote} (hn:noteB n=true):dV (bT t n).1∧(bT t n).1.reads.length≤t.reads.length+1∧((bT t n).2=true→(bT t n).1.reads.any (dD n.region n.slot)=true):=by
 have hs:=pV ht.2.1
 unfold bT
 cases h1:t.reads.any (dD n.region n.slot) with
 | true=>exact ⟨ht,Nat.le_succ _,fun _=>h1⟩
 | false =>
  by_cases h2:(t.reads.length:Int)=12
  ·rw [decide_eq_true h2];exact ⟨ht,Nat.le_succ _,fun h=>by cases h⟩
  ·rw [decide_eq_false h2]
   have hc:=qV (BG hs n.region n.slot)
   have hl:=gL (x:=n) hc.1
   have h12:=ht.1.2.2.2.2.2.1
   have hr:=wI.1 ht.2.1
   refine ⟨⟨⟨ht.1.1,ht.1.2.1,ht.1.2.2.1,ht.1.2.2.2.1,ht.1.2.2.2.2.1,?_,ht.1.2.2.2.2.2.2⟩,wI.2 ⟨fun y hy=>?_,?_⟩,ht.2.2⟩,?_,fun _=>?_⟩
   ·show (fD _ n t.reads).length≤12;omega
   ·rcases l0.1 hy with rfl | hy
    ·exact hn
    ·exact hr.1 y hy
   ·exact EW (reg:=GNote.region) (slot:=GNote.slot) (z:=Y8) hr.2 hc (AO h1)
   ·show (fD _ n t.reads).length≤_;omega
   ·exact List.any_eq_true.2 ⟨n,l0.2 (.inl rfl),sO.2 ⟨rfl,rfl⟩⟩
theorem MJ {t:GTx} {n:GNote} (h:(c9 t n).2=true):dV t∧noteB n=true∧(bT t n).2=true∧c9 t n=((bT t n).1,true):=by
 unfold c9 at h ⊢
 split at h
 ·rename_i hc
  rw [if_pos hc];exact ⟨hc.1,hc.2.1,hc.2.2,rfl⟩
 ·cases h
theorem gW {α:Type} {z y:α} {xs:List α} {p:Nat} (hp:p<xs.length) (i:Nat):(xs.set p y).getD i z=if i=p then y else xs.getD i z:=by
 by_cases c:i=p
 ·subst c;rw [if_pos rfl];simp [hp]
 ·rw [if_neg c];simp [List.getElem?_set_ne (Ne.symm c)]
theorem SG {t:GTx} (ht:dV t) {s:GSet} (hs:setB s=true) {p:Nat} (hp:p<t.sets.length) (e:(t.sets.getD p Y7).region=s.region∧(t.sets.getD p Y7).slot=s.slot):dV (FC t s p):=by
 have hr:=pL.1 ht.2.2
 have hb:setB ⟨s.region,s.slot,s.value,s.used,(t.sets.getD p Y7).version⟩=true:=by
  have h1:=hr.1 _ (bY (z:=Y7) hp)
  have f:∀ x:GSet,setB x=true ↔ (0≤x.region∧x.region≤5)∧(0≤x.slot∧x.slot≤5)∧(-1000000000≤x.value∧x.value≤1000000000)∧(0≤x.version∧x.version≤999999):=fun x=>by
   rw [← bR, ← bR, ← bR, ← bR]
   unfold setB
   cases inB x.region 0 5 <;>cases inB x.slot 0 5 <;>cases inB x.value (-1000000000) 1000000000 <;>cases inB x.version 0 999999 <;>simp
  rw [f] at h1 hs ⊢
  exact ⟨hs.1,hs.2.1,hs.2.2.1,h1.2.2.2⟩
 refine ⟨⟨ht.1.1,ht.1.2.1,ht.1.2.2.1,ht.1.2.2.2.1,ht.1.2.2.2.2.1,ht.1.2.2.2.2.2.1,?_⟩,ht.2.1,pL.2 ⟨fun y hy=>?_,?_⟩⟩
 ·show (t.sets.set p _).length≤12
  rw [List.length_set];exact ht.1.2.2.2.2.2.2
 ·rcases List.mem_or_eq_of_mem_set hy with hy | rfl
  ·exact hr.1 y hy
  ·exact hb
 ·refine lG (z:=Y7) fun a b hab hbl=>?_
  have hbl':b<t.sets.length:=by simpa [FC] using hbl
  have hq:=eV (z:=Y7) hr.2 hab hbl'
  show lessS ((t.sets.set p _).getD a Y7) ((t.sets.set p _).getD b Y7)
  rw [gW hp,gW hp]
  by_cases ca:a=p
  ·subst ca
   rw [if_pos rfl,if_neg (by omega)]
   unfold lessS at hq ⊢
   dsimp only
   rw [← e.1, ← e.2];exact hq
  ·rw [if_neg ca]
   by_cases cb:b=p
   ·subst cb
    rw [if_pos rfl]
    unfold lessS at hq ⊢
    dsimp only
    rw [← e.1, ← e.2];exact hq
   ·rw [if_neg cb];exact hq
theorem TX {xs:List GSet} (hs:BP xs) {r s:Int} (h:xs.any (dF r s)=true):oC (lZ r s) Y7 xs<xs.length∧dF r s (xs.getD (oC (lZ r s) Y7 xs) Y7)=true:=by
 have hc:=qV (uO hs r s)
 obtain ⟨y,hy,hy2⟩:=List.any_eq_true.1 h
 obtain ⟨a,ha,rfl⟩:=List.mem_iff_getElem.1 hy
 have e2:dF r s (xs.getD a Y7)=true:=by simpa [ha] using hy2
 have e1:=oA.1 e2
 have key:oC (lZ r s) Y7 xs=a:=by
  refine tB ⟨Nat.le_of_lt ha,fun b hb=>?_,fun b b1 b2 b3=>?_⟩
  ·have:=hs b a hb ha
   unfold lZ;rw [n8];unfold lessS at this;rw [e1.1,e1.2] at this;exact this
  ·unfold lZ at b3
   rw [n8] at b3
   by_cases c:b=a
   ·subst c;rw [e1.1,e1.2] at b3;omega
   ·have:=hs a b (by omega) b2
    unfold lessS at this;rw [e1.1,e1.2] at this;omega
 rw [key];exact ⟨ha,e2⟩
theorem H9 {t:GTx} (ht:dV t) {s:GSet} (hn:setB s=true):dV (dW t s).1∧(dW t s).1.sets.length≤t.sets.length+1∧((dW t s).2=true→(dW t s).1.sets.any (dF s.region s.slot)=true):=by
 have hs:=sX ht.2.2
 unfold dW
 cases h1:t.sets.any (dF s.region s.slot) with
 | true =>
  obtain ⟨p1,p2⟩:=TX hs h1
  have p3:=oA.1 p2
  refine ⟨SG ht hn p1 p3,?_,fun _=>?_⟩
  ·show (t.sets.set _ _).length≤_;rw [List.length_set];omega
  ·refine List.any_eq_true.2 ⟨⟨s.region,s.slot,s.value,s.used,(t.sets.getD (oC (lZ s.region s.slot) Y7 t.sets) Y7).version⟩,?_,oA.2 ⟨rfl,rfl⟩⟩
   exact List.mem_set p1 _
 | false =>
  by_cases h2:(t.sets.length:Int)=12
  ·rw [decide_eq_true h2];exact ⟨ht,Nat.le_succ _,fun h=>by cases h⟩
  ·rw [decide_eq_false h2]
   have hc:=qV (uO hs s.region s.slot)
   have hl:=gL (x:=s) hc.1
   have h12:=ht.1.2.2.2.2.2.2
   have hr:=pL.1 ht.2.2
   refine ⟨⟨⟨ht.1.1,ht.1.2.1,ht.1.2.2.1,ht.1.2.2.2.1,ht.1.2.2.2.2.1,ht.1.2.2.2.2.2.1,?_⟩,ht.2.1,pL.2 ⟨fun y hy=>?_,?_⟩⟩,?_,fun _=>?_⟩
   ·show (fD _ s t.sets).length≤12;omega
   ·rcases l0.1 hy with rfl | hy
    ·exact hn
    ·exact hr.1 y hy
   ·exact EW (reg:=GSet.region) (slot:=GSet.slot) (z:=Y7) hr.2 hc (JT h1)
   ·show (fD _ s t.sets).length≤_;omega
   ·exact List.any_eq_true.2 ⟨s,l0.2 (.inl rfl),oA.2 ⟨rfl,rfl⟩⟩
theorem ER {t:GTx} {s:GSet} (h:(dM t s).2=true):dV t∧setB s=true∧(dW t s).2=true∧dM t s=((dW t s).1,true):=by
 unfold dM at h ⊢
 split at h
 ·rename_i hc
  rw [if_pos hc];exact ⟨hc.1,hc.2.1,hc.2.2,rfl⟩
 ·cases h
theorem k9 {x:GSet}:setB x=true ↔ (0≤x.region∧x.region≤5)∧(0≤x.slot∧x.slot≤5)∧(-1000000000≤x.value∧x.value≤1000000000)∧(0≤x.version∧x.version≤999999):=by
 rw [← bR, ← bR, ← bR, ← bR]
 unfold setB
 cases inB x.region 0 5 <;>cases inB x.slot 0 5 <;>cases inB x.value (-1000000000) 1000000000 <;>cases inB x.version 0 999999 <;>simp
end
section
abbrev rowN (x:GNote):List V:=[.v (.int .i64 x.region), .v (.int .i64 x.slot), .v (.int .i64 x.version), .v (.int .i64 x.value), .v (.bool x.used)]
abbrev rowS (x:GSet):List V:=[.v (.int .i64 x.region), .v (.int .i64 x.slot), .v (.int .i64 x.value), .v (.bool x.used), .v (.int .i64 x.version)]
abbrev dP (i h:Int):Ch := .row [.g 701, .v (.int .i64 i), .v (.int .i64 h)]
theorem uG {n:Nat} {β:Nat→Int} (hn:n≤1048576) (hβ:g0 β) (i h:Int) (h1:0≤i) (h2:i≤n):yZ Tryz.prog 165 [] n β i h (fun _:GNote=>True) (fun x=>vR (cR x)):=by
 refine aD Tryz.func165 fun B0 r_ D_ w0=>?_
 refine aE ?_
 refine aP (bI hn hβ i h h1 h2 3) fun a ⟨a1,a2,a3⟩=>?_
 refine aM ?_
 refine aP (bI hn hβ a.2.1 a.2.2 a2 a3 6) fun b ⟨b1,b2,b3⟩=>?_
 refine aM ?_
 refine aP (bI hn hβ b.2.1 b.2.2 b2 b3 6) fun c ⟨c1,c2,c3⟩=>?_
 refine aM ?_
 refine dZ TT_ok (tJ hn hβ c.2.1 c.2.2 c2 c3 (-9) 9 (by decide) (by decide) (by decide)) rfl rfl (ZF _) (fun _=>rfl) rfl rfl rfl fun d ⟨d1,d2,d3⟩=>?_
 refine aM ?_
 refine aP (dX hn hβ d.2.1 d.2.2 d2 d3 2) fun e ⟨e1,e2,e3⟩=>?_
 refine aM ?_
 refine aP (dX hn hβ e.2.1 e.2.2 e2 e3 24) fun f ⟨f1,f2,f3⟩=>?_
 refine aM ?_
 refine dC (ι:=GNote×Int×Int) (fun _=>[]) (fun y=>[(3, .row (rowN y.1)),(700,dP y.2.1 y.2.2)]) (fun y=>0≤y.2.1∧y.2.1≤n) [3,700] [] rfl rfl ?_ ?_
 ·refine aA (fun _=>?_) (fun _=>?_)
  rotate_left
  ·refine aE ?_
   exact aK (⟨a.1,b.1,c.1,d.1,e.1⟩,f.2.1,f.2.2) ⟨f2,f3⟩ Nat.zero_lt_one
  refine aE ?_
  refine aP (bI hn hβ f.2.1 f.2.2 f2 f3 3) fun g ⟨g1,g2,g3⟩=>?_
  refine aM ?_
  refine aA (fun _=>?_) (fun _=>?_)
  ·refine aE ?_
   refine cJ TT_ok 50 (fun i=>bL (([-1,5,6]:List Int).getD i 0)) rfl rfl rfl rfl rfl rfl rfl (fun i hi=>by rcases i with _ | _ | _ | i <;>first | rfl | omega) (mu1:=[]) rfl rfl rfl ?_
   refine aM ?_
   refine aP (bI hn hβ g.2.1 g.2.2 g2 g3 3) fun z ⟨z1,z2,z3⟩=>?_
   refine aM ?_
   exact aK (⟨(([-1,5,6]:List Int).getD z.1.toNat 0),b.1,c.1,d.1,e.1⟩,z.2.1,z.2.2) ⟨z2,z3⟩ Nat.zero_lt_one
  refine aE ?_
  refine aA (fun _=>?_) (fun _=>?_)
  ·refine aE ?_
   refine cJ TT_ok 50 (fun i=>bL (([-1,6]:List Int).getD i 0)) rfl rfl rfl rfl rfl rfl rfl (fun i hi=>by rcases i with _ | _ | i <;>first | rfl | omega) (mu1:=[]) rfl rfl rfl ?_
   refine aM ?_
   refine aP (bI hn hβ g.2.1 g.2.2 g2 g3 2) fun z ⟨z1,z2,z3⟩=>?_
   refine aM ?_
   exact aK (⟨a.1,(([-1,6]:List Int).getD z.1.toNat 0),c.1,d.1,e.1⟩,z.2.1,z.2.2) ⟨z2,z3⟩ Nat.zero_lt_one
  refine aE ?_
  refine aA (fun _=>?_) (fun _=>?_)
  ·refine aE ?_
   refine cJ TT_ok 50 (fun i=>bL (([-1,1000000,1000001]:List Int).getD i 0)) rfl rfl rfl rfl rfl rfl rfl (fun i hi=>by rcases i with _ | _ | _ | i <;>first | rfl | omega) (mu1:=[]) rfl rfl rfl ?_
   refine aM ?_
   refine aP (bI hn hβ g.2.1 g.2.2 g2 g3 3) fun z ⟨z1,z2,z3⟩=>?_
   refine aM ?_
   exact aK (⟨a.1,b.1,(([-1,1000000,1000001]:List Int).getD z.1.toNat 0),d.1,e.1⟩,z.2.1,z.2.2) ⟨z2,z3⟩ Nat.zero_lt_one
  refine aE ?_
  exact aK (⟨a.1,b.1,c.1,d.1,e.1⟩,g.2.1,g.2.2) ⟨g2,g3⟩ Nat.zero_lt_one
 rintro ⟨x,i',h'⟩ ⟨g1,g2⟩
 dsimp only at g1 g2 ⊢
 refine aT ?_
 refine aC ((x,i',h')) [(2,some 104)] ?_ ?_ ?_
 ·exact ZF _
 ·exact wM
 ·exact ⟨trivial,g1,g2⟩
theorem oI {n:Nat} {β:Nat→Int} (hn:n≤1048576) (hβ:g0 β) (i h:Int) (h1:0≤i) (h2:i≤n) (r0:Int) (hr : -1000000≤r0∧r0≤1000000):yZ Tryz.prog 167 [vI r0] n β i h (fun _:GSet=>True) (fun x=>vR (cH x)):=by
 refine aD Tryz.func167 fun B0 r_ D_ w0=>?_
 refine aE ?_
 refine aP (bI hn hβ i h h1 h2 6) fun a ⟨a1,a2,a3⟩=>?_
 refine aM ?_
 refine dZ TT_ok (tJ hn hβ a.2.1 a.2.2 a2 a3 (-50) 50 (by decide) (by decide) (by decide)) rfl rfl (ZF _) (fun _=>rfl) rfl rfl rfl fun b ⟨b1,b2,b3⟩=>?_
 refine aM ?_
 refine aP (dX hn hβ b.2.1 b.2.2 b2 b3 2) fun c ⟨c1,c2,c3⟩=>?_
 refine aM ?_
 refine aP (bI hn hβ c.2.1 c.2.2 c2 c3 6) fun d ⟨d1,d2,d3⟩=>?_
 refine aM ?_
 refine aP (dX hn hβ d.2.1 d.2.2 d2 d3 30) fun f ⟨f1,f2,f3⟩=>?_
 refine aM ?_
 refine dC (ι:=GSet×Int×Int) (fun _=>[]) (fun y=>[(5, .row (rowS y.1)),(700,dP y.2.1 y.2.2)]) (fun y=>0≤y.2.1∧y.2.1≤n) [5,700] [] rfl rfl ?_ ?_
 ·refine aA (fun _=>?_) (fun _=>?_)
  rotate_left
  ·refine aE ?_
   exact aK (⟨r0,a.1,b.1,c.1,d.1⟩,f.2.1,f.2.2) ⟨f2,f3⟩ Nat.zero_lt_one
  refine aE ?_
  refine aP (bI hn hβ f.2.1 f.2.2 f2 f3 4) fun g ⟨g1,g2,g3⟩=>?_
  refine aM ?_
  refine aA (fun _=>?_) (fun _=>?_)
  ·refine aE ?_
   refine cJ TT_ok 50 (fun i=>bL (([-1,5,6,r0+1]:List Int).getD i 0)) rfl rfl rfl rfl rfl rfl rfl (fun i hi=>by rcases i with _ | _ | _ | _ | i <;>first | rfl | omega) (mu1:=[]) rfl rfl rfl ?_
   refine aM ?_
   refine aP (bI hn hβ g.2.1 g.2.2 g2 g3 4) fun z ⟨z1,z2,z3⟩=>?_
   refine aM ?_
   exact aK (⟨(([-1,5,6,r0+1]:List Int).getD z.1.toNat 0),a.1,b.1,c.1,d.1⟩,z.2.1,z.2.2) ⟨z2,z3⟩ Nat.zero_lt_one
  refine aE ?_
  refine aA (fun _=>?_) (fun _=>?_)
  ·refine aE ?_
   refine cJ TT_ok 50 (fun i=>bL (([-1,6]:List Int).getD i 0)) rfl rfl rfl rfl rfl rfl rfl (fun i hi=>by rcases i with _ | _ | i <;>first | rfl | omega) (mu1:=[]) rfl rfl rfl ?_
   refine aM ?_
   refine aP (bI hn hβ g.2.1 g.2.2 g2 g3 2) fun z ⟨z1,z2,z3⟩=>?_
   refine aM ?_
   exact aK (⟨r0,(([-1,6]:List Int).getD z.1.toNat 0),b.1,c.1,d.1⟩,z.2.1,z.2.2) ⟨z2,z3⟩ Nat.zero_lt_one
  refine aE ?_
  refine aA (fun _=>?_) (fun _=>?_)
  ·refine aE ?_
   refine cJ TT_ok 50 (fun i=>bL (([1000000000,1000000001, -1000000001, -9223372036854775808]:List Int).getD i 0)) rfl rfl rfl rfl rfl rfl rfl (fun i hi=>by rcases i with _ | _ | _ | _ | i <;>first | rfl | omega) (mu1:=[]) rfl rfl rfl ?_
   refine aM ?_
   refine aP (bI hn hβ g.2.1 g.2.2 g2 g3 4) fun z ⟨z1,z2,z3⟩=>?_
   refine aM ?_
   exact aK (⟨r0,a.1,(([1000000000,1000000001, -1000000001, -9223372036854775808]:List Int).getD z.1.toNat 0),c.1,d.1⟩,z.2.1,z.2.2) ⟨z2,z3⟩ Nat.zero_lt_one
  refine aE ?_
  refine aA (fun _=>?_) (fun _=>?_)
  ·refine aE ?_
   refine cJ TT_ok 50 (fun i=>bL (([-1,999999,1000000]:List Int).getD i 0)) rfl rfl rfl rfl rfl rfl rfl (fun i hi=>by rcases i with _ | _ | _ | i <;>first | rfl | omega) (mu1:=[]) rfl rfl rfl ?_
   refine aM ?_
   refine aP (bI hn hβ g.2.1 g.2.2 g2 g3 3) fun z ⟨z1,z2,z3⟩=>?_
   refine aM ?_
   exact aK (⟨r0,a.1,b.1,c.1,(([-1,999999,1000000]:List Int).getD z.1.toNat 0)⟩,z.2.1,z.2.2) ⟨z2,z3⟩ Nat.zero_lt_one
  refine aE ?_
  exact aK (⟨r0,a.1,b.1,c.1,d.1⟩,g.2.1,g.2.2) ⟨g2,g3⟩ Nat.zero_lt_one
 rintro ⟨x,i',h'⟩ ⟨g1,g2⟩
 dsimp only at g1 g2 ⊢
 refine aT ?_
 refine aC ((x,i',h')) [(4,some 112)] ?_ ?_ ?_
 ·exact ZF _
 ·exact wM
 ·exact ⟨trivial,g1,g2⟩
theorem X0 (j:Nat):0≤([0,1000000,1000001]:List Int).getD j 0∧([0,1000000,1000001]:List Int).getD j 0≤1000001:=by
 rcases j with _ | _ | _ | j
 ·decide
 ·decide
 ·decide
 ·exact (by decide:(0:Int)≤0∧(0:Int)≤1000001)
def mB (k:Nat) (t:GTx):Prop:=(t.reads.length≤k∧t.sets.length≤k)∧0≤t.id∧t.id≤1000001
theorem JQ {k:Nat} {t:GTx} (h:mB k t) (hk:k≤1000):D.bds eA (cTx t):=BX t (by unfold wTx;unfold mB at h;show _≤1048576;omega)
theorem yH (t:GTx) (n:GNote):mB 12 (c9 t n).1:=by
 cases h:(c9 t n).2 with
 | true =>
  obtain ⟨h1,h2,h3,h4⟩:=MJ h
  rw [h4]
  have h5:=(sM h1 h2).1.1
  exact ⟨⟨h5.2.2.2.2.2.1,h5.2.2.2.2.2.2⟩,by have:=h5.1;dsimp only;omega⟩
 | false =>
  unfold c9 at h ⊢
  split
  ·rename_i c;rw [if_pos c] at h;cases h
  ·exact ⟨⟨Nat.zero_le _,Nat.zero_le _⟩,by decide⟩
theorem vE (t:GTx) (s:GSet):mB 12 (dM t s).1:=by
 cases h:(dM t s).2 with
 | true =>
  obtain ⟨h1,h2,h3,h4⟩:=ER h
  rw [h4]
  have h5:=(H9 h1 h2).1.1
  exact ⟨⟨h5.2.2.2.2.2.1,h5.2.2.2.2.2.2⟩,by have:=h5.1;dsimp only;omega⟩
 | false =>
  unfold dM at h ⊢
  split
  ·rename_i c;rw [if_pos c] at h;cases h
  ·exact ⟨⟨Nat.zero_le _,Nat.zero_le _⟩,by decide⟩
theorem T1 {n:Nat} {β:Nat→Int} (hn:n≤1048576) (hβ:g0 β) (i h:Int) (h1:0≤i) (h2:i≤n):Con Tryz.prog 113 [700,701] [.a (.p 700 0)] (tZ n β i h) (fun y:GTx×Int×Int=>mB 13 y.1∧0≤y.2.1∧y.2.1≤n) (fun y=>[FR y.1 901 902]) fun y=>[(700,dP y.2.1 y.2.2),(901,bE 5 cR Y8 y.1.reads),(902,bE 5 cH Y7 y.1.sets)]:=by
 refine aD Tryz.func113 fun B0 r_ D_ w0=>?_
 refine aE ?_
 refine aP (bI hn hβ i h h1 h2 9) fun a ⟨a1,a2,a3⟩=>?_
 refine aM ?_
 refine aP (bI hn hβ a.2.1 a.2.2 a2 a3 4) fun b ⟨b1,b2,b3⟩=>?_
 refine aM ?_
 refine dZ TT_ok (uJ (1+a.1) b.1 (bR.2 (by omega)) (bR.2 (by omega))) rfl rfl (ZF _) (fun _=>rfl) rfl rfl rfl fun _ _=>?_
 refine aM ?_
 refine aP (bI hn hβ b.2.1 b.2.2 b2 b3 5) fun c ⟨c1,c2,c3⟩=>?_
 refine aM ?_
 refine a9 (aU 3 4 5 (fun i=>cR (([]:List GNote).getD i Y8))) ?_
 refine a9 (aU 3 5 5 (fun i=>cH (([]:List GSet).getD i Y7))) ?_
 refine a9 (aV 3 4 31) ?_
 refine a9 (aV 3 5 32) ?_
 refine cW (ι:=GTx×Int×Int×Int) (fun y=>[(5,vI y.2.1)]) (fun y=>[(3, .row (r7 y.1 31 32)),(31,bE 5 cR Y8 y.1.reads),(32,bE 5 cH Y7 y.1.sets),(700,dP y.2.2.1 y.2.2.2)]) (fun y=>mB 12 y.1∧(0≤y.2.1∧y.2.1≤5)∧0≤y.2.2.1∧y.2.2.1≤n) (fun y=>y.2.1.toNat) (tU (1+a.1) b.1,c.1,c.2.1,c.2.2) [3,31,32,700] [31,32] rfl rfl ⟨⟨⟨Nat.zero_le _,Nat.zero_le _⟩,by show 0≤1+a.1∧1+a.1≤1000001;omega⟩,by dsimp only;omega,c2,c3⟩ wF wM ?_
 rintro ⟨t,k,i1,i2⟩ ⟨g1,g2,g3,g4⟩
 have hb:=JQ g1 (by decide)
 dsimp only at g2 g3 g4 ⊢
 refine aE ?_
 refine aH (fun e=>?_) (fun e=>?_)
 ·refine aE ?_
  refine dC (ι:=GTx×Bool×Int×Int) (fun y=>[(6, .a (.p 6 0)),(7,vB y.2.1)]) (fun y=>[(6, .row (r7 y.1 61 62)),(61,bE 5 cR Y8 y.1.reads),(62,bE 5 cH Y7 y.1.sets),(700,dP y.2.2.1 y.2.2.2)]) (fun y=>mB 12 y.1∧0≤y.2.2.1∧y.2.2.1≤n) [700] [] rfl rfl ?_ ?_
  ·refine aW [700] [0,1,2,3,4,5,6,7,8,9] fun B0 H0=>?_
   refine cZ 2 7 rfl rfl (by kernel_rfl) (iV (uG hn hβ i1 i2 g3 g4) rfl rfl (ZF _) (fun _=>rfl) rfl rfl rfl (fun y ⟨y1,y2,y3⟩=>bA ?_)) (aR (bA ?_))
   ·skip
    refine cZ 3 7 rfl rfl (by kernel_rfl) (iV (ZG 901 61 (ZG 902 62 (j0 t hb y.1))) rfl rfl (ZF _) (fun _=>rfl) rfl rfl rfl (fun _ _=>bA ?_)) (aR (bA ?_))
    ·refine aY [4,5,6,7,8,9] ?_
     refine bB 7 rfl (by kernel_rfl) (aR (bA ?_))
     refine bB 8 rfl (by kernel_rfl) (aR (bA ?_))
     refine aY [9] ?_
     refine aN ?_
     exact aK ((c9 t y.1).1,(c9 t y.1).2,y.2.1,y.2.2) ⟨yH t y.1,y2,y3⟩ Nat.zero_lt_one
    ·skip
     refine aX 3 (ZG 901 61 (ZG 902 62 (j0 t hb y.1))) fun _ _=>?_
     refine aY [4,5,6,8,9] ?_
     refine bB 8 rfl (by kernel_rfl) (aR (bA ?_))
     refine aY [9] ?_
     refine aN ?_
     exact aK ((c9 t y.1).1,(c9 t y.1).2,y.2.1,y.2.2) ⟨yH t y.1,y2,y3⟩ Nat.zero_lt_one
   ·skip
    refine aX 2 (uG hn hβ i1 i2 g3 g4) fun y ⟨y1,y2,y3⟩=>?_
    refine aX 3 (ZG 901 61 (ZG 902 62 (j0 t hb y.1))) fun _ _=>?_
    refine aY [4,5,6,8,9] ?_
    refine bB 8 rfl (by kernel_rfl) (aR (bA ?_))
    refine aY [9] ?_
    refine aN ?_
    exact aK ((c9 t y.1).1,(c9 t y.1).2,y.2.1,y.2.2) ⟨yH t y.1,y2,y3⟩ Nat.zero_lt_one
  ·rintro ⟨x,b,i3,i4⟩ ⟨f1,f2,f3⟩
   dsimp only at f2 f3 ⊢
   refine aT ?_
   refine aA (fun _=>?_) (fun _=>?_)
   ·refine aE ?_
    refine bC (bH 31 61) ?_
    refine bC (bH 32 62) ?_
    exact aK (x,k - 1,i3,i4) ⟨f1,by dsimp only;omega,f2,f3⟩ (by dsimp only;omega)
   ·refine aE ?_
    exact aK (t,k - 1,i3,i4) ⟨g1,by dsimp only;omega,f2,f3⟩ (by dsimp only;omega)
 refine aE ?_
 refine aP (bI hn hβ i1 i2 g3 g4 5) fun c ⟨c1,c2,c3⟩=>?_
 refine aM ?_
 clear hb
 refine cW (ι:=GTx×Int×Int×Int) (fun y=>[(8,vI y.2.1)]) (fun y=>[(3, .row (r7 y.1 31 32)),(31,bE 5 cR Y8 y.1.reads),(32,bE 5 cH Y7 y.1.sets),(700,dP y.2.2.1 y.2.2.2)]) (fun y=>mB 12 y.1∧(0≤y.2.1∧y.2.1≤5)∧0≤y.2.2.1∧y.2.2.1≤n) (fun y=>y.2.1.toNat) (t,c.1,c.2.1,c.2.2) [3,31,32,700] [31,32] rfl rfl ⟨g1,by dsimp only;omega,c2,c3⟩ wF wM ?_
 clear g1 g2 g3 g4 e
 rintro ⟨t,k,i1,i2⟩ ⟨g1,g2,g3,g4⟩
 have hb:=JQ g1 (by decide)
 dsimp only at g2 g3 g4 ⊢
 refine aE ?_
 refine aH (fun e=>?_) (fun e=>?_)
 ·refine aE ?_
  refine dC (ι:=GTx×Bool×Int×Int) (fun y=>[(9, .a (.p 9 0)),(10,vB y.2.1)]) (fun y=>[(9, .row (r7 y.1 61 62)),(61,bE 5 cR Y8 y.1.reads),(62,bE 5 cH Y7 y.1.sets),(700,dP y.2.2.1 y.2.2.2)]) (fun y=>mB 12 y.1∧0≤y.2.2.1∧y.2.2.1≤n) [700] [] rfl rfl ?_ ?_
  ·refine aW [700] [0,1,2,3,4,5,6,7,8,9,10,11] fun B0 H0=>?_
   refine cZ 3 9 rfl rfl (by kernel_rfl) (iV (bI hn hβ i1 i2 g3 g4 3) rfl rfl (ZF _) (fun _=>rfl) rfl rfl rfl (fun a ⟨a1,a2,a3⟩=>bA ?_)) (aR (bA ?_))
   ·skip
    refine cZ 4 9 rfl rfl (by kernel_rfl) (iV (oI hn hβ a.2.1 a.2.2 a2 a3 a.1 (by omega)) rfl rfl (ZF _) (fun _=>rfl) rfl rfl rfl (fun y ⟨y1,y2,y3⟩=>bA ?_)) (aR (bA ?_))
    ·skip
     refine cZ 5 9 rfl rfl (by kernel_rfl) (iV (ZG 901 61 (ZG 902 62 (kN t hb y.1))) rfl rfl (ZF _) (fun _=>rfl) rfl rfl rfl (fun _ _=>bA ?_)) (aR (bA ?_))
     ·refine aY [6,7,8,9,10,11] ?_
      refine bB 9 rfl (by kernel_rfl) (aR (bA ?_))
      refine bB 10 rfl (by kernel_rfl) (aR (bA ?_))
      refine aY [11] ?_
      refine aN ?_
      exact aK ((dM t y.1).1,(dM t y.1).2,y.2.1,y.2.2) ⟨vE t y.1,y2,y3⟩ Nat.zero_lt_one
     ·skip
      refine aX 5 (ZG 901 61 (ZG 902 62 (kN t hb y.1))) fun _ _=>?_
      refine aY [6,7,8,10,11] ?_
      refine bB 10 rfl (by kernel_rfl) (aR (bA ?_))
      refine aY [11] ?_
      refine aN ?_
      exact aK ((dM t y.1).1,(dM t y.1).2,y.2.1,y.2.2) ⟨vE t y.1,y2,y3⟩ Nat.zero_lt_one
    ·skip
     refine qU 4 (oI hn hβ a.2.1 a.2.2 a2 a3 a.1 (by omega)) rfl rfl rfl (ZF _) (fun _=>rfl) rfl rfl rfl fun y ⟨y1,y2,y3⟩=>?_
     refine aX 5 (ZG 901 61 (ZG 902 62 (kN t hb y.1))) fun _ _=>?_
     refine aY [6,7,8,10,11] ?_
     refine bB 10 rfl (by kernel_rfl) (aR (bA ?_))
     refine aY [11] ?_
     refine aN ?_
     exact aK ((dM t y.1).1,(dM t y.1).2,y.2.1,y.2.2) ⟨vE t y.1,y2,y3⟩ Nat.zero_lt_one
   ·skip
    refine aX 3 (bI hn hβ i1 i2 g3 g4 3) fun a ⟨a1,a2,a3⟩=>?_
    refine qU 4 (oI hn hβ a.2.1 a.2.2 a2 a3 a.1 (by omega)) rfl rfl rfl (ZF _) (fun _=>rfl) rfl rfl rfl fun y ⟨y1,y2,y3⟩=>?_
    refine aX 5 (ZG 901 61 (ZG 902 62 (kN t hb y.1))) fun _ _=>?_
    refine aY [6,7,8,10,11] ?_
    refine bB 10 rfl (by kernel_rfl) (aR (bA ?_))
    refine aY [11] ?_
    refine aN ?_
    exact aK ((dM t y.1).1,(dM t y.1).2,y.2.1,y.2.2) ⟨vE t y.1,y2,y3⟩ Nat.zero_lt_one
  ·rintro ⟨x,b,i3,i4⟩ ⟨f1,f2,f3⟩
   dsimp only at f2 f3 ⊢
   refine aT ?_
   refine aA (fun _=>?_) (fun _=>?_)
   ·refine aE ?_
    refine bC (bH 31 61) ?_
    refine bC (bH 32 62) ?_
    exact aK (x,k - 1,i3,i4) ⟨f1,by dsimp only;omega,f2,f3⟩ (by dsimp only;omega)
   ·refine aE ?_
    exact aK (t,k - 1,i3,i4) ⟨g1,by dsimp only;omega,f2,f3⟩ (by dsimp only;omega)
 refine aE ?_
 refine aP (bI hn hβ i1 i2 g3 g4 9) fun a ⟨a1,a2,a3⟩=>?_
 refine aM ?_
 refine aP (bI hn hβ a.2.1 a.2.2 a2 a3 4) fun b ⟨b1,b2,b3⟩=>?_
 refine aM ?_
 refine aP (bI hn hβ b.2.1 b.2.2 b2 b3 9) fun c ⟨c1,c2,c3⟩=>?_
 refine aM ?_
 refine aP (dX hn hβ c.2.1 c.2.2 c2 c3 12) fun d ⟨d1,d2,d3⟩=>?_
 refine aM ?_
 refine dC (ι:=GTx×Int×Int) (fun _=>[]) (fun y=>[(3, .row (r7 y.1 31 32)),(31,bE 5 cR Y8 y.1.reads),(32,bE 5 cH Y7 y.1.sets),(700,dP y.2.1 y.2.2)]) (fun y=>mB 13 y.1∧0≤y.2.1∧y.2.1≤n) [3,31,32,700] [31,32] rfl rfl ?_ ?_
 ·have gl:t.reads.length≤12∧t.sets.length≤12:=g1.1
  have g13:mB 13 t:=⟨⟨Nat.le_succ_of_le g1.1.1,Nat.le_succ_of_le g1.1.2⟩,g1.2⟩
  refine aA (fun _=>?_) (fun _=>?_)
  rotate_left
  ·refine aE ?_
   exact aK (⟨t.id,t.home,1+a.1,b.1,t.reads,t.sets,c.1⟩,d.2.1,d.2.2) ⟨g13,d2,d3⟩ Nat.zero_lt_one
  refine aE ?_
  refine aP (bI hn hβ d.2.1 d.2.2 d2 d3 6) fun g ⟨g1,g2,g3⟩=>?_
  refine aM ?_
  refine aA (fun _=>?_) (fun _=>?_)
  ·refine aE ?_
   refine cJ TT_ok 50 (fun i=>bL (([0,1000000,1000001]:List Int).getD i 0)) rfl rfl rfl rfl rfl rfl rfl (fun i hi=>by rcases i with _ | _ | _ | i <;>first | rfl | omega) (mu1:=[]) rfl rfl rfl ?_
   refine aM ?_
   refine aP (bI hn hβ g.2.1 g.2.2 g2 g3 3) fun z ⟨z1,z2,z3⟩=>?_
   refine aM ?_
   exact aK (⟨(([0,1000000,1000001]:List Int).getD z.1.toNat 0),t.home,1+a.1,b.1,t.reads,t.sets,c.1⟩,z.2.1,z.2.2) ⟨⟨g13.1,X0 _⟩,z2,z3⟩ Nat.zero_lt_one
  refine aE ?_
  refine aA (fun _=>?_) (fun _=>?_)
  ·refine aE ?_
   refine cJ TT_ok 50 (fun i=>bL (([-1,7,8]:List Int).getD i 0)) rfl rfl rfl rfl rfl rfl rfl (fun i hi=>by rcases i with _ | _ | _ | i <;>first | rfl | omega) (mu1:=[]) rfl rfl rfl ?_
   refine aM ?_
   refine aP (bI hn hβ g.2.1 g.2.2 g2 g3 3) fun z ⟨z1,z2,z3⟩=>?_
   refine aM ?_
   exact aK (⟨t.id,(([-1,7,8]:List Int).getD z.1.toNat 0),1+a.1,b.1,t.reads,t.sets,c.1⟩,z.2.1,z.2.2) ⟨g13,z2,z3⟩ Nat.zero_lt_one
  refine aE ?_
  refine aA (fun _=>?_) (fun _=>?_)
  ·refine aE ?_
   refine cJ TT_ok 50 (fun i=>bL (([0,9,10]:List Int).getD i 0)) rfl rfl rfl rfl rfl rfl rfl (fun i hi=>by rcases i with _ | _ | _ | i <;>first | rfl | omega) (mu1:=[]) rfl rfl rfl ?_
   refine aM ?_
   refine aP (bI hn hβ g.2.1 g.2.2 g2 g3 3) fun z ⟨z1,z2,z3⟩=>?_
   refine aM ?_
   exact aK (⟨t.id,t.home,(([0,9,10]:List Int).getD z.1.toNat 0),b.1,t.reads,t.sets,c.1⟩,z.2.1,z.2.2) ⟨g13,z2,z3⟩ Nat.zero_lt_one
  refine aE ?_
  refine aA (fun _=>?_) (fun _=>?_)
  ·refine aE ?_
   refine cJ TT_ok 50 (fun i=>bL (([-1,1000,1001]:List Int).getD i 0)) rfl rfl rfl rfl rfl rfl rfl (fun i hi=>by rcases i with _ | _ | _ | i <;>first | rfl | omega) (mu1:=[]) rfl rfl rfl ?_
   refine aM ?_
   refine aP (bI hn hβ g.2.1 g.2.2 g2 g3 3) fun z ⟨z1,z2,z3⟩=>?_
   refine aM ?_
   exact aK (⟨t.id,t.home,1+a.1,(([-1,1000,1001]:List Int).getD z.1.toNat 0),t.reads,t.sets,c.1⟩,z.2.1,z.2.2) ⟨g13,z2,z3⟩ Nat.zero_lt_one
  refine aE ?_
  refine aA (fun _=>?_) (fun _=>?_)
  ·refine aE ?_
   refine aW [700,31] [0,1,2,3,4,5,6,7] fun B0 H0=>?_
   refine aX 3 (uG hn hβ g.2.1 g.2.2 g2 g3) fun y ⟨y1,y2,y3⟩=>?_
   refine bB 4 rfl (by kernel_rfl) (dK TT_ok 50 (fun _=>cR y.1) rfl rfl rfl rfl rfl rfl rfl (fun j hj=>by rcases j with _ | j <;>first | rfl | omega) (mu1:=[]) rfl rfl rfl (bA ?_))
   refine bB 5 rfl (by kernel_rfl) (dE TT_ok 31 50 51 rfl rfl rfl rfl rfl rfl rfl rfl rfl rfl rfl rfl ⟨by show (t.reads.length+1) * 40≤_;omega,by unfold maxL;omega⟩ (bA ?_))
   refine aY [6,7] ?_
   refine d7 7 rfl (by kernel_rfl) (by kernel_rfl) (aR (eX [] fun B0 H0=>?_))
   refine aN ?_
   refine bC (bH 31 51) ?_
   exact bF (⟨t.id,t.home,1+a.1,b.1,t.reads ++ [y.1],t.sets,c.1⟩,y.2.1,y.2.2) ⟨⟨⟨by simp;omega,g13.1.2⟩,g13.2⟩,y2,y3⟩ Nat.zero_lt_one wF ⟨⟨_,rfl,ZE _⟩,⟨_,rfl,aQ (x:=y.1)⟩,wM⟩
  refine aE ?_
  refine aA (fun _=>?_) (fun _=>?_)
  ·refine aE ?_
   refine aW [700,32] [0,1,2,3,4,5,6,7] fun B0 H0=>?_
   refine qU 3 (oI hn hβ g.2.1 g.2.2 g2 g3 1 (by decide)) rfl rfl rfl (ZF _) (fun _=>rfl) rfl rfl rfl fun y ⟨y1,y2,y3⟩=>?_
   refine bB 4 rfl (by kernel_rfl) (dK TT_ok 50 (fun _=>cH y.1) rfl rfl rfl rfl rfl rfl rfl (fun j hj=>by rcases j with _ | j <;>first | rfl | omega) (mu1:=[]) rfl rfl rfl (bA ?_))
   refine bB 5 rfl (by kernel_rfl) (dE TT_ok 32 50 51 rfl rfl rfl rfl rfl rfl rfl rfl rfl rfl rfl rfl ⟨by show (t.sets.length+1) * 40≤_;omega,by unfold maxL;omega⟩ (bA ?_))
   refine aY [6,7] ?_
   refine d7 7 rfl (by kernel_rfl) (by kernel_rfl) (aR (eX [] fun B0 H0=>?_))
   refine aN ?_
   refine bC (bH 32 51) ?_
   exact bF (⟨t.id,t.home,1+a.1,b.1,t.reads,t.sets ++ [y.1],c.1⟩,y.2.1,y.2.2) ⟨⟨⟨g13.1.1,by simp;omega⟩,g13.2⟩,y2,y3⟩ Nat.zero_lt_one wF ⟨⟨_,rfl,ZE _⟩,⟨_,rfl,ZE _⟩,⟨_,rfl,aQ (x:=y.1)⟩,wM⟩
  refine aE ?_
  exact aK (⟨t.id,t.home,1+a.1,b.1,t.reads,t.sets,c.1⟩,g.2.1,g.2.2) ⟨g13,g2,g3⟩ Nat.zero_lt_one
 clear e g2 a1 b1 c1 d1
 rintro ⟨t,i3,i4⟩ ⟨f1,f2,f3⟩
 dsimp only at f2 f3 ⊢
 refine aT ?_
 refine aP (dX hn hβ i3 i4 f2 f3 24) fun a ⟨a1,a2,a3⟩=>?_
 refine aM ?_
 refine dC (ι:=GTx×Int×Int) (fun _=>[]) (fun y=>[(3, .row (r7 y.1 31 32)),(31,bE 5 cR Y8 y.1.reads),(32,bE 5 cH Y7 y.1.sets),(700,dP y.2.1 y.2.2)]) (fun y=>mB 13 y.1∧0≤y.2.1∧y.2.1≤n) [3,31,32,700] [31,32] rfl rfl ?_ ?_
 ·refine aA (fun _=>?_) (fun _=>?_)
  rotate_left
  ·refine aE ?_
   exact aK (t,a.2.1,a.2.2) ⟨f1,a2,a3⟩ Nat.zero_lt_one
  refine aE ?_
  refine aL 60 (fun i=>cR (([]:List GNote).getD i Y8)) (fun i hi=>absurd hi (Nat.not_lt_zero _)) (mu1:=[]) ?_
  refine aM ?_
  refine aL 61 (fun i=>cH (([]:List GSet).getD i Y7)) (fun i hi=>absurd hi (Nat.not_lt_zero _)) (mu1:=[]) ?_
  refine aM ?_
  refine aJ (ι:=GTx×Nat×Int×Int) (fun y=>[(11,vI y.2.1)]) (fun y=>[(3, .row (r7 y.1 60 61)),(60,bE 5 cR Y8 y.1.reads),(61,bE 5 cH Y7 y.1.sets),(700,dP y.2.2.1 y.2.2.2)]) (fun y=>(y.1.reads.length=y.2.1∧y.1.sets.length=y.2.1∧0≤y.1.id∧y.1.id≤1000001)∧y.2.1≤13∧0≤y.2.2.1∧y.2.2.1≤n) (fun y=>13 - y.2.1) ({ t with reads:=[],sets:=[] },0,a.2.1,a.2.2) [3,60,61,700] [60,61] ⟨⟨rfl,rfl,f1.2⟩,Nat.zero_le _,a2,a3⟩ ?_
  rintro ⟨t,k,i5,i6⟩ ⟨⟨q1,q2,q6⟩,q3,q4,q5⟩
  dsimp only at q1 q2 q3 q4 q5 ⊢
  refine aE ?_
  refine aP (bI hn hβ i5 i6 q4 q5 2) fun b ⟨b1,b2,b3⟩=>?_
  refine aM ?_
  refine aH (fun e=>?_) (fun e=>?_)
  ·have hk:k<13:=by omega
   have hd:0≤(k:Int).tdiv 6∧(k:Int).tdiv 6≤13:=by rw [Int.tdiv_eq_ediv_of_nonneg (by omega)];omega
   refine aE ?_
   refine cJ TT_ok 70 (fun _=>cR ⟨(k:Int).tdiv 6,(k:Int).tmod 6,0,0,false⟩) rfl rfl rfl rfl rfl rfl rfl (fun j hj=>by rcases j with _ | j <;>first | rfl | omega) (mu1:=[]) rfl rfl rfl ?_
   refine aM ?_
   refine cL TT_ok 60 70 71 rfl rfl rfl rfl rfl rfl rfl rfl rfl rfl rfl rfl ⟨by show (t.reads.length+1) * 40≤_;omega,by unfold maxL;omega⟩ ?_
   refine aM ?_
   refine cJ TT_ok 80 (fun _=>cH ⟨(k:Int).tdiv 6,(k:Int).tmod 6,0,false,k⟩) rfl rfl rfl rfl rfl rfl rfl (fun j hj=>by rcases j with _ | j <;>first | rfl | omega) (mu1:=[]) rfl rfl rfl ?_
   refine aM ?_
   refine cL TT_ok 61 80 81 rfl rfl rfl rfl rfl rfl rfl rfl rfl rfl rfl rfl ⟨by show (t.sets.length+1) * 40≤_;omega,by unfold maxL;omega⟩ ?_
   refine aM ?_
   refine bC (bH 60 71) ?_
   refine bC (bH 61 81) ?_
   exact bF ({ t with reads:=t.reads ++ [⟨(k:Int).tdiv 6,(k:Int).tmod 6,0,0,false⟩],sets:=t.sets ++ [⟨(k:Int).tdiv 6,(k:Int).tmod 6,0,false,k⟩] },k+1,b.2.1,b.2.2) ⟨⟨by simp [q1],by simp [q2],q6⟩,by dsimp only;omega,b2,b3⟩ (by dsimp only;omega) wF ⟨⟨_,rfl,ZE _⟩,⟨_,rfl,aQ⟩,⟨_,rfl,aQ⟩,wM⟩
  refine aE ?_
  refine bC (bH 60 31) ?_
  refine bC (bH 61 32) ?_
  exact aK (t,b.2.1,b.2.2) ⟨⟨⟨by show t.reads.length≤13;omega,by show t.sets.length≤13;omega⟩,q6⟩,b2,b3⟩ Nat.zero_lt_one
 rintro ⟨t,i5,i6⟩ ⟨q1,q2,q3⟩
 dsimp only at q2 q3 ⊢
 refine aT ?_
 refine a9 (bH 31 901) ?_
 refine a9 (bH 32 902) ?_
 refine aC ((t,i5,i6)) [(2,some 57)] ?_ ?_ ?_
 ·exact ZF _
 ·exact wM
 ·exact ⟨q1,q2,q3⟩
end
section
abbrev TY (n:Nat) (β:Nat→Int):Ch := .ro 1 n fun k=>[.v (.int .u8 (β k))]
theorem big_q (n:Nat) (f:Nat→List D):Ans Tryz.prog 26 [] [.a (.s .r 1 n f)] [] (vB (decide ((n:Int) > 4096))):=by
 refine aD Tryz.func26 fun B0 r_ D_ w0=>?_
 refine aE ?_
 exact aF [(2,none)] (rfl)
end
section
theorem DO {α:Type} (a:α):dec (a=a)=true:=dG rfl
theorem NU {α:Type} {z:α} {xs ys:List α} (h:xs.length=ys.length) (e:∀ i,i<xs.length→xs.getD i z=ys.getD i z):xs=ys:=by
 refine List.ext_getElem h fun i h1 h2=>?_
 have:=e i h1
 simpa [h1,h2] using this
theorem eqv {p:Prop} {b:Bool} (h:b=true ↔ p):b=dec p:=by rw [Bool.eq_iff_iff,h,fP]
theorem V2 (a b:GCell):(bif a.head == b.head then bif a.value == b.value then true else false else false)=dec (a=b):=eqv (by
 cases a;cases b;simp [Bool.and_eq_true,GCell.mk.injEq])
theorem set_eq (a b:GSet):(bif a.region == b.region then bif a.slot == b.slot then bif a.value == b.value then bif a.used == b.used then bif a.version == b.version then true else false else false else false else false else false)=dec (a=b):=eqv (by
 cases a;cases b;simp [GSet.mk.injEq])
theorem OU (xs ys:List Int) (hl:xs.length≤1048576):Ans Tryz.prog 28 [] [vL 1 bL 0 xs,vL 1 bL 0 ys] [] (vB (dec (xs=ys))):=by
 refine aD Tryz.func28 fun B0 r_ D_ w0=>?_
 refine aE ?_
 refine iJ rfl (fun e=>?_) (fun e=>?_)
 ·refine aE ?_
  exact cE TT_ok [(4,none)] rfl rfl ((cF fun h=>e (by rw [h])).symm)
 have hlen:xs.length=ys.length:=by omega
 refine aE ?_
 refine aJ (ι:=Nat) (fun i=>[(5,vI i)]) (fun _=>[]) (fun i=>i≤xs.length∧∀ j,j<i→xs.getD j 0=ys.getD j 0) (fun i=>xs.length - i) 0 [] [] ⟨Nat.zero_le _,fun j hj=>absurd hj (Nat.not_lt_zero _)⟩ ?_
 intro i ⟨h1,h2⟩
 refine aE ?_
 refine aH (fun e2=>?_) (fun e2=>?_)
 ·have hi:i<xs.length:=by omega
  have hi2:i<ys.length:=by omega
  refine aE ?_
  refine dN TT_ok [] rfl rfl fun B0 H0=>?_
  refine aN ?_
  refine iJ rfl (fun e3=>?_) (fun e3=>?_)
  ·refine aE ?_
   exact cE TT_ok [(4,none)] rfl rfl ((cF fun h=>e3 (by rw [h])).symm)
  ·have EQ:xs.getD i 0=ys.getD i 0:=e3
   refine aE ?_
   refine aK (i+1) ⟨hi,fun j hj=>?_⟩ (by omega)
   rcases Nat.lt_or_eq_of_le (Nat.lt_succ_iff.1 hj) with h | h
   ·exact h2 j h
   ·subst h;exact EQ
 ·have hi:i=xs.length:=by omega
  subst hi
  refine aE ?_
  exact aF [(4,none)] ((dG (NU hlen h2)).symm)
theorem PO (xs:List Int) (hl:xs.length≤1048576):Ans Tryz.prog 28 [] [vL 1 bL 0 xs,vL 1 bL 0 xs] [] (vB true):=by
 have:=OU xs xs hl
 rwa [DO] at this
theorem M0 (xs ys:List GCell) (hl:xs.length≤1048576):Ans Tryz.prog 32 [] [vL 2 cQ Y9 xs,vL 2 cQ Y9 ys] [] (vB (dec (xs=ys))):=by
 refine aD Tryz.func32 fun B0 r_ D_ w0=>?_
 refine aE ?_
 refine iJ rfl (fun e=>?_) (fun e=>?_)
 ·refine aE ?_
  exact cE TT_ok [(4,none)] rfl rfl ((cF fun h=>e (by rw [h])).symm)
 have hlen:xs.length=ys.length:=by omega
 refine aE ?_
 refine aJ (ι:=Nat) (fun i=>[(5,vI i)]) (fun _=>[]) (fun i=>i≤xs.length∧∀ j,j<i→xs.getD j Y9=ys.getD j Y9) (fun i=>xs.length - i) 0 [] [] ⟨Nat.zero_le _,fun j hj=>absurd hj (Nat.not_lt_zero _)⟩ ?_
 intro i ⟨h1,h2⟩
 refine aE ?_
 refine aH (fun e2=>?_) (fun e2=>?_)
 ·have hi:i<xs.length:=by omega
  have hi2:i<ys.length:=by omega
  refine aE ?_
  refine dN TT_ok [] rfl rfl fun B0 H0=>?_
  refine aN ?_
  refine bW (b := !dec (xs.getD i Y9=ys.getD i Y9)) (by rw [← V2];rfl) (fun e3=>?_) (fun e3=>?_)
  ·have e4:¬ xs.getD i Y9=ys.getD i Y9:=fun h=>by rw [h,DO] at e3;cases e3
   refine aE ?_
   exact cE TT_ok [(4,none)] rfl rfl ((cF fun h=>e4 (by rw [h])).symm)
  ·have EQ:xs.getD i Y9=ys.getD i Y9:=fP.1 (by simpa using e3)
   refine aE ?_
   refine aK (i+1) ⟨hi,fun j hj=>?_⟩ (by omega)
   rcases Nat.lt_or_eq_of_le (Nat.lt_succ_iff.1 hj) with h | h
   ·exact h2 j h
   ·subst h;exact EQ
 ·have hi:i=xs.length:=by omega
  subst hi
  refine aE ?_
  exact aF [(4,none)] ((dG (NU hlen h2)).symm)
theorem MR (xs:List GCell) (hl:xs.length≤1048576):Ans Tryz.prog 32 [] [vL 2 cQ Y9 xs,vL 2 cQ Y9 xs] [] (vB true):=by
 have:=M0 xs xs hl
 rwa [DO] at this
end
section
theorem jR {n i:Nat} (h:i<n):(List.range n).getD i 0=i:=by simp [h]
section
variable {P:Program}
theorem HK {h:PH} {l vs:List Value} (e:D.owns h (l.map D.v) vs):vs=l:=C8 (D.owns_rds _ e)
theorem Con.inM {ι:Type} {f:Nat} {ks:List Nat} {args:List SV} {mu0 mu:Mu} {φ:ι→Prop} {res:ι→List SV} {mu':ι→Mu} (C:Con P f ks args mu φ res mu') (hk:bJ mu0=bJ mu) (h:WkMu mu0 mu):Con P f ks args mu0 φ res mu':=fun B r w H vals m he ha=>by
 have ho:iP mu0 H=iP mu H:=by unfold iP;rw [hk]
 have:=C B r w H vals (m.wk h) (fun k e=>he k (by rw [hk];exact e)) ha
 rw [← ho] at this
 exact this
def BV {α:Type} (a:Nat→α) (x:α):Option Nat→α
 | some i=>a i
 | none=>x
end
end
section
section
variable {E:Env} {B:BE} {mu mu':Mu} {w:World} {H:Nat→PH} {TT:List TI} {fr fr':Fr} {gf gf':GF} {a:Act} {all rest:List Oper} {Q:Exit→Act→World→Prop} {R:Exit→Act→World→Prop} {K:List KF}
theorem lC {ι:Type} {fn:Func} {φ:ι→Prop} {res:ι→List SV} {mu':ι→Mu} (hT:TOk E.P TT) (y:ι) (ts:List (Nat×Option Nat)) (hr:fn.results=(ts.map tM).toArray) {l:List SV} (hl:jH TT fr mu ts=some l) (h1:SVs.imp E.P l (res y)) (h2:WkMu mu (mu' y)) (h3:φ y) :
  X E (bodyPost E.P fn (RetP E φ res mu')) .fin fr mu:=fun B a w H f m=>by
 obtain ⟨out,r1,r2⟩:=rD hT f m.mr hl
 show bodyPost _ _ _ .normal a w
 refine ⟨f.defers,tP out,?_,y,B,H,out,h3,rfl,SVs.imp_ok h1 r2,m.wk h2⟩
 unfold results
 rw [hr,Sem.run_bind,Array.mapM_eq_mapM_toList,Sem.run_map,List.toList_toArray]
 erw [r1]
 have e:∀ l:List Value,(if h:l.toArray.size=1 then l.toArray[0] else Value.tuple l.toArray)=tP l:=fun l=>by
  rw [← N7];simp
 exact congrArg (Result.ok · w) (e out)
end
end
section
section
variable {E:Env} {mu mu':Mu} {TT:List TI} {fr fr':Fr} {gf gf':GF} {all rest:List Oper} {R:Exit→Act→World→Prop} {K:List KF}
theorem Ch.imp_trans {x y z:Ch} (h:x.imp y) (k:y.imp z):x.imp z:=fun _ _ _ _ s=>k _ _ _ _ (h _ _ _ _ s)
theorem zS (hT:TOk E.P TT) {es:List Prop} {gs:List GO} (h:run TT E.N E.A.ks all rest fr gf mu [] [] = some ([],fr',gf',mu',es,gs)) (k:X E R (nxN K) fr' mu') (he:cC es:=by exact eD) (ho:cB gs:=by exact gD):RJ E all (KQ E.P R K) rest fr gf mu :=
 (uA hT _ _ _ _ _ _ h ⟨he,ho⟩).2 (JX k)
theorem VT (hT:TOk E.P TT) {id:Nat} {ops:Array Oper} {es:List Prop} {gs:List GO} (h:run TT E.N E.A.ks ops.toList ops.toList fr [] mu [] [] = some ([],fr',gf',mu',es,gs)) (k:X E R (nxN K) fr' mu') (he:cC es:=by exact eD) (ho:cB gs:=by exact gD):T E R (.region id ops false) fr mu K:=by
 have:=uR (id:=id) (zS hT h k he ho)
 simpa using this
end
section
variable {P:Program}
theorem J4 {l:Mu} {j:Nat}:bD j (bJ l)=true→∃ c,(j,c) ∈ l∧c.own? = true:=by
 induction l with
 | nil=>intro h;cases h
 | cons x r ih =>
  obtain ⟨i,c⟩:=x
  intro h
  simp only [bJ] at h
  cases hc:c.own? with
  | false=>rw [hc] at h;obtain ⟨d,d1,d2⟩:=ih h;exact ⟨d,List.mem_cons_of_mem _ d1,d2⟩
  | true =>
   rw [hc] at h
   simp only [cond_true] at h
   rcases (fE j i _).1 h with e | e
   ·subst e;exact ⟨c,List.mem_cons_self,hc⟩
   ·obtain ⟨d,d1,d2⟩:=ih e;exact ⟨d,List.mem_cons_of_mem _ d1,d2⟩
theorem Con.liftR {ι:Type} {f sz n k ko:Nat} {g:Nat→List D} {ks:List Nat} {args:List SV} {args':(Nat→List Value)→List SV} {rest:Mu} {rest':ι→Mu} {φ:ι→Prop} {res:ι→List SV} {m:ι→Nat} {ρ:ι→Nat→Nat}
  (hro:∀ j c,mlk j rest=some c→c.own? = true∧j≠k)
  (hgo:∀ i,i<n→vC (g i)=true)
  (hσ:∀ y,φ y→∀ j,j<m y→ρ y j<n) (hin:∀ y,φ y→∀ i j,i<m y→j<m y→i≠j→ρ y i≠ρ y j)
  (hA:∀ (B:BE) (r r':PH) (H H':Nat→PH) (vals:List Value) (row:Nat→List Value),r.le r'→(∀ i,i<n→D.rds r' (g i) (row i))→SV.rels P B (Zf r H) args vals→SV.rels P B (Zf r' H') (args' row) vals)
  (hR:∀ y (B:BE) (r r':PH) (H H':Nat→PH) (out:List Value),SV.rels P B (Zf r H) (res y) out→SV.rels P B (Zf r' H') (res y) out)
  (hrest:∀ y (B:BE) (r r' h:PH) j c,mlk j (rest' y)=some c→c.sat B r' h j→c.sat B r h j)
  (C:∀ row:Nat→List Value,(∀ i,i<n→(row i).length=sz)→(∀ i,i<n→∀ u ∈ row i,eL u=true)→(∃ hh,∀ i,i<n→D.rds hh (g i) (row i))→Con P f ks (args' row) ((k, .arr sz n fun i=>(row i).map D.v) :: rest) φ res fun y=>(ko, .arr sz (m y) fun j=>(row (ρ y j)).map D.v) :: rest' y) :
  Con P f ks args ((k, .arr sz n g) :: rest) φ res fun y=>(ko, .arr sz (m y) fun j=>g (ρ y j)) :: rest' y:=fun B r w H vals mm hemp hargs=>by
 have s1:D.own (H k) (.sl sz n g) (B k):=mm.sat k (.arr sz n g) (by rw [bO,if_pos rfl])
 obtain ⟨A,c,row,hc,hp,G,e1,e2,va,lc,lp,dcp,ho,hG,hd⟩:=uD s1
 have drp:r.dj hp:=PH.dj_symm (PH.dj_le (mm.djr k) lp (PH.le_refl _))
 have ro:=PH.le_un_left r hp
 have rp:=PH.le_un_right drp
 have hrow:∀ i,i<n→D.rds (r.un hp) (g i) (row i):=fun i hi=>D.rds_mono (PH.le_trans (hG i) rp) _ (D.owns_rds _ (ho i hi).1)
 let H1:Nat→PH:=fun j=>if j=k then hc else H j
 have hk1:H1 k=hc:=by simp [H1]
 have hne:∀ j,j≠k→H1 j=H j:=fun j hj=>by simp [H1,hj]
 have hle:∀ j,(H1 j).le (H j):=fun j=>by
  by_cases h:j=k
  ·subst h;rw [hk1];exact lc
  ·rw [hne j h];exact PH.le_refl _
 have hdj:∀ j,(H1 j).dj hp:=fun j=>by
  by_cases h:j=k
  ·subst h;rw [hk1];exact dcp
  ·exact PH.dj_le (mm.dj j k h) (hle j) lp
 have satup:∀ (c:Ch) (h:PH) j,c.own? = true→c.sat B r h j→c.sat B (r.un hp) h j:=fun c h j hc hs=>by
  cases c with
  | row l=>obtain ⟨b,o,vs,h',a1,a2,a3⟩:=hs;exact ⟨b,o,vs,h',a1,V.owns_mono ro (PH.le_refl _) a2,a3⟩
  | arr=>exact hs
  | hole=>exact hs
  | ro=>cases hc
  | rrow=>cases hc
  | rd=>exact hs
  | rw=>exact hs
 have mm1:Mm B (r.un hp) ((k, .arr sz n fun i=>(row i).map D.v) :: rest) w H1:=by
  refine ⟨fun j d e=>?_,fun j=>(mm.fit j).le (hle j),fun i j hij=>PH.dj_le (mm.dj i j hij) (hle i) (hle j),fun j=>PH.dj_un (PH.dj_le (mm.djr j) (hle j) (PH.le_refl _)) (hdj j),Fit.un mm.fitr ((mm.fit k).fit.le lp)⟩
  rw [bO] at e
  by_cases hj:k=j
  ·subst hj
   rw [if_pos rfl] at e;injection e with e;subst e
   rw [hk1]
   show D.own hc _ (B k)
   rw [e1]
   exact rV (hp:=PH.emp) (G:=fun _=>PH.emp) va e2 (PH.le_refl _) (PH.emp_le _) (PH.dj_emp _) (fun i _=>o5) (fun _ _=>PH.le_refl _) fun _ _ _ _ _=>PH.emp_dj _
  ·rw [if_neg hj] at e
   obtain ⟨q1,q2⟩:=hro j d e
   rw [hne j q2]
   exact satup d _ j q1 (mm.sat j d (by rw [bO,if_neg hj];exact e))
 have up:∀ b o,iP ((k, .arr sz n fun i=>(row i).map D.v) :: rest) H1 b o→iP ((k, .arr sz n g) :: rest) H b o:=fun b o ⟨j,h1,h2⟩=>by
  obtain ⟨c,c1,c2⟩:=J4 h1
  refine ⟨j,?_,PH.le_ne (hle j) h2⟩
  rcases List.mem_cons.1 c1 with e | e
  ·obtain ⟨e1,_⟩:=Prod.mk.inj e
   rw [e1]
   exact gU List.mem_cons_self rfl
  ·exact gU (List.mem_cons_of_mem _ e) c2
 have own0:∀ b o,H k b o≠none→iP ((k, .arr sz n g) :: rest) H b o:=fun b o h=>⟨k,gU List.mem_cons_self rfl,h⟩
 refine (C row (fun i hi=>(ho i hi).2) (fun i hi=>yR (ho i hi).1 (qA (hgo i hi))) ⟨_,hrow⟩ B _ w H1 vals mm1 (fun j hj=>?_) (hA B r _ H H1 vals row ro hrow hargs)).mono ?_
 ·by_cases h:j=k
  ·subst h;rw [gU (c := .arr sz n fun i=>(row i).map D.v) List.mem_cons_self rfl] at hj;cases hj
  ·rw [hne j h]
   refine hemp j ?_
   cases e:bD j (bJ ((k, .arr sz n g) :: rest)) with
   | false=>rfl
   | true =>
    obtain ⟨c,q1,q2⟩:=J4 e
    rcases List.mem_cons.1 q1 with e | e
    ·injection e with e1 e2;exact absurd e1 h
    ·rw [gU (List.mem_cons_of_mem _ e) q2] at hj;cases hj
 rintro e w' ⟨y,B',H',out,hy,he,hres,mm2,hB,hkeep,hdom⟩
 have s2:D.own (H' ko) (.sl sz (m y) fun j=>(row (ρ y j)).map D.v) (B' ko):=mm2.sat ko (.arr sz (m y) fun j=>(row (ρ y j)).map D.v) (by rw [bO,if_pos rfl])
 obtain ⟨A2,c2,GZ,hc2,hp2,G2,f1,f2,va2,lc2,lp2,dcp2,ho2,hG2,hd2⟩:=uD s2
 have heq:∀ j,j<m y→GZ j=row (ρ y j):=fun j hj=>HK (ho2 j hj).1
 have dk:∀ j,(H' j).dj hp:=fun j=>PH.dj_le (mm2.djr j) (PH.le_refl _) rp
 let H3:Nat→PH:=fun j=>if j=ko then (H' ko).un hp else H' j
 have h3:H3 ko=(H' ko).un hp:=by simp [H3]
 have h3n:∀ j,j≠ko→H3 j=H' j:=fun j hj=>by simp [H3,hj]
 have fitp:FitO hp w':=((mm.fit k).le lp).keep hkeep fun b o h ⟨j,_,h2⟩=>by
  rcases hdj j b o with h4 | h4
  ·exact h2 h4
  ·exact h h4
 refine ⟨y,B',H3,out,hy,he,hR y B' _ _ H' H3 out hres,⟨fun j d e=>?_,fun j=>?_,fun i j hij=>?_,fun j=>?_,mm2.fitr.le ro⟩,hB,hkeep.mono fun b _ o h=>up b o h,fun j b o h=>?_⟩
 ·rw [bO] at e
  by_cases hj:ko=j
  ·subst hj
   rw [if_pos rfl] at e;injection e with e;subst e
   rw [h3]
   show D.own _ _ (B' ko)
   rw [f1]
   refine rV (hc:=hc2) (hp:=hp) (G:=fun j=>G (ρ y j)) (row:=GZ) va2 f2 (PH.le_trans lc2 (PH.le_un_left _ _)) (PH.le_un_right (dk ko)) (PH.dj_le (dk ko) lc2 (PH.le_refl _)) (fun j hj=>?_) (fun j _=>hG _) fun i j hi hj hij=>hd _ _ (hin y hy i j hi hj hij)
   rw [heq j hj];exact (ho _ (hσ y hy j hj)).1
  ·rw [if_neg hj] at e
   rw [h3n j (Ne.symm hj)]
   exact hrest y B' r _ _ j d e (mm2.sat j d (by rw [bO,if_neg hj];exact e))
 ·by_cases hj:j=ko
  ·subst hj;rw [h3];exact (mm2.fit j).un fitp
  ·rw [h3n j hj];exact mm2.fit j
 ·by_cases hi:i=ko
  ·subst hi
   rw [h3,h3n j (Ne.symm hij)]
   exact PH.un_dj (mm2.dj i j hij) (PH.dj_symm (dk j))
  ·by_cases hj:j=ko
   ·subst hj
    rw [h3,h3n i hi]
    exact PH.dj_un (mm2.dj i j hij) (dk i)
   ·rw [h3n i hi,h3n j hj];exact mm2.dj i j hij
 ·by_cases hj:j=ko
  ·subst hj;rw [h3];exact PH.un_dj (PH.dj_le (mm2.djr j) (PH.le_refl _) ro) (PH.dj_symm drp)
  ·rw [h3n j hj];exact PH.dj_le (mm2.djr j) (PH.le_refl _) ro
 ·by_cases hj:j=ko
  ·subst hj
   rw [h3] at h
   rcases PH.un_ne h with h1 | h1
   ·rcases hdom j b o h1 with h2 | h2
    ·exact .inl (up b o h2)
    ·exact .inr h2
   ·exact .inl (own0 b o (PH.le_ne lp h1))
  ·rw [h3n j hj] at h
   rcases hdom j b o h with h2 | h2
   ·exact .inl (up b o h2)
   ·exact .inr h2
end
end
section
section
variable {E:Env} {mu mu':Mu} {TT:List TI} {fr fr':Fr} {gf gf':GF} {all:List Oper} {R:Exit→Act→World→Prop} {K:List KF} {G:AG} {Q:Exit→Act→World→Prop}
def DP (G:AG) (E:Env) (all:List Oper) (Q:Exit→Act→World→Prop) (n:Nat) (tk:List Nat) (fr:Fr) (gf:GF) (mu:Mu):Prop :=
 ∀ B a w H,FitsE E B H fr gf a→Mem E B mu w H→Sr G E.r w→Lw E.P all.toArray Q (Sr G E.r) n (mk all.toArray.size tk) a w
theorem OV {n:Nat} {tk:List Nat} (h:DP G E all Q n tk fr gf mu):DJ G E all Q n tk fr gf mu:=fun B a w H f m gg=>h B a w H f m (m.sr gg)
theorem nV {n:Nat} {tk:List Nat} (v:jA E fr gf mu fr' gf' mu') (h:DP G E all Q n tk fr' gf' mu'):DP G E all Q n tk fr gf mu:=fun B a w H f m s=>by
 obtain ⟨B',H',f',m'⟩:=v B w H a f m
 exact h B' a w H' f' m' s
theorem oM (hT:TOk E.P TT) (i:Nat) {n:Nat} {tk:List Nat} {o:Oper} {t:Nat} {x:SV} {q:Ob} {es:List Prop} {gs:List GO} (hi:nth all i=some o) (hp:pst TT fr gf mu [] o.op=some (x,q)) (hs:cP fr gf [] q [] [] = some (es,gs)) (hgd:cU t gf=some gf')
  (k:DP G E all Q n (i :: tk) ((t,x) :: fr) gf' mu) (hg:o.guard=none:=by exact rfl) (hd:o.dst=some t:=by exact rfl) (ht:Nat.blt t E.N=true:=by exact rfl) (hB:z5 all.toArray tk i=true:=by kernel_rfl) (he:cC es:=by exact eD) (ho:cB gs:=by exact gD):DP G E all Q (n+1) tk fr gf mu:=fun B a w H f m s w2 hb=>by
 have hr:=zX hB
 have hi':all.toArray[i]? = some o:=by rw [mY] at hi;simpa using hi
 refine ⟨fun h0=>(by rw [hr] at h0;cases h0),fun j hj=>?_⟩
 rw [hr] at hj
 obtain rfl:=List.mem_singleton.1 hj
 have m2:=m.below hb
 obtain ⟨v,r1,r2⟩:=wV hT f m2.mr.ms (g:=[]) (fun _ _ hm=>by cases hm) hp (eS f (fun _ _ hm=>by cases hm) hs he ho)
 unfold wpOp
 rw [hi',xG]
 refine tC (eN hg) (r1 w2 m2.mr.fw) ?_
 rw [hd]
 exact ⟨_, .inl rfl,s.up hb,k B _ w2 H (Fits.put f (by simpa [Nat.blt_eq] using ht) r2 hgd) m2 (s.up hb)⟩
theorem YY {n:Nat} {tk:List Nat} (hr:(Region.ready .any all.toArray (mk all.toArray.size tk)).isEmpty=true) (h:X E R (nxN K) fr mu):DP G E all (KQ E.P R K) n tk fr gf mu:=fun B a w H f m _=>by
 have hr':Region.ready .any all.toArray (mk all.toArray.size tk)=[]:=by simpa using hr
 have hq:=fun w' hb=>rZ (h B a w' H (Fits.ungf f) (m.below hb))
 cases n with
 | zero=>exact fun w' hb=>⟨hr',hq w' hb⟩
 | succ n=>exact fun w' hb=>⟨fun _=>hq w' hb,fun i hi=>by rw [hr'] at hi;cases hi⟩
theorem F9 (hT:TOk E.P TT) {n:Nat} {tk:List Nat} {js:JS} {es:List Prop} {gs:List GO} (ha:tH (jB TT E.N E.A.ks 400) (nxN K) fr mu [] [] = some (js,es,gs)) (k:js.ok E R) (hr:(Region.ready .any all.toArray (mk all.toArray.size tk)).isEmpty=true:=by kernel_rfl)
  (he:cC es:=by exact eD) (ho:cB gs:=by exact gD):DP G E all (KQ E.P R K) n tk fr gf mu:=YY hr ((qE (j4 hT 400) ha ⟨he,ho⟩).2 k)
end
def vD (k:Nat):List V→Nat→Option (List V)
 | .s _ _ _ _ :: r,0=>some (.g k :: r)
 | x :: r,j+1=>match vD k r j with
  | some l=>some (x :: l)
  | none=>none
 | _,_=>none
theorem IA {B:BE} {Z:Tg→PH} {k:Nat} (v:Value):∀ {l:List V} {vs:List Value},eM (V.usesB k) l=false→V.rels B Z l vs→V.rels (BE.set B k v) Z l vs
 | [],_,_,e=>e
 | x :: r,_,h,e=>by
  obtain ⟨y,t,rfl,e1,e2⟩:=e
  obtain ⟨h1,h2⟩:=iL h
  exact ⟨y,t,rfl,V.rel_setB v h1 e1,IA v h2 e2⟩
theorem K0 {B:BE} {Z:Tg→PH} {k:Nat}:∀ {l l':List V} {j:Nat} {vs:List Value},vD k l j=some l'→eM (V.usesB k) l=false→V.rels B Z l vs→∃ v,V.rels (BE.set B k v) Z l' vs
 | [],_,j,_,h,_,_=>by cases j <;>simp [vD] at h
 | x :: r,l',0,vs,h,hu,e=>by
  cases x with
  | s q sz n f =>
   simp only [vD,Option.some.injEq] at h
   subst h
   obtain ⟨y,t,rfl,e1,e2⟩:=e
   obtain ⟨A,c,e3,_⟩:=(show ∃ A c,y = .slice A n c∧_ from e1)
   obtain ⟨h1,h2⟩:=iL hu
   exact ⟨y,y,t,rfl,⟨(BE.set_eq _ _ _).symm,by rw [e3];rfl⟩,IA y h2 e2⟩
  | _=>simp [vD] at h
 | x :: r,l',j+1,vs,h,hu,e=>by
  have h':(match vD k r j with | some l=>some (x :: l) | none=>none)=some l':=by cases x <;>exact h
  cases c:vD k r j with
  | none=>rw [c] at h';cases h'
  | some l =>
   rw [c] at h'
   injection h' with h'
   subst h'
   obtain ⟨y,t,rfl,e1,e2⟩:=e
   obtain ⟨h1,h2⟩:=iL hu
   obtain ⟨v,h3⟩:=K0 c h2 e2
   exact ⟨v,y,t,rfl,V.rel_setB v h1 e1,h3⟩
section
variable {E:Env} {mu:Mu} {fr:Fr} {gf:GF} {all:List Oper} {G:AG} {Q:Exit→Act→World→Prop} {B:BE} {w:World} {H:Nat→PH} {a:Act}
theorem Mem.name (m:Mem E B mu w H) {k:Nat} (v:Value) (h1:lU (V.uses k) k mu=false) (h2:bD k E.A.ks=false) (h3:mlk k mu=none):Mem E (BE.set B k v) mu w H:=by
 refine ⟨⟨fun j d e=>?_,m.mm.fit,m.mm.dj,m.mm.djr,m.mm.fitr⟩,m.keep,m.dom,fun j hj=>?_⟩
 ·have hj:j≠k:=fun e2=>by subst e2;rw [h3] at e;cases e
  exact Ch.sat_setB v hj (o2 (n7 (fun x hx=>(k7 hx).1) h1) j d hj e) (m.mm.sat j d e)
 ·have:j≠k:=fun e=>by rw [e,h2] at hj;cases hj
  rw [BE.set_ne B v this];exact m.anch j hj
theorem FitsE.name (f:FitsE E B H fr gf a) {k:Nat} (v:Value) (h1:fN (V.uses k) fr=false) (h2:fJ (V.uses k) gf=false):FitsE E (BE.set B k v) H fr gf a :=
 Fits.keep f h1 h2 (PH.le_refl _) fun _ _ hx e=>V.rel_setB v (k7 hx).1 e
theorem N8 (t j k:Nat) {n:Nat} {tk:List Nat} {l l':List V} (ht:mlk t fr=some (.ag l)) (hg:glk t gf=none) (hl:vD k l j=some l') (hu:gJ k fr gf mu E.A.ks=true) (hm:mlk k mu=none) (hG:bD k G.ks=false) (h:DJ G E all Q n tk ((t, .ag l') :: fr) gf mu):DJ G E all Q n tk fr gf mu:=fun B a w H f m gg=>by
 obtain ⟨u1,u2,u3,u4⟩:=iE hu
 obtain ⟨vs,e1,e2⟩:=(show ∃ vs,a.tmps.getD t undef=_∧V.rels B (Zf E.r H) l vs from f.vfr t _ ht hg)
 have hL:eM (V.uses k) l=false:=AL u1 t _ ht
 obtain ⟨v,e3⟩:=K0 hl (zU (fun x hx=>(k7 hx).1) hL) e2
 have f2:=f.name v u1 u2
 refine h (BE.set B k v) a w H ⟨f2.size,f2.defers,fun t' x q1 q2=>?_,f2.vgf,f2.vgu,fun t' d w x q1=>?_⟩ (m.name v u3 u4 hm) fun i hi=>?_
 ·rw [bO] at q1
  by_cases hh:t=t'
  ·subst hh
   rw [if_pos rfl] at q1
   injection q1 with q1
   subst q1
   exact ⟨vs,e1,e3⟩
  ·rw [if_neg hh] at q1;exact f2.vfr t' x q1 q2
 ·rw [bO]
  by_cases hh:t=t'
  ·subst hh
   have:=f2.vno t d w x q1
   rw [ht] at this;cases this
  ·rw [if_neg hh];exact f2.vno t' d w x q1
 ·have:i≠k:=fun e=>by rw [e,hG] at hi;cases hi
  rw [BE.set_ne B v this];exact gg i hi
end
end
section
section
variable {E:Env} {mu:Mu} {TT:List TI} {fr:Fr} {gf gf':GF} {all:List Oper} {G:AG} {Q:Exit→Act→World→Prop} {J:Act→World→Prop}
theorem X4 (hT:TOk E.P TT) {o:Oper} {t:Nat} {x:SV} {q:Ob} {es:List Prop} {gs:List GO} (hp:pst TT fr gf mu [] o.op=some (x,q)) (hs:cP fr gf [] q [] [] = some (es,gs)) (hgd:cU t gf=some gf')
  (k:SJ G J E ((t,x) :: fr) gf' mu) (hg:o.guard=none:=by exact rfl) (hd:o.dst=some t:=by exact rfl) (ht:Nat.blt t E.N=true:=by exact rfl) (he:cC es:=by exact eD) (ho:cB gs:=by exact gD):OJ G E all Q J o fr gf mu:=fun B a w H f m gg=>by
 obtain ⟨v,r1,r2⟩:=wV hT f m.mr.ms (g:=[]) (fun _ _ hm=>by cases hm) hp (eS f (fun _ _ hm=>by cases hm) hs he ho)
 refine tC (eN hg) (r1 w m.mr.fw) ?_
 rw [hd]
 exact k B _ w H (Fits.put f (by simpa [Nat.blt_eq] using ht) r2 hgd) m gg
theorem a8 {o:Oper} {t:Nat} {x:SV} {q:Ob} {es:List Prop} {gs:List GO} (k:SJ G J E ((t,x) :: fr) gf' mu) (hT:TOk E.P TT:=by exact TT_ok) (hp:pst TT fr gf mu [] o.op=some (x,q):=by exact rfl) (hs:cP fr gf [] q [] [] = some (es,gs):=by exact rfl) (hgd:cU t gf=some gf':=by exact rfl) (hg:o.guard=none:=by exact rfl) (hd:o.dst=some t:=by exact rfl) (ht:Nat.blt t E.N=true:=by exact rfl) (he:cC es:=by exact eD) (ho:cB gs:=by exact gD):OJ G E all Q J o fr gf mu:=X4 hT hp hs hgd k hg hd ht he ho
theorem fT (k:Nat) {n:Nat} {tk:List Nat} {mu':Mu} {c c':Ch} (hk:mlk k mu=some c) (h:c.imp c') (hmu:gB k c' mu=some mu') (d:DJ G E all Q n tk fr gf mu'):DJ G E all Q n tk fr gf mu:=fun B a w H f m gg =>
 d B a w H f ⟨⟨fun j d e=>by
  rw [jV hmu j] at e
  by_cases hj:j=k
  ·rw [if_pos hj] at e;injection e with e;subst e;subst hj;exact h _ _ _ _ (m.mm.sat j c hk)
  ·rw [if_neg hj] at e;exact m.mm.sat j d e,m.mm.fit,m.mm.dj,m.mm.djr,m.mm.fitr⟩,m.keep,m.dom,m.anch⟩ gg
end
end
section
section
variable {E:Env} {mu:Mu} {fr:Fr} {gf:GF} {all rest:List Oper} {R:Exit→Act→World→Prop} {K:List KF} {d:Code} {TT:List TI}
theorem X_T (h:T E R d fr mu K):X E R (.code d K) fr mu:=h
theorem RJ_T (h:T E R d fr mu K):RJ E all (KQ E.P R (.seq d :: K)) [] fr gf mu:=JX (K := .seq d :: K) h
theorem UE (hT:TOk E.P TT) {js:JS} {es:List Prop} {gs:List GO} (h:goR TT E.N E.A.ks (jB TT E.N E.A.ks 0) all rest fr gf mu K [] [] = some (js,es,gs)) (k:js.ok E R) (he:cC es:=by exact eD) (ho:cB gs:=by exact gD):RJ E all (KQ E.P R K) rest fr gf mu :=
 (uK hT (j4 hT 0) h ⟨he,ho⟩).2 k
end
end
section
abbrev rowOp (x:GOp):List V:=[.v (.int .i64 x.kind), .v (.int .i64 x.id), .v (.int .i64 x.a), .v (.int .i64 x.b), .v (.int .i64 x.c)]
theorem LO {n:Nat} {β:Nat→Int} (hn:n≤1048576) (hβ:g0 β) (i h:Int) (h1:0≤i) (h2:i≤n) (k:GCluster):Con Tryz.prog 159 [700,701] [.a (.p 700 0),vR (bK k)] (tZ n β i h) (fun y:List GOp×Int×Int=>y.1.length≤160∧0≤y.2.1∧y.2.1≤n) (fun y=>[.a (.g 900)]) fun y=>[(700,dP y.2.1 y.2.2),(900,bE 5 cOp ZC y.1)]:=by
 refine aD Tryz.func159 fun B0 r_ D_ w0=>?_
 refine aE ?_
 refine aL 20 (fun i=>cOp (([]:List GOp).getD i ZC)) (fun i hi=>absurd hi (Nat.not_lt_zero _)) (mu1:=[]) ?_
 refine aM ?_
 refine aP (bI hn hβ i h h1 h2 40) fun a ⟨a1,a2,a3⟩=>?_
 refine aM ?_
 refine cW (ι:=List GOp×Int×Int×Int×Int) (fun y=>[(5, .a (.g 20)),(6,vI y.2.1),(7,vI y.2.2.1)]) (fun y=>[(20,bE 5 cOp ZC y.1),(700,dP y.2.2.2.1 y.2.2.2.2)]) (fun y=>(y.1.length:Int)+4 * y.2.2.1≤160∧(0≤y.2.1∧y.2.1+y.2.2.1≤40)∧(0≤y.2.2.1∧y.2.2.1≤40)∧0≤y.2.2.2.1∧y.2.2.2.1≤n) (fun y=>y.2.2.1.toNat) ([],0,a.1,a.2.1,a.2.2) [20,700] [20] rfl rfl ⟨by simp only [List.length_nil];omega,by dsimp only;omega,by dsimp only;omega,a2,a3⟩ wF wM ?_
 rintro ⟨l,id,m,i1,i2⟩ ⟨q1,q2,q3,q4,q5⟩
 dsimp only at q1 q2 q3 q4 q5 ⊢
 refine aE ?_
 refine aH (fun e=>?_) (fun e=>?_)
 rotate_left
 ·refine aE ?_
  refine a9 (bH 20 900) ?_
  refine aC ((l,i1,i2)) [(4,none)] ?_ ?_ ?_
  ·exact ZF _
  ·exact wM
  ·exact ⟨by dsimp only;omega,q4,q5⟩
 have hl:l.length≤160:=by omega
 refine aE ?_
 refine aP (bI hn hβ i1 i2 q4 q5 3) fun a ⟨a1,a2,a3⟩=>?_
 refine aM ?_
 refine aG (xI _ _) ?_
 refine aP (bI hn hβ a.2.1 a.2.2 a2 a3 2) fun b ⟨b1,b2,b3⟩=>?_
 refine aM ?_
 refine aP (bI hn hβ b.2.1 b.2.2 b2 b3 3) fun c ⟨c1,c2,c3⟩=>?_
 refine aM ?_
 refine dZ TT_ok (tJ hn hβ c.2.1 c.2.2 c2 c3 (-9) 9 (by decide) (by decide) (by decide)) rfl rfl (ZF _) (fun _=>rfl) rfl rfl rfl fun d ⟨d1,d2,d3⟩=>?_
 refine aM ?_
 refine aP (bI hn hβ d.2.1 d.2.2 d2 d3 14) fun g ⟨g1,g2,g3⟩=>?_
 refine RJ_T ?_
 generalize hz:DH 1 (id - a.1)=z
 refine dC (ι:=List GOp×GOp×Int×Int×Int) (fun y=>[(5, .a (.g 20)),(6,vI y.2.2.1)]) (fun y=>[(8, .row (rowOp y.2.1)),(20,bE 5 cOp ZC y.1),(700,dP y.2.2.2.1 y.2.2.2.2)]) (fun y=>y.1.length≤l.length+3∧(0≤y.2.2.1∧y.2.2.1≤id+1)∧0≤y.2.2.2.1∧y.2.2.2.1≤n) [8,20,700] [20] rfl rfl ?_ ?_
 ·refine aE ?_
  refine dC (ι:=Bool) (fun b=>[(31,vB b)]) (fun _=>[]) (fun _=>True) [] [] rfl rfl ?_ ?_
  ·refine aA (fun _=>?_) (fun _=>?_)
   ·refine aE ?_
    exact aK _ trivial Nat.zero_lt_one
   ·refine aE ?_
    exact aK _ trivial Nat.zero_lt_one
  rintro v _
  refine aT ?_
  refine aA (fun _=>?_) (fun _=>?_)
  ·refine aE ?_
   refine aP (bI hn hβ g.2.1 g.2.2 g2 g3 4) fun p ⟨p1,p2,p3⟩=>?_
   refine aM ?_
   refine cJ TT_ok 42 (fun _=>cOp ⟨1,id+1,p.1,0,0⟩) rfl rfl rfl rfl rfl rfl rfl (fun j hj=>by rcases j with _ | j <;>first | rfl | omega) (mu1:=[]) rfl rfl rfl ?_
   refine aM ?_
   refine cL TT_ok 20 42 43 rfl rfl rfl rfl rfl rfl rfl rfl rfl rfl rfl rfl ⟨by show (l.length+1) * 40≤_;omega,by unfold maxL;omega⟩ ?_
   refine aM ?_
   refine aP (bI hn hβ p.2.1 p.2.2 p2 p3 2) fun r ⟨r1,r2,r3⟩=>?_
   refine aM ?_
   refine aP (dX hn hβ r.2.1 r.2.2 r2 r3 2) fun s ⟨s1,s2,s3⟩=>?_
   refine aM ?_
   refine aA (fun _=>?_) (fun _=>?_)
   ·refine aE ?_
    refine aP (bI hn hβ s.2.1 s.2.2 s2 s3 2) fun t ⟨t1,t2,t3⟩=>?_
    refine aM ?_
    refine aP (bI hn hβ t.2.1 t.2.2 t2 t3 2) fun u ⟨u1,u2,u3⟩=>?_
    refine aM ?_
    refine aP (bI hn hβ u.2.1 u.2.2 u2 u3 90) fun w ⟨w1,w2,w3⟩=>?_
    refine aM ?_
    refine bC (bH 20 43) ?_
    exact bF (l ++ [⟨1,id+1,p.1,0,0⟩],⟨3,id+1,t.1,u.1,w.1⟩,id+1,w.2.1,w.2.2) ⟨by simp,by dsimp only;omega,w2,w3⟩ Nat.zero_lt_one wF ⟨⟨_,rfl,ZE _⟩,⟨_,rfl,aQ⟩,wM⟩
   ·refine aE ?_
    refine bC (bH 20 43) ?_
    exact bF (l ++ [⟨1,id+1,p.1,0,0⟩],⟨4,id+1,r.1,0,0⟩,id+1,s.2.1,s.2.2) ⟨by simp,by dsimp only;omega,s2,s3⟩ Nat.zero_lt_one wF ⟨⟨_,rfl,ZE _⟩,⟨_,rfl,aQ⟩,wM⟩
  refine aE ?_
  refine aA (fun _=>?_) (fun _=>?_)
  ·refine aE ?_
   exact aK (l,⟨2,z,b.1,c.1,d.1⟩,id,g.2.1,g.2.2) ⟨by dsimp only;omega,by dsimp only;omega,g2,g3⟩ Nat.zero_lt_one
  refine aE ?_
  refine dC (ι:=Bool) (fun b=>[(61,vB b)]) (fun _=>[]) (fun _=>True) [] [] rfl rfl ?_ ?_
  ·refine aA (fun _=>?_) (fun _=>?_)
   ·refine aE ?_
    exact aK _ trivial Nat.zero_lt_one
   ·refine aE ?_
    exact aK _ trivial Nat.zero_lt_one
  rintro v _
  refine aT ?_
  refine aA (fun _=>?_) (fun _=>?_)
  ·refine aE ?_
   exact aK (l,⟨3,z,b.1,c.1,d.1⟩,id,g.2.1,g.2.2) ⟨by dsimp only;omega,by dsimp only;omega,g2,g3⟩ Nat.zero_lt_one
  refine aE ?_
  refine aA (fun _=>?_) (fun _=>?_)
  ·refine aE ?_
   exact aK (l,⟨4,z,b.1,c.1,d.1⟩,id,g.2.1,g.2.2) ⟨by dsimp only;omega,by dsimp only;omega,g2,g3⟩ Nat.zero_lt_one
  refine aE ?_
  refine aA (fun _=>?_) (fun _=>?_)
  ·refine aE ?_
   exact aK (l,⟨5,z,b.1,c.1,d.1⟩,id,g.2.1,g.2.2) ⟨by dsimp only;omega,by dsimp only;omega,g2,g3⟩ Nat.zero_lt_one
  refine aE ?_
  refine dC (ι:=Bool) (fun b=>[(71,vB b)]) (fun _=>[]) (fun _=>True) [] [] rfl rfl ?_ ?_
  ·refine aA (fun _=>?_) (fun _=>?_)
   ·refine aE ?_
    exact aK _ trivial Nat.zero_lt_one
   ·refine aE ?_
    exact aK _ trivial Nat.zero_lt_one
  rintro v _
  refine aT ?_
  refine aA (fun _=>?_) (fun _=>?_)
  ·refine aE ?_
   exact aK (l,⟨6,z,b.1,c.1,d.1⟩,id,g.2.1,g.2.2) ⟨by dsimp only;omega,by dsimp only;omega,g2,g3⟩ Nat.zero_lt_one
  refine aE ?_
  refine dC (ι:=Bool) (fun b=>[(75,vB b)]) (fun _=>[]) (fun _=>True) [] [] rfl rfl ?_ ?_
  ·refine aA (fun _=>?_) (fun _=>?_)
   ·refine aE ?_
    exact aK _ trivial Nat.zero_lt_one
   ·refine aE ?_
    exact aK _ trivial Nat.zero_lt_one
  rintro v _
  refine aT ?_
  refine aA (fun _=>?_) (fun _=>?_)
  ·refine aE ?_
   refine aP (bI hn hβ g.2.1 g.2.2 g2 g3 4) fun p ⟨p1,p2,p3⟩=>?_
   refine aM ?_
   refine cW (ι:=List GOp×Int) (fun y=>[(5, .a (.g 20)),(9,vI y.2)]) (fun y=>[(20,bE 5 cOp ZC y.1)]) (fun y=>(y.1.length:Int)+y.2≤l.length+3∧0≤y.2∧y.2≤3) (fun y=>y.2.toNat) (l,p.1) [20] [20] rfl rfl ⟨by dsimp only;omega,by dsimp only;omega,by dsimp only;omega⟩ wF wM ?_
   rintro ⟨l2,m2⟩ ⟨u1,u2,u3⟩
   dsimp only at u1 u2 u3 ⊢
   refine aE ?_
   refine aH (fun e=>?_) (fun e=>?_)
   ·refine aE ?_
    refine cJ TT_ok 42 (fun _=>cOp ⟨7,z,b.1,c.1,d.1⟩) rfl rfl rfl rfl rfl rfl rfl (fun j hj=>by rcases j with _ | j <;>first | rfl | omega) (mu1:=[]) rfl rfl rfl ?_
    refine aM ?_
    refine cL TT_ok 20 42 43 rfl rfl rfl rfl rfl rfl rfl rfl rfl rfl rfl rfl ⟨by show (l2.length+1) * 40≤_;omega,by unfold maxL;omega⟩ ?_
    refine aM ?_
    refine bC (bH 20 43) ?_
    exact bF (l2 ++ [⟨7,z,b.1,c.1,d.1⟩],m2 - 1) ⟨by simp;omega,by dsimp only;omega,by dsimp only;omega⟩ (by dsimp only;omega) wF ⟨⟨_,rfl,aQ⟩,wM⟩
   ·refine aE ?_
    exact aK (l2,⟨7,z,b.1,c.1,d.1⟩,id,p.2.1,p.2.2) ⟨by dsimp only;omega,by dsimp only;omega,p2,p3⟩ Nat.zero_lt_one
  refine aE ?_
  refine aA (fun _=>?_) (fun _=>?_)
  ·refine aE ?_
   exact aK (l,⟨10,z,b.1,c.1,d.1⟩,id,g.2.1,g.2.2) ⟨by dsimp only;omega,by dsimp only;omega,g2,g3⟩ Nat.zero_lt_one
  refine aE ?_
  refine aA (fun _=>?_) (fun _=>?_)
  ·refine aE ?_
   refine aP (dX hn hβ g.2.1 g.2.2 g2 g3 3) fun p ⟨p1,p2,p3⟩=>?_
   refine aM ?_
   refine aA (fun _=>?_) (fun _=>?_)
   rotate_left
   ·refine aE ?_
    exact aK (l,⟨0,z,b.1,c.1,d.1⟩,id,p.2.1,p.2.2) ⟨by dsimp only;omega,by dsimp only;omega,p2,p3⟩ Nat.zero_lt_one
   refine aE ?_
   refine aP (bI hn hβ p.2.1 p.2.2 p2 p3 5) fun r ⟨r1,r2,r3⟩=>?_
   refine aM ?_
   refine aP (dX hn hβ r.2.1 r.2.2 r2 r3 2) fun s ⟨s1,s2,s3⟩=>?_
   refine aM ?_
   refine aA (fun _=>?_) (fun _=>?_)
   ·refine aE ?_
    refine cJ TT_ok 42 (fun _=>cOp ⟨8,z,r.1,c.1,d.1⟩) rfl rfl rfl rfl rfl rfl rfl (fun j hj=>by rcases j with _ | j <;>first | rfl | omega) (mu1:=[]) rfl rfl rfl ?_
    refine aM ?_
    refine cL TT_ok 20 42 43 rfl rfl rfl rfl rfl rfl rfl rfl rfl rfl rfl rfl ⟨by show (l.length+1) * 40≤_;omega,by unfold maxL;omega⟩ ?_
    refine aM ?_
    refine bC (bH 20 43) ?_
    exact bF (l ++ [⟨8,z,r.1,c.1,d.1⟩],⟨9,0,0,0,0⟩,id,s.2.1,s.2.2) ⟨by simp,by dsimp only;omega,s2,s3⟩ Nat.zero_lt_one wF ⟨⟨_,rfl,ZE _⟩,⟨_,rfl,aQ⟩,wM⟩
   ·refine aE ?_
    exact aK (l,⟨8,z,r.1,c.1,d.1⟩,id,s.2.1,s.2.2) ⟨by dsimp only;omega,by dsimp only;omega,s2,s3⟩ Nat.zero_lt_one
  refine aE ?_
  refine aA (fun _=>?_) (fun _=>?_)
  ·refine aE ?_
   refine aP (dX hn hβ g.2.1 g.2.2 g2 g3 3) fun p ⟨p1,p2,p3⟩=>?_
   refine aM ?_
   refine aA (fun _=>?_) (fun _=>?_)
   ·refine aE ?_
    exact aK (l,⟨9,z,b.1,c.1,d.1⟩,id,p.2.1,p.2.2) ⟨by dsimp only;omega,by dsimp only;omega,p2,p3⟩ Nat.zero_lt_one
   ·refine aE ?_
    exact aK (l,⟨0,z,b.1,c.1,d.1⟩,id,p.2.1,p.2.2) ⟨by dsimp only;omega,by dsimp only;omega,p2,p3⟩ Nat.zero_lt_one
  ·refine aE ?_
   exact aK (l,⟨0,z,b.1,c.1,d.1⟩,id,g.2.1,g.2.2) ⟨by dsimp only;omega,by dsimp only;omega,g2,g3⟩ Nat.zero_lt_one
 rintro ⟨l2,x,id2,i3,i4⟩ ⟨u1,u2,u3,u4⟩
 dsimp only at u1 u2 u3 u4 ⊢
 refine aT ?_
 refine cJ TT_ok 42 (fun _=>cOp x) rfl rfl rfl rfl rfl rfl rfl (fun j hj=>by rcases j with _ | j <;>first | rfl | omega) (mu1:=[]) rfl rfl rfl ?_
 refine aM ?_
 refine cL TT_ok 20 42 43 rfl rfl rfl rfl rfl rfl rfl rfl rfl rfl rfl rfl ⟨by show (l2.length+1) * 40≤_;omega,by unfold maxL;omega⟩ ?_
 refine aM ?_
 refine bC (bH 20 43) ?_
 exact bF (l2 ++ [x],id2,m - 1,i3,i4) ⟨by simp;omega,by dsimp only;omega,by dsimp only;omega,u3,u4⟩ (by dsimp only;omega) wF ⟨⟨_,rfl,aQ⟩,wM⟩
end
section
theorem LX (a b:Int):Ans Tryz.prog 207 [] [vI a,vI b] [] (vI (bif decide (a<b) then a else b)):=by
 refine aD Tryz.func207 fun B0 r_ D_ w0=>?_
 refine aE ?_
 refine aH (fun e=>?_) (fun e=>?_)
 ·refine aE ?_
  exact d8 TT_ok [(4,none)] rfl rfl ((by rw [decide_eq_true e];rfl))
 ·refine aE ?_
  exact d8 TT_ok [(4,none)] rfl rfl ((by rw [decide_eq_false e];rfl))
def spL (m r:Nat):List Int:=(List.range (min m 3)).map fun k=>((r:Int)+(k:Nat)).tmod m
def spP (m r:Nat):GPlace:=⟨spL m r⟩
def f5 (n m:Nat):List GPlace:=(List.range n).map (spP m)
theorem qT {α:Type} (f:Nat→α) (i:Nat):(List.range (i+1)).map f=(List.range i).map f ++ [f i]:=by rw [List.range_succ,List.map_append];rfl
theorem IW (n m:Nat) (hn:1≤n∧n≤6) (hm:1≤m∧m≤8):Con Tryz.prog 195 [] [vI n,vI m] [] (fun _:Unit=>True) (fun _=>[.a (.g 900),vB true]) fun _=>[(900,bE 1 cN Y3 (f5 n m))]:=by
 refine aD Tryz.func195 fun B0 r_ D_ w0=>?_
 refine aE ?_
 refine aG (cV _ _ _) ?_
 refine aG (cV _ _ _) ?_
 rw [show inB (n:Int) 1 6=true from bR.2 (by omega),show inB (m:Int) 1 8=true from bR.2 (by omega)]
 refine bW rfl (fun e=>by cases e) (fun _=>?_)
 refine aE ?_
 refine aL 19 (fun i=>cN (([]:List GPlace).getD i Y3)) (fun i hi=>absurd hi (Nat.not_lt_zero _)) (mu1:=[]) ?_
 refine aM ?_
 refine aJ (ι:=Nat) (fun i=>[(7,vI i),(6, .a (.g 19))]) (fun i=>[(19,bE 1 cN Y3 ((List.range i).map (spP m)))]) (fun i=>i≤n) (fun i=>n - i) 0 [19] [19] (Nat.zero_le _) ?_
 intro i h1
 have hl1:((List.range i).map (spP m)).length=i:=by simp
 refine aE ?_
 refine aH (fun e=>?_) (fun e=>?_)
 ·have hi:i<n:=by omega
  refine aE ?_
  refine a9 (aU 8 0 1 (fun i=>bL (([]:List Int).getD i 0))) ?_
  refine a9 (aV 8 0 50) ?_
  refine aJ (ι:=Nat) (fun k=>[(9,vI k)]) (fun k=>[(50,bE 1 bL 0 ((List.range k).map fun k=>((i:Int)+(k:Nat)).tmod m)),(8, .row [.g 50])]) (fun k=>k≤min m 3) (fun k=>min m 3 - k) 0 [50,8] [50] (Nat.zero_le _) ?_
  intro k h2
  have hl2:((List.range k).map fun k=>((i:Int)+(k:Nat)).tmod m).length=k:=by simp
  refine aE ?_
  refine aG (LX _ _) ?_
  refine aH (fun e2=>?_) (fun e2=>?_)
  ·have hk:k<min m 3:=by
    by_cases c:(m:Int)<3
    ·rw [decide_eq_true c] at e2;simp at e2;omega
    ·rw [decide_eq_false c] at e2;simp at e2;omega
   refine aE ?_
   refine aW [50] [0,1,2,3,4,5,6,7,8,9,10] fun B0 H0=>?_
   refine bB 7 rfl (by kernel_rfl) (dK TT_ok 39 (fun _=>bL (((i:Int)+(k:Nat)).tmod m)) rfl rfl rfl rfl rfl rfl rfl (fun j hj=>by rcases j with _ | j <;>first | rfl | omega) (mu1:=[]) rfl rfl rfl (bA ?_))
   refine bB 8 rfl (by kernel_rfl) (dE TT_ok 50 39 40 rfl rfl rfl rfl rfl rfl rfl rfl rfl rfl rfl rfl ⟨by show (((List.range k).map fun k=>((i:Int)+(k:Nat)).tmod m).length+1) * 8≤_;omega,by unfold maxL;omega⟩ (bA ?_))
   refine aY [9,10] ?_
   refine d7 10 rfl (by kernel_rfl) (by kernel_rfl) (aR (eX [] fun B0 H0=>?_))
   refine aN ?_
   refine bC (bH 50 40) ?_
   exact bF (k+1) hk (by omega) wF ⟨⟨_,rfl,cX (x:=((i:Int)+(k:Nat)).tmod m) (qT _ k) rfl⟩,wM⟩
  have hk:k=min m 3:=by
   by_cases c:(m:Int)<3
   ·rw [decide_eq_true c] at e2;simp at e2;omega
   ·rw [decide_eq_false c] at e2;simp at e2;omega
  subst hk
  refine aE ?_
  refine cJ TT_ok 44 (fun _=>cN (spP m i)) rfl rfl rfl rfl rfl rfl rfl (fun i hi=>by rcases i with _ | i <;>first | rfl | omega) (mu1:=[(50, .arr 0 0 fun _=>[])]) rfl rfl rfl ?_
  refine aM ?_
  refine cL TT_ok 19 44 45 rfl rfl rfl rfl rfl rfl rfl rfl rfl rfl rfl rfl ⟨by show (((List.range i).map (spP m)).length+1) * 24≤_;omega,by unfold maxL;omega⟩ ?_
  refine aM ?_
  refine bC (bH 19 45) ?_
  exact bF (i+1) hi (by omega) wF ⟨⟨_,rfl,cX (x:=spP m i) (qT _ i) rfl⟩,wM⟩
 have hi:i=n:=by omega
 subst hi
 refine aE ?_
 refine a9 (bH 19 900) ?_
 refine aC (()) [(4,none),(5,none)] ?_ ?_ ?_
 ·exact ZF _
 ·exact wM
 ·trivial
end
section
def cells0:List GCell:=List.replicate 6 Y9
def O8 (m r:Nat) (i:Int):Bool:=decide (i ∈ spL m r)
def mH (m:Nat) (i:Int) (r:Nat):List GCopy:=((List.range r).filter fun r=>O8 m r i).map fun (r:Nat)=>⟨r,cells0⟩
def xQ (n m:Nat) (i:Nat):GMachine:=⟨true,mH m i n,[],[]⟩
def qG (n m:Nat):GCluster:=⟨1,0,f5 n m,(List.range m).map (xQ n m),[],false⟩
def hK (a b:Int):GCluster×Bool:=bif (bif !inB a 1 6 then true else !inB b 1 8) then (Y6,false) else (qG a.toNat b.toNat,true)
theorem BJ (m:Nat) (i:Int) (r:Nat):mH m i (r+1)=if O8 m r i then mH m i r ++ [⟨r,cells0⟩] else mH m i r:=by
 unfold mH
 rw [List.range_succ,List.filter_append,List.map_append]
 by_cases h:O8 m r i
 ·rw [if_pos h];simp [h]
 ·rw [if_neg h];simp [h]
theorem ON (m:Nat) (i:Int) (r:Nat):(mH m i r).length≤r:=by
 unfold mH
 rw [List.length_map]
 exact Nat.le_trans (List.length_filter_le _ _) (by simp)
theorem zD:MkL Tryz.prog 77 [] 2 cQ Y9 cells0:=by
 refine aD Tryz.func77 fun B0 r_ D_ w0=>?_
 refine aE ?_
 refine FT TT_ok 900 6 rfl rfl rfl rfl rfl rfl rfl ⟨by decide,by decide⟩ ?_
 refine aM ?_
 refine aC (()) [(0,none)] ?_ ?_ ?_
 ·exact ZF _
 ·exact ⟨⟨_,rfl,Ch.imp_len rfl fun i hi=>by
   have:cells0.getD i Y9=Y9:=by
    have h:i<6:=hi
    rcases i with _ | _ | _ | _ | _ | _ | i <;>first | rfl | omega
   rw [this];rfl⟩,trivial⟩
 ·trivial
theorem FV (a b:Int) (h:(bif !inB a 1 6 then true else !inB b 1 8)=true):Con Tryz.prog 195 [] [vI a,vI b] [] (fun _:Unit=>True) (fun _=>[.a (.g 900),vB false]) fun _=>[(900,bE 1 cN Y3 [])]:=by
 refine aD Tryz.func195 fun B0 r_ D_ w0=>?_
 refine aE ?_
 refine aG (cV _ _ _) ?_
 refine aG (cV _ _ _) ?_
 rw [h]
 refine bW rfl (fun _=>?_) (fun e=>by cases e)
 refine aE ?_
 refine aL 900 (fun i=>cN (([]:List GPlace).getD i Y3)) (fun i hi=>absurd hi (Nat.not_lt_zero _)) (mu1:=[]) ?_
 refine aM ?_
 refine aC (()) [(4,none),(5,none)] ?_ ?_ ?_
 ·exact ZF _
 ·exact wM
 ·trivial
theorem C3 {n m r:Nat} (h:r<n):(f5 n m).getD r Y3=spP m r:=by simp [f5,h]
theorem zO (n m:Nat) (hn:1≤n∧n≤6) (hm:1≤m∧m≤8):SX Tryz.prog 158 [vI n,vI m] (qG n m) true:=by
 have hsl:(f5 n m).length=n:=by simp [f5]
 refine aD Tryz.func158 fun B0 r_ D_ w0=>?_
 refine aE ?_
 refine aP (ZG 900 901 (IW n m hn hm)) fun _ _=>?_
 refine aM ?_
 refine bW rfl (fun e=>by cases e) (fun _=>?_)
 refine aE ?_
 refine a9 (aU 8 3 4 (fun i=>bQ (([]:List GMachine).getD i Y4))) ?_
 refine a9 (aV 8 3 60) ?_
 refine aJ (ι:=Nat) (fun i=>[(9,vI i)]) (fun i=>[(60,bE 4 bQ Y4 ((List.range i).map (xQ n m))),(8, .row [.v (.int .i64 1), .v (.int .i64 0), .g 901, .g 60,wB, .v (.bool false)])]) (fun i=>i≤m) (fun i=>m - i) 0 [60,8] [60] (Nat.zero_le _) ?_
 intro i h1
 have hl1:((List.range i).map (xQ n m)).length=i:=by simp
 refine aE ?_
 refine aH (fun e=>?_) (fun e=>?_)
 ·have hi:i<m:=by omega
  refine aE ?_
  refine a9 (aU 10 1 2 (fun i=>dY (([]:List GCopy).getD i ZA))) ?_
  refine a9 (aV 10 1 70) ?_
  refine aJ (ι:=Nat) (fun r=>[(11,vI r)]) (fun r=>[(70,bE 2 dY ZA (mH m i r)),(10, .row [.v (.bool true), .g 70,wB,wB])]) (fun r=>r≤n) (fun r=>n - r) 0 [70,10] [70] (Nat.zero_le _) ?_
  intro r h2
  have hl2:=ON m i r
  refine aE ?_
  refine aH (fun e2=>?_) (fun e2=>?_)
  ·have hr:r<n:=by omega
   refine aE ?_
   refine mI TT_ok (kJ ((f5 n m).getD r Y3).machines (by rw [C3 hr];simp [spP,spL];omega) _) rfl rfl rfl rfl rfl ?_
   rw [C3 hr]
   refine aA (b:=O8 m r i) (fun e3=>?_) (fun e3=>?_)
   ·refine aE ?_
    refine aW [70] [0,1,2,3,4,5,6,7,8] fun B0 H0=>?_
    refine aX 3 (ZG 900 44 zD) fun _ _=>?_
    refine aY [4,5,6,7,8] ?_
    refine bB 5 rfl (by kernel_rfl) (dK TT_ok 46 (fun _=>dY ⟨r,cells0⟩) rfl rfl rfl rfl rfl rfl rfl (fun j hj=>by rcases j with _ | j <;>first | rfl | omega) (mu1:=[(44, .arr 0 0 fun _=>[])]) rfl rfl rfl (bA ?_))
    refine bB 6 rfl (by kernel_rfl) (dE TT_ok 70 46 47 rfl rfl rfl rfl rfl rfl rfl rfl rfl rfl rfl rfl ⟨by show ((mH m i r).length+1) * 32≤_;omega,by unfold maxL;omega⟩ (bA ?_))
    refine aY [7,8] ?_
    refine d7 8 rfl (by kernel_rfl) (by kernel_rfl) (aR (eX [] fun B0 H0=>?_))
    refine aN ?_
    refine bC (bH 70 47) ?_
    exact bF (r+1) hr (by omega) wF ⟨⟨_,rfl,cX (x:=(⟨r,cells0⟩:GCopy)) (by rw [BJ,if_pos e3]) rfl⟩,wM⟩
   ·refine aE ?_
    exact bF (r+1) hr (by omega) wF ⟨⟨_,rfl,bU (by rw [BJ,if_neg (by rw [e3];simp)])⟩,wM⟩
  have hr:r=n:=by omega
  subst hr
  refine aE ?_
  refine cJ TT_ok 52 (fun _=>[dB true,dL 2 dY ZA (mH m i r), .v (.slice none 0 0), .v (.slice none 0 0)]) rfl rfl rfl rfl rfl rfl rfl (fun i hi=>by rcases i with _ | i <;>first | rfl | omega) (mu1:=[(70, .arr 0 0 fun _=>[])]) rfl rfl rfl ?_
  refine aM ?_
  refine cL TT_ok 60 52 53 rfl rfl rfl rfl rfl rfl rfl rfl rfl rfl rfl rfl ⟨by show (((List.range i).map (xQ r m)).length+1) * 80≤_;omega,by unfold maxL;omega⟩ ?_
  refine aM ?_
  refine bC (bH 60 53) ?_
  exact bF (i+1) hi (by omega) wF ⟨⟨_,rfl,vV (x:=xQ r m i) (qT _ i) (OwnI.c (OwnI.c (OwnI.n (OwnI.n OwnI.e))))⟩,wM⟩
 have hi:i=m:=by omega
 subst hi
 refine aE ?_
 refine a9 (bH 60 902) ?_
 refine a9 (aU 4 4 7 (fun i=>cTx (([]:List GTx).getD i Y5))) ?_
 refine a9 (aV 4 4 903) ?_
 refine aC (()) [(4,some 33),(5,none)] ?_ ?_ ?_
 ·exact ZF _
 ·exact wM
 ·trivial
theorem CG (a b:Int):SX Tryz.prog 158 [vI a,vI b] (hK a b).1 (hK a b).2:=by
 cases h:(bif !inB a 1 6 then true else !inB b 1 8) with
 | true =>
  rw [show hK a b=(Y6,false) from by unfold hK;rw [h];rfl]
  refine aD Tryz.func158 fun B0 r_ D_ w0=>?_
  refine aE ?_
  refine aP (ZG 900 6001 (FV a b h)) fun _ _=>?_
  refine aM ?_
  refine bW rfl (fun _=>?_) (fun e=>by cases e)
  refine aE ?_
  refine a9 (aU 4 2 1 (fun i=>cN (([]:List GPlace).getD i Y3))) ?_
  refine a9 (aU 4 3 4 (fun i=>bQ (([]:List GMachine).getD i Y4))) ?_
  refine a9 (aU 4 4 7 (fun i=>cTx (([]:List GTx).getD i Y5))) ?_
  refine a9 (aV 4 2 901) ?_
  refine a9 (aV 4 3 902) ?_
  refine a9 (aV 4 4 903) ?_
  refine aC (()) [(4,some 33),(5,none)] ?_ ?_ ?_
  ·exact ZF _
  ·exact wM
  ·trivial
 | false =>
  have h1:inB a 1 6=true∧inB b 1 8=true:=by
   cases c1:inB a 1 6 <;>cases c2:inB b 1 8 <;>simp [c1,c2] at h ⊢
  have h2:=bR.1 h1.1
  have h3:=bR.1 h1.2
  rw [show hK a b=(qG a.toNat b.toNat,true) from by unfold hK;rw [h];rfl]
  obtain ⟨n,rfl⟩:∃ n:Nat,a=n:=⟨a.toNat,by omega⟩
  obtain ⟨m,rfl⟩:∃ m:Nat,b=m:=⟨b.toNat,by omega⟩
  exact zO n m (by omega) (by omega)
end
section
abbrev roC {α:Type} (sz:Nat) (enc:α→List D) (z:α) (xs:List α):Ch := .ro sz xs.length fun i=>enc (xs.getD i z)
theorem F5 {l:List V}:∀ B r h s j,Ch.sat B r h j (.rrow l)→r.le s→h.le s→Ch.sat B s PH.emp j (.rrow l):=fun B r h s j ⟨b,o,vs,e1,e2,e4⟩ lr _ =>
 ⟨b,o,vs,e1,V.rels_mono (fun q=>wZ lr (fun _=>PH.le_refl _) q) e2,fun i hi=>by
  have h1:=e4 i hi
  have h2:i<vs.length:=by have:=V.rels_length e2;omega
  rw [List.getElem?_eq_getElem h2] at h1 ⊢
  exact lr _ _ _ h1⟩
abbrev bP (c:GCluster) (id:Int):GTx:=c.txs.getD (bZ c id).toNat Y5
abbrev kQ (c:GCluster) (id:Int):Bool:=(c.machines.getD (bP c id).home.toNat Y4).alive
def VK (c:GCluster) (id:Int):Int:=bif decide (bZ c id<0) then 2 else bif !kQ c id then 3 else 0
def cY (c:GCluster) (id:Int):Int:=bif decide (bZ c id<0) then 2 else bif !kQ c id then 3 else bif !((bP c id).phase == 1) then 4 else 0
theorem ClusOk.home {c:GCluster} (h:ClusOk c) {i:Nat} (hi:i<c.txs.length):0≤(c.txs.getD i Y5).home∧(c.txs.getD i Y5).home<c.machines.length:=by
 have h1:=(h.tx hi).1.2.1
 have h2:=(h.2.2.2.2 i hi).1
 unfold jQ at h2
 refine ⟨h1.1,?_⟩
 by_cases c1:(c.txs.getD i Y5).home<c.machines.length
 ·exact c1
 ·rw [decide_eq_true (show (c.txs.getD i Y5).home ≥ (c.machines.length:Int) by omega)] at h2
  simp at h2
open Classical in
noncomputable def gA (c:GCluster) (id:Int):Int×Int:=if ClusOk c then (if cY c id=0 then (bZ c id,0) else (-1,cY c id)) else (-1,1)
theorem uN (c:GCluster) (hb:D.bds eA (bK c)) (id:Int):Con Tryz.prog 224 [] [vR (bK c),vI id] [] (fun _:Unit=>True) (fun _=>[vI (gA c id).1,vI (gA c id).2]) fun _=>[]:=by
 have b3:c.txs.length≤1048576:=hb.2.2.2.2.1.1
 refine aD Tryz.func224 fun B0 r_ D_ w0=>?_
 refine d5 TT_ok rfl ?_
 refine aS 2 fun r_=>?_
 refine aE ?_
 refine aG (eK c hb) ?_
 refine eZ rfl (fun e=>?_) (fun e=>?_)
 ·rw [show gA c id=(-1,1) from if_neg (kO.1 e)]
  refine aE ?_
  refine aC (()) [(4,none),(5,none)] ?_ ?_ ?_
  ·exact ZF _
  ·trivial
  ·trivial
 have hok:=fP.1 e
 have hR:gA c id=if cY c id=0 then (bZ c id,0) else (-1,cY c id):=if_pos hok
 refine aE ?_
 refine aG (xP c b3 id) ?_
 refine aH (fun e1=>?_) (fun e1=>?_)
 ·have h:cY c id=2:=by unfold cY;rw [decide_eq_true e1];rfl
  rw [show gA c id=(-1,cY c id) from by rw [hR,if_neg (by rw [h];decide)],h]
  refine aE ?_
  refine aC (()) [(4,none),(5,none)] ?_ ?_ ?_
  ·exact ZF _
  ·trivial
  ·trivial
 have hin:=fS (c:=c) (id:=id) (by omega)
 have hlt:=lT (c:=c) (id:=id)
 have hh:=hok.home hin.1
 refine aE ?_
 refine aW [] [0,1,2,3,4,5,6,7,8,9,10,11,12] fun B0 H0=>?_
 refine aN ?_
 refine aA (b := !kQ c id) (fun e2=>?_) (fun e2=>?_)
 ·have h:cY c id=3:=by unfold cY;rw [decide_eq_false e1,e2];rfl
  rw [show gA c id=(-1,cY c id) from by rw [hR,if_neg (by rw [h];decide)],h]
  refine aE ?_
  refine aC (()) [(4,none),(5,none)] ?_ ?_ ?_
  ·exact ZF _
  ·trivial
  ·trivial
 refine aE ?_
 refine aA (b := !((bP c id).phase == 1)) (fun e3=>?_) (fun e3=>?_)
 ·have h:cY c id=4:=by unfold cY;rw [decide_eq_false e1,e2,e3];rfl
  rw [show gA c id=(-1,cY c id) from by rw [hR,if_neg (by rw [h];decide)],h]
  refine aE ?_
  refine aC (()) [(4,none),(5,none)] ?_ ?_ ?_
  ·exact ZF _
  ·trivial
  ·trivial
 have h:cY c id=0:=by unfold cY;rw [decide_eq_false e1,e2,e3];rfl
 rw [show gA c id=(bZ c id,0) from by rw [hR,if_pos h]]
 refine aE ?_
 refine aC (()) [(4,none),(5,none)] ?_ ?_ ?_
 ·exact ZF _
 ·trivial
 ·trivial
theorem jY {c:GCluster} {id:Int} (h:cY c id=0):VK c id=0∧(bP c id).phase=1∧0≤bZ c id:=by
 unfold cY at h
 unfold VK
 by_cases hf:bZ c id<0
 ·rw [decide_eq_true hf] at h;cases h
 ·rw [decide_eq_false hf] at h ⊢
  cases h2:kQ c id with
  | false=>rw [h2] at h;cases h
  | true =>
   rw [h2] at h
   refine ⟨rfl,?_,by omega⟩
   cases h3:(bP c id).phase == 1 with
   | true=>simpa using h3
   | false=>rw [h3] at h;cases h
def goT (t:GTx):GTx:={ t with phase:=2,done:=0 }
noncomputable def goC (c:GCluster) (id:Int):GCluster:={ c with txs:=c.txs.set (bZ c id).toNat (goT (bP c id)) }
open Classical in
noncomputable def lJ (c:GCluster) (id:Int):GCluster×Int:=if ClusOk c then (if cY c id=0 then (goC c id,0) else (c,cY c id)) else (Y6,1)
theorem I9 (c:GCluster) (hb:D.bds eA (bK c)) (id:Int):yN Tryz.prog 214 [vR (bK c),vI id] (lJ c id).1 (lJ c id).2:=by
 have b3:c.txs.length≤1048576:=hb.2.2.2.2.1.1
 refine aD Tryz.func214 fun B0 r_ D_ w0=>?_
 refine d5 TT_ok rfl ?_
 refine aS 2 fun r_=>?_
 refine aE ?_
 refine aP (uN c hb id) fun _ _=>?_
 refine aM ?_
 by_cases hok:ClusOk c
 ·by_cases h0:cY c id=0
  ·rw [show lJ c id=(goC c id,0) from by unfold lJ;rw [if_pos hok,if_pos h0]]
   have hge:=(jY h0).2.2
   have hlt:=lT (c:=c) (id:=id)
   have hin:=fS hge
   rw [show gA c id=(bZ c id,0) from by unfold gA;rw [if_pos hok,if_pos h0]]
   refine bW rfl (fun e=>by cases e) (fun _=>?_)
   refine aE ?_
   refine aP (ZG 901 6001 (ZG 902 6002 (ZG 903 6003 (gR c hb)))) (fun _ _=>?_)
   refine cK (d6 6003 (bZ c id) 77 rfl rfl rfl rfl rfl rfl ⟨hge,hlt⟩) ?_
   refine aM ?_
   refine cK (j6 28 rfl rfl rfl) ?_
   refine aM ?_
   refine cK (j6 33 rfl rfl rfl) ?_
   refine aM ?_
   refine a9 (aZ 6003 77) ?_
   refine a9 (bH 6001 901) ?_
   refine a9 (bH 6002 902) ?_
   refine a9 (bH 6003 903) ?_
   refine aC (()) [(4,some 33),(5,none)] ?_ ?_ ?_
   ·exact ZF _
   ·exact ⟨⟨_,rfl,ZE _⟩,⟨_,rfl,ZE _⟩,⟨_,rfl,bS (OwnI.refl _)⟩,trivial⟩
   ·trivial
  ·rw [show lJ c id=(c,cY c id) from by unfold lJ;rw [if_pos hok,if_neg h0]]
   rw [show gA c id=(-1,cY c id) from by unfold gA;rw [if_pos hok,if_neg h0]]
   refine bW (b := !(cY c id == 0)) rfl (fun e=>?_) (fun e=>absurd (by simpa using e) h0)
   refine aE ?_
   have h1:cY c id≠1:=by
    unfold cY
    cases decide (bZ c id<0) <;>cases kQ c id <;>cases (bP c id).phase == 1 <;>decide
   refine aP (j7 c hb (cY c id) h1) fun _ _=>?_
   refine aM ?_
   refine aC (()) [(4,some 33),(5,none)] ?_ ?_ ?_
   ·exact ZF _
   ·exact wM
   ·trivial
 ·rw [show lJ c id=(Y6,1) from if_neg hok]
  rw [show gA c id=(-1,1) from if_neg hok]
  refine bW rfl (fun _=>?_) (fun e=>by cases e)
  refine aE ?_
  refine aP (o8 c) fun _ _=>?_
  refine aM ?_
  refine aC (()) [(4,some 33),(5,none)] ?_ ?_ ?_
  ·exact ZF _
  ·exact wM
  ·trivial
end
section
theorem KC {n:Nat} {β:Nat→Int} (hn:n≤1048576) (hβ:g0 β) (i h:Int) (h1:0≤i) (h2:i≤n):yZ Tryz.prog 200 [] n β i h (fun _:Int=>True) vI:=by
 refine aD Tryz.func200 fun B0 r_ D_ w0=>?_
 refine aE ?_
 refine aP (dX hn hβ i h h1 h2 10) fun a ⟨a1,a2,a3⟩=>?_
 refine aM ?_
 refine aA (fun _=>?_) (fun _=>?_)
 ·refine aE ?_
  refine cJ TT_ok 50 (fun i=>bL (([-1,0,4000003,4000004,4000000,4611686018427387904, -9223372036854775808]:List Int).getD i 0)) rfl rfl rfl rfl rfl rfl rfl (fun i hi=>by rcases i with _ | _ | _ | _ | _ | _ | _ | i <;>first | rfl | omega) (mu1:=[]) rfl rfl rfl ?_
  refine aM ?_
  refine aP (bI hn hβ a.2.1 a.2.2 a2 a3 7) fun z ⟨z1,z2,z3⟩=>?_
  refine aM ?_
  refine aC ((([-1,0,4000003,4000004,4000000,4611686018427387904, -9223372036854775808]:List Int).getD z.1.toNat 0,z.2.1,z.2.2)) [(2,none)] ?_ ?_ ?_
  ·exact ZF _
  ·exact wM
  ·exact ⟨trivial,z2,z3⟩
 ·refine aE ?_
  refine aP (bI hn hβ a.2.1 a.2.2 a2 a3 60) fun z ⟨z1,z2,z3⟩=>?_
  refine aM ?_
  refine aC (z) [(2,none)] ?_ ?_ ?_
  ·exact ZF _
  ·exact wM
  ·exact ⟨trivial,z2,z3⟩
theorem JK {n:Nat} {β:Nat→Int} (hn:n≤1048576) (hβ:g0 β) (i h:Int) (h1:0≤i) (h2:i≤n) (r0:Int) (hr : -1000000≤r0∧r0≤1000000):Con Tryz.prog 199 [700,701] [.a (.p 700 0),vI r0] (tZ n β i h) (fun y:List GSet×Int×Int=>y.1.length≤7∧0≤y.2.1∧y.2.1≤n) (fun _=>[.a (.g 900)]) fun y=>[(700,dP y.2.1 y.2.2),(900,bE 5 cH Y7 y.1)]:=by
 refine aD Tryz.func199 fun B0 r_ D_ w0=>?_
 refine aE ?_
 refine aL 20 (fun i=>cH (([]:List GSet).getD i Y7)) (fun i hi=>absurd hi (Nat.not_lt_zero _)) (mu1:=[]) ?_
 refine aM ?_
 refine aJ (ι:=List GSet×Nat×Int×Int) (fun y=>[(5, .a (.g 20)),(6,vI y.2.1)]) (fun y=>[(20,bE 5 cH Y7 y.1),(700,dP y.2.2.1 y.2.2.2)]) (fun y=>y.1.length≤y.2.1∧y.2.1≤6∧0≤y.2.2.1∧y.2.2.1≤n) (fun y=>6 - y.2.1) ([],0,i,h) [20,700] [20] ⟨Nat.le_refl _,Nat.zero_le _,h1,h2⟩ ?_
 rintro ⟨l,m,i1,i2⟩ ⟨q1,q2,q3,q4⟩
 dsimp only at q1 q2 q3 q4 ⊢
 refine aE ?_
 refine aH (fun e=>?_) (fun e=>?_)
 ·have hm:m<6:=by omega
  refine aE ?_
  refine aP (dX hn hβ i1 i2 q3 q4 3) fun a ⟨a1,a2,a3⟩=>?_
  refine aM ?_
  refine aA (fun _=>?_) (fun _=>?_)
  rotate_left
  ·refine aE ?_
   exact aK (l,m+1,a.2.1,a.2.2) ⟨Nat.le_succ_of_le q1,hm,a2,a3⟩ (by dsimp only;omega)
  refine aE ?_
  refine aP (oI hn hβ a.2.1 a.2.2 a2 a3 r0 hr) fun y ⟨y1,y2,y3⟩=>?_
  refine aM ?_
  refine aG (oL _) ?_
  refine dC (ι:=GSet) (fun _=>[]) (fun x=>[(7, .row (rowS x))]) (fun _=>True) [7] [] rfl rfl ?_ ?_
  ·refine aA (fun _=>?_) (fun _=>?_)
   ·refine aE ?_
    exact aK ⟨y.1.region,(m:Int),y.1.value,y.1.used,y.1.version⟩ trivial Nat.zero_lt_one
   ·refine aE ?_
    exact aK y.1 trivial Nat.zero_lt_one
  rintro x _
  refine aT ?_
  refine cJ TT_ok 25 (fun _=>cH x) rfl rfl rfl rfl rfl rfl rfl (fun j hj=>by rcases j with _ | j <;>first | rfl | omega) (mu1:=[]) rfl rfl rfl ?_
  refine aM ?_
  refine cL TT_ok 20 25 26 rfl rfl rfl rfl rfl rfl rfl rfl rfl rfl rfl rfl ⟨by show (l.length+1) * 40≤_;omega,by unfold maxL;omega⟩ ?_
  refine aM ?_
  refine bC (bH 20 26) ?_
  exact bF (l ++ [x],m+1,y.2.1,y.2.2) ⟨by simp;omega,hm,y2,y3⟩ (by dsimp only;omega) wF ⟨⟨_,rfl,aQ⟩,wM⟩
 ·refine aE ?_
  refine aP (dX hn hβ i1 i2 q3 q4 20) fun a ⟨a1,a2,a3⟩=>?_
  refine aM ?_
  refine aA (fun e2=>?_) (fun _=>?_)
  ·have hl1:(1:Int)<l.length:=by
    revert e2
    cases a.1
    ·intro e2;cases e2
    ·intro e2;exact of_decide_eq_true e2
   refine aE ?_
   refine cJ TT_ok 38 (fun _=>cH (l.getD 0 Y7)) rfl rfl rfl rfl rfl rfl rfl (fun j hj=>by rcases j with _ | j <;>first | rfl | omega) (mu1:=[]) rfl rfl rfl ?_
   refine aM ?_
   refine cL TT_ok 20 38 39 rfl rfl rfl rfl rfl rfl rfl rfl rfl rfl rfl rfl ⟨by show (l.length+1) * 40≤_;omega,by unfold maxL;omega⟩ ?_
   refine aM ?_
   refine a9 (bH 39 900) ?_
   refine aC ((l ++ [l.getD 0 Y7],a.2.1,a.2.2)) [(4,none)] ?_ ?_ ?_
   ·exact ZF _
   ·exact ⟨⟨_,rfl,ZE _⟩,⟨_,rfl,aQ⟩,trivial⟩
   ·exact ⟨by simp;omega,a2,a3⟩
  ·refine aE ?_
   refine a9 (bH 20 900) ?_
   refine aC ((l,a.2.1,a.2.2)) [(4,none)] ?_ ?_ ?_
   ·exact ZF _
   ·exact wM
   ·exact ⟨by dsimp only;omega,a2,a3⟩
abbrev agR (r:GRecord) (k:Nat):SV := .ag [.v (.int .i64 r.kind), .v (.int .i64 r.tx), .v (.int .i64 r.region), .g k]
abbrev rowR (r:GRecord) (k:Nat):List V:=[.v (.int .i64 r.kind), .v (.int .i64 r.tx), .v (.int .i64 r.region), .g k]
theorem LD {n:Nat} {β:Nat→Int} (hn:n≤1048576) (hβ:g0 β) (i h:Int) (h1:0≤i) (h2:i≤n):Con Tryz.prog 162 [700,701] [.a (.p 700 0)] (tZ n β i h) (fun y:GRecord×Int×Int=>y.1.sets.length≤7∧0≤y.2.1∧y.2.1≤n) (fun y=>[agR y.1 901]) fun y=>[(700,dP y.2.1 y.2.2),(901,bE 5 cH Y7 y.1.sets)]:=by
 refine aD Tryz.func162 fun B0 r_ D_ w0=>?_
 refine aE ?_
 refine aP (bI hn hβ i h h1 h2 3) fun a ⟨a1,a2,a3⟩=>?_
 refine aM ?_
 refine aP (bI hn hβ a.2.1 a.2.2 a2 a3 9) fun b ⟨b1,b2,b3⟩=>?_
 refine aM ?_
 refine aP (bI hn hβ b.2.1 b.2.2 b2 b3 3) fun c ⟨c1,c2,c3⟩=>?_
 refine aM ?_
 refine dZ (nk:=[700,41]) TT_ok (ZG 900 41 (JK hn hβ c.2.1 c.2.2 c2 c3 c.1 (by omega))) rfl rfl (ZF _) (fun _=>rfl) rfl rfl rfl fun y ⟨y1,y2,y3⟩=>?_
 refine UE TT_ok rfl ?_
 refine FG ?_
 refine dC (ι:=List GSet×Int×Int) (fun _=>[]) (fun z=>[(3, .row (rowR ⟨1+a.1,1+b.1,c.1,[]⟩ 41)),(41,bE 5 cH Y7 z.1),(700,dP z.2.1 z.2.2)]) (fun z=>z.1.length≤7∧0≤z.2.1∧z.2.1≤n) [3,41,700] [41] rfl rfl ?_ ?_
 ·by_cases hl:y.1.length=0
  ·have hz:((y.1.length:Int) == 0)=true:=by rw [hl];rfl
   refine aE ?_
   refine dZ TT_ok (dX hn hβ y.2.1 y.2.2 y2 y3 6) rfl rfl (ZF _) (fun _=>rfl) rfl rfl rfl (fun z ⟨z1,z2,z3⟩=>?_) (hg:=⟨rfl,congrArg (fun x=>some (vB x)) hz⟩)
   refine aM ?_
   rw [hz]
   refine aA (fun _=>?_) (fun _=>?_)
   ·refine aE ?_
    refine cJ TT_ok 30 (fun _=>cH ⟨c.1,2,7,true,1⟩) rfl rfl rfl rfl rfl rfl rfl (fun j hj=>by rcases j with _ | j <;>first | rfl | omega) (mu1:=[]) rfl rfl rfl ?_
    refine aM ?_
    refine bC (bH 41 30) ?_
    exact bF ([⟨c.1,2,7,true,1⟩],z.2.1,z.2.2) ⟨by simp,z2,z3⟩ Nat.zero_lt_one wF ⟨⟨_,rfl,ZE _⟩,⟨_,rfl,Ch.imp_arr fun j hj=>by rcases j with _ | j <;>first | rfl | omega⟩,wM⟩
   ·refine aE ?_
    exact aK (y.1,z.2.1,z.2.2) ⟨y1,z2,z3⟩ Nat.zero_lt_one
  ·have hz:((y.1.length:Int) == 0) = !true:=by simpa using hl
   refine aE ?_
   refine WZ (vB true) rfl rfl rfl rfl (hz) rfl rfl ?_
   refine aM ?_
   rw [hz]
   refine bW rfl (fun e=>by cases e) (fun _=>?_)
   refine aE ?_
   exact aK (y.1,y.2.1,y.2.2) ⟨y1,y2,y3⟩ Nat.zero_lt_one
 rintro ⟨s,i3,i4⟩ ⟨u1,u2,u3⟩
 dsimp only at u1 u2 u3 ⊢
 refine aT ?_
 refine aP (dX hn hβ i3 i4 u2 u3 14) fun d ⟨d1,d2,d3⟩=>?_
 refine aM ?_
 refine dC (ι:=GRecord×Int×Int) (fun _=>[]) (fun z=>[(3, .row (rowR z.1 41)),(41,bE 5 cH Y7 z.1.sets),(700,dP z.2.1 z.2.2)]) (fun z=>z.1.sets.length≤7∧0≤z.2.1∧z.2.1≤n) [3,41,700] [41] rfl rfl ?_ ?_
 ·refine aA (fun _=>?_) (fun _=>?_)
  rotate_left
  ·refine aE ?_
   exact aK (⟨1+a.1,1+b.1,c.1,s⟩,d.2.1,d.2.2) ⟨u1,d2,d3⟩ Nat.zero_lt_one
  refine aE ?_
  refine aP (bI hn hβ d.2.1 d.2.2 d2 d3 3) fun g ⟨g1,g2,g3⟩=>?_
  refine aM ?_
  refine aA (fun _=>?_) (fun _=>?_)
  ·refine aE ?_
   refine cJ TT_ok 50 (fun i=>bL (([0,4, -9223372036854775808]:List Int).getD i 0)) rfl rfl rfl rfl rfl rfl rfl (fun i hi=>by rcases i with _ | _ | _ | i <;>first | rfl | omega) (mu1:=[]) rfl rfl rfl ?_
   refine aM ?_
   refine aP (bI hn hβ g.2.1 g.2.2 g2 g3 3) fun z ⟨z1,z2,z3⟩=>?_
   refine aM ?_
   exact aK (⟨(([0,4, -9223372036854775808]:List Int).getD z.1.toNat 0),1+b.1,c.1,s⟩,z.2.1,z.2.2) ⟨u1,z2,z3⟩ Nat.zero_lt_one
  refine aE ?_
  refine aA (fun _=>?_) (fun _=>?_)
  ·refine aE ?_
   refine cJ TT_ok 50 (fun i=>bL (([0,1000000,1000001, -9223372036854775808]:List Int).getD i 0)) rfl rfl rfl rfl rfl rfl rfl (fun i hi=>by rcases i with _ | _ | _ | _ | i <;>first | rfl | omega) (mu1:=[]) rfl rfl rfl ?_
   refine aM ?_
   refine aP (bI hn hβ g.2.1 g.2.2 g2 g3 4) fun z ⟨z1,z2,z3⟩=>?_
   refine aM ?_
   exact aK (⟨1+a.1,(([0,1000000,1000001, -9223372036854775808]:List Int).getD z.1.toNat 0),c.1,s⟩,z.2.1,z.2.2) ⟨u1,z2,z3⟩ Nat.zero_lt_one
  refine aE ?_
  refine aA (fun _=>?_) (fun _=>?_)
  ·refine aE ?_
   refine cJ TT_ok 50 (fun i=>bL (([-1,5,6, -9223372036854775808]:List Int).getD i 0)) rfl rfl rfl rfl rfl rfl rfl (fun i hi=>by rcases i with _ | _ | _ | _ | i <;>first | rfl | omega) (mu1:=[]) rfl rfl rfl ?_
   refine aM ?_
   refine aP (bI hn hβ g.2.1 g.2.2 g2 g3 4) fun z ⟨z1,z2,z3⟩=>?_
   refine aM ?_
   exact aK (⟨1+a.1,1+b.1,(([-1,5,6, -9223372036854775808]:List Int).getD z.1.toNat 0),s⟩,z.2.1,z.2.2) ⟨u1,z2,z3⟩ Nat.zero_lt_one
  refine aE ?_
  exact aK (⟨1+a.1,1+b.1,c.1,s⟩,g.2.1,g.2.2) ⟨u1,g2,g3⟩ Nat.zero_lt_one
 rintro ⟨x,i5,i6⟩ ⟨v1,v2,v3⟩
 dsimp only at v1 v2 v3 ⊢
 refine aT ?_
 refine a9 (bH 41 901) ?_
 refine aC ((x,i5,i6)) [(2,some 165)] ?_ ?_ ?_
 ·exact ZF _
 ·exact wM
 ·exact ⟨v1,v2,v3⟩
theorem SZ (v:Int) (h:0≤v∧v≤1000000) (u w:Bool):Ans Tryz.prog 130 [] [vI v,vB u,vB w] [] (vI (4 * v+(bif u then 2 else 0)+(bif w then 1 else 0))):=by
 refine aD Tryz.func130 fun B0 r_ D_ w0=>?_
 refine aE ?_
 refine aA (fun e=>?_) (fun e=>?_)
 ·subst e
  refine aE ?_
  refine aA (fun e=>?_) (fun e=>?_)
  ·subst e
   refine aE ?_
   exact aI [(6,none)] (rfl)
  ·subst e
   refine aE ?_
   exact d8 TT_ok [(6,none)] rfl rfl ((by simp))
 ·subst e
  refine aE ?_
  refine aA (fun e=>?_) (fun e=>?_)
  ·subst e
   refine aE ?_
   exact d8 TT_ok [(6,none)] rfl rfl ((by simp))
  ·subst e
   refine aE ?_
   exact d8 TT_ok [(6,none)] rfl rfl ((by simp))
theorem LL {n:Nat} {β:Nat→Int} (hn:n≤1048576) (hβ:g0 β) (i h:Int) (h1:0≤i) (h2:i≤n):Con Tryz.prog 161 [700,701] [.a (.p 700 0)] (tZ n β i h) (fun y:List GCell×Int×Int=>y.1.length=6∧0≤y.2.1∧y.2.1≤n) (fun _=>[.a (.g 900)]) fun y=>[(700,dP y.2.1 y.2.2),(900,bE 2 cQ Y9 y.1)]:=by
 refine aD Tryz.func161 fun B0 r_ D_ w0=>?_
 refine aE ?_
 refine aP (ZG 900 20 zD) fun _ _=>?_
 refine aM ?_
 refine aJ (ι:=List GCell×Nat×Int×Int) (fun y=>[(4,vI y.2.1)]) (fun y=>[(20,bE 2 cQ Y9 y.1),(700,dP y.2.2.1 y.2.2.2)]) (fun y=>y.1.length=6∧y.2.1≤6∧0≤y.2.2.1∧y.2.2.1≤n) (fun y=>6 - y.2.1) (cells0,0,i,h) [20,700] [] ⟨rfl,Nat.zero_le _,h1,h2⟩ ?_
 rintro ⟨l,m,i1,i2⟩ ⟨q1,q2,q3,q4⟩
 dsimp only at q1 q2 q3 q4 ⊢
 refine aE ?_
 refine aH (fun e=>?_) (fun e=>?_)
 ·have hm:m<l.length:=by omega
  refine aE ?_
  refine aP (dX hn hβ i1 i2 q3 q4 2) fun a ⟨a1,a2,a3⟩=>?_
  refine aM ?_
  refine aP (bI hn hβ a.2.1 a.2.2 a2 a3 6) fun b ⟨b1,b2,b3⟩=>?_
  refine aM ?_
  refine aP (dX hn hβ b.2.1 b.2.2 b2 b3 5) fun c ⟨c1,c2,c3⟩=>?_
  refine aM ?_
  refine mI TT_ok (SZ b.1 (by omega) a.1 c.1) rfl rfl rfl rfl rfl ?_
  generalize hX:4 * b.1+(bif a.1 then (2:Int) else 0)+(bif c.1 then 1 else 0)=X
  refine a9 (fI 20 rfl (bS (k:=m) (y:=(⟨X,(l.getD m Y9).value⟩:GCell)) (xs:=l) (enc:=cQ) (z:=Y9) (OwnI.refl _)) rfl) ?_
  have hm2:m<(l.set m (⟨X,(l.getD m Y9).value⟩:GCell)).length:=by rw [List.length_set];exact hm
  refine aA (fun _=>?_) (fun _=>?_)
  ·refine aE ?_
   refine dZ TT_ok (tJ hn hβ c.2.1 c.2.2 c2 c3 (-50) 50 (by decide) (by decide) (by decide)) rfl rfl (ZF _) (fun _=>rfl) rfl rfl rfl fun d ⟨d1,d2,d3⟩=>?_
   refine aM ?_
   exact bF ((l.set m ⟨X,(l.getD m Y9).value⟩).set m ⟨((l.set m (⟨X,(l.getD m Y9).value⟩:GCell)).getD m Y9).head,d.1⟩,m+1,d.2.1,d.2.2) ⟨by simp [q1],by dsimp only;omega,d2,d3⟩ (by dsimp only;omega) wF ⟨⟨_,rfl,bS (OwnI.refl _)⟩,wM⟩
  ·refine aE ?_
   exact aK (l.set m ⟨X,(l.getD m Y9).value⟩,m+1,c.2.1,c.2.2) ⟨by simp [q1],by dsimp only;omega,c2,c3⟩ (by dsimp only;omega)
 ·refine aE ?_
  refine a9 (bH 20 900) ?_
  refine aC ((l,i1,i2)) [(2,none)] ?_ ?_ ?_
  ·exact ZF _
  ·exact wM
  ·exact ⟨q1,q3,q4⟩
end
section
def pZ (c:GCluster) (r s:Int):Bool:=bif !inB r 0 ((c.places.length:Int) - 1) then true else !inB s 0 5
def nX (u:Bool):Int:=bif u then 0 else 8
theorem yO {c:GCluster} {r s:Int} (h:pZ c r s=false):(0≤r∧r<c.places.length)∧0≤s∧s≤5:=by
 unfold pZ at h
 cases h1:inB r 0 ((c.places.length:Int) - 1) with
 | false=>rw [h1] at h;cases h
 | true =>
  rw [h1] at h
  have h2:inB s 0 5=true:=by simpa using h
  have:=bR.1 h1
  have:=bR.1 h2
  omega
def fB (c:GCluster) (r s:Int):GCell:=(cellsOf (b8 c r.toNat 0) r).getD s.toNat Y9
def dJ (c:GCluster) (r s:Int):GNote:=⟨r,s,(fB c r s).head.tdiv 4,(fB c r s).value,sZ (fB c r s).head⟩
def sU (t:GTx) (r s:Int):GSet:=t.sets.getD (b0 (dF r s) t.sets).toNat Y7
def lH (t:GTx) (r s:Int):GNote:=t.reads.getD (b0 (dD r s) t.reads).toNat Y8
noncomputable def fH (c:GCluster) (t:GTx) (r s:Int):GTx×Int×Int×Int :=
 bif t.sets.any (dF r s) then (t,(sU t r s).version,(sU t r s).value,nX (sU t r s).used)
 else bif t.reads.any (dD r s) then (t,(lH t r s).version,(lH t r s).value,nX (lH t r s).used)
 else bif !(b8 c r.toNat 0).alive then (t,0,0,6)
 else bif eW (fB c r s).head then (t,0,0,7)
 else bif !(bT t (dJ c r s)).2 then (t,0,0,9)
 else ((bT t (dJ c r s)).1,(dJ c r s).version,(dJ c r s).value,nX (dJ c r s).used)
theorem GT {c:GCluster} (hok:ClusOk c) {r s:Int} (hr:0≤r∧r<c.places.length) (hs:0≤s∧s≤5) (ha:(b8 c r.toNat 0).alive=true) :
  (cellsOf (b8 c r.toNat 0) r).length=6∧gF (fB c r s).head=true∧OW (fB c r s).value=true:=by
 have hpl:=hok.pl (r:=r.toNat) (by omega)
 have h1:=hok.at (r:=r.toNat) (k:=0) (by omega) (by omega)
 have h2:=h1.2 ha
 rw [Int.toNat_of_nonneg hr.1] at h2
 have h3:=gM (hok.mach (r:=r.toNat) (k:=0) (by omega) (by omega)) h2
 have h4:fB c r s ∈ cellsOf (b8 c r.toNat 0) r:=bY (by omega)
 have h5:(cellsOf (b8 c r.toNat 0) r).any fQ=false:=by
  have:=h3.2
  unfold cO at this
  rw [show (((cellsOf (b8 c r.toNat 0) r).length:Int) == 6)=true from beq_iff_eq.2 (by rw [h3.1];rfl)] at this
  simpa using this
 have h6:fQ (fB c r s)=false:=by
  cases e:fQ (fB c r s) with
  | false=>rfl
  | true=>rw [List.any_eq_true.2 ⟨_,h4,e⟩] at h5;cases h5
 refine ⟨h3.1,?_⟩
 unfold fQ at h6
 cases c1:gF (fB c r s).head with
 | false=>rw [c1] at h6;cases h6
 | true =>
  cases c2:OW (fB c r s).value with
  | false=>rw [c1,c2] at h6;cases h6
  | true=>exact ⟨rfl,rfl⟩
theorem IP {c:GCluster} (hok:ClusOk c) {r s:Int} (hr:0≤r∧r<c.places.length) (hs:0≤s∧s≤5) (ha:(b8 c r.toNat 0).alive=true):noteB (dJ c r s)=true:=by
 obtain ⟨_,c2,c3⟩:=GT hok hr hs ha
 have hh:=gZ.1 c2
 have hv:0≤(fB c r s).head.tdiv 4∧(fB c r s).head.tdiv 4≤1000000:=by rw [Int.tdiv_eq_ediv_of_nonneg hh.1];omega
 have h6:=hok.2.1.1.2
 unfold noteB dJ
 rw [bR.2 (show (0:Int)≤r∧r≤5 from by omega),bR.2 (show (0:Int)≤s∧s≤5 from hs)]
 dsimp only
 rw [bR.2 hv]
 exact c3
abbrev VP (P:Program) (f:Nat) (args:List SV) (c:GCluster) (v n:Int):Prop:=Con P f [] args [] (fun _:Unit=>True) (fun _=>[iH c 901 902 903,vI v,vI n]) fun _=>[(901,bE 1 cN Y3 c.places),(902,bE 4 bQ Y4 c.machines),(903,bE 7 cTx Y5 c.txs)]
noncomputable def pP (c:GCluster) (id:Int) (t:GTx):GCluster:={ c with txs:=c.txs.set (bZ c id).toNat t }
open Classical in
noncomputable def mQ (c:GCluster) (id r s:Int):GCluster×Int×Int :=
 if ClusOk c then (if cY c id=0 then (bif pZ c r s then (c,0,5) else (pP c id (fH c (bP c id) r s).1,(if (fH c (bP c id) r s).2.2.2=0 then (fH c (bP c id) r s).2.2.1 else 0),(fH c (bP c id) r s).2.2.2)) else (c,0,cY c id)) else (Y6,0,1)
end
section
abbrev sA (m:GMachine) (k1 k2 k3:Nat):List V:=[.v (.bool m.alive), .g k1, .g k2, .g k3]
abbrev eU (m:GMachine) (r:Int):Int:=b0 (atB r) m.copies
end
section
def nI (v:Value):Int:=match v with | .int _ x=>x | _=>0
def slA (v:Value):=match v with | .slice A _ _=>A | _=>none
def slN (v:Value):Nat:=match v with | .slice _ n _=>n | _=>0
def slC (v:Value):Nat:=match v with | .slice _ _ c=>c | _=>0
abbrev GH (f:Nat→Nat→Value) (i:Nat):List D:=[.v (.int .i64 (nI (f i 0))), .v (.int .i64 (nI (f i 1))), .v (.int .i64 (nI (f i 2))), .v (.slice (slA (f i 3)) (slN (f i 3)) (slC (f i 3)))]
theorem WB {h:PH} {x:GRecord} {l:List Value} (e:D.rds h (cM x) l):l.map D.v=[.v (.int .i64 (nI (l.getD 0 undef))), .v (.int .i64 (nI (l.getD 1 undef))), .v (.int .i64 (nI (l.getD 2 undef))), .v (.slice (slA (l.getD 3 undef)) (slN (l.getD 3 undef)) (slC (l.getD 3 undef)))]:=by
 obtain ⟨y1,t1,rfl,e1,y2,t2,rfl,e2,y3,t3,rfl,e3,y4,t4,rfl,⟨A,c,e4,_⟩,e5⟩:=e
 have e1:y1 = .int .i64 x.kind:=e1
 have e2:y2 = .int .i64 x.tx:=e2
 have e3:y3 = .int .i64 x.region:=e3
 have e5:t4=[]:=e5
 subst e1;subst e2;subst e3;subst e4;subst e5
 rfl
theorem MB {α:Type} {z:α} (q:α→Bool) (xs:List α):xs.filter q=((List.range xs.length).filter fun i=>q (xs.getD i z)).map fun i=>xs.getD i z:=by
 have h:xs=(List.range xs.length).map fun i=>xs.getD i z:=by
  apply List.ext_getElem
  ·simp
  ·intro i h1 h2;simp [h1]
 conv=>lhs;rw [h,List.filter_map]
 rfl
theorem GZ {l:List Value} (h:l.length=2):l=[l.getD 0 undef,l.getD 1 undef]:=by
 match l,h with
 | [a,b],_=>rfl
theorem gd0 {l:List Nat} {i:Nat} (h:i<l.length):l.getD i 0=l[i]:=by simp [h]
theorem gmap {α:Type} {z:α} {f:Nat→α} {l:List Nat} {i:Nat} (h:i<l.length):(l.map f).getD i z=f (l.getD i 0):=by simp [List.getD_eq_getElem?_getD,h]
end
section
def mO (xs:List GCell) (b:Int→Bool) (s:Nat):Bool:=bif (bif !sZ (xs.getD s Y9).head then !eW (xs.getD s Y9).head else false) then !b s else false
def n9 (xs:List GCell) (b:Int→Bool):Int:=b0 (mO xs b) (List.range 6)
theorem JH {xs:List GCell} {b:Int→Bool} {i:Nat} (hi:i<6) (h:∀ j,j<i→mO xs b j=false) (k:mO xs b i=true):n9 xs b=i:=by
 unfold n9
 exact gH (z:=0) (by simpa using hi) (fun j hj=>by rw [jR (by omega)];exact h j hj) (by rw [jR hi];exact k)
theorem KH {xs:List GCell} {b:Int→Bool} (h:∀ j,j<6→mO xs b j=false):n9 xs b = -1:=by
 unfold n9
 exact gI (z:=0) fun j hj=>by
  have hj:j<6:=by simpa using hj
  rw [jR hj];exact h j hj
theorem L7 {xs:List GCell} {b:Int→Bool}:(n9 xs b = -1∧∀ j,j<6→mO xs b j=false)∨∃ i:Nat,i<6∧n9 xs b=i∧mO xs b i=true:=by
 unfold n9
 rcases gO (mO xs b) 0 (List.range 6) with ⟨h1,h2⟩ | ⟨i,h1,h2,_,h4⟩
 ·refine .inl ⟨h1,fun j hj=>?_⟩
  have:=h2 j (by simpa using hj)
  rwa [jR hj] at this
 ·have hi:i<6:=by simpa using h1
  exact .inr ⟨i,hi,h2,by rwa [jR hi] at h4⟩
theorem MH {xs:List GCell} {b b':Int→Bool} (h:∀ s:Nat,s<6→b s=b' s):n9 xs b=n9 xs b':=by
 have hp:∀ s,s<6→mO xs b s=mO xs b' s:=fun s hs=>by unfold mO;rw [h s hs]
 rcases L7 (xs:=xs) (b:=b) with ⟨h1,h2⟩ | ⟨i,h1,h2,h3⟩
 ·rw [h1,KH fun j hj=>by rw [← hp j hj];exact h2 j hj]
 ·rw [h2]
  have hl:∀ j,j<i→mO xs b j=false:=fun j hj=>by
   unfold n9 at h2
   rcases gO (mO xs b) 0 (List.range 6) with ⟨g1,_⟩ | ⟨k,g1,g2,g3,_⟩
   ·omega
   ·have:k=i:=by omega
    subst this
    have:=g3 j hj
    rwa [jR (by omega)] at this
  exact (JH h1 (fun j hj=>by rw [← hp j (by omega)];exact hl j hj) (by rw [← hp i h1];exact h3)).symm
def pR (t:GTx) (r s:Int):Bool:=bif t.reads.any (dD r s) then true else t.sets.any (dF r s)
def iI (c:GCluster) (t:GTx) (r:Int):Int:=n9 (cellsOf (b8 c r.toNat 0) r) (pR t r)
def zY (c:GCluster) (t:GTx) (r:Int):Int:=(fB c r (iI c t r)).head.tdiv 4
def gC (c:GCluster) (t:GTx) (r:Int):GNote:=⟨r,iI c t r,zY c t r,0,false⟩
def lP (c:GCluster) (t:GTx) (r:Int):GSet:=⟨r,iI c t r,0,true,zY c t r⟩
noncomputable def tN (c:GCluster) (t:GTx) (r:Int):GTx:=(dW (bT t (gC c t r)).1 (lP c t r)).1
noncomputable def iB (c:GCluster) (t:GTx) (r:Int):Int :=
 bif !inB r 0 ((c.places.length:Int) - 1) then 5 else bif !(b8 c r.toNat 0).alive then 6 else bif decide (iI c t r<0) then 9
 else bif !(bT t (gC c t r)).2 then 9 else bif !setB (lP c t r) then 9 else bif !(dW (bT t (gC c t r)).1 (lP c t r)).2 then 9 else 0
open Classical in
noncomputable def kW (c:GCluster) (id r:Int):GCluster×Int×Int :=
 if ClusOk c then (if cY c id=0 then (if iB c (bP c id) r=0 then (pP c id (tN c (bP c id) r),iI c (bP c id) r,0) else (c, -1,iB c (bP c id) r)) else (c, -1,cY c id)) else (Y6, -1,1)
end
section
theorem k8 {α:Type} {w:α→Nat} {k:Nat}:∀ {xs:List α},(∀ x ∈ xs,w x≤k)→fC w xs≤k * xs.length
 | [],_=>Nat.zero_le _
 | x :: r,h=>by
  have h1:=h x (by simp)
  have h2:=k8 (w:=w) (k:=k) (xs:=r) fun y hy=>h y (by simp [hy])
  simp only [fC,List.length_cons,Nat.mul_add,Nat.mul_one]
  omega
theorem l5 {α:Type} {z:α} {P:α→Prop} {xs:List α} (h:∀ i,i<xs.length→P (xs.getD i z)):∀ x ∈ xs,P x:=fun x hx=>by
 obtain ⟨i,hi,rfl⟩:=List.mem_iff_getElem.1 hx
 have:=h i hi
 simpa [hi] using this
theorem V5 {r:GRecord} (h:lA r=true):r.sets.length≤12:=by
 unfold lA at h
 cases c1:inB r.kind 1 3 <;>cases c2:inB r.tx 1 1000000 <;>cases c3:inB r.region 0 5 <;>cases c4:decide ((r.sets.length:Int) ≥ 1) <;>cases c5:decide ((r.sets.length:Int)≤12) <;>rw [c1,c2,c3,c4,c5] at h <;>first | (cases h;done) | (have:=of_decide_eq_true c5;omega)
theorem U9 {m:GMachine} (h:cS m):eO m≤2702:=by
 have h1:fC sP m.copies≤6 * m.copies.length:=k8 (l5 (z:=ZA) fun i hi=>by
  have:=sL (L9 h hi)
  show (m.copies.getD i ZA).cells.length≤6
  omega)
 have h2:fC wX m.log≤12 * m.log.length:=k8 (l5 (z:=ZB) fun i hi=>V5 (h.2.2.2 i hi))
 have h3:=h.1
 unfold eO wL
 omega
theorem EC {t:GTx} (h:dV t):wTx t≤24:=by
 have:=h.1.2.2.2.2.2
 unfold wTx
 omega
theorem SW {c:GCluster} (h:ClusOk c) {txs:List GTx} (hl:txs.length≤60) (ht:∀ t ∈ txs,wTx t≤24):iR { c with txs:=txs } ≤ 30000:=by
 have h1:fC lN c.places≤3 * c.places.length:=k8 (l5 (z:=Y3) fun i hi=>(h.pl hi).2)
 have h2:fC eO c.machines≤2702 * c.machines.length:=k8 (l5 (z:=Y4) fun i hi=>U9 (h.2.2.1 i hi))
 have h3:fC wTx txs≤24 * txs.length:=k8 ht
 have h4:=h.1.2.2.1.2
 have h5:=h.2.1.1.2
 show wL lN c.places+wL eO c.machines+wL wTx txs≤30000
 unfold wL
 omega
theorem HC {c:GCluster} (h:ClusOk c):iR c≤30000:=SW (c:=c) h h.1.2.2.2 (l5 (z:=Y5) fun i hi=>EC (h.tx hi))
theorem CS {c:GCluster} {t:GTx} {r:Int} (h:iB c t r=0):(0≤r∧r<c.places.length)∧(b8 c r.toNat 0).alive=true∧0≤iI c t r∧(bT t (gC c t r)).2=true∧setB (lP c t r)=true∧(dW (bT t (gC c t r)).1 (lP c t r)).2=true:=by
 unfold iB at h
 cases c1:inB r 0 ((c.places.length:Int) - 1) with
 | false=>rw [c1] at h;cases h
 | true =>
  cases c2:(b8 c r.toNat 0).alive with
  | false=>rw [c1,c2] at h;cases h
  | true =>
   cases c3:decide (iI c t r<0) with
   | true=>rw [c1,c2,c3] at h;cases h
   | false =>
    cases c4:(bT t (gC c t r)).2 with
    | false=>rw [c1,c2,c3,c4] at h;cases h
    | true =>
     cases c5:setB (lP c t r) with
     | false=>rw [c1,c2,c3,c4,c5] at h;cases h
     | true =>
      cases c6:(dW (bT t (gC c t r)).1 (lP c t r)).2 with
      | false=>rw [c1,c2,c3,c4,c5,c6] at h;cases h
      | true =>
       have:=bR.1 c1
       have:=of_decide_eq_false c3
       exact ⟨by omega,rfl,by omega,rfl,rfl,rfl⟩
end
section
theorem n6 {α β:Type} {z:α} (f:β→α→β) (b:β) {xs:List α} {k:Nat} (h:k<xs.length):(xs.take (k+1)).foldl f b=f ((xs.take k).foldl f b) (xs.getD k z):=by
 rw [b7 (z:=z) h,List.foldl_append];rfl
def dS (xs:List GCell) (s:GSet):GCell:=xs.getD s.slot.toNat Y9
def kE (xs:List GCell) (s:GSet):List GCell:=xs.set s.slot.toNat ⟨(dS xs s).head+1,(dS xs s).value⟩
def sV (xs:List GCell) (sets:List GSet):List GCell:=sets.foldl kE xs
def rQ (xs:List GCell) (s:GSet):Bool:=bif eW (dS xs s).head then true else (dS xs s).head.tdiv 4 != s.version
def oK (xs:List GCell) (sets:List GSet):Bool := !sets.any (rQ xs)
def oO (s:GSet):GCell:=⟨4 * (s.version+1)+(bif s.used then 2 else 0),bif s.used then s.value else 0⟩
def jE (xs:List GCell) (s:GSet):List GCell:=if (dS xs s).head.tdiv 4 > s.version then xs else xs.set s.slot.toNat (oO s)
def mM (xs:List GCell) (sets:List GSet):List GCell:=sets.foldl jE xs
def rH (xs:List GCell) (s:GSet):List GCell:=if (dS xs s).head.tdiv 4=s.version then xs.set s.slot.toNat ⟨(dS xs s).head.tdiv 2 * 2,(dS xs s).value⟩ else xs
def sI (xs:List GCell) (sets:List GSet):List GCell:=sets.foldl rH xs
theorem IM (xs:List GCell) (s:GSet):(kE xs s).length=xs.length:=by unfold kE;rw [List.length_set]
theorem II {f:List GCell→GSet→List GCell} (h:∀ xs s,(f xs s).length=xs.length):∀ (sets:List GSet) (xs:List GCell),(sets.foldl f xs).length=xs.length
 | [],_=>rfl
 | s :: r,xs=>by rw [List.foldl_cons,II h r,h]
theorem eI {xs:List GCell}:cO xs=true ↔ xs.length=6∧∀ x ∈ xs,fQ x=false:=by
 unfold cO
 constructor
 ·intro h
  cases c:((xs.length:Int) == 6) with
  | false=>rw [c] at h;cases h
  | true =>
   rw [c] at h
   refine ⟨by have:=beq_iff_eq.1 c;omega,fun x hx=>?_⟩
   cases e:fQ x with
   | false=>rfl
   | true =>
    have:xs.any fQ=true:=List.any_eq_true.2 ⟨x,hx,e⟩
    rw [this] at h;cases h
 ·rintro ⟨h1,h2⟩
  rw [show ((xs.length:Int) == 6)=true from beq_iff_eq.2 (by omega)]
  have:xs.any fQ=false:=by
   cases e:xs.any fQ with
   | false=>rfl
   | true =>
    obtain ⟨x,hx,e2⟩:=List.any_eq_true.1 e
    rw [h2 x hx] at e2;cases e2
  rw [this];rfl
theorem jW {x:GCell}:fQ x=false ↔ (0≤x.head∧x.head≤4000003)∧(-1000000000≤x.value∧x.value≤1000000000)∧((x.head / 2) % 2=1∨x.value=0):=by
 unfold fQ sZ gF OW
 cases h1:inB x.head 0 4000003 with
 | false =>
  have:¬ (0≤x.head∧x.head≤4000003):=fun h=>by rw [bR.2 h] at h1;cases h1
  simp [this]
 | true =>
  have g1:=bR.1 h1
  cases h2:inB x.value (-1000000000) 1000000000 with
  | false =>
   have:¬ (-1000000000≤x.value∧x.value≤1000000000):=fun h=>by rw [bR.2 h] at h2;cases h2
   simp [this]
  | true =>
   have g2:=bR.1 h2
   have e1:x.head.tdiv 2=x.head / 2:=nJ g1.1
   have e2:(x.head / 2).tmod 2=x.head / 2 % 2:=p7 (by omega)
   rw [e1,e2]
   simp [g1,g2]
   by_cases c:x.head / 2 % 2=1 <;>simp [c]
theorem GX {xs:List GCell} {i:Nat} {y:GCell} {P:GCell→Prop} (h:∀ x ∈ xs,P x) (hy:P y):∀ x ∈ xs.set i y,P x:=fun x hx=>by
 rcases List.mem_or_eq_of_mem_set hx with hx | rfl
 ·exact h x hx
 ·exact hy
theorem AR {xs:List GCell} {s:GSet} (h:xs.length=6) (hs:setB s=true):dS xs s ∈ xs:=by
 have:=(k9.1 hs).2.1
 exact bY (by omega)
theorem yK {xs:List GCell} {s:GSet} (h:cO xs=true) (hs:setB s=true):cO (jE xs s)=true:=by
 obtain ⟨h1,h2⟩:=eI.1 h
 have h3:=k9.1 hs
 unfold jE
 split
 ·exact h
 ·refine eI.2 ⟨by rw [List.length_set];exact h1,GX h2 (jW.2 ?_)⟩
  unfold oO
  cases s.used <;>simp <;>omega
theorem LN {xs:List GCell} {s:GSet} (h:cO xs=true) (hs:setB s=true):cO (rH xs s)=true:=by
 obtain ⟨h1,h2⟩:=eI.1 h
 have h3:=jW.1 (h2 _ (AR h1 hs))
 unfold rH
 split
 ·refine eI.2 ⟨by rw [List.length_set];exact h1,GX h2 (jW.2 ?_)⟩
  dsimp only
  rw [nJ h3.1.1]
  omega
 ·exact h
theorem qP {f:List GCell→GSet→List GCell} (hf:∀ xs s,cO xs=true→setB s=true→cO (f xs s)=true):∀ {sets:List GSet} {xs:List GCell},(∀ s ∈ sets,setB s=true)→cO xs=true→cO (sets.foldl f xs)=true
 | [],_,_,h=>h
 | s :: r,xs,hs,h=>by
  rw [List.foldl_cons]
  exact qP hf (fun t ht=>hs t (by simp [ht])) (hf xs s h (hs s (by simp)))
theorem DV {xs:List GCell} {sets:List GSet} (h:cO xs=true) (hs:∀ s ∈ sets,setB s=true):cO (mM xs sets)=true:=qP (fun _ _=>yK) hs h
theorem K6 {xs:List GCell} {sets:List GSet} (h:cO xs=true) (hs:∀ s ∈ sets,setB s=true):cO (sI xs sets)=true:=qP (fun _ _=>LN) hs h
def ES (sets:List GSet):Prop:=sets.Pairwise fun a b=>a.slot<b.slot
theorem CM {xs:List GCell} {s t:GSet} {y:GCell} (hs:setB s=true) (ht:setB t=true) (h:t.slot≠s.slot):dS (xs.set s.slot.toNat y) t=dS xs t:=by
 have h1:=(k9.1 hs).2.1
 have h2:=(k9.1 ht).2.1
 unfold dS
 simp only [List.getD_eq_getElem?_getD]
 rw [List.getElem?_set_ne (by omega)]
theorem E6:∀ {sets:List GSet} {xs:List GCell} {t:GSet},(∀ s ∈ sets,setB s=true∧t.slot≠s.slot)→setB t=true→dS (sets.foldl kE xs) t=dS xs t
 | [],_,_,_,_=>rfl
 | s :: r,xs,t,h,ht=>by
  rw [List.foldl_cons,E6 (fun s hs=>h s (by simp [hs])) ht]
  exact CM (h s (by simp)).1 ht (h s (by simp)).2
theorem WG {sets:List GSet} (hs:∀ s ∈ sets,setB s=true) (hr:ES sets) (xs:List GCell) {k:Nat} (hk:k<sets.length):dS ((sets.take k).foldl kE xs) (sets.getD k Y7)=dS xs (sets.getD k Y7):=by
 refine E6 (fun s h=>⟨hs s (List.mem_of_mem_take h),?_⟩) (hs _ (bY hk))
 obtain ⟨a,ha,rfl⟩:=List.mem_iff_getElem.1 h
 have hak:a<k:=by rw [List.length_take] at ha;omega
 have:=eV (z:=Y7) hr hak hk
 rw [List.getElem_take]
 rw [show sets.getD a Y7=sets[a] from by simp [show a<sets.length by omega]] at this
 omega
theorem LV:∀ {sets:List GSet} {xs:List GCell},(∀ s ∈ sets,setB s=true)→ES sets→cO xs=true→(∀ s ∈ sets,eW (dS xs s).head=false)→cO (sV xs sets)=true
 | [],_,_,_,h,_=>h
 | s :: r,xs,hs,hr,h,hl=>by
  obtain ⟨h1,h2⟩:=eI.1 h
  have hsb:=hs s (by simp)
  have h3:=jW.1 (h2 _ (AR h1 hsb))
  obtain ⟨p1,p2⟩:=List.pairwise_cons.1 hr
  have h4:=hl s (by simp)
  have he:(dS xs s).head % 2=0:=by
   unfold eW gF at h4
   rw [bR.2 h3.1,p7 h3.1.1] at h4
   have:¬ (dS xs s).head % 2=1:=by simpa using h4
   omega
  show cO (r.foldl kE (kE xs s))=true
  refine LV (fun t ht=>hs t (by simp [ht])) p2 ?_ fun t ht=>?_
  ·refine eI.2 ⟨by rw [IM];exact h1,GX h2 (jW.2 ?_)⟩
   dsimp only
   omega
  ·rw [kE,CM hsb (hs t (by simp [ht])) (by have:=p1 t ht;omega)]
   exact hl t (by simp [ht])
theorem rW {t:GTx} (ht:dV t) (r:Int):(∀ s ∈ cA r t.sets,setB s=true)∧ES (cA r t.sets)∧∀ s ∈ cA r t.sets,s.region=r:=by
 have h:=pL.1 ht.2.2
 refine ⟨fun s hs=>h.1 s (List.mem_filter.1 hs).1,?_,fun s hs=>by simpa using (List.mem_filter.1 hs).2⟩
 have h2:(cA r t.sets).Pairwise lessS:=h.2.filter _
 refine List.Pairwise.imp_of_mem ?_ h2
 intro a b ha hb hab
 have h3:a.region=r:=by simpa using (List.mem_filter.1 ha).2
 have h4:b.region=r:=by simpa using (List.mem_filter.1 hb).2
 unfold lessS at hab
 omega
end
section
theorem R3 {l:List Int}:∀ {k:Nat},k≤l.length→∀ x,x ∈ cmI l k ↔ x ∈ l.take k
 | 0,_,x=>by simp [cmI]
 | k+1,hk,x=>by
  have ih:=R3 (l:=l) (k:=k) (by omega) x
  rw [b7 (z:=0) (by omega),cmI]
  split
  ·simp only [List.mem_append,ih]
  ·rename_i h
   simp only [List.mem_append,List.mem_singleton]
   rw [ih]
   constructor
   ·exact .inl
   ·rintro (h1 | h1)
    ·exact h1
    ·subst h1
     have h0:k≠0:=fun e=>h (.inl e)
     have h2:l.getD k 0=l.getD (k - 1) 0:=by
      by_cases c:l.getD k 0=l.getD (k - 1) 0
      ·exact c
      ·exact absurd (.inr c) h
     rw [h2,List.mem_iff_getElem]
     exact ⟨k - 1,by rw [List.length_take];omega,by simp [List.getD_eq_getElem?_getD,List.getElem?_eq_getElem (show k - 1<l.length by omega)]⟩
end
section
structure GCopyAt where
 region:Int
 machine:Int
 backup:Bool
def GCopyAt.z:GCopyAt:=⟨0,0,false⟩
abbrev cI (c:GCluster) (r:Int):List Int:=(c.places.getD r.toNat Y3).machines
abbrev bG (t:GTx):List Int:=cmI (gX t) (gX t).length
def j8 (b:Bool) (r:Int) (ms:List Int):Nat→List GCopyAt
 | 0=>[]
 | i+1=>bif (bif decide ((i:Int) > 0) then true else !b) then j8 b r ms i ++ [⟨r,ms.getD i 0,decide ((i:Int) > 0)⟩] else j8 b r ms i
def mJ (c:GCluster) (ws:List Int) (b:Bool):Nat→List GCopyAt
 | 0=>[]
 | k+1=>mJ c ws b k ++ j8 b (ws.getD k 0) (cI c (ws.getD k 0)) (cI c (ws.getD k 0)).length
def mF (c:GCluster) (t:GTx) (b:Bool):List GCopyAt:=mJ c (bG t) b (bG t).length
theorem NN {b:Bool} {r:Int} {ms:List Int}:∀ {i:Nat},(j8 b r ms i).length≤i
 | 0=>Nat.le_refl _
 | i+1=>by
  have:=NN (b:=b) (r:=r) (ms:=ms) (i:=i)
  rw [j8]
  cases (bif decide ((i:Int) > 0) then true else !b) <;>simp <;>omega
theorem IE {t:GTx} {r:Int} (h:r ∈ bG t):∃ s ∈ t.sets,s.region=r:=by
 have h1:=(R3 (l:=gX t) (Nat.le_refl _) r).1 h
 rw [List.take_length] at h1
 obtain ⟨s,h2,h3⟩:=List.mem_map.1 h1
 exact ⟨s,h2,h3⟩
theorem jI {c:GCluster} {t:GTx} (ht:TxIn c t) {k:Nat} (hk:k<(bG t).length):0≤(bG t).getD k 0∧(bG t).getD k 0<c.places.length:=by
 obtain ⟨s,h1,h2⟩:=IE (yM hk)
 obtain ⟨j,hj,rfl⟩:=List.mem_iff_getElem.1 h1
 have:=ht.set j hj
 rw [show t.sets.getD j Y7=t.sets[j] from by simp [hj],h2] at this
 exact this
theorem zE {t:GTx} (ht:dV t):(bG t).length≤12:=by
 show (cmI (gX t) (gX t).length).length≤12
 have h1:=QZ (xs:=gX t) (k:=(gX t).length)
 have h2:=xR t
 have h3:=ht.1.2.2.2.2.2.2
 omega
theorem oV {c:GCluster} (hok:ClusOk c) {r:Int} (hr:0≤r∧r<c.places.length):1≤(cI c r).length∧(cI c r).length≤3:=hok.pl (r:=r.toNat) (by omega)
theorem G1 {c:GCluster} (hok:ClusOk c) {ws:List Int} (hw:∀ k,k<ws.length→0≤ws.getD k 0∧ws.getD k 0<c.places.length) {b:Bool}:∀ {k:Nat},k≤ws.length→(mJ c ws b k).length≤3 * k
 | 0,_=>Nat.le_refl _
 | k+1,h=>by
  have h1:=G1 hok hw (b:=b) (k:=k) (by omega)
  have h2:=oV hok (hw k (by omega))
  have h3:=NN (b:=b) (r:=ws.getD k 0) (ms:=cI c (ws.getD k 0)) (i:=(cI c (ws.getD k 0)).length)
  rw [mJ,List.length_append];omega
def y9 (c:GCluster) (r:Int):GCopyAt:=⟨r,mAt c r.toNat 0,false⟩
def fF (c:GCluster) (t:GTx):List GCopyAt :=
 if t.phase=3 then (cD t).map fun n=>y9 c n.region
 else if t.phase=4 then mF c t true
 else if t.phase=6 then mF c t false
 else if t.phase=1∨t.phase=7∨t.phase=9 then []
 else (bG t).map (y9 c)
theorem C6 {c:GCluster} (hok:ClusOk c) {t:GTx} (ht:TxIn c t):(fF c t).length≤36:=by
 have h1:=zE ht.ok
 have h2:(cD t).length≤t.reads.length:=List.length_filter_le _ _
 have h3:=ht.ok.1.2.2.2.2.2.1
 have h4:=fun b=>G1 hok (ws:=bG t) (fun k hk=>jI ht hk) (b:=b) (Nat.le_refl _)
 unfold fF
 split
 ·rw [List.length_map];omega
 ·split
  ·have:=h4 true;unfold mF;omega
  ·split
   ·have:=h4 false;unfold mF;omega
   ·split
    ·exact Nat.zero_le _
    ·rw [List.length_map];omega
theorem xK {b:Bool} {r:Int} {ms:List Int} {x:GCopyAt}:∀ {i:Nat},i≤ms.length→x ∈ j8 b r ms i→∃ j,j<i∧x=⟨r,ms.getD j 0,decide ((j:Int) > 0)⟩
 | 0,_,h=>by cases h
 | i+1,hi,h=>by
  rw [j8] at h
  have go:x ∈ j8 b r ms i→∃ j,j<i+1∧x=⟨r,ms.getD j 0,decide ((j:Int) > 0)⟩:=fun h=>by
   obtain ⟨j,h1,h2⟩:=xK (by omega) h;exact ⟨j,by omega,h2⟩
  cases c:(bif decide ((i:Int) > 0) then true else !b) with
  | false=>rw [c] at h;exact go h
  | true =>
   rw [c] at h
   rcases List.mem_append.1 h with h | h
   ·exact go h
   ·exact ⟨i,by omega,by simpa using h⟩
structure AtIn (c:GCluster) (x:GCopyAt):Prop where
 region:0≤x.region∧x.region<c.places.length
 at':∃ j,j<(cI c x.region).length∧x.machine=mAt c x.region.toNat j∧x.backup=decide ((j:Int) > 0)
theorem LS {c:GCluster} (hok:ClusOk c) {r:Int} (hr:0≤r∧r<c.places.length):AtIn c (y9 c r):=⟨hr,0,by have:=oV hok hr;show 0<(cI c r).length;omega,rfl,rfl⟩
theorem wS {c:GCluster} {ws:List Int} (hw:∀ k,k<ws.length→0≤ws.getD k 0∧ws.getD k 0<c.places.length) {b:Bool} {x:GCopyAt}:∀ {k:Nat},k≤ws.length→x ∈ mJ c ws b k→AtIn c x
 | 0,_,h=>by cases h
 | k+1,hk,h=>by
  rw [mJ] at h
  rcases List.mem_append.1 h with h | h
  ·exact wS hw (by omega) h
  ·obtain ⟨j,h1,rfl⟩:=xK (Nat.le_refl _) h
   exact ⟨hw k (by omega),j,h1,rfl,rfl⟩
theorem UB {c:GCluster} (hok:ClusOk c) {t:GTx} (ht:TxIn c t):∀ x ∈ fF c t,AtIn c x:=fun x h=>by
 unfold fF at h
 split at h
 ·obtain ⟨n,h1,rfl⟩:=List.mem_map.1 h
  obtain ⟨k,hk,rfl⟩:=List.mem_iff_getElem.1 h1
  have:=yC ht hk
  rw [show (cD t).getD k Y8=(cD t)[k] from by simp [hk]] at this
  exact LS hok this
 ·split at h
  ·exact wS (fun k hk=>jI ht hk) (Nat.le_refl _) h
  ·split at h
   ·exact wS (fun k hk=>jI ht hk) (Nat.le_refl _) h
   ·split at h
    ·cases h
    ·obtain ⟨r,h1,rfl⟩:=List.mem_map.1 h
     obtain ⟨k,hk,rfl⟩:=List.mem_iff_getElem.1 h1
     have:=jI ht hk
     rw [show (bG t).getD k 0=(bG t)[k] from by simp [hk]] at this
     exact LS hok this
def iC (t:GTx):Int:=if t.phase=2 then 3 else if t.phase=3 then (if t.sets.length=0 then 7 else 4) else if t.phase=4 then 5 else if t.phase=5 then 6 else if t.phase=6 then 7 else 9
def xU (c:GCluster) (t:GTx):Prop:=t.phase=7∨t.phase=9∨t.done<(fF c t).length
instance (c:GCluster) (t:GTx):Decidable (xU c t):=inferInstanceAs (Decidable (_∨_∨_))
def C9 (y:Int×GTx):Int×GTx:=(if y.2.phase=2 then y.1+1 else y.1, { y.2 with phase:=iC y.2,done:=0,stamp:=if y.2.phase=2 then y.1+1 else y.2.stamp })
def iN (c:GCluster):Nat→Int×GTx→Int×GTx
 | 0,y=>y
 | n+1,y=>if xU c y.2 then y else iN c n (C9 y)
def g9 (c:GCluster) (y:Int×GTx):Int×GTx:=iN c 8 y
theorem UD {c:GCluster} {y:Int×GTx} (h:xU c y.2):∀ n,iN c n y=y
 | 0=>rfl
 | n+1=>by rw [iN,if_pos h]
theorem Y0 {c:GCluster} {y:Int×GTx} (h:¬ xU c y.2) (n:Nat):iN c (n+1) y=iN c n (C9 y):=by rw [iN,if_neg h]
structure Same (t u:GTx):Prop where
 id:u.id=t.id
 home:u.home=t.home
 reads:u.reads=t.reads
 sets:u.sets=t.sets
theorem Same.refl (t:GTx):Same t t:=⟨rfl,rfl,rfl,rfl⟩
theorem Same.trans {t u w:GTx} (h:Same t u) (k:Same u w):Same t w:=⟨k.id.trans h.id,k.home.trans h.home,k.reads.trans h.reads,k.sets.trans h.sets⟩
theorem AH {c:GCluster}:∀ {n:Nat} {y:Int×GTx},Same y.2 (iN c n y).2
 | 0,y => .refl _
 | n+1,y=>by
  rw [iN];split
  ·exact .refl _
  ·exact Same.trans (u:=(C9 y).2) ⟨rfl,rfl,rfl,rfl⟩ (AH (n:=n) (y:=C9 y))
theorem S3 {t:GTx} (h:2≤t.phase∧t.phase≤9) (h7:t.phase≠7) (h9:t.phase≠9):t.phase<iC t∧iC t≤9:=by
 unfold iC
 (repeat' split) <;>omega
theorem BL {c:GCluster}:∀ {n:Nat} {y:Int×GTx},2≤y.2.phase∧y.2.phase≤9→9 - y.2.phase<n→0≤y.2.done∧y.2.done≤1000→0≤y.1∧y.1≤1000000→(y.2.phase=2→y.1<1000000)→0≤y.2.stamp∧y.2.stamp≤y.1 →
  xU c (iN c n y).2∧(y.2.phase≤(iN c n y).2.phase∧(iN c n y).2.phase≤9)∧(0≤(iN c n y).2.done∧(iN c n y).2.done≤1000)∧(y.1≤(iN c n y).1∧(iN c n y).1≤1000000∧((iN c n y).2.phase=2→(iN c n y).1=y.1))∧0≤(iN c n y).2.stamp∧(iN c n y).2.stamp≤(iN c n y).1
 | 0,y,h1,h2,_,_,_,_=>by omega
 | n+1,y,h1,h2,h3,h4,h5,h6=>by
  rw [iN]
  split
  ·rename_i hs
   exact ⟨hs,⟨Int.le_refl _,h1.2⟩,h3,⟨Int.le_refl _,h4.2,fun _=>rfl⟩,h6⟩
  ·rename_i hs
   have g1:=S3 h1 (fun e=>hs (.inl e)) (fun e=>hs (.inr (.inl e)))
   by_cases e:y.2.phase=2
   ·have:=BL (c:=c) (n:=n) (y:=C9 y) (by show 2≤iC y.2∧iC y.2≤9;omega) (by show 9 - iC y.2<n;omega) (by show (0:Int)≤0∧(0:Int)≤1000;omega)
     (by show 0≤(if y.2.phase=2 then y.1+1 else y.1)∧(if y.2.phase=2 then y.1+1 else y.1)≤1000000;rw [if_pos e];have:=h5 e;omega) (fun e2=>by exfalso;have e2:iC y.2=2:=e2;omega)
     (by show 0≤(if y.2.phase=2 then y.1+1 else y.2.stamp)∧(if y.2.phase=2 then y.1+1 else y.2.stamp)≤(if y.2.phase=2 then y.1+1 else y.1);rw [if_pos e,if_pos e];omega)
    obtain ⟨q1,q2,q3,q4,q5⟩:=this
    have q2:iC y.2≤_∧_:=q2
    have q4:(if y.2.phase=2 then y.1+1 else y.1)≤_∧_:=q4
    rw [if_pos e] at q4
    exact ⟨q1,⟨by omega,q2.2⟩,q3,⟨by omega,q4.2.1,fun e2=>by omega⟩,q5⟩
   ·have:=BL (c:=c) (n:=n) (y:=C9 y) (by show 2≤iC y.2∧iC y.2≤9;omega) (by show 9 - iC y.2<n;omega) (by show (0:Int)≤0∧(0:Int)≤1000;omega)
     (by show 0≤(if y.2.phase=2 then y.1+1 else y.1)∧(if y.2.phase=2 then y.1+1 else y.1)≤1000000;rw [if_neg e];exact h4) (fun e2=>by exfalso;have e2:iC y.2=2:=e2;omega)
     (by show 0≤(if y.2.phase=2 then y.1+1 else y.2.stamp)∧(if y.2.phase=2 then y.1+1 else y.2.stamp)≤(if y.2.phase=2 then y.1+1 else y.1);rw [if_neg e,if_neg e];exact h6)
    obtain ⟨q1,q2,q3,q4,q5⟩:=this
    have q2:iC y.2≤_∧_:=q2
    have q4:(if y.2.phase=2 then y.1+1 else y.1)≤_∧_:=q4
    rw [if_neg e] at q4
    exact ⟨q1,⟨by omega,q2.2⟩,q3,⟨by omega,q4.2.1,fun e2=>by omega⟩,q5⟩
def cG (m:GMachine) (r:Int) (xs:List GCell):GMachine:={ m with copies:=m.copies.set (b0 (atB r) m.copies).toNat ⟨(m.copies.getD (b0 (atB r) m.copies).toNat ZA).region,xs⟩ }
def pG (m:GMachine) (x:GRecord):GMachine:={ m with log:=m.log ++ [x] }
def rB (tx r:Int) (x:GRecord):GRecord:=if sT tx r 1 x=true then ⟨3,x.tx,x.region,x.sets⟩ else x
def JE (m:GMachine) (tx r:Int):GMachine:={ m with log:=m.log.map (rB tx r) }
def qX (tx r:Int) (x:GRecord):Bool := !(bif x.tx == tx then x.region == r else false)
def E5 (m:GMachine) (tx r:Int):GMachine:={ m with log:=m.log.filter (qX tx r) }
def wR (n x:Int):Int:=x - n
noncomputable def q8 (xs:List Int) (n:Int):List Int:=if n ∈ xs then xs else fD (oC (wR n) 0 xs) n xs
noncomputable def jN (m:GMachine) (tx r:Int) (d:Bool):GMachine:={ E5 m tx r with cleared:=bif d then q8 m.cleared tx else m.cleared }
def m6 (m:GMachine) (tx:Int):Bool:=bif decide ((m.cleared.length:Int)<60) then true else decide (tx ∈ m.cleared)
def sG (t:GTx):GTx:={ t with phase:=8,done:=0 }
def fG (t:GTx):GTx:={ t with done:=t.done+1 }
noncomputable def kH (t:GTx) (x:GCopyAt) (n:GNote) (m:GMachine):Int×GMachine×GTx :=
 bif !m.alive then (6,m,t)
 else if t.phase=2 then (bif !oK (cellsOf m x.region) (cA x.region t.sets) then (0,m,sG t) else bif decide ((m.log.length:Int)=200) then (9,m,t) else (0,pG (cG m x.region (sV (cellsOf m x.region) (cA x.region t.sets))) ⟨1,t.id,x.region,cA x.region t.sets⟩,fG t))
 else if t.phase=3 then (bif (bif eW ((cellsOf m x.region).getD n.slot.toNat Y9).head then true else ((cellsOf m x.region).getD n.slot.toNat Y9).head.tdiv 4 != n.version) then (0,m,sG t) else (0,m,fG t))
 else if t.phase=4 then (bif decide ((m.log.length:Int)=200) then (9,m,t) else (0,pG m ⟨2,t.id,x.region,cA x.region t.sets⟩,fG t))
 else if t.phase=5 then (0,JE (cG m x.region (mM (cellsOf m x.region) (cA x.region t.sets))) t.id x.region,fG t)
 else if t.phase=6 then (bif !m6 m t.id then (9,m,t) else (0,jN (bif x.backup then cG m x.region (mM (cellsOf m x.region) (cA x.region t.sets)) else m) t.id x.region true,fG t))
 else (if 0≤pC m t.id x.region 1 then (0,jN (cG m x.region (sI (cellsOf m x.region) (cA x.region t.sets))) t.id x.region false,fG t) else (0,m,fG t))
def eG (c:GCluster) (t:GTx):GCopyAt:=(fF c t).getD t.done.toNat GCopyAt.z
noncomputable def eE (c:GCluster) (t:GTx):Int×GMachine×GTx:=kH t (eG c t) ((cD t).getD t.done.toNat Y8) (c.machines.getD (eG c t).machine.toNat Y4)
noncomputable def sB (c:GCluster) (i:Nat) (y:Int×GTx) (ms:List GMachine):GCluster:={ c with clock:=y.1,machines:=ms,txs:=c.txs.set i y.2 }
noncomputable def fO (c:GCluster) (i:Nat):Int×GCluster :=
 let y:=g9 c (c.clock,c.txs.getD i Y5)
 if y.2.phase=7∨y.2.phase=9 then (0,sB c i y c.machines)
 else
  let a:=eE c y.2
  if a.1=0 then (0,sB c i (g9 c (y.1,a.2.2)) (c.machines.set (eG c y.2).machine.toNat a.2.1)) else (a.1,c)
def eQ (c:GCluster) (id:Int):Int:=bif decide (bZ c id<0) then 2 else bif !kQ c id then 3 else bif (bif (bP c id).phase == 1 then true else bif (bP c id).phase == 7 then true else (bP c id).phase == 9) then 4 else 0
open Classical in
noncomputable def eF (c:GCluster) (id:Int):GCluster×Int :=
 if ClusOk c then (if eQ c id≠0 then (c,eQ c id) else if c.clock=1000000 then (c,9) else if (fO c (bZ c id).toNat).1=0 then ((fO c (bZ c id).toNat).2,0) else (c,(fO c (bZ c id).toNat).1)) else (Y6,1)
end
section
theorem bV {a b:Bool}:(bif a then true else b)=false ↔ a=false∧b=false:=by cases a <;>simp
theorem sY {xs:List Int}:m5 xs=true ↔ (∀ x ∈ xs,1≤x∧x≤1000000)∧xs.Pairwise (· < ·):=by
 unfold m5
 constructor
 ·intro h
  have h:wQ xs.length (vO xs)=false:=by simpa using h
  have h1:=KJ h
  have h2:∀ j,j<xs.length→1≤xs.getD j 0∧xs.getD j 0≤1000000:=fun j hj=>by
   have:=(bV.1 (h1 j hj)).1
   have:inB (xs.getD j 0) 1 1000000=true:=by simpa using this
   exact bR.1 this
  have h3:∀ j,j+1<xs.length→xs.getD j 0<xs.getD (j+1) 0:=fun j hj=>by
   have:=(bV.1 (h1 (j+1) hj)).2
   rw [decide_eq_true (show ((j+1:Nat):Int) > 0 by omega)] at this
   have:=of_decide_eq_false this
   rw [show (((j+1:Nat):Int) - 1).toNat=j by omega] at this
   omega
  refine ⟨l5 (z:=0) h2,lG (z:=0) fun a b hab hb=>?_⟩
  induction b with
  | zero=>omega
  | succ b ih =>
   have:=h3 b hb
   by_cases c:a=b
   ·subst c;exact this
   ·have:=ih (by omega) (by omega);omega
 ·rintro ⟨h1,h2⟩
  have:wQ xs.length (vO xs)=false:=o9 fun j hj=>by
   unfold vO
   rw [bR.2 (h1 _ (yM hj))]
   by_cases c:(j:Int) > 0
   ·rw [decide_eq_true c,show ((j:Int) - 1).toNat=j - 1 by omega]
    have:=eV (z:=0) h2 (a:=j - 1) (b:=j) (by omega) hj
    show decide _=false
    exact decide_eq_false (by omega)
   ·rw [decide_eq_false c];rfl
  rw [this];rfl
theorem CP {xs:List Int} (h:xs.Pairwise (· < ·)) (n:Int):rL (wR n) 0 xs:=fun a b hab hb hc=>by
 by_cases c:a=b
 ·subst c;exact hc
 ·have:=eV (z:=0) h (a:=a) (b:=b) (by omega) hb
  unfold wR at hc ⊢
  omega
theorem NE {xs:List Int} (hs:xs.Pairwise (· < ·)) {n:Int} {p:Nat} (hc:lD (wR n) 0 xs p) (hn:n ∉ xs):(fD p n xs).Pairwise (· < ·):=by
 obtain ⟨h1,h2,h3⟩:=hc
 have hl:=gL (x:=n) h1
 refine lG (z:=0) fun a b hab hb=>?_
 rw [hl] at hb
 rw [jX h1,jX h1]
 have lt:∀ i,i<p→xs.getD i 0<n:=fun i hi=>by have:=h2 i hi;unfold wR at this;omega
 have gt:∀ i,p≤i→i<xs.length→n<xs.getD i 0:=fun i hi hj=>by
  have:=h3 i hi hj
  unfold wR at this
  have:xs.getD i 0≠n:=fun e=>hn (e ▸ yM hj)
  omega
 have pw:∀ i j,i<j→j<xs.length→xs.getD i 0<xs.getD j 0:=fun i j h k=>eV (z:=0) hs h k
 by_cases a1:a<p
 ·rw [if_pos a1]
  by_cases b1:b<p
  ·rw [if_pos b1];exact pw a b hab (by omega)
  ·rw [if_neg b1]
   by_cases b2:b<p+1
   ·rw [if_pos b2];exact lt a a1
   ·rw [if_neg b2];exact pw a (b - 1) (by omega) (by omega)
 ·rw [if_neg a1,if_neg (show ¬ b<p by omega),if_neg (show ¬ b<p+1 by omega)]
  by_cases a2:a<p+1
  ·rw [if_pos a2];exact gt (b - 1) (by omega) (by omega)
  ·rw [if_neg a2];exact pw (a - 1) (b - 1) (by omega) (by omega)
theorem SL {xs:List Int} (h:m5 xs=true) {n:Int} (hn:1≤n∧n≤1000000):m5 (q8 xs n)=true∧(q8 xs n).length≤(if n ∈ xs then xs.length else xs.length+1):=by
 unfold q8
 by_cases c:n ∈ xs
 ·rw [if_pos c,if_pos c];exact ⟨h,Nat.le_refl _⟩
 ·rw [if_neg c,if_neg c]
  obtain ⟨h1,h2⟩:=sY.1 h
  have hc:=qV (CP h2 n)
  refine ⟨sY.2 ⟨fun x hx=>?_,NE h2 hc c⟩,by rw [gL hc.1];exact Nat.le_refl _⟩
  rcases l0.1 hx with rfl | hx
  ·exact hn
  ·exact h1 x hx
theorem NL {α β:Type} (f:α→β) (xs:List α) (i:Nat) (y:α):(xs.set i y).map f=(xs.map f).set i (f y):=by
 simp
theorem zL (m:GMachine) (r:Int) (xs:List GCell):(cG m r xs).copies.map GCopy.region=m.copies.map GCopy.region:=by
 unfold cG
 dsimp only
 rw [NL]
 apply List.ext_getElem
 ·simp
 ·intro i h1 h2
  rw [List.getElem_set]
  split
  ·rename_i e
   subst e
   simp only [List.length_set,List.length_map] at h1 h2
   simp [h2]
  ·rfl
theorem J3 (m:GMachine) (r:Int):dQ m r=(m.copies.map GCopy.region).any (· == r):=by
 unfold dQ
 rw [List.any_map]
 rfl
theorem j9 (m:GMachine) (r q:Int) (xs:List GCell):dQ (cG m r xs) q=dQ m q:=by rw [J3,J3,zL]
theorem AA (m:GMachine) (r:Int) (xs:List GCell):(cG m r xs).copies.length=m.copies.length:=by unfold cG;simp
theorem kZ {m:GMachine} (h:cS m) {r:Int} {xs:List GCell} (hx:cO xs=true):cS (cG m r xs):=by
 refine ⟨⟨by rw [AA];exact h.1.1,h.1.2.1,h.1.2.2⟩,h.2.1,fun j hj=>?_,h.2.2.2⟩
 rw [AA] at hj
 have h1:=h.2.2.1 j hj
 have hreg:∀ i,((cG m r xs).copies.getD i ZA).region=(m.copies.getD i ZA).region:=fun i=>by
  have e:=congrArg (fun l=>l.getD i 0) (zL m r xs)
  simp only [List.getD_eq_getElem?_getD,List.getElem?_map] at e ⊢
  cases c1:(cG m r xs).copies[i]? <;>cases c2:m.copies[i]? <;>rw [c1,c2] at e <;>first | exact e | rfl
 unfold o3 at h1 ⊢
 rw [hreg,hreg]
 obtain ⟨g1,g2⟩:=bV.1 h1
 obtain ⟨g3,g4⟩:=bV.1 g1
 refine bV.2 ⟨bV.2 ⟨g3,?_⟩,g2⟩
 unfold cG
 dsimp only
 by_cases c:j=(b0 (atB r) m.copies).toNat
 ·subst c
  rw [show ((m.copies.set (b0 (atB r) m.copies).toNat ⟨(m.copies.getD (b0 (atB r) m.copies).toNat ZA).region,xs⟩).getD (b0 (atB r) m.copies).toNat ZA)=⟨(m.copies.getD (b0 (atB r) m.copies).toNat ZA).region,xs⟩ from by simp [List.getD_eq_getElem?_getD,hj]]
  dsimp only
  rw [hx];rfl
 ·rw [show ((m.copies.set (b0 (atB r) m.copies).toNat ⟨(m.copies.getD (b0 (atB r) m.copies).toNat ZA).region,xs⟩).getD j ZA)=m.copies.getD j ZA from by
   simp only [List.getD_eq_getElem?_getD];rw [List.getElem?_set_ne (Ne.symm c)]]
  exact g4
theorem LF {m:GMachine} (h:cS m) {log:List GRecord} (hl:log.length≤200) (hr:∀ x ∈ log,lA x=true):cS { m with log:=log }:=⟨⟨h.1.1,hl,h.1.2.2⟩,h.2.1,h.2.2.1,fun j hj=>hr _ (bY hj)⟩
theorem T3 {m:GMachine} (h:cS m):∀ x ∈ m.log,lA x=true:=l5 (z:=ZB) h.2.2.2
theorem IV {m:GMachine} (h:cS m) {x:GRecord} (hx:lA x=true) (hl:¬ (m.log.length:Int)=200):cS (pG m x):=by
 refine LF h ?_ fun y hy=>?_
 ·have:=h.1.2.1
  rw [List.length_append,List.length_singleton];omega
 ·rcases List.mem_append.1 hy with hy | hy
  ·exact T3 h y hy
  ·have:y=x:=by simpa using hy
   rw [this];exact hx
theorem VD {tx r:Int} {x:GRecord} (h:lA x=true):lA (rB tx r x)=true:=by
 unfold rB
 split
 ·unfold lA at h ⊢
  dsimp only
  cases c:inB x.kind 1 3 with
  | false=>rw [c] at h;cases h
  | true=>rw [c] at h;rw [bR.2 (show (1:Int)≤3∧(3:Int)≤3 by omega)];exact h
 ·exact h
theorem UG {m:GMachine} (h:cS m) (tx r:Int):cS (JE m tx r):=by
 refine LF h (by rw [List.length_map];exact h.1.2.1) fun y hy=>?_
 obtain ⟨x,hx,rfl⟩:=List.mem_map.1 hy
 exact VD (T3 h x hx)
theorem uX {m:GMachine} (h:cS m) {tx r:Int} (ht:1≤tx∧tx≤1000000) {d:Bool} (hc:d=true→m6 m tx=true):cS (jN m tx r d):=by
 have h1:cS (E5 m tx r):=LF h (Nat.le_trans (List.length_filter_le _ _) h.1.2.1) fun y hy=>T3 h y (List.mem_filter.1 hy).1
 cases d with
 | false=>exact h1
 | true =>
  obtain ⟨g1,g2⟩:=SL (xs:=m.cleared) h.2.1 ht
  refine ⟨⟨h1.1.1,h1.1.2.1,?_⟩,g1,h1.2.2⟩
  have:=hc rfl
  unfold m6 at this
  have g3:=h.1.2.2
  show (q8 m.cleared tx).length≤60
  by_cases c:tx ∈ m.cleared
  ·rw [if_pos c] at g2;omega
  ·rw [if_neg c] at g2
   rw [decide_eq_false c] at this
   have:(m.cleared.length:Int)<60:=by simpa using this
   omega
theorem IK {t:GTx} (ht:dV t) {k r:Int} (hk:1≤k∧k≤3) (hr:r ∈ bG t):lA ⟨k,t.id,r,cA r t.sets⟩=true:=by
 obtain ⟨s,h1,h2⟩:=IE hr
 obtain ⟨g1,g2,g3⟩:=rW ht r
 have hmem:s ∈ cA r t.sets:=List.mem_filter.2 ⟨h1,by simpa using h2⟩
 have hlen:1≤(cA r t.sets).length:=List.length_pos_of_mem hmem
 have hlen2:(cA r t.sets).length≤12:=Nat.le_trans (List.length_filter_le _ _) ht.1.2.2.2.2.2.2
 have hr5:0≤r∧r≤5:=by have:=(k9.1 (g1 s hmem)).1;rw [h2] at this;exact this
 have hS:lF (cA r t.sets)=true:=by
  unfold lF
  rw [o9 fun j hj=>?_]; · rfl
  unfold oZ
  rw [g1 _ (bY hj)]
  by_cases c:(j:Int) > 0
  ·rw [decide_eq_true c,show ((j:Int) - 1).toNat=j - 1 by omega]
   have:=eV (z:=Y7) g2 (a:=j - 1) (b:=j) (by omega) hj
   rw [decide_eq_false (show ¬ ((cA r t.sets).getD j Y7).slot≤((cA r t.sets).getD (j - 1) Y7).slot by omega)]
   rw [g3 _ (bY hj),g3 _ (bY (show 0<(cA r t.sets).length by omega))]
   simp
  ·rw [decide_eq_false c];rfl
 unfold lA
 dsimp only
 rw [bR.2 hk,bR.2 ht.1.1,bR.2 hr5,decide_eq_true (show ((cA r t.sets).length:Int) ≥ 1 by omega),decide_eq_true (show ((cA r t.sets).length:Int)≤12 by omega),hS,g3 _ (bY (show 0<(cA r t.sets).length by omega))]
 simp
theorem ST {b:Bool} {r:Int} {ms:List Int} {x:GCopyAt} {i:Nat} (hi:i≤ms.length) (h:x ∈ j8 b r ms i):x.region=r:=by
 obtain ⟨j,_,rfl⟩:=xK hi h;rfl
theorem DI {c:GCluster} {ws:List Int} {b:Bool} {x:GCopyAt}:∀ {k:Nat},k≤ws.length→x ∈ mJ c ws b k→x.region ∈ ws
 | 0,_,h=>by cases h
 | k+1,hk,h=>by
  rw [mJ] at h
  rcases List.mem_append.1 h with h | h
  ·exact DI (by omega) h
  ·rw [ST (Nat.le_refl _) h];exact yM hk
theorem ME {c:GCluster} {t:GTx} (h3:t.phase≠3) {x:GCopyAt} (h:x ∈ fF c t):x.region ∈ bG t:=by
 unfold fF at h
 rw [if_neg h3] at h
 split at h
 ·exact DI (Nat.le_refl _) h
 ·split at h
  ·exact DI (Nat.le_refl _) h
  ·split at h
   ·cases h
   ·obtain ⟨r,h1,rfl⟩:=List.mem_map.1 h
    exact h1
theorem RV {xs:List GCell} {sets:List GSet} (h:oK xs sets=true):∀ s ∈ sets,eW (dS xs s).head=false:=fun s hs=>by
 have h:sets.any (rQ xs)=false:=by unfold oK at h;simpa using h
 have:rQ xs s=false:=by
  cases e:rQ xs s with
  | false=>rfl
  | true=>rw [List.any_eq_true.2 ⟨s,hs,e⟩] at h;cases h
 unfold rQ at this
 exact (bV.1 this).1
structure BQ (m m':GMachine) (t t':GTx):Prop where
 mach:cS m'
 alive:m'.alive=m.alive
 has:∀ q,dQ m' q=dQ m q
 same:Same t t'
 stamp:t'.stamp=t.stamp
 phase:t'.phase=t.phase∧t'.done=t.done+1∨t'.phase=8∧t'.done=0
theorem o4 {m m':GMachine} {t:GTx} (h1:cS m') (h2:m'.alive=m.alive) (h3:∀ q,dQ m' q=dQ m q):BQ m m' t (fG t):=⟨h1,h2,h3,⟨rfl,rfl,rfl,rfl⟩,rfl, .inl ⟨rfl,rfl⟩⟩
theorem LQ {m:GMachine} {t:GTx} (h1:cS m):BQ m m t (sG t):=⟨h1,rfl,fun _=>rfl,⟨rfl,rfl,rfl,rfl⟩,rfl, .inr ⟨rfl,rfl⟩⟩
theorem V6 {t:GTx} (ht:dV t) {x:GCopyAt} {n:GNote} {m:GMachine} (hm:cS m) (hx:t.phase≠3→x.region ∈ bG t) (hh:m.alive=true→dQ m x.region=true) (h0:(kH t x n m).1=0) :
  BQ m (kH t x n m).2.1 t (kH t x n m).2.2:=by
 unfold kH at h0 ⊢
 cases ha:m.alive with
 | false=>rw [ha] at h0;cases h0
 | true =>
  rw [ha] at h0
  have hc:=(gM hm (hh ha)).2
  obtain ⟨s1,s2,s3⟩:=rW ht x.region
  simp only [Bool.not_true,cond_false] at h0 ⊢
  by_cases p2:t.phase=2
  ·rw [if_pos p2] at h0 ⊢
   cases e:oK (cellsOf m x.region) (cA x.region t.sets) with
   | false=>exact LQ hm
   | true =>
    rw [e] at h0
    cases e2:decide ((m.log.length:Int)=200) with
    | true=>rw [e2] at h0;cases h0
    | false =>
     refine o4 (IV (kZ hm (LV s1 s2 hc (RV e))) (IK ht (by omega) (hx (by omega))) (of_decide_eq_false e2)) rfl fun q=>j9 _ _ _ _
  rw [if_neg p2] at h0 ⊢
  by_cases p3:t.phase=3
  ·rw [if_pos p3] at h0 ⊢
   cases (bif eW ((cellsOf m x.region).getD n.slot.toNat Y9).head then true else ((cellsOf m x.region).getD n.slot.toNat Y9).head.tdiv 4 != n.version) with
   | true=>exact LQ hm
   | false=>exact o4 hm rfl fun _=>rfl
  rw [if_neg p3] at h0 ⊢
  by_cases p4:t.phase=4
  ·rw [if_pos p4] at h0 ⊢
   cases e2:decide ((m.log.length:Int)=200) with
   | true=>rw [e2] at h0;cases h0
   | false=>exact o4 (IV hm (IK ht (by omega) (hx p3)) (of_decide_eq_false e2)) rfl fun _=>rfl
  rw [if_neg p4] at h0 ⊢
  by_cases p5:t.phase=5
  ·rw [if_pos p5] at h0 ⊢
   exact o4 (UG (kZ hm (DV hc s1)) _ _) rfl fun q=>j9 _ _ _ _
  rw [if_neg p5] at h0 ⊢
  by_cases p6:t.phase=6
  ·rw [if_pos p6] at h0 ⊢
   cases e2:m6 m t.id with
   | false=>rw [e2] at h0;cases h0
   | true =>
    cases x.backup with
    | true=>exact o4 (uX (kZ hm (DV hc s1)) ht.1.1 fun _=>e2) rfl fun q=>j9 _ _ _ _
    | false=>exact o4 (uX hm ht.1.1 fun _=>e2) rfl fun _=>rfl
  rw [if_neg p6] at h0 ⊢
  by_cases p8:0≤pC m t.id x.region 1
  ·rw [if_pos p8] at h0 ⊢
   exact o4 (uX (kZ hm (K6 hc s1)) ht.1.1 fun e=>by cases e) rfl fun q=>j9 _ _ _ _
  ·rw [if_neg p8] at h0 ⊢
   exact o4 hm rfl fun _=>rfl
theorem NQ {c:GCluster} (hok:ClusOk c) {i:Nat} (hi:i<c.txs.length) {y:Int×GTx} {ms:List GMachine} (h1:ms.length=c.machines.length)
  (h2:∀ j,j<ms.length→cS (ms.getD j Y4)∧(ms.getD j Y4).alive=(c.machines.getD j Y4).alive∧∀ q,dQ (ms.getD j Y4) q=dQ (c.machines.getD j Y4) q)
  (h3:c.clock≤y.1∧y.1≤1000000) (hs:Same (c.txs.getD i Y5) y.2) (h4:1≤y.2.phase∧y.2.phase≤9) (h5:0≤y.2.done∧y.2.done≤1000) (h6:0≤y.2.stamp∧y.2.stamp≤y.1):ClusOk (sB c i y ms):=by
 have ht0:=hok.tx hi
 have ht:dV y.2:=by
  obtain ⟨g1,g2,g3⟩:=ht0
  unfold dV m7
  rw [hs.id,hs.home,hs.reads,hs.sets]
  exact ⟨⟨g1.1,g1.2.1,h4,h5,by omega,g1.2.2.2.2.2⟩,g2,g3⟩
 have hget:∀ j,(c.txs.set i y.2).getD j Y5=if j=i then y.2 else c.txs.getD j Y5:=fun j=>gW hi j
 have hid:∀ j,((c.txs.set i y.2).getD j Y5).id=(c.txs.getD j Y5).id:=fun j=>by
  rw [hget];split
  ·rename_i e;subst e;exact hs.id
  ·rfl
 refine ⟨⟨hok.1.1,by show 0≤y.1∧y.1≤1000000;have:=hok.1.2.1;omega,by show 1≤ms.length∧ms.length≤8;rw [h1];exact hok.1.2.2.1,by show (c.txs.set i y.2).length≤60;rw [List.length_set];exact hok.1.2.2.2⟩,hok.2.1,fun j hj=>(h2 j hj).1,fun r hr k hk=>?_,fun j hj=>?_⟩
 ·have g:=hok.2.2.2.1 r hr k hk
  unfold l6 at g ⊢
  have e1:mAt (sB c i y ms) r k=mAt c r k:=rfl
  have e2:(sB c i y ms).machines=ms:=rfl
  rw [e1,e2,h1]
  by_cases c1:mAt c r k ≥ (c.machines.length:Int)
  ·rw [decide_eq_true c1] at g;cases g
  ·have c2:=(hok.at hr hk).1
   obtain ⟨_,q2,q3⟩:=h2 (mAt c r k).toNat (by rw [h1];omega)
   rw [q2,q3];exact g
 ·have hj:j<c.txs.length:=by
   have:j<(c.txs.set i y.2).length:=hj
   rwa [List.length_set] at this
  have g:=hok.2.2.2.2 j hj
  have e2:(sB c i y ms).txs=c.txs.set i y.2:=rfl
  have e3:(sB c i y ms).places=c.places:=rfl
  rw [e2,e3]
  refine ⟨?_,?_,?_⟩
  ·have g1:=g.1
   unfold jQ at g1 ⊢
   rw [e2]
   have e4:(sB c i y ms).machines.length=c.machines.length:=h1
   have e5:(sB c i y ms).clock=y.1:=rfl
   rw [e4,e5]
   obtain ⟨g2,g3⟩:=bV.1 g1
   obtain ⟨g4,g5⟩:=bV.1 g2
   obtain ⟨g6,g7⟩:=bV.1 g4
   rw [hid,hid]
   refine bV.2 ⟨bV.2 ⟨bV.2 ⟨?_,g7⟩,?_⟩,?_⟩
   ·rw [hget];split
    ·rw [dG ht];rfl
    ·exact g6
   ·rw [hget];split
    ·rename_i e;subst e;rw [hs.home];exact g5
    ·exact g5
   ·rw [hget];split
    ·exact decide_eq_false (by omega)
    ·have:=of_decide_eq_false g3
     exact decide_eq_false (by omega)
  ·rw [hget];split
   ·rename_i e;subst e;rw [hs.reads];exact g.2.1
   ·exact g.2.1
  ·rw [hget];split
   ·rename_i e;subst e;rw [hs.sets];exact g.2.2
   ·exact g.2.2
theorem TxIn.same {c:GCluster} {t u:GTx} (h:TxIn c t) (hs:Same t u) (h4:1≤u.phase∧u.phase≤9) (h5:0≤u.done∧u.done≤1000) (h6:0≤u.stamp∧u.stamp≤1000000):TxIn c u:=by
 obtain ⟨⟨g1,g2,g3⟩,hh,hn,hst⟩:=h
 refine ⟨?_,by rw [hs.home];exact hh,by rw [hs.reads];exact hn,by rw [hs.sets];exact hst⟩
 unfold dV m7
 rw [hs.id,hs.home,hs.reads,hs.sets]
 exact ⟨⟨g1.1,g1.2.1,h4,h5,h6,g1.2.2.2.2.2⟩,g2,g3⟩
theorem VI {c:GCluster} (hok:ClusOk c) {i:Nat} (hi:i<c.txs.length):(c.txs.getD i Y5).stamp≤c.clock:=by
 have g1:=(hok.2.2.2.2 i hi).1
 unfold jQ at g1
 have:=of_decide_eq_false (bV.1 g1).2
 omega
structure Mid (c:GCluster) (i:Nat) (y:Int×GTx):Prop where
 tx:TxIn c y.2
 same:Same (c.txs.getD i Y5) y.2
 stop:xU c y.2
 phase:2≤y.2.phase∧y.2.phase≤9
 clock:c.clock≤y.1∧y.1≤1000000
 lock:y.2.phase=2→y.1<1000000
 stamp:0≤y.2.stamp∧y.2.stamp≤y.1
theorem A7 {c:GCluster} (hok:ClusOk c) {i:Nat} (hi:i<c.txs.length) (hp:2≤(c.txs.getD i Y5).phase∧(c.txs.getD i Y5).phase≤9) (hc:c.clock≠1000000):Mid c i (g9 c (c.clock,c.txs.getD i Y5)):=by
 have hx:=hok.txIn hi
 have h1:=hok.1.2.1
 obtain ⟨q1,q2,q3,q4,q5⟩:=BL (c:=c) (n:=8) (y:=(c.clock,c.txs.getD i Y5)) hp (by show 9 - (c.txs.getD i Y5).phase<((8:Nat):Int);omega) hx.ok.1.2.2.2.1 h1 (fun _=>by show c.clock<1000000;omega) ⟨hx.ok.1.2.2.2.2.1.1,VI hok hi⟩
 have hs:Same (c.txs.getD i Y5) (g9 c (c.clock,c.txs.getD i Y5)).2:=AH (y:=(c.clock,c.txs.getD i Y5))
 have q2:(c.txs.getD i Y5).phase≤_∧_:=q2
 have q4:c.clock≤_∧_∧(_→_=c.clock):=q4
 exact ⟨hx.same hs ⟨Int.le_trans (by omega) q2.1,q2.2⟩ q3 ⟨q5.1,Int.le_trans q5.2 q4.2.1⟩,hs,q1,⟨Int.le_trans hp.1 q2.1,q2.2⟩,⟨q4.1,q4.2.1⟩,fun e=>by have:=q4.2.2 e;show (iN c 8 _).1<_;omega,q5⟩
theorem Mid.done {c:GCluster} {i:Nat} {y:Int×GTx} (h:Mid c i y) (hn:¬ (y.2.phase=7∨y.2.phase=9)):0≤y.2.done∧y.2.done.toNat<(fF c y.2).length:=by
 have h1:=h.tx.ok.1.2.2.2.1
 rcases h.stop with e | e | e
 ·exact absurd (.inl e) hn
 ·exact absurd (.inr e) hn
 ·omega
theorem Mid.at {c:GCluster} (hok:ClusOk c) {i:Nat} {y:Int×GTx} (h:Mid c i y) (hn:¬ (y.2.phase=7∨y.2.phase=9)):AtIn c (eG c y.2)∧(y.2.phase≠3→(eG c y.2).region ∈ bG y.2)∧(eG c y.2).machine.toNat<c.machines.length∧0≤(eG c y.2).machine ∧
  ((c.machines.getD (eG c y.2).machine.toNat Y4).alive=true→dQ (c.machines.getD (eG c y.2).machine.toNat Y4) (eG c y.2).region=true):=by
 have hm:eG c y.2 ∈ fF c y.2:=bY (h.done hn).2
 have h1:=UB hok h.tx _ hm
 obtain ⟨j,h2,h3,h4⟩:=h1.at'
 have h5:=hok.at (r:=(eG c y.2).region.toNat) (k:=j) (by have:=h1.region;omega) h2
 rw [← h3,Int.toNat_of_nonneg h1.region.1] at h5
 have h6:=h5.2
 unfold b8 at h6
 rw [← h3] at h6
 exact ⟨h1,fun e=>ME e hm,by omega,h5.1.1,h6⟩
theorem LB {c:GCluster} (hok:ClusOk c) {i:Nat} {y:Int×GTx} (h:Mid c i y) (hn:¬ (y.2.phase=7∨y.2.phase=9)) (h0:(eE c y.2).1=0) :
  BQ (c.machines.getD (eG c y.2).machine.toNat Y4) (eE c y.2).2.1 y.2 (eE c y.2).2.2:=by
 obtain ⟨_,h2,h3,_,h5⟩:=h.at hok hn
 exact V6 h.tx.ok (hok.2.2.1 _ h3) h2 h5 h0
theorem D2 {c:GCluster} (hok:ClusOk c) {i:Nat} {y:Int×GTx} (h:Mid c i y) (hn:¬ (y.2.phase=7∨y.2.phase=9)) {m m':GMachine} {t:GTx} (ha:BQ m m' y.2 t):Mid c i (g9 c (y.1,t)):=by
 have h1:=C6 hok h.tx
 have h2:=h.done hn
 have hp:=h.phase
 have hc:=hok.1.2.1
 have hc2:=h.clock
 have hst:=h.stamp
 have hph:2≤t.phase∧t.phase≤9:=by rcases ha.phase with e | e <;>omega
 have hdn:0≤t.done∧t.done≤1000:=by rcases ha.phase with e | e <;>omega
 have hlk:t.phase=2→y.1<1000000:=fun e=>h.lock (by rcases ha.phase with e2 | e2 <;>omega)
 obtain ⟨q1,q2,q3,q4,q5⟩:=BL (c:=c) (n:=8) (y:=(y.1,t)) hph (by show 9 - t.phase<((8:Nat):Int);omega) hdn (by show 0≤y.1∧y.1≤1000000;omega) hlk (by show 0≤t.stamp∧t.stamp≤y.1;rw [ha.stamp];exact hst)
 have hs:Same t (g9 c (y.1,t)).2:=AH (y:=(y.1,t))
 have q2:t.phase≤_∧_:=q2
 have q4:y.1≤_∧_∧(_→_=y.1):=q4
 exact ⟨h.tx.same (ha.same.trans hs) ⟨Int.le_trans (by omega) q2.1,q2.2⟩ q3 ⟨q5.1,Int.le_trans q5.2 q4.2.1⟩,h.same.trans (ha.same.trans hs),q1,⟨Int.le_trans hph.1 q2.1,q2.2⟩,⟨Int.le_trans hc2.1 q4.1,q4.2.1⟩,
  fun e=>by have:=q4.2.2 e;have e1:(iN c 8 (y.1,t)).2.phase=2:=e;have:=hlk (by omega);show (iN c 8 _).1<_;omega,q5⟩
theorem UY {c:GCluster} (hok:ClusOk c) {i:Nat} (hi:i<c.txs.length) (hp:2≤(c.txs.getD i Y5).phase∧(c.txs.getD i Y5).phase≤9) (hc:c.clock≠1000000) (h0:(fO c i).1=0):ClusOk (fO c i).2:=by
 have h1:=A7 hok hi hp hc
 unfold fO at h0 ⊢
 dsimp only at h0 ⊢
 generalize hy:g9 c (c.clock,c.txs.getD i Y5)=y at h0 h1 ⊢
 by_cases hn:y.2.phase=7∨y.2.phase=9
 ·rw [if_pos hn]
  exact NQ hok hi rfl (fun j hj=>⟨hok.2.2.1 j hj,rfl,fun _=>rfl⟩) h1.clock h1.same (by have:=h1.phase;omega) h1.tx.ok.1.2.2.2.1 h1.stamp
 ·rw [if_neg hn] at h0 ⊢
  by_cases ha:(eE c y.2).1=0
  ·rw [if_pos ha]
   have h2:=LB hok h1 hn ha
   have h3:=D2 hok h1 hn h2
   have h4:=(h1.at hok hn).2.2.1
   refine NQ hok hi (by rw [List.length_set]) (fun j hj=>?_) h3.clock h3.same (by have:=h3.phase;omega) h3.tx.ok.1.2.2.2.1 h3.stamp
   rw [List.length_set] at hj
   rw [gW h4]
   split
   ·rename_i e;subst e;exact ⟨h2.mach,h2.alive,h2.has⟩
   ·exact ⟨hok.2.2.1 j hj,rfl,fun _=>rfl⟩
  ·rw [if_neg ha] at h0
   exact absurd h0 ha
theorem pN {c:GCluster} {id:Int} (h:eQ c id=0):0≤bZ c id∧kQ c id=true∧(bP c id).phase≠1∧(bP c id).phase≠7∧(bP c id).phase≠9:=by
 unfold eQ at h
 cases c1:decide (bZ c id<0) with
 | true=>rw [c1] at h;cases h
 | false =>
  cases c2:kQ c id with
  | false=>rw [c1,c2] at h;cases h
  | true =>
   cases c3:((bP c id).phase == 1) with
   | true=>rw [c1,c2,c3] at h;cases h
   | false =>
    cases c4:((bP c id).phase == 7) with
    | true=>rw [c1,c2,c3,c4] at h;cases h
    | false =>
     cases c5:((bP c id).phase == 9) with
     | true=>rw [c1,c2,c3,c4,c5] at h;cases h
     | false=>exact ⟨by have:=of_decide_eq_false c1;omega,rfl,beq_eq_false_iff_ne.1 c3,beq_eq_false_iff_ne.1 c4,beq_eq_false_iff_ne.1 c5⟩
theorem xW {c:GCluster} (hok:ClusOk c) {id:Int} (h:eQ c id=0):2≤(bP c id).phase∧(bP c id).phase≤9:=by
 obtain ⟨h1,_,h3,_⟩:=pN h
 have:=(hok.tx (fS h1).1).1.2.2.1
 show 2≤(c.txs.getD (bZ c id).toNat Y5).phase∧_
 have h3:(c.txs.getD (bZ c id).toNat Y5).phase≠1:=h3
 exact ⟨by omega,this.2⟩
theorem xL {c:GCluster} (hok:ClusOk c) (id:Int):ClusOk (eF c id).1:=by
 unfold eF
 rw [if_pos hok]
 by_cases h1:eQ c id=0
 ·rw [if_neg (by omega)]
  by_cases h2:c.clock=1000000
  ·rw [if_pos h2];exact hok
  ·rw [if_neg h2]
   by_cases h3:(fO c (bZ c id).toNat).1=0
   ·rw [if_pos h3]
    exact UY hok (fS (pN h1).1).1 (xW hok h1) h2 h3
   ·rw [if_neg h3];exact hok
 ·rw [if_pos h1];exact hok
end
section
theorem VH {α β:Type} (f:α→β) (p:β→Bool) (za:α):∀ xs:List α,b0 p (xs.map f)=b0 (fun x=>p (f x)) xs:=fun xs=>by
 rcases gO (fun x=>p (f x)) za xs with ⟨h1,h2⟩ | ⟨i,h1,h2,h3,h4⟩
 ·rw [h1]
  refine gI (z:=f za) fun j hj=>?_
  rw [List.length_map] at hj
  have:=h2 j hj
  rw [show (xs.map f).getD j (f za)=f (xs.getD j za) from by simp [List.getD_eq_getElem?_getD,hj]]
  exact this
 ·rw [h2]
  refine gH (z:=f za) (by rw [List.length_map];exact h1) (fun j hj=>?_) ?_
  ·rw [show (xs.map f).getD j (f za)=f (xs.getD j za) from by simp [List.getD_eq_getElem?_getD,show j<xs.length by omega]]
   exact h3 j hj
  ·rw [show (xs.map f).getD i (f za)=f (xs.getD i za) from by simp [List.getD_eq_getElem?_getD,h1]]
   exact h4
theorem Q2 {c d:GCluster} (h:d.txs.map GTx.id=c.txs.map GTx.id) (id:Int):bZ d id=bZ c id:=by
 have e:∀ x:GCluster,bZ x id=b0 (· == id) (x.txs.map GTx.id):=fun x=>(VH GTx.id (· == id) Y5 x.txs).symm
 rw [e,e,h]
theorem LK {c:GCluster} {i:Nat} {y:Int×GTx} {ms:List GMachine} (hi:i<c.txs.length) (hs:Same (c.txs.getD i Y5) y.2):(sB c i y ms).txs.map GTx.id=c.txs.map GTx.id:=by
 show (c.txs.set i y.2).map GTx.id=_
 rw [NL,hs.id]
 apply List.ext_getElem
 ·simp
 ·intro j h1 h2
  rw [List.getElem_set]
  split
  ·rename_i e;subst e;simp [hi]
  ·rfl
theorem QK {c:GCluster} (hok:ClusOk c) {i:Nat} (hi:i<c.txs.length) (hp:2≤(c.txs.getD i Y5).phase∧(c.txs.getD i Y5).phase≤9) (hc:c.clock≠1000000):(fO c i).2.txs.map GTx.id=c.txs.map GTx.id:=by
 have h1:=A7 hok hi hp hc
 unfold fO
 dsimp only
 generalize g9 c (c.clock,c.txs.getD i Y5)=y at h1 ⊢
 by_cases hn:y.2.phase=7∨y.2.phase=9
 ·rw [if_pos hn];exact LK hi h1.same
 ·rw [if_neg hn]
  by_cases ha:(eE c y.2).1=0
  ·rw [if_pos ha]
   exact LK hi (D2 hok h1 hn (LB hok h1 hn ha)).same
  ·rw [if_neg ha]
theorem O7 {c:GCluster} (hok:ClusOk c) (id q:Int):bZ (eF c id).1 q=bZ c q:=by
 unfold eF
 rw [if_pos hok]
 by_cases h1:eQ c id=0
 ·rw [if_neg (by omega)]
  by_cases h2:c.clock=1000000
  ·rw [if_pos h2]
  ·rw [if_neg h2]
   by_cases h3:(fO c (bZ c id).toNat).1=0
   ·rw [if_pos h3]
    exact Q2 (QK hok (fS (pN h1).1).1 (xW hok h1) h2) q
   ·rw [if_neg h3]
 ·rw [if_pos h1]
def PR (t:GTx):Bool:=bif t.phase == 7 then true else t.phase == 9
noncomputable def pQ (id:Int):Nat→GCluster→GCluster×Int
 | 0,c=>(c,0)
 | n+1,c=>if (eF c id).2=0 then (if PR (bP (eF c id).1 id)=true then ((eF c id).1,0) else pQ id n (eF c id).1) else (c,(eF c id).2)
open Classical in
noncomputable def kP (c:GCluster) (id:Int):GCluster×Int:=if ClusOk c then pQ id 200 c else (Y6,1)
theorem SK {c:GCluster} {id:Int} {n:Nat} (h:(eF c id).2≠0):pQ id (n+1) c=(c,(eF c id).2):=by rw [pQ,if_neg h]
theorem N4 {id:Int}:∀ {n:Nat} {c:GCluster},ClusOk c→ClusOk (pQ id n c).1
 | 0,c,h=>h
 | n+1,c,h=>by
  rw [pQ]
  split
  ·split
   ·exact xL h id
   ·exact N4 (xL h id)
  ·exact h
theorem MU {c:GCluster} (hok:ClusOk c) {id:Int} (h:eQ c id≠0):kP c id=(c,eQ c id):=by
 have hs:eF c id=(c,eQ c id):=by unfold eF;rw [if_pos hok,if_pos h]
 unfold kP
 rw [if_pos hok,SK (by rw [hs];exact h),hs]
end
section
theorem QP (v:Int) (h:0≤v∧v≤1000000) (u:Bool):Ans Tryz.prog 96 [] [vI v,vB u,vB false] [] (vI (4 * v+(bif u then 2 else 0))):=by
 refine aD Tryz.func96 fun B0 r_ D_ w0=>?_
 refine aE ?_
 refine aA (fun e=>?_) (fun e=>?_)
 ·subst e
  refine aE ?_
  refine bW rfl (fun e=>by cases e) (fun _=>?_)
  refine aE ?_
  exact aI [(6,none)] (rfl)
 ·subst e
  refine aE ?_
  refine bW rfl (fun e=>by cases e) (fun _=>?_)
  refine aE ?_
  exact d8 TT_ok [(6,none)] rfl rfl ((by simp))
theorem K3 (v:Int) (h:0≤v∧v≤1000000) (u:Bool):Ans Tryz.prog 130 [] [vI v,vB u,vB false] [] (vI (4 * v+(bif u then 2 else 0))):=by
 refine aD Tryz.func130 fun B0 r_ D_ w0=>?_
 refine aE ?_
 refine aA (fun e=>?_) (fun e=>?_)
 ·subst e
  refine aE ?_
  refine bW rfl (fun e=>by cases e) (fun _=>?_)
  refine aE ?_
  exact aI [(6,none)] (rfl)
 ·subst e
  refine aE ?_
  refine bW rfl (fun e=>by cases e) (fun _=>?_)
  refine aE ?_
  exact d8 TT_ok [(6,none)] rfl rfl ((by simp))
theorem B9 {ys:List GCell} {s:GSet} (h:cO ys=true) (hs:setB s=true):ys.length=6∧(0≤s.slot∧s.slot≤5)∧(0≤s.version∧s.version≤999999)∧gF (dS ys s).head=true∧0≤(dS ys s).head∧(dS ys s).head≤4000003∧0≤(dS ys s).head.tdiv 4∧(dS ys s).head.tdiv 4≤1000000:=by
 have h1:=eI.1 h
 have h2:=k9.1 hs
 have h3:=(jW.1 (h1.2 _ (AR h1.1 hs))).1
 have h4:gF (dS ys s).head=true:=gZ.2 h3
 rw [nJ h3.1]
 exact ⟨h1.1,h2.2.1,h2.2.2.2,h4,h3.1,h3.2,by omega,by omega⟩
theorem beqN {j i:Nat}:Nat.beq j i=decide (j=i):=by
 by_cases c:j=i
 ·subst c;rw [Nat.beq_refl,decide_eq_true rfl]
 ·rw [decide_eq_false c]
  cases e:Nat.beq j i with
  | false=>rfl
  | true=>exact absurd (Nat.eq_of_beq_eq_true e) c
theorem QO (xs:List GCell) (sets:List GSet) (hl:sets.length≤1048576) (hx:cO xs=true) (hs:∀ s ∈ sets,setB s=true) :
  Con Tryz.prog 97 [900] [.a (.g 900),vL 5 cH Y7 sets] [(900,bE 2 cQ Y9 xs)] (fun _:Unit=>True) (fun _=>[]) fun _=>[(900,bE 2 cQ Y9 (mM xs sets))]:=by
 refine aD Tryz.func97 fun B0 r_ D_ w0=>?_
 refine aE ?_
 refine aJ (ι:=Nat) (fun i=>[(9,vI i)]) (fun i=>[(900,bE 2 cQ Y9 ((sets.take i).foldl jE xs))]) (fun i=>i≤sets.length) (fun i=>sets.length - i) 0 [900] [] (Nat.zero_le _) ?_
 intro i h1
 refine aE ?_
 refine aH (fun e=>?_) (fun e=>?_)
 ·have hi:i<sets.length:=by omega
  have hsb:=hs _ (bY (z:=Y7) hi)
  have hy:cO ((sets.take i).foldl jE xs)=true:=qP (fun _ _=>yK) (fun s h=>hs s (List.mem_of_mem_take h)) hx
  obtain ⟨c1,c2,c3,c4,c5,c6,c7,c8⟩:=B9 hy hsb
  have hF:=n6 (z:=Y7) jE xs hi
  generalize hys:(sets.take i).foldl jE xs=ys at hy c1 c4 c5 c6 c7 c8 hF ⊢
  have hin:InR ((dS ys (sets.getD i Y7)).head.tdiv 4):=GP c5 c6 (by decide)
  unfold dS at c7 c8 hin
  refine aE ?_
  refine aW [] [0,1,2,3,4,5,6,7,8,9] fun B0 H0=>?_
  refine aN ?_
  refine aH (fun e2=>?_) (fun e2=>?_)
  ·refine aE ?_
   exact bF (i+1) hi (by omega) wF ⟨⟨_,rfl,bU (by rw [hF];unfold jE;rw [if_pos (show (dS ys (sets.getD i Y7)).head.tdiv 4 > (sets.getD i Y7).version from e2)])⟩,wM⟩
  ·have hN:jE ys (sets.getD i Y7)=ys.set (sets.getD i Y7).slot.toNat (oO (sets.getD i Y7)):=by unfold jE;rw [if_neg (show ¬ (dS ys (sets.getD i Y7)).head.tdiv 4 > (sets.getD i Y7).version from e2)]
   refine aE ?_
   refine mI TT_ok (QP ((sets.getD i Y7).version+1) ⟨by omega,by omega⟩ _) rfl rfl rfl rfl rfl ?_
   refine aA (fun e3=>?_) (fun e3=>?_)
   ·refine aE ?_
    exact bF (i+1) hi (by omega) wF ⟨⟨_,rfl,by rw [hF,hN];unfold oO;simp only [Int.toNat_natCast] at e3 ⊢;rw [e3];exact bS (OwnI.refl _)⟩,wM⟩
   ·refine aE ?_
    exact bF (i+1) hi (by omega) wF ⟨⟨_,rfl,by rw [hF,hN];unfold oO;simp only [Int.toNat_natCast] at e3 ⊢;rw [e3];exact bS (OwnI.refl _)⟩,wM⟩
 ·have hi:i=sets.length:=by omega
  subst hi
  rw [List.take_length]
  refine rX rfl ?_
  refine lC TT_ok () [] rfl rfl ?_ ?_ ?_
  ·exact ZF _
  ·exact wM
  ·trivial
end
section
theorem gV (h:Int):Ans Tryz.prog 78 [] [vI h] [] (vI (qC h)):=by
 refine aD Tryz.func78 fun B0 r_ D_ w0=>?_
 refine aE ?_
 refine aG (oN _) ?_
 refine eZ rfl (fun e=>?_) (fun e=>?_)
 ·rw [show qC h = -1 from by unfold qC;rw [if_neg (by rw [show gF h=false from e];simp)]]
  refine aE ?_
  exact aI [(2,none)] (rfl)
 ·have hh:=gZ.1 (show gF h=true from e)
  have hv:0≤h.tdiv 4∧h.tdiv 4≤1000000:=by rw [Int.tdiv_eq_ediv_of_nonneg hh.1];omega
  rw [show qC h=h.tdiv 4 from by unfold qC;rw [if_pos (show gF h=true from e)]]
  refine aE ?_
  exact aI [(2,none)] (rfl)
noncomputable def eJ (c:GCluster) (t:GTx) (r s:Int):GTx×Int×Int :=
 bif pZ c r s then (t,0,5) else ((fH c t r s).1,(if (fH c t r s).2.2.2=0 then (fH c t r s).2.2.1 else 0),(fH c t r s).2.2.2)
theorem VJ {t:GTx} {n:GNote} (h1:t.reads.any (dD n.region n.slot)=false) (h2:(bT t n).2=true) (hs:GC t.reads) :
  (0≤b0 (dD n.region n.slot) (bT t n).1.reads∧b0 (dD n.region n.slot) (bT t n).1.reads<(bT t n).1.reads.length)∧lH (bT t n).1 n.region n.slot=n:=by
 have hM:(bT t n).1.reads=fD (oC (B6 n.region n.slot) Y8 t.reads) n t.reads:=by
  unfold bT at h2 ⊢
  rw [h1] at h2 ⊢
  cases d:decide ((t.reads.length:Int)=12) with
  | true=>rw [d] at h2;cases h2
  | false=>rfl
 have hany:(bT t n).1.reads.any (dD n.region n.slot)=true:=by
  rw [hM];exact List.any_eq_true.2 ⟨n,l0.2 (.inl rfl),sO.2 ⟨rfl,rfl⟩⟩
 have h0:=(eY (z:=Y8)).2 hany
 obtain ⟨g1,g2⟩:=lL (z:=Y8) h0
 refine ⟨⟨h0,by omega⟩,?_⟩
 have hmem:lH (bT t n).1 n.region n.slot ∈ (bT t n).1.reads:=bY g1
 rw [hM] at hmem
 rcases l0.1 hmem with h | h
 ·exact h
 ·exact absurd (sO.1 g2) (AO h1 _ h)
theorem yV (c:GCluster) (hb:D.bds eA (bK c)) (hok:ClusOk c) (t:GTx) (ht:dV t) (r s:Int) :
  Con Tryz.prog 225 [78,79] [vR (bK c),FR t 78 79,vI r,vI s] [(78,bE 5 cR Y8 t.reads),(79,bE 5 cH Y7 t.sets)] (fun _:Unit=>True) (fun _=>[FR (eJ c t r s).1 80 81,vI (eJ c t r s).2.1,vI (eJ c t r s).2.2])
   fun _=>[(80,bE 5 cR Y8 (eJ c t r s).1.reads),(81,bE 5 cH Y7 (eJ c t r s).1.sets)]:=by
 have hsS:=sX ht.2.2
 have hsN:=pV ht.2.1
 have hl1:=ht.1.2.2.2.2.2.1
 have hl2:=ht.1.2.2.2.2.2.2
 have hbt:D.bds eA (cTx t):=BX t (by unfold wTx;show _≤1048576;omega)
 have b1:c.places.length≤1048576:=hb.2.2.1.1
 refine aD Tryz.func225 fun B0 r_ D_ w0=>?_
 refine d5 TT_ok rfl ?_
 refine aS 4 fun r_=>?_
 refine aE ?_
 refine aG (cV _ _ _) ?_
 refine aG (oL _) ?_
 refine aA (b:=pZ c r s) (fun e=>?_) (fun e=>?_)
 ·rw [show eJ c t r s=(t,0,5) from by unfold eJ;rw [e];rfl]
  refine aE ?_
  refine a9 (a7 8 4 78) ?_
  refine a9 (aV 8 4 80) ?_
  refine a9 (a7 8 5 79) ?_
  refine a9 (aV 8 5 81) ?_
  refine aC (()) [(8,some 57),(9,none),(10,none)] ?_ ?_ ?_
  ·exact ZF _
  ·exact wM
  ·trivial
 obtain ⟨hr,hs⟩:=yO e
 have hpl:=hok.pl (r:=r.toNat) (by omega)
 have hm:=(hok.at (r:=r.toNat) (k:=0) (by omega) (by omega)).1
 have hq:eJ c t r s=((fH c t r s).1,(if (fH c t r s).2.2.2=0 then (fH c t r s).2.2.1 else 0),(fH c t r s).2.2.2):=by unfold eJ;rw [e];rfl
 rw [hq]
 refine aE ?_
 refine mI TT_ok (CB t (by omega) r s) rfl rfl rfl rfl rfl ?_
 refine aH (fun e1=>?_) (fun e1=>?_)
 ·have hany:t.sets.any (dF r s)=true:=(eY (z:=Y7)).1 e1
  have hin:=lL (z:=Y7) e1
  have hin2:0≤b0 (dF r s) t.sets∧b0 (dF r s) t.sets<t.sets.length:=⟨e1,by omega⟩
  rw [show fH c t r s=(t,(sU t r s).version,(sU t r s).value,nX (sU t r s).used) from by unfold fH;rw [hany];rfl]
  refine aE ?_
  refine aA (b := !(sU t r s).used) (fun e2=>?_) (fun e2=>?_)
  ·rw [show (sU t r s).used=false from by simpa using e2,show nX false=8 from rfl]
   refine aE ?_
   refine a9 (a7 8 4 78) ?_
   refine a9 (aV 8 4 80) ?_
   refine a9 (a7 8 5 79) ?_
   refine a9 (aV 8 5 81) ?_
   refine aC (()) [(8,some 57),(9,none),(10,none)] ?_ ?_ ?_
   ·exact ZF _
   ·exact wM
   ·trivial
  rw [show (sU t r s).used=true from by simpa using e2,show nX true=0 from rfl]
  refine aE ?_
  refine aW [8] [0,1,2,3,4,5,6,7,8,9] fun B0 H0=>?_
  refine bB 7 rfl (by kernel_rfl) (aR (bA ?_))
  refine aY [8,9] ?_
  refine aN ?_
  refine a9 (a7 8 4 78) ?_
  refine a9 (aV 8 4 80) ?_
  refine a9 (a7 8 5 79) ?_
  refine a9 (aV 8 5 81) ?_
  refine aC (()) [(8,some 57),(9,none),(10,none)] ?_ ?_ ?_
  ·exact ZF _
  ·exact wM
  ·trivial
 have hany:t.sets.any (dF r s)=false:=by
  cases h:t.sets.any (dF r s) with
  | false=>rfl
  | true=>exact absurd ((eY (z:=Y7)).2 h) e1
 refine aE ?_
 refine mI TT_ok (tL t (by omega) r s) rfl rfl rfl rfl rfl ?_
 refine aH (fun e2=>?_) (fun e2=>?_)
 ·have hany2:t.reads.any (dD r s)=false:=by
   cases h:t.reads.any (dD r s) with
   | false=>rfl
   | true=>have:=(eY (z:=Y8)).2 h;omega
  have hP:=vZ c hb hok r hr
  refine aE ?_
  cases ha:(b8 c r.toNat 0).alive with
  | false =>
   rw [if_neg (by rw [ha];simp)] at hP
   rw [show fH c t r s=(t,0,0,6) from by unfold fH;rw [hany,hany2,ha];rfl]
   refine aP (hP) fun _ _=>?_
   refine aM ?_
   refine bW rfl (fun _=>?_) (fun e=>by cases e)
   refine aE ?_
   refine a9 (a7 8 4 78) ?_
   refine a9 (aV 8 4 80) ?_
   refine a9 (a7 8 5 79) ?_
   refine a9 (aV 8 5 81) ?_
   refine aC (()) [(8,some 57),(9,none),(10,none)] ?_ ?_ ?_
   ·exact ZF _
   ·exact wM
   ·trivial
  | true =>
   rw [if_pos ha] at hP
   refine aP (hP) fun _ _=>?_
   refine aM ?_
   refine nZ rfl (fun e=>absurd e (by omega)) (fun _=>?_)
   have hhas:=(hok.at (r:=r.toNat) (k:=0) (by omega) (by omega)).2 ha
   rw [Int.toNat_of_nonneg hr.1] at hhas
   have hix:=lL (z:=ZA) ((eY (z:=ZA)).2 (show (b8 c r.toNat 0).copies.any (atB r)=true from hhas))
   have hix2:0≤b0 (atB r) (b8 c r.toNat 0).copies∧b0 (atB r) (b8 c r.toNat 0).copies<(b8 c r.toNat 0).copies.length:=⟨(eY (z:=ZA)).2 hhas,by omega⟩
   obtain ⟨c1,c2,c3⟩:=GT hok hr hs ha
   have hco:=iZ hhas
   have hlen:((b8 c r.toNat 0).copies.getD (b0 (atB r) (b8 c r.toNat 0).copies).toNat ZA).cells.length=6:=by rw [← hco];exact c1
   have hcell:((b8 c r.toNat 0).copies.getD (b0 (atB r) (b8 c r.toNat 0).copies).toNat ZA).cells.getD s.toNat Y9=fB c r s:=by rw [← hco];rfl
   refine WW TT_ok rfl ?_ ?_
   ·exact ⟨⟨hs.1,by rw [hlen];omega⟩,⟨hix2.1,hix2.2⟩,⟨hm.1,hm.2⟩,trivial⟩
   rw [hcell]
   refine aG (mC _) ?_
   refine aA (fun e4=>?_) (fun e4=>?_)
   ·rw [show fH c t r s=(t,0,0,7) from by unfold fH;rw [hany,hany2,ha,e4];rfl]
    refine aE ?_
    refine a9 (a7 8 4 78) ?_
    refine a9 (aV 8 4 80) ?_
    refine a9 (a7 8 5 79) ?_
    refine a9 (aV 8 5 81) ?_
    refine aC (()) [(8,some 57),(9,none),(10,none)] ?_ ?_ ?_
    ·exact ZF _
    ·exact wM
    ·trivial
   have hN:=IP hok hr hs ha
   have hAM:c9 t (dJ c r s)=if (bT t (dJ c r s)).2=true then ((bT t (dJ c r s)).1,true) else (Y5,false):=by
    unfold c9
    by_cases h2:(bT t (dJ c r s)).2=true
    ·rw [if_pos ⟨ht,hN,h2⟩,if_pos h2]
    ·rw [if_neg fun h=>h2 h.2.2,if_neg h2]
   refine aE ?_
   refine dC (ι:=Unit) (fun _=>[(16, .a (.p 16 0)),(17,vB (c9 t (dJ c r s)).2)]) (fun _=>[(16, .row (r7 (c9 t (dJ c r s)).1 161 162)),(161,bE 5 cR Y8 (c9 t (dJ c r s)).1.reads),(162,bE 5 cH Y7 (c9 t (dJ c r s)).1.sets)]) (fun _=>True) [] [] rfl rfl ?_ ?_
   ·refine aW [] [0,1,2,3,4,6,7,8,9,5,10,11,12,13,14,15,16,17,18] fun B0 H0=>?_
    refine f6 5 (gV _) rfl rfl rfl (ZF _) rfl ?_
    rw [show qC (fB c r s).head=(fB c r s).head.tdiv 4 from by unfold qC;rw [if_pos c2]]
    refine f6 10 (qY _) rfl rfl rfl (ZF _) rfl ?_
    refine aY [11,12,13,14,15,16,17,18] ?_
    refine cZ 12 16 rfl rfl (by kernel_rfl) (iV (ZG 901 161 (ZG 902 162 (j0 t hbt (dJ c r s)))) rfl rfl (ZF _) (fun _=>rfl) rfl rfl rfl (fun _ _=>bA ?_)) (aR (bA ?_))
    ·refine aY [13,14,15,16,17,18] ?_
     refine bB 16 rfl (by kernel_rfl) (aR (bA ?_))
     refine bB 17 rfl (by kernel_rfl) (aR (bA ?_))
     refine aY [18] ?_
     refine aN ?_
     exact aK () trivial Nat.zero_lt_one
    ·skip
     refine aX 12 (ZG 901 161 (ZG 902 162 (j0 t hbt (dJ c r s)))) fun _ _=>?_
     refine aY [13,14,15,17,18] ?_
     refine bB 17 rfl (by kernel_rfl) (aR (bA ?_))
     refine aY [18] ?_
     refine aN ?_
     exact aK () trivial Nat.zero_lt_one
   rintro ⟨⟩ _
   refine aT ?_
   cases h2:(bT t (dJ c r s)).2 with
   | false =>
    rw [show c9 t (dJ c r s)=(Y5,false) from by rw [hAM,h2];rfl]
    rw [show fH c t r s=(t,0,0,9) from by unfold fH;rw [hany,hany2,ha,e4,h2];rfl]
    refine bW rfl (fun _=>?_) (fun e=>by cases e)
    refine aE ?_
    refine a9 (a7 8 4 78) ?_
    refine a9 (aV 8 4 80) ?_
    refine a9 (a7 8 5 79) ?_
    refine a9 (aV 8 5 81) ?_
    refine aC (()) [(8,some 57),(9,none),(10,none)] ?_ ?_ ?_
    ·exact ZF _
    ·exact wM
    ·trivial
   | true =>
    obtain ⟨g1,g2⟩:=VJ (n:=dJ c r s) hany2 h2 hsN
    have g3:=(sM ht hN).1.1.2.2.2.2.2.1
    have g1:0≤b0 (dD r s) (bT t (dJ c r s)).1.reads∧b0 (dD r s) (bT t (dJ c r s)).1.reads<(bT t (dJ c r s)).1.reads.length:=g1
    have g4:(bT t (dJ c r s)).1.sets=t.sets:=AC _ _
    rw [show c9 t (dJ c r s)=((bT t (dJ c r s)).1,true) from by rw [hAM,h2];rfl]
    rw [show fH c t r s=((bT t (dJ c r s)).1,(dJ c r s).version,(dJ c r s).value,nX (dJ c r s).used) from by unfold fH;rw [hany,hany2,ha,e4,h2];rfl]
    refine bW rfl (fun e=>by cases e) (fun _=>?_)
    refine aE ?_
    refine mI TT_ok (tL (bT t (dJ c r s)).1 (by omega) r s) rfl rfl rfl rfl rfl ?_
    unfold lH at g2
    rw [show (dJ c r s).region=r from rfl,show (dJ c r s).slot=s from rfl] at g2
    rw [g2]
    refine aA (b := !(dJ c r s).used) (fun e5=>?_) (fun e5=>?_)
    ·rw [show (dJ c r s).used=false from by simpa using e5,show nX false=8 from rfl]
     refine aE ?_
     refine a9 (a7 8 4 161) ?_
     refine a9 (aV 8 4 80) ?_
     refine a9 (a7 8 5 162) ?_
     refine a9 (aV 8 5 81) ?_
     refine aC (()) [(8,some 57),(9,none),(10,none)] ?_ ?_ ?_
     ·exact ZF _
     ·exact wM
     ·trivial
    rw [show (dJ c r s).used=true from by simpa using e5,show nX true=0 from rfl]
    refine aE ?_
    refine aW [8] [0,1,2,3,4,5,6,7,8,9] fun B0 H0=>?_
    refine bB 7 rfl (by kernel_rfl) (aR (bA ?_))
    refine aY [8,9] ?_
    refine aN ?_
    rw [g2]
    refine a9 (a7 8 4 161) ?_
    refine a9 (aV 8 4 80) ?_
    refine a9 (a7 8 5 162) ?_
    refine a9 (aV 8 5 81) ?_
    refine aC (()) [(8,some 57),(9,none),(10,none)] ?_ ?_ ?_
    ·exact ZF _
    ·exact wM
    ·trivial
 have hany2:t.reads.any (dD r s)=true:=(eY (z:=Y8)).1 (by omega)
 have hin:=lL (z:=Y8) (show 0≤b0 (dD r s) t.reads by omega)
 have hin2:0≤b0 (dD r s) t.reads∧b0 (dD r s) t.reads<t.reads.length:=⟨by omega,by omega⟩
 rw [show fH c t r s=(t,(lH t r s).version,(lH t r s).value,nX (lH t r s).used) from by unfold fH;rw [hany,hany2];rfl]
 refine aE ?_
 refine aA (b := !(lH t r s).used) (fun e5=>?_) (fun e5=>?_)
 ·rw [show (lH t r s).used=false from by simpa using e5,show nX false=8 from rfl]
  refine aE ?_
  refine a9 (a7 8 4 78) ?_
  refine a9 (aV 8 4 80) ?_
  refine a9 (a7 8 5 79) ?_
  refine a9 (aV 8 5 81) ?_
  refine aC (()) [(8,some 57),(9,none),(10,none)] ?_ ?_ ?_
  ·exact ZF _
  ·exact wM
  ·trivial
 rw [show (lH t r s).used=true from by simpa using e5,show nX true=0 from rfl]
 refine aE ?_
 refine aW [8] [0,1,2,3,4,5,6,7,8,9] fun B0 H0=>?_
 refine bB 7 rfl (by kernel_rfl) (aR (bA ?_))
 refine aY [8,9] ?_
 refine aN ?_
 refine a9 (a7 8 4 78) ?_
 refine a9 (aV 8 4 80) ?_
 refine a9 (a7 8 5 79) ?_
 refine a9 (aV 8 5 81) ?_
 refine aC (()) [(8,some 57),(9,none),(10,none)] ?_ ?_ ?_
 ·exact ZF _
 ·exact wM
 ·trivial
theorem MK (c:GCluster) (hb:D.bds eA (bK c)) (id r s:Int):VP Tryz.prog 210 [vR (bK c),vI id,vI r,vI s] (mQ c id r s).1 (mQ c id r s).2.1 (mQ c id r s).2.2:=by
 have b3:c.txs.length≤1048576:=hb.2.2.2.2.1.1
 refine aD Tryz.func210 fun B0 r_ D_ w0=>?_
 refine d5 TT_ok rfl ?_
 refine aS 4 fun r_=>?_
 refine aE ?_
 refine aP (uN c hb id) fun _ _=>?_
 refine aM ?_
 by_cases hok:ClusOk c
 ·by_cases h0:cY c id=0
  ·have hge:=(jY h0).2.2
   have hlt:=lT (c:=c) (id:=id)
   have hin:=fS hge
   have ht:=hok.tx hin.1
   rw [show mQ c id r s=(pP c id (eJ c (bP c id) r s).1,(eJ c (bP c id) r s).2.1,(eJ c (bP c id) r s).2.2) from by
    unfold mQ eJ
    rw [if_pos hok,if_pos h0]
    cases pZ c r s with
    | true =>
     have hp:pP c id (bP c id)=c:=by
      unfold pP
      have:c.txs.set (bZ c id).toNat (bP c id)=c.txs:=by
       unfold bP
       rw [show c.txs.getD (bZ c id).toNat Y5=c.txs[(bZ c id).toNat]'hin.1 from by simp [hin.1]]
       exact List.set_getElem_self hin.1
      rw [this]
     show (c,(0:Int),(5:Int))=(pP c id (bP c id),0,5)
     rw [hp]
    | false=>rfl]
   rw [show gA c id=(bZ c id,0) from by unfold gA;rw [if_pos hok,if_pos h0]]
   refine bW rfl (fun e=>by cases e) (fun _=>?_)
   refine aE ?_
   refine aP (ZG 901 6001 (ZG 902 6002 (ZG 903 6003 (gR c hb)))) fun _ _=>?_
   refine aM ?_
   refine a9 (d6 6003 (bZ c id) 77 rfl rfl rfl rfl rfl rfl ⟨hge,hlt⟩) ?_
   refine a9 (aV 77 4 78) ?_
   refine a9 (aV 77 5 79) ?_
   refine dC (ι:=Unit) (fun _=>[(16, .a (.p 16 0)),(17,vI (eJ c (bP c id) r s).2.1),(12,vI (eJ c (bP c id) r s).2.2)]) (fun _=>[(16, .row (r7 (eJ c (bP c id) r s).1 80 81)),(80,bE 5 cR Y8 (eJ c (bP c id) r s).1.reads),(81,bE 5 cH Y7 (eJ c (bP c id) r s).1.sets)]) (fun _=>True) [78,79] [] rfl rfl ?_ ?_
   ·refine aW [78,79] [0,1,2,3,4,6,7,5,8,9,10,11,12,13,14,15,16] fun B0 H0=>?_
    refine vF (uZ 41 rfl rfl rfl) ?_
    refine aY [5,8,9,10,11,12,13,14,15,16] ?_
    refine cZ 8 13 rfl rfl (by kernel_rfl) (iV (yV c hb hok (bP c id) ht r s) rfl rfl (ZF _) (fun _=>rfl) rfl rfl rfl (fun _ _=>bA ?_)) (aR (bA ?_))
    ·refine aY [9,10,11,12,13,14,15,16] ?_
     refine bB 13 rfl (by kernel_rfl) (aR (bA ?_))
     refine bB 14 rfl (by kernel_rfl) (aR (bA ?_))
     refine aY [15,16] ?_
     refine aN ?_
     exact aK () trivial Nat.zero_lt_one
    ·skip
     refine aX 8 (yV c hb hok (bP c id) ht r s) fun _ _=>?_
     refine aY [9,10,11,12,14,15,16] ?_
     refine bB 14 rfl (by kernel_rfl) (aR (bA ?_))
     refine aY [15,16] ?_
     refine aN ?_
     exact aK () trivial Nat.zero_lt_one
   rintro ⟨⟩ _
   refine aT ?_
   refine cK (j6 53 rfl rfl rfl) ?_
   refine aM ?_
   refine a9 (a7 77 4 80) ?_
   refine a9 (a7 77 5 81) ?_
   refine a9 (aZ 6003 77) ?_
   refine a9 (bH 6001 901) ?_
   refine a9 (bH 6002 902) ?_
   refine a9 (bH 6003 903) ?_
   refine aC (()) [(8,some 33),(9,none),(10,none)] ?_ ?_ ?_
   ·exact ZF _
   ·exact ⟨⟨_,rfl,ZE _⟩,⟨_,rfl,ZE _⟩,⟨_,rfl,bS (OwnI.refl _)⟩,trivial⟩
   ·trivial
  ·rw [show mQ c id r s=(c,0,cY c id) from by unfold mQ;rw [if_pos hok,if_neg h0]]
   rw [show gA c id=(-1,cY c id) from by unfold gA;rw [if_pos hok,if_neg h0]]
   refine iJ rfl (fun e=>?_) (fun e=>absurd e h0)
   refine aE ?_
   have h1:cY c id≠1:=by
    unfold cY
    cases decide (bZ c id<0) <;>cases kQ c id <;>cases (bP c id).phase == 1 <;>decide
   refine aP (j7 c hb (cY c id) h1) fun _ _=>?_
   refine aM ?_
   refine aC (()) [(8,some 33),(9,none),(10,none)] ?_ ?_ ?_
   ·exact ZF _
   ·exact wM
   ·trivial
 ·rw [show mQ c id r s=(Y6,0,1) from if_neg hok]
  rw [show gA c id=(-1,1) from if_neg hok]
  refine bW rfl (fun _=>?_) (fun e=>by cases e)
  refine aE ?_
  refine aP (o8 c) fun _ _=>?_
  refine aM ?_
  refine aC (()) [(8,some 33),(9,none),(10,none)] ?_ ?_ ?_
  ·exact ZF _
  ·exact wM
  ·trivial
end
section
theorem qZ (xs:List GCell) (sets:List GSet) (hl:sets.length≤1048576) (hx:cO xs=true) (hs:∀ s ∈ sets,setB s=true) :
  Con Tryz.prog 80 [900] [.a (.g 900),vL 5 cH Y7 sets] [(900,bE 2 cQ Y9 xs)] (fun _:Unit=>True) (fun _=>[]) fun _=>[(900,bE 2 cQ Y9 (mM xs sets))]:=by
 refine aD Tryz.func80 fun B0 r_ D_ w0=>?_
 refine aE ?_
 refine aJ (ι:=Nat) (fun i=>[(4,vI i)]) (fun i=>[(900,bE 2 cQ Y9 ((sets.take i).foldl jE xs))]) (fun i=>i≤sets.length) (fun i=>sets.length - i) 0 [900] [] (Nat.zero_le _) ?_
 intro i h1
 refine aE ?_
 refine aH (fun e=>?_) (fun e=>?_)
 ·have hi:i<sets.length:=by omega
  have hsb:=hs _ (bY (z:=Y7) hi)
  have hy:cO ((sets.take i).foldl jE xs)=true:=qP (fun _ _=>yK) (fun s h=>hs s (List.mem_of_mem_take h)) hx
  obtain ⟨c1,c2,c3,c4,c5,c6,c7,c8⟩:=B9 hy hsb
  have hF:=n6 (z:=Y7) jE xs hi
  generalize hys:(sets.take i).foldl jE xs=ys at hy c1 c4 c5 c6 c7 c8 hF ⊢
  have hV:=GW c4
  unfold dS at c7 c8 hV
  refine aE ?_
  refine aW [] [0,1,2,3,4,5,7,8,6,9] fun B0 H0=>?_
  refine f6 6 (gV _) rfl rfl rfl (ZF _) rfl ?_
  refine aY [9] ?_
  refine aN ?_
  refine aH (fun e2=>?_) (fun e2=>?_)
  ·simp only [Int.toNat_natCast] at e2
   rw [hV] at e2
   refine aE ?_
   exact bF (i+1) hi (by omega) wF ⟨⟨_,rfl,bU (by rw [hF];unfold jE;rw [if_pos (show (dS ys (sets.getD i Y7)).head.tdiv 4 > (sets.getD i Y7).version from e2)])⟩,wM⟩
  ·simp only [Int.toNat_natCast] at e2
   rw [hV] at e2
   have hN:jE ys (sets.getD i Y7)=ys.set (sets.getD i Y7).slot.toNat (oO (sets.getD i Y7)):=by unfold jE;rw [if_neg (show ¬ (dS ys (sets.getD i Y7)).head.tdiv 4 > (sets.getD i Y7).version from e2)]
   refine aE ?_
   refine eZ rfl (fun e3=>?_) (fun e3=>?_)
   ·refine aE ?_
    refine aW [] [0,1,2,3,4,5,6,7,9,8,10,11,12] fun B0 H0=>?_
    refine f6 8 (K3 ((sets.getD i Y7).version+1) ⟨by omega,by omega⟩ _) rfl rfl rfl (ZF _) rfl ?_
    refine aY [10,11,12] ?_
    refine d7 12 rfl (by kernel_rfl) (by kernel_rfl) (aR (eX [] fun B0 H0=>?_))
    refine aN ?_
    exact bF (i+1) hi (by omega) wF ⟨⟨_,rfl,by rw [hF,hN];unfold oO;simp only [Int.toNat_natCast] at e3 ⊢;rw [e3];exact bS (OwnI.refl _)⟩,wM⟩
   ·refine aE ?_
    refine aW [] [0,1,2,3,4,5,6,7,9,8,10,11,12] fun B0 H0=>?_
    refine f6 8 (K3 ((sets.getD i Y7).version+1) ⟨by omega,by omega⟩ _) rfl rfl rfl (ZF _) rfl ?_
    refine aY [10,11,12] ?_
    refine d7 12 rfl (by kernel_rfl) (by kernel_rfl) (aR (eX [] fun B0 H0=>?_))
    refine aN ?_
    exact bF (i+1) hi (by omega) wF ⟨⟨_,rfl,by rw [hF,hN];unfold oO;simp only [Int.toNat_natCast] at e3 ⊢;rw [e3];exact bS (OwnI.refl _)⟩,wM⟩
 ·have hi:i=sets.length:=by omega
  subst hi
  rw [List.take_length]
  refine rX rfl ?_
  refine lC TT_ok () [] rfl rfl ?_ ?_ ?_
  ·exact ZF _
  ·exact wM
  ·trivial
theorem E3 (xs:List GCell) (sets:List GSet) (hl:sets.length≤1048576) (hx:cO xs=true) (hs:∀ s ∈ sets,setB s=true) :
  Con Tryz.prog 242 [900] [.a (.g 900),vL 5 cH Y7 sets] [(900,bE 2 cQ Y9 xs)] (fun _:Unit=>True) (fun _=>[]) fun _=>[(900,bE 2 cQ Y9 (sI xs sets))]:=by
 refine aD Tryz.func242 fun B0 r_ D_ w0=>?_
 refine aE ?_
 refine aJ (ι:=Nat) (fun i=>[(4,vI i)]) (fun i=>[(900,bE 2 cQ Y9 ((sets.take i).foldl rH xs))]) (fun i=>i≤sets.length) (fun i=>sets.length - i) 0 [900] [] (Nat.zero_le _) ?_
 intro i h1
 refine aE ?_
 refine aH (fun e=>?_) (fun e=>?_)
 ·have hi:i<sets.length:=by omega
  have hsb:=hs _ (bY (z:=Y7) hi)
  have hy:cO ((sets.take i).foldl rH xs)=true:=qP (fun _ _=>LN) (fun s h=>hs s (List.mem_of_mem_take h)) hx
  obtain ⟨c1,c2,c3,c4,c5,c6,c7,c8⟩:=B9 hy hsb
  have hF:=n6 (z:=Y7) rH xs hi
  generalize hys:(sets.take i).foldl rH xs=ys at hy c1 c4 c5 c6 c7 c8 hF ⊢
  have hV:=GW c4
  have hin:InR ((dS ys (sets.getD i Y7)).head.tdiv 2):=GP c5 c6 (by decide)
  have hD:=nJ (b:=2) c5
  have hin2:InR ((dS ys (sets.getD i Y7)).head.tdiv 2 * 2):=by rw [hD];unfold InR;omega
  unfold dS at c7 c8 hV hin hin2
  unfold InR at hin hin2
  refine aE ?_
  refine aW [] [0,2,3,4,5,6,1,7] fun B0 H0=>?_
  refine f6 1 (gV _) rfl rfl rfl (ZF _) rfl ?_
  refine aY [7] ?_
  refine aN ?_
  refine aO (fun e2=>?_) (fun e2=>?_)
  ·simp only [Int.toNat_natCast] at e2
   rw [hV] at e2
   have hN:rH ys (sets.getD i Y7)=ys.set (sets.getD i Y7).slot.toNat ⟨(dS ys (sets.getD i Y7)).head.tdiv 2 * 2,(dS ys (sets.getD i Y7)).value⟩:=by unfold rH;rw [if_pos (show (dS ys (sets.getD i Y7)).head.tdiv 4=(sets.getD i Y7).version from e2)]
   refine aE ?_
   exact bF (i+1) hi (by omega) wF ⟨⟨_,rfl,by rw [hF,hN];unfold dS;simp only [Int.toNat_natCast];exact bS (OwnI.refl _)⟩,wM⟩
  ·simp only [Int.toNat_natCast] at e2
   rw [hV] at e2
   refine aE ?_
   exact bF (i+1) hi (by omega) wF ⟨⟨_,rfl,bU (by rw [hF];unfold rH;rw [if_neg (show ¬ (dS ys (sets.getD i Y7)).head.tdiv 4=(sets.getD i Y7).version from e2)])⟩,wM⟩
 ·have hi:i=sets.length:=by omega
  subst hi
  rw [List.take_length]
  refine rX rfl ?_
  refine lC TT_ok () [] rfl rfl ?_ ?_ ?_
  ·exact ZF _
  ·exact wM
  ·trivial
def yF (xs:List GCell) (sets:List GSet):List GCell:=bif oK xs sets then sV xs sets else xs
end
section
def vG (tx r:Int) (xs:List GRecord) (i j:Nat):GRecord:=if j<i then rB tx r (xs.getD j ZB) else xs.getD j ZB
theorem yA {tx r:Int} {xs:List GRecord} {i:Nat}:vG tx r xs i i=xs.getD i ZB:=if_neg (Nat.lt_irrefl i)
theorem JU {tx r:Int} {xs:List GRecord} {i j:Nat} (h:j≠i):vG tx r xs (i+1) j=vG tx r xs i j:=by
 unfold vG
 by_cases c:j<i
 ·rw [if_pos c,if_pos (by omega)]
 ·rw [if_neg c,if_neg (by omega)]
theorem FK {tx r:Int} {xs:List GRecord} {i:Nat}:vG tx r xs (i+1) i=rB tx r (xs.getD i ZB):=if_pos (Nat.lt_succ_self i)
end
section
theorem WV (xs:List Int) (hl:xs.length≤1000) (hs:xs.Pairwise (· < ·)) (n:Int):Con Tryz.prog 248 [900] [.a (.g 900),vI n] [(900,bE 1 bL 0 xs)] (fun _:Unit=>True) (fun _=>[.a (.g 901)]) fun _=>[(901,bE 1 bL 0 (q8 xs n))]:=by
 refine aD Tryz.func248 fun B0 r_ D_ w0=>?_
 refine aE ?_
 refine mI TT_ok (kJ xs (by omega) n) rfl rfl rfl rfl rfl ?_
 by_cases c:n ∈ xs
 ·rw [decide_eq_true c]
  refine bW rfl (fun _=>?_) (fun e=>by cases e)
  refine aE ?_
  refine a9 (V_ren 4 900 901 rfl rfl rfl rfl rfl rfl) ?_
  refine aC (()) [(4,none)] ?_ ?_ ?_
  ·exact ZF _
  ·exact ⟨⟨_,rfl,bU (by unfold q8;rw [if_pos c])⟩,trivial⟩
  ·trivial
 rw [decide_eq_false c]
 refine bW rfl (fun e=>by cases e) (fun _=>?_)
 refine aE ?_
 refine aL 33 (fun i=>bL (([]:List Int).getD i 0)) (fun i hi=>absurd hi (Nat.not_lt_zero _)) (mu1:=[]) ?_
 refine aM ?_
 refine cW (ι:=Nat) (fun i=>[(6,vI i),(5, .a (.g 33))]) (fun i=>[(33,bE 1 bL 0 (xs.take i))]) (fun i=>i≤xs.length∧∀ a,a<i→wR n (xs.getD a 0)<0) (fun i=>xs.length - i) 0 [33] [33] rfl rfl ⟨Nat.zero_le _,fun a ha=>absurd ha (Nat.not_lt_zero _)⟩ wF ⟨⟨_,rfl,bU (sz:=1) (enc:=bL) (z:=0) (xs:=[]) rfl⟩,wM⟩ ?_
 intro i ⟨h1,h2⟩
 refine aE ?_
 refine aA (fun e3=>?_) (fun e3=>?_)
 ·have hi:i<xs.length:=by
   rcases Nat.lt_or_ge i xs.length with h | h
   ·exact h
   ·rw [decide_eq_false (by omega)] at e3;cases e3
  have hlt:(xs.take i).length=i:=by rw [List.length_take];omega
  rw [decide_eq_true (by omega)] at e3
  have e4:xs.getD i 0<n:=of_decide_eq_true e3
  refine aE ?_
  refine cJ TT_ok 66 (fun _=>bL (xs.getD i 0)) rfl rfl rfl rfl rfl rfl rfl (fun i hi=>by rcases i with _ | i <;>first | rfl | omega) (mu1:=[]) rfl rfl rfl ?_
  refine aM ?_
  refine cL TT_ok 33 66 67 rfl rfl rfl rfl rfl rfl rfl rfl rfl rfl rfl rfl ⟨by show ((xs.take i).length+1) * 8≤_;omega,by unfold maxL;omega⟩ ?_
  refine aM ?_
  refine bC (bH 33 67) ?_
  refine bF (i+1) ⟨hi,fun a ha=>?_⟩ (by omega) wF ⟨⟨_,rfl,cX (x:=xs.getD i 0) (b7 hi) rfl⟩,wM⟩
  by_cases c:a<i
  ·exact h2 a c
  ·have:a=i:=by omega
   subst this
   unfold wR;omega
 have hc:lD (wR n) 0 xs i:=⟨h1,h2,fun a ha hb2 hlt=>by
  have h3:=CP hs n i a ha hb2 hlt
  rw [decide_eq_true (by omega)] at e3
  have e4:¬ xs.getD i 0<n:=of_decide_eq_false e3
  unfold wR at h3
  omega⟩
 have hM:q8 xs n=fD i n xs:=by unfold q8;rw [if_neg c,tB hc]
 have hlt:(xs.take i).length=i:=by rw [List.length_take];omega
 rw [hM]
 refine aE ?_
 refine JD 5 33 rfl rfl fun cp _=>?_
 refine aW [33] [0,1,4,5,6,7,2,3,8,9] fun B0 H0=>?_
 refine bB 2 rfl (by kernel_rfl) (dK TT_ok 70 (fun _=>bL n) rfl rfl rfl rfl rfl rfl rfl (fun j hj=>by rcases j with _ | j <;>first | rfl | omega) (mu1:=[]) rfl rfl rfl (bA ?_))
 refine bB 3 rfl (by kernel_rfl) (dE TT_ok 33 70 71 rfl rfl rfl rfl rfl rfl rfl rfl rfl rfl rfl rfl ⟨by show ((xs.take i).length+1) * 8≤_;omega,by unfold maxL;omega⟩ (bA ?_))
 refine bB 8 rfl (by kernel_rfl) (nN TT_ok 71 77 rfl rfl rfl rfl rfl rfl rfl rfl rfl rfl rfl rfl ⟨by show ((xs.take i).length+1+_) * 8≤_;omega,by unfold maxL;omega⟩ (hob:=⟨rfl,⟨by omega,by omega,by omega⟩,trivial⟩) (bA ?_))
 refine aY [9] ?_
 refine aN ?_
 refine a9 (bH 77 901) ?_
 refine aC (()) [(4,none)] ?_ ?_ ?_
 ·exact ZF _
 ·exact ⟨⟨_,rfl,x9 h1⟩,trivial⟩
 ·trivial
theorem SM (m:GMachine) (hl:m.log.length≤1048576) (tx r:Int) :
  Con Tryz.prog 239 [900,902] [.a (.p 900 0),vI tx,vI r] [(900, .rrow (sA m 901 902 903)),(902,bE 4 cM ZB m.log)] (fun _:Unit=>True) (fun _=>[]) fun _=>[(902,bE 4 cM ZB (m.log.map (rB tx r)))]:=by
 refine aD Tryz.func239 fun B0 r_ D_ w0=>?_
 refine aE ?_
 refine cW (ι:=Nat) (fun i=>[(6,vI i)]) (fun i=>[(902, .arr 4 m.log.length fun j=>cM (vG tx r m.log i j))]) (fun i=>i≤m.log.length) (fun i=>m.log.length - i) 0 [902] [] rfl rfl (Nat.zero_le _) wF ⟨⟨_,rfl,Ch.imp_arr fun j hj=>by rw [vG,if_neg (Nat.not_lt_zero _)]⟩,wM⟩ ?_
 intro i h1
 refine aE ?_
 refine aH (fun e=>?_) (fun e=>?_)
 ·have hi:i<m.log.length:=by omega
  refine aE ?_
  refine aA (fun e2=>?_) (fun e2=>?_)
  ·simp only [Int.toNat_natCast,yA] at e2
   have hF:rB tx r (m.log.getD i ZB)=⟨3,(m.log.getD i ZB).tx,(m.log.getD i ZB).region,(m.log.getD i ZB).sets⟩:=by unfold rB;rw [if_pos (show sT tx r 1 _=true from e2)]
   refine aE ?_
   exact bF (i+1) hi (by omega) wF ⟨⟨_,rfl,Ch.imp_arr fun j hj=>by
    by_cases c:j=i
    ·subst c
     simp only [Int.toNat_natCast,Nat.beq_refl,cond_true,yA,FK,hF]
     rfl
    ·rw [JU c,beqN,decide_eq_false (by rw [Int.toNat_natCast];exact c)]
     rfl⟩,wM⟩
  ·simp only [Int.toNat_natCast,yA] at e2
   have hF:rB tx r (m.log.getD i ZB)=m.log.getD i ZB:=by unfold rB;rw [if_neg (fun h=>by have:=(show sT tx r 1 _=false from e2).symm.trans h;cases this)]
   refine aE ?_
   exact bF (i+1) hi (by omega) wF ⟨⟨_,rfl,Ch.imp_arr fun j hj=>by
    by_cases c:j=i
    ·subst c;rw [FK,hF,yA]
    ·rw [JU c]⟩,wM⟩
 ·have hi:i=m.log.length:=by omega
  subst hi
  refine rX rfl ?_
  refine lC TT_ok () [] rfl rfl ?_ ?_ ?_
  ·exact ZF _
  ·refine ⟨⟨_,rfl,Ch.imp_len (List.length_map _).symm fun j hj=>?_⟩,trivial⟩
   rw [vG,if_pos hj]
   congr 1
   simp [List.getD_eq_getElem?_getD,hj]
  ·trivial
def m8 (f:Nat→Nat→Value) (tx r:Int) (i:Nat):Bool := !(bif nI (f i 1) == tx then nI (f i 2) == r else false)
theorem R9 (al:Bool) (n:Nat) (hl:n≤1000000) (f:Nat→Nat→Value) (cl:List Int) (hc:cl.length≤1000) (hs:cl.Pairwise (· < ·)) (tx r:Int) (d:Bool) :
  Con Tryz.prog 240 [902,900,901,903] [.a (.p 900 0),vI tx,vI r,vB d] [(902, .arr 4 n (GH f)),(900, .row [.v (.bool al), .g 901, .g 902, .g 903]),(903,bE 1 bL 0 cl)] (fun _:Unit=>True) (fun _=>[])
   fun _=>[(904, .arr 4 ((List.range n).filter (m8 f tx r)).length fun j=>GH f (((List.range n).filter (m8 f tx r)).getD j 0)),(900, .row [.v (.bool al), .g 901, .g 904, .g 905]),(905,bE 1 bL 0 (bif d then q8 cl tx else cl))]:=by
 have hR:(List.range n).length=n:=List.length_range
 refine aD Tryz.func240 fun B0 r_ D_ w0=>?_
 refine aE ?_
 refine aL 33 (fun j=>GH f ((([]:List Nat).filter (m8 f tx r)).getD j 0)) (fun i hi=>absurd hi (Nat.not_lt_zero _)) (mu1:=[]) ?_
 refine aM ?_
 refine cW (ι:=Nat) (fun i=>[(9,vI i),(8, .a (.g 33))]) (fun i=>[(33, .arr 4 (((List.range n).take i).filter (m8 f tx r)).length fun j=>GH f ((((List.range n).take i).filter (m8 f tx r)).getD j 0))]) (fun i=>i≤n) (fun i=>n - i) 0 [33] [33] rfl rfl (Nat.zero_le _) wF ⟨⟨_,rfl,ZE _⟩,wM⟩ ?_
 intro i h1
 have hle:=w9 (List.range n) (m8 f tx r) i
 refine aE ?_
 refine aH (fun e=>?_) (fun e=>?_)
 ·have hi:i<n:=by omega
  refine aE ?_
  refine aA (fun e2=>?_) (fun e2=>?_)
  ·have hp:m8 f tx r i=true:=by
    unfold m8
    cases c1:nI (f i 1) == tx <;>cases c2:nI (f i 2) == r <;>simp [c1,c2,bne] at e2 ⊢
   have hF:=mP (z:=0) (by rw [hR];exact hi) (p:=m8 f tx r) (by rw [jR hi];exact hp)
   rw [jR hi] at hF
   refine aE ?_
   refine cJ TT_ok 66 (fun _=>GH f i) rfl rfl rfl rfl rfl rfl rfl (fun i hi=>by rcases i with _ | i <;>first | rfl | omega) (mu1:=[]) rfl rfl rfl ?_
   refine aM ?_
   refine cL TT_ok 33 66 67 rfl rfl rfl rfl rfl rfl rfl rfl rfl rfl rfl rfl ⟨by show ((((List.range n).take i).filter (m8 f tx r)).length+1) * 48≤_;omega,by unfold maxL;omega⟩ ?_
   refine aM ?_
   refine bC (bH 33 67) ?_
   refine bF (i+1) hi (by omega) wF ⟨⟨_,rfl,Ch.imp_len (by rw [hF];simp) fun j hj=>?_⟩,wM⟩
   rw [hF]
   by_cases c:j<(((List.range n).take i).filter (m8 f tx r)).length
   ·rw [kK c,MI c]
   ·have:j=(((List.range n).take i).filter (m8 f tx r)).length:=by omega
    subst this
    rw [kL (Nat.le_refl _),MX]
  ·have hp:m8 f tx r i=false:=by
    unfold m8
    cases c1:nI (f i 1) == tx <;>cases c2:nI (f i 2) == r <;>simp [c1,c2,bne] at e2 ⊢
   have hF:=nW (z:=0) (by rw [hR];exact hi) (p:=m8 f tx r) (by rw [jR hi];exact hp)
   refine aE ?_
   exact bF (i+1) hi (by omega) wF ⟨⟨_,rfl,Ch.imp_len (by rw [hF]) fun j hj=>by rw [hF]⟩,wM⟩
 ·have hi:i=n:=by omega
  subst hi
  rw [show (List.range i).take i=List.range i from List.take_of_length_le (by simp)]
  refine aE ?_
  refine aA (fun e2=>?_) (fun e2=>?_)
  ·subst e2
   refine aE ?_
   refine aP (ZG 901 905 (ZG 900 903 (WV cl hc hs tx))) fun _ _=>?_
   refine zS TT_ok rfl ?_
   refine bC (bH 33 904) ?_
   refine lC TT_ok () [] rfl rfl ?_ ?_ ?_
   ·exact ZF _
   ·exact wM
   ·trivial
  ·subst e2
   refine a9 (bH 33 904) ?_
   refine a9 (a7 900 3 903) ?_
   refine a9 (aV 900 3 905) ?_
   refine FH ?_
   refine lC TT_ok () [] rfl rfl ?_ ?_ ?_
   ·exact ZF _
   ·exact wM
   ·trivial
theorem W5 {h:PH} {x:GRecord} {l:List Value} (e:D.rds h (cM x) l):nI (l.getD 1 undef)=x.tx∧nI (l.getD 2 undef)=x.region:=by
 obtain ⟨y1,t1,rfl,e1,y2,t2,rfl,e2,y3,t3,rfl,e3,y4,t4,rfl,⟨A,c,e4,_⟩,e5⟩:=e
 have e2:y2 = .int .i64 x.tx:=e2
 have e3:y3 = .int .i64 x.region:=e3
 subst e2;subst e3
 exact ⟨rfl,rfl⟩
theorem vK (m:GMachine) (hm:m.log.length≤1000000) (hc:m.cleared.length≤1000) (hs:m.cleared.Pairwise (· < ·)) (tx r:Int) (d:Bool) :
  Con Tryz.prog 240 [902,900,901,903] [.a (.p 900 0),vI tx,vI r,vB d] [(902,bE 4 cM ZB m.log),(900, .row (sA m 901 902 903)),(903,bE 1 bL 0 m.cleared)] (fun _:Unit=>True) (fun _=>[])
   fun _=>[(904,bE 4 cM ZB (jN m tx r d).log),(900, .row (sA m 901 904 905)),(905,bE 1 bL 0 (jN m tx r d).cleared)]:=by
 have hmem:∀ j,j<((List.range m.log.length).filter fun i=>qX tx r (m.log.getD i ZB)).length→((List.range m.log.length).filter fun i=>qX tx r (m.log.getD i ZB)).getD j 0<m.log.length:=fun j hj=>by
  rw [gd0 hj]
  have h1:=(List.mem_filter.1 (List.getElem_mem hj)).1
  exact List.mem_range.1 h1
 have hC:=Con.liftR (P:=Tryz.prog) (ι:=Unit) (f:=240) (sz:=4) (n:=m.log.length) (k:=902) (ko:=904) (g:=fun i=>cM (m.log.getD i ZB)) (ks:=[902,900,901,903])
  (args:=[.a (.p 900 0),vI tx,vI r,vB d]) (args':=fun _=>[.a (.p 900 0),vI tx,vI r,vB d]) (rest:=[(900, .row (sA m 901 902 903)),(903,bE 1 bL 0 m.cleared)]) (rest':=fun _=>[(900, .row (sA m 901 904 905)),(905,bE 1 bL 0 (jN m tx r d).cleared)]) (φ:=fun _=>True) (res:=fun _=>[])
  (m:=fun _=>((List.range m.log.length).filter fun i=>qX tx r (m.log.getD i ZB)).length) (ρ:=fun _ j=>((List.range m.log.length).filter fun i=>qX tx r (m.log.getD i ZB)).getD j 0)
  (fun j c e=>by
   rw [bO] at e
   split at e
   ·rename_i h;subst h;injection e with e;subst e;exact ⟨rfl,by decide⟩
   ·rw [bO] at e
    split at e
    ·rename_i h;subst h;injection e with e;subst e;exact ⟨rfl,by decide⟩
    ·cases e)
  (fun _ _=>rfl) (fun _ _ j hj=>hmem j hj)
  (fun _ _ i j hi hj hij e=>by
   have hn:((List.range m.log.length).filter fun i=>qX tx r (m.log.getD i ZB)).Nodup:=List.nodup_range.filter _
   have h1:=List.pairwise_iff_getElem.1 hn
   rw [gd0 hi,gd0 hj] at e
   rcases Nat.lt_or_gt_of_ne hij with h | h
   ·exact h1 i j hi hj h e
   ·exact h1 j i hj hi h e.symm)
  (fun B r r' H H' vals row _ _ e=>e)
  (fun _ B r r' H H' out e=>e)
  (fun _ B r r' h j c e s=>by
   rw [bO] at e
   split at e
   ·rename_i hj;subst hj;injection e with e;subst e;exact s
   ·rw [bO] at e
    split at e
    ·rename_i hj;subst hj;injection e with e;subst e;exact s
    ·cases e)
  (fun row hrow _ hrd=>?_)
 ·refine hC.wkM fun _ _=>⟨⟨_,rfl,?_⟩,⟨_,rfl,ZE _⟩,⟨_,rfl,ZE _⟩,trivial⟩
  have e:=MB (z:=ZB) (qX tx r) m.log
  show Ch.imp _ (bE 4 cM ZB (m.log.filter (qX tx r)))
  refine Ch.imp_len (by rw [e,List.length_map]) fun j hj=>?_
  rw [e]
  congr 1
  exact (gmap (f:=fun i=>m.log.getD i ZB) hj).symm
 ·obtain ⟨hh,hrd⟩:=hrd
  have hD:=R9 m.alive m.log.length hm (fun i j=>(row i).getD j undef) m.cleared hc hs tx r d
  have hr:∀ i,i<m.log.length→GH (fun i j=>(row i).getD j undef) i=(row i).map D.v:=fun i hi=>(WB (hrd i hi)).symm
  have hp:(List.range m.log.length).filter (m8 (fun i j=>(row i).getD j undef) tx r)=(List.range m.log.length).filter fun i=>qX tx r (m.log.getD i ZB):=by
   refine List.filter_congr fun i hi=>?_
   obtain ⟨q1,q2⟩:=W5 (hrd i (List.mem_range.1 hi))
   unfold m8 qX
   rw [q1,q2]
  rw [hp] at hD
  refine Con.wkM (Con.inM hD (mu0:=(902, .arr 4 m.log.length fun i=>(row i).map D.v) :: [(900, .row (sA m 901 902 903)),(903,bE 1 bL 0 m.cleared)]) rfl ⟨⟨_,rfl,Ch.imp_arr fun i hi=>(hr i hi).symm⟩,⟨_,rfl,ZE _⟩,⟨_,rfl,ZE _⟩,trivial⟩) fun _ _=>⟨⟨_,rfl,Ch.imp_arr fun j hj=>hr _ (hmem j hj)⟩,⟨_,rfl,ZE _⟩,⟨_,rfl,ZE _⟩,trivial⟩
end
section
abbrev clk (c:GCluster) (n:Int):GCluster:={ c with clock:=n }
abbrev tw (t:GTx) (p d s:Int):GTx:={ t with phase:=p,done:=d,stamp:=s }
theorem TxIn.tw {c:GCluster} {t:GTx} (h:TxIn c t) {p d s:Int} (h4:1≤p∧p≤9) (h5:0≤d∧d≤1000) (h6:0≤s∧s≤1000000):TxIn c (tw t p d s):=h.same ⟨rfl,rfl,rfl,rfl⟩ h4 h5 h6
theorem VS {c:GCluster} {t:GTx} (h:t.phase=3):(fF c t).length=(cD t).length:=by
 unfold fF
 rw [if_pos h,List.length_map]
end
section
def S1 (m:GMachine) (n:GNote):Bool:=bif eW ((cellsOf m n.region).getD n.slot.toNat Y9).head then true else ((cellsOf m n.region).getD n.slot.toNat Y9).head.tdiv 4 != n.version
abbrev mOf (c:GCluster) (i:Int):GMachine:=c.machines.getD i.toNat Y4
end
section
theorem set_self {α:Type} {z:α} {xs:List α} {i:Nat} (h:i<xs.length):xs.set i (xs.getD i z)=xs:=by
 rw [show xs.getD i z=xs[i] from by simp [h]]
 exact List.set_getElem_self h
abbrev r8 (m:GMachine) (r:Int) (xs:List GCell):GCopy:=⟨(m.copies.getD (eU m r).toNat ZA).region,xs⟩
noncomputable def T6 (t:GTx) (x:GCopyAt) (m:GMachine):GMachine:=jN (bif x.backup then cG m x.region (mM (cellsOf m x.region) (cA x.region t.sets)) else m) t.id x.region true
end
section
theorem lO {α β:Type} {za:α} {zb:β} (f:α→β) {xs:List α} {i:Nat} (h:i<xs.length):(xs.map f).getD i zb=f (xs.getD i za):=by
 simp [List.getD_eq_getElem?_getD,h]
theorem XW {c:GCluster} {t:GTx} (h:t.phase=3) (hd:t.done.toNat<(fF c t).length):eG c t=y9 c ((cD t).getD t.done.toNat Y8).region:=by
 rw [VS h] at hd
 unfold eG fF
 rw [if_pos h]
 exact lO (za:=Y8) (fun n=>y9 c n.region) hd
section
variable {t:GTx} {x:GCopyAt} {n:GNote} {m:GMachine}
theorem QG (ha:m.alive=false):kH t x n m=(6,m,t):=by unfold kH;rw [ha];rfl
theorem YL (ha:m.alive=true) (h:t.phase=2):kH t x n m=(bif !oK (cellsOf m x.region) (cA x.region t.sets) then (0,m,sG t) else bif decide ((m.log.length:Int)=200) then (9,m,t) else (0,pG (cG m x.region (sV (cellsOf m x.region) (cA x.region t.sets))) ⟨1,t.id,x.region,cA x.region t.sets⟩,fG t)):=by
 unfold kH;rw [ha,if_pos h];rfl
theorem YH (ha:m.alive=true) (h:t.phase=3) (hn:x.region=n.region):kH t x n m=(bif S1 m n then (0,m,sG t) else (0,m,fG t)):=by
 unfold kH;rw [ha,if_neg (by omega),if_pos h,hn];rfl
theorem YZ (ha:m.alive=true) (h:t.phase=4):kH t x n m=(bif decide ((m.log.length:Int)=200) then (9,m,t) else (0,pG m ⟨2,t.id,x.region,cA x.region t.sets⟩,fG t)):=by
 unfold kH;rw [ha,if_neg (by omega),if_neg (by omega),if_pos h];rfl
theorem X9 (ha:m.alive=true) (h:t.phase=5):kH t x n m=(0,JE (cG m x.region (mM (cellsOf m x.region) (cA x.region t.sets))) t.id x.region,fG t):=by
 unfold kH;rw [ha,if_neg (by omega),if_neg (by omega),if_neg (by omega),if_pos h];rfl
theorem YE (ha:m.alive=true) (h:t.phase=6):kH t x n m=(bif !m6 m t.id then (9,m,t) else (0,T6 t x m,fG t)):=by
 unfold kH;rw [ha,if_neg (by omega),if_neg (by omega),if_neg (by omega),if_neg (by omega),if_pos h];rfl
theorem YF (ha:m.alive=true) (h:t.phase=8):kH t x n m=(if 0≤pC m t.id x.region 1 then (0,jN (cG m x.region (sI (cellsOf m x.region) (cA x.region t.sets))) t.id x.region false,fG t) else (0,m,fG t)):=by
 unfold kH;rw [ha,if_neg (by omega),if_neg (by omega),if_neg (by omega),if_neg (by omega),if_neg (by omega)];rfl
theorem zJ {r:Int} (h:dQ m r=true):cG m r (cellsOf m r)=m:=by
 have hi:=lL (z:=ZA) ((eY (z:=ZA)).2 (show m.copies.any (atB r)=true from h))
 unfold cG
 rw [iZ h]
 have:=set_self (z:=ZA) hi.1
 rw [show (⟨(m.copies.getD (b0 (atB r) m.copies).toNat ZA).region,(m.copies.getD (b0 (atB r) m.copies).toNat ZA).cells⟩:GCopy)=m.copies.getD (b0 (atB r) m.copies).toNat ZA from rfl,this]
end
theorem O6 {n:GNote} (h:noteB n=true):0≤n.slot∧n.slot≤5:=by
 unfold noteB at h
 cases c1:inB n.region 0 5 with
 | false=>rw [c1] at h;cases h
 | true =>
  cases c2:inB n.slot 0 5 with
  | false=>rw [c1,c2] at h;cases h
  | true=>exact bR.1 c2
end
section
theorem M5 {c:GCluster} (hok:ClusOk c) {id:Int} (h1:eQ c id=0) (h2:c.clock≠1000000):eF c id=if (fO c (bZ c id).toNat).1=0 then ((fO c (bZ c id).toNat).2,0) else (c,(fO c (bZ c id).toNat).1):=by
 unfold eF
 rw [if_pos hok,if_neg (by omega),if_neg h2]
theorem PC {c:GCluster} {i:Nat} (h:(g9 c (c.clock,c.txs.getD i Y5)).2.phase=7∨(g9 c (c.clock,c.txs.getD i Y5)).2.phase=9):fO c i=(0,sB c i (g9 c (c.clock,c.txs.getD i Y5)) c.machines):=by
 unfold fO;dsimp only;rw [if_pos h]
theorem TZ {c:GCluster} {i:Nat} (h:¬ ((g9 c (c.clock,c.txs.getD i Y5)).2.phase=7∨(g9 c (c.clock,c.txs.getD i Y5)).2.phase=9)) (h2:(eE c (g9 c (c.clock,c.txs.getD i Y5)).2).1≠0):fO c i=((eE c (g9 c (c.clock,c.txs.getD i Y5)).2).1,c):=by
 unfold fO;dsimp only;rw [if_neg h,if_neg h2]
theorem QL {c:GCluster} {i:Nat} (h:¬ ((g9 c (c.clock,c.txs.getD i Y5)).2.phase=7∨(g9 c (c.clock,c.txs.getD i Y5)).2.phase=9)) (h2:(eE c (g9 c (c.clock,c.txs.getD i Y5)).2).1=0) :
  fO c i=(0,sB c i (g9 c ((g9 c (c.clock,c.txs.getD i Y5)).1,(eE c (g9 c (c.clock,c.txs.getD i Y5)).2).2.2)) (c.machines.set (eG c (g9 c (c.clock,c.txs.getD i Y5)).2).machine.toNat (eE c (g9 c (c.clock,c.txs.getD i Y5)).2).2.1)):=by
 unfold fO;dsimp only;rw [if_neg h,if_pos h2]
end
section
theorem vN {c:GCluster} (h:ClusOk c):D.bds eA (bK c):=E8 c (by have:=HC h;unfold eA;omega)
theorem KS (c:GCluster) (i:Nat):(fO c i).2.places=c.places:=by
 unfold fO
 dsimp only
 split
 ·rfl
 ·split <;>rfl
theorem LY {c:GCluster} (hok:ClusOk c) (id:Int):(eF c id).1.places=c.places:=by
 unfold eF
 rw [if_pos hok]
 split
 ·rfl
 ·split
  ·rfl
  ·split
   ·exact KS c _
   ·rfl
theorem R1 {d:GCluster} {id:Int} (i:Nat):pQ id (200 - i) d=(if i<200 then (if (eF d id).2=0 then (if PR (bP (eF d id).1 id)=true then ((eF d id).1,0) else pQ id (200 - (i+1)) (eF d id).1) else (d,(eF d id).2)) else (d,0)):=by
 by_cases h:i<200
 ·rw [if_pos h,show 200 - i=(200 - (i+1))+1 by omega,pQ]
 ·rw [if_neg h,show 200 - i=0 by omega,pQ]
end
section
theorem UJ {xs:List GSet} (h1:∀ s ∈ xs,setB s=true) (h2:ES xs) {r:Int} (h3:∀ s ∈ xs,s.region=r):lF xs=true:=by
 unfold lF
 rw [o9 fun j hj=>?_]; · rfl
 unfold oZ
 rw [h1 _ (bY hj)]
 by_cases c:(j:Int) > 0
 ·rw [decide_eq_true c,show ((j:Int) - 1).toNat=j - 1 by omega]
  have:=eV (z:=Y7) h2 (a:=j - 1) (b:=j) (by omega) hj
  rw [decide_eq_false (show ¬ (xs.getD j Y7).slot≤(xs.getD (j - 1) Y7).slot by omega)]
  rw [h3 _ (bY hj),h3 _ (bY (show 0<xs.length by omega))]
  simp
 ·rw [decide_eq_false c];rfl
theorem NA (xs:List GCell) (sets:List GSet) (hl:sets.length≤1048576) (hx:cO xs=true) (hs:∀ s ∈ sets,setB s=true) (hr:ES sets) (hS:lF sets=true) :
  Con Tryz.prog 237 [] [vL 2 cQ Y9 xs,vL 5 cH Y7 sets] [] (fun _:Unit=>True) (fun _=>[.a (.g 901),vB (oK xs sets)]) fun _=>[(901,bE 2 cQ Y9 (yF xs sets))]:=by
 have hx6:=(eI.1 hx).1
 refine aD Tryz.func237 fun B0 r_ D_ w0=>?_
 refine aE ?_
 refine aG (p9 xs) ?_
 refine aG (zK sets hl) ?_
 refine bW rfl (fun e=>by rw [hx,hS] at e;cases e) (fun _=>?_)
 refine aE ?_
 refine dZ TT_ok (ZG 900 40 (tX xs (by omega))) rfl rfl (ZF _) (fun _=>rfl) rfl rfl rfl fun _ _=>?_
 refine aM ?_
 refine aJ (ι:=Nat) (fun i=>[(7,vI i)]) (fun i=>[(40,bE 2 cQ Y9 ((sets.take i).foldl kE xs))]) (fun i=>i≤sets.length∧∀ j,j<i→rQ xs (sets.getD j Y7)=false) (fun i=>sets.length - i) 0 [40] [] ⟨Nat.zero_le _,fun j hj=>absurd hj (Nat.not_lt_zero _)⟩ ?_
 intro i ⟨h1,h2⟩
 refine aE ?_
 refine aH (fun e=>?_) (fun e=>?_)
 ·have hi:i<sets.length:=by omega
  have hsb:=hs _ (bY (z:=Y7) hi)
  obtain ⟨c1,c2,c3,c4,c5,c6,c7,c8⟩:=B9 hx hsb
  have hV:=GW c4
  have hat:=WG hs hr xs hi
  have hlen:((sets.take i).foldl kE xs).length=6:=by rw [II IM];exact c1
  have hF:=n6 (z:=Y7) kE xs hi
  unfold dS at c5 c6 c7 c8 hV
  refine aE ?_
  refine aW [] [0,1,2,3,4,5,6,7,8,9,10,11] fun B0 H0=>?_
  refine f6 1 (mC _) rfl rfl rfl (ZF _) rfl ?_
  refine aY [2,3,5,6,7,8,9,4,10,11] ?_
  refine f6 4 (gV _) rfl rfl rfl (ZF _) rfl ?_
  refine aY [10,11] ?_
  refine aN ?_
  refine aA (fun e2=>?_) (fun e2=>?_)
  ·simp only [Int.toNat_natCast] at e2
   rw [hV] at e2
   have hB:oK xs sets=false:=by unfold oK;rw [t8 (p:=rQ xs) hi e2];rfl
   rw [show yF xs sets=xs from by unfold yF;rw [hB];rfl,hB]
   refine aE ?_
   refine dZ TT_ok (ZG 900 901 (tX xs (by omega))) rfl rfl (ZF _) (fun _=>rfl) rfl rfl rfl fun _ _=>?_
   refine aM ?_
   refine aC (()) [(4,none),(5,none)] ?_ ?_ ?_
   ·exact ZF _
   ·exact wM
   ·trivial
  ·simp only [Int.toNat_natCast] at e2
   rw [hV] at e2
   refine aE ?_
   refine bF (i+1) ⟨hi,bX h2 e2⟩ (by omega) wF ⟨⟨_,rfl,?_⟩,wM⟩
   rw [hF,show kE ((sets.take i).foldl kE xs) (sets.getD i Y7)=((sets.take i).foldl kE xs).set (sets.getD i Y7).slot.toNat ⟨(dS ((sets.take i).foldl kE xs) (sets.getD i Y7)).head+1,(dS ((sets.take i).foldl kE xs) (sets.getD i Y7)).value⟩ from rfl,hat]
   simp only [Int.toNat_natCast]
   refine bS (OwnI.of ?_)
   show [dI _,dI (((sets.take i).foldl kE xs).getD _ Y9).value] = [dI _,dI _]
   rw [show (((sets.take i).foldl kE xs).getD (sets.getD i Y7).slot.toNat Y9)=dS xs (sets.getD i Y7) from hat]
   rfl
 ·have hi:i=sets.length:=by omega
  subst hi
  have hB:oK xs sets=true:=by unfold oK;rw [kR (z:=Y7) (p:=rQ xs) fun j hj=>h2 j hj];rfl
  rw [show yF xs sets=sV xs sets from by unfold yF;rw [hB];rfl,hB,List.take_length]
  refine aE ?_
  refine a9 (bH 40 901) ?_
  refine aC (()) [(4,none),(5,none)] ?_ ?_ ?_
  ·exact ZF _
  ·exact wM
  ·trivial
theorem CX (m:GMachine) (hl:m.copies.length≤1048576) (hl2:m.log.length≤1048576) (hl3:m.cleared.length≤1048576) (r:Int) (hh:dQ m r=true) (xs:List GCell) :
  Con Tryz.prog 233 [900,901,902,903,905] [.a (.p 900 0),vI r, .a (.g 905)] [(900, .rrow (sA m 901 902 903)),(901,bE 2 dY ZA m.copies),(902, .ro 4 m.log.length fun i=>cM (m.log.getD i ZB)),(903, .ro 1 m.cleared.length fun i=>bL (m.cleared.getD i 0)),(905,bE 2 cQ Y9 xs)]
   (fun _:Unit=>True) (fun _=>[]) fun _=>[(901,bE 2 dY ZA (cG m r xs).copies)]:=by
 have hix:=lL (z:=ZA) ((eY (z:=ZA)).2 (show m.copies.any (atB r)=true from hh))
 have hix2:0≤eU m r∧eU m r<m.copies.length:=⟨(eY (z:=ZA)).2 hh,by have:=hix.1;have:=(eY (z:=ZA)).2 hh;show b0 (atB r) m.copies<_;omega⟩
 refine aD Tryz.func233 fun B0 r_ D_ w0=>?_
 refine aE ?_
 refine aG (w8 m hl r) ?_
 refine aH (fun e=>?_) (fun e=>absurd hix2.1 e)
 refine a9 (d6 901 (eU m r) 64 rfl rfl rfl rfl rfl rfl hix2) ?_
 refine a9 (aV 64 1 65) ?_
 refine aE ?_
 refine cK (j6 23 rfl rfl rfl) ?_
 refine aM ?_
 refine a9 (a7 64 1 905) ?_
 refine a9 (aZ 901 64) ?_
 refine aC (()) [] ?_ ?_ ?_
 ·exact ZF _
 ·exact ⟨⟨_,rfl,bS (y:=r8 m r xs) (OwnI.refl _)⟩,trivial⟩
 ·trivial
theorem EH (al:Bool) (log:List GRecord) (hl:log.length≤1048576) (tx r0 kind:Int) :
  Con Tryz.prog 241 [901,902,903] [.ag [.v (.bool al), .g 901, .g 902, .g 903],vI tx,vI r0,vI kind] [(902, .ro 4 log.length fun i=>cM (log.getD i ZB))] (fun _:Unit=>True) (fun _=>[vI (b0 (sT tx r0 kind) log)]) fun _=>[]:=by
 refine aD Tryz.func241 fun B0 r_ D_ w0=>?_
 refine aE ?_
 refine aJ (ι:=Nat) (fun i=>[(9,vI i)]) (fun _=>[]) (fun i=>i≤log.length∧∀ j,j<i→sT tx r0 kind (log.getD j ZB)=false) (fun i=>log.length - i) 0 [] [] ⟨Nat.zero_le _,fun j hj=>absurd hj (Nat.not_lt_zero _)⟩ ?_
 intro i ⟨h1,h2⟩
 refine aE ?_
 refine aH (fun e=>?_) (fun e=>?_)
 ·have hi:i<log.length:=by omega
  refine aE ?_
  refine aA (fun e2=>?_) (fun e2=>?_)
  ·refine aE ?_
   refine aC (()) [(8,none)] ?_ ?_ ?_
   ·exact SVs.cons (ZH (cT (gH (p:=sT tx r0 kind) hi h2 e2).symm)) rfl
   ·trivial
   ·trivial
  ·refine aE ?_
   exact aK (i+1) ⟨hi,bX h2 e2⟩ (by omega)
 ·refine aE ?_
  refine aC (()) [(8,none)] ?_ ?_ ?_
  ·exact SVs.cons (ZH (cT (gI fun j hj=>h2 j (by omega)).symm)) rfl
  ·trivial
  ·trivial
end
end Go.Proofs.YthpjoddhlkcciaaGreat
