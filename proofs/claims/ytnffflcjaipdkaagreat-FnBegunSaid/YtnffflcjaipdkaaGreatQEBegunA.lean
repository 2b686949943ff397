/-
  What the claim leans on, made short by program.
-/
import Derived.Test.YtnffflcjaipdkaaGreatQF
namespace Go.Proofs.YtnffflcjaipdkaaGreat
open Go Go.RowKit
set_option linter.unusedVariables false
set_option linter.unusedSimpArgs false
set_option maxRecDepth 4000
section
theorem rV (xs:List GTx) (hl:xs.length≤1048576) (S:GTx→Prop) (hS:∀ i,i<xs.length→S (xs.getD i aCk)) (p:GTx→Bool):Ans Tryz.prog 144 [] [vL 7 cTx aCk xs,fbP S (fun x=>[RD.ag (cTx x)]) fun x => .bool (p x)] [] (vI (cI p xs)):=by
 refine aE Tryz.func144 fun B0 r_ D_ w0=>?_
 refine aF ?_
 refine aK (ι:=Nat) (fun i=>[(8,vI i)]) (fun _=>[]) (fun i=>i≤xs.length∧∀ j,j<i→p (xs.getD j aCk)=false) (fun i=>xs.length - i) 0 [] [] ⟨Nat.zero_le _,fun j hj=>absurd hj (Nat.not_lt_zero _)⟩ ?_
 intro i ⟨h1,h2⟩
 refine aF ?_
 refine aI (fun e=>?_) (fun e=>?_)
 ·have hi:i<xs.length:=by omega
  refine aF ?_
  refine vE rfl rfl rfl ⟨xs.getD i aCk,hS i hi,rfl,rfl⟩ ?_
  refine aN ?_
  refine aA (fun e2=>?_) (fun e2=>?_)
  ·refine aF ?_
   exact aJ [(4,none)] ((gA hi h2 e2).symm)
  ·refine aF ?_
   exact aL (i+1) ⟨hi,b5 h2 e2⟩ (by omega)
 ·refine aF ?_
  exact dK TT_ok [(4,none)] rfl rfl ((gT fun j hj=>h2 j (by omega)).symm)
theorem tT (xs:List Int) (hl:xs.length≤1048576):MkL Tryz.prog 139 [vL 1 bS 0 xs] 1 bS 0 xs:=by
 refine aE Tryz.func139 fun B0 r_ D_ w0=>?_
 refine aF ?_
 refine HY TT_ok false rfl rfl rfl rfl rfl rfl fun b hb=>?_
 refine aN ?_
 refine aA (fun e=>?_) (fun e=>?_)
 ·have h0:=hb e
  refine aF ?_
  refine bB (oX 2 900 1 (fun i=>bS (([]:List Int).getD i 0)) rfl rfl rfl rfl) ?_
  refine aC (()) [(2,none)] ?_ ?_ ?_
  ·exact aCu _
  ·exact ⟨⟨_,rfl,bP (List.length_eq_zero_iff.1 h0).symm⟩,trivial⟩
  ·trivial
 ·refine aF ?_
  refine aM 5 (fun i=>bS (([]:List Int).getD i 0)) (fun i hi=>absurd hi (Nat.not_lt_zero _)) (mu1:=[]) ?_
  refine aN ?_
  refine oG TT_ok 5 900 rfl rfl rfl rfl rfl rfl rfl rfl rfl rfl rfl rfl ⟨by simp;omega,by unfold maxL;omega⟩ ?_
  refine aN ?_
  refine aC (()) [(2,none)] ?_ ?_ ?_
  ·exact aCu _
  ·exact ⟨⟨_,rfl,mX (ys:=([]:List Int)) (by simp)⟩,trivial⟩
  ·trivial
end
section
theorem NP (t:GTx) (id:Int):Ans Tryz.prog 145 [] [vR (cTx t),vP [dI id]] [] (vB (t.id == id)):=by
 refine aE Tryz.func145 fun B0 r_ D_ w0=>?_
 refine aF ?_
 exact aG [(3,none)] (rfl)
theorem DB (c:GCluster) (hl:c.txs.length≤1048576) (id:Int) (h:0≤bQ c id):Ans Tryz.prog 80 [] [vP (bO c),vI id] [] (vP (cTx (c.txs.getD (bQ c id).toNat aCk))):=by
 have hin:=dW h
 refine aE Tryz.func80 fun B0 r_ D_ w0=>?_
 refine aF ?_
 refine lZ TT_ok (rV c.txs hl (fun _=>True) (fun _ _=>trivial) fun t=>t.id == id) rfl rfl (SVs.cons (aCs _) (SVs.cons (iO (aB) rfl fun args x ⟨n,_,e1,e2⟩=>by subst e1;subst e2;exact NP n _) rfl)) rfl rfl ?_
 refine aI (fun e=>absurd h (Int.not_le.2 e)) (fun _=>?_)
 have hx:0≤cI (fun t:GTx=>t.id == id) c.txs∧cI (fun t:GTx=>t.id == id) c.txs<c.txs.length:=⟨h,gO⟩
 refine aF ?_
 exact BV TT_ok [(4,none)] rfl rfl (rfl)
theorem EN (c:GCluster) (hl:c.txs.length≤1048576) (id:Int) (h:bQ c id<0):Ans Tryz.prog 80 [] [vP (bO c),vI id] [] (.a (.v (.pointer none))):=by
 refine aE Tryz.func80 fun B0 r_ D_ w0=>?_
 refine aF ?_
 refine lZ TT_ok (rV c.txs hl (fun _=>True) (fun _ _=>trivial) fun t=>t.id == id) rfl rfl (SVs.cons (aCs _) (SVs.cons (iO (aB) rfl fun args x ⟨n,_,e1,e2⟩=>by subst e1;subst e2;exact NP n _) rfl)) rfl rfl ?_
 refine aI (fun _=>?_) (fun e=>absurd h e)
 refine aF ?_
 exact BV TT_ok [(4,none)] rfl rfl (rfl)
theorem xZ {c:GCluster} (hb:D.bds dJ (bO c)) (i:Nat):D.bds dJ (cTx (c.txs.getD i aCk)):=UK hb.2.2.2.2.1 ⟨trivial,trivial,trivial,trivial,⟨Nat.zero_le _,fun i hi=>absurd hi (Nat.not_lt_zero _)⟩,⟨Nat.zero_le _,fun i hi=>absurd hi (Nat.not_lt_zero _)⟩,trivial,trivial⟩ _
end
section
theorem CS (x:GRecord) (h1:x.sets.length≤1048576):MkR Tryz.prog 213 [vR (cK x)] x:=by
 refine aE Tryz.func213 fun B0 r_ D_ w0=>?_
 refine aF ?_
 refine aR (aCv 900 901 (CQ x.sets h1)) fun _ _=>?_
 refine aN ?_
 refine aC (()) [(2,some 83)] ?_ ?_ ?_
 ·exact aCu _
 ·exact wM
 ·trivial
end
section
theorem LE (m:GMachine) (hb:D.bds dJ (bJ m)):V8 Tryz.prog 140 [vR (bJ m)] m:=by
 have b1:m.copies.length≤1048576:=hb.2.1.1
 have b2:m.log.length≤1048576:=hb.2.2.1.1
 have b3:m.cleared.length≤1048576:=hb.2.2.2.1.1
 refine aE Tryz.func140 fun B0 r_ D_ w0=>?_
 refine aT ?_
 refine aU 1 fun r_=>?_
 refine zS ?_
 refine T6 [(1,vP (bJ m)),(2, .a (.p 2 0)),(3, .a (.p 3 0))] [(2, .row [.v (.bool false),lU,lU,lU]),(3, .row [.v (.bool m.alive),lU,lU, .g 12]),(12,bE 1 bS 0 m.cleared)] ?_ fun key=>?_
 ·refine aZ ?_
  refine bB (a5 3 1 2 (fun i=>dA (([]:List GCopy).getD i aCp))) ?_
  refine bB (a5 3 2 4 (fun i=>cK (([]:List GRecord).getD i aCq))) ?_
  refine bB (a6 3 1 31) ?_
  refine bB (a6 3 2 32) ?_
  refine aK (ι:=Nat) (fun i=>[(17,vI i)]) (fun i=>[(31,bE 2 dA aCp (m.copies.take i)),(3, .row [.v (.bool m.alive), .g 31, .g 32, .g 12])]) (fun i=>i≤m.copies.length) (fun i=>m.copies.length - i) 0 [31,3] [31] (Nat.zero_le _) ?_
  intro i h1
  refine aF ?_
  refine aI (fun e=>?_) (fun e=>?_)
  ·have hi:i<m.copies.length:=by omega
   have hl:(m.copies.take i).length=i:=by rw [List.length_take];omega
   refine aF ?_
   refine aW [31] [0,1,2,3,4,5,6,7,8,9,10,11] fun B0 H0=>?_
   refine aX 6 (aCv 900 27 (wC (m.copies.getD i aCp).cells (hb.2.1.2 i hi).2.1.1)) fun _ _=>?_
   refine aY [7,8,9,10,11] ?_
   refine bG 8 rfl (by kernel_rfl) (dV TT_ok 29 (fun _=>dA (m.copies.getD i aCp)) rfl rfl rfl rfl rfl rfl rfl (fun j hj=>by rcases j with _ | j <;>first | rfl | omega) (mu1:=[(27, .arr 0 0 fun _=>[])]) rfl rfl rfl (bD ?_))
   refine bG 9 rfl (by kernel_rfl) (dM TT_ok 31 29 30 rfl rfl rfl rfl rfl rfl rfl rfl rfl rfl rfl rfl ⟨by show ((m.copies.take i).length+1) * 32≤_;omega,by unfold maxL;omega⟩ (bD ?_))
   refine aY [10,11] ?_
   refine dR 11 rfl (by kernel_rfl) (by kernel_rfl) (aV (eJ [] fun B0 H0=>?_))
   refine aP ?_
   refine bC (bL 31 30) ?_
   exact bN (i+1) hi (by omega) wF ⟨⟨_,rfl,aS (x:=m.copies.getD i aCp) (cC hi)⟩,wM⟩
  have hi:i=m.copies.length:=by omega
  subst hi
  rw [List.take_length]
  refine aF ?_
  refine aK (ι:=Nat) (fun i=>[(36,vI i)]) (fun i=>[(32,bE 4 cK aCq (m.log.take i)),(3, .row [.v (.bool m.alive), .g 31, .g 32, .g 12])]) (fun i=>i≤m.log.length) (fun i=>m.log.length - i) 0 [32,3] [32] (Nat.zero_le _) ?_
  intro i h1
  refine aF ?_
  refine aI (fun e=>?_) (fun e=>?_)
  ·have hi:i<m.log.length:=by omega
   have hl:(m.log.take i).length=i:=by rw [List.length_take];omega
   refine aF ?_
   refine aW [32] [0,1,2,3,4,5,6,7] fun B0 H0=>?_
   refine aX 3 (aCv 901 43 (CS (m.log.getD i aCq) (hb.2.2.1.2 i hi).2.2.2.1.1)) fun _ _=>?_
   refine bG 4 rfl (by kernel_rfl) (dV TT_ok 44 (fun _=>cK (m.log.getD i aCq)) rfl rfl rfl rfl rfl rfl rfl (fun j hj=>by rcases j with _ | j <;>first | rfl | omega) (mu1:=[(43, .arr 0 0 fun _=>[])]) rfl rfl rfl (bD ?_))
   refine bG 5 rfl (by kernel_rfl) (dM TT_ok 32 44 45 rfl rfl rfl rfl rfl rfl rfl rfl rfl rfl rfl rfl ⟨by show ((m.log.take i).length+1) * 48≤_;omega,by unfold maxL;omega⟩ (bD ?_))
   refine aY [6,7] ?_
   refine dR 7 rfl (by kernel_rfl) (by kernel_rfl) (aV (eJ [] fun B0 H0=>?_))
   refine aP ?_
   refine bC (bL 32 45) ?_
   exact bN (i+1) hi (by omega) wF ⟨⟨_,rfl,aS (x:=m.log.getD i aCq) (cC hi)⟩,wM⟩
  have hi:i=m.log.length:=by omega
  subst hi
  rw [List.take_length]
  refine aF ?_
  refine bB (bL 31 901) ?_
  refine bB (bL 32 902) ?_
  refine bB (bL 12 903) ?_
  refine aC (()) [(2,some 39)] ?_ ?_ ?_
  ·exact aCu _
  ·exact wM
  ·trivial
 ·refine aW [] [0,1,2,3,4,5,6,7] fun B0 H0=>?_
  refine eU 4 6 rfl rfl (by kernel_rfl) (gG (aCv 900 12 (tT m.cleared b3)) rfl rfl (aCu _) (fun _=>rfl) rfl rfl rfl (fun _ _=>bD ?_)) (aV (bD ?_))
  ·refine aY [5,6,7] ?_
   refine bG 6 rfl (by kernel_rfl) (aV (bD ?_))
   refine bG 7 rfl (by kernel_rfl) (aV (bD ?_))
   exact oF key wF wM
  ·skip
   refine aX 4 (aCv 900 12 (tT m.cleared b3)) fun _ _=>?_
   refine aY [5,7] ?_
   refine bG 7 rfl (by kernel_rfl) (aV (bD ?_))
   exact oF key wF wM
theorem iU (c:GCluster) (hb:D.bds dJ (bO c)):yB Tryz.prog 66 [vR (bO c)] c:=by
 have b1:c.places.length≤1048576:=hb.2.2.1.1
 have b2:c.machines.length≤1048576:=hb.2.2.2.1.1
 have b3:c.txs.length≤1048576:=hb.2.2.2.2.1.1
 refine aE Tryz.func66 fun B0 r_ D_ w0=>?_
 refine aT ?_
 refine aU 1 fun r_=>?_
 refine aF ?_
 refine bB (a5 3 2 1 (fun i=>cE (([]:List GPlace).getD i aCi))) ?_
 refine bB (a5 3 3 4 (fun i=>bJ (([]:List GMachine).getD i aCj))) ?_
 refine bB (a5 3 4 7 (fun i=>cTx (([]:List GTx).getD i aCk))) ?_
 refine bB (a6 3 2 901) ?_
 refine bB (a6 3 3 902) ?_
 refine bB (a6 3 4 903) ?_
 refine aK (ι:=Nat) (fun i=>[(17,vI i)]) (fun i=>[(901,bE 1 cE aCi (c.places.take i)),(3, .row [.v (.int .i64 c.config), .v (.int .i64 c.clock), .g 901, .g 902, .g 903, .v (.bool c.lost)])]) (fun i=>i≤c.places.length) (fun i=>c.places.length - i) 0 [901,3] [901] (Nat.zero_le _) ?_
 intro i h1
 refine aF ?_
 refine aI (fun e=>?_) (fun e=>?_)
 ·have hi:i<c.places.length:=by omega
  have hl:(c.places.take i).length=i:=by rw [List.length_take];omega
  have hm:(c.places.getD i aCi).machines.length≤1048576:=(hb.2.2.1.2 i hi).1.1
  refine aF ?_
  refine aW [901] [0,1,2,3,4,5,6,7,8,9] fun B0 H0=>?_
  refine aX 4 (aCv 900 25 (tT (c.places.getD i aCi).machines hm)) fun _ _=>?_
  refine aY [5,6,7,8,9] ?_
  refine bG 6 rfl (by kernel_rfl) (dV TT_ok 27 (fun _=>cE (c.places.getD i aCi)) rfl rfl rfl rfl rfl rfl rfl (fun j hj=>by rcases j with _ | j <;>first | rfl | omega) (mu1:=[(25, .arr 0 0 fun _=>[])]) rfl rfl rfl (bD ?_))
  refine bG 7 rfl (by kernel_rfl) (dM TT_ok 901 27 28 rfl rfl rfl rfl rfl rfl rfl rfl rfl rfl rfl rfl ⟨by show ((c.places.take i).length+1) * 24≤_;omega,by unfold maxL;omega⟩ (bD ?_))
  refine aY [8,9] ?_
  refine dR 9 rfl (by kernel_rfl) (by kernel_rfl) (aV (eJ [] fun B0 H0=>?_))
  refine aP ?_
  refine bC (bL 901 28) ?_
  exact bN (i+1) hi (by omega) wF ⟨⟨_,rfl,aS (x:=c.places.getD i aCi) (cC hi)⟩,wM⟩
 have hi:i=c.places.length:=by omega
 subst hi
 rw [List.take_length]
 refine aF ?_
 refine aK (ι:=Nat) (fun i=>[(34,vI i)]) (fun i=>[(902,bE 4 bJ aCj (c.machines.take i)),(3, .row [.v (.int .i64 c.config), .v (.int .i64 c.clock), .g 901, .g 902, .g 903, .v (.bool c.lost)])]) (fun i=>i≤c.machines.length) (fun i=>c.machines.length - i) 0 [902,3] [902] (Nat.zero_le _) ?_
 intro i h1
 refine aF ?_
 refine aI (fun e=>?_) (fun e=>?_)
 ·have hi:i<c.machines.length:=by omega
  have hl:(c.machines.take i).length=i:=by rw [List.length_take];omega
  refine aF ?_
  refine aW [902] [0,1,2,3,4,5,6,7] fun B0 H0=>?_
  refine aX 3 (aCv 901 411 (aCv 902 412 (aCv 903 413 (LE (c.machines.getD i aCj) (hb.2.2.2.1.2 i hi))))) fun _ _=>?_
  refine bG 4 rfl (by kernel_rfl) (dV TT_ok 42 (fun _=>bJ (c.machines.getD i aCj)) rfl rfl rfl rfl rfl rfl rfl (fun j hj=>by rcases j with _ | j <;>first | rfl | omega) (mu1:=[(411, .arr 0 0 fun _=>[]),(412, .arr 0 0 fun _=>[]),(413, .arr 0 0 fun _=>[])]) rfl rfl rfl (bD ?_))
  refine bG 5 rfl (by kernel_rfl) (dM TT_ok 902 42 43 rfl rfl rfl rfl rfl rfl rfl rfl rfl rfl rfl rfl ⟨by show ((c.machines.take i).length+1) * 80≤_;omega,by unfold maxL;omega⟩ (bD ?_))
  refine aY [6,7] ?_
  refine dR 7 rfl (by kernel_rfl) (by kernel_rfl) (aV (eJ [] fun B0 H0=>?_))
  refine aP ?_
  refine bC (bL 902 43) ?_
  exact bN (i+1) hi (by omega) wF ⟨⟨_,rfl,aS (x:=c.machines.getD i aCj) (cC hi)⟩,wM⟩
 have hi:i=c.machines.length:=by omega
 subst hi
 rw [List.take_length]
 refine aF ?_
 refine aK (ι:=Nat) (fun i=>[(49,vI i)]) (fun i=>[(903,bE 7 cTx aCk (c.txs.take i)),(3, .row [.v (.int .i64 c.config), .v (.int .i64 c.clock), .g 901, .g 902, .g 903, .v (.bool c.lost)])]) (fun i=>i≤c.txs.length) (fun i=>c.txs.length - i) 0 [903,3] [903] (Nat.zero_le _) ?_
 intro i h1
 refine aF ?_
 refine aI (fun e=>?_) (fun e=>?_)
 ·have hi:i<c.txs.length:=by omega
  have hl:(c.txs.take i).length=i:=by rw [List.length_take];omega
  have ht:=hb.2.2.2.2.1.2 i hi
  refine aF ?_
  refine aW [903] [0,1,2,3,4,5,6,7] fun B0 H0=>?_
  refine aX 3 (aCv 901 561 (aCv 902 562 (MZ (c.txs.getD i aCk) ht.2.2.2.2.1.1 ht.2.2.2.2.2.1.1))) fun _ _=>?_
  refine bG 4 rfl (by kernel_rfl) (dV TT_ok 57 (fun _=>cTx (c.txs.getD i aCk)) rfl rfl rfl rfl rfl rfl rfl (fun j hj=>by rcases j with _ | j <;>first | rfl | omega) (mu1:=[(561, .arr 0 0 fun _=>[]),(562, .arr 0 0 fun _=>[])]) rfl rfl rfl (bD ?_))
  refine bG 5 rfl (by kernel_rfl) (dM TT_ok 903 57 58 rfl rfl rfl rfl rfl rfl rfl rfl rfl rfl rfl rfl ⟨by show ((c.txs.take i).length+1) * 88≤_;omega,by unfold maxL;omega⟩ (bD ?_))
  refine aY [6,7] ?_
  refine dR 7 rfl (by kernel_rfl) (by kernel_rfl) (aV (eJ [] fun B0 H0=>?_))
  refine aP ?_
  refine bC (bL 903 58) ?_
  exact bN (i+1) hi (by omega) wF ⟨⟨_,rfl,aS (x:=c.txs.getD i aCk) (cC hi)⟩,wM⟩
 have hi:i=c.txs.length:=by omega
 subst hi
 rw [List.take_length]
 refine aF ?_
 refine aC (()) [(2,some 28)] ?_ ?_ ?_
 ·exact aCu _
 ·exact wM
 ·trivial
end
section
open Classical in
noncomputable def fF (c:GCluster) (id:Int):GTx×Bool:=if ClusOk c∧0≤bQ c id then (c.txs.getD (bQ c id).toNat aCk,true) else (aCk,false)
theorem rN (c:GCluster) (hb:D.bds dJ (bO c)) (id:Int):UO Tryz.prog 21 [vR (bO c),vI id] (fF c id).1 (fF c id).2:=by
 have b3:c.txs.length≤1048576:=hb.2.2.2.2.1.1
 have bt:=xZ hb (bQ c id).toNat
 have hlt:=gO (c:=c) (id:=id)
 refine aE Tryz.func21 fun B0 r_ D_ w0=>?_
 refine aT ?_
 refine aU 2 fun r_=>?_
 refine aF ?_
 refine aH (eT c hb) ?_
 refine eF rfl (fun e=>?_) (fun e=>?_)
 ·rw [show fF c id=(aCk,false) from if_neg fun h=>jN.1 e h.1]
  refine aF ?_
  refine bB (a5 4 4 5 (fun i=>cT (([]:List GNote).getD i aCn))) ?_
  refine bB (a5 4 5 5 (fun i=>cP (([]:List GSet).getD i aCm))) ?_
  refine bB (a6 4 4 901) ?_
  refine bB (a6 4 5 902) ?_
  refine aC (()) [(4,some 48),(5,none)] ?_ ?_ ?_
  ·exact aCu _
  ·exact wM
  ·trivial
 have hok:=c9.1 e
 refine aF ?_
 by_cases hf:0≤bQ c id
 ·have hin:=dW hf
  rw [show fF c id=(c.txs.getD (bQ c id).toNat aCk,true) from if_pos ⟨hok,hf⟩]
  refine rB TT_ok (DB c b3 id hf) rfl rfl (aCu _) rfl rfl ?_
  refine bX rfl (fun e=>by cases e) (fun e=>?_)
  refine aF ?_
  refine aR (MZ (c.txs.getD (bQ c id).toNat aCk) bt.2.2.2.2.1.1 bt.2.2.2.2.2.1.1) fun _ _=>?_
  refine aN ?_
  refine aC (()) [(4,some 48),(5,none)] ?_ ?_ ?_
  ·exact aCu _
  ·exact wM
  ·trivial
 ·rw [show fF c id=(aCk,false) from if_neg fun h=>hf h.2]
  refine rB TT_ok (EN c b3 id (by omega)) rfl rfl (aCu _) rfl rfl ?_
  refine bX rfl (fun e=>?_) (fun e=>by cases e)
  refine aF ?_
  refine bB (a5 4 4 5 (fun i=>cT (([]:List GNote).getD i aCn))) ?_
  refine bB (a5 4 5 5 (fun i=>cP (([]:List GSet).getD i aCm))) ?_
  refine bB (a6 4 4 901) ?_
  refine bB (a6 4 5 902) ?_
  refine aC (()) [(4,some 48),(5,none)] ?_ ?_ ?_
  ·exact aCu _
  ·exact wM
  ·trivial
theorem NV (c:GCluster) (hb:D.bds dJ (bO c)) (id home:Int):vQ Tryz.prog 19 [vR (bO c),vI id,vI home] (fA c id home).1 (fA c id home).2:=by
 have b2:c.machines.length≤1048576:=hb.2.2.2.1.1
 have b3:c.txs.length≤1048576:=hb.2.2.2.2.1.1
 refine aE Tryz.func19 fun B0 r_ D_ w0=>?_
 refine aT ?_
 refine aU 3 fun r_=>?_
 refine aF ?_
 refine aH (eT c hb) ?_
 refine eF rfl (fun e=>?_) (fun e=>?_)
 ·rw [show fA c id home=(aCl,1) from if_neg (jN.1 e)]
  refine aF ?_
  refine bB (a5 6 2 1 (fun i=>cE (([]:List GPlace).getD i aCi))) ?_
  refine bB (a5 6 3 4 (fun i=>bJ (([]:List GMachine).getD i aCj))) ?_
  refine bB (a5 6 4 7 (fun i=>cTx (([]:List GTx).getD i aCk))) ?_
  refine bB (a6 6 2 901) ?_
  refine bB (a6 6 3 902) ?_
  refine bB (a6 6 4 903) ?_
  refine aC (()) [(6,some 28),(7,none)] ?_ ?_ ?_
  ·exact aCu _
  ·exact wM
  ·trivial
 have hok:=c9.1 e
 rw [show fA c id home=(bif n9 c id then (c,2) else bif qP c home then (c,3) else ({ c with txs:=c.txs ++ [oB id home] },0)) from if_pos hok]
 refine aF ?_
 refine aR (iU c hb) fun _ _=>?_
 refine aN ?_
 refine aH (rQ _) ?_
 refine aA (b:=n9 c id) (fun e=>?_) (fun e2=>?_)
 ·rw [e]
  refine aF ?_
  refine aC (()) [(6,some 28),(7,none)] ?_ ?_ ?_
  ·exact aCu _
  ·exact wM
  ·trivial
 rw [e2]
 refine aF ?_
 refine aH (wX _) ?_
 refine JJ TT_ok (dC _ _ _) rfl rfl (aCu _) rfl rfl ?_ ?_
 ·exact ⟨vV,trivial⟩
 refine aA (b:=qP c home) (fun e=>?_) (fun e3=>?_)
 ·rw [e]
  refine aF ?_
  refine aC (()) [(6,some 28),(7,none)] ?_ ?_ ?_
  ·exact aCu _
  ·exact wM
  ·trivial
 rw [e3]
 have h3:c.txs.length≤60:=hok.1.2.2.2
 refine aF ?_
 refine cV TT_ok 68 (fun _=>UN id home) rfl rfl rfl rfl rfl rfl rfl (fun i hi=>by rcases i with _ | i <;>first | rfl | omega) (mu1:=[]) rfl rfl rfl ?_
 refine aN ?_
 refine cU TT_ok 903 68 69 rfl rfl rfl rfl rfl rfl rfl rfl rfl rfl rfl rfl ⟨by show (c.txs.length+1) * 88≤_;omega,by unfold maxL;omega⟩ ?_
 refine aN ?_
 refine bB (bL 69 903) ?_
 refine aC (()) [(6,some 28),(7,none)] ?_ ?_ ?_
 ·exact aCu _
 ·exact ⟨⟨_,rfl,aCt _⟩,⟨_,rfl,aCt _⟩,⟨_,rfl,wS rfl (HH id home)⟩,trivial⟩
 ·trivial
end
section
theorem Z5 {c:GCluster} (hok:ClusOk c) {id home:Int} (h:n9 c id=false):bQ (sH c id home) id=c.txs.length:=by
 unfold bQ
 refine gA (z:=aCk) (p:=fun t:GTx=>t.id == id) (i:=c.txs.length) (by show c.txs.length<(c.txs ++ [oB id home]).length;simp) (fun j hj=>?_) ?_
 ·have:=S5 hok h hj
  have e:=FK c id home j
  rw [if_pos hj] at e
  show (((sH c id home).txs.getD j aCk).id == id)=false
  rw [e]
  exact beq_eq_false_iff_ne.2 (by omega)
 ·have e:=FK c id home c.txs.length
  rw [if_neg (Nat.lt_irrefl _),if_pos rfl] at e
  show (((sH c id home).txs.getD c.txs.length aCk).id == id)=true
  rw [e];simp [oB]
end
section
theorem ES (c:GCluster) (id:Int):jD (eP c id).1:=by
 by_cases h:ClusOk c
 ·exact lH (BW h id)
 ·unfold eP;rw [if_neg h];exact s9
theorem IS (c:GCluster) (id:Int):jD (bZ c id).1:=by
 by_cases h:ClusOk c
 ·exact lH (lQ h id)
 ·unfold bZ;rw [if_neg h];exact s9
theorem RZ (c:GCluster) (id home:Int):jD (fA c id home).1:=by
 by_cases h:ClusOk c
 ·exact lH (EU h id home)
 ·unfold fA;rw [if_neg h];exact s9
theorem I5 {n:Nat} {β:Nat→Int} (hn:n≤1048576) (hβ:eS β) (i h:Int) (h1:0≤i) (h2:i≤n) (k:GCluster) (hk:k.txs.length≤1048576):zE Tryz.prog 100 [vR (bO k)] n β i h (fun _:Int=>True) vI:=by
 refine aE Tryz.func100 fun B0 r_ D_ w0=>?_
 refine aT ?_
 refine zS ?_
 refine a7 (ι:=Int×Int) (fun _=>[]) (fun y=>[(700,dE y.1 y.2)]) (fun y=>0≤y.1∧y.1≤n) [700] [] ?_ ?_
 ·by_cases hl:k.txs.length=0
  ·have hz:decide ((k.txs.length:Int) > 0) = !true:=decide_eq_false (by omega)
   refine aF ?_
   refine lK (vB true) rfl rfl rfl rfl (hz) rfl rfl ?_
   refine aN ?_
   rw [hz]
   refine bX rfl (fun e=>by cases e) (fun _=>?_)
   refine aF ?_
   exact aL (i,h) ⟨h1,h2⟩ Nat.zero_lt_one
  ·have hz:decide ((k.txs.length:Int) > 0)=true:=decide_eq_true (by omega)
   refine aF ?_
   refine cO TT_ok (d9 hn hβ i h h1 h2 8) rfl rfl (aCu _) (fun _=>rfl) rfl rfl rfl (fun z ⟨z1,z2,z3⟩=>?_) (hg:=⟨rfl,congrArg (fun x=>some (vB x)) hz⟩)
   refine aN ?_
   rw [hz]
   refine aA (fun _=>?_) (fun _=>?_)
   ·refine aF ?_
    refine aW [700] [0,1,2,3,4,5,6,7,8,9,10] fun B0 H0=>?_
    refine aX 6 (bR hn hβ z.2.1 z.2.2 z2 z3 k.txs.length) fun y ⟨y1,y2,y3⟩=>?_
    refine aY [7,8,9,10] ?_
    refine aP ?_
    refine aC (((k.txs.getD y.1.toNat aCk).id,y.2.1,y.2.2)) [(4,none)] ?_ ?_ ?_
    ·exact aCu _
    ·exact wM
    ·exact ⟨trivial,y2,y3⟩
   ·refine aF ?_
    exact aL (z.2.1,z.2.2) ⟨z2,z3⟩ Nat.zero_lt_one
 rintro ⟨i1,i2⟩ ⟨u1,u2⟩
 dsimp only at u1 u2 ⊢
 refine aZ ?_
 refine cV TT_ok 50 (fun i=>bS (([0,1,5,9,1000000,1000001]:List Int).getD i 0)) rfl rfl rfl rfl rfl rfl rfl (fun i hi=>by rcases i with _ | _ | _ | _ | _ | _ | i <;>first | rfl | omega) (mu1:=[]) rfl rfl rfl ?_
 refine aN ?_
 refine aR (bR hn hβ i1 i2 u1 u2 6) fun z ⟨z1,z2,z3⟩=>?_
 refine aN ?_
 refine aC ((([0,1,5,9,1000000,1000001]:List Int).getD z.1.toNat 0,z.2.1,z.2.2)) [(4,none)] ?_ ?_ ?_
 ·exact aCu _
 ·exact wM
 ·exact ⟨trivial,z2,z3⟩
abbrev VO (P:Program) (f:Nat) (n:Nat) (β:Nat→Int) (i h:Int):Prop :=
 Con P f [700,701] [.a (.p 700 0)] (xB n β i h) (fun y:GCluster×Int×Int×Int=>jD y.1∧0≤y.2.2.1∧y.2.2.1≤n) (fun y=>[iC y.1 901 902 903,vI y.2.1]) fun y=>(700,dE y.2.2.1 y.2.2.2) :: muD y.1 901 902 903
theorem N5 {n:Nat} {β:Nat→Int} (hn:n≤1048576) (hβ:eS β) (i h:Int) (h1:0≤i) (h2:i≤n):VO Tryz.prog 121 n β i h:=by
 refine aE Tryz.func121 fun B0 r_ D_ w0=>?_
 refine aF ?_
 refine aR (nk:=[700,61,62,63]) (aCv 901 61 (aCv 902 62 (aCv 903 63 (rG hn hβ i h h1 h2)))) fun y ⟨y1,y2,y3⟩=>?_
 obtain ⟨k,i1,i2⟩:=y
 dsimp only at y1 y2 y3 ⊢
 have hb:=fI y1
 have ht:k.txs.length≤1048576:=hb.2.2.2.2.1.1
 refine aN ?_
 refine aR (d9 hn hβ i1 i2 y2 y3 2) fun a ⟨a1,a2,a3⟩=>?_
 refine aN ?_
 refine aH (d5 k hb) ?_
 refine a7 (ι:=Int×Int) (fun _=>[]) (fun y=>[(700,dE y.1 y.2)]) (fun y=>0≤y.1∧y.1≤n) [700] [] ?_ ?_
 ·refine aA (fun e=>?_) (fun _=>?_)
  rotate_left
  ·refine aF ?_
   exact aL (a.2.1,a.2.2) ⟨a2,a3⟩ Nat.zero_lt_one
  have hok:ClusOk k:=by
   revert e
   cases a.1
   ·intro e;cases e
   ·intro e;exact c9.1 e
  refine aT ?_
  refine zS ?_
  refine a7 (ι:=Int) (fun v=>[(5,vI v)]) (fun _=>[]) (fun _=>True) [] [] ?_ ?_
  ·refine aF ?_
   refine aI (fun e2=>?_) (fun _=>?_)
   ·have hx:((k.txs.length:Int) - 1).toNat<k.txs.length:=by omega
    have hid:=y1.2 _ (cJ (z:=aCk) hx)
    refine aF ?_
    exact aL _ trivial Nat.zero_lt_one
   ·refine aF ?_
    exact aL _ trivial Nat.zero_lt_one
  intro id _
  refine aZ ?_
  have hul:=EM k
  have hml:k.machines.length≤1048576:=hb.2.2.2.1.1
  refine aR (aCv 900 64 (D3 k hb)) fun _ _=>?_
  refine aN ?_
  refine aI (fun e2=>?_) (fun _=>?_)
  rotate_left
  ·refine aF ?_
   exact aL (a.2.1,a.2.2) ⟨a2,a3⟩ Nat.zero_lt_one
  refine aF ?_
  refine a7 (ι:=Unit) (fun _=>[(7, .a (.p 7 0)),(8,vI (fA k id ((iG k).getD 0 0)).2)]) (fun _=>[(7, .row (fW (fA k id ((iG k).getD 0 0)).1 71 72 73)),(71,bE 1 cE aCi (fA k id ((iG k).getD 0 0)).1.places),(72,bE 4 bJ aCj (fA k id ((iG k).getD 0 0)).1.machines),(73,bE 7 cTx aCk (fA k id ((iG k).getD 0 0)).1.txs)]) (fun _=>True) [] [] ?_ ?_
  ·refine aW [] [0,1,2,3,4,5,6,7,8,9,10,11] fun B0 H0=>?_
   refine eU 5 9 rfl rfl (by kernel_rfl) (gG (aCv 901 71 (aCv 902 72 (aCv 903 73 (tG k hb id ((iG k).getD 0 0))))) rfl rfl (aCu _) (fun _=>rfl) rfl rfl rfl (fun _ _=>bD ?_)) (aV (bD ?_))
   ·refine aY [6,7,8,9,10,11] ?_
    refine bG 9 rfl (by kernel_rfl) (aV (bD ?_))
    refine bG 10 rfl (by kernel_rfl) (aV (bD ?_))
    refine aY [11] ?_
    refine aP ?_
    exact aL () trivial Nat.zero_lt_one
   ·skip
    refine aX 5 (aCv 901 71 (aCv 902 72 (aCv 903 73 (tG k hb id ((iG k).getD 0 0))))) fun _ _=>?_
    refine aY [6,7,8,10,11] ?_
    refine bG 10 rfl (by kernel_rfl) (aV (bD ?_))
    refine aY [11] ?_
    refine aP ?_
    exact aL () trivial Nat.zero_lt_one
  rintro ⟨⟩ _
  have hX:=EU hok id ((iG k).getD 0 0)
  generalize (fA k id ((iG k).getD 0 0)).1=K at hX
  generalize (fA k id ((iG k).getD 0 0)).2=code
  refine aZ ?_
  refine aQ (fun e3=>?_) (fun _=>?_)
  rotate_left
  ·refine aF ?_
   exact aL (a.2.1,a.2.2) ⟨a2,a3⟩ Nat.zero_lt_one
  refine aF ?_
  refine aR (bR hn hβ a.2.1 a.2.2 a2 a3 4) fun nn ⟨nn1,nn2,nn3⟩=>?_
  refine aN ?_
  refine bB (D4 7 rfl) ?_
  refine cY (ι:=GCluster×Int×Int×Int) (fun y=>[(9,vI y.2.1)]) (fun y=>(4, .row (fW y.1 71 72 73)) :: (700,dE y.2.2.1 y.2.2.2) :: muD y.1 71 72 73) (fun y=>ClusOk y.1∧(0≤y.2.1∧y.2.1≤4)∧0≤y.2.2.1∧y.2.2.1≤n) (fun y=>y.2.1.toNat) (K,nn.1,nn.2.1,nn.2.2) [4,700,71,72,73] [71,72,73] rfl rfl ⟨hX,by dsimp only;omega,nn2,nn3⟩ wF ⟨⟨_,rfl,aCt _⟩,⟨_,rfl,aCt _⟩,⟨_,rfl,lY⟩,wM⟩ ?_
  clear hX
  rintro ⟨K,m,i3,i4⟩ ⟨u1,u2,u3,u4⟩
  dsimp only at u1 u2 u3 u4 ⊢
  have hKb:=l8 u1
  refine aF ?_
  refine aI (fun e4=>?_) (fun _=>?_)
  ·refine aF ?_
   refine a7 (ι:=Int×Int×Int) (fun y=>[(10, .a (.p 10 0)),(11,vI (iM K id y.1).2.1),(12,vI (iM K id y.1).2.2)]) (fun y=>[(10, .row (fW (iM K id y.1).1 81 82 83)),(81,bE 1 cE aCi (iM K id y.1).1.places),(82,bE 4 bJ aCj (iM K id y.1).1.machines),(83,bE 7 cTx aCk (iM K id y.1).1.txs),(700,dE y.2.1 y.2.2)]) (fun y=>0≤y.2.1∧y.2.1≤n) [700] [] ?_ ?_
   ·refine aW [700] [0,1,2,3,4,5,6,7,8,9,10,11,12] fun B0 H0=>?_
    refine eU 3 9 rfl rfl (by kernel_rfl) (gG (nk:=[700]) (bR hn hβ i3 i4 u3 u4 2) rfl rfl (aCu _) (fun _=>rfl) rfl rfl rfl (fun r ⟨r1,r2,r3⟩=>bD ?_)) (aV (bD ?_))
    ·skip
     refine eU 4 9 rfl rfl (by kernel_rfl) (gG (aCv 901 81 (aCv 902 82 (aCv 903 83 (tW K hKb id r.1)))) rfl rfl (aCu _) (fun _=>rfl) rfl rfl rfl (fun _ _=>bD ?_)) (aV (bD ?_))
     ·refine aY [5,6,7,8,9,10,11,12] ?_
      refine bG 9 rfl (by kernel_rfl) (aV (bD ?_))
      refine bG 10 rfl (by kernel_rfl) (aV (bD ?_))
      refine aY [11,12] ?_
      refine aP ?_
      exact aL (r.1,r.2.1,r.2.2) ⟨r2,r3⟩ Nat.zero_lt_one
     ·skip
      refine aX 4 (aCv 901 81 (aCv 902 82 (aCv 903 83 (tW K hKb id r.1)))) fun _ _=>?_
      refine aY [5,6,7,8,10,11,12] ?_
      refine bG 10 rfl (by kernel_rfl) (aV (bD ?_))
      refine aY [11,12] ?_
      refine aP ?_
      exact aL (r.1,r.2.1,r.2.2) ⟨r2,r3⟩ Nat.zero_lt_one
    ·skip
     refine aX (nk:=[700]) 3 (bR hn hβ i3 i4 u3 u4 2) fun r ⟨r1,r2,r3⟩=>?_
     refine aX 4 (aCv 901 81 (aCv 902 82 (aCv 903 83 (tW K hKb id r.1)))) fun _ _=>?_
     refine aY [5,6,7,8,10,11,12] ?_
     refine bG 10 rfl (by kernel_rfl) (aV (bD ?_))
     refine aY [11,12] ?_
     refine aP ?_
     exact aL (r.1,r.2.1,r.2.2) ⟨r2,r3⟩ Nat.zero_lt_one
   rintro ⟨r,i5,i6⟩ ⟨v1,v2⟩
   dsimp only at v1 v2 ⊢
   have hA:=M6 u1 id r
   generalize (iM K id r).1=K2 at hA
   generalize (iM K id r).2.1=w1
   generalize (iM K id r).2.2=w2
   refine aZ ?_
   refine aI (fun _=>?_) (fun _=>?_)
   ·refine aF ?_
    refine bC (bL 71 81) ?_
    refine bC (bL 72 82) ?_
    refine bC (bL 73 83) ?_
    exact bN (K2,m - 1,i5,i6) ⟨hA,by dsimp only;omega,v1,v2⟩ (by dsimp only;omega) wF ⟨⟨_,rfl,aCt _⟩,⟨_,rfl,aCt _⟩,⟨_,rfl,lY⟩,wM⟩
   ·refine aF ?_
    exact aL (K,m - 1,i5,i6) ⟨u1,by dsimp only;omega,v1,v2⟩ (by dsimp only;omega)
  refine aF ?_
  refine bB (bL 71 901) ?_
  refine bB (bL 72 902) ?_
  refine bB (bL 73 903) ?_
  refine aC ((K,id,i3,i4)) [(2,some 28),(3,none)] ?_ ?_ ?_
  ·exact aCu _
  ·exact wM
  ·exact ⟨lH u1,u3,u4⟩
 rintro ⟨i3,i4⟩ ⟨u1,u2⟩
 dsimp only at u1 u2 ⊢
 refine aZ ?_
 refine aW [700,2] [0,1,2,3,4,5] fun B0 H0=>?_
 refine aX 3 (I5 hn hβ i3 i4 u1 u2 k ht) fun z ⟨z1,z2,z3⟩=>?_
 refine bG 4 rfl (by kernel_rfl) (aV (bD ?_))
 refine aY [5] ?_
 refine aP ?_
 refine bB (bL 61 901) ?_
 refine bB (bL 62 902) ?_
 refine bB (bL 63 903) ?_
 refine aC ((k,z.1,z.2.1,z.2.2)) [(2,some 28),(3,none)] ?_ ?_ ?_
 ·exact aCu _
 ·exact wM
 ·exact ⟨y1,z2,z3⟩
end
section
theorem XQ {n:Nat} {β:Nat→Int} (hn:n≤1048576) (hβ:eS β) (i h:Int) (h1:0≤i) (h2:i≤n):VO Tryz.prog 117 n β i h:=by
 refine aE Tryz.func117 fun B0 r_ D_ w0=>?_
 refine aF ?_
 refine aR (nk:=[700,61,62,63]) (aCv 901 61 (aCv 902 62 (aCv 903 63 (N5 hn hβ i h h1 h2)))) fun y ⟨y1,y2,y3⟩=>?_
 obtain ⟨k,id,i1,i2⟩:=y
 dsimp only at y1 y2 y3 ⊢
 have hb:=fI y1
 refine aN ?_
 refine aR (d9 hn hβ i1 i2 y2 y3 2) fun a ⟨a1,a2,a3⟩=>?_
 refine aN ?_
 refine a7 (ι:=GCluster×Int×Int) (fun _=>[]) (fun y=>(4, .row (fW y.1 61 62 63)) :: (700,dE y.2.1 y.2.2) :: muD y.1 61 62 63) (fun y=>jD y.1∧0≤y.2.1∧y.2.1≤n) [4,700,61,62,63] [61,62,63] ?_ ?_
 ·refine aA (fun _=>?_) (fun _=>?_)
  rotate_left
  ·refine aF ?_
   exact aL (k,a.2.1,a.2.2) ⟨y1,a2,a3⟩ Nat.zero_lt_one
  refine aF ?_
  refine aR (aCv 901 71 (aCv 902 72 (aCv 903 73 (w7 k hb id)))) fun _ _=>?_
  refine aN ?_
  have hX:=ES k id
  generalize (eP k id).1=K at hX
  generalize (eP k id).2=code
  refine aQ (fun _=>?_) (fun _=>?_)
  rotate_left
  ·refine aF ?_
   exact aL (k,a.2.1,a.2.2) ⟨y1,a2,a3⟩ Nat.zero_lt_one
  refine aF ?_
  refine aR (bR hn hβ a.2.1 a.2.2 a2 a3 10) fun nn ⟨nn1,nn2,nn3⟩=>?_
  refine aN ?_
  refine bB (D4 6 rfl) ?_
  refine cY (ι:=GCluster×Int×Int×Int) (fun y=>[(8,vI y.2.1)]) (fun y=>(4, .row (fW y.1 71 72 73)) :: (700,dE y.2.2.1 y.2.2.2) :: muD y.1 71 72 73) (fun y=>jD y.1∧(0≤y.2.1∧y.2.1≤10)∧0≤y.2.2.1∧y.2.2.1≤n) (fun y=>y.2.1.toNat) (K,nn.1,nn.2.1,nn.2.2) [4,700,71,72,73] [71,72,73] rfl rfl ⟨hX,by dsimp only;omega,nn2,nn3⟩ wF ⟨⟨_,rfl,aCt _⟩,⟨_,rfl,aCt _⟩,⟨_,rfl,lY⟩,wM⟩ ?_
  clear hX
  rintro ⟨K,m,i3,i4⟩ ⟨u1,u2,u3,u4⟩
  dsimp only at u1 u2 u3 u4 ⊢
  have hKb:=fI u1
  refine aF ?_
  refine aI (fun e4=>?_) (fun _=>?_)
  ·refine aF ?_
   refine aR (aCv 901 81 (aCv 902 82 (aCv 903 83 (vY K hKb id)))) fun _ _=>?_
   refine aN ?_
   have hA:=IS K id
   generalize (bZ K id).1=K2 at hA
   generalize (bZ K id).2=w2
   refine aQ (fun _=>?_) (fun _=>?_)
   ·refine aF ?_
    refine bC (bL 71 81) ?_
    refine bC (bL 72 82) ?_
    refine bC (bL 73 83) ?_
    exact bN (K2,m - 1,i3,i4) ⟨hA,by dsimp only;omega,u3,u4⟩ (by dsimp only;omega) wF ⟨⟨_,rfl,aCt _⟩,⟨_,rfl,aCt _⟩,⟨_,rfl,lY⟩,wM⟩
   ·refine aF ?_
    exact aL (K,m - 1,i3,i4) ⟨u1,by dsimp only;omega,u3,u4⟩ (by dsimp only;omega)
  refine aF ?_
  refine bC (bL 61 71) ?_
  refine bC (bL 62 72) ?_
  refine bC (bL 63 73) ?_
  exact aL (K,i3,i4) ⟨u1,u3,u4⟩ Nat.zero_lt_one
 clear a1 a2 a3
 rintro ⟨k,i3,i4⟩ ⟨u1,u2,u3⟩
 dsimp only at u1 u2 u3 ⊢
 refine aZ ?_
 refine bB (bL 61 901) ?_
 refine bB (bL 62 902) ?_
 refine bB (bL 63 903) ?_
 refine aC ((k,id,i3,i4)) [(2,some 28),(3,none)] ?_ ?_ ?_
 ·exact aCu _
 ·exact wM
 ·exact ⟨u1,u2,u3⟩
abbrev Q0 (P:Program) (f:Nat) (n:Nat) (β:Nat→Int):Prop :=
 Con P f [701] [.a (.g 701)] [(701,rD n β)] (fun y:GCluster=>jD y) (fun y=>[iC y 901 902 903]) fun y=>muD y 901 902 903
theorem HZ {n:Nat} {β:Nat→Int} (hn:n≤1048576) (hβ:eS β):Q0 Tryz.prog 34 n β:=by
 refine aE Tryz.func34 fun B0 r_ D_ w0=>?_
 refine aF ?_
 refine aR (mG hn hβ) fun h0 _=>?_
 refine aN ?_
 refine aR (nk:=[700,901,902,903]) (rG hn hβ 0 h0 (Int.le_refl _) (Int.natCast_nonneg _)) fun y ⟨y1,y2,y3⟩=>?_
 refine aN ?_
 refine aC (y.1) [(2,some 28)] ?_ ?_ ?_
 ·exact aCu _
 ·exact wM
 ·exact y1
theorem UG {n:Nat} {β:Nat→Int} (hn:n≤1048576) (hβ:eS β):A7 Tryz.prog 11 n β:=by
 refine aE Tryz.func11 fun B0 r_ D_ w0=>?_
 refine aF ?_
 refine aR (mG hn hβ) fun h0 _=>?_
 refine aN ?_
 refine aR (nk:=[700,901,902,903]) (rG hn hβ 0 h0 (Int.le_refl _) (Int.natCast_nonneg _)) fun y ⟨y1,y2,y3⟩=>?_
 refine aN ?_
 refine aW [700,2] [0,1,2,3,4] fun B0 H0=>?_
 refine iH 2 (o0 hn hβ y.2.1 y.2.2 y2 y3 (-1) 6 (by decide) (by decide) (by decide)) rfl rfl rfl (aCu _) (fun _=>rfl) rfl rfl rfl fun z ⟨z1,z2,z3⟩=>?_
 refine bG 3 rfl (by kernel_rfl) (aV (bD ?_))
 refine aY [4] ?_
 refine aP ?_
 refine aC ((y.1,z.1)) [(2,some 28),(3,none)] ?_ ?_ ?_
 ·exact aCu _
 ·exact wM
 ·exact y1
theorem Q7 {n:Nat} {β:Nat→Int} (hn:n≤1048576) (hβ:eS β) :
  Con Tryz.prog 18 [701] [.a (.g 701)] [(701,rD n β)] (fun y:GCluster×Int×Int=>jD y.1) (fun y=>[iC y.1 901 902 903,vI y.2.1,vI y.2.2]) fun y=>muD y.1 901 902 903:=by
 refine aE Tryz.func18 fun B0 r_ D_ w0=>?_
 refine aF ?_
 refine aR (mG hn hβ) fun h0 _=>?_
 refine aN ?_
 refine aR (nk:=[700,901,902,903]) (rG hn hβ 0 h0 (Int.le_refl _) (Int.natCast_nonneg _)) fun y ⟨y1,y2,y3⟩=>?_
 obtain ⟨k,i1,i2⟩:=y
 dsimp only at y1 y2 y3 ⊢
 have ht:k.txs.length≤60000:=by have:=y1.1;unfold iL wL at this;omega
 refine aN ?_
 refine a7 (ι:=Int×Int×Int) (fun y=>[(7,vI y.1)]) (fun y=>[(700,dE y.2.1 y.2.2)]) (fun y=>0≤y.2.1∧y.2.1≤n) [700] [] ?_ ?_
 ·refine aI (fun e2=>?_) (fun _=>?_)
  ·have hx:((k.txs.length:Int) - 1).toNat<k.txs.length:=by omega
   have hid:=y1.2 _ (cJ (z:=aCk) hx)
   refine aF ?_
   refine aW [700] [0,1,2,3,4,5,6,7,8,9,10,11,12] fun B0 H0=>?_
   refine aX 10 (bR hn hβ i1 i2 y2 y3 3) fun z ⟨z1,z2,z3⟩=>?_
   refine aY [11,12] ?_
   refine aP ?_
   exact aL ((k.txs.getD ((k.txs.length:Int) - 1).toNat aCk).id+z.1,z.2.1,z.2.2) ⟨z2,z3⟩ Nat.zero_lt_one
  ·refine aF ?_
   exact aL (1,i1,i2) ⟨y2,y3⟩ Nat.zero_lt_one
 rintro ⟨id,i3,i4⟩ ⟨u1,u2⟩
 dsimp only at u1 u2 ⊢
 refine aZ ?_
 refine aR (d9 hn hβ i3 i4 u1 u2 14) fun a ⟨a1,a2,a3⟩=>?_
 refine aN ?_
 refine a7 (ι:=Int×Int×Int) (fun y=>[(7,vI y.1)]) (fun y=>[(700,dE y.2.1 y.2.2)]) (fun y=>0≤y.2.1∧y.2.1≤n) [700] [] ?_ ?_
 ·refine aA (fun e2=>?_) (fun _=>?_)
  ·refine aF ?_
   refine aM 50 (fun i=>bS (([0,1000000,1000001, -1]:List Int).getD i 0)) (qW rfl rfl rfl rfl) (mu1:=[]) ?_
   refine aN ?_
   refine aR (bR hn hβ a.2.1 a.2.2 a2 a3 4) fun z ⟨z1,z2,z3⟩=>?_
   refine aN ?_
   exact aL (([0,1000000,1000001, -1]:List Int).getD z.1.toNat 0,z.2.1,z.2.2) ⟨z2,z3⟩ Nat.zero_lt_one
  ·refine aF ?_
   exact aL (id,a.2.1,a.2.2) ⟨a2,a3⟩ Nat.zero_lt_one
 rintro ⟨id,i5,i6⟩ ⟨v1,v2⟩
 dsimp only at v1 v2 ⊢
 refine aZ ?_
 refine aW [700,2] [0,1,2,3,4,5,6] fun B0 H0=>?_
 refine iH 3 (o0 hn hβ i5 i6 v1 v2 (-1) 6 (by decide) (by decide) (by decide)) rfl rfl rfl (aCu _) (fun _=>rfl) rfl rfl rfl fun z ⟨z1,z2,z3⟩=>?_
 refine bG 4 rfl (by kernel_rfl) (aV (bD ?_))
 refine aY [5,6] ?_
 refine aP ?_
 refine aC ((k,id,z.1)) [(2,some 28),(3,none),(4,none)] ?_ ?_ ?_
 ·exact aCu _
 ·exact wM
 ·exact y1
end
section
def RelI (l m:List V):Prop := ∀ B Z vs,V.rels B Z l vs→V.rels B Z m vs
theorem RelI.e:RelI [] []:=fun _ _ _ e=>e
theorem RelI.c {x:V} {l m:List V} (k:RelI l m):RelI (x :: l) (x :: m):=fun _ _ _ ⟨y,t,e1,e2,e3⟩=>⟨y,t,e1,e2,k _ _ _ e3⟩
theorem RelI.n {q:Tg} {sz:Nat} {f:Nat→List D} {l m:List V} (k:RelI l m):RelI (.v (.slice none 0 0) :: l) (.s q sz 0 f :: m):=fun _ _ _ ⟨y,t,e1,e2,e3⟩=>⟨y,t,e1,by
 have e2:y = .slice none 0 0:=e2
 subst e2;exact ⟨none,0,rfl,Nat.le_refl _,Nat.zero_le _, .inl rfl⟩,k _ _ _ e3⟩
theorem SV.imp_agI {P:Program} {l m:List V} (h:RelI l m):(SV.ag l).imp P (.ag m):=fun B Z _ ⟨vs,e1,e2⟩=>⟨vs,e1,h B Z vs e2⟩
theorem z6 {P:Program}:(SV.ag [.v (.int .i64 0), .v (.int .i64 0),lU,lU,lU, .v (.bool false)]).imp P (vR (bO aCl)):=SV.imp_agI (RelI.c (RelI.c (RelI.n (RelI.n (RelI.n (RelI.c RelI.e))))))
end
section
theorem WC {c:GCluster} {id home:Int} (h:(fA c id home).2=1):¬ ClusOk c∧(fA c id home).1=aCl:=by
 by_cases hok:ClusOk c
 ·exfalso
  unfold fA at h
  rw [if_pos hok] at h
  revert h
  cases n9 c id
  ·cases qP c home
   ·exact fun h=>absurd (show (0:Int)=1 from h) (by decide)
   ·exact fun h=>absurd (show (3:Int)=1 from h) (by decide)
  ·exact fun h=>absurd (show (2:Int)=1 from h) (by decide)
 ·exact ⟨hok,by unfold fA;rw [if_neg hok]⟩
theorem XL {c:GCluster} {id home:Int} (h1:(fA c id home).2≠1) (h0:(fA c id home).2≠0):(fA c id home).1=c:=by
 by_cases hok:ClusOk c
 ·unfold fA at h0 ⊢
  rw [if_pos hok] at h0 ⊢
  revert h0
  cases n9 c id
  ·cases qP c home
   ·exact fun h=>absurd rfl h
   ·exact fun _=>rfl
  ·exact fun _=>rfl
 ·exact absurd (by unfold fA;rw [if_neg hok]) h1
theorem U1 {c:GCluster} {id home:Int} (h:(fA c id home).2=0):ClusOk c∧n9 c id=false∧qP c home=false∧(fA c id home).1=sH c id home:=by
 by_cases hok:ClusOk c
 ·unfold fA at h ⊢
  rw [if_pos hok] at h ⊢
  revert h
  cases h2:n9 c id
  ·cases h3:qP c home
   ·exact fun _=>⟨hok,rfl,rfl,rfl⟩
   ·exact fun h=>absurd (show (3:Int)=0 from h) (by decide)
  ·exact fun h=>absurd (show (2:Int)=0 from h) (by decide)
 ·unfold fA at h
  rw [if_neg hok] at h
  exact absurd (show (1:Int)=0 from h) (by decide)
theorem aBu {n:Nat} {β:Nat→Int} (hβ:eS β):Ans Tryz.prog 4 [701] [.a (.g 701)] [(701,rD n β)] (vB true):=by
 refine aE Tryz.func4 fun B0 r_ D_ w0=>?_
 refine aF ?_
 refine aH (CI n _) ?_
 refine aI (fun e=>?_) (fun e=>?_)
 ·refine aF ?_
  exact aG [(2,none)] (rfl)
 have hn:n≤1048576:=by omega
 refine aF ?_
 refine aR (nk:=[61,62,63]) (aCv 901 61 (aCv 902 62 (aCv 903 63 (Q7 hn hβ)))) fun y y1=>?_
 obtain ⟨c,id,home⟩:=y
 dsimp only at y1 ⊢
 have hb:=fI y1
 have hX:=fI (RZ c id home)
 refine aN ?_
 refine aR (aCv 901 71 (aCv 902 72 (aCv 903 73 (NV c hb id home)))) fun _ _=>?_
 refine aN ?_
 refine aR (aCv 901 81 (aCv 902 82 (aCv 903 83 (tG c hb id home)))) fun _ _=>?_
 refine aN ?_
 refine aH (fZ (fA c id home).1 hX) ?_
 refine bX rfl (fun e=>by simp at e) (fun _=>?_)
 refine aF ?_
 refine aQ (fun e1=>?_) (fun e1=>?_)
 ·obtain ⟨hno,hz⟩:=WC e1
  rw [hz]
  refine aF ?_
  refine lZ TT_ok (fZ aCl (rA _ (by decide))) rfl rfl (SVs.cons (aCs _) (SVs.cons z6 rfl)) rfl rfl ?_
  have hO:=mM c hb
  rw [b7 hno] at hO
  refine aH (hO) ?_
  exact aG [(2,none)] (rfl)
 refine aF ?_
 refine fO rfl (fun e0=>?_) (fun e0=>?_)
 ·rw [XL e1 e0]
  refine aF ?_
  refine aH (fZ c hb) ?_
  exact aG [(2,none)] (rfl)
 obtain ⟨hok,h2,h3,hx⟩:=U1 e0
 rw [hx] at hX ⊢
 have hokX:=WE hok h2 h3
 have hf:=Z5 hok (home:=home) h2
 have hlen:(sH c id home).txs.length=c.txs.length+1:=by show (c.txs ++ [oB id home]).length=_;simp
 have hcl:c.txs.length≤60:=hok.1.2.2.2
 have hg:(sH c id home).txs.getD c.txs.length aCk=oB id home:=by rw [FK,if_neg (Nat.lt_irrefl _),if_pos rfl]
 have hF:=rN (sH c id home) hX id
 rw [show fF (sH c id home) id=(oB id home,true) from by unfold fF;rw [if_pos ⟨hokX,by rw [hf];omega⟩,hf];show ((sH c id home).txs.getD ((c.txs.length:Nat):Int).toNat aCk,true)=_;rw [Int.toNat_natCast,hg]] at hF
 refine aF ?_
 refine aR (aCv 901 91 (aCv 902 92 hF)) fun _ _=>?_
 refine aN ?_
 refine aH (sX (sH c id home) hX hokX) ?_
 have hfin:(bif bif bif bif (oB id home,true).2 then (oB id home,true).1.phase == 1 else false then true else false then ((sH c id home).txs.length:Int) == (c.txs.length:Int)+1 else false then ((sH c id home).txs.getD ((c.txs.length:Nat):Int).toNat aCk).id == id else false)=true:=by
  rw [Int.toNat_natCast,hg,hlen]
  simp [oB]
 exact aG [(2,none)] (hfin)
end
end Go.Proofs.YtnffflcjaipdkaaGreat
