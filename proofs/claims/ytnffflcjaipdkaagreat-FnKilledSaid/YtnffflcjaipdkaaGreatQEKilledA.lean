/-
  What the claim leans on, made short by program.
-/
import Derived.Test.YtnffflcjaipdkaaGreatQF
namespace Go.Proofs.YtnffflcjaipdkaaGreat
open Go Go.RowKit
set_option linter.unusedVariables false
set_option linter.unusedSimpArgs false
set_option maxRecDepth 4000
section
theorem tT (xs:List Int) (hl:xs.length≤1048576):MkL Tryz.prog 139 [vL 1 bS 0 xs] 1 bS 0 xs:=by
 refine aE Tryz.func139 fun B0 r_ D_ w0=>?_
 refine aF ?_
 refine HY TT_ok false rfl rfl rfl rfl rfl rfl fun b hb=>?_
 refine aN ?_
 refine aA (fun e=>?_) (fun e=>?_)
 ·have h0:=hb e
  refine aF ?_
  refine bB (oX 2 900 1 (fun i=>bS (([]:List Int).getD i 0)) rfl rfl rfl rfl) ?_
  refine aC (()) [(2,none)] ?_ ?_ ?_
  ·exact aCu _
  ·exact ⟨⟨_,rfl,bP (List.length_eq_zero_iff.1 h0).symm⟩,trivial⟩
  ·trivial
 ·refine aF ?_
  refine aM 5 (fun i=>bS (([]:List Int).getD i 0)) (fun i hi=>absurd hi (Nat.not_lt_zero _)) (mu1:=[]) ?_
  refine aN ?_
  refine oG TT_ok 5 900 rfl rfl rfl rfl rfl rfl rfl rfl rfl rfl rfl rfl ⟨by simp;omega,by unfold maxL;omega⟩ ?_
  refine aN ?_
  refine aC (()) [(2,none)] ?_ ?_ ?_
  ·exact aCu _
  ·exact ⟨⟨_,rfl,mX (ys:=([]:List Int)) (by simp)⟩,trivial⟩
  ·trivial
end
section
theorem qC (c:GCluster) (hb:D.bds dJ (bO c)):MkL Tryz.prog 17 [vR (bO c)] 1 bS 0 (iG c):=by
 have b2:c.machines.length≤1048576:=hb.2.2.2.1.1
 refine aE Tryz.func17 fun B0 r_ D_ w0=>?_
 refine aT ?_
 refine aU 1 fun r_=>?_
 refine aF ?_
 refine aH (eT c hb) ?_
 refine eF rfl (fun e=>?_) (fun e=>?_)
 ·refine aF ?_
  refine bB (oX 2 900 1 (fun i=>bS (([]:List Int).getD i 0)) rfl rfl rfl rfl) ?_
  refine aC (()) [(2,none)] ?_ ?_ ?_
  ·exact aCu _
  ·exact ⟨⟨_,rfl,bP (xs:=[]) (by rw [iG,if_neg (jN.1 e)])⟩,trivial⟩
  ·trivial
 have hok:=c9.1 e
 refine aF ?_
 refine bB (oX 3 22 1 (fun i=>bS (([]:List Int).getD i 0)) rfl rfl rfl rfl) ?_
 refine aK (ι:=Nat) (fun i=>[(12,vI i),(3, .a (.g 22))]) (fun i=>[(22,bE 1 bS 0 (upL c i))]) (fun i=>i≤c.machines.length) (fun i=>c.machines.length - i) 0 [22] [22] (Nat.zero_le _) ?_
 intro i h3
 have hle:=H2 c i
 refine aF ?_
 refine aI (fun e1=>?_) (fun e1=>?_)
 ·have hi:i<c.machines.length:=by omega
  refine aF ?_
  refine aA (fun e2=>?_) (fun e2=>?_)
  ·refine aF ?_
   refine cV TT_ok 25 (fun _=>bS i) rfl rfl rfl rfl rfl rfl rfl (fun i hi=>by rcases i with _ | i <;>first | rfl | omega) (mu1:=[]) rfl rfl rfl ?_
   refine aN ?_
   refine cU TT_ok 22 25 26 rfl rfl rfl rfl rfl rfl rfl rfl rfl rfl rfl rfl ⟨by simp;omega,by unfold maxL;omega⟩ ?_
   refine aN ?_
   refine bC (bL 22 26) ?_
   exact bN (i+1) hi (by omega) wF ⟨⟨_,rfl,fJ (x:=(i:Int)) (by rw [upL,if_pos (show (c.machines.getD i aCj).alive=true from e2)]) rfl⟩,wM⟩
  ·refine aF ?_
   exact bN (i+1) hi (by omega) wF ⟨⟨_,rfl,bP (by rw [upL,if_neg (by rw [show (c.machines.getD i aCj).alive=false from e2];simp)])⟩,wM⟩
 ·have hi:i=c.machines.length:=by omega
  subst hi
  refine aF ?_
  refine bB (bL 22 900) ?_
  refine aC (()) [(2,none)] ?_ ?_ ?_
  ·exact aCu _
  ·exact ⟨⟨_,rfl,bP (by rw [iG,if_pos hok])⟩,trivial⟩
  ·trivial
end
section
theorem CS (x:GRecord) (h1:x.sets.length≤1048576):MkR Tryz.prog 213 [vR (cK x)] x:=by
 refine aE Tryz.func213 fun B0 r_ D_ w0=>?_
 refine aF ?_
 refine aR (aCv 900 901 (CQ x.sets h1)) fun _ _=>?_
 refine aN ?_
 refine aC (()) [(2,some 83)] ?_ ?_ ?_
 ·exact aCu _
 ·exact wM
 ·trivial
end
section
theorem aBH (c:GCluster) (b2:c.machines.length≤1048576) (m0:Int):Con Tryz.prog 67 [900,902] [.a (.p 900 0),vI m0] [(900, .rrow (fW c 901 902 903)),(902,bE 4 bJ aCj c.machines)] (fun _:Unit=>True) (fun _=>[vB (lL c.machines m0)]) fun _=>[(902,bE 4 bJ aCj (fX c.machines m0))]:=by
 refine aE Tryz.func67 fun B0 r_ D_ w0=>?_
 refine aF ?_
 refine aH (wX _) ?_
 refine JJ TT_ok (dC _ _ _) rfl rfl (aCu _) rfl rfl ?_ ?_
 ·exact ⟨vV,vV,trivial⟩
 rw [ME]
 refine eF rfl (fun e1=>?_) (fun e1=>?_)
 ·rw [show fX c.machines m0=c.machines from if_neg (by rw [e1];simp),e1]
  refine aF ?_
  refine aC (()) [(4,none)] ?_ ?_ ?_
  ·exact aCu _
  ·exact wM
  ·trivial
 ·have hin:=sD e1
  rw [show fX c.machines m0=c.machines.set m0.toNat aCj from if_pos e1,e1]
  refine aF ?_
  refine aC (()) [(4,none)] ?_ ?_ ?_
  ·exact aCu _
  ·exact ⟨⟨_,rfl,cG LT⟩,trivial⟩
  ·trivial
theorem SA (c:GCluster) (hb:D.bds dJ (bO c)) (m0:Int) (hC:yB Tryz.prog 66 [vR (bO c)] c):O2 Tryz.prog 12 [vR (bO c),vI m0] (fR c m0).1 (fR c m0).2:=by
 have b2:c.machines.length≤1048576:=hb.2.2.2.1.1
 refine aE Tryz.func12 fun B0 r_ D_ w0=>?_
 refine aT ?_
 refine aU 2 fun r_=>?_
 refine aF ?_
 refine aH (eT c hb) ?_
 refine eF rfl (fun e=>?_) (fun e=>?_)
 ·rw [show fR c m0=(aCl,false) from if_neg (jN.1 e)]
  refine aF ?_
  refine bB (a5 4 2 1 (fun i=>cE (([]:List GPlace).getD i aCi))) ?_
  refine bB (a5 4 3 4 (fun i=>bJ (([]:List GMachine).getD i aCj))) ?_
  refine bB (a5 4 4 7 (fun i=>cTx (([]:List GTx).getD i aCk))) ?_
  refine bB (a6 4 2 901) ?_
  refine bB (a6 4 3 902) ?_
  refine bB (a6 4 4 903) ?_
  refine aC (()) [(4,some 28),(5,none)] ?_ ?_ ?_
  ·exact aCu _
  ·exact wM
  ·trivial
 rw [show fR c m0=({ c with machines:=fX c.machines m0 },lL c.machines m0) from if_pos (c9.1 e)]
 refine aF ?_
 refine aR (aCv 901 6001 (aCv 902 6002 (aCv 903 6003 hC))) fun _ _=>?_
 refine aN ?_
 refine aW [6002,4] [0,1,2,3,4] fun B0 H0=>?_
 refine aX 2 (aCv 901 6001 (aCv 903 6003 (aCv 900 6 (aCv 902 6002 (aBH c b2 m0))))) fun _ _=>?_
 refine bG 3 rfl (by kernel_rfl) (aV (bD ?_))
 refine aY [4] ?_
 refine aP ?_
 refine bB (bL 6001 901) ?_
 refine bB (bL 6002 902) ?_
 refine bB (bL 6003 903) ?_
 refine aC (()) [(4,some 28),(5,none)] ?_ ?_ ?_
 ·exact aCu _
 ·exact wM
 ·trivial
end
section
theorem LE (m:GMachine) (hb:D.bds dJ (bJ m)):V8 Tryz.prog 140 [vR (bJ m)] m:=by
 have b1:m.copies.length≤1048576:=hb.2.1.1
 have b2:m.log.length≤1048576:=hb.2.2.1.1
 have b3:m.cleared.length≤1048576:=hb.2.2.2.1.1
 refine aE Tryz.func140 fun B0 r_ D_ w0=>?_
 refine aT ?_
 refine aU 1 fun r_=>?_
 refine zS ?_
 refine T6 [(1,vP (bJ m)),(2, .a (.p 2 0)),(3, .a (.p 3 0))] [(2, .row [.v (.bool false),lU,lU,lU]),(3, .row [.v (.bool m.alive),lU,lU, .g 12]),(12,bE 1 bS 0 m.cleared)] ?_ fun key=>?_
 ·refine aZ ?_
  refine bB (a5 3 1 2 (fun i=>dA (([]:List GCopy).getD i aCp))) ?_
  refine bB (a5 3 2 4 (fun i=>cK (([]:List GRecord).getD i aCq))) ?_
  refine bB (a6 3 1 31) ?_
  refine bB (a6 3 2 32) ?_
  refine aK (ι:=Nat) (fun i=>[(17,vI i)]) (fun i=>[(31,bE 2 dA aCp (m.copies.take i)),(3, .row [.v (.bool m.alive), .g 31, .g 32, .g 12])]) (fun i=>i≤m.copies.length) (fun i=>m.copies.length - i) 0 [31,3] [31] (Nat.zero_le _) ?_
  intro i h1
  refine aF ?_
  refine aI (fun e=>?_) (fun e=>?_)
  ·have hi:i<m.copies.length:=by omega
   have hl:(m.copies.take i).length=i:=by rw [List.length_take];omega
   refine aF ?_
   refine aW [31] [0,1,2,3,4,5,6,7,8,9,10,11] fun B0 H0=>?_
   refine aX 6 (aCv 900 27 (wC (m.copies.getD i aCp).cells (hb.2.1.2 i hi).2.1.1)) fun _ _=>?_
   refine aY [7,8,9,10,11] ?_
   refine bG 8 rfl (by kernel_rfl) (dV TT_ok 29 (fun _=>dA (m.copies.getD i aCp)) rfl rfl rfl rfl rfl rfl rfl (fun j hj=>by rcases j with _ | j <;>first | rfl | omega) (mu1:=[(27, .arr 0 0 fun _=>[])]) rfl rfl rfl (bD ?_))
   refine bG 9 rfl (by kernel_rfl) (dM TT_ok 31 29 30 rfl rfl rfl rfl rfl rfl rfl rfl rfl rfl rfl rfl ⟨by show ((m.copies.take i).length+1) * 32≤_;omega,by unfold maxL;omega⟩ (bD ?_))
   refine aY [10,11] ?_
   refine dR 11 rfl (by kernel_rfl) (by kernel_rfl) (aV (eJ [] fun B0 H0=>?_))
   refine aP ?_
   refine bC (bL 31 30) ?_
   exact bN (i+1) hi (by omega) wF ⟨⟨_,rfl,aS (x:=m.copies.getD i aCp) (cC hi)⟩,wM⟩
  have hi:i=m.copies.length:=by omega
  subst hi
  rw [List.take_length]
  refine aF ?_
  refine aK (ι:=Nat) (fun i=>[(36,vI i)]) (fun i=>[(32,bE 4 cK aCq (m.log.take i)),(3, .row [.v (.bool m.alive), .g 31, .g 32, .g 12])]) (fun i=>i≤m.log.length) (fun i=>m.log.length - i) 0 [32,3] [32] (Nat.zero_le _) ?_
  intro i h1
  refine aF ?_
  refine aI (fun e=>?_) (fun e=>?_)
  ·have hi:i<m.log.length:=by omega
   have hl:(m.log.take i).length=i:=by rw [List.length_take];omega
   refine aF ?_
   refine aW [32] [0,1,2,3,4,5,6,7] fun B0 H0=>?_
   refine aX 3 (aCv 901 43 (CS (m.log.getD i aCq) (hb.2.2.1.2 i hi).2.2.2.1.1)) fun _ _=>?_
   refine bG 4 rfl (by kernel_rfl) (dV TT_ok 44 (fun _=>cK (m.log.getD i aCq)) rfl rfl rfl rfl rfl rfl rfl (fun j hj=>by rcases j with _ | j <;>first | rfl | omega) (mu1:=[(43, .arr 0 0 fun _=>[])]) rfl rfl rfl (bD ?_))
   refine bG 5 rfl (by kernel_rfl) (dM TT_ok 32 44 45 rfl rfl rfl rfl rfl rfl rfl rfl rfl rfl rfl rfl ⟨by show ((m.log.take i).length+1) * 48≤_;omega,by unfold maxL;omega⟩ (bD ?_))
   refine aY [6,7] ?_
   refine dR 7 rfl (by kernel_rfl) (by kernel_rfl) (aV (eJ [] fun B0 H0=>?_))
   refine aP ?_
   refine bC (bL 32 45) ?_
   exact bN (i+1) hi (by omega) wF ⟨⟨_,rfl,aS (x:=m.log.getD i aCq) (cC hi)⟩,wM⟩
  have hi:i=m.log.length:=by omega
  subst hi
  rw [List.take_length]
  refine aF ?_
  refine bB (bL 31 901) ?_
  refine bB (bL 32 902) ?_
  refine bB (bL 12 903) ?_
  refine aC (()) [(2,some 39)] ?_ ?_ ?_
  ·exact aCu _
  ·exact wM
  ·trivial
 ·refine aW [] [0,1,2,3,4,5,6,7] fun B0 H0=>?_
  refine eU 4 6 rfl rfl (by kernel_rfl) (gG (aCv 900 12 (tT m.cleared b3)) rfl rfl (aCu _) (fun _=>rfl) rfl rfl rfl (fun _ _=>bD ?_)) (aV (bD ?_))
  ·refine aY [5,6,7] ?_
   refine bG 6 rfl (by kernel_rfl) (aV (bD ?_))
   refine bG 7 rfl (by kernel_rfl) (aV (bD ?_))
   exact oF key wF wM
  ·skip
   refine aX 4 (aCv 900 12 (tT m.cleared b3)) fun _ _=>?_
   refine aY [5,7] ?_
   refine bG 7 rfl (by kernel_rfl) (aV (bD ?_))
   exact oF key wF wM
theorem iU (c:GCluster) (hb:D.bds dJ (bO c)):yB Tryz.prog 66 [vR (bO c)] c:=by
 have b1:c.places.length≤1048576:=hb.2.2.1.1
 have b2:c.machines.length≤1048576:=hb.2.2.2.1.1
 have b3:c.txs.length≤1048576:=hb.2.2.2.2.1.1
 refine aE Tryz.func66 fun B0 r_ D_ w0=>?_
 refine aT ?_
 refine aU 1 fun r_=>?_
 refine aF ?_
 refine bB (a5 3 2 1 (fun i=>cE (([]:List GPlace).getD i aCi))) ?_
 refine bB (a5 3 3 4 (fun i=>bJ (([]:List GMachine).getD i aCj))) ?_
 refine bB (a5 3 4 7 (fun i=>cTx (([]:List GTx).getD i aCk))) ?_
 refine bB (a6 3 2 901) ?_
 refine bB (a6 3 3 902) ?_
 refine bB (a6 3 4 903) ?_
 refine aK (ι:=Nat) (fun i=>[(17,vI i)]) (fun i=>[(901,bE 1 cE aCi (c.places.take i)),(3, .row [.v (.int .i64 c.config), .v (.int .i64 c.clock), .g 901, .g 902, .g 903, .v (.bool c.lost)])]) (fun i=>i≤c.places.length) (fun i=>c.places.length - i) 0 [901,3] [901] (Nat.zero_le _) ?_
 intro i h1
 refine aF ?_
 refine aI (fun e=>?_) (fun e=>?_)
 ·have hi:i<c.places.length:=by omega
  have hl:(c.places.take i).length=i:=by rw [List.length_take];omega
  have hm:(c.places.getD i aCi).machines.length≤1048576:=(hb.2.2.1.2 i hi).1.1
  refine aF ?_
  refine aW [901] [0,1,2,3,4,5,6,7,8,9] fun B0 H0=>?_
  refine aX 4 (aCv 900 25 (tT (c.places.getD i aCi).machines hm)) fun _ _=>?_
  refine aY [5,6,7,8,9] ?_
  refine bG 6 rfl (by kernel_rfl) (dV TT_ok 27 (fun _=>cE (c.places.getD i aCi)) rfl rfl rfl rfl rfl rfl rfl (fun j hj=>by rcases j with _ | j <;>first | rfl | omega) (mu1:=[(25, .arr 0 0 fun _=>[])]) rfl rfl rfl (bD ?_))
  refine bG 7 rfl (by kernel_rfl) (dM TT_ok 901 27 28 rfl rfl rfl rfl rfl rfl rfl rfl rfl rfl rfl rfl ⟨by show ((c.places.take i).length+1) * 24≤_;omega,by unfold maxL;omega⟩ (bD ?_))
  refine aY [8,9] ?_
  refine dR 9 rfl (by kernel_rfl) (by kernel_rfl) (aV (eJ [] fun B0 H0=>?_))
  refine aP ?_
  refine bC (bL 901 28) ?_
  exact bN (i+1) hi (by omega) wF ⟨⟨_,rfl,aS (x:=c.places.getD i aCi) (cC hi)⟩,wM⟩
 have hi:i=c.places.length:=by omega
 subst hi
 rw [List.take_length]
 refine aF ?_
 refine aK (ι:=Nat) (fun i=>[(34,vI i)]) (fun i=>[(902,bE 4 bJ aCj (c.machines.take i)),(3, .row [.v (.int .i64 c.config), .v (.int .i64 c.clock), .g 901, .g 902, .g 903, .v (.bool c.lost)])]) (fun i=>i≤c.machines.length) (fun i=>c.machines.length - i) 0 [902,3] [902] (Nat.zero_le _) ?_
 intro i h1
 refine aF ?_
 refine aI (fun e=>?_) (fun e=>?_)
 ·have hi:i<c.machines.length:=by omega
  have hl:(c.machines.take i).length=i:=by rw [List.length_take];omega
  refine aF ?_
  refine aW [902] [0,1,2,3,4,5,6,7] fun B0 H0=>?_
  refine aX 3 (aCv 901 411 (aCv 902 412 (aCv 903 413 (LE (c.machines.getD i aCj) (hb.2.2.2.1.2 i hi))))) fun _ _=>?_
  refine bG 4 rfl (by kernel_rfl) (dV TT_ok 42 (fun _=>bJ (c.machines.getD i aCj)) rfl rfl rfl rfl rfl rfl rfl (fun j hj=>by rcases j with _ | j <;>first | rfl | omega) (mu1:=[(411, .arr 0 0 fun _=>[]),(412, .arr 0 0 fun _=>[]),(413, .arr 0 0 fun _=>[])]) rfl rfl rfl (bD ?_))
  refine bG 5 rfl (by kernel_rfl) (dM TT_ok 902 42 43 rfl rfl rfl rfl rfl rfl rfl rfl rfl rfl rfl rfl ⟨by show ((c.machines.take i).length+1) * 80≤_;omega,by unfold maxL;omega⟩ (bD ?_))
  refine aY [6,7] ?_
  refine dR 7 rfl (by kernel_rfl) (by kernel_rfl) (aV (eJ [] fun B0 H0=>?_))
  refine aP ?_
  refine bC (bL 902 43) ?_
  exact bN (i+1) hi (by omega) wF ⟨⟨_,rfl,aS (x:=c.machines.getD i aCj) (cC hi)⟩,wM⟩
 have hi:i=c.machines.length:=by omega
 subst hi
 rw [List.take_length]
 refine aF ?_
 refine aK (ι:=Nat) (fun i=>[(49,vI i)]) (fun i=>[(903,bE 7 cTx aCk (c.txs.take i)),(3, .row [.v (.int .i64 c.config), .v (.int .i64 c.clock), .g 901, .g 902, .g 903, .v (.bool c.lost)])]) (fun i=>i≤c.txs.length) (fun i=>c.txs.length - i) 0 [903,3] [903] (Nat.zero_le _) ?_
 intro i h1
 refine aF ?_
 refine aI (fun e=>?_) (fun e=>?_)
 ·have hi:i<c.txs.length:=by omega
  have hl:(c.txs.take i).length=i:=by rw [List.length_take];omega
  have ht:=hb.2.2.2.2.1.2 i hi
  refine aF ?_
  refine aW [903] [0,1,2,3,4,5,6,7] fun B0 H0=>?_
  refine aX 3 (aCv 901 561 (aCv 902 562 (MZ (c.txs.getD i aCk) ht.2.2.2.2.1.1 ht.2.2.2.2.2.1.1))) fun _ _=>?_
  refine bG 4 rfl (by kernel_rfl) (dV TT_ok 57 (fun _=>cTx (c.txs.getD i aCk)) rfl rfl rfl rfl rfl rfl rfl (fun j hj=>by rcases j with _ | j <;>first | rfl | omega) (mu1:=[(561, .arr 0 0 fun _=>[]),(562, .arr 0 0 fun _=>[])]) rfl rfl rfl (bD ?_))
  refine bG 5 rfl (by kernel_rfl) (dM TT_ok 903 57 58 rfl rfl rfl rfl rfl rfl rfl rfl rfl rfl rfl rfl ⟨by show ((c.txs.take i).length+1) * 88≤_;omega,by unfold maxL;omega⟩ (bD ?_))
  refine aY [6,7] ?_
  refine dR 7 rfl (by kernel_rfl) (by kernel_rfl) (aV (eJ [] fun B0 H0=>?_))
  refine aP ?_
  refine bC (bL 903 58) ?_
  exact bN (i+1) hi (by omega) wF ⟨⟨_,rfl,aS (x:=c.txs.getD i aCk) (cC hi)⟩,wM⟩
 have hi:i=c.txs.length:=by omega
 subst hi
 rw [List.take_length]
 refine aF ?_
 refine aC (()) [(2,some 28)] ?_ ?_ ?_
 ·exact aCu _
 ·exact wM
 ·trivial
end
section
section
variable {E:Env} {mu:Mu} {TT:List TI} {fr:Fr} {gf gf':GF} {all:List Oper} {G:AG} {Q:Exit→Act→World→Prop} {J:Act→World→Prop}
theorem x4 (hT:TOk E.P TT) {o:Oper} {t:Nat} {x:SV} {q:Ob} {es:List Prop} {gs:List GO} {j d:Nat} {b:Bool} (hp:pst TT fr gf mu [] o.op=some (x,q)) (hs:dQ fr gf [] q [] [] = some (es,gs)) (hgd:dD t gf=some gf')
  (k:SJ G J E ((t,x) :: fr) gf' mu) (hg:o.guard=some (j,b):=by exact rfl) (hgs:qL all j=some d:=by exact rfl) (hgg:glk d gf=none:=by exact rfl) (hgv:mlk d fr=some (.a (.v (.bool b))):=by exact rfl) (hd:o.dst=some t:=by exact rfl) (ht:Nat.blt t E.N=true:=by exact rfl) (he:cS es:=by exact eD) (ho:cQ gs:=by exact gD):OJ G E all Q J o fr gf mu:=fun B a w H f m gg=>by
 obtain ⟨v,r1,r2⟩:=zA hT f m.mr.ms (g:=[]) (fun _ _ hm=>by cases hm) hp (gE f (fun _ _ hm=>by cases hm) hs he ho)
 refine qZ ((iS hg (kS hgs)).2 (f.vfr d _ hgv hgg)) (r1 w m.mr.fw) ?_
 rw [hd]
 exact k B _ w H (Fits.put f (by simpa [Nat.blt_eq] using ht) r2 hgd) m gg
end
end
section
theorem PA {c:GCluster} {m0:Int} (hk:lL c.machines m0=true):∀ n:Nat,(upL (vZ c m0) n).length+(if m0<n then 1 else 0)=(upL c n).length
 | 0=>by
  have:=sD hk
  rw [if_neg (by omega)];rfl
 | n+1=>by
  have ih:=PA hk n
  have hin:=sD hk
  have ha:(c.machines.getD m0.toNat aCj).alive=true:=by
   unfold lL at hk
   cases c1:inB m0 0 ((c.machines.length:Int) - 1) with
   | false=>rw [c1] at hk;cases hk
   | true=>rw [c1] at hk;exact hk
  have hg:((vZ c m0).machines.getD n aCj)=if n=m0.toNat then aCj else c.machines.getD n aCj:=BH hk n
  rw [upL,upL,hg]
  by_cases e:n=m0.toNat
  ·have h1:¬ m0<(n:Int):=by omega
   have h2:m0<((n+1:Nat):Int):=by omega
   rw [if_pos e,if_neg (show ¬ aCj.alive=true by decide),if_pos h2,e,if_pos ha,List.length_append,List.length_singleton, ← e]
   rw [if_neg h1] at ih
   omega
  ·rw [if_neg e]
   have h3:(m0<(n:Int)) ↔ (m0<((n+1:Nat):Int)):=by constructor <;>intro _ <;>omega
   simp only [h3] at ih
   by_cases c1:(c.machines.getD n aCj).alive=true
   ·rw [if_pos c1,if_pos c1,List.length_append,List.length_append,List.length_singleton];omega
   ·rw [if_neg c1,if_neg c1];exact ih
theorem UW {c:GCluster} (hok:ClusOk c) {m0:Int} (hk:lL c.machines m0=true):((iG (vZ c m0)).length:Int)=(iG c).length - 1:=by
 have hin:=sD hk
 have h:=PA hk c.machines.length
 rw [if_pos hin.2] at h
 unfold iG
 rw [if_pos hok,if_pos (K3 hok hk),show (vZ c m0).machines.length=c.machines.length from uW _ _]
 omega
end
section
theorem CE (c:GCluster) (m:Int):jD (fR c m).1:=by
 by_cases h:ClusOk c
 ·exact lH (N6 h m)
 ·unfold fR;rw [if_neg h];exact s9
end
section
abbrev Q0 (P:Program) (f:Nat) (n:Nat) (β:Nat→Int):Prop :=
 Con P f [701] [.a (.g 701)] [(701,rD n β)] (fun y:GCluster=>jD y) (fun y=>[iC y 901 902 903]) fun y=>muD y 901 902 903
theorem HZ {n:Nat} {β:Nat→Int} (hn:n≤1048576) (hβ:eS β):Q0 Tryz.prog 34 n β:=by
 refine aE Tryz.func34 fun B0 r_ D_ w0=>?_
 refine aF ?_
 refine aR (mG hn hβ) fun h0 _=>?_
 refine aN ?_
 refine aR (nk:=[700,901,902,903]) (rG hn hβ 0 h0 (Int.le_refl _) (Int.natCast_nonneg _)) fun y ⟨y1,y2,y3⟩=>?_
 refine aN ?_
 refine aC (y.1) [(2,some 28)] ?_ ?_ ?_
 ·exact aCu _
 ·exact wM
 ·exact y1
theorem UG {n:Nat} {β:Nat→Int} (hn:n≤1048576) (hβ:eS β):A7 Tryz.prog 11 n β:=by
 refine aE Tryz.func11 fun B0 r_ D_ w0=>?_
 refine aF ?_
 refine aR (mG hn hβ) fun h0 _=>?_
 refine aN ?_
 refine aR (nk:=[700,901,902,903]) (rG hn hβ 0 h0 (Int.le_refl _) (Int.natCast_nonneg _)) fun y ⟨y1,y2,y3⟩=>?_
 refine aN ?_
 refine aW [700,2] [0,1,2,3,4] fun B0 H0=>?_
 refine iH 2 (o0 hn hβ y.2.1 y.2.2 y2 y3 (-1) 6 (by decide) (by decide) (by decide)) rfl rfl rfl (aCu _) (fun _=>rfl) rfl rfl rfl fun z ⟨z1,z2,z3⟩=>?_
 refine bG 3 rfl (by kernel_rfl) (aV (bD ?_))
 refine aY [4] ?_
 refine aP ?_
 refine aC ((y.1,z.1)) [(2,some 28),(3,none)] ?_ ?_ ?_
 ·exact aCu _
 ·exact wM
 ·exact y1
end
section
def RelI (l m:List V):Prop := ∀ B Z vs,V.rels B Z l vs→V.rels B Z m vs
theorem RelI.e:RelI [] []:=fun _ _ _ e=>e
theorem RelI.c {x:V} {l m:List V} (k:RelI l m):RelI (x :: l) (x :: m):=fun _ _ _ ⟨y,t,e1,e2,e3⟩=>⟨y,t,e1,e2,k _ _ _ e3⟩
theorem RelI.n {q:Tg} {sz:Nat} {f:Nat→List D} {l m:List V} (k:RelI l m):RelI (.v (.slice none 0 0) :: l) (.s q sz 0 f :: m):=fun _ _ _ ⟨y,t,e1,e2,e3⟩=>⟨y,t,e1,by
 have e2:y = .slice none 0 0:=e2
 subst e2;exact ⟨none,0,rfl,Nat.le_refl _,Nat.zero_le _, .inl rfl⟩,k _ _ _ e3⟩
theorem SV.imp_agI {P:Program} {l m:List V} (h:RelI l m):(SV.ag l).imp P (.ag m):=fun B Z _ ⟨vs,e1,e2⟩=>⟨vs,e1,h B Z vs e2⟩
theorem XE {P:Program}:(SV.ag [.v (.bool false),lU,lU,lU]).imp P (vR (bJ aCj)):=SV.imp_agI (RelI.c (RelI.n (RelI.n (RelI.n RelI.e))))
end
section
theorem X3 {c:GCluster} {m:Int} (h:(fR c m).2=true):ClusOk c∧lL c.machines m=true∧fR c m=(vZ c m,true):=by
 by_cases hok:ClusOk c
 ·have e:fR c m=(vZ c m,lL c.machines m):=if_pos hok
  rw [e] at h ⊢
  have h:lL c.machines m=true:=h
  exact ⟨hok,h,by rw [h]⟩
 ·have e:fR c m=(aCl,false):=if_neg hok
  rw [e] at h;cases h
theorem aAl {c:GCluster} {m:Int} (h:(fR c m).2=false):(fR c m).1=c∨(fR c m).1=aCl:=by
 by_cases hok:ClusOk c
 ·left
  have e:fR c m=(vZ c m,lL c.machines m):=if_pos hok
  rw [e] at h ⊢
  have h:lL c.machines m=false:=h
  show { c with machines:=fX c.machines m } = c
  rw [show fX c.machines m=c.machines from by unfold fX;rw [if_neg (by rw [h];simp)]]
 ·right
  have e:fR c m=(aCl,false):=if_neg hok
  rw [e]
theorem YD {n:Nat} {β:Nat→Int} (hβ:eS β):Ans Tryz.prog 3 [701] [.a (.g 701)] [(701,rD n β)] (vB true):=by
 refine aE Tryz.func3 fun B0 r_ D_ w0=>?_
 refine aF ?_
 refine aH (CI n _) ?_
 refine aI (fun e=>?_) (fun e=>?_)
 ·refine aF ?_
  exact aG [(2,none)] (rfl)
 have hn:n≤1048576:=by omega
 refine aF ?_
 refine aR (nk:=[61,62,63]) (aCv 901 61 (aCv 902 62 (aCv 903 63 (UG hn hβ)))) fun y y1=>?_
 obtain ⟨c,m⟩:=y
 dsimp only at y1 ⊢
 have hb:=fI y1
 have hX:=fI (CE c m)
 refine aN ?_
 refine aR (aCv 901 71 (aCv 902 72 (aCv 903 73 (SA c hb m (iU c hb))))) fun _ _=>?_
 refine aN ?_
 refine aR (aCv 901 81 (aCv 902 82 (aCv 903 83 (l9 c hb m (fY c hb))))) fun _ _=>?_
 refine aN ?_
 refine aH (fZ (fR c m).1 hX) ?_
 refine bX rfl (fun e=>by simp at e) (fun _=>?_)
 refine aF ?_
 refine eF rfl (fun is=>?_) (fun is=>?_)
 ·refine aF ?_
  refine aH (r9 (fR c m).1 c hX) ?_
  exact b9 TT_ok [(2,none)] rfl rfl ((by rcases aAl is with h | h <;>rw [h] <;>simp [JU] <;>exact .inr rfl))
 obtain ⟨hok,hk,hK⟩:=X3 is
 rw [hK] at hX ⊢
 have hml:c.machines.length≤8:=hok.1.2.2.1.2
 have hin:=sD hk
 have hlen:=uW c.machines m
 have hget:=BH (c:=c) (m0:=m) hk
 have hmach:∀ i,i<c.machines.length→D.bds dJ (bJ ((fX c.machines m).getD i aCj)):=fun i hi=>hX.2.2.2.1.2 i (by show i<(fX c.machines m).length;rw [hlen];exact hi)
 refine aF ?_
 refine aK (ι:=Nat) (fun i=>[(9,vI i)]) (fun _=>[]) (fun i=>i≤c.machines.length) (fun i=>c.machines.length - i) 0 [] [] (Nat.zero_le _) ?_
 intro i h1
 refine aF ?_
 refine aI (fun e2=>?_) (fun e2=>?_)
 ·have hi:i<c.machines.length:=by omega
  have hi2:i<(fX c.machines m).length:=by omega
  refine aF ?_
  refine aO [] fun B0 H0=>?_
  refine z5 14 (r8 ((fX c.machines m).getD i aCj) (c.machines.getD i aCj) (hmach i hi)) rfl rfl rfl rfl rfl ?_
  refine tZ TT_ok rfl ?_
  refine aP ?_
  refine aA (fun e3=>?_) (fun _=>?_)
  ·exfalso
   have e3:(bif ((i:Int) != m) then !dec ((fX c.machines m).getD i aCj=c.machines.getD i aCj) else false)=true:=e3
   by_cases c1:(i:Int)=m
   ·rw [show ((i:Int) != m)=false from by simpa using c1] at e3;cases e3
   ·rw [hget i,if_neg (by omega)] at e3
    simp [JU] at e3
  refine aF ?_
  exact aL (i+1) hi (by omega)
 have hm2:m.toNat<(fX c.machines m).length:=by omega
 have hm3:0≤m∧m<(fX c.machines m).length:=by omega
 have hzz:(fX c.machines m).getD m.toNat aCj=aCj:=by rw [hget,if_pos rfl]
 have hLike:=r8 ((fX c.machines m).getD m.toNat aCj) aCj (hmach m.toNat (by omega))
 rw [cN hzz] at hLike
 have hup:=UW hok hk
 have hul:=EM c
 refine aF ?_
 refine aW [] [0,1,2,3,4,5,6,7,8,9,10,11,12,13,14,15,16,17,18,19,20,21] fun B0 H0=>?_
 refine fU 6 (hLike) rfl rfl rfl (SVs.cons (aCs _) (SVs.cons XE rfl)) rfl ?_
 refine aY [7,8,9,10,11,12,13,14,15,16,17,18,19,20,21] ?_
 refine fU 9 (sX (vZ c m) hX (K3 hok hk)) rfl rfl rfl (aCu _) rfl ?_
 refine aY [10,11,12,15,13,14,16,17,18,19,20,21] ?_
 refine aX 13 (aCv 900 91 (qC (vZ c m) hX)) fun _ _=>?_
 refine eU 14 16 rfl rfl (by kernel_rfl) (x4 TT_ok rfl rfl rfl (bD ?_)) (gG (aCv 900 92 (qC c hb)) rfl rfl (aCu _) (fun _=>rfl) rfl rfl rfl (fun _ _=>bD ?_))
 ·skip
  refine aX 16 (aCv 900 92 (qC c hb)) fun _ _=>?_
  refine bG 17 rfl (by kernel_rfl) (x4 TT_ok rfl rfl rfl (bD ?_))
  refine aY [18,19,20,21] ?_
  refine aP ?_
  exact b9 TT_ok [(2,none)] rfl rfl ((by simp;omega))
 ·skip
  refine eU 14 17 rfl rfl (by kernel_rfl) (x4 TT_ok rfl rfl rfl (bD ?_)) (x4 TT_ok rfl rfl rfl (bD ?_))
  ·skip
   refine bG 17 rfl (by kernel_rfl) (x4 TT_ok rfl rfl rfl (bD ?_))
   refine aY [18,19,20,21] ?_
   refine aP ?_
   exact b9 TT_ok [(2,none)] rfl rfl ((by simp;omega))
  ·refine aY [18,14,19,20,21] ?_
   refine bG 14 rfl (by kernel_rfl) (x4 TT_ok rfl rfl rfl (bD ?_))
   refine aY [19,20,21] ?_
   refine aP ?_
   exact b9 TT_ok [(2,none)] rfl rfl ((by simp;omega))
end
end Go.Proofs.YtnffflcjaipdkaaGreat
