/-
  What the claim leans on, made short by program.
-/
import Derived.Test.YtnffflcjaipdkaaGreatQF
namespace Go.Proofs.YtnffflcjaipdkaaGreat
open Go Go.RowKit
set_option linter.unusedVariables false
set_option linter.unusedSimpArgs false
set_option maxRecDepth 4000
section
section
section
variable {E:Env} {mu mu':Mu} {TT:List TI} {fr fr':Fr} {gf gf':GF} {all rest:List Oper} {Q:Exit→Act→World→Prop} {o:Oper} {J:Act→World→Prop} {G:AG}
theorem aAz {φ:List RD→Value→Prop} {args:List SV} {rds:List RD} {t j d:Nat} {b:Bool} {x:Value} (hg:o.guard=some (j,b)) (hsl:qL all j=some d) (hc:PF (kV 6 gf d b) fr gf o.op=some (φ,args)) (hr:GN args=some rds) (hgd:dD t gf=some gf') (hx:φ rds x)
  (k:SJ G J E fr ((t,d,b, .a (.v x)) :: gf') mu) (hd:o.dst=some t:=by exact rfl) (hn:mlk t fr=none:=by exact rfl) (ht:(Nat.blt t E.N && !(Nat.beq t d))=true:=by exact rfl):OJ G E all Q J o fr gf mu:=fun B a w H f m gg=>by
 simp only [Bool.and_eq_true,Bool.not_eq_true'] at ht
 have htd:t≠d:=Nat.ne_of_beq_eq_false ht.2
 have htN:t<E.N:=by simpa [Nat.blt_eq] using ht.1
 have hwt:=iS (ops:=all.toArray) (a:=a) hg (kS hsl)
 by_cases hyes:a.tmps.getD d undef = .bool b
 ·have hacts:=qV f 6 d b hyes
  have hw:=hwt.2 hyes
  obtain ⟨dst,op,type,pos,after,guard⟩:=o
  simp only at hc hd
  subst hd
  unfold PF at hc
  split at hc
  ·rename_i c
   obtain ⟨callee,cargs,ats⟩:=c
   simp only at hc
   split at hc
   ·rename_i y hy
    split at hc
    ·rename_i φ' l e1 e2
     simp only [Option.some.injEq,Prod.mk.injEq] at hc
     obtain ⟨rfl,rfl⟩:=hc
     obtain ⟨fn,cv,h1,h3,h4⟩:=(show ∃ f vs,_ from f.ev hacts e1)
     have h2:=f.evs hacts e2
     have ha:cargs.map a.eval=(cargs.toList.map a.eval).toArray:=Array.ext' (by rw [Array.toList_map])
     refine sJ (n:=fn) (args:=(cargs.toList.map a.eval ++ cv).toArray) hw ?_ ((h4 rds x hx w E.r _ (PH.le_refl _) m.mm.fitr (KG hr h2)).mono fun e w' ⟨g1,g2⟩=>⟨x,g1,?_⟩)
     ·simp only [execOp,resolve,h1,Deferred.ofValue,Sem.run_bind,Sem.run_pure,Result.andThen_ok,invoke,ha,Array.empty_append]
      rw [h3]
      congr 2
      simp
     ·exact k B _ w' H (Fits.putG f htN htd hn hgd (.inl ⟨hyes,show SV.rel E.P B (Zf E.r H) (.a (.v x)) x from rfl⟩)) (m.below g2) gg
    ·cases hc
   ·cases hc
  ·cases hc
 ·refine xX (by
   cases e:Region.wanted o (yielded all.toArray a.tmps) with
   | false=>rfl
   | true=>exact absurd (hwt.1 e) hyes) ?_
  rw [hd]
  exact k B _ w H (Fits.putG f htN htd hn hgd (.inr ⟨hyes,rfl⟩)) m gg
end
end
section
theorem Con.wkR {ι:Type} {P:Program} {f:Nat} {ks:List Nat} {args:List SV} {mu:Mu} {φ:ι→Prop} {res res':ι→List SV} {mu':ι→Mu} (C:Con P f ks args mu φ res mu') (h:∀ y,φ y→SVs.imp P (res y) (res' y)):Con P f ks args mu φ res' mu' :=
 fun B r w H vals m he ha=>(C B r w H vals m he ha).mono fun e w' ⟨y,B',H',out,h1,h2,h3,h4⟩=>⟨y,B',H',out,h1,h2,SVs.imp_ok (h y h1) h3,h4⟩
end
end
section
theorem rV (xs:List GTx) (hl:xs.length≤1048576) (S:GTx→Prop) (hS:∀ i,i<xs.length→S (xs.getD i aCk)) (p:GTx→Bool):Ans Tryz.prog 144 [] [vL 7 cTx aCk xs,fbP S (fun x=>[RD.ag (cTx x)]) fun x => .bool (p x)] [] (vI (cI p xs)):=by
 refine aE Tryz.func144 fun B0 r_ D_ w0=>?_
 refine aF ?_
 refine aK (ι:=Nat) (fun i=>[(8,vI i)]) (fun _=>[]) (fun i=>i≤xs.length∧∀ j,j<i→p (xs.getD j aCk)=false) (fun i=>xs.length - i) 0 [] [] ⟨Nat.zero_le _,fun j hj=>absurd hj (Nat.not_lt_zero _)⟩ ?_
 intro i ⟨h1,h2⟩
 refine aF ?_
 refine aI (fun e=>?_) (fun e=>?_)
 ·have hi:i<xs.length:=by omega
  refine aF ?_
  refine vE rfl rfl rfl ⟨xs.getD i aCk,hS i hi,rfl,rfl⟩ ?_
  refine aN ?_
  refine aA (fun e2=>?_) (fun e2=>?_)
  ·refine aF ?_
   exact aJ [(4,none)] ((gA hi h2 e2).symm)
  ·refine aF ?_
   exact aL (i+1) ⟨hi,b5 h2 e2⟩ (by omega)
 ·refine aF ?_
  exact dK TT_ok [(4,none)] rfl rfl ((gT fun j hj=>h2 j (by omega)).symm)
end
section
theorem AP (m:GMachine) (hl:m.copies.length≤1048576) (r0:Int):Ans Tryz.prog 107 [] [vP (bJ m),vI r0] [] (vL 2 cX aCo (cellsOf m r0)):=by
 cases h:dX m r0 with
 | false =>
  refine (DO m hl r0 h).wkR fun _ _=>⟨_,_,rfl,?_,rfl⟩
  rw [cellsOf,if_neg (by rw [h];simp)]
  intro B Z v e
  have e:v = .slice none 0 0:=e
  subst e
  exact ⟨none,0,rfl,Nat.le_refl _,Nat.zero_le _, .inl rfl⟩
 | true =>
  rcases gH (atB r0) aCp m.copies with ⟨h1,h2⟩ | ⟨i,h1,h2,h3,h4⟩
  ·rw [dX,j0 h2] at h;cases h
  ·have e:cellsOf m r0=(m.copies.getD i aCp).cells:=by rw [eW h,h2];rfl
   rw [e]
   exact DG m hl r0 i h1 h3 h4
end
section
theorem NP (t:GTx) (id:Int):Ans Tryz.prog 145 [] [vR (cTx t),vP [dI id]] [] (vB (t.id == id)):=by
 refine aE Tryz.func145 fun B0 r_ D_ w0=>?_
 refine aF ?_
 exact aG [(3,none)] (rfl)
theorem DB (c:GCluster) (hl:c.txs.length≤1048576) (id:Int) (h:0≤bQ c id):Ans Tryz.prog 80 [] [vP (bO c),vI id] [] (vP (cTx (c.txs.getD (bQ c id).toNat aCk))):=by
 have hin:=dW h
 refine aE Tryz.func80 fun B0 r_ D_ w0=>?_
 refine aF ?_
 refine lZ TT_ok (rV c.txs hl (fun _=>True) (fun _ _=>trivial) fun t=>t.id == id) rfl rfl (SVs.cons (aCs _) (SVs.cons (iO (aB) rfl fun args x ⟨n,_,e1,e2⟩=>by subst e1;subst e2;exact NP n _) rfl)) rfl rfl ?_
 refine aI (fun e=>absurd h (Int.not_le.2 e)) (fun _=>?_)
 have hx:0≤cI (fun t:GTx=>t.id == id) c.txs∧cI (fun t:GTx=>t.id == id) c.txs<c.txs.length:=⟨h,gO⟩
 refine aF ?_
 exact BV TT_ok [(4,none)] rfl rfl (rfl)
theorem EN (c:GCluster) (hl:c.txs.length≤1048576) (id:Int) (h:bQ c id<0):Ans Tryz.prog 80 [] [vP (bO c),vI id] [] (.a (.v (.pointer none))):=by
 refine aE Tryz.func80 fun B0 r_ D_ w0=>?_
 refine aF ?_
 refine lZ TT_ok (rV c.txs hl (fun _=>True) (fun _ _=>trivial) fun t=>t.id == id) rfl rfl (SVs.cons (aCs _) (SVs.cons (iO (aB) rfl fun args x ⟨n,_,e1,e2⟩=>by subst e1;subst e2;exact NP n _) rfl)) rfl rfl ?_
 refine aI (fun _=>?_) (fun e=>absurd h e)
 refine aF ?_
 exact BV TT_ok [(4,none)] rfl rfl (rfl)
theorem xZ {c:GCluster} (hb:D.bds dJ (bO c)) (i:Nat):D.bds dJ (cTx (c.txs.getD i aCk)):=UK hb.2.2.2.2.1 ⟨trivial,trivial,trivial,trivial,⟨Nat.zero_le _,fun i hi=>absurd hi (Nat.not_lt_zero _)⟩,⟨Nat.zero_le _,fun i hi=>absurd hi (Nat.not_lt_zero _)⟩,trivial,trivial⟩ _
theorem qC (c:GCluster) (hb:D.bds dJ (bO c)):MkL Tryz.prog 17 [vR (bO c)] 1 bS 0 (iG c):=by
 have b2:c.machines.length≤1048576:=hb.2.2.2.1.1
 refine aE Tryz.func17 fun B0 r_ D_ w0=>?_
 refine aT ?_
 refine aU 1 fun r_=>?_
 refine aF ?_
 refine aH (eT c hb) ?_
 refine eF rfl (fun e=>?_) (fun e=>?_)
 ·refine aF ?_
  refine bB (oX 2 900 1 (fun i=>bS (([]:List Int).getD i 0)) rfl rfl rfl rfl) ?_
  refine aC (()) [(2,none)] ?_ ?_ ?_
  ·exact aCu _
  ·exact ⟨⟨_,rfl,bP (xs:=[]) (by rw [iG,if_neg (jN.1 e)])⟩,trivial⟩
  ·trivial
 have hok:=c9.1 e
 refine aF ?_
 refine bB (oX 3 22 1 (fun i=>bS (([]:List Int).getD i 0)) rfl rfl rfl rfl) ?_
 refine aK (ι:=Nat) (fun i=>[(12,vI i),(3, .a (.g 22))]) (fun i=>[(22,bE 1 bS 0 (upL c i))]) (fun i=>i≤c.machines.length) (fun i=>c.machines.length - i) 0 [22] [22] (Nat.zero_le _) ?_
 intro i h3
 have hle:=H2 c i
 refine aF ?_
 refine aI (fun e1=>?_) (fun e1=>?_)
 ·have hi:i<c.machines.length:=by omega
  refine aF ?_
  refine aA (fun e2=>?_) (fun e2=>?_)
  ·refine aF ?_
   refine cV TT_ok 25 (fun _=>bS i) rfl rfl rfl rfl rfl rfl rfl (fun i hi=>by rcases i with _ | i <;>first | rfl | omega) (mu1:=[]) rfl rfl rfl ?_
   refine aN ?_
   refine cU TT_ok 22 25 26 rfl rfl rfl rfl rfl rfl rfl rfl rfl rfl rfl rfl ⟨by simp;omega,by unfold maxL;omega⟩ ?_
   refine aN ?_
   refine bC (bL 22 26) ?_
   exact bN (i+1) hi (by omega) wF ⟨⟨_,rfl,fJ (x:=(i:Int)) (by rw [upL,if_pos (show (c.machines.getD i aCj).alive=true from e2)]) rfl⟩,wM⟩
  ·refine aF ?_
   exact bN (i+1) hi (by omega) wF ⟨⟨_,rfl,bP (by rw [upL,if_neg (by rw [show (c.machines.getD i aCj).alive=false from e2];simp)])⟩,wM⟩
 ·have hi:i=c.machines.length:=by omega
  subst hi
  refine aF ?_
  refine bB (bL 22 900) ?_
  refine aC (()) [(2,none)] ?_ ?_ ?_
  ·exact aCu _
  ·exact ⟨⟨_,rfl,bP (by rw [iG,if_pos hok])⟩,trivial⟩
  ·trivial
abbrev aAH (P:Program) (f:Nat) (args:List SV) (xs:List GCell) (b:Bool):Prop:=Con P f [] args [] (fun _:Unit=>True) (fun _=>[.a (.g 900),vB b]) fun _=>[(900,bE 2 cX aCo xs)]
end
section
open Classical in
noncomputable def rK (c:GCluster) (r0:Int):List GCell×Bool:=if ClusOk c∧(0≤r0∧r0<c.places.length)∧(bH c r0.toNat 0).alive=true then (cellsOf (bH c r0.toNat 0) r0,true) else ([],false)
theorem UT {m:GMachine} (hb:D.bds dJ (bJ m)) (r:Int):(cellsOf m r).length≤1048576:=by
 unfold cellsOf;split
 ·rename_i h
  have:=p7 h
  exact (hb.2.1.2 (cI (atB r) m.copies).toNat (by omega)).2.1.1
 ·exact Nat.zero_le _
theorem aBv {r0:Int} {n:Nat}:inB r0 0 ((n:Int) - 1)=decide (0≤r0∧r0<n):=by
 rw [Bool.eq_iff_iff,b6,decide_eq_true_eq];omega
theorem O5 (c:GCluster) (hb:D.bds dJ (bO c)) (r0:Int):aAH Tryz.prog 41 [vR (bO c),vI r0] (rK c r0).1 (rK c r0).2:=by
 have b1:c.places.length≤1048576:=hb.2.2.1.1
 have bm:=pF hb (mAt c r0.toNat 0).toNat
 refine aE Tryz.func41 fun B0 r_ D_ w0=>?_
 refine aT ?_
 refine aU 2 fun r_=>?_
 refine aF ?_
 refine aH (eT c hb) ?_
 refine aH (AD _) ?_
 refine aH (dC _ _ _) ?_
 rw [aBv]
 by_cases hH:ClusOk c∧0≤r0∧r0<c.places.length
 ·obtain ⟨hok,hr⟩:=hH
  refine rB TT_ok (AS c hok r0 hr) rfl rfl (aCu _) rfl rfl ?_
  rw [cN hok,decide_eq_true hr]
  refine aA (fun e=>?_) (fun e=>?_)
  ·have ha:(bH c r0.toNat 0).alive=false:=by simpa using e
   have h0:rK c r0=([],false):=by
    unfold rK
    rw [if_neg]
    rintro ⟨_,_,h⟩
    rw [ha] at h;cases h
   rw [h0]
   refine aF ?_
   refine bB (oX 4 900 2 (fun i=>cX (([]:List GCell).getD i aCo)) rfl rfl rfl rfl) ?_
   refine aC (()) [(4,none),(5,none)] ?_ ?_ ?_
   ·exact aCu _
   ·exact wM
   ·trivial
  ·have ha:(bH c r0.toNat 0).alive=true:=by simpa using e
   have h0:rK c r0=(cellsOf (bH c r0.toNat 0) r0,true):=by
    unfold rK
    rw [if_pos ⟨hok,hr,ha⟩]
   rw [h0]
   refine aF ?_
   refine rB TT_ok (AS c hok r0 hr) rfl rfl (aCu _) rfl rfl ?_
   refine rB TT_ok (AP (bH c r0.toNat 0) bm.2.1.1 r0) rfl rfl (aCu _) rfl rfl ?_
   refine aR (wC _ (UT bm r0)) fun _ _=>?_
   refine aN ?_
   refine aC (()) [(4,none),(5,none)] ?_ ?_ ?_
   ·exact aCu _
   ·exact wM
   ·trivial
 ·have e0:(bif !dec (ClusOk c) then true else !decide (0≤r0∧r0<(c.places.length:Int)))=true:=by
   by_cases h1:ClusOk c
   ·rw [cN h1,decide_eq_false fun h=>hH ⟨h1,h⟩];rfl
   ·rw [b7 h1];rfl
  refine lK (vP (bJ aCj)) rfl rfl rfl rfl e0 rfl rfl ?_
  refine aN ?_
  rw [e0]
  refine bX rfl (fun e=>?_) (fun e=>by cases e)
  have h0:rK c r0=([],false):=by
   unfold rK
   rw [if_neg]
   rintro ⟨h1,h2,_⟩
   exact hH ⟨h1,h2⟩
  rw [h0]
  refine aF ?_
  refine bB (oX 4 900 2 (fun i=>cX (([]:List GCell).getD i aCo)) rfl rfl rfl rfl) ?_
  refine aC (()) [(4,none),(5,none)] ?_ ?_ ?_
  ·exact aCu _
  ·exact wM
  ·trivial
end
section
open Classical in
noncomputable def fF (c:GCluster) (id:Int):GTx×Bool:=if ClusOk c∧0≤bQ c id then (c.txs.getD (bQ c id).toNat aCk,true) else (aCk,false)
theorem SB (c:GCluster) (hb:D.bds dJ (bO c)) (id:Int):UO Tryz.prog 39 [vR (bO c),vI id] (fF c id).1 (fF c id).2:=by
 have b3:c.txs.length≤1048576:=hb.2.2.2.2.1.1
 have bt:=xZ hb (bQ c id).toNat
 have hlt:=gO (c:=c) (id:=id)
 refine aE Tryz.func39 fun B0 r_ D_ w0=>?_
 refine aT ?_
 refine aU 2 fun r_=>?_
 refine aF ?_
 refine aH (vO c b3 id) ?_
 by_cases hg:ClusOk c∧0≤bQ c id
 ·have e0:(bif !dec (ClusOk c) then true else decide (bQ c id<0))=false:=by rw [cN hg.1,decide_eq_false (by omega)];rfl
  have hin:=dW hg.2
  rw [show fF c id=(c.txs.getD (bQ c id).toNat aCk,true) from if_pos hg]
  refine aH (d5 c hb) ?_
  rw [e0]
  refine bX rfl (fun e=>by cases e) (fun e=>?_)
  refine aF ?_
  refine aR (BC (c.txs.getD (bQ c id).toNat aCk) bt.2.2.2.2.1.1 bt.2.2.2.2.2.1.1) fun _ _=>?_
  refine aN ?_
  refine aC (()) [(4,some 48),(5,none)] ?_ ?_ ?_
  ·exact aCu _
  ·exact wM
  ·trivial
 ·have e0:(bif !dec (ClusOk c) then true else decide (bQ c id<0))=true:=by
   by_cases h1:ClusOk c
   ·rw [cN h1,decide_eq_true (Int.not_le.1 fun h=>hg ⟨h1,h⟩)];rfl
   ·rw [b7 h1];rfl
  rw [show fF c id=(aCk,false) from if_neg hg]
  refine aH (d5 c hb) ?_
  rw [e0]
  refine bX rfl (fun e=>?_) (fun e=>by cases e)
  refine aF ?_
  refine bB (a5 4 4 5 (fun i=>cT (([]:List GNote).getD i aCn))) ?_
  refine bB (a5 4 5 5 (fun i=>cP (([]:List GSet).getD i aCm))) ?_
  refine bB (a6 4 4 901) ?_
  refine bB (a6 4 5 902) ?_
  refine aC (()) [(4,some 48),(5,none)] ?_ ?_ ?_
  ·exact aCu _
  ·exact wM
  ·trivial
theorem rN (c:GCluster) (hb:D.bds dJ (bO c)) (id:Int):UO Tryz.prog 21 [vR (bO c),vI id] (fF c id).1 (fF c id).2:=by
 have b3:c.txs.length≤1048576:=hb.2.2.2.2.1.1
 have bt:=xZ hb (bQ c id).toNat
 have hlt:=gO (c:=c) (id:=id)
 refine aE Tryz.func21 fun B0 r_ D_ w0=>?_
 refine aT ?_
 refine aU 2 fun r_=>?_
 refine aF ?_
 refine aH (eT c hb) ?_
 refine eF rfl (fun e=>?_) (fun e=>?_)
 ·rw [show fF c id=(aCk,false) from if_neg fun h=>jN.1 e h.1]
  refine aF ?_
  refine bB (a5 4 4 5 (fun i=>cT (([]:List GNote).getD i aCn))) ?_
  refine bB (a5 4 5 5 (fun i=>cP (([]:List GSet).getD i aCm))) ?_
  refine bB (a6 4 4 901) ?_
  refine bB (a6 4 5 902) ?_
  refine aC (()) [(4,some 48),(5,none)] ?_ ?_ ?_
  ·exact aCu _
  ·exact wM
  ·trivial
 have hok:=c9.1 e
 refine aF ?_
 by_cases hf:0≤bQ c id
 ·have hin:=dW hf
  rw [show fF c id=(c.txs.getD (bQ c id).toNat aCk,true) from if_pos ⟨hok,hf⟩]
  refine rB TT_ok (DB c b3 id hf) rfl rfl (aCu _) rfl rfl ?_
  refine bX rfl (fun e=>by cases e) (fun e=>?_)
  refine aF ?_
  refine aR (MZ (c.txs.getD (bQ c id).toNat aCk) bt.2.2.2.2.1.1 bt.2.2.2.2.2.1.1) fun _ _=>?_
  refine aN ?_
  refine aC (()) [(4,some 48),(5,none)] ?_ ?_ ?_
  ·exact aCu _
  ·exact wM
  ·trivial
 ·rw [show fF c id=(aCk,false) from if_neg fun h=>hf h.2]
  refine rB TT_ok (EN c b3 id (by omega)) rfl rfl (aCu _) rfl rfl ?_
  refine bX rfl (fun e=>?_) (fun e=>by cases e)
  refine aF ?_
  refine bB (a5 4 4 5 (fun i=>cT (([]:List GNote).getD i aCn))) ?_
  refine bB (a5 4 5 5 (fun i=>cP (([]:List GSet).getD i aCm))) ?_
  refine bB (a6 4 4 901) ?_
  refine bB (a6 4 5 902) ?_
  refine aC (()) [(4,some 48),(5,none)] ?_ ?_ ?_
  ·exact aCu _
  ·exact wM
  ·trivial
end
section
theorem yJ (n m:Nat) (hn:1≤n∧n≤6) (hm:1≤m∧m≤8):MkL Tryz.prog 160 [vI n,vI m] 1 cE aCi (gF n m):=by
 refine aE Tryz.func160 fun B0 r_ D_ w0=>?_
 refine aF ?_
 refine bB (oX 5 19 1 (fun i=>cE (([]:List GPlace).getD i aCi)) rfl rfl rfl rfl) ?_
 refine aK (ι:=Nat) (fun i=>[(10,vI i),(5, .a (.g 19))]) (fun i=>[(19,bE 1 cE aCi ((List.range i).map (spP m)))]) (fun i=>i≤n) (fun i=>n - i) 0 [19] [19] (Nat.zero_le _) ?_
 intro i h1
 have hl1:((List.range i).map (spP m)).length=i:=by simp
 refine aF ?_
 refine aI (fun e=>?_) (fun e=>?_)
 ·have hi:i<n:=by omega
  refine aF ?_
  refine bB (a5 7 0 1 (fun i=>bS (([]:List Int).getD i 0))) ?_
  refine bB (a6 7 0 50) ?_
  refine aK (ι:=Nat) (fun k=>[(15,vI k)]) (fun k=>[(50,bE 1 bS 0 ((List.range k).map fun k=>((i:Int)+(k:Nat)).tmod m)),(7, .row [.g 50])]) (fun k=>k≤min m 3) (fun k=>min m 3 - k) 0 [50,7] [50] (Nat.zero_le _) ?_
  intro k h2
  have hl2:((List.range k).map fun k=>((i:Int)+(k:Nat)).tmod m).length=k:=by simp
  refine aF ?_
  refine aI (fun e2=>?_) (fun e2=>?_)
  ·have hk:k<min m 3:=by
    split at e2 <;>omega
   refine aF ?_
   refine aW [50] [0,1,2,3,4,5,6,7,8,9,10] fun B0 H0=>?_
   refine bG 7 rfl (by kernel_rfl) (dV TT_ok 25 (fun _=>bS (((i:Int)+(k:Nat)).tmod m)) rfl rfl rfl rfl rfl rfl rfl (fun j hj=>by rcases j with _ | j <;>first | rfl | omega) (mu1:=[]) rfl rfl rfl (bD ?_))
   refine bG 8 rfl (by kernel_rfl) (dM TT_ok 50 25 26 rfl rfl rfl rfl rfl rfl rfl rfl rfl rfl rfl rfl ⟨by show (((List.range k).map fun k=>((i:Int)+(k:Nat)).tmod m).length+1) * 8≤_;omega,by unfold maxL;omega⟩ (bD ?_))
   refine aY [9,10] ?_
   refine dR 10 rfl (by kernel_rfl) (by kernel_rfl) (aV (eJ [] fun B0 H0=>?_))
   refine aP ?_
   refine bC (bL 50 26) ?_
   exact bN (k+1) hk (by omega) wF ⟨⟨_,rfl,aS (x:=((i:Int)+(k:Nat)).tmod m) (oI _ k)⟩,wM⟩
  have hk:k=min m 3:=by
   split at e2 <;>omega
  subst hk
  refine aF ?_
  refine cV TT_ok 31 (fun _=>cE (spP m i)) rfl rfl rfl rfl rfl rfl rfl (fun i hi=>by rcases i with _ | i <;>first | rfl | omega) (mu1:=[(50, .arr 0 0 fun _=>[])]) rfl rfl rfl ?_
  refine aN ?_
  refine cU TT_ok 19 31 32 rfl rfl rfl rfl rfl rfl rfl rfl rfl rfl rfl rfl ⟨by show (((List.range i).map (spP m)).length+1) * 24≤_;omega,by unfold maxL;omega⟩ ?_
  refine aN ?_
  refine bC (bL 19 32) ?_
  exact bN (i+1) hi (by omega) wF ⟨⟨_,rfl,aS (x:=spP m i) (oI _ i)⟩,wM⟩
 have hi:i=n:=by omega
 subst hi
 refine aF ?_
 refine bB (bL 19 900) ?_
 refine aC (()) [(4,none)] ?_ ?_ ?_
 ·exact aCu _
 ·exact wM
 ·trivial
end
section
theorem C9 (xs:List GCopy) (hl:xs.length≤1048576) (s0:Int) (c:GCopy→Int) (hm:qB c aCp xs):Con Tryz.prog 224 [] [vL 2 dA aCp xs,vI s0,fbO (fun x=>[RD.ag (dA x),RD.a (dI s0)]) fun x => .int .i64 (c x)] [] (jJ c aCp xs)
  (fun i=>[vI i,vB (bif decide ((i:Int)<xs.length) then c (xs.getD i aCp) == 0 else false)]) fun _=>[]:=by
 refine aE Tryz.func224 fun B0 r_ D_ w0=>?_
 refine aF ?_
 refine cY (ι:=Nat×Nat) (fun y=>[(9,vI y.1),(10,vI y.2)]) (fun _=>[]) (fun y=>y.1≤y.2∧y.2≤xs.length∧(∀ a,a<y.1→c (xs.getD a aCp)<0)∧∀ a,y.2≤a→a<xs.length→¬ c (xs.getD a aCp)<0) (fun y=>y.2 - y.1) (0,xs.length) [] [] rfl rfl ⟨Nat.zero_le _,Nat.le_refl _,fun a h=>absurd h (Nat.not_lt_zero _),fun a h1 h2=>by omega⟩ wF wM ?_
 rintro ⟨i,j⟩ ⟨h1,h2,h3,h4⟩
 dsimp only at h1 h2 h3 h4 ⊢
 refine aF ?_
 refine aI (fun e=>?_) (fun e=>?_)
 ·have hij:i<j:=by omega
  have hh:(((i:Int)+j) / 2).toNat=(i+j) / 2:=by omega
  refine aF ?_
  refine gY (aAi rfl rfl rfl ⟨xs.getD (((i:Int)+j) / 2).toNat aCp,rfl,rfl⟩ (iZ ?_))
  refine aN ?_
  rw [hh]
  refine aI (fun e2=>?_) (fun e2=>?_)
  ·refine aF ?_
   refine bN ((i+j) / 2+1,j) ⟨by dsimp only;omega,h2,fun a ha=>?_,h4⟩ (by show j - ((i+j) / 2+1)<j - i;omega) ⟨⟨_,rfl,aCw (fL (by dsimp only;omega))⟩,⟨_,rfl,aCs _⟩,wF⟩ wM
   exact hm a ((i+j) / 2) (by dsimp only at ha;omega) (by omega) e2
  ·refine aF ?_
   refine bN (i,(i+j) / 2) ⟨by dsimp only;omega,by dsimp only;omega,h3,fun a a1 a2 hc=>?_⟩ (by show (i+j) / 2 - i<j - i;omega) ⟨⟨_,rfl,aCs _⟩,⟨_,rfl,aCw (fL (by dsimp only;omega))⟩,wF⟩ wM
   exact e2 (hm ((i+j) / 2) a (by dsimp only at a1;omega) a2 hc)
 ·have hij:i=j:=by omega
  subst hij
  refine aF ?_
  refine gY (aAz rfl rfl rfl rfl rfl ⟨xs.getD i aCp,rfl,rfl⟩ (iZ ?_))
  refine aN ?_
  refine aC (i) [(6,none),(7,none)] ?_ ?_ ?_
  ·exact aCu _
  ·trivial
  ·exact ⟨h2,h3,h4⟩
section
variable {E:Env} {mu:Mu} {TT:List TI} {fr:Fr}
theorem X_ret {ι:Type} {fn:Func} {φ:ι→Prop} {res:ι→List SV} {mu':ι→Mu} (hT:TOk E.P TT) (y:ι) (ts:List (Nat×Option Nat)) (hr:fn.results=(ts.map wZ).toArray) {l:List SV} (hl:lB TT fr mu ts=some l) (h1:SVs.imp E.P l (res y)) (h2:WkMu mu (mu' y)) (h3:φ y) :
  X E (bodyPost E.P fn (RetP E φ res mu')) .fin fr mu:=fun B a w H f m=>by
 obtain ⟨out,r1,r2⟩:=rJ hT f m.mr hl
 show bodyPost E.P fn (RetP E φ res mu') .normal a w
 refine ⟨f.defers,yZ out,?_,y,B,H,out,h3,rfl,SVs.imp_ok h1 r2,m.wk h2⟩
 unfold results
 rw [hr,Sem.run_bind,Array.mapM_eq_mapM_toList,Sem.run_map,List.toList_toArray]
 erw [r1]
 have e:∀ l:List Value,(if h:l.toArray.size=1 then l.toArray[0] else Value.tuple l.toArray)=yZ l:=fun l=>by
  rw [← KT];simp
 exact congrArg (Result.ok · w) (e out)
end
theorem JR (n:Nat) (f:Nat→List D) (x:GCopy) (hn:n≤1048576):Con Tryz.prog 227 [900,901] [.a (.g 900),vI n, .a (.g 901)] [(900, .arr 2 n f),(901, .arr 2 1 fun _=>dA x)] (fun _:Unit=>True) (fun _=>[.a (.g 902)]) fun _=>[(902, .arr 2 (n+1) (kY n f fun _=>dA x))]:=by
 refine aE Tryz.func227 fun B0 r_ D_ w0=>?_
 refine aF ?_
 refine mC rfl (fun e=>by cases e) (fun _=>?_)
 refine aF ?_
 refine aQ (fun e=>?_) (fun e=>absurd rfl e)
 refine aF ?_
 refine cU TT_ok 900 901 902 rfl rfl rfl rfl rfl rfl rfl rfl rfl rfl rfl rfl ⟨by show (n+1) * 32≤_;omega,by unfold maxL;omega⟩ ?_
 refine aN ?_
 refine aC (()) [(6,none)] ?_ ?_ ?_
 ·exact aCu _
 ·exact wM
 ·trivial
theorem I6 (x:GCopy) (r:Int):Ans Tryz.prog 225 [] [vR (dA x),vI r] [] (vI (lN x.region r)):=by
 refine aE Tryz.func225 fun B0 r_ D_ w0=>?_
 refine aF ?_
 refine aH (DM _ _) ?_
 exact aJ [(4,none)] (rfl)
theorem OM (al:Bool) (n2 n3:Nat) (f2 f3:Nat→List D) (xs:List GCopy) (hl:xs.length≤1000) (r:Int) (cs:List GCell) (hc:cs.length≤1048576) (h:∀ a,a<xs.length→(xs.getD a aCp).region<r):Con Tryz.prog 161 [900,901] [.a (.p 900 0),vI r,vL 2 cX aCo cs] [(900, .row [.v (.bool al), .g 901, .s .o 4 n2 f2, .s .o 1 n3 f3]),(901,bE 2 dA aCp xs)] (fun _:Unit=>True) (fun _=>[])
  fun _=>[(900, .row [.v (.bool al), .g 904, .s .o 4 n2 f2, .s .o 1 n3 f3]),(904,bE 2 dA aCp (xs ++ [⟨r,cs⟩]))]:=by
 have hlt:∀ a,a<xs.length→lN (xs.getD a aCp).region r<0:=fun a ha=>by unfold lN;rw [if_pos (h a ha)];decide
 refine aE Tryz.func161 fun B0 r_ D_ w0=>?_
 refine aF ?_
 refine cO TT_ok (C9 xs (by omega) r (fun x=>lN x.region r) (fun a b _ hb _=>hlt a (by omega))) rfl rfl (SVs.cons (aCs _) (SVs.cons (aCs _) (SVs.cons (iO (aB) rfl fun args x ⟨s,h1,h2⟩=>by subst h1;subst h2;exact I6 s r) rfl))) (fun _=>rfl) rfl rfl rfl fun i hi=>?_
 have hi2:i=xs.length:=by
  rcases Nat.lt_or_ge i xs.length with h1 | h1
  ·exact absurd (hlt i h1) (hi.2.2 i (Nat.le_refl _) h1)
  ·have:=hi.1;omega
 subst hi2
 rw [show (bif decide ((xs.length:Int)<xs.length) then lN (xs.getD xs.length aCp).region r == 0 else false)=false from by rw [decide_eq_false (by omega)];rfl]
 refine aN ?_
 refine aR (aCv 900 44 (wC cs hc)) fun _ _=>?_
 refine aN ?_
 refine bX rfl (fun e=>by cases e) (fun _=>?_)
 refine aF ?_
 refine aW [901,44] [0,1,2,3,4,5,6,7,8,9,10,11] fun B0 H0=>?_
 refine bG 7 rfl (by kernel_rfl) (dV TT_ok 37 (fun _=>dA ⟨r,cs⟩) rfl rfl rfl rfl rfl rfl rfl (fun j hj=>by rcases j with _ | j <;>first | rfl | omega) (mu1:=[(44, .arr 0 0 fun _=>[])]) rfl rfl rfl (bD ?_))
 refine iH 8 (aCv 902 904 (aCv 900 901 (aCv 901 37 (JR xs.length (fun j=>dA (xs.getD j aCp)) ⟨r,cs⟩ (by omega))))) rfl rfl rfl (aCu _) (fun _=>rfl) rfl rfl rfl fun _ _=>?_
 refine aY [9,10,11] ?_
 refine dR 11 rfl (by kernel_rfl) (by kernel_rfl) (aV (eJ [] fun B0 H0=>?_))
 refine tX (by kernel_rfl) ?_
 refine X_ret TT_ok () [] rfl rfl ?_ ?_ ?_
 ·exact aCu _
 ·exact ⟨⟨_,rfl,aCt _⟩,⟨_,rfl,fJ (x:=(⟨r,cs⟩:GCopy)) rfl rfl⟩,trivial⟩
 ·trivial
end
section
section
variable {E:Env} {mu mu':Mu} {fr fr':Fr} {gf gf':GF} {all:List Oper} {G:AG} {J:Act→World→Prop}
theorem Z8 (i j l:Nat) {n:Nat} {tk:List Nat} {o p q:Oper} {Q:Exit→Act→World→Prop} (hi:nth all i=some o) (hj:nth all j=some p) (hl:nth all l=some q) (hB:Region.ready .any all.toArray (mk all.toArray.size tk)=[i,j,l])
  (h:OJ G E all Q (fun a' w'=>Sr G E.r w'∧Lw E.P all.toArray Q (Sr G E.r) n (mk all.toArray.size (i :: tk)) a' w') o fr gf mu)
  (h2:OJ G E all Q (fun a' w'=>Sr G E.r w'∧Lw E.P all.toArray Q (Sr G E.r) n (mk all.toArray.size (j :: tk)) a' w') p fr gf mu)
  (h3:OJ G E all Q (fun a' w'=>Sr G E.r w'∧Lw E.P all.toArray Q (Sr G E.r) n (mk all.toArray.size (l :: tk)) a' w') q fr gf mu):DJ G E all Q (n+1) tk fr gf mu:=fun B a w H f m gg w2 hb=>by
 have key:∀ k o,nth all k=some o→OJ G E all Q (fun a' w'=>Sr G E.r w'∧Lw E.P all.toArray Q (Sr G E.r) n (mk all.toArray.size (k :: tk)) a' w') o fr gf mu→wpOp E.P all.toArray Q k (fun a' w' => ∃ S',(S'=Sr G E.r∨BX all.toArray k=true)∧S' w'∧Lw E.P all.toArray Q S' n ((mk all.toArray.size tk).setIfInBounds k true) a' w') a w2:=fun k o hk h=>by
  have hk':all.toArray[k]? = some o:=by rw [pB] at hk;simpa using hk
  have h1:=One.mono (fun a' w' (h:Sr G E.r w'∧Lw E.P all.toArray Q (Sr G E.r) n (mk all.toArray.size (k :: tk)) a' w')=>(⟨_, .inl rfl,h.1,h.2⟩:∃ S',(S'=Sr G E.r∨BX all.toArray k=true)∧S' w'∧Lw E.P all.toArray Q S' n (mk all.toArray.size (k :: tk)) a' w')) (h B a w2 H f (m.below hb) gg)
  unfold One at h1
  unfold wpOp
  rw [hk',yL]
  exact h1
 refine ⟨fun h0=>(by rw [hB] at h0;cases h0),fun k hk=>?_⟩
 rw [hB] at hk
 rcases List.mem_cons.1 hk with rfl | hk
 ·exact key _ _ hi h
 rcases List.mem_cons.1 hk with rfl | hk
 ·exact key _ _ hj h2
 ·obtain rfl:=List.mem_singleton.1 hk
  exact key _ _ hl h3
theorem aAU (v:kO E fr gf mu fr' gf' mu') (h:SJ AG.nil J E fr' gf' mu'):SJ AG.nil J E fr gf mu:=fun B a w H f m _=>by
 obtain ⟨B',H',f',m'⟩:=v B w H a f m
 exact h B' a w H' f' m' (AG.nil_ok B' H')
end
def QM (b:Bool):List D:=[dB b, .v (.slice none 0 0), .v (.slice none 0 0), .v (.slice none 0 0)]
def uX (m r k:Nat) (j:Nat):List GCopy:=i9 m j r ++ if (j:Int) ∈ (spL m r).take k then [⟨r,cells0⟩] else []
def FN (m r k:Nat) (j:Nat):GMachine:=⟨true,uX m r k j,[],[]⟩
theorem KN {m r k:Nat} (h:k<min m 3):(spL m r).getD k 0=((r:Int)+(k:Nat)).tmod m:=by simp [spL,h]
theorem BA (m r:Nat):(spL m r).length=min m 3:=by simp [spL]
theorem aB5 {m r k:Nat} (hm:1≤m) (h:k<min m 3):0≤(spL m r).getD k 0∧(spL m r).getD k 0<m:=by
 rw [KN h]
 have e:((r:Int)+(k:Nat))=((r+k:Nat):Int):=by omega
 rw [e, ← Int.ofNat_tmod]
 have:=Nat.mod_lt (r+k) (show 0<m by omega)
 omega
theorem aBp {m r k:Nat} (hm:1≤m) (h:k<min m 3):(spL m r).getD k 0 ∉ (spL m r).take k:=fun hx=>by
 obtain ⟨a,ha,e⟩:=List.mem_iff_getElem.1 hx
 have hak:a<k:=by rw [List.length_take] at ha;omega
 rw [List.getElem_take] at e
 have e2:(spL m r).getD a 0=(spL m r).getD k 0:=by
  rw [← e]
  have:a<(spL m r).length:=by rw [BA];omega
  simp [this]
 rw [KN (by omega),KN h] at e2
 have e3:((r:Int)+(a:Nat))=((r+a:Nat):Int):=by omega
 have e4:((r:Int)+(k:Nat))=((r+k:Nat):Int):=by omega
 rw [e3,e4, ← Int.ofNat_tmod, ← Int.ofNat_tmod] at e2
 have e5:(r+k) % m=(r+a) % m:=by omega
 have e6:=Nat.sub_mod_eq_zero_of_mod_eq e5
 have e7:r+k - (r+a)=k - a:=by omega
 rw [e7,Nat.mod_eq_of_lt (by omega)] at e6
 omega
theorem WJ {m r k:Nat} (hm:1≤m) (h:k<min m 3) {q:Nat} (hq:(q:Int)=(spL m r).getD k 0):uX m r k q=i9 m q r∧uX m r (k+1) q=i9 m q r ++ [⟨r,cells0⟩]:=by
 have hl:k<(spL m r).length:=by rw [BA];exact h
 have h1:=aBp (r:=r) hm h
 rw [← hq] at h1
 refine ⟨by unfold uX;rw [if_neg h1,List.append_nil],?_⟩
 unfold uX
 rw [if_pos]
 rw [cC (z:=0) hl,hq]
 simp
theorem UY {m r k:Nat} (h:k<min m 3) {j:Nat} (hq:(j:Int)≠(spL m r).getD k 0):uX m r (k+1) j=uX m r k j:=by
 have hl:k<(spL m r).length:=by rw [BA];exact h
 unfold uX
 rw [cC (z:=0) hl]
 congr 1
 have:((j:Int) ∈ (spL m r).take k ++ [(spL m r).getD k 0]) ↔ (j:Int) ∈ (spL m r).take k:=by
  rw [List.mem_append,List.mem_singleton]
  exact ⟨fun h=>h.resolve_right hq, .inl⟩
 simp only [this]
theorem YK (m r:Nat) (j:Nat):uX m r (min m 3) j=uX m (r+1) 0 j:=by
 unfold uX
 have h1:(spL m r).take (min m 3)=spL m r:=List.take_of_length_le (by rw [BA];exact Nat.le_refl _)
 rw [h1,yU]
 unfold PS
 by_cases h:(j:Int) ∈ spL m r
 ·simp [h]
 ·simp [h]
theorem TS (m:Nat) (i:Int) (r:Nat):∀ a,a<(i9 m i r).length→((i9 m i r).getD a aCp).region<r:=fun a ha=>by
 have h1:(i9 m i r).getD a aCp ∈ i9 m i r:=by simp [ha]
 generalize (i9 m i r).getD a aCp=x at h1
 unfold i9 at h1
 obtain ⟨b,hb,rfl⟩:=List.mem_map.1 h1
 have:=List.mem_range.1 (List.mem_filter.1 hb).1
 show (b:Int)<r
 omega
end
section
theorem QT (n m:Nat) (hn:1≤n∧n≤6) (hm:1≤m∧m≤8):yB Tryz.prog 94 [vI n,vI m] (gQ n m):=by
 have hsl:(gF n m).length=n:=by simp [gF]
 refine aE Tryz.func94 fun B0 r_ D_ w0=>?_
 refine aF ?_
 refine T6 [(0,vI n),(1,vI m),(4, .a (.p 4 0)),(5, .a (.p 5 0))] [(4, .row [.v (.int .i64 0), .v (.int .i64 0),lU,lU,lU, .v (.bool false)]),(5, .row [.v (.int .i64 1), .v (.int .i64 0), .g 901, .g 60,lU, .v (.bool false)]),(901,bE 1 cE aCi (gF n m)),(60, .arr 4 m fun _=>QM false)] ?_ fun key=>?_
 rotate_left
 ·refine aW [] [0,1,3,2,4,5,6,7] fun B0 H0=>?_
  refine Z8 2 4 6 rfl rfl rfl (by kernel_rfl) (gG (aCv 900 901 (yJ n m hn hm)) rfl rfl (aCu _) (fun _=>rfl) rfl rfl rfl (fun _ _=>bD ?_)) (vN TT_ok 60 m rfl rfl rfl rfl rfl rfl rfl ⟨by show m * 80≤_;omega,by unfold maxL;omega⟩ (bD ?_)) (aV (bD ?_))
  ·skip
   refine eU 4 6 rfl rfl (by kernel_rfl) (vN TT_ok 60 m rfl rfl rfl rfl rfl rfl rfl ⟨by show m * 80≤_;omega,by unfold maxL;omega⟩ (bD ?_)) (aV (bD ?_))
   ·refine aY [5,6,7] ?_
    refine bG 6 rfl (by kernel_rfl) (aV (bD ?_))
    refine bG 7 rfl (by kernel_rfl) (aV (bD ?_))
    exact oF key wF wM
   ·skip
    refine bG 4 rfl (by kernel_rfl) (vN TT_ok 60 m rfl rfl rfl rfl rfl rfl rfl ⟨by show m * 80≤_;omega,by unfold maxL;omega⟩ (bD ?_))
    refine aY [5,7] ?_
    refine bG 7 rfl (by kernel_rfl) (aV (bD ?_))
    exact oF key wF wM
  ·skip
   refine eU 2 6 rfl rfl (by kernel_rfl) (gG (aCv 900 901 (yJ n m hn hm)) rfl rfl (aCu _) (fun _=>rfl) rfl rfl rfl (fun _ _=>bD ?_)) (aV (bD ?_))
   ·refine aY [5,6,7] ?_
    refine bG 6 rfl (by kernel_rfl) (aV (bD ?_))
    refine bG 7 rfl (by kernel_rfl) (aV (bD ?_))
    exact oF key wF wM
   ·skip
    refine aX 2 (aCv 900 901 (yJ n m hn hm)) fun _ _=>?_
    refine aY [5,7] ?_
    refine bG 7 rfl (by kernel_rfl) (aV (bD ?_))
    exact oF key wF wM
  ·skip
   refine eU 2 4 rfl rfl (by kernel_rfl) (gG (aCv 900 901 (yJ n m hn hm)) rfl rfl (aCu _) (fun _=>rfl) rfl rfl rfl (fun _ _=>bD ?_)) (vN TT_ok 60 m rfl rfl rfl rfl rfl rfl rfl ⟨by show m * 80≤_;omega,by unfold maxL;omega⟩ (bD ?_))
   ·skip
    refine bG 4 rfl (by kernel_rfl) (vN TT_ok 60 m rfl rfl rfl rfl rfl rfl rfl ⟨by show m * 80≤_;omega,by unfold maxL;omega⟩ (bD ?_))
    refine aY [5,7] ?_
    refine bG 7 rfl (by kernel_rfl) (aV (bD ?_))
    exact oF key wF wM
   ·skip
    refine aX 2 (aCv 900 901 (yJ n m hn hm)) fun _ _=>?_
    refine aY [5,7] ?_
    refine bG 7 rfl (by kernel_rfl) (aV (bD ?_))
    exact oF key wF wM
 refine aZ ?_
 refine cY (ι:=Nat) (fun i=>[(20,vI i)]) (fun i=>[(60, .arr 4 m fun j=>QM (decide (j<i)))]) (fun i=>i≤m) (fun i=>m - i) 0 [60] [] rfl rfl (Nat.zero_le _) wF ⟨⟨_,rfl,Ch.imp_arr fun j _=>by simp [QM]⟩,trivial⟩ ?_
 intro i h1
 refine aF ?_
 refine aI (fun e=>?_) (fun e=>?_)
 ·have hi:i<m:=by omega
  refine aF ?_
  exact bN (i+1) hi (by omega) wF ⟨⟨_,rfl,Ch.imp_arr fun j hj=>by
   by_cases c:j=i
   ·subst c
    rw [show ((j:Int)).toNat=j from rfl,Nat.beq_refl,decide_eq_true (by omega)];rfl
   ·have h2:Nat.beq j ((i:Int)).toNat=false:=by
     cases e:Nat.beq j ((i:Int)).toNat with
     | false=>rfl
     | true=>exact absurd (Nat.eq_of_beq_eq_true e) c
    rw [h2,show decide (j<i+1)=decide (j<i) from by congr 1;exact propext ⟨fun h=>by omega,fun h=>by omega⟩];rfl⟩,wM⟩
 have hi:i=m:=by omega
 subst hi
 refine aF ?_
 refine cY (ι:=Nat) (fun r=>[(32,vI r)]) (fun r=>[(60, .arr 4 i fun j=>bJ (FN i r 0 j)),(901, .arr 1 n fun r=>cE (spP i r))]) (fun r=>r≤n) (fun r=>n - r) 0 [60,901] [] rfl rfl (Nat.zero_le _) wF ⟨⟨_,rfl,Ch.imp_own rfl fun j hj=>by rw [decide_eq_true hj];exact OwnI.c (OwnI.n (OwnI.n (OwnI.n OwnI.e)))⟩,⟨_,rfl,Ch.imp_len hsl fun j hj=>by rw [wB (by omega)]⟩,trivial⟩ ?_
 intro r h2
 have hlen:=BA i r
 refine aF ?_
 refine aI (fun e2=>?_) (fun e2=>?_)
 ·have hr:r<n:=by omega
  refine bB (d6 901 r 77 rfl rfl rfl rfl rfl rfl ⟨by omega,by omega⟩) ?_
  refine bB (a6 77 0 78) ?_
  refine aF ?_
  refine eY (kL 35 rfl rfl rfl) ?_
  refine aN ?_
  refine aK (ι:=Nat) (fun k=>[(40,vI k)]) (fun k=>[(60, .arr 4 i fun j=>bJ (FN i r k j))]) (fun k=>k≤min i 3) (fun k=>min i 3 - k) 0 [60] [] (Nat.zero_le _) ?_
  intro k h3
  refine aF ?_
  refine aI (fun e3=>?_) (fun e3=>?_)
  ·have hk:k<min i 3:=by
    have:(k:Int)<(spL i r).length:=e3
    omega
   have hq:=aB5 (r:=r) hm.1 hk
   have hqn:((((spL i r).getD k 0).toNat:Nat):Int)=(spL i r).getD k 0:=by omega
   have hc:=WJ (r:=r) hm.1 hk hqn
   refine S4 TT_ok rfl ?_ ?_
   ·exact ⟨⟨by omega,e3⟩,⟨by omega,e3⟩,trivial⟩
   have hq':0≤(spP i ((r:Nat):Int).toNat).machines.getD ((k:Nat):Int).toNat 0∧(spP i ((r:Nat):Int).toNat).machines.getD ((k:Nat):Int).toNat 0<i:=hq
   refine bB (d6 60 ((spL i r).getD k 0) 79 rfl rfl rfl rfl rfl rfl ⟨hq.1,hq.2⟩) ?_
   refine bB (a6 79 1 80) ?_
   refine aW [] [0,1,2,3,4,5,6] fun B0 H0=>?_
   refine bG 5 rfl (by kernel_rfl) (vN TT_ok 81 6 rfl rfl rfl rfl rfl rfl rfl ⟨by decide,by decide⟩ (bD ?_))
   refine dR 6 rfl (by kernel_rfl) (by kernel_rfl) (aAU (kL 47 rfl rfl rfl) (gG (aCv 900 79 (aCv 901 80 (OM true 0 0 _ _ (uX i r k ((spL i r).getD k 0).toNat) ?h1 r cells0 (by decide) ?h2))) rfl rfl (SVs.cons (aCs _) (SVs.cons (aCs _) (SVs.cons (SV.imp_s ?h3) rfl))) (fun _=>rfl) rfl rfl rfl (fun _ _=>eJ [] fun B0 H0=>?h4)))
   case h1=>rw [hc.1];have:=I7 i ((((spL i r).getD k 0).toNat:Nat):Int) r;omega
   case h2=>rw [hc.1];exact TS _ _ _
   case h3 =>
    intro j hj
    have h:j<6:=hj
    have e:cells0.getD j aCo=aCo:=by
     rcases j with _ | _ | _ | _ | _ | _ | j <;>first | rfl | omega
    show zsD _=cX (cells0.getD j aCo)
    rw [e];rfl
   refine aP ?_
   refine bC (a9 79 1 904) ?_
   refine bC (a8 60 79) ?_
   exact bN (k+1) hk (by omega) wF ⟨⟨_,rfl,Ch.imp_arr fun j hj=>by
    by_cases c:j=((spL i r).getD k 0).toNat
    ·subst c
     rw [Nat.beq_refl]
     unfold FN
     rw [hc.2,hc.1];rfl
    ·have h2:Nat.beq j ((spL i r).getD k 0).toNat=false:=by
      cases e:Nat.beq j ((spL i r).getD k 0).toNat with
      | false=>rfl
      | true=>exact absurd (Nat.eq_of_beq_eq_true e) c
     rw [h2]
     unfold FN
     rw [UY hk (by omega)];rfl⟩,wM⟩
  have hk:k=min i 3:=by
   have:¬ (k:Int)<(spL i r).length:=e3
   omega
  subst hk
  refine aF ?_
  refine bC (a9 77 0 78) ?_
  refine bC (a8 901 77) ?_
  exact bN (r+1) hr (by omega) wF ⟨⟨_,rfl,Ch.imp_arr fun j hj=>by unfold FN;rw [YK]⟩,⟨_,rfl,Ch.imp_arr fun j hj=>by
   by_cases c:j=r
   ·subst c
    rw [show ((j:Int)).toNat=j from rfl,Nat.beq_refl];rfl
   ·have h2:Nat.beq j ((r:Int)).toNat=false:=by
     cases e:Nat.beq j ((r:Int)).toNat with
     | false=>rfl
     | true=>exact absurd (Nat.eq_of_beq_eq_true e) c
    rw [h2];rfl⟩,wM⟩
 have hr:r=n:=by omega
 subst hr
 refine aF ?_
 refine bB (bL 60 902) ?_
 refine bB (a5 4 4 7 (fun i=>cTx (([]:List GTx).getD i aCk))) ?_
 refine bB (a6 4 4 903) ?_
 refine aC (()) [(4,some 28)] ?_ ?_ ?_
 ·exact aCu _
 ·exact ⟨⟨_,rfl,Ch.imp_len hsl.symm fun j hj=>by
   show _=cE ((gF r i).getD j aCi)
   rw [wB hj]⟩,⟨_,rfl,Ch.imp_len (by simp [gQ]) fun j hj=>by
   have e:(gQ r i).machines.getD j aCj=oT r i j:=by simp [gQ,hj]
   rw [e]
   unfold FN oT uX
   simp⟩,⟨_,rfl,aCt _⟩,trivial⟩
 ·trivial
end
section
theorem FU (a b:Int):O2 Tryz.prog 32 [vI a,vI b] (eC a b).1 (eC a b).2:=by
 cases h:(bif !inB a 1 6 then true else !inB b 1 8) with
 | true =>
  rw [show eC a b=(aCl,false) from by unfold eC;rw [h];rfl]
  refine aE Tryz.func32 fun B0 r_ D_ w0=>?_
  refine aF ?_
  refine aH (dC _ _ _) ?_
  refine aH (dC _ _ _) ?_
  rw [h]
  refine bX rfl (fun _=>?_) (fun e=>by cases e)
  refine aF ?_
  refine bB (a5 4 2 1 (fun i=>cE (([]:List GPlace).getD i aCi))) ?_
  refine bB (a5 4 3 4 (fun i=>bJ (([]:List GMachine).getD i aCj))) ?_
  refine bB (a5 4 4 7 (fun i=>cTx (([]:List GTx).getD i aCk))) ?_
  refine bB (a6 4 2 901) ?_
  refine bB (a6 4 3 902) ?_
  refine bB (a6 4 4 903) ?_
  refine aC (()) [(4,some 28),(5,none)] ?_ ?_ ?_
  ·exact aCu _
  ·exact wM
  ·trivial
 | false =>
  have h1:inB a 1 6=true∧inB b 1 8=true:=by
   cases c1:inB a 1 6 <;>cases c2:inB b 1 8 <;>simp [c1,c2] at h ⊢
  have h2:=b6.1 h1.1
  have h3:=b6.1 h1.2
  rw [show eC a b=(gQ a.toNat b.toNat,true) from by unfold eC;rw [h];rfl]
  obtain ⟨n,rfl⟩:∃ n:Nat,a=n:=⟨a.toNat,by omega⟩
  obtain ⟨m,rfl⟩:∃ m:Nat,b=m:=⟨b.toNat,by omega⟩
  refine aE Tryz.func32 fun B0 r_ D_ w0=>?_
  refine aF ?_
  refine aH (dC _ _ _) ?_
  refine aH (dC _ _ _) ?_
  rw [h]
  refine bX rfl (fun e=>by cases e) (fun _=>?_)
  refine aF ?_
  refine cO TT_ok (QT n m (by omega) (by omega)) rfl rfl (aCu _) (fun _=>rfl) rfl rfl rfl fun _ _=>?_
  refine aN ?_
  refine aC (()) [(4,some 28),(5,none)] ?_ ?_ ?_
  ·exact aCu _
  ·exact wM
  ·trivial
end
section
theorem aAM {n m:Nat} (hn:1≤n∧n≤6) (hm:1≤m∧m≤8):(iG (gQ n m)).length=m:=by
 have hml:(gQ n m).machines.length=m:=by show ((List.range m).map _).length=m;simp
 have key:∀ k,k≤m→(upL (gQ n m) k).length=k:=fun k=>by
  induction k with
  | zero=>intro _;rfl
  | succ k ih =>
   intro hk
   have e:(gQ n m).machines.getD k aCj=oT n m k:=by
    show ((List.range m).map (oT n m)).getD k aCj=_
    simp [List.getD_eq_getElem?_getD,show k<m by omega]
   rw [upL,e,if_pos (show (oT n m k).alive=true from rfl),List.length_append,List.length_singleton,ih (by omega)]
 unfold iG
 rw [if_pos (A8 hn hm),hml]
 exact key m (Nat.le_refl _)
end
section
theorem I5 {n:Nat} {β:Nat→Int} (hn:n≤1048576) (hβ:eS β) (i h:Int) (h1:0≤i) (h2:i≤n) (k:GCluster) (hk:k.txs.length≤1048576):zE Tryz.prog 100 [vR (bO k)] n β i h (fun _:Int=>True) vI:=by
 refine aE Tryz.func100 fun B0 r_ D_ w0=>?_
 refine aT ?_
 refine zS ?_
 refine a7 (ι:=Int×Int) (fun _=>[]) (fun y=>[(700,dE y.1 y.2)]) (fun y=>0≤y.1∧y.1≤n) [700] [] ?_ ?_
 ·by_cases hl:k.txs.length=0
  ·have hz:decide ((k.txs.length:Int) > 0) = !true:=decide_eq_false (by omega)
   refine aF ?_
   refine lK (vB true) rfl rfl rfl rfl (hz) rfl rfl ?_
   refine aN ?_
   rw [hz]
   refine bX rfl (fun e=>by cases e) (fun _=>?_)
   refine aF ?_
   exact aL (i,h) ⟨h1,h2⟩ Nat.zero_lt_one
  ·have hz:decide ((k.txs.length:Int) > 0)=true:=decide_eq_true (by omega)
   refine aF ?_
   refine cO TT_ok (d9 hn hβ i h h1 h2 8) rfl rfl (aCu _) (fun _=>rfl) rfl rfl rfl (fun z ⟨z1,z2,z3⟩=>?_) (hg:=⟨rfl,congrArg (fun x=>some (vB x)) hz⟩)
   refine aN ?_
   rw [hz]
   refine aA (fun _=>?_) (fun _=>?_)
   ·refine aF ?_
    refine aW [700] [0,1,2,3,4,5,6,7,8,9,10] fun B0 H0=>?_
    refine aX 6 (bR hn hβ z.2.1 z.2.2 z2 z3 k.txs.length) fun y ⟨y1,y2,y3⟩=>?_
    refine aY [7,8,9,10] ?_
    refine aP ?_
    refine aC (((k.txs.getD y.1.toNat aCk).id,y.2.1,y.2.2)) [(4,none)] ?_ ?_ ?_
    ·exact aCu _
    ·exact wM
    ·exact ⟨trivial,y2,y3⟩
   ·refine aF ?_
    exact aL (z.2.1,z.2.2) ⟨z2,z3⟩ Nat.zero_lt_one
 rintro ⟨i1,i2⟩ ⟨u1,u2⟩
 dsimp only at u1 u2 ⊢
 refine aZ ?_
 refine cV TT_ok 50 (fun i=>bS (([0,1,5,9,1000000,1000001]:List Int).getD i 0)) rfl rfl rfl rfl rfl rfl rfl (fun i hi=>by rcases i with _ | _ | _ | _ | _ | _ | i <;>first | rfl | omega) (mu1:=[]) rfl rfl rfl ?_
 refine aN ?_
 refine aR (bR hn hβ i1 i2 u1 u2 6) fun z ⟨z1,z2,z3⟩=>?_
 refine aN ?_
 refine aC ((([0,1,5,9,1000000,1000001]:List Int).getD z.1.toNat 0,z.2.1,z.2.2)) [(4,none)] ?_ ?_ ?_
 ·exact aCu _
 ·exact wM
 ·exact ⟨trivial,z2,z3⟩
end
section
abbrev Q0 (P:Program) (f:Nat) (n:Nat) (β:Nat→Int):Prop :=
 Con P f [701] [.a (.g 701)] [(701,rD n β)] (fun y:GCluster=>jD y) (fun y=>[iC y 901 902 903]) fun y=>muD y 901 902 903
theorem HZ {n:Nat} {β:Nat→Int} (hn:n≤1048576) (hβ:eS β):Q0 Tryz.prog 34 n β:=by
 refine aE Tryz.func34 fun B0 r_ D_ w0=>?_
 refine aF ?_
 refine aR (mG hn hβ) fun h0 _=>?_
 refine aN ?_
 refine aR (nk:=[700,901,902,903]) (rG hn hβ 0 h0 (Int.le_refl _) (Int.natCast_nonneg _)) fun y ⟨y1,y2,y3⟩=>?_
 refine aN ?_
 refine aC (y.1) [(2,some 28)] ?_ ?_ ?_
 ·exact aCu _
 ·exact wM
 ·exact y1
theorem UZ {n:Nat} {β:Nat→Int} (hn:n≤1048576) (hβ:eS β):A7 Tryz.prog 38 n β:=by
 refine aE Tryz.func38 fun B0 r_ D_ w0=>?_
 refine aF ?_
 refine aR (mG hn hβ) fun h0 _=>?_
 refine aN ?_
 refine aR (nk:=[700,901,902,903]) (rG hn hβ 0 h0 (Int.le_refl _) (Int.natCast_nonneg _)) fun y ⟨y1,y2,y3⟩=>?_
 refine aN ?_
 have ht:y.1.txs.length≤60000:=by have:=y1.1;unfold iL wL at this;omega
 refine aW [700,2] [0,1,2,3,4,5] fun B0 H0=>?_
 refine iH 3 (I5 hn hβ y.2.1 y.2.2 y2 y3 y.1 (by omega)) rfl rfl rfl (aCu _) (fun _=>rfl) rfl rfl rfl fun z ⟨z1,z2,z3⟩=>?_
 refine bG 4 rfl (by kernel_rfl) (aV (bD ?_))
 refine aY [5] ?_
 refine aP ?_
 refine aC ((y.1,z.1)) [(2,some 28),(3,none)] ?_ ?_ ?_
 ·exact aCu _
 ·exact wM
 ·exact y1
end
section
theorem P2 {n:Nat} {β:Nat→Int} (hn:n≤1048576) (hβ:eS β):Con Tryz.prog 93 [701] [.a (.g 701)] [(701,rD n β)] (fun y:Int×Int => -1≤y.1∧y.1≤8 ∧ -1≤y.2∧y.2≤10) (fun y=>[vI y.1,vI y.2]) fun _=>[]:=by
 refine aE Tryz.func93 fun B0 r_ D_ w0=>?_
 refine aF ?_
 refine aR (mG hn hβ) fun h0 _=>?_
 refine aN ?_
 refine cO TT_ok (o0 hn hβ 0 h0 (Int.le_refl _) (Int.natCast_nonneg _) (-1) 8 (by decide) (by decide) (by decide)) rfl rfl (aCu _) (fun _=>rfl) rfl rfl rfl fun a ⟨a1,a2,a3⟩=>?_
 refine aN ?_
 refine cO TT_ok (o0 hn hβ a.2.1 a.2.2 a2 a3 (-1) 10 (by decide) (by decide) (by decide)) rfl rfl (aCu _) (fun _=>rfl) rfl rfl rfl fun b ⟨b1,b2,b3⟩=>?_
 refine aN ?_
 refine aC ((a.1,b.1)) [(2,none),(3,none)] ?_ ?_ ?_
 ·exact aCu _
 ·trivial
 ·exact ⟨a1.1,a1.2,b1.1,b1.2⟩
theorem GJ {n:Nat} {β:Nat→Int} (hn:n≤1048576) (hβ:eS β):Con Tryz.prog 31 [701] [.a (.g 701)] [(701,rD n β)] (fun y:Int×Int => -1≤y.1∧y.1≤8 ∧ -1≤y.2∧y.2≤10) (fun y=>[vI y.1,vI y.2]) fun _=>[]:=by
 refine aE Tryz.func31 fun B0 r_ D_ w0=>?_
 refine aF ?_
 refine aR (P2 hn hβ) fun y hy=>?_
 refine aN ?_
 refine aC (y) [(2,none),(3,none)] ?_ ?_ ?_
 ·exact aCu _
 ·trivial
 ·exact hy
end
section
def RelI (l m:List V):Prop := ∀ B Z vs,V.rels B Z l vs→V.rels B Z m vs
theorem RelI.e:RelI [] []:=fun _ _ _ e=>e
theorem RelI.c {x:V} {l m:List V} (k:RelI l m):RelI (x :: l) (x :: m):=fun _ _ _ ⟨y,t,e1,e2,e3⟩=>⟨y,t,e1,e2,k _ _ _ e3⟩
theorem RelI.n {q:Tg} {sz:Nat} {f:Nat→List D} {l m:List V} (k:RelI l m):RelI (.v (.slice none 0 0) :: l) (.s q sz 0 f :: m):=fun _ _ _ ⟨y,t,e1,e2,e3⟩=>⟨y,t,e1,by
 have e2:y = .slice none 0 0:=e2
 subst e2;exact ⟨none,0,rfl,Nat.le_refl _,Nat.zero_le _, .inl rfl⟩,k _ _ _ e3⟩
theorem SV.imp_agI {P:Program} {l m:List V} (h:RelI l m):(SV.ag l).imp P (.ag m):=fun B Z _ ⟨vs,e1,e2⟩=>⟨vs,e1,h B Z vs e2⟩
theorem z6 {P:Program}:(SV.ag [.v (.int .i64 0), .v (.int .i64 0),lU,lU,lU, .v (.bool false)]).imp P (vR (bO aCl)):=SV.imp_agI (RelI.c (RelI.c (RelI.n (RelI.n (RelI.n (RelI.c RelI.e))))))
theorem T0 (xs:List Int) (hl:xs.length≤1048576):Ans Tryz.prog 36 [] [vL 1 bS 0 xs,vL 1 bS 0 xs] [] (vB true):=by
 have:=BN xs xs hl
 rwa [k8] at this
theorem RH (xs:List GCell) (hl:xs.length≤1048576):Ans Tryz.prog 42 [] [vL 2 cX aCo xs,vL 2 cX aCo xs] [] (vB true):=by
 have:=GD xs xs hl
 rwa [k8] at this
theorem ZT (a:GTx) (h1:a.reads.length≤1048576) (h2:a.sets.length≤1048576):Ans Tryz.prog 40 [] [vR (cTx a),vR (cTx a)] [] (vB true):=by
 have:=HE a a h1 h2
 rwa [k8] at this
end
section
theorem U2 {n m:Nat} (hn:1≤n∧n≤6) (hm:1≤m∧m≤8):rK (gQ n m) 0=(cells0,true):=by
 have hok:=A8 hn hm
 have hpl:(gQ n m).places.length=n:=by show ((List.range n).map _).length=n;simp
 have hml:(gQ n m).machines.length=m:=by show ((List.range m).map _).length=m;simp
 have hp:=hok.pl (r:=0) (by omega)
 have ha:=hok.at (r:=0) (k:=0) (by omega) (by omega)
 have hlt:(mAt (gQ n m) 0 0).toNat<m:=by omega
 have gen:∀ q,q<m→((List.range m).map (oT n m)).getD q aCj=oT n m q:=fun q hq=>by simp [List.getD_eq_getElem?_getD,hq]
 have e:bH (gQ n m) 0 0=oT n m (mAt (gQ n m) 0 0).toNat:=gen _ hlt
 have hal:(bH (gQ n m) 0 0).alive=true:=by rw [e];rfl
 have hh:=ha.2 hal
 unfold rK
 rw [if_pos ⟨hok,by rw [hpl];omega,hal⟩]
 show (cellsOf (bH (gQ n m) 0 0) 0,true)=_
 have hh':dX (bH (gQ n m) 0 0) 0=true:=hh
 have hix:=p7 hh'
 have hc:∀ (l:List Nat) (j:Nat),j<(l.map fun r:Nat=>(⟨r,cells0⟩:GCopy)).length→((l.map fun r:Nat=>(⟨r,cells0⟩:GCopy)).getD j aCp).cells=cells0:=fun l j hj=>by
  rw [List.length_map] at hj
  simp [List.getD_eq_getElem?_getD,hj]
 unfold cellsOf
 rw [if_pos hh']
 refine congrArg (fun x=>(x,true)) ?_
 have hix2:(cI (atB 0) (bH (gQ n m) 0 0).copies).toNat<(bH (gQ n m) 0 0).copies.length:=by omega
 revert hix2
 generalize (cI (atB 0) (bH (gQ n m) 0 0).copies).toNat=j
 rw [e]
 exact hc _ j
theorem JB (a b:Int):((eC a b).2=false∧(eC a b).1=aCl)∨((1≤a∧a≤6)∧(1≤b∧b≤8)∧eC a b=(gQ a.toNat b.toNat,true)):=by
 cases h:(bif !inB a 1 6 then true else !inB b 1 8) with
 | true=>left;unfold eC;rw [h];exact ⟨rfl,rfl⟩
 | false =>
  right
  have h1:inB a 1 6=true∧inB b 1 8=true:=by
   cases c1:inB a 1 6 <;>cases c2:inB b 1 8 <;>simp [c1,c2] at h ⊢
  exact ⟨b6.1 h1.1,b6.1 h1.2,by unfold eC;rw [h];rfl⟩
theorem T4 (a b:Int):jD (eC a b).1:=by
 rcases JB a b with ⟨_,h⟩ | ⟨h1,h2,h⟩
 ·rw [h];exact s9
 ·rw [h];exact lH (A8 (by omega) (by omega))
theorem KV {c:GCluster} (hb:D.bds dJ (bO c)) (id:Int):(fF c id).1.reads.length≤1048576∧(fF c id).1.sets.length≤1048576:=by
 unfold fF
 split
 ·have:=xZ hb (bQ c id).toNat
  exact ⟨this.2.2.2.2.1.1,this.2.2.2.2.2.1.1⟩
 ·exact ⟨Nat.zero_le _,Nat.zero_le _⟩
theorem UQ {n:Nat} {β:Nat→Int} (hβ:eS β):Ans Tryz.prog 6 [701] [.a (.g 701)] [(701,rD n β)] (vB true):=by
 refine aE Tryz.func6 fun B0 r_ D_ w0=>?_
 refine aF ?_
 refine aH (CI n _) ?_
 refine aI (fun e=>?_) (fun e=>?_)
 ·refine aF ?_
  exact aG [(2,none)] (rfl)
 have hn:n≤1048576:=by omega
 refine aF ?_
 refine aR (nk:=[]) (GJ hn hβ) fun y y1=>?_
 obtain ⟨r,m⟩:=y
 dsimp only at y1 ⊢
 have hX:=fI (T4 r m)
 refine aN ?_
 refine aR (aCv 901 71 (aCv 902 72 (aCv 903 73 (FU r m)))) fun _ _=>?_
 refine aN ?_
 refine aR (aCv 901 81 (aCv 902 82 (aCv 903 83 (xE r m)))) fun _ _=>?_
 refine aN ?_
 refine aH (fZ (eC r m).1 hX) ?_
 refine bX rfl (fun e=>by simp at e) (fun _=>?_)
 refine aF ?_
 refine aR (nk:=[61,62,63]) (aCv 901 61 (aCv 902 62 (aCv 903 63 (HZ hn hβ)))) fun k y2=>?_
 have hk:=fI y2
 have hul:=EM k
 have hkm:k.machines.length≤60000:=by have:=y2.1;unfold iL wL at this;omega
 have hg:(!(dec (ClusOk k) == dec (ClusOk k)))=false:=by simp
 refine aN ?_
 refine aW [] [0,2,1,3,4,5,6,7,8,9,10,11,12] fun B0 H0=>?_
 refine fU 1 (mM k hk) rfl rfl rfl (aCu _) rfl ?_
 refine fU 3 (d5 k hk) rfl rfl rfl (aCu _) rfl ?_
 refine aY [4,5,6,8,7,9,10,11,12] ?_
 refine iH 7 (aCv 900 91 (qC k hk)) rfl rfl rfl (aCu _) (fun _=>rfl) rfl rfl rfl (fun _ _=>?_) (hg:=⟨rfl,congrArg (fun x=>some (vB x)) hg⟩)
 refine iH 9 (aCv 900 92 (D3 k hk)) rfl rfl rfl (aCu _) (fun _=>rfl) rfl rfl rfl (fun _ _=>?_) (hg:=⟨rfl,congrArg (fun x=>some (vB x)) hg⟩)
 refine z5 10 (T0 (iG k) (by omega)) rfl rfl rfl rfl rfl ?_
 refine aY [11,12] ?_
 refine tZ TT_ok rfl ?_
 refine aP ?_
 refine bX rfl (fun e=>by simp at e) (fun _=>?_)
 refine aF ?_
 refine aR (nk:=[64,65,66]) (aCv 901 64 (aCv 902 65 (aCv 903 66 (UZ hn hβ)))) fun y y3=>?_
 obtain ⟨d,id⟩:=y
 dsimp only at y3 ⊢
 have hd:=fI y3
 have hf:=KV hd id
 refine aN ?_
 refine aR (aCv 901 93 (aCv 902 94 (rN d hd id))) fun _ _=>?_
 refine aN ?_
 refine aR (aCv 901 95 (aCv 902 96 (SB d hd id))) fun _ _=>?_
 refine aN ?_
 refine aH (ZT (fF d id).1 hf.1 hf.2) ?_
 refine bX rfl (fun e=>by simp at e) (fun _=>?_)
 refine aF ?_
 rcases JB r m with ⟨h1,h2⟩ | ⟨h1,h2,h3⟩
 ·rw [h1]
  refine bX rfl (fun _=>?_) (fun e=>by cases e)
  rw [h2]
  refine aF ?_
  refine lZ TT_ok (fZ aCl (rA _ (by decide))) rfl rfl (SVs.cons (aCs _) (SVs.cons z6 rfl)) rfl rfl ?_
  exact aG [(2,none)] (rfl)
 rw [h3] at hX ⊢
 have hok:=A8 (n:=r.toNat) (m:=m.toNat) (by omega) (by omega)
 have hup:=aAM (n:=r.toNat) (m:=m.toNat) (by omega) (by omega)
 have hce:=U2 (n:=r.toNat) (m:=m.toNat) (by omega) (by omega)
 have hpl:(gQ r.toNat m.toNat).places.length=r.toNat:=by show ((List.range r.toNat).map _).length=_;simp
 have hC:=O5 (gQ r.toNat m.toNat) hX 0
 rw [hce] at hC
 refine bX rfl (fun e=>by cases e) (fun _=>?_)
 refine aF ?_
 refine aR (aCv 900 97 hC) fun _ _=>?_
 refine aN ?_
 refine aH (sX (gQ r.toNat m.toNat) hX hok) ?_
 refine aR (aCv 900 98 (qC (gQ r.toNat m.toNat) hX)) fun _ _=>?_
 refine aN ?_
 have hgl:(bif (bif true then ((iG (gQ r.toNat m.toNat)).length:Int) == m else false) then true else false)=true:=by
  rw [hup,show ((m.toNat:Nat):Int)=m by omega];simp
 refine cO TT_ok (aCv 900 99 CA) rfl rfl (aCu _) (fun _=>rfl) rfl rfl rfl (fun _ _=>?_) (hg:=⟨rfl,congrArg (fun x=>some (vB x)) hgl⟩)
 refine aN ?_
 refine l4 TT_ok (RH cells0 (by decide)) rfl rfl rfl rfl rfl ?_
 exact b9 TT_ok [(2,none)] rfl rfl ((by simp [hup,hpl];omega))
end
end Go.Proofs.YtnffflcjaipdkaaGreat
