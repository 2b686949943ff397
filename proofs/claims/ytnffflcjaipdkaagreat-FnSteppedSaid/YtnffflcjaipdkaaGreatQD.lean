/-
  What the claim leans on, made short by program.
-/
import Derived.Test.YtnffflcjaipdkaaGreatQC
namespace Go.Proofs.YtnffflcjaipdkaaGreat
open Go Go.RowKit
set_option linter.unusedVariables false
set_option linter.unusedSimpArgs false
set_option maxRecDepth 4000
section
abbrev XK (x:GRecord) (k1:Nat):SV := .ag [.v (.int .i64 x.kind), .v (.int .i64 x.tx), .v (.int .i64 x.region), .g k1]
abbrev T3 (x:GMachine) (k1 k2 k3:Nat):SV := .ag [.v (.bool x.alive), .g k1, .g k2, .g k3]
abbrev BQ (x:GTx) (k1 k2:Nat):SV := .ag [.v (.int .i64 x.id), .v (.int .i64 x.home), .v (.int .i64 x.phase), .v (.int .i64 x.done), .g k1, .g k2, .v (.int .i64 x.stamp)]
abbrev iC (x:GCluster) (k1 k2 k3:Nat):SV := .ag [.v (.int .i64 x.config), .v (.int .i64 x.clock), .g k1, .g k2, .g k3, .v (.bool x.lost)]
end
section
abbrev lU:V := .v (.slice none 0 0)
abbrev MkT (P:Program) (f:Nat) (args:List SV) (t:GTx):Prop:=Con P f [] args [] (fun _:Unit=>True) (fun _=>[BQ t 901 902]) fun _=>[(901,bE 5 cT aCn t.reads),(902,bE 5 cP aCm t.sets)]
abbrev MkR (P:Program) (f:Nat) (args:List SV) (t:GRecord):Prop:=Con P f [] args [] (fun _:Unit=>True) (fun _=>[XK t 901]) fun _=>[(901,bE 5 cP aCm t.sets)]
abbrev V8 (P:Program) (f:Nat) (args:List SV) (m:GMachine):Prop:=Con P f [] args [] (fun _:Unit=>True) (fun _=>[T3 m 901 902 903]) fun _=>[(901,bE 2 dA aCp m.copies),(902,bE 4 cK aCq m.log),(903,bE 1 bS 0 m.cleared)]
abbrev yB (P:Program) (f:Nat) (args:List SV) (c:GCluster):Prop:=Con P f [] args [] (fun _:Unit=>True) (fun _=>[iC c 901 902 903]) fun _=>[(901,bE 1 cE aCi c.places),(902,bE 4 bJ aCj c.machines),(903,bE 7 cTx aCk c.txs)]
theorem BC (t:GTx) (h1:t.reads.length≤1048576) (h2:t.sets.length≤1048576):MkT Tryz.prog 101 [vR (cTx t)] t:=by
 refine aE Tryz.func101 fun B0 r_ D_ w0=>?_
 refine aF ?_
 refine aM 3 (fun i=>cT (([]:List GNote).getD i aCn)) (fun i hi=>absurd hi (Nat.not_lt_zero _)) (mu1:=[]) ?_
 refine aN ?_
 refine oG TT_ok 3 901 rfl rfl rfl rfl rfl rfl rfl rfl rfl rfl rfl rfl ⟨by simp;omega,by unfold maxL;omega⟩ ?_
 refine aN ?_
 refine aM 8 (fun i=>cP (([]:List GSet).getD i aCm)) (fun i hi=>absurd hi (Nat.not_lt_zero _)) (mu1:=[]) ?_
 refine aN ?_
 refine oG TT_ok 8 902 rfl rfl rfl rfl rfl rfl rfl rfl rfl rfl rfl rfl ⟨by simp;omega,by unfold maxL;omega⟩ ?_
 refine aN ?_
 refine aC (()) [(2,some 48)] ?_ ?_ ?_
 ·exact aCu _
 ·exact ⟨⟨_,rfl,mX (ys:=([]:List GNote)) (by simp)⟩,⟨_,rfl,mX (ys:=([]:List GSet)) (by simp)⟩,trivial⟩
 ·trivial
theorem MZ (t:GTx) (h1:t.reads.length≤1048576) (h2:t.sets.length≤1048576):MkT Tryz.prog 81 [vR (cTx t)] t:=by
 refine aE Tryz.func81 fun B0 r_ D_ w0=>?_
 refine aF ?_
 refine aW [] [0,1,3,4,2,5,6,7,8,9] fun B0 H0=>?_
 refine aX 2 (aCv 900 901 (GC t.reads h1)) fun _ _=>?_
 refine aY [6,5,7,8,9] ?_
 refine aX 5 (aCv 900 902 (CQ t.sets h2)) fun _ _=>?_
 refine dR 7 rfl (by kernel_rfl) (by kernel_rfl) (aV (eJ [1] fun B0 H0=>?_))
 refine aY [8,9] ?_
 refine dR 9 rfl (by kernel_rfl) (by kernel_rfl) (aV (eJ [] fun B0 H0=>?_))
 refine aP ?_
 refine aC (()) [(2,some 48)] ?_ ?_ ?_
 ·exact aCu _
 ·exact wM
 ·trivial
theorem UB (x:GRecord) (h1:x.sets.length≤1048576):MkR Tryz.prog 214 [vR (cK x)] x:=by
 refine aE Tryz.func214 fun B0 r_ D_ w0=>?_
 refine aF ?_
 refine aM 3 (fun i=>cP (([]:List GSet).getD i aCm)) (fun i hi=>absurd hi (Nat.not_lt_zero _)) (mu1:=[]) ?_
 refine aN ?_
 refine oG TT_ok 3 901 rfl rfl rfl rfl rfl rfl rfl rfl rfl rfl rfl rfl ⟨by simp;omega,by unfold maxL;omega⟩ ?_
 refine aN ?_
 refine aC (()) [(2,some 83)] ?_ ?_ ?_
 ·exact aCu _
 ·exact ⟨⟨_,rfl,mX (ys:=([]:List GSet)) (by simp)⟩,trivial⟩
 ·trivial
theorem YW (m:GMachine) (hb:D.bds dJ (bJ m)):V8 Tryz.prog 141 [vR (bJ m)] m:=by
 have b1:m.copies.length≤1048576:=hb.2.1.1
 have b2:m.log.length≤1048576:=hb.2.2.1.1
 have b3:m.cleared.length≤1048576:=hb.2.2.2.1.1
 refine aE Tryz.func141 fun B0 r_ D_ w0=>?_
 refine aT ?_
 refine aU 1 fun r_=>?_
 refine zS ?_
 refine T6 [(1,vP (bJ m)),(2, .a (.p 2 0)),(3, .a (.p 3 0))] [(2, .row [.v (.bool false),lU,lU,lU]),(3, .row [.v (.bool m.alive),lU,lU, .g 11]),(11,bE 1 bS 0 m.cleared)] ?_ fun key=>?_
 ·refine aZ ?_
  refine bB (a5 3 1 2 (fun i=>dA (([]:List GCopy).getD i aCp))) ?_
  refine bB (a5 3 2 4 (fun i=>cK (([]:List GRecord).getD i aCq))) ?_
  refine bB (a6 3 1 31) ?_
  refine bB (a6 3 2 32) ?_
  refine aK (ι:=Nat) (fun i=>[(4,vI i)]) (fun i=>[(31,bE 2 dA aCp (m.copies.take i)),(3, .row [.v (.bool m.alive), .g 31, .g 32, .g 11])]) (fun i=>i≤m.copies.length) (fun i=>m.copies.length - i) 0 [31,3] [31] (Nat.zero_le _) ?_
  intro i h1
  refine aF ?_
  refine aI (fun e=>?_) (fun e=>?_)
  ·have hi:i<m.copies.length:=by omega
   have hl:(m.copies.take i).length=i:=by rw [List.length_take];omega
   refine aF ?_
   refine aW [31] [0,1,2,3,4,5,6,7,8,9,10,11,12,13,14,15,16,17,18,19] fun B0 H0=>?_
   refine aX 14 (aCv 900 34 (yG (m.copies.getD i aCp).cells (hb.2.1.2 i hi).2.1.1)) fun _ _=>?_
   refine aY [15,16,17,18,19] ?_
   refine bG 16 rfl (by kernel_rfl) (dV TT_ok 36 (fun _=>dA (m.copies.getD i aCp)) rfl rfl rfl rfl rfl rfl rfl (fun j hj=>by rcases j with _ | j <;>first | rfl | omega) (mu1:=[(34, .arr 0 0 fun _=>[])]) rfl rfl rfl (bD ?_))
   refine bG 17 rfl (by kernel_rfl) (dM TT_ok 31 36 37 rfl rfl rfl rfl rfl rfl rfl rfl rfl rfl rfl rfl ⟨by show ((m.copies.take i).length+1) * 32≤_;omega,by unfold maxL;omega⟩ (bD ?_))
   refine aY [18,19] ?_
   refine dR 19 rfl (by kernel_rfl) (by kernel_rfl) (aV (eJ [] fun B0 H0=>?_))
   refine aP ?_
   refine bC (bL 31 37) ?_
   exact bN (i+1) hi (by omega) wF ⟨⟨_,rfl,aS (x:=m.copies.getD i aCp) (cC hi)⟩,wM⟩
  have hi:i=m.copies.length:=by omega
  subst hi
  rw [List.take_length]
  refine aF ?_
  refine aK (ι:=Nat) (fun i=>[(5,vI i)]) (fun i=>[(32,bE 4 cK aCq (m.log.take i)),(3, .row [.v (.bool m.alive), .g 31, .g 32, .g 11])]) (fun i=>i≤m.log.length) (fun i=>m.log.length - i) 0 [32,3] [32] (Nat.zero_le _) ?_
  intro i h1
  refine aF ?_
  refine aI (fun e=>?_) (fun e=>?_)
  ·have hi:i<m.log.length:=by omega
   have hl:(m.log.take i).length=i:=by rw [List.length_take];omega
   refine aF ?_
   refine aW [32] [0,1,2,3,4,5,6,7,8,9,10,11] fun B0 H0=>?_
   refine aX 7 (aCv 901 53 (UB (m.log.getD i aCq) (hb.2.2.1.2 i hi).2.2.2.1.1)) fun _ _=>?_
   refine bG 8 rfl (by kernel_rfl) (dV TT_ok 54 (fun _=>cK (m.log.getD i aCq)) rfl rfl rfl rfl rfl rfl rfl (fun j hj=>by rcases j with _ | j <;>first | rfl | omega) (mu1:=[(53, .arr 0 0 fun _=>[])]) rfl rfl rfl (bD ?_))
   refine bG 9 rfl (by kernel_rfl) (dM TT_ok 32 54 55 rfl rfl rfl rfl rfl rfl rfl rfl rfl rfl rfl rfl ⟨by show ((m.log.take i).length+1) * 48≤_;omega,by unfold maxL;omega⟩ (bD ?_))
   refine aY [10,11] ?_
   refine dR 11 rfl (by kernel_rfl) (by kernel_rfl) (aV (eJ [] fun B0 H0=>?_))
   refine aP ?_
   refine bC (bL 32 55) ?_
   exact bN (i+1) hi (by omega) wF ⟨⟨_,rfl,aS (x:=m.log.getD i aCq) (cC hi)⟩,wM⟩
  have hi:i=m.log.length:=by omega
  subst hi
  rw [List.take_length]
  refine aF ?_
  refine bB (bL 31 901) ?_
  refine bB (bL 32 902) ?_
  refine bB (bL 11 903) ?_
  refine aC (()) [(2,some 39)] ?_ ?_ ?_
  ·exact aCu _
  ·exact wM
  ·trivial
 ·refine aW [] [0,1,3,4,2,5,6,7,8] fun B0 H0=>?_
  refine eU 2 7 rfl rfl (by kernel_rfl) (dV TT_ok 8 (fun i=>bS (([]:List Int).getD i 0)) rfl rfl rfl rfl rfl rfl rfl (fun i hi=>absurd hi (Nat.not_lt_zero _)) (mu1:=[]) rfl rfl rfl (bD ?_)) (aV (bD ?_))
  ·skip
   refine eU 5 7 rfl rfl (by kernel_rfl) (qJ TT_ok 8 11 rfl rfl rfl rfl rfl rfl rfl rfl rfl rfl rfl rfl ⟨by simp;omega,by unfold maxL;omega⟩ (bD ?_)) (aV (bD ?_))
   ·refine aY [6,7,8] ?_
    refine bG 7 rfl (by kernel_rfl) (aV (bD ?_))
    refine bG 8 rfl (by kernel_rfl) (aV (bD ?_))
    exact oF key wF ⟨⟨_,rfl,aCt _⟩,⟨_,rfl,aCt _⟩,⟨_,rfl,mX (ys:=([]:List Int)) (by simp)⟩,trivial⟩
   ·skip
    refine bG 5 rfl (by kernel_rfl) (qJ TT_ok 8 11 rfl rfl rfl rfl rfl rfl rfl rfl rfl rfl rfl rfl ⟨by simp;omega,by unfold maxL;omega⟩ (bD ?_))
    refine aY [6,8] ?_
    refine bG 8 rfl (by kernel_rfl) (aV (bD ?_))
    exact oF key wF ⟨⟨_,rfl,aCt _⟩,⟨_,rfl,aCt _⟩,⟨_,rfl,mX (ys:=([]:List Int)) (by simp)⟩,trivial⟩
  ·skip
   refine bG 2 rfl (by kernel_rfl) (dV TT_ok 8 (fun i=>bS (([]:List Int).getD i 0)) rfl rfl rfl rfl rfl rfl rfl (fun i hi=>absurd hi (Nat.not_lt_zero _)) (mu1:=[]) rfl rfl rfl (bD ?_))
   refine bG 5 rfl (by kernel_rfl) (qJ TT_ok 8 11 rfl rfl rfl rfl rfl rfl rfl rfl rfl rfl rfl rfl ⟨by simp;omega,by unfold maxL;omega⟩ (bD ?_))
   refine aY [6,8] ?_
   refine bG 8 rfl (by kernel_rfl) (aV (bD ?_))
   exact oF key wF ⟨⟨_,rfl,aCt _⟩,⟨_,rfl,aCt _⟩,⟨_,rfl,mX (ys:=([]:List Int)) (by simp)⟩,trivial⟩
end
section
abbrev O2 (P:Program) (f:Nat) (args:List SV) (c:GCluster) (b:Bool):Prop:=Con P f [] args [] (fun _:Unit=>True) (fun _=>[iC c 901 902 903,vB b]) fun _=>[(901,bE 1 cE aCi c.places),(902,bE 4 bJ aCj c.machines),(903,bE 7 cTx aCk c.txs)]
abbrev vQ (P:Program) (f:Nat) (args:List SV) (c:GCluster) (n:Int):Prop:=Con P f [] args [] (fun _:Unit=>True) (fun _=>[iC c 901 902 903,vI n]) fun _=>[(901,bE 1 cE aCi c.places),(902,bE 4 bJ aCj c.machines),(903,bE 7 cTx aCk c.txs)]
abbrev fW (c:GCluster) (k1 k2 k3:Nat):List V:=[.v (.int .i64 c.config), .v (.int .i64 c.clock), .g k1, .g k2, .g k3, .v (.bool c.lost)]
theorem cG {α:Type} {sz k:Nat} {enc:α→List D} {z y:α} {xs:List α} {l:List D} (hl:OwnI l (enc y)):(Ch.arr sz xs.length fun j=>bif Nat.beq j k then l else enc (xs.getD j z)).imp (bE sz enc z (xs.set k y)) :=
 Ch.imp_own (by simp) fun j hj=>by
  by_cases c:j=k
  ·subst c
   rw [Nat.beq_refl]
   have:(xs.set j y).getD j z=y:=by simp [hj]
   rw [this];exact hl
  ·have h1:Nat.beq j k=false:=by
    cases e:Nat.beq j k with
    | false=>rfl
    | true=>exact absurd (Nat.eq_of_beq_eq_true e) c
   have h2:(xs.set k y).getD j z=xs.getD j z:=by simp [List.getElem?_set_ne (Ne.symm c)]
   rw [h1,h2];exact OwnI.refl _
theorem LT:OwnI [.v (.bool false), .v (.slice none 0 0), .v (.slice none 0 0), .v (.slice none 0 0)] (bJ aCj):=OwnI.c (OwnI.n (OwnI.n (OwnI.n OwnI.e)))
def lL (ms:List GMachine) (m0:Int):Bool:=bif inB m0 0 ((ms.length:Int) - 1) then (ms.getD m0.toNat aCj).alive else false
def fX (ms:List GMachine) (m0:Int):List GMachine:=if lL ms m0=true then ms.set m0.toNat aCj else ms
open Classical in
noncomputable def fR (c:GCluster) (m0:Int):GCluster×Bool:=if ClusOk c then ({ c with machines:=fX c.machines m0 },lL c.machines m0) else (aCl,false)
theorem sD {ms:List GMachine} {m0:Int} (h:lL ms m0=true):0≤m0∧m0<ms.length:=by
 unfold lL at h
 cases c:inB m0 0 ((ms.length:Int) - 1) with
 | false=>rw [c] at h;cases h
 | true=>have:=b6.1 c;omega
theorem ME {ms:List GMachine} {m0:Int}:(bif !inB m0 0 ((ms.length:Int) - 1) then true else !(ms.getD m0.toNat aCj).alive) = !lL ms m0:=by
 unfold lL
 cases inB m0 0 ((ms.length:Int) - 1) <;>rfl
theorem vV {n:Nat} {m0:Int} (k:(!inB m0 0 ((n:Int) - 1))=false):0≤m0∧m0<n:=by
 have:=b6.1 (show inB m0 0 ((n:Int) - 1)=true from by simpa using k)
 omega
theorem l9 (c:GCluster) (hb:D.bds dJ (bO c)) (m0:Int) (hC:yB Tryz.prog 68 [vR (bO c)] c):O2 Tryz.prog 13 [vR (bO c),vI m0] (fR c m0).1 (fR c m0).2:=by
 have b2:c.machines.length≤1048576:=hb.2.2.2.1.1
 refine aE Tryz.func13 fun B0 r_ D_ w0=>?_
 refine aT ?_
 refine aU 2 fun r_=>?_
 refine aF ?_
 refine aH (d5 c hb) ?_
 refine eF rfl (fun e=>?_) (fun e=>?_)
 ·rw [show fR c m0=(aCl,false) from if_neg (jN.1 e)]
  refine aF ?_
  refine bB (a5 4 2 1 (fun i=>cE (([]:List GPlace).getD i aCi))) ?_
  refine bB (a5 4 3 4 (fun i=>bJ (([]:List GMachine).getD i aCj))) ?_
  refine bB (a5 4 4 7 (fun i=>cTx (([]:List GTx).getD i aCk))) ?_
  refine bB (a6 4 2 901) ?_
  refine bB (a6 4 3 902) ?_
  refine bB (a6 4 4 903) ?_
  refine aC (()) [(4,some 28),(5,none)] ?_ ?_ ?_
  ·exact aCu _
  ·exact wM
  ·trivial
 rw [show fR c m0=({ c with machines:=fX c.machines m0 },lL c.machines m0) from if_pos (c9.1 e)]
 refine aF ?_
 refine aR (aCv 901 6001 (aCv 902 6002 (aCv 903 6003 hC))) fun _ _=>?_
 refine aN ?_
 refine JJ TT_ok (eA _ _ _) rfl rfl (aCu _) rfl rfl ?_ ?_
 ·exact ⟨vV,trivial⟩
 rw [ME]
 refine eF rfl (fun e1=>?_) (fun e1=>?_)
 ·rw [show fX c.machines m0=c.machines from if_neg (by rw [e1];simp),e1]
  refine aF ?_
  refine bB (bL 6001 901) ?_
  refine bB (bL 6002 902) ?_
  refine bB (bL 6003 903) ?_
  refine aC (()) [(4,some 28),(5,none)] ?_ ?_ ?_
  ·exact aCu _
  ·exact wM
  ·trivial
 ·have hin:=sD e1
  rw [show fX c.machines m0=c.machines.set m0.toNat aCj from if_pos e1,e1]
  refine aF ?_
  refine bB (bL 6001 901) ?_
  refine bB (bL 6002 902) ?_
  refine bB (bL 6003 903) ?_
  refine aC (()) [(4,some 28),(5,none)] ?_ ?_ ?_
  ·exact aCu _
  ·exact ⟨⟨_,rfl,aCt _⟩,⟨_,rfl,cG LT⟩,⟨_,rfl,aCt _⟩,trivial⟩
  ·trivial
end
section
section
variable {E:Env} {B:BE} {mu mu':Mu} {w:World} {H:Nat→PH} {TT:List TI} {fr fr':Fr} {gf gf':GF} {a:Act} {all rest:List Oper} {Q:Exit→Act→World→Prop} {o:Oper} {J:Act→World→Prop} {G:AG}
theorem gG {ι:Type} {f:Nat} {ks nk:List Nat} {args:List SV} {mu1:Mu} {φ:ι→Prop} {res:ι→List SV} {mu1':ι→Mu} (C:Con E.P f ks args mu1 φ res mu1') {svs args':List SV} {g:Option (Nat×Nat×Bool)} {t:Nat} {q:Ob} {es:List Prop} {gs:List GO} {md:Mu}
  (hc:kN E.N all fr gf o=some (f,svs,g,t,gf')) (hw:lS mu (bU mu1) ks svs=some (args',q)) (ha:SVs.imp E.P args' args) (hnk:∀ y,nP (mu1' y)=nk) (hs:dQ fr gf [] q [] [] = some (es,gs)) (hmd:d7 (fB (bU mu1) nk) mu=some md) {gf2:GF} (hcut:iK (bU mu1) fr gf'=some (fr',gf2))
  (k:∀ y,φ y→SJ G J E ((t,EE (res y)) :: fr') gf2 (lI (mu1' y) md))
  (hin:mN mu mu1:=by exact iD) (hg:KE fr gf g:=by first | exact trivial | exact ⟨rfl,rfl⟩) (hkeys:iF ks nk mu1 fr gf mu E.A.ks G.ks=true:=by exact rfl) (hout:∀ y,(SV.inKL (fB ks nk) (res y) && lR (fB ks nk) (mu1' y))=true:=by exact fun _=>rfl) (hen:iE E.P f:=by exact aB) (he:cS es:=by exact eD) (ho:cQ gs:=by exact gD):OJ G E all Q J o fr gf mu :=
 YZ C hc hg hen hw ha hs he ho hin hnk hkeys hout hmd hcut k
end
theorem wS {α:Type} {sz:Nat} {enc:α→List D} {z x:α} {ys rs:List α} {g:Nat→List D} (h:rs=ys ++ [x]) (hg:OwnI (g 0) (enc x)):(Ch.arr sz (ys.length+1) (kY ys.length (fun i=>enc (ys.getD i z)) g)).imp (bE sz enc z rs):=by
 subst h
 refine Ch.imp_own (by simp) fun i hi=>?_
 by_cases c:i<ys.length
 ·rw [jA c];exact OwnI.of (by congr 1;simp [List.getElem?_append_left c])
 ·have:i=ys.length:=by omega
  subst this
  rw [mU (by omega),Nat.sub_self]
  have e:(ys ++ [x]).getD ys.length z=x:=by simp
  rw [e];exact hg
theorem OwnI.sl {l m:List D} {sz n n':Nat} {f g:Nat→List D} (hn:n=n') (h:∀ i,i<n→f i=g i) (k:OwnI l m):OwnI (.sl sz n f :: l) (.sl sz n' g :: m):=fun hh vs ⟨y,t,h1,h2,e1,e2,e3,e4,e5,e6⟩ =>
 ⟨y,t,h1,h2,e1,e2,e3,e4,by subst hn;exact D.own_congr h e5,k _ _ e6⟩
theorem fY (c:GCluster) (hb:D.bds dJ (bO c)):yB Tryz.prog 68 [vR (bO c)] c:=by
 have b1:c.places.length≤1048576:=hb.2.2.1.1
 have b2:c.machines.length≤1048576:=hb.2.2.2.1.1
 have b3:c.txs.length≤1048576:=hb.2.2.2.2.1.1
 refine aE Tryz.func68 fun B0 r_ D_ w0=>?_
 refine aT ?_
 refine aU 1 fun r_=>?_
 refine aF ?_
 refine bB (a5 3 2 1 (fun i=>cE (([]:List GPlace).getD i aCi))) ?_
 refine bB (a5 3 3 4 (fun i=>bJ (([]:List GMachine).getD i aCj))) ?_
 refine bB (a5 3 4 7 (fun i=>cTx (([]:List GTx).getD i aCk))) ?_
 refine bB (a6 3 2 901) ?_
 refine bB (a6 3 3 902) ?_
 refine bB (a6 3 4 903) ?_
 refine aK (ι:=Nat) (fun i=>[(4,vI i)]) (fun i=>[(901,bE 1 cE aCi (c.places.take i)),(3, .row [.v (.int .i64 c.config), .v (.int .i64 c.clock), .g 901, .g 902, .g 903, .v (.bool c.lost)])]) (fun i=>i≤c.places.length) (fun i=>c.places.length - i) 0 [901,3] [901] (Nat.zero_le _) ?_
 intro i h1
 refine aF ?_
 refine aI (fun e=>?_) (fun e=>?_)
 ·have hi:i<c.places.length:=by omega
  have hl:(c.places.take i).length=i:=by rw [List.length_take];omega
  have hm:(c.places.getD i aCi).machines.length≤1048576:=(hb.2.2.1.2 i hi).1.1
  refine aF ?_
  refine aW [901] [0,1,3,4,5,6,7,8,2,9,10,11,12,13,14] fun B0 H0=>?_
  refine bG 2 rfl (by kernel_rfl) (dV TT_ok 23 (fun i=>bS (([]:List Int).getD i 0)) rfl rfl rfl rfl rfl rfl rfl (fun i hi=>absurd hi (Nat.not_lt_zero _)) (mu1:=[]) rfl rfl rfl (bD ?_))
  refine bG 9 rfl (by kernel_rfl) (qJ TT_ok 23 30 rfl rfl rfl rfl rfl rfl rfl rfl rfl rfl rfl rfl ⟨by simp;simp at hm;omega,by unfold maxL;simp at hm ⊢;omega⟩ (bD ?_))
  refine aY [10,11,12,13,14] ?_
  refine bG 11 rfl (by kernel_rfl) (dV TT_ok 32 (fun _=>[.sl 1 _ _]) rfl rfl rfl rfl rfl rfl rfl (fun j hj=>by rcases j with _ | j <;>first | rfl | omega) (mu1:=[(30, .arr 0 0 fun _=>[])]) rfl rfl rfl (bD ?_))
  refine bG 12 rfl (by kernel_rfl) (dM TT_ok 901 32 33 rfl rfl rfl rfl rfl rfl rfl rfl rfl rfl rfl rfl ⟨by show ((c.places.take i).length+1) * 24≤_;omega,by unfold maxL;omega⟩ (bD ?_))
  refine aY [13,14] ?_
  refine dR 14 rfl (by kernel_rfl) (by kernel_rfl) (aV (eJ [] fun B0 H0=>?_))
  refine aP ?_
  refine bC (bL 901 33) ?_
  exact bN (i+1) hi (by omega) wF ⟨⟨_,rfl,wS (x:=c.places.getD i aCi) (cC hi) (OwnI.sl (by simp) (fun i _=>mU (Nat.zero_le _)) OwnI.e)⟩,wM⟩
 have hi:i=c.places.length:=by omega
 subst hi
 rw [List.take_length]
 refine aF ?_
 refine aK (ι:=Nat) (fun i=>[(5,vI i)]) (fun i=>[(902,bE 4 bJ aCj (c.machines.take i)),(3, .row [.v (.int .i64 c.config), .v (.int .i64 c.clock), .g 901, .g 902, .g 903, .v (.bool c.lost)])]) (fun i=>i≤c.machines.length) (fun i=>c.machines.length - i) 0 [902,3] [902] (Nat.zero_le _) ?_
 intro i h1
 refine aF ?_
 refine aI (fun e=>?_) (fun e=>?_)
 ·have hi:i<c.machines.length:=by omega
  have hl:(c.machines.take i).length=i:=by rw [List.length_take];omega
  refine aF ?_
  refine aW [902] [0,1,2,3,4,5,6,7,8,9,10,11] fun B0 H0=>?_
  refine aX 7 (aCv 901 491 (aCv 902 492 (aCv 903 493 (YW (c.machines.getD i aCj) (hb.2.2.2.1.2 i hi))))) fun _ _=>?_
  refine bG 8 rfl (by kernel_rfl) (dV TT_ok 50 (fun _=>bJ (c.machines.getD i aCj)) rfl rfl rfl rfl rfl rfl rfl (fun j hj=>by rcases j with _ | j <;>first | rfl | omega) (mu1:=[(491, .arr 0 0 fun _=>[]),(492, .arr 0 0 fun _=>[]),(493, .arr 0 0 fun _=>[])]) rfl rfl rfl (bD ?_))
  refine bG 9 rfl (by kernel_rfl) (dM TT_ok 902 50 51 rfl rfl rfl rfl rfl rfl rfl rfl rfl rfl rfl rfl ⟨by show ((c.machines.take i).length+1) * 80≤_;omega,by unfold maxL;omega⟩ (bD ?_))
  refine aY [10,11] ?_
  refine dR 11 rfl (by kernel_rfl) (by kernel_rfl) (aV (eJ [] fun B0 H0=>?_))
  refine aP ?_
  refine bC (bL 902 51) ?_
  exact bN (i+1) hi (by omega) wF ⟨⟨_,rfl,aS (x:=c.machines.getD i aCj) (cC hi)⟩,wM⟩
 have hi:i=c.machines.length:=by omega
 subst hi
 rw [List.take_length]
 refine aF ?_
 refine aK (ι:=Nat) (fun i=>[(6,vI i)]) (fun i=>[(903,bE 7 cTx aCk (c.txs.take i)),(3, .row [.v (.int .i64 c.config), .v (.int .i64 c.clock), .g 901, .g 902, .g 903, .v (.bool c.lost)])]) (fun i=>i≤c.txs.length) (fun i=>c.txs.length - i) 0 [903,3] [903] (Nat.zero_le _) ?_
 intro i h1
 refine aF ?_
 refine aI (fun e=>?_) (fun e=>?_)
 ·have hi:i<c.txs.length:=by omega
  have hl:(c.txs.take i).length=i:=by rw [List.length_take];omega
  have ht:=hb.2.2.2.2.1.2 i hi
  refine aF ?_
  refine aW [903] [0,1,2,3,4,5,6,7,8,9,10,11] fun B0 H0=>?_
  refine aX 7 (aCv 901 671 (aCv 902 672 (BC (c.txs.getD i aCk) ht.2.2.2.2.1.1 ht.2.2.2.2.2.1.1))) fun _ _=>?_
  refine bG 8 rfl (by kernel_rfl) (dV TT_ok 68 (fun _=>cTx (c.txs.getD i aCk)) rfl rfl rfl rfl rfl rfl rfl (fun j hj=>by rcases j with _ | j <;>first | rfl | omega) (mu1:=[(671, .arr 0 0 fun _=>[]),(672, .arr 0 0 fun _=>[])]) rfl rfl rfl (bD ?_))
  refine bG 9 rfl (by kernel_rfl) (dM TT_ok 903 68 69 rfl rfl rfl rfl rfl rfl rfl rfl rfl rfl rfl rfl ⟨by show ((c.txs.take i).length+1) * 88≤_;omega,by unfold maxL;omega⟩ (bD ?_))
  refine aY [10,11] ?_
  refine dR 11 rfl (by kernel_rfl) (by kernel_rfl) (aV (eJ [] fun B0 H0=>?_))
  refine aP ?_
  refine bC (bL 903 69) ?_
  exact bN (i+1) hi (by omega) wF ⟨⟨_,rfl,aS (x:=c.txs.getD i aCk) (cC hi)⟩,wM⟩
 have hi:i=c.txs.length:=by omega
 subst hi
 rw [List.take_length]
 refine aF ?_
 refine aC (()) [(2,some 28)] ?_ ?_ ?_
 ·exact aCu _
 ·exact wM
 ·trivial
end
section
abbrev UO (P:Program) (f:Nat) (args:List SV) (t:GTx) (b:Bool):Prop:=Con P f [] args [] (fun _:Unit=>True) (fun _=>[BQ t 901 902,vB b]) fun _=>[(901,bE 5 cT aCn t.reads),(902,bE 5 cP aCm t.sets)]
theorem tA (c:GCluster):vQ Tryz.prog 77 [vR (bO c),vI 1] aCl 1:=by
 refine aE Tryz.func77 fun B0 r_ D_ w0=>?_
 refine aT ?_
 refine aU 2 fun r_=>?_
 refine aF ?_
 refine bX rfl (fun e=>?_) (fun e=>by cases e)
 refine aF ?_
 refine bB (a5 4 2 1 (fun i=>cE (([]:List GPlace).getD i aCi))) ?_
 refine bB (a5 4 3 4 (fun i=>bJ (([]:List GMachine).getD i aCj))) ?_
 refine bB (a5 4 4 7 (fun i=>cTx (([]:List GTx).getD i aCk))) ?_
 refine bB (a6 4 2 901) ?_
 refine bB (a6 4 3 902) ?_
 refine bB (a6 4 4 903) ?_
 refine aC (()) [(4,some 28),(5,none)] ?_ ?_ ?_
 ·exact aCu _
 ·exact wM
 ·trivial
theorem mK (c:GCluster) (hb:D.bds dJ (bO c)) (n:Int) (h:n≠1):vQ Tryz.prog 77 [vR (bO c),vI n] c n:=by
 refine aE Tryz.func77 fun B0 r_ D_ w0=>?_
 refine aT ?_
 refine aU 2 fun r_=>?_
 refine aF ?_
 refine aI (fun e=>absurd e h) (fun e=>?_)
 refine aF ?_
 refine aR (fY c hb) fun _ _=>?_
 refine aN ?_
 refine aC (()) [(4,some 28),(5,none)] ?_ ?_ ?_
 ·exact aCu _
 ·exact wM
 ·trivial
abbrev agNew (id home:Int):List V:=[.v (.int .i64 id), .v (.int .i64 home), .v (.int .i64 1), .v (.int .i64 0),lU,lU, .v (.int .i64 0)]
abbrev UN (id home:Int):List D:=[dI id,dI home,dI 1,dI 0, .v (.slice none 0 0), .v (.slice none 0 0),dI 0]
def oB (id home:Int):GTx:=⟨id,home,1,0,[],[],0⟩
theorem HH (id home:Int):OwnI (UN id home) (cTx (oB id home)):=OwnI.c (OwnI.c (OwnI.c (OwnI.c (OwnI.n (OwnI.n (OwnI.c OwnI.e))))))
theorem y7 (id home:Int) (h1:inB id 1 1000000=true) (h2:inB home 0 7=true):Con Tryz.prog 79 [] [vI id,vI home] [] (fun _:Unit=>True) (fun _=>[.ag (agNew id home),vB true]) fun _=>[]:=by
 refine aE Tryz.func79 fun B0 r_ D_ w0=>?_
 refine aF ?_
 refine aH (pH _) ?_
 refine aH (sE _) ?_
 rw [h1,h2]
 refine bX rfl (fun e=>by cases e) (fun e=>?_)
 refine aF ?_
 refine aC (()) [(4,some 48),(5,none)] ?_ ?_ ?_
 ·exact aCu _
 ·exact trivial
 ·trivial
def n9 (c:GCluster) (id:Int):Bool:=bif (bif !inB id 1 1000000 then true else decide ((c.txs.length:Int)=60)) then true else bif decide ((c.txs.length:Int) > 0) then decide ((c.txs.getD ((c.txs.length:Int) - 1).toNat aCk).id ≥ id) else false
def qP (c:GCluster) (home:Int):Bool:=bif !inB home 0 ((c.machines.length:Int) - 1) then true else !(c.machines.getD home.toNat aCj).alive
open Classical in
noncomputable def fA (c:GCluster) (id home:Int):GCluster×Int:=if ClusOk c then (bif n9 c id then (c,2) else bif qP c home then (c,3) else ({ c with txs:=c.txs ++ [oB id home] },0)) else (aCl,1)
theorem tG (c:GCluster) (hb:D.bds dJ (bO c)) (id home:Int):vQ Tryz.prog 20 [vR (bO c),vI id,vI home] (fA c id home).1 (fA c id home).2:=by
 have b2:c.machines.length≤1048576:=hb.2.2.2.1.1
 have b3:c.txs.length≤1048576:=hb.2.2.2.2.1.1
 refine aE Tryz.func20 fun B0 r_ D_ w0=>?_
 refine aT ?_
 refine aU 3 fun r_=>?_
 refine aF ?_
 refine aH (d5 c hb) ?_
 refine eF rfl (fun e=>?_) (fun e=>?_)
 ·rw [show fA c id home=(aCl,1) from if_neg (jN.1 e)]
  refine aF ?_
  refine aR (tA c) fun _ _=>?_
  refine aN ?_
  refine aC (()) [(6,some 28),(7,none)] ?_ ?_ ?_
  ·exact aCu _
  ·exact wM
  ·trivial
 have hok:=c9.1 e
 rw [show fA c id home=(bif n9 c id then (c,2) else bif qP c home then (c,3) else ({ c with txs:=c.txs ++ [oB id home] },0)) from if_pos hok]
 refine aF ?_
 refine aH (pH _) ?_
 refine aA (b:=n9 c id) (fun e=>?_) (fun e2=>?_)
 ·rw [e]
  refine aF ?_
  refine cO TT_ok (mK c hb 2 (by decide)) rfl rfl (aCu _) (fun _=>rfl) rfl rfl rfl fun _ _=>?_
  refine aN ?_
  refine aC (()) [(6,some 28),(7,none)] ?_ ?_ ?_
  ·exact aCu _
  ·exact wM
  ·trivial
 rw [e2]
 refine aF ?_
 refine JJ TT_ok (eA _ _ _) rfl rfl (aCu _) rfl rfl ?_ ?_
 ·exact ⟨vV,trivial⟩
 refine aA (b:=qP c home) (fun e=>?_) (fun e3=>?_)
 ·rw [e]
  refine aF ?_
  refine cO TT_ok (mK c hb 3 (by decide)) rfl rfl (aCu _) (fun _=>rfl) rfl rfl rfl fun _ _=>?_
  refine aN ?_
  refine aC (()) [(6,some 28),(7,none)] ?_ ?_ ?_
  ·exact aCu _
  ·exact wM
  ·trivial
 rw [e3]
 have h1:inB id 1 1000000=true:=by
  unfold n9 at e2
  cases h:inB id 1 1000000 with
  | true=>rfl
  | false=>rw [h] at e2;cases e2
 have h2:inB home 0 7=true:=by
  unfold qP at e3
  cases h:inB home 0 ((c.machines.length:Int) - 1) with
  | true=>have:=b6.1 h;have:=hok.1.2.2.1.2;exact b6.2 (by omega)
  | false=>rw [h] at e3;cases e3
 have h3:c.txs.length≤60:=hok.1.2.2.2
 refine aF ?_
 refine aR (aCv 901 6001 (aCv 902 6002 (aCv 903 6003 (fY c hb)))) fun _ _=>?_
 refine aN ?_
 refine aR (y7 id home h1 h2) fun _ _=>?_
 refine aN ?_
 refine cV TT_ok 84 (fun _=>UN id home) rfl rfl rfl rfl rfl rfl rfl (fun i hi=>by rcases i with _ | i <;>first | rfl | omega) (mu1:=[]) rfl rfl rfl ?_
 refine aN ?_
 refine cU TT_ok 6003 84 85 rfl rfl rfl rfl rfl rfl rfl rfl rfl rfl rfl rfl ⟨by show (c.txs.length+1) * 88≤_;omega,by unfold maxL;omega⟩ ?_
 refine aN ?_
 refine bB (bL 6001 901) ?_
 refine bB (bL 6002 902) ?_
 refine bB (bL 85 903) ?_
 refine aC (()) [(6,some 28),(7,none)] ?_ ?_ ?_
 ·exact aCu _
 ·exact ⟨⟨_,rfl,aCt _⟩,⟨_,rfl,aCt _⟩,⟨_,rfl,wS rfl (HH id home)⟩,trivial⟩
 ·trivial
end
section
def K6 (xs:List GNote):Prop := ∀ a b,a<b→b<xs.length→lessN (xs.getD a aCn) (xs.getD b aCn)
theorem tI {xs:List GNote} (h:readsOk xs xs.length):K6 xs:=fun a b hab hb=>by
 induction b with
 | zero=>omega
 | succ b ih =>
  have h1:=(h (b+1) hb).2 (by omega)
  rw [Nat.add_sub_cancel] at h1
  by_cases c:a=b
  ·subst c;exact h1
  ·have h2:=ih (by omega) (by omega)
   unfold lessN at h1 h2 ⊢
   omega
def FD (r s:Int) (x:GNote):Int:=vS x.region x.slot r s
theorem DE {xs:List GNote} (h:K6 xs) (r s:Int):qB (FD r s) aCn xs:=fun a b hab hb hc=>by
 by_cases c:a=b
 ·subst c;exact hc
 ·have:=h a b (by omega) hb
  unfold FD at hc ⊢
  rw [pD] at hc ⊢
  unfold lessN at this
  omega
def eG (r s:Int) (x:GNote):Bool:=bif x.region == r then x.slot == s else false
theorem xN {r s:Int} {x:GNote}:eG r s x=true ↔ x.region=r∧x.slot=s:=by
 unfold eG
 by_cases h:x.region=r <;>simp [h]
theorem zC (t:GTx) (hl:t.reads.length≤1048576) (r0 s0:Int):Ans Tryz.prog 249 [] [vR (cTx t),vI r0,vI s0] [] (vI (cI (eG r0 s0) t.reads)):=by
 refine aE Tryz.func249 fun B0 r_ D_ w0=>?_
 refine aF ?_
 refine aK (ι:=Nat) (fun i=>[(7,vI i)]) (fun _=>[]) (fun i=>i≤t.reads.length∧∀ j,j<i→eG r0 s0 (t.reads.getD j aCn)=false) (fun i=>t.reads.length - i) 0 [] [] ⟨Nat.zero_le _,fun j hj=>absurd hj (Nat.not_lt_zero _)⟩ ?_
 intro i ⟨h1,h2⟩
 refine aF ?_
 refine aI (fun e=>?_) (fun e=>?_)
 ·have hi:i<t.reads.length:=by omega
  refine aF ?_
  refine aA (fun e2=>?_) (fun e2=>?_)
  ·refine aF ?_
   exact aJ [(6,none)] ((gA hi h2 e2).symm)
  ·refine aF ?_
   exact aL (i+1) ⟨hi,b5 h2 e2⟩ (by omega)
 ·refine aF ?_
  exact dK TT_ok [(6,none)] rfl rfl ((gT fun j hj=>h2 j (by omega)).symm)
theorem H6 {α:Type} {c:α→Int} {z:α} {xs:List α} {i j:Nat} (h:jJ c z xs i) (k:jJ c z xs j):i=j:=by
 rcases Nat.lt_trichotomy i j with h1 | h1 | h1
 ·exact absurd (k.2.1 i h1) (h.2.2 i (Nat.le_refl _) (by have:=k.1;omega))
 ·exact h1
 ·exact absurd (h.2.1 j h1) (k.2.2 j (Nat.le_refl _) (by have:=h.1;omega))
open Classical in
noncomputable def o5 {α:Type} (c:α→Int) (z:α) (xs:List α):Nat:=if h:∃ i,jJ c z xs i then h.choose else 0
theorem sR {α:Type} {c:α→Int} {z:α} {xs:List α} {i:Nat} (h:jJ c z xs i):o5 c z xs=i:=by
 have hx:∃ i,jJ c z xs i:=⟨i,h⟩
 unfold o5
 rw [dif_pos hx]
 exact H6 hx.choose_spec h
def iB {α:Type} (p:Nat) (x:α) (xs:List α):List α:=xs.take p ++ x :: xs.drop p
theorem kC {α:Type} {p:Nat} {x:α} {xs:List α} (h:p≤xs.length):(iB p x xs).length=xs.length+1:=by simp [iB];omega
theorem nN {α:Type} {p:Nat} {x z:α} {xs:List α} (h:p≤xs.length) (j:Nat):(iB p x xs).getD j z=if j<p then xs.getD j z else if j<p+1 then x else xs.getD (j - 1) z:=by
 unfold iB
 by_cases a:j<p
 ·rw [if_pos a]
  simp only [List.getD_eq_getElem?_getD]
  rw [List.getElem?_append_left (by simp;omega),List.getElem?_take_of_lt a]
 ·rw [if_neg a]
  simp only [List.getD_eq_getElem?_getD]
  rw [List.getElem?_append_right (by simp;omega)]
  have hl:(xs.take p).length=p:=by simp;omega
  rw [hl]
  by_cases b:j<p+1
  ·rw [if_pos b]
   have:j - p=0:=by omega
   rw [this];simp
  ·rw [if_neg b]
   obtain ⟨k,hk⟩:∃ k,j - p=k+1:=⟨j - p - 1,by omega⟩
   rw [hk,List.getElem?_cons_succ,List.getElem?_drop]
   congr 2;omega
theorem oE {α:Type} {p:α→Bool} {z:α} {xs:List α} (h:0≤cI p xs):(cI p xs).toNat<xs.length∧p (xs.getD (cI p xs).toNat z)=true:=by
 rcases gH p z xs with ⟨h1,_⟩ | ⟨i,h1,h2,_,h4⟩
 ·rw [h1] at h;omega
 ·rw [h2];exact ⟨by simpa using h1,by simpa using h4⟩
theorem gJ {α:Type} {p:α→Bool} {z:α} {xs:List α}:0≤cI p xs ↔ xs.any p=true:=by
 constructor
 ·intro h
  obtain ⟨h1,h2⟩:=oE (z:=z) h
  exact List.any_eq_true.2 ⟨xs.getD (cI p xs).toNat z,by simp [h1],h2⟩
 ·intro h
  rcases gH p z xs with ⟨h1,h2⟩ | ⟨i,h1,h2,_⟩
  ·obtain ⟨x,hx,hp⟩:=List.any_eq_true.1 h
   obtain ⟨a,ha,rfl⟩:=List.mem_iff_getElem.1 hx
   have:=h2 a ha
   simp [ha] at this
   rw [this] at hp;cases hp
  ·omega
abbrev o3 (t:GTx) (k1 k2:Nat):List V:=[.v (.int .i64 t.id), .v (.int .i64 t.home), .v (.int .i64 t.phase), .v (.int .i64 t.done), .g k1, .g k2, .v (.int .i64 t.stamp)]
noncomputable def cD (t:GTx) (n:GNote):GTx×Bool:=bif t.reads.any (eG n.region n.slot) then (t,true) else bif decide ((t.reads.length:Int)=12) then (t,false) else ({ t with reads:=iB (o5 (FD n.region n.slot) aCn t.reads) n t.reads },true)
theorem DL (t:GTx) (n:GNote):(cD t n).1.sets=t.sets:=by
 unfold cD
 cases t.reads.any (eG n.region n.slot) with
 | true=>rfl
 | false=>cases decide ((t.reads.length:Int)=12) <;>rfl
open Classical in
noncomputable def d8 (t:GTx) (n:GNote):GTx×Bool:=if eN t∧iX n=true∧(cD t n).2=true then ((cD t n).1,true) else (aCk,false)
theorem zK {r s q t:Int}:vS r s q t<0 ↔ xU r s q t=true:=by rw [pD,mA]
theorem CG {α:Type} {sz:Nat} {enc:α→List D} {z x:α} {p:Nat} {xs:List α} (h:p≤xs.length):(Ch.arr sz ((xs.take p).length+1+((xs.length:Int) - ((xs.take p).length:Int)).toNat) (kY ((xs.take p).length+1) (kY (xs.take p).length (fun i=>enc ((xs.take p).getD i z)) fun _=>enc x) fun i=>enc (xs.getD (((xs.take p).length:Int).toNat+i) z))).imp (bE sz enc z (iB p x xs)):=by
 have hl:(xs.take p).length=p:=by rw [List.length_take];omega
 refine Ch.imp_len (by rw [kC h];omega) fun j hj=>?_
 rw [nN h,hl]
 by_cases a:j<p
 ·rw [if_pos a,jA (by omega),jA a]
  congr 1
  simp only [List.getD_eq_getElem?_getD]
  rw [List.getElem?_take_of_lt a]
 ·rw [if_neg a]
  by_cases b:j<p+1
  ·rw [if_pos b,jA b,mU (by omega)]
  ·rw [if_neg b,mU (by omega)]
   have:(p:Int).toNat+(j - (p+1))=j - 1:=by omega
   show enc (xs.getD ((p:Int).toNat+(j - (p+1))) z)=_
   rw [this]
theorem mB (t:GTx) (hb:D.bds dJ (cTx t)) (n:GNote):UO Tryz.prog 200 [vR (cTx t),vR (cT n)] (d8 t n).1 (d8 t n).2:=by
 have b1:t.reads.length≤1048576:=hb.2.2.2.2.1.1
 have b2:t.sets.length≤1048576:=hb.2.2.2.2.2.1.1
 refine aE Tryz.func200 fun B0 r_ D_ w0=>?_
 refine aT ?_
 refine aU 2 fun r_=>?_
 refine aF ?_
 refine aH (wE t) ?_
 refine aH (C0 n) ?_
 by_cases hg:eN t∧iX n=true
 ·have e0:(bif !dec (eN t) then true else !iX n)=false:=by rw [cN hg.1,hg.2];rfl
  have hl:=hg.1.1.2.2.2.2.2.1
  have hs:=tI hg.1.2.1
  rw [e0]
  refine bX rfl (fun e=>by cases e) (fun _=>?_)
  refine aF ?_
  refine aR (BC t b1 b2) fun _ _=>?_
  refine aN ?_
  refine aH (zC t b1 n.region n.slot) ?_
  refine aI (fun e=>?_) (fun e=>?_)
  ·have hany:t.reads.any (eG n.region n.slot)=true:=(gJ (z:=aCn)).1 e
   have hM:cD t n=(t,true):=by unfold cD;rw [hany];rfl
   rw [show d8 t n=(t,true) from by unfold d8;rw [if_pos ⟨hg.1,hg.2,by rw [hM]⟩,hM]]
   refine aF ?_
   refine aC (()) [(4,some 48),(5,none)] ?_ ?_ ?_
   ·exact aCu _
   ·exact wM
   ·trivial
  have hany:t.reads.any (eG n.region n.slot)=false:=by
   cases h:t.reads.any (eG n.region n.slot) with
   | false=>rfl
   | true=>exact absurd ((gJ (z:=aCn)).2 h) e
  refine aF ?_
  refine aI (fun e2=>?_) (fun e2=>?_)
  ·have hM:cD t n=(t,false):=by unfold cD;rw [hany,decide_eq_true e2];rfl
   rw [show d8 t n=(aCk,false) from if_neg fun h=>by rw [hM] at h;exact absurd h.2.2 (by simp)]
   refine aF ?_
   refine bB (a5 4 4 5 (fun i=>cT (([]:List GNote).getD i aCn))) ?_
   refine bB (a5 4 5 5 (fun i=>cP (([]:List GSet).getD i aCm))) ?_
   refine bB (a6 4 4 911) ?_
   refine bB (a6 4 5 912) ?_
   refine bB (bL 911 901) ?_
   refine bB (bL 912 902) ?_
   refine aC (()) [(4,some 48),(5,none)] ?_ ?_ ?_
   ·exact aCu _
   ·exact wM
   ·trivial
  refine aF ?_
  refine aM 33 (fun i=>cT (([]:List GNote).getD i aCn)) (fun i hi=>absurd hi (Nat.not_lt_zero _)) (mu1:=[]) ?_
  refine aN ?_
  refine cY (ι:=Nat) (fun i=>[(8,vI i),(7, .a (.g 33))]) (fun i=>[(33,bE 5 cT aCn (t.reads.take i))]) (fun i=>i≤t.reads.length∧∀ a,a<i→FD n.region n.slot (t.reads.getD a aCn)<0) (fun i=>t.reads.length - i) 0 [33] [33] rfl rfl ⟨Nat.zero_le _,fun a ha=>absurd ha (Nat.not_lt_zero _)⟩ wF ⟨⟨_,rfl,bP (sz:=5) (enc:=cT) (z:=aCn) (xs:=[]) rfl⟩,trivial⟩ ?_
  intro i ⟨h1,h2⟩
  refine aF ?_
  refine aO [] fun B0 H0=>?_
  refine jB TT_ok (rZ _ _ _ _) rfl rfl rfl rfl rfl rfl ?_
  refine aP ?_
  refine aA (fun e3=>?_) (fun e3=>?_)
  ·have hi:i<t.reads.length:=by
    rcases Nat.lt_or_ge i t.reads.length with h | h
    ·exact h
    ·rw [decide_eq_false (by omega)] at e3;cases e3
   have hlt:(t.reads.take i).length=i:=by rw [List.length_take];omega
   rw [decide_eq_true (by omega)] at e3
   refine aF ?_
   refine cV TT_ok 66 (fun _=>cT (t.reads.getD i aCn)) rfl rfl rfl rfl rfl rfl rfl (fun i hi=>by rcases i with _ | i <;>first | rfl | omega) (mu1:=[]) rfl rfl rfl ?_
   refine aN ?_
   refine cU TT_ok 33 66 67 rfl rfl rfl rfl rfl rfl rfl rfl rfl rfl rfl rfl ⟨by show ((t.reads.take i).length+1) * 40≤_;omega,by unfold maxL;omega⟩ ?_
   refine aN ?_
   refine bC (bL 33 67) ?_
   refine bN (i+1) ⟨hi,fun a ha=>?_⟩ (by omega) wF ⟨⟨_,rfl,aS (x:=t.reads.getD i aCn) (cC hi)⟩,wM⟩
   by_cases c:a<i
   ·exact h2 a c
   ·have:a=i:=by omega
    subst this
    exact zK.2 e3
  have hc:jJ (FD n.region n.slot) aCn t.reads i:=⟨h1,h2,fun a ha hb2 hlt=>by
   have h3:=DE hs n.region n.slot i a ha hb2 hlt
   have e4:xU (t.reads.getD i aCn).region (t.reads.getD i aCn).slot n.region n.slot=false:=by rw [decide_eq_true (by omega)] at e3;exact e3
   rw [zK.1 h3] at e4
   cases e4⟩
  have hM:cD t n=({ t with reads:=iB i n t.reads },true):=by unfold cD;rw [hany,decide_eq_false e2,sR hc];rfl
  rw [show d8 t n=({ t with reads:=iB i n t.reads },true) from by unfold d8;rw [if_pos ⟨hg.1,hg.2,by rw [hM]⟩,hM]]
  have hlt:(t.reads.take i).length=i:=by rw [List.length_take];omega
  refine aF ?_
  refine zM 7 33 rfl rfl fun cp _=>?_
  refine aW [33] [0,1,4,5,6,7,8,2,3,9,10,11] fun B0 H0=>?_
  refine bG 2 rfl (by kernel_rfl) (dV TT_ok 70 (fun _=>cT n) rfl rfl rfl rfl rfl rfl rfl (fun j hj=>by rcases j with _ | j <;>first | rfl | omega) (mu1:=[]) rfl rfl rfl (bD ?_))
  refine bG 3 rfl (by kernel_rfl) (dM TT_ok 33 70 71 rfl rfl rfl rfl rfl rfl rfl rfl rfl rfl rfl rfl ⟨by show ((t.reads.take i).length+1) * 40≤_;omega,by unfold maxL;omega⟩ (bD ?_))
  refine bG 9 rfl (by kernel_rfl) (qJ TT_ok 71 77 rfl rfl rfl rfl rfl rfl rfl rfl rfl rfl rfl rfl ⟨by show ((t.reads.take i).length+1+_) * 40≤_;omega,by unfold maxL;omega⟩ (bD ?_))
  refine aY [10,11] ?_
  refine dR 11 rfl (by kernel_rfl) (by kernel_rfl) (aV (eJ [] fun B0 H0=>?_))
  refine aP ?_
  refine bB (bL 77 901) ?_
  refine aC (()) [(4,some 48),(5,none)] ?_ ?_ ?_
  ·exact aCu _
  ·exact ⟨⟨_,rfl,CG h1⟩,⟨_,rfl,aCt _⟩,trivial⟩
  ·trivial
 ·have e0:(bif !dec (eN t) then true else !iX n)=true:=by
   by_cases h1:eN t
   ·rw [cN h1]
    cases h2:iX n with
    | true=>exact absurd ⟨h1,h2⟩ hg
    | false=>rfl
   ·rw [b7 h1];rfl
  rw [show d8 t n=(aCk,false) from if_neg fun h=>hg ⟨h.1,h.2.1⟩]
  rw [e0]
  refine bX rfl (fun e=>?_) (fun e=>by cases e)
  refine aF ?_
  refine bB (a5 4 4 5 (fun i=>cT (([]:List GNote).getD i aCn))) ?_
  refine bB (a5 4 5 5 (fun i=>cP (([]:List GSet).getD i aCm))) ?_
  refine bB (a6 4 4 911) ?_
  refine bB (a6 4 5 912) ?_
  refine bB (bL 911 901) ?_
  refine bB (bL 912 902) ?_
  refine aC (()) [(4,some 48),(5,none)] ?_ ?_ ?_
  ·exact aCu _
  ·exact wM
  ·trivial
theorem aAY {xs:List GSet} (hs:qU xs) {r s:Int} (h:0≤cI (dS r s) xs):jJ (jT r s) aCm xs (cI (dS r s) xs).toNat∧(cI (dS r s) xs).toNat<xs.length:=by
 obtain ⟨h1,h2⟩:=oE (z:=aCm) h
 obtain ⟨e1,e2⟩:=nB.1 h2
 refine ⟨⟨Nat.le_of_lt h1,fun a ha=>?_,fun a ha hb hc=>?_⟩,h1⟩
 ·have:=hs a _ ha h1
  unfold jT
  rw [pD]
  unfold lessS at this
  rw [e1,e2] at this
  exact this
 ·unfold jT at hc
  rw [pD] at hc
  by_cases c:a=(cI (dS r s) xs).toNat
  ·subst c;rw [e1,e2] at hc;omega
  ·have:=hs (cI (dS r s) xs).toNat a (by omega) hb
   unfold lessS at this
   rw [e1,e2] at this
   omega
noncomputable def IR (t:GTx) (s:GSet) (p:Nat):GTx:={ t with sets:=t.sets.set p ⟨s.region,s.slot,s.value,s.used,(t.sets.getD p aCm).version⟩ }
noncomputable def eX (t:GTx) (s:GSet):GTx×Bool:=bif t.sets.any (dS s.region s.slot) then (IR t s (o5 (jT s.region s.slot) aCm t.sets),true) else bif decide ((t.sets.length:Int)=12) then (t,false) else ({ t with sets:=iB (o5 (jT s.region s.slot) aCm t.sets) s t.sets },true)
open Classical in
noncomputable def eK (t:GTx) (s:GSet):GTx×Bool:=if eN t∧eO s=true∧(eX t s).2=true then ((eX t s).1,true) else (aCk,false)
theorem mY (t:GTx) (hb:D.bds dJ (cTx t)) (s:GSet):UO Tryz.prog 202 [vR (cTx t),vR (cP s)] (eK t s).1 (eK t s).2:=by
 have b1:t.reads.length≤1048576:=hb.2.2.2.2.1.1
 have b2:t.sets.length≤1048576:=hb.2.2.2.2.2.1.1
 refine aE Tryz.func202 fun B0 r_ D_ w0=>?_
 refine aT ?_
 refine aU 2 fun r_=>?_
 refine aF ?_
 refine aH (wE t) ?_
 refine aH (yC s) ?_
 by_cases hg:eN t∧eO s=true
 ·have e0:(bif !dec (eN t) then true else !eO s)=false:=by rw [cN hg.1,hg.2];rfl
  have hl:=hg.1.1.2.2.2.2.2.2
  have hs:=m4 hg.1.2.2
  rw [e0]
  refine bX rfl (fun e=>by cases e) (fun _=>?_)
  refine aF ?_
  refine aR (BC t b1 b2) fun _ _=>?_
  refine aN ?_
  refine aH (FL t b2 s.region s.slot) ?_
  refine aI (fun e=>?_) (fun e=>?_)
  ·obtain ⟨hc,hil⟩:=aAY hs e
   have hin:0≤cI (dS s.region s.slot) t.sets∧cI (dS s.region s.slot) t.sets<t.sets.length:=⟨e,by omega⟩
   have hany:t.sets.any (dS s.region s.slot)=true:=(gJ (z:=aCm)).1 e
   have hM:eX t s=(IR t s (cI (dS s.region s.slot) t.sets).toNat,true):=by unfold eX;rw [hany,sR hc];rfl
   rw [show eK t s=(IR t s (cI (dS s.region s.slot) t.sets).toNat,true) from by unfold eK;rw [if_pos ⟨hg.1,hg.2,by rw [hM]⟩,hM]]
   refine aF ?_
   refine aC (()) [(4,some 48),(5,none)] ?_ ?_ ?_
   ·exact aCu _
   ·exact ⟨⟨_,rfl,aCt _⟩,⟨_,rfl,cG (OwnI.refl _)⟩,trivial⟩
   ·trivial
  have hany:t.sets.any (dS s.region s.slot)=false:=by
   cases h:t.sets.any (dS s.region s.slot) with
   | false=>rfl
   | true=>exact absurd ((gJ (z:=aCm)).2 h) e
  refine aF ?_
  refine aI (fun e2=>?_) (fun e2=>?_)
  ·have hM:eX t s=(t,false):=by unfold eX;rw [hany,decide_eq_true e2];rfl
   rw [show eK t s=(aCk,false) from if_neg fun h=>by rw [hM] at h;exact absurd h.2.2 (by simp)]
   refine aF ?_
   refine bB (a5 4 4 5 (fun i=>cT (([]:List GNote).getD i aCn))) ?_
   refine bB (a5 4 5 5 (fun i=>cP (([]:List GSet).getD i aCm))) ?_
   refine bB (a6 4 4 911) ?_
   refine bB (a6 4 5 912) ?_
   refine bB (bL 911 901) ?_
   refine bB (bL 912 902) ?_
   refine aC (()) [(4,some 48),(5,none)] ?_ ?_ ?_
   ·exact aCu _
   ·exact wM
   ·trivial
  refine aF ?_
  refine aM 47 (fun i=>cP (([]:List GSet).getD i aCm)) (fun i hi=>absurd hi (Nat.not_lt_zero _)) (mu1:=[]) ?_
  refine aN ?_
  refine cY (ι:=Nat) (fun i=>[(9,vI i),(8, .a (.g 47))]) (fun i=>[(47,bE 5 cP aCm (t.sets.take i))]) (fun i=>i≤t.sets.length∧∀ a,a<i→jT s.region s.slot (t.sets.getD a aCm)<0) (fun i=>t.sets.length - i) 0 [47] [47] rfl rfl ⟨Nat.zero_le _,fun a ha=>absurd ha (Nat.not_lt_zero _)⟩ wF ⟨⟨_,rfl,bP (sz:=5) (enc:=cP) (z:=aCm) (xs:=[]) rfl⟩,trivial⟩ ?_
  intro i ⟨h1,h2⟩
  refine aF ?_
  refine aO [] fun B0 H0=>?_
  refine jB TT_ok (rZ _ _ _ _) rfl rfl rfl rfl rfl rfl ?_
  refine aP ?_
  refine aA (fun e3=>?_) (fun e3=>?_)
  ·have hi:i<t.sets.length:=by
    rcases Nat.lt_or_ge i t.sets.length with h | h
    ·exact h
    ·rw [decide_eq_false (by omega)] at e3;cases e3
   have hlt:(t.sets.take i).length=i:=by rw [List.length_take];omega
   rw [decide_eq_true (by omega)] at e3
   refine aF ?_
   refine cV TT_ok 80 (fun _=>cP (t.sets.getD i aCm)) rfl rfl rfl rfl rfl rfl rfl (fun i hi=>by rcases i with _ | i <;>first | rfl | omega) (mu1:=[]) rfl rfl rfl ?_
   refine aN ?_
   refine cU TT_ok 47 80 81 rfl rfl rfl rfl rfl rfl rfl rfl rfl rfl rfl rfl ⟨by show ((t.sets.take i).length+1) * 40≤_;omega,by unfold maxL;omega⟩ ?_
   refine aN ?_
   refine bC (bL 47 81) ?_
   refine bN (i+1) ⟨hi,fun a ha=>?_⟩ (by omega) wF ⟨⟨_,rfl,aS (x:=t.sets.getD i aCm) (cC hi)⟩,wM⟩
   by_cases c:a<i
   ·exact h2 a c
   ·have:a=i:=by omega
    subst this
    exact zK.2 e3
  have hc:jJ (jT s.region s.slot) aCm t.sets i:=⟨h1,h2,fun a ha hb2 hlt=>by
   have h3:=tU hs s.region s.slot i a ha hb2 hlt
   have e4:xU (t.sets.getD i aCm).region (t.sets.getD i aCm).slot s.region s.slot=false:=by rw [decide_eq_true (by omega)] at e3;exact e3
   rw [zK.1 h3] at e4
   cases e4⟩
  have hM:eX t s=({ t with sets:=iB i s t.sets },true):=by unfold eX;rw [hany,decide_eq_false e2,sR hc];rfl
  rw [show eK t s=({ t with sets:=iB i s t.sets },true) from by unfold eK;rw [if_pos ⟨hg.1,hg.2,by rw [hM]⟩,hM]]
  have hlt:(t.sets.take i).length=i:=by rw [List.length_take];omega
  refine aF ?_
  refine zM 8 47 rfl rfl fun cp _=>?_
  refine aW [47] [0,1,4,5,6,7,8,2,3,9,10,11] fun B0 H0=>?_
  refine bG 2 rfl (by kernel_rfl) (dV TT_ok 84 (fun _=>cP s) rfl rfl rfl rfl rfl rfl rfl (fun j hj=>by rcases j with _ | j <;>first | rfl | omega) (mu1:=[]) rfl rfl rfl (bD ?_))
  refine bG 3 rfl (by kernel_rfl) (dM TT_ok 47 84 85 rfl rfl rfl rfl rfl rfl rfl rfl rfl rfl rfl rfl ⟨by show ((t.sets.take i).length+1) * 40≤_;omega,by unfold maxL;omega⟩ (bD ?_))
  refine bG 9 rfl (by kernel_rfl) (qJ TT_ok 85 91 rfl rfl rfl rfl rfl rfl rfl rfl rfl rfl rfl rfl ⟨by show ((t.sets.take i).length+1+_) * 40≤_;omega,by unfold maxL;omega⟩ (bD ?_))
  refine aY [10,11] ?_
  refine dR 11 rfl (by kernel_rfl) (by kernel_rfl) (aV (eJ [] fun B0 H0=>?_))
  refine aP ?_
  refine bB (bL 91 902) ?_
  refine aC (()) [(4,some 48),(5,none)] ?_ ?_ ?_
  ·exact aCu _
  ·exact ⟨⟨_,rfl,aCt _⟩,⟨_,rfl,CG h1⟩,trivial⟩
  ·trivial
 ·have e0:(bif !dec (eN t) then true else !eO s)=true:=by
   by_cases h1:eN t
   ·rw [cN h1]
    cases h2:eO s with
    | true=>exact absurd ⟨h1,h2⟩ hg
    | false=>rfl
   ·rw [b7 h1];rfl
  rw [show eK t s=(aCk,false) from if_neg fun h=>hg ⟨h.1,h.2.1⟩]
  rw [e0]
  refine bX rfl (fun e=>?_) (fun e=>by cases e)
  refine aF ?_
  refine bB (a5 4 4 5 (fun i=>cT (([]:List GNote).getD i aCn))) ?_
  refine bB (a5 4 5 5 (fun i=>cP (([]:List GSet).getD i aCm))) ?_
  refine bB (a6 4 4 911) ?_
  refine bB (a6 4 5 912) ?_
  refine bB (bL 911 901) ?_
  refine bB (bL 912 902) ?_
  refine aC (()) [(4,some 48),(5,none)] ?_ ?_ ?_
  ·exact aCu _
  ·exact wM
  ·trivial
end
section
theorem aBT {α:Type} {c:α→Int} {z:α} {xs:List α} (h:qB c z xs):∃ i,jJ c z xs i:=by
 have key:∀ k,k≤xs.length→(∃ i,jJ c z xs i)∨∀ a,a<k→c (xs.getD a z)<0:=fun k=>by
  induction k with
  | zero=>exact fun _ => .inr fun a ha=>absurd ha (Nat.not_lt_zero _)
  | succ k ih =>
   intro hk
   rcases ih (by omega) with h1 | h1
   ·exact .inl h1
   ·by_cases h2:c (xs.getD k z)<0
    ·exact .inr fun a ha=>by
      by_cases e:a=k
      ·subst e;exact h2
      ·exact h1 a (by omega)
    ·exact .inl ⟨k,by omega,h1,fun a a1 a2 a3=>h2 (h k a a1 a2 a3)⟩
 rcases key xs.length (Nat.le_refl _) with h1 | h1
 ·exact h1
 ·exact ⟨xs.length,Nat.le_refl _,h1,fun a a1 a2=>by omega⟩
theorem sA {α:Type} {c:α→Int} {z:α} {xs:List α} (h:qB c z xs):jJ c z xs (o5 c z xs):=by
 obtain ⟨i,hi⟩:=aBT h
 rw [sR hi];exact hi
section
variable {α:Type} {reg slot:α→Int} {z x:α} {xs:List α}
def Q1 (reg slot:α→Int) (a b:α):Prop:=reg a<reg b∨reg a=reg b∧slot a<slot b
theorem pA {p:Nat} {y:α}:y ∈ iB p x xs ↔ y=x∨y ∈ xs:=by
 unfold iB
 rw [List.mem_append,List.mem_cons]
 constructor
 ·rintro (h | h | h)
  ·exact .inr (List.mem_of_mem_take h)
  ·exact .inl h
  ·exact .inr (List.mem_of_mem_drop h)
 ·rintro (h | h)
  ·exact .inr (.inl h)
  ·rw [← List.take_append_drop p xs,List.mem_append] at h
   rcases h with h | h
   ·exact .inl h
   ·exact .inr (.inr h)
theorem IW {p:Nat} (hs:xs.Pairwise (Q1 reg slot)) (hc:jJ (fun y=>vS (reg y) (slot y) (reg x) (slot x)) z xs p) (hn:∀ y ∈ xs,¬ (reg y=reg x∧slot y=slot x)):(iB p x xs).Pairwise (Q1 reg slot):=by
 obtain ⟨c1,c2,c3⟩:=hc
 have ht:∀ y ∈ xs.take p,Q1 reg slot y x:=fun y hy=>by
  obtain ⟨a,ha,rfl⟩:=List.mem_iff_getElem.1 hy
  have hap:a<p:=by rw [List.length_take] at ha;omega
  have:=c2 a hap
  rw [pD] at this
  rw [List.getElem_take]
  simp only [List.getD_eq_getElem?_getD,List.getElem?_eq_getElem (show a<xs.length by omega),Option.getD_some] at this
  exact this
 have hd:∀ y ∈ xs.drop p,Q1 reg slot x y:=fun y hy=>by
  have hm:=hn y (List.mem_of_mem_drop hy)
  obtain ⟨a,ha,rfl⟩:=List.mem_iff_getElem.1 hy
  have hl:p+a<xs.length:=by rw [List.length_drop] at ha;omega
  have:=c3 (p+a) (by omega) hl
  rw [pD] at this
  rw [List.getElem_drop] at hm ⊢
  simp only [List.getD_eq_getElem?_getD,List.getElem?_eq_getElem hl,Option.getD_some] at this
  unfold Q1
  omega
 unfold iB
 refine List.pairwise_append.2 ⟨hs.sublist (List.take_sublist p xs),List.pairwise_cons.2 ⟨hd,hs.sublist (List.drop_sublist p xs)⟩,fun a ha b hb=>?_⟩
 rcases List.mem_cons.1 hb with rfl | hb
 ·exact ht a ha
 ·rw [← List.take_append_drop p xs] at hs
  exact (List.pairwise_append.1 hs).2.2 a ha b hb
theorem iR {R:α→α→Prop} (h:xs.Pairwise R) {a b:Nat} (hab:a<b) (hb:b<xs.length):R (xs.getD a z) (xs.getD b z):=by
 have:=List.pairwise_iff_getElem.1 h a b (by omega) hb hab
 simpa [hb,show a<xs.length by omega] using this
end
theorem s7 {α:Type} {R:α→α→Prop} {z:α}:∀ {xs:List α},(∀ a b,a<b→b<xs.length→R (xs.getD a z) (xs.getD b z))→xs.Pairwise R:=fun {xs} h=>by
 rw [List.pairwise_iff_getElem]
 intro i j hi hj hij
 have:=h i j hij hj
 simpa [hi,hj] using this
theorem cJ {α:Type} {z:α} {xs:List α} {i:Nat} (h:i<xs.length):xs.getD i z ∈ xs:=by simp [h]
theorem v8 {xs:List GNote}:readsOk xs xs.length ↔ (∀ n ∈ xs,iX n=true)∧xs.Pairwise lessN:=by
 constructor
 ·intro h
  refine ⟨fun n hn=>?_,s7 (z:=aCn) (tI h)⟩
  obtain ⟨i,hi,rfl⟩:=List.mem_iff_getElem.1 hn
  simpa [hi] using (h i hi).1
 ·rintro ⟨h1,h2⟩ j hj
  exact ⟨h1 _ (cJ hj),fun h0=>iR (z:=aCn) h2 (by omega) hj⟩
theorem tK {xs:List GSet}:setsOk xs xs.length ↔ (∀ n ∈ xs,eO n=true)∧xs.Pairwise lessS:=by
 constructor
 ·intro h
  refine ⟨fun n hn=>?_,s7 (z:=aCm) (m4 h)⟩
  obtain ⟨i,hi,rfl⟩:=List.mem_iff_getElem.1 hn
  simpa [hi] using (h i hi).1
 ·rintro ⟨h1,h2⟩ j hj
  exact ⟨h1 _ (cJ hj),fun h0=>iR (z:=aCm) h2 (by omega) hj⟩
theorem ET {xs:List GNote} {r s:Int} (h:xs.any (eG r s)=false):∀ y ∈ xs,¬ (y.region=r∧y.slot=s):=fun y hy e=>by
 have:xs.any (eG r s)=true:=List.any_eq_true.2 ⟨y,hy,xN.2 e⟩
 rw [h] at this;cases this
theorem N4 {xs:List GSet} {r s:Int} (h:xs.any (dS r s)=false):∀ y ∈ xs,¬ (y.region=r∧y.slot=s):=fun y hy e=>by
 have:xs.any (dS r s)=true:=List.any_eq_true.2 ⟨y,hy,nB.2 e⟩
 rw [h] at this;cases this
theorem xL {t:GTx} (ht:eN t) {n:GNote} (hn:iX n=true):eN (cD t n).1∧(cD t n).1.reads.length≤t.reads.length+1∧((cD t n).2=true→(cD t n).1.reads.any (eG n.region n.slot)=true):=by
 have hs:=tI ht.2.1
 unfold cD
 cases h1:t.reads.any (eG n.region n.slot) with
 | true=>exact ⟨ht,Nat.le_succ _,fun _=>h1⟩
 | false =>
  by_cases h2:(t.reads.length:Int)=12
  ·rw [decide_eq_true h2];exact ⟨ht,Nat.le_succ _,fun h=>by cases h⟩
  ·rw [decide_eq_false h2]
   have hc:=sA (DE hs n.region n.slot)
   have hl:=kC (x:=n) hc.1
   have h12:=ht.1.2.2.2.2.2.1
   have hr:=v8.1 ht.2.1
   refine ⟨⟨⟨ht.1.1,ht.1.2.1,ht.1.2.2.1,ht.1.2.2.2.1,ht.1.2.2.2.2.1,?_,ht.1.2.2.2.2.2.2⟩,v8.2 ⟨fun y hy=>?_,?_⟩,ht.2.2⟩,?_,fun _=>?_⟩
   ·show (iB _ n t.reads).length≤12;omega
   ·rcases pA.1 hy with rfl | hy
    ·exact hn
    ·exact hr.1 y hy
   ·exact IW (reg:=GNote.region) (slot:=GNote.slot) (z:=aCn) hr.2 hc (ET h1)
   ·show (iB _ n t.reads).length≤_;omega
   ·exact List.any_eq_true.2 ⟨n,pA.2 (.inl rfl),xN.2 ⟨rfl,rfl⟩⟩
theorem RV {t:GTx} {n:GNote} (h:(d8 t n).2=true):eN t∧iX n=true∧(cD t n).2=true∧d8 t n=((cD t n).1,true):=by
 unfold d8 at h ⊢
 split at h
 ·rename_i hc
  rw [if_pos hc];exact ⟨hc.1,hc.2.1,hc.2.2,rfl⟩
 ·cases h
theorem lA {α:Type} {z y:α} {xs:List α} {p:Nat} (hp:p<xs.length) (i:Nat):(xs.set p y).getD i z=if i=p then y else xs.getD i z:=by
 by_cases c:i=p
 ·subst c;rw [if_pos rfl];simp [hp]
 ·rw [if_neg c];simp [List.getElem?_set_ne (Ne.symm c)]
theorem aAe {t:GTx} (ht:eN t) {s:GSet} (hs:eO s=true) {p:Nat} (hp:p<t.sets.length) (e:(t.sets.getD p aCm).region=s.region∧(t.sets.getD p aCm).slot=s.slot):eN (IR t s p):=by
 have hr:=tK.1 ht.2.2
 have hb:eO ⟨s.region,s.slot,s.value,s.used,(t.sets.getD p aCm).version⟩=true:=by
  have h1:=hr.1 _ (cJ (z:=aCm) hp)
  have f:∀ x:GSet,eO x=true ↔ (0≤x.region∧x.region≤5)∧(0≤x.slot∧x.slot≤5)∧(-1000000000≤x.value∧x.value≤1000000000)∧(0≤x.version∧x.version≤999999):=fun x=>by
   rw [← b6, ← b6, ← b6, ← b6]
   unfold eO
   cases inB x.region 0 5 <;>cases inB x.slot 0 5 <;>cases inB x.value (-1000000000) 1000000000 <;>cases inB x.version 0 999999 <;>simp
  rw [f] at h1 hs ⊢
  exact ⟨hs.1,hs.2.1,hs.2.2.1,h1.2.2.2⟩
 refine ⟨⟨ht.1.1,ht.1.2.1,ht.1.2.2.1,ht.1.2.2.2.1,ht.1.2.2.2.2.1,ht.1.2.2.2.2.2.1,?_⟩,ht.2.1,tK.2 ⟨fun y hy=>?_,?_⟩⟩
 ·show (t.sets.set p _).length≤12
  rw [List.length_set];exact ht.1.2.2.2.2.2.2
 ·rcases List.mem_or_eq_of_mem_set hy with hy | rfl
  ·exact hr.1 y hy
  ·exact hb
 ·refine s7 (z:=aCm) fun a b hab hbl=>?_
  have hbl':b<t.sets.length:=by simpa [IR] using hbl
  have hq:=iR (z:=aCm) hr.2 hab hbl'
  show lessS ((t.sets.set p _).getD a aCm) ((t.sets.set p _).getD b aCm)
  rw [lA hp,lA hp]
  by_cases ca:a=p
  ·subst ca
   rw [if_pos rfl,if_neg (by omega)]
   unfold lessS at hq ⊢
   dsimp only
   rw [← e.1, ← e.2];exact hq
  ·rw [if_neg ca]
   by_cases cb:b=p
   ·subst cb
    rw [if_pos rfl]
    unfold lessS at hq ⊢
    dsimp only
    rw [← e.1, ← e.2];exact hq
   ·rw [if_neg cb];exact hq
theorem YP {xs:List GSet} (hs:qU xs) {r s:Int} (h:xs.any (dS r s)=true):o5 (jT r s) aCm xs<xs.length∧dS r s (xs.getD (o5 (jT r s) aCm xs) aCm)=true:=by
 have hc:=sA (tU hs r s)
 obtain ⟨y,hy,hy2⟩:=List.any_eq_true.1 h
 obtain ⟨a,ha,rfl⟩:=List.mem_iff_getElem.1 hy
 have e2:dS r s (xs.getD a aCm)=true:=by simpa [ha] using hy2
 have e1:=nB.1 e2
 have key:o5 (jT r s) aCm xs=a:=by
  refine sR ⟨Nat.le_of_lt ha,fun b hb=>?_,fun b b1 b2 b3=>?_⟩
  ·have:=hs b a hb ha
   unfold jT;rw [pD];unfold lessS at this;rw [e1.1,e1.2] at this;exact this
  ·unfold jT at b3
   rw [pD] at b3
   by_cases c:b=a
   ·subst c;rw [e1.1,e1.2] at b3;omega
   ·have:=hs a b (by omega) b2
    unfold lessS at this;rw [e1.1,e1.2] at this;omega
 rw [key];exact ⟨ha,e2⟩
theorem MT {t:GTx} (ht:eN t) {s:GSet} (hn:eO s=true):eN (eX t s).1∧(eX t s).1.sets.length≤t.sets.length+1∧((eX t s).2=true→(eX t s).1.sets.any (dS s.region s.slot)=true):=by
 have hs:=m4 ht.2.2
 unfold eX
 cases h1:t.sets.any (dS s.region s.slot) with
 | true =>
  obtain ⟨p1,p2⟩:=YP hs h1
  have p3:=nB.1 p2
  refine ⟨aAe ht hn p1 p3,?_,fun _=>?_⟩
  ·show (t.sets.set _ _).length≤_;rw [List.length_set];omega
  ·refine List.any_eq_true.2 ⟨⟨s.region,s.slot,s.value,s.used,(t.sets.getD (o5 (jT s.region s.slot) aCm t.sets) aCm).version⟩,?_,nB.2 ⟨rfl,rfl⟩⟩
   exact List.mem_set p1 _
 | false =>
  by_cases h2:(t.sets.length:Int)=12
  ·rw [decide_eq_true h2];exact ⟨ht,Nat.le_succ _,fun h=>by cases h⟩
  ·rw [decide_eq_false h2]
   have hc:=sA (tU hs s.region s.slot)
   have hl:=kC (x:=s) hc.1
   have h12:=ht.1.2.2.2.2.2.2
   have hr:=tK.1 ht.2.2
   refine ⟨⟨⟨ht.1.1,ht.1.2.1,ht.1.2.2.1,ht.1.2.2.2.1,ht.1.2.2.2.2.1,ht.1.2.2.2.2.2.1,?_⟩,ht.2.1,tK.2 ⟨fun y hy=>?_,?_⟩⟩,?_,fun _=>?_⟩
   ·show (iB _ s t.sets).length≤12;omega
   ·rcases pA.1 hy with rfl | hy
    ·exact hn
    ·exact hr.1 y hy
   ·exact IW (reg:=GSet.region) (slot:=GSet.slot) (z:=aCm) hr.2 hc (N4 h1)
   ·show (iB _ s t.sets).length≤_;omega
   ·exact List.any_eq_true.2 ⟨s,pA.2 (.inl rfl),nB.2 ⟨rfl,rfl⟩⟩
theorem IK {t:GTx} {s:GSet} (h:(eK t s).2=true):eN t∧eO s=true∧(eX t s).2=true∧eK t s=((eX t s).1,true):=by
 unfold eK at h ⊢
 split at h
 ·rename_i hc
  rw [if_pos hc];exact ⟨hc.1,hc.2.1,hc.2.2,rfl⟩
 ·cases h
theorem sP {x:GSet}:eO x=true ↔ (0≤x.region∧x.region≤5)∧(0≤x.slot∧x.slot≤5)∧(-1000000000≤x.value∧x.value≤1000000000)∧(0≤x.version∧x.version≤999999):=by
 rw [← b6, ← b6, ← b6, ← b6]
 unfold eO
 cases inB x.region 0 5 <;>cases inB x.slot 0 5 <;>cases inB x.value (-1000000000) 1000000000 <;>cases inB x.version 0 999999 <;>simp
end
section
abbrev rowN (x:GNote):List V:=[.v (.int .i64 x.region), .v (.int .i64 x.slot), .v (.int .i64 x.version), .v (.int .i64 x.value), .v (.bool x.used)]
abbrev rowS (x:GSet):List V:=[.v (.int .i64 x.region), .v (.int .i64 x.slot), .v (.int .i64 x.value), .v (.bool x.used), .v (.int .i64 x.version)]
abbrev dE (i h:Int):Ch := .row [.g 701, .v (.int .i64 i), .v (.int .i64 h)]
theorem y5 {n:Nat} {β:Nat→Int} (hn:n≤1048576) (hβ:eS β) (i h:Int) (h1:0≤i) (h2:i≤n):zE Tryz.prog 201 [] n β i h (fun _:GNote=>True) (fun x=>vR (cT x)):=by
 refine aE Tryz.func201 fun B0 r_ D_ w0=>?_
 refine aF ?_
 refine aR (bR hn hβ i h h1 h2 3) fun a ⟨a1,a2,a3⟩=>?_
 refine aN ?_
 refine aR (bR hn hβ a.2.1 a.2.2 a2 a3 6) fun b ⟨b1,b2,b3⟩=>?_
 refine aN ?_
 refine aR (bR hn hβ b.2.1 b.2.2 b2 b3 6) fun c ⟨c1,c2,c3⟩=>?_
 refine aN ?_
 refine cO TT_ok (o0 hn hβ c.2.1 c.2.2 c2 c3 (-9) 9 (by decide) (by decide) (by decide)) rfl rfl (aCu _) (fun _=>rfl) rfl rfl rfl fun d ⟨d1,d2,d3⟩=>?_
 refine aN ?_
 refine aR (d9 hn hβ d.2.1 d.2.2 d2 d3 2) fun e ⟨e1,e2,e3⟩=>?_
 refine aN ?_
 refine aR (d9 hn hβ e.2.1 e.2.2 e2 e3 24) fun f ⟨f1,f2,f3⟩=>?_
 refine aN ?_
 refine a7 (ι:=GNote×Int×Int) (fun _=>[]) (fun y=>[(3, .row (rowN y.1)),(700,dE y.2.1 y.2.2)]) (fun y=>0≤y.2.1∧y.2.1≤n) [3,700] [] ?_ ?_
 ·refine aA (fun _=>?_) (fun _=>?_)
  rotate_left
  ·refine aF ?_
   exact aL (⟨a.1,b.1,c.1,d.1,e.1⟩,f.2.1,f.2.2) ⟨f2,f3⟩ Nat.zero_lt_one
  refine aF ?_
  refine aR (bR hn hβ f.2.1 f.2.2 f2 f3 3) fun g ⟨g1,g2,g3⟩=>?_
  refine aN ?_
  refine aA (fun _=>?_) (fun _=>?_)
  ·refine aF ?_
   refine cV TT_ok 50 (fun i=>bS (([-1,5,6]:List Int).getD i 0)) rfl rfl rfl rfl rfl rfl rfl (fun i hi=>by rcases i with _ | _ | _ | i <;>first | rfl | omega) (mu1:=[]) rfl rfl rfl ?_
   refine aN ?_
   refine aR (bR hn hβ g.2.1 g.2.2 g2 g3 3) fun z ⟨z1,z2,z3⟩=>?_
   refine aN ?_
   exact aL (⟨(([-1,5,6]:List Int).getD z.1.toNat 0),b.1,c.1,d.1,e.1⟩,z.2.1,z.2.2) ⟨z2,z3⟩ Nat.zero_lt_one
  refine aF ?_
  refine aA (fun _=>?_) (fun _=>?_)
  ·refine aF ?_
   refine cV TT_ok 50 (fun i=>bS (([-1,6]:List Int).getD i 0)) rfl rfl rfl rfl rfl rfl rfl (fun i hi=>by rcases i with _ | _ | i <;>first | rfl | omega) (mu1:=[]) rfl rfl rfl ?_
   refine aN ?_
   refine aR (bR hn hβ g.2.1 g.2.2 g2 g3 2) fun z ⟨z1,z2,z3⟩=>?_
   refine aN ?_
   exact aL (⟨a.1,(([-1,6]:List Int).getD z.1.toNat 0),c.1,d.1,e.1⟩,z.2.1,z.2.2) ⟨z2,z3⟩ Nat.zero_lt_one
  refine aF ?_
  refine aA (fun _=>?_) (fun _=>?_)
  ·refine aF ?_
   refine cV TT_ok 50 (fun i=>bS (([-1,1000000,1000001]:List Int).getD i 0)) rfl rfl rfl rfl rfl rfl rfl (fun i hi=>by rcases i with _ | _ | _ | i <;>first | rfl | omega) (mu1:=[]) rfl rfl rfl ?_
   refine aN ?_
   refine aR (bR hn hβ g.2.1 g.2.2 g2 g3 3) fun z ⟨z1,z2,z3⟩=>?_
   refine aN ?_
   exact aL (⟨a.1,b.1,(([-1,1000000,1000001]:List Int).getD z.1.toNat 0),d.1,e.1⟩,z.2.1,z.2.2) ⟨z2,z3⟩ Nat.zero_lt_one
  refine aF ?_
  exact aL (⟨a.1,b.1,c.1,d.1,e.1⟩,g.2.1,g.2.2) ⟨g2,g3⟩ Nat.zero_lt_one
 rintro ⟨x,i',h'⟩ ⟨g1,g2⟩
 dsimp only at g1 g2 ⊢
 refine aZ ?_
 refine aC ((x,i',h')) [(2,some 106)] ?_ ?_ ?_
 ·exact aCu _
 ·exact wM
 ·exact ⟨trivial,g1,g2⟩
theorem rP {n:Nat} {β:Nat→Int} (hn:n≤1048576) (hβ:eS β) (i h:Int) (h1:0≤i) (h2:i≤n) (r0:Int) (hr : -1000000≤r0∧r0≤1000000):zE Tryz.prog 203 [vI r0] n β i h (fun _:GSet=>True) (fun x=>vR (cP x)):=by
 refine aE Tryz.func203 fun B0 r_ D_ w0=>?_
 refine aF ?_
 refine aR (bR hn hβ i h h1 h2 6) fun a ⟨a1,a2,a3⟩=>?_
 refine aN ?_
 refine cO TT_ok (o0 hn hβ a.2.1 a.2.2 a2 a3 (-50) 50 (by decide) (by decide) (by decide)) rfl rfl (aCu _) (fun _=>rfl) rfl rfl rfl fun b ⟨b1,b2,b3⟩=>?_
 refine aN ?_
 refine aR (d9 hn hβ b.2.1 b.2.2 b2 b3 2) fun c ⟨c1,c2,c3⟩=>?_
 refine aN ?_
 refine aR (bR hn hβ c.2.1 c.2.2 c2 c3 6) fun d ⟨d1,d2,d3⟩=>?_
 refine aN ?_
 refine aR (d9 hn hβ d.2.1 d.2.2 d2 d3 30) fun f ⟨f1,f2,f3⟩=>?_
 refine aN ?_
 refine a7 (ι:=GSet×Int×Int) (fun _=>[]) (fun y=>[(5, .row (rowS y.1)),(700,dE y.2.1 y.2.2)]) (fun y=>0≤y.2.1∧y.2.1≤n) [5,700] [] ?_ ?_
 ·refine aA (fun _=>?_) (fun _=>?_)
  rotate_left
  ·refine aF ?_
   exact aL (⟨r0,a.1,b.1,c.1,d.1⟩,f.2.1,f.2.2) ⟨f2,f3⟩ Nat.zero_lt_one
  refine aF ?_
  refine aR (bR hn hβ f.2.1 f.2.2 f2 f3 4) fun g ⟨g1,g2,g3⟩=>?_
  refine aN ?_
  refine aA (fun _=>?_) (fun _=>?_)
  ·refine aF ?_
   refine cV TT_ok 50 (fun i=>bS (([-1,5,6,r0+1]:List Int).getD i 0)) rfl rfl rfl rfl rfl rfl rfl (fun i hi=>by rcases i with _ | _ | _ | _ | i <;>first | rfl | omega) (mu1:=[]) rfl rfl rfl ?_
   refine aN ?_
   refine aR (bR hn hβ g.2.1 g.2.2 g2 g3 4) fun z ⟨z1,z2,z3⟩=>?_
   refine aN ?_
   exact aL (⟨(([-1,5,6,r0+1]:List Int).getD z.1.toNat 0),a.1,b.1,c.1,d.1⟩,z.2.1,z.2.2) ⟨z2,z3⟩ Nat.zero_lt_one
  refine aF ?_
  refine aA (fun _=>?_) (fun _=>?_)
  ·refine aF ?_
   refine cV TT_ok 50 (fun i=>bS (([-1,6]:List Int).getD i 0)) rfl rfl rfl rfl rfl rfl rfl (fun i hi=>by rcases i with _ | _ | i <;>first | rfl | omega) (mu1:=[]) rfl rfl rfl ?_
   refine aN ?_
   refine aR (bR hn hβ g.2.1 g.2.2 g2 g3 2) fun z ⟨z1,z2,z3⟩=>?_
   refine aN ?_
   exact aL (⟨r0,(([-1,6]:List Int).getD z.1.toNat 0),b.1,c.1,d.1⟩,z.2.1,z.2.2) ⟨z2,z3⟩ Nat.zero_lt_one
  refine aF ?_
  refine aA (fun _=>?_) (fun _=>?_)
  ·refine aF ?_
   refine cV TT_ok 50 (fun i=>bS (([1000000000,1000000001, -1000000001, -9223372036854775808]:List Int).getD i 0)) rfl rfl rfl rfl rfl rfl rfl (fun i hi=>by rcases i with _ | _ | _ | _ | i <;>first | rfl | omega) (mu1:=[]) rfl rfl rfl ?_
   refine aN ?_
   refine aR (bR hn hβ g.2.1 g.2.2 g2 g3 4) fun z ⟨z1,z2,z3⟩=>?_
   refine aN ?_
   exact aL (⟨r0,a.1,(([1000000000,1000000001, -1000000001, -9223372036854775808]:List Int).getD z.1.toNat 0),c.1,d.1⟩,z.2.1,z.2.2) ⟨z2,z3⟩ Nat.zero_lt_one
  refine aF ?_
  refine aA (fun _=>?_) (fun _=>?_)
  ·refine aF ?_
   refine cV TT_ok 50 (fun i=>bS (([-1,999999,1000000]:List Int).getD i 0)) rfl rfl rfl rfl rfl rfl rfl (fun i hi=>by rcases i with _ | _ | _ | i <;>first | rfl | omega) (mu1:=[]) rfl rfl rfl ?_
   refine aN ?_
   refine aR (bR hn hβ g.2.1 g.2.2 g2 g3 3) fun z ⟨z1,z2,z3⟩=>?_
   refine aN ?_
   exact aL (⟨r0,a.1,b.1,c.1,(([-1,999999,1000000]:List Int).getD z.1.toNat 0)⟩,z.2.1,z.2.2) ⟨z2,z3⟩ Nat.zero_lt_one
  refine aF ?_
  exact aL (⟨r0,a.1,b.1,c.1,d.1⟩,g.2.1,g.2.2) ⟨g2,g3⟩ Nat.zero_lt_one
 rintro ⟨x,i',h'⟩ ⟨g1,g2⟩
 dsimp only at g1 g2 ⊢
 refine aZ ?_
 refine aC ((x,i',h')) [(4,some 108)] ?_ ?_ ?_
 ·exact aCu _
 ·exact wM
 ·exact ⟨trivial,g1,g2⟩
theorem aBQ (j:Nat):0≤([0,1000000,1000001]:List Int).getD j 0∧([0,1000000,1000001]:List Int).getD j 0≤1000001:=by
 rcases j with _ | _ | _ | j
 ·decide
 ·decide
 ·decide
 ·exact (by decide:(0:Int)≤0∧(0:Int)≤1000001)
def m8 (k:Nat) (t:GTx):Prop:=(t.reads.length≤k∧t.sets.length≤k)∧0≤t.id∧t.id≤1000001
theorem P9 {k:Nat} {t:GTx} (h:m8 k t) (hk:k≤1000):D.bds dJ (cTx t):=FH t (by unfold wTx;unfold m8 at h;show _≤1048576;omega)
theorem BM (t:GTx) (n:GNote):m8 12 (d8 t n).1:=by
 cases h:(d8 t n).2 with
 | true =>
  obtain ⟨h1,h2,h3,h4⟩:=RV h
  rw [h4]
  have h5:=(xL h1 h2).1.1
  exact ⟨⟨h5.2.2.2.2.2.1,h5.2.2.2.2.2.2⟩,by have:=h5.1;dsimp only;omega⟩
 | false =>
  unfold d8 at h ⊢
  split
  ·rename_i c;rw [if_pos c] at h;cases h
  ·exact ⟨⟨Nat.zero_le _,Nat.zero_le _⟩,by decide⟩
theorem zL (t:GTx) (s:GSet):m8 12 (eK t s).1:=by
 cases h:(eK t s).2 with
 | true =>
  obtain ⟨h1,h2,h3,h4⟩:=IK h
  rw [h4]
  have h5:=(MT h1 h2).1.1
  exact ⟨⟨h5.2.2.2.2.2.1,h5.2.2.2.2.2.2⟩,by have:=h5.1;dsimp only;omega⟩
 | false =>
  unfold eK at h ⊢
  split
  ·rename_i c;rw [if_pos c] at h;cases h
  ·exact ⟨⟨Nat.zero_le _,Nat.zero_le _⟩,by decide⟩
theorem OW {n:Nat} {β:Nat→Int} (hn:n≤1048576) (hβ:eS β) (i h:Int) (h1:0≤i) (h2:i≤n):Con Tryz.prog 130 [700,701] [.a (.p 700 0)] (xB n β i h) (fun y:GTx×Int×Int=>m8 13 y.1∧0≤y.2.1∧y.2.1≤n) (fun y=>[BQ y.1 901 902]) fun y=>[(700,dE y.2.1 y.2.2),(901,bE 5 cT aCn y.1.reads),(902,bE 5 cP aCm y.1.sets)]:=by
 refine aE Tryz.func130 fun B0 r_ D_ w0=>?_
 refine aF ?_
 refine aR (bR hn hβ i h h1 h2 9) fun a ⟨a1,a2,a3⟩=>?_
 refine aN ?_
 refine aR (bR hn hβ a.2.1 a.2.2 a2 a3 4) fun b ⟨b1,b2,b3⟩=>?_
 refine aN ?_
 refine cO TT_ok (y7 (1+a.1) b.1 (b6.2 (by omega)) (b6.2 (by omega))) rfl rfl (aCu _) (fun _=>rfl) rfl rfl rfl fun _ _=>?_
 refine aN ?_
 refine aR (bR hn hβ b.2.1 b.2.2 b2 b3 5) fun c ⟨c1,c2,c3⟩=>?_
 refine aN ?_
 refine bB (a5 3 4 5 (fun i=>cT (([]:List GNote).getD i aCn))) ?_
 refine bB (a5 3 5 5 (fun i=>cP (([]:List GSet).getD i aCm))) ?_
 refine bB (a6 3 4 31) ?_
 refine bB (a6 3 5 32) ?_
 refine cY (ι:=GTx×Int×Int×Int) (fun y=>[(5,vI y.2.1)]) (fun y=>[(3, .row (o3 y.1 31 32)),(31,bE 5 cT aCn y.1.reads),(32,bE 5 cP aCm y.1.sets),(700,dE y.2.2.1 y.2.2.2)]) (fun y=>m8 12 y.1∧(0≤y.2.1∧y.2.1≤5)∧0≤y.2.2.1∧y.2.2.1≤n) (fun y=>y.2.1.toNat) (oB (1+a.1) b.1,c.1,c.2.1,c.2.2) [3,31,32,700] [31,32] rfl rfl ⟨⟨⟨Nat.zero_le _,Nat.zero_le _⟩,by show 0≤1+a.1∧1+a.1≤1000001;omega⟩,by dsimp only;omega,c2,c3⟩ wF wM ?_
 rintro ⟨t,k,i1,i2⟩ ⟨g1,g2,g3,g4⟩
 have hb:=P9 g1 (by decide)
 dsimp only at g2 g3 g4 ⊢
 refine aF ?_
 refine aI (fun e=>?_) (fun e=>?_)
 ·refine aF ?_
  refine a7 (ι:=GTx×Bool×Int×Int) (fun y=>[(6, .a (.p 6 0)),(7,vB y.2.1)]) (fun y=>[(6, .row (o3 y.1 61 62)),(61,bE 5 cT aCn y.1.reads),(62,bE 5 cP aCm y.1.sets),(700,dE y.2.2.1 y.2.2.2)]) (fun y=>m8 12 y.1∧0≤y.2.2.1∧y.2.2.1≤n) [700] [] ?_ ?_
  ·refine aW [700] [0,1,2,3,4,5,6,7,8,9] fun B0 H0=>?_
   refine eU 2 7 rfl rfl (by kernel_rfl) (gG (y5 hn hβ i1 i2 g3 g4) rfl rfl (aCu _) (fun _=>rfl) rfl rfl rfl (fun y ⟨y1,y2,y3⟩=>bD ?_)) (aV (bD ?_))
   ·skip
    refine eU 3 7 rfl rfl (by kernel_rfl) (gG (aCv 901 61 (aCv 902 62 (mB t hb y.1))) rfl rfl (aCu _) (fun _=>rfl) rfl rfl rfl (fun _ _=>bD ?_)) (aV (bD ?_))
    ·refine aY [4,5,6,7,8,9] ?_
     refine bG 7 rfl (by kernel_rfl) (aV (bD ?_))
     refine bG 8 rfl (by kernel_rfl) (aV (bD ?_))
     refine aY [9] ?_
     refine aP ?_
     exact aL ((d8 t y.1).1,(d8 t y.1).2,y.2.1,y.2.2) ⟨BM t y.1,y2,y3⟩ Nat.zero_lt_one
    ·skip
     refine aX 3 (aCv 901 61 (aCv 902 62 (mB t hb y.1))) fun _ _=>?_
     refine aY [4,5,6,8,9] ?_
     refine bG 8 rfl (by kernel_rfl) (aV (bD ?_))
     refine aY [9] ?_
     refine aP ?_
     exact aL ((d8 t y.1).1,(d8 t y.1).2,y.2.1,y.2.2) ⟨BM t y.1,y2,y3⟩ Nat.zero_lt_one
   ·skip
    refine aX 2 (y5 hn hβ i1 i2 g3 g4) fun y ⟨y1,y2,y3⟩=>?_
    refine aX 3 (aCv 901 61 (aCv 902 62 (mB t hb y.1))) fun _ _=>?_
    refine aY [4,5,6,8,9] ?_
    refine bG 8 rfl (by kernel_rfl) (aV (bD ?_))
    refine aY [9] ?_
    refine aP ?_
    exact aL ((d8 t y.1).1,(d8 t y.1).2,y.2.1,y.2.2) ⟨BM t y.1,y2,y3⟩ Nat.zero_lt_one
  ·rintro ⟨x,b,i3,i4⟩ ⟨f1,f2,f3⟩
   dsimp only at f2 f3 ⊢
   refine aZ ?_
   refine aA (fun _=>?_) (fun _=>?_)
   ·refine aF ?_
    refine bC (bL 31 61) ?_
    refine bC (bL 32 62) ?_
    exact aL (x,k - 1,i3,i4) ⟨f1,by dsimp only;omega,f2,f3⟩ (by dsimp only;omega)
   ·refine aF ?_
    exact aL (t,k - 1,i3,i4) ⟨g1,by dsimp only;omega,f2,f3⟩ (by dsimp only;omega)
 refine aF ?_
 refine aR (bR hn hβ i1 i2 g3 g4 5) fun c ⟨c1,c2,c3⟩=>?_
 refine aN ?_
 clear hb
 refine cY (ι:=GTx×Int×Int×Int) (fun y=>[(8,vI y.2.1)]) (fun y=>[(3, .row (o3 y.1 31 32)),(31,bE 5 cT aCn y.1.reads),(32,bE 5 cP aCm y.1.sets),(700,dE y.2.2.1 y.2.2.2)]) (fun y=>m8 12 y.1∧(0≤y.2.1∧y.2.1≤5)∧0≤y.2.2.1∧y.2.2.1≤n) (fun y=>y.2.1.toNat) (t,c.1,c.2.1,c.2.2) [3,31,32,700] [31,32] rfl rfl ⟨g1,by dsimp only;omega,c2,c3⟩ wF wM ?_
 clear g1 g2 g3 g4 e
 rintro ⟨t,k,i1,i2⟩ ⟨g1,g2,g3,g4⟩
 have hb:=P9 g1 (by decide)
 dsimp only at g2 g3 g4 ⊢
 refine aF ?_
 refine aI (fun e=>?_) (fun e=>?_)
 ·refine aF ?_
  refine a7 (ι:=GTx×Bool×Int×Int) (fun y=>[(9, .a (.p 9 0)),(10,vB y.2.1)]) (fun y=>[(9, .row (o3 y.1 61 62)),(61,bE 5 cT aCn y.1.reads),(62,bE 5 cP aCm y.1.sets),(700,dE y.2.2.1 y.2.2.2)]) (fun y=>m8 12 y.1∧0≤y.2.2.1∧y.2.2.1≤n) [700] [] ?_ ?_
  ·refine aW [700] [0,1,2,3,4,5,6,7,8,9,10,11] fun B0 H0=>?_
   refine eU 3 9 rfl rfl (by kernel_rfl) (gG (bR hn hβ i1 i2 g3 g4 3) rfl rfl (aCu _) (fun _=>rfl) rfl rfl rfl (fun a ⟨a1,a2,a3⟩=>bD ?_)) (aV (bD ?_))
   ·skip
    refine eU 4 9 rfl rfl (by kernel_rfl) (gG (rP hn hβ a.2.1 a.2.2 a2 a3 a.1 (by omega)) rfl rfl (aCu _) (fun _=>rfl) rfl rfl rfl (fun y ⟨y1,y2,y3⟩=>bD ?_)) (aV (bD ?_))
    ·skip
     refine eU 5 9 rfl rfl (by kernel_rfl) (gG (aCv 901 61 (aCv 902 62 (mY t hb y.1))) rfl rfl (aCu _) (fun _=>rfl) rfl rfl rfl (fun _ _=>bD ?_)) (aV (bD ?_))
     ·refine aY [6,7,8,9,10,11] ?_
      refine bG 9 rfl (by kernel_rfl) (aV (bD ?_))
      refine bG 10 rfl (by kernel_rfl) (aV (bD ?_))
      refine aY [11] ?_
      refine aP ?_
      exact aL ((eK t y.1).1,(eK t y.1).2,y.2.1,y.2.2) ⟨zL t y.1,y2,y3⟩ Nat.zero_lt_one
     ·skip
      refine aX 5 (aCv 901 61 (aCv 902 62 (mY t hb y.1))) fun _ _=>?_
      refine aY [6,7,8,10,11] ?_
      refine bG 10 rfl (by kernel_rfl) (aV (bD ?_))
      refine aY [11] ?_
      refine aP ?_
      exact aL ((eK t y.1).1,(eK t y.1).2,y.2.1,y.2.2) ⟨zL t y.1,y2,y3⟩ Nat.zero_lt_one
    ·skip
     refine iH 4 (rP hn hβ a.2.1 a.2.2 a2 a3 a.1 (by omega)) rfl rfl rfl (aCu _) (fun _=>rfl) rfl rfl rfl fun y ⟨y1,y2,y3⟩=>?_
     refine aX 5 (aCv 901 61 (aCv 902 62 (mY t hb y.1))) fun _ _=>?_
     refine aY [6,7,8,10,11] ?_
     refine bG 10 rfl (by kernel_rfl) (aV (bD ?_))
     refine aY [11] ?_
     refine aP ?_
     exact aL ((eK t y.1).1,(eK t y.1).2,y.2.1,y.2.2) ⟨zL t y.1,y2,y3⟩ Nat.zero_lt_one
   ·skip
    refine aX 3 (bR hn hβ i1 i2 g3 g4 3) fun a ⟨a1,a2,a3⟩=>?_
    refine iH 4 (rP hn hβ a.2.1 a.2.2 a2 a3 a.1 (by omega)) rfl rfl rfl (aCu _) (fun _=>rfl) rfl rfl rfl fun y ⟨y1,y2,y3⟩=>?_
    refine aX 5 (aCv 901 61 (aCv 902 62 (mY t hb y.1))) fun _ _=>?_
    refine aY [6,7,8,10,11] ?_
    refine bG 10 rfl (by kernel_rfl) (aV (bD ?_))
    refine aY [11] ?_
    refine aP ?_
    exact aL ((eK t y.1).1,(eK t y.1).2,y.2.1,y.2.2) ⟨zL t y.1,y2,y3⟩ Nat.zero_lt_one
  ·rintro ⟨x,b,i3,i4⟩ ⟨f1,f2,f3⟩
   dsimp only at f2 f3 ⊢
   refine aZ ?_
   refine aA (fun _=>?_) (fun _=>?_)
   ·refine aF ?_
    refine bC (bL 31 61) ?_
    refine bC (bL 32 62) ?_
    exact aL (x,k - 1,i3,i4) ⟨f1,by dsimp only;omega,f2,f3⟩ (by dsimp only;omega)
   ·refine aF ?_
    exact aL (t,k - 1,i3,i4) ⟨g1,by dsimp only;omega,f2,f3⟩ (by dsimp only;omega)
 refine aF ?_
 refine aR (bR hn hβ i1 i2 g3 g4 9) fun a ⟨a1,a2,a3⟩=>?_
 refine aN ?_
 refine aR (bR hn hβ a.2.1 a.2.2 a2 a3 4) fun b ⟨b1,b2,b3⟩=>?_
 refine aN ?_
 refine aR (bR hn hβ b.2.1 b.2.2 b2 b3 9) fun c ⟨c1,c2,c3⟩=>?_
 refine aN ?_
 refine aR (d9 hn hβ c.2.1 c.2.2 c2 c3 12) fun d ⟨d1,d2,d3⟩=>?_
 refine aN ?_
 refine a7 (ι:=GTx×Int×Int) (fun _=>[]) (fun y=>[(3, .row (o3 y.1 31 32)),(31,bE 5 cT aCn y.1.reads),(32,bE 5 cP aCm y.1.sets),(700,dE y.2.1 y.2.2)]) (fun y=>m8 13 y.1∧0≤y.2.1∧y.2.1≤n) [3,31,32,700] [31,32] ?_ ?_
 ·have gl:t.reads.length≤12∧t.sets.length≤12:=g1.1
  have g13:m8 13 t:=⟨⟨Nat.le_succ_of_le g1.1.1,Nat.le_succ_of_le g1.1.2⟩,g1.2⟩
  refine aA (fun _=>?_) (fun _=>?_)
  rotate_left
  ·refine aF ?_
   exact aL (⟨t.id,t.home,1+a.1,b.1,t.reads,t.sets,c.1⟩,d.2.1,d.2.2) ⟨g13,d2,d3⟩ Nat.zero_lt_one
  refine aF ?_
  refine aR (bR hn hβ d.2.1 d.2.2 d2 d3 6) fun g ⟨g1,g2,g3⟩=>?_
  refine aN ?_
  refine aA (fun _=>?_) (fun _=>?_)
  ·refine aF ?_
   refine cV TT_ok 50 (fun i=>bS (([0,1000000,1000001]:List Int).getD i 0)) rfl rfl rfl rfl rfl rfl rfl (fun i hi=>by rcases i with _ | _ | _ | i <;>first | rfl | omega) (mu1:=[]) rfl rfl rfl ?_
   refine aN ?_
   refine aR (bR hn hβ g.2.1 g.2.2 g2 g3 3) fun z ⟨z1,z2,z3⟩=>?_
   refine aN ?_
   exact aL (⟨(([0,1000000,1000001]:List Int).getD z.1.toNat 0),t.home,1+a.1,b.1,t.reads,t.sets,c.1⟩,z.2.1,z.2.2) ⟨⟨g13.1,aBQ _⟩,z2,z3⟩ Nat.zero_lt_one
  refine aF ?_
  refine aA (fun _=>?_) (fun _=>?_)
  ·refine aF ?_
   refine cV TT_ok 50 (fun i=>bS (([-1,7,8]:List Int).getD i 0)) rfl rfl rfl rfl rfl rfl rfl (fun i hi=>by rcases i with _ | _ | _ | i <;>first | rfl | omega) (mu1:=[]) rfl rfl rfl ?_
   refine aN ?_
   refine aR (bR hn hβ g.2.1 g.2.2 g2 g3 3) fun z ⟨z1,z2,z3⟩=>?_
   refine aN ?_
   exact aL (⟨t.id,(([-1,7,8]:List Int).getD z.1.toNat 0),1+a.1,b.1,t.reads,t.sets,c.1⟩,z.2.1,z.2.2) ⟨g13,z2,z3⟩ Nat.zero_lt_one
  refine aF ?_
  refine aA (fun _=>?_) (fun _=>?_)
  ·refine aF ?_
   refine cV TT_ok 50 (fun i=>bS (([0,9,10]:List Int).getD i 0)) rfl rfl rfl rfl rfl rfl rfl (fun i hi=>by rcases i with _ | _ | _ | i <;>first | rfl | omega) (mu1:=[]) rfl rfl rfl ?_
   refine aN ?_
   refine aR (bR hn hβ g.2.1 g.2.2 g2 g3 3) fun z ⟨z1,z2,z3⟩=>?_
   refine aN ?_
   exact aL (⟨t.id,t.home,(([0,9,10]:List Int).getD z.1.toNat 0),b.1,t.reads,t.sets,c.1⟩,z.2.1,z.2.2) ⟨g13,z2,z3⟩ Nat.zero_lt_one
  refine aF ?_
  refine aA (fun _=>?_) (fun _=>?_)
  ·refine aF ?_
   refine cV TT_ok 50 (fun i=>bS (([-1,1000,1001]:List Int).getD i 0)) rfl rfl rfl rfl rfl rfl rfl (fun i hi=>by rcases i with _ | _ | _ | i <;>first | rfl | omega) (mu1:=[]) rfl rfl rfl ?_
   refine aN ?_
   refine aR (bR hn hβ g.2.1 g.2.2 g2 g3 3) fun z ⟨z1,z2,z3⟩=>?_
   refine aN ?_
   exact aL (⟨t.id,t.home,1+a.1,(([-1,1000,1001]:List Int).getD z.1.toNat 0),t.reads,t.sets,c.1⟩,z.2.1,z.2.2) ⟨g13,z2,z3⟩ Nat.zero_lt_one
  refine aF ?_
  refine aA (fun _=>?_) (fun _=>?_)
  ·refine aF ?_
   refine aW [700,31] [0,1,2,3,4,5,6,7] fun B0 H0=>?_
   refine aX 3 (y5 hn hβ g.2.1 g.2.2 g2 g3) fun y ⟨y1,y2,y3⟩=>?_
   refine bG 4 rfl (by kernel_rfl) (dV TT_ok 50 (fun _=>cT y.1) rfl rfl rfl rfl rfl rfl rfl (fun j hj=>by rcases j with _ | j <;>first | rfl | omega) (mu1:=[]) rfl rfl rfl (bD ?_))
   refine bG 5 rfl (by kernel_rfl) (dM TT_ok 31 50 51 rfl rfl rfl rfl rfl rfl rfl rfl rfl rfl rfl rfl ⟨by show (t.reads.length+1) * 40≤_;omega,by unfold maxL;omega⟩ (bD ?_))
   refine aY [6,7] ?_
   refine dR 7 rfl (by kernel_rfl) (by kernel_rfl) (aV (eJ [] fun B0 H0=>?_))
   refine aP ?_
   refine bC (bL 31 51) ?_
   exact bN (⟨t.id,t.home,1+a.1,b.1,t.reads ++ [y.1],t.sets,c.1⟩,y.2.1,y.2.2) ⟨⟨⟨by simp;omega,g13.1.2⟩,g13.2⟩,y2,y3⟩ Nat.zero_lt_one wF ⟨⟨_,rfl,aCt _⟩,⟨_,rfl,aS (x:=y.1) rfl⟩,wM⟩
  refine aF ?_
  refine aA (fun _=>?_) (fun _=>?_)
  ·refine aF ?_
   refine aW [700,32] [0,1,2,3,4,5,6,7] fun B0 H0=>?_
   refine iH 3 (rP hn hβ g.2.1 g.2.2 g2 g3 1 (by decide)) rfl rfl rfl (aCu _) (fun _=>rfl) rfl rfl rfl fun y ⟨y1,y2,y3⟩=>?_
   refine bG 4 rfl (by kernel_rfl) (dV TT_ok 50 (fun _=>cP y.1) rfl rfl rfl rfl rfl rfl rfl (fun j hj=>by rcases j with _ | j <;>first | rfl | omega) (mu1:=[]) rfl rfl rfl (bD ?_))
   refine bG 5 rfl (by kernel_rfl) (dM TT_ok 32 50 51 rfl rfl rfl rfl rfl rfl rfl rfl rfl rfl rfl rfl ⟨by show (t.sets.length+1) * 40≤_;omega,by unfold maxL;omega⟩ (bD ?_))
   refine aY [6,7] ?_
   refine dR 7 rfl (by kernel_rfl) (by kernel_rfl) (aV (eJ [] fun B0 H0=>?_))
   refine aP ?_
   refine bC (bL 32 51) ?_
   exact bN (⟨t.id,t.home,1+a.1,b.1,t.reads,t.sets ++ [y.1],c.1⟩,y.2.1,y.2.2) ⟨⟨⟨g13.1.1,by simp;omega⟩,g13.2⟩,y2,y3⟩ Nat.zero_lt_one wF ⟨⟨_,rfl,aCt _⟩,⟨_,rfl,aCt _⟩,⟨_,rfl,aS (x:=y.1) rfl⟩,wM⟩
  refine aF ?_
  exact aL (⟨t.id,t.home,1+a.1,b.1,t.reads,t.sets,c.1⟩,g.2.1,g.2.2) ⟨g13,g2,g3⟩ Nat.zero_lt_one
 clear e g2 a1 b1 c1 d1
 rintro ⟨t,i3,i4⟩ ⟨f1,f2,f3⟩
 dsimp only at f2 f3 ⊢
 refine aZ ?_
 refine aR (d9 hn hβ i3 i4 f2 f3 24) fun a ⟨a1,a2,a3⟩=>?_
 refine aN ?_
 refine a7 (ι:=GTx×Int×Int) (fun _=>[]) (fun y=>[(3, .row (o3 y.1 31 32)),(31,bE 5 cT aCn y.1.reads),(32,bE 5 cP aCm y.1.sets),(700,dE y.2.1 y.2.2)]) (fun y=>m8 13 y.1∧0≤y.2.1∧y.2.1≤n) [3,31,32,700] [31,32] ?_ ?_
 ·refine aA (fun _=>?_) (fun _=>?_)
  rotate_left
  ·refine aF ?_
   exact aL (t,a.2.1,a.2.2) ⟨f1,a2,a3⟩ Nat.zero_lt_one
  refine aF ?_
  refine aM 60 (fun i=>cT (([]:List GNote).getD i aCn)) (fun i hi=>absurd hi (Nat.not_lt_zero _)) (mu1:=[]) ?_
  refine aN ?_
  refine aM 61 (fun i=>cP (([]:List GSet).getD i aCm)) (fun i hi=>absurd hi (Nat.not_lt_zero _)) (mu1:=[]) ?_
  refine aN ?_
  refine aK (ι:=GTx×Nat×Int×Int) (fun y=>[(11,vI y.2.1)]) (fun y=>[(3, .row (o3 y.1 60 61)),(60,bE 5 cT aCn y.1.reads),(61,bE 5 cP aCm y.1.sets),(700,dE y.2.2.1 y.2.2.2)]) (fun y=>(y.1.reads.length=y.2.1∧y.1.sets.length=y.2.1∧0≤y.1.id∧y.1.id≤1000001)∧y.2.1≤13∧0≤y.2.2.1∧y.2.2.1≤n) (fun y=>13 - y.2.1) ({ t with reads:=[],sets:=[] },0,a.2.1,a.2.2) [3,60,61,700] [60,61] ⟨⟨rfl,rfl,f1.2⟩,Nat.zero_le _,a2,a3⟩ ?_
  rintro ⟨t,k,i5,i6⟩ ⟨⟨q1,q2,q6⟩,q3,q4,q5⟩
  dsimp only at q1 q2 q3 q4 q5 ⊢
  refine aF ?_
  refine aR (bR hn hβ i5 i6 q4 q5 2) fun b ⟨b1,b2,b3⟩=>?_
  refine aN ?_
  refine aI (fun e=>?_) (fun e=>?_)
  ·have hk:k<13:=by omega
   have hd:0≤(k:Int).tdiv 6∧(k:Int).tdiv 6≤13:=by rw [Int.tdiv_eq_ediv_of_nonneg (by omega)];omega
   refine aF ?_
   refine cV TT_ok 70 (fun _=>cT ⟨(k:Int).tdiv 6,(k:Int).tmod 6,0,0,false⟩) rfl rfl rfl rfl rfl rfl rfl (fun j hj=>by rcases j with _ | j <;>first | rfl | omega) (mu1:=[]) rfl rfl rfl ?_
   refine aN ?_
   refine cU TT_ok 60 70 71 rfl rfl rfl rfl rfl rfl rfl rfl rfl rfl rfl rfl ⟨by show (t.reads.length+1) * 40≤_;omega,by unfold maxL;omega⟩ ?_
   refine aN ?_
   refine cV TT_ok 80 (fun _=>cP ⟨(k:Int).tdiv 6,(k:Int).tmod 6,0,false,k⟩) rfl rfl rfl rfl rfl rfl rfl (fun j hj=>by rcases j with _ | j <;>first | rfl | omega) (mu1:=[]) rfl rfl rfl ?_
   refine aN ?_
   refine cU TT_ok 61 80 81 rfl rfl rfl rfl rfl rfl rfl rfl rfl rfl rfl rfl ⟨by show (t.sets.length+1) * 40≤_;omega,by unfold maxL;omega⟩ ?_
   refine aN ?_
   refine bC (bL 60 71) ?_
   refine bC (bL 61 81) ?_
   exact bN ({ t with reads:=t.reads ++ [⟨(k:Int).tdiv 6,(k:Int).tmod 6,0,0,false⟩],sets:=t.sets ++ [⟨(k:Int).tdiv 6,(k:Int).tmod 6,0,false,k⟩] },k+1,b.2.1,b.2.2) ⟨⟨by simp [q1],by simp [q2],q6⟩,by dsimp only;omega,b2,b3⟩ (by dsimp only;omega) wF ⟨⟨_,rfl,aCt _⟩,⟨_,rfl,aS rfl⟩,⟨_,rfl,aS rfl⟩,wM⟩
  refine aF ?_
  refine bC (bL 60 31) ?_
  refine bC (bL 61 32) ?_
  exact aL (t,b.2.1,b.2.2) ⟨⟨⟨by show t.reads.length≤13;omega,by show t.sets.length≤13;omega⟩,q6⟩,b2,b3⟩ Nat.zero_lt_one
 rintro ⟨t,i5,i6⟩ ⟨q1,q2,q3⟩
 dsimp only at q2 q3 ⊢
 refine aZ ?_
 refine bB (bL 31 901) ?_
 refine bB (bL 32 902) ?_
 refine aC ((t,i5,i6)) [(2,some 48)] ?_ ?_ ?_
 ·exact aCu _
 ·exact wM
 ·exact ⟨q1,q2,q3⟩
end
section
theorem gV {n i:Nat} (h:i<n):(List.range n).getD i 0=i:=by simp [h]
section
variable {P:Program}
theorem zH {h:PH} {l vs:List Value} (e:D.owns h (l.map D.v) vs):vs=l:=uQ (D.owns_rds _ e)
theorem Con.inM {ι:Type} {f:Nat} {ks:List Nat} {args:List SV} {mu0 mu:Mu} {φ:ι→Prop} {res:ι→List SV} {mu':ι→Mu} (C:Con P f ks args mu φ res mu') (hk:bU mu0=bU mu) (h:WkMu mu0 mu):Con P f ks args mu0 φ res mu':=fun B r w H vals m he ha=>by
 have ho:kM mu0 H=kM mu H:=by unfold kM;rw [hk]
 have:=C B r w H vals (m.wk h) (fun k e=>he k (by rw [hk];exact e)) ha
 rw [← ho] at this
 exact this
def FE {α:Type} (a:Nat→α) (x:α):Option Nat→α
 | some i=>a i
 | none=>x
end
end
section
section
variable {E:Env} {B:BE} {mu mu':Mu} {w:World} {H:Nat→PH} {TT:List TI} {fr fr':Fr} {gf gf':GF} {a:Act} {all rest:List Oper} {Q:Exit→Act→World→Prop} {R:Exit→Act→World→Prop} {K:List KF}
theorem l5 {ι:Type} {fn:Func} {φ:ι→Prop} {res:ι→List SV} {mu':ι→Mu} (hT:TOk E.P TT) (y:ι) (ts:List (Nat×Option Nat)) (hr:fn.results=(ts.map wZ).toArray) {l:List SV} (hl:lB TT fr mu ts=some l) (h1:SVs.imp E.P l (res y)) (h2:WkMu mu (mu' y)) (h3:φ y) :
  X E (bodyPost E.P fn (RetP E φ res mu')) .fin fr mu:=fun B a w H f m=>by
 obtain ⟨out,r1,r2⟩:=rJ hT f m.mr hl
 show bodyPost _ _ _ .normal a w
 refine ⟨f.defers,yZ out,?_,y,B,H,out,h3,rfl,SVs.imp_ok h1 r2,m.wk h2⟩
 unfold results
 rw [hr,Sem.run_bind,Array.mapM_eq_mapM_toList,Sem.run_map,List.toList_toArray]
 erw [r1]
 have e:∀ l:List Value,(if h:l.toArray.size=1 then l.toArray[0] else Value.tuple l.toArray)=yZ l:=fun l=>by
  rw [← KT];simp
 exact congrArg (Result.ok · w) (e out)
end
end
section
section
variable {E:Env} {mu mu':Mu} {TT:List TI} {fr fr':Fr} {gf gf':GF} {all rest:List Oper} {R:Exit→Act→World→Prop} {K:List KF}
theorem Ch.imp_trans {x y z:Ch} (h:x.imp y) (k:y.imp z):x.imp z:=fun _ _ _ _ s=>k _ _ _ _ (h _ _ _ _ s)
theorem VK (hT:TOk E.P TT) {es:List Prop} {gs:List GO} (h:run TT E.N E.A.ks all rest fr gf mu [] [] = some ([],fr',gf',mu',es,gs)) (k:X E R (nxN K) fr' mu') (he:cS es:=by exact eD) (ho:cQ gs:=by exact gD):RJ E all (KQ E.P R K) rest fr gf mu :=
 (zD hT _ _ _ _ _ _ h ⟨he,ho⟩).2 (QI k)
theorem IE (hT:TOk E.P TT) {id:Nat} {ops:Array Oper} {es:List Prop} {gs:List GO} (h:run TT E.N E.A.ks ops.toList ops.toList fr [] mu [] [] = some ([],fr',gf',mu',es,gs)) (k:X E R (nxN K) fr' mu') (he:cS es:=by exact eD) (ho:cQ gs:=by exact gD):T E R (.region id ops false) fr mu K:=by
 have:=HL (id:=id) (VK hT h k he ho)
 simpa using this
end
section
variable {P:Program}
theorem NS {l:Mu} {j:Nat}:bF j (bU l)=true→∃ c,(j,c) ∈ l∧c.own? = true:=by
 induction l with
 | nil=>intro h;cases h
 | cons x r ih =>
  obtain ⟨i,c⟩:=x
  intro h
  simp only [bU] at h
  cases hc:c.own? with
  | false=>rw [hc] at h;obtain ⟨d,d1,d2⟩:=ih h;exact ⟨d,List.mem_cons_of_mem _ d1,d2⟩
  | true =>
   rw [hc] at h
   simp only [cond_true] at h
   rcases (fN j i _).1 h with e | e
   ·subst e;exact ⟨c,List.mem_cons_self,hc⟩
   ·obtain ⟨d,d1,d2⟩:=ih e;exact ⟨d,List.mem_cons_of_mem _ d1,d2⟩
theorem Con.liftR {ι:Type} {f sz n k ko:Nat} {g:Nat→List D} {ks:List Nat} {args:List SV} {args':(Nat→List Value)→List SV} {rest:Mu} {rest':ι→Mu} {φ:ι→Prop} {res:ι→List SV} {m:ι→Nat} {ρ:ι→Nat→Nat}
  (hro:∀ j c,mlk j rest=some c→c.own? = true∧j≠k)
  (hgo:∀ i,i<n→tO (g i)=true)
  (hσ:∀ y,φ y→∀ j,j<m y→ρ y j<n) (hin:∀ y,φ y→∀ i j,i<m y→j<m y→i≠j→ρ y i≠ρ y j)
  (hA:∀ (B:BE) (r r':PH) (H H':Nat→PH) (vals:List Value) (row:Nat→List Value),r.le r'→(∀ i,i<n→D.rds r' (g i) (row i))→SV.rels P B (Zf r H) args vals→SV.rels P B (Zf r' H') (args' row) vals)
  (hR:∀ y (B:BE) (r r':PH) (H H':Nat→PH) (out:List Value),SV.rels P B (Zf r H) (res y) out→SV.rels P B (Zf r' H') (res y) out)
  (hrest:∀ y (B:BE) (r r' h:PH) j c,mlk j (rest' y)=some c→c.sat B r' h j→c.sat B r h j)
  (C:∀ row:Nat→List Value,(∀ i,i<n→(row i).length=sz)→(∀ i,i<n→∀ u ∈ row i,eQ u=true)→(∃ hh,∀ i,i<n→D.rds hh (g i) (row i))→Con P f ks (args' row) ((k, .arr sz n fun i=>(row i).map D.v) :: rest) φ res fun y=>(ko, .arr sz (m y) fun j=>(row (ρ y j)).map D.v) :: rest' y) :
  Con P f ks args ((k, .arr sz n g) :: rest) φ res fun y=>(ko, .arr sz (m y) fun j=>g (ρ y j)) :: rest' y:=fun B r w H vals mm hemp hargs=>by
 have s1:D.own (H k) (.sl sz n g) (B k):=mm.sat k (.arr sz n g) (by rw [bV,if_pos rfl])
 obtain ⟨A,c,row,hc,hp,G,e1,e2,va,lc,lp,dcp,ho,hG,hd⟩:=lV s1
 have drp:r.dj hp:=PH.dj_symm (PH.dj_le (mm.djr k) lp (PH.le_refl _))
 have ro:=PH.le_un_left r hp
 have rp:=PH.le_un_right drp
 have hrow:∀ i,i<n→D.rds (r.un hp) (g i) (row i):=fun i hi=>D.rds_mono (PH.le_trans (hG i) rp) _ (D.owns_rds _ (ho i hi).1)
 let H1:Nat→PH:=fun j=>if j=k then hc else H j
 have hk1:H1 k=hc:=by simp [H1]
 have hne:∀ j,j≠k→H1 j=H j:=fun j hj=>by simp [H1,hj]
 have hle:∀ j,(H1 j).le (H j):=fun j=>by
  by_cases h:j=k
  ·subst h;rw [hk1];exact lc
  ·rw [hne j h];exact PH.le_refl _
 have hdj:∀ j,(H1 j).dj hp:=fun j=>by
  by_cases h:j=k
  ·subst h;rw [hk1];exact dcp
  ·exact PH.dj_le (mm.dj j k h) (hle j) lp
 have satup:∀ (c:Ch) (h:PH) j,c.own? = true→c.sat B r h j→c.sat B (r.un hp) h j:=fun c h j hc hs=>by
  cases c with
  | row l=>obtain ⟨b,o,vs,h',a1,a2,a3⟩:=hs;exact ⟨b,o,vs,h',a1,V.owns_mono ro (PH.le_refl _) a2,a3⟩
  | arr=>exact hs
  | hole=>exact hs
  | ro=>cases hc
  | rrow=>cases hc
  | rd=>exact hs
  | rw=>exact hs
 have mm1:Mm B (r.un hp) ((k, .arr sz n fun i=>(row i).map D.v) :: rest) w H1:=by
  refine ⟨fun j d e=>?_,fun j=>(mm.fit j).le (hle j),fun i j hij=>PH.dj_le (mm.dj i j hij) (hle i) (hle j),fun j=>PH.dj_un (PH.dj_le (mm.djr j) (hle j) (PH.le_refl _)) (hdj j),Fit.un mm.fitr ((mm.fit k).fit.le lp)⟩
  rw [bV] at e
  by_cases hj:k=j
  ·subst hj
   rw [if_pos rfl] at e;injection e with e;subst e
   rw [hk1]
   show D.own hc _ (B k)
   rw [e1]
   exact lX (hp:=PH.emp) (G:=fun _=>PH.emp) va e2 (PH.le_refl _) (PH.emp_le _) (PH.dj_emp _) (fun i _=>jL) (fun _ _=>PH.le_refl _) fun _ _ _ _ _=>PH.emp_dj _
  ·rw [if_neg hj] at e
   obtain ⟨q1,q2⟩:=hro j d e
   rw [hne j q2]
   exact satup d _ j q1 (mm.sat j d (by rw [bV,if_neg hj];exact e))
 have up:∀ b o,kM ((k, .arr sz n fun i=>(row i).map D.v) :: rest) H1 b o→kM ((k, .arr sz n g) :: rest) H b o:=fun b o ⟨j,h1,h2⟩=>by
  obtain ⟨c,c1,c2⟩:=NS h1
  refine ⟨j,?_,PH.le_ne (hle j) h2⟩
  rcases List.mem_cons.1 c1 with e | e
  ·obtain ⟨e1,_⟩:=Prod.mk.inj e
   rw [e1]
   exact jZ List.mem_cons_self rfl
  ·exact jZ (List.mem_cons_of_mem _ e) c2
 have own0:∀ b o,H k b o≠none→kM ((k, .arr sz n g) :: rest) H b o:=fun b o h=>⟨k,jZ List.mem_cons_self rfl,h⟩
 refine (C row (fun i hi=>(ho i hi).2) (fun i hi=>sL (ho i hi).1 (o9 (hgo i hi))) ⟨_,hrow⟩ B _ w H1 vals mm1 (fun j hj=>?_) (hA B r _ H H1 vals row ro hrow hargs)).mono ?_
 ·by_cases h:j=k
  ·subst h;rw [jZ (c := .arr sz n fun i=>(row i).map D.v) List.mem_cons_self rfl] at hj;cases hj
  ·rw [hne j h]
   refine hemp j ?_
   cases e:bF j (bU ((k, .arr sz n g) :: rest)) with
   | false=>rfl
   | true =>
    obtain ⟨c,q1,q2⟩:=NS e
    rcases List.mem_cons.1 q1 with e | e
    ·injection e with e1 e2;exact absurd e1 h
    ·rw [jZ (List.mem_cons_of_mem _ e) q2] at hj;cases hj
 rintro e w' ⟨y,B',H',out,hy,he,hres,mm2,hB,hkeep,hdom⟩
 have s2:D.own (H' ko) (.sl sz (m y) fun j=>(row (ρ y j)).map D.v) (B' ko):=mm2.sat ko (.arr sz (m y) fun j=>(row (ρ y j)).map D.v) (by rw [bV,if_pos rfl])
 obtain ⟨A2,c2,lO,hc2,hp2,G2,f1,f2,va2,lc2,lp2,dcp2,ho2,hG2,hd2⟩:=lV s2
 have heq:∀ j,j<m y→lO j=row (ρ y j):=fun j hj=>zH (ho2 j hj).1
 have dk:∀ j,(H' j).dj hp:=fun j=>PH.dj_le (mm2.djr j) (PH.le_refl _) rp
 let H3:Nat→PH:=fun j=>if j=ko then (H' ko).un hp else H' j
 have h3:H3 ko=(H' ko).un hp:=by simp [H3]
 have h3n:∀ j,j≠ko→H3 j=H' j:=fun j hj=>by simp [H3,hj]
 have fitp:FitO hp w':=((mm.fit k).le lp).keep hkeep fun b o h ⟨j,_,h2⟩=>by
  rcases hdj j b o with h4 | h4
  ·exact h2 h4
  ·exact h h4
 refine ⟨y,B',H3,out,hy,he,hR y B' _ _ H' H3 out hres,⟨fun j d e=>?_,fun j=>?_,fun i j hij=>?_,fun j=>?_,mm2.fitr.le ro⟩,hB,hkeep.mono fun b _ o h=>up b o h,fun j b o h=>?_⟩
 ·rw [bV] at e
  by_cases hj:ko=j
  ·subst hj
   rw [if_pos rfl] at e;injection e with e;subst e
   rw [h3]
   show D.own _ _ (B' ko)
   rw [f1]
   refine lX (hc:=hc2) (hp:=hp) (G:=fun j=>G (ρ y j)) (row:=lO) va2 f2 (PH.le_trans lc2 (PH.le_un_left _ _)) (PH.le_un_right (dk ko)) (PH.dj_le (dk ko) lc2 (PH.le_refl _)) (fun j hj=>?_) (fun j _=>hG _) fun i j hi hj hij=>hd _ _ (hin y hy i j hi hj hij)
   rw [heq j hj];exact (ho _ (hσ y hy j hj)).1
  ·rw [if_neg hj] at e
   rw [h3n j (Ne.symm hj)]
   exact hrest y B' r _ _ j d e (mm2.sat j d (by rw [bV,if_neg hj];exact e))
 ·by_cases hj:j=ko
  ·subst hj;rw [h3];exact (mm2.fit j).un fitp
  ·rw [h3n j hj];exact mm2.fit j
 ·by_cases hi:i=ko
  ·subst hi
   rw [h3,h3n j (Ne.symm hij)]
   exact PH.un_dj (mm2.dj i j hij) (PH.dj_symm (dk j))
  ·by_cases hj:j=ko
   ·subst hj
    rw [h3,h3n i hi]
    exact PH.dj_un (mm2.dj i j hij) (dk i)
   ·rw [h3n i hi,h3n j hj];exact mm2.dj i j hij
 ·by_cases hj:j=ko
  ·subst hj;rw [h3];exact PH.un_dj (PH.dj_le (mm2.djr j) (PH.le_refl _) ro) (PH.dj_symm drp)
  ·rw [h3n j hj];exact PH.dj_le (mm2.djr j) (PH.le_refl _) ro
 ·by_cases hj:j=ko
  ·subst hj
   rw [h3] at h
   rcases PH.un_ne h with h1 | h1
   ·rcases hdom j b o h1 with h2 | h2
    ·exact .inl (up b o h2)
    ·exact .inr h2
   ·exact .inl (own0 b o (PH.le_ne lp h1))
  ·rw [h3n j hj] at h
   rcases hdom j b o h with h2 | h2
   ·exact .inl (up b o h2)
   ·exact .inr h2
end
end
section
section
variable {E:Env} {mu mu':Mu} {TT:List TI} {fr fr':Fr} {gf gf':GF} {all:List Oper} {R:Exit→Act→World→Prop} {K:List KF} {G:AG} {Q:Exit→Act→World→Prop}
def DP (G:AG) (E:Env) (all:List Oper) (Q:Exit→Act→World→Prop) (n:Nat) (tk:List Nat) (fr:Fr) (gf:GF) (mu:Mu):Prop :=
 ∀ B a w H,FitsE E B H fr gf a→Mem E B mu w H→Sr G E.r w→Lw E.P all.toArray Q (Sr G E.r) n (mk all.toArray.size tk) a w
theorem UC {n:Nat} {tk:List Nat} (h:DP G E all Q n tk fr gf mu):DJ G E all Q n tk fr gf mu:=fun B a w H f m gg=>h B a w H f m (m.sr gg)
theorem qN {n:Nat} {tk:List Nat} (v:kO E fr gf mu fr' gf' mu') (h:DP G E all Q n tk fr' gf' mu'):DP G E all Q n tk fr gf mu:=fun B a w H f m s=>by
 obtain ⟨B',H',f',m'⟩:=v B w H a f m
 exact h B' a w H' f' m' s
theorem rT (hT:TOk E.P TT) (i:Nat) {n:Nat} {tk:List Nat} {o:Oper} {t:Nat} {x:SV} {q:Ob} {es:List Prop} {gs:List GO} (hi:nth all i=some o) (hp:pst TT fr gf mu [] o.op=some (x,q)) (hs:dQ fr gf [] q [] [] = some (es,gs)) (hgd:dD t gf=some gf')
  (k:DP G E all Q n (i :: tk) ((t,x) :: fr) gf' mu) (hg:o.guard=none:=by exact rfl) (hd:o.dst=some t:=by exact rfl) (ht:Nat.blt t E.N=true:=by exact rfl) (hB:EB all.toArray tk i=true:=by kernel_rfl) (he:cS es:=by exact eD) (ho:cQ gs:=by exact gD):DP G E all Q (n+1) tk fr gf mu:=fun B a w H f m s w2 hb=>by
 have hr:=DZ hB
 have hi':all.toArray[i]? = some o:=by rw [pB] at hi;simpa using hi
 refine ⟨fun h0=>(by rw [hr] at h0;cases h0),fun j hj=>?_⟩
 rw [hr] at hj
 obtain rfl:=List.mem_singleton.1 hj
 have m2:=m.below hb
 obtain ⟨v,r1,r2⟩:=zA hT f m2.mr.ms (g:=[]) (fun _ _ hm=>by cases hm) hp (gE f (fun _ _ hm=>by cases hm) hs he ho)
 unfold wpOp
 rw [hi',yL]
 refine qZ (fM hg) (r1 w2 m2.mr.fw) ?_
 rw [hd]
 exact ⟨_, .inl rfl,s.up hb,k B _ w2 H (Fits.put f (by simpa [Nat.blt_eq] using ht) r2 hgd) m2 (s.up hb)⟩
theorem aBF {n:Nat} {tk:List Nat} (hr:(Region.ready .any all.toArray (mk all.toArray.size tk)).isEmpty=true) (h:X E R (nxN K) fr mu):DP G E all (KQ E.P R K) n tk fr gf mu:=fun B a w H f m _=>by
 have hr':Region.ready .any all.toArray (mk all.toArray.size tk)=[]:=by simpa using hr
 have hq:=fun w' hb=>wH (h B a w' H (Fits.ungf f) (m.below hb))
 cases n with
 | zero=>exact fun w' hb=>⟨hr',hq w' hb⟩
 | succ n=>exact fun w' hb=>⟨fun _=>hq w' hb,fun i hi=>by rw [hr'] at hi;cases hi⟩
theorem KL (hT:TOk E.P TT) {n:Nat} {tk:List Nat} {js:JS} {es:List Prop} {gs:List GO} (ha:x8 (k9 TT E.N E.A.ks 400) (nxN K) fr mu [] [] = some (js,es,gs)) (k:js.ok E R) (hr:(Region.ready .any all.toArray (mk all.toArray.size tk)).isEmpty=true:=by kernel_rfl)
  (he:cS es:=by exact eD) (ho:cQ gs:=by exact gD):DP G E all (KQ E.P R K) n tk fr gf mu:=aBF hr ((uY (mD hT 400) ha ⟨he,ho⟩).2 k)
end
def zX (k:Nat):List V→Nat→Option (List V)
 | .s _ _ _ _ :: r,0=>some (.g k :: r)
 | x :: r,j+1=>match zX k r j with
  | some l=>some (x :: l)
  | none=>none
 | _,_=>none
theorem M2 {B:BE} {Z:Tg→PH} {k:Nat} (v:Value):∀ {l:List V} {vs:List Value},fV (V.usesB k) l=false→V.rels B Z l vs→V.rels (BE.set B k v) Z l vs
 | [],_,_,e=>e
 | x :: r,_,h,e=>by
  obtain ⟨y,t,rfl,e1,e2⟩:=e
  obtain ⟨h1,h2⟩:=kP h
  exact ⟨y,t,rfl,V.rel_setB v h1 e1,M2 v h2 e2⟩
theorem QW {B:BE} {Z:Tg→PH} {k:Nat}:∀ {l l':List V} {j:Nat} {vs:List Value},zX k l j=some l'→fV (V.usesB k) l=false→V.rels B Z l vs→∃ v,V.rels (BE.set B k v) Z l' vs
 | [],_,j,_,h,_,_=>by cases j <;>simp [zX] at h
 | x :: r,l',0,vs,h,hu,e=>by
  cases x with
  | s q sz n f =>
   simp only [zX,Option.some.injEq] at h
   subst h
   obtain ⟨y,t,rfl,e1,e2⟩:=e
   obtain ⟨A,c,e3,_⟩:=(show ∃ A c,y = .slice A n c∧_ from e1)
   obtain ⟨h1,h2⟩:=kP hu
   exact ⟨y,y,t,rfl,⟨(BE.set_eq _ _ _).symm,by rw [e3];rfl⟩,M2 y h2 e2⟩
  | _=>simp [zX] at h
 | x :: r,l',j+1,vs,h,hu,e=>by
  have h':(match zX k r j with | some l=>some (x :: l) | none=>none)=some l':=by cases x <;>exact h
  cases c:zX k r j with
  | none=>rw [c] at h';cases h'
  | some l =>
   rw [c] at h'
   injection h' with h'
   subst h'
   obtain ⟨y,t,rfl,e1,e2⟩:=e
   obtain ⟨h1,h2⟩:=kP hu
   obtain ⟨v,h3⟩:=QW c h2 e2
   exact ⟨v,y,t,rfl,V.rel_setB v h1 e1,h3⟩
section
variable {E:Env} {mu:Mu} {fr:Fr} {gf:GF} {all:List Oper} {G:AG} {Q:Exit→Act→World→Prop} {B:BE} {w:World} {H:Nat→PH} {a:Act}
theorem Mem.name (m:Mem E B mu w H) {k:Nat} (v:Value) (h1:o6 (V.uses k) k mu=false) (h2:bF k E.A.ks=false) (h3:mlk k mu=none):Mem E (BE.set B k v) mu w H:=by
 refine ⟨⟨fun j d e=>?_,m.mm.fit,m.mm.dj,m.mm.djr,m.mm.fitr⟩,m.keep,m.dom,fun j hj=>?_⟩
 ·have hj:j≠k:=fun e2=>by subst e2;rw [h3] at e;cases e
  exact Ch.sat_setB v hj (sQ (qX (fun x hx=>(n5 hx).1) h1) j d hj e) (m.mm.sat j d e)
 ·have:j≠k:=fun e=>by rw [e,h2] at hj;cases hj
  rw [BE.set_ne B v this];exact m.anch j hj
theorem FitsE.name (f:FitsE E B H fr gf a) {k:Nat} (v:Value) (h1:g9 (V.uses k) fr=false) (h2:gU (V.uses k) gf=false):FitsE E (BE.set B k v) H fr gf a :=
 Fits.keep f h1 h2 (PH.le_refl _) fun _ _ hx e=>V.rel_setB v (n5 hx).1 e
theorem TG (t j k:Nat) {n:Nat} {tk:List Nat} {l l':List V} (ht:mlk t fr=some (.ag l)) (hg:glk t gf=none) (hl:zX k l j=some l') (hu:jO k fr gf mu E.A.ks=true) (hm:mlk k mu=none) (hG:bF k G.ks=false) (h:DJ G E all Q n tk ((t, .ag l') :: fr) gf mu):DJ G E all Q n tk fr gf mu:=fun B a w H f m gg=>by
 obtain ⟨u1,u2,u3,u4⟩:=kK hu
 obtain ⟨vs,e1,e2⟩:=(show ∃ vs,a.tmps.getD t undef=_∧V.rels B (Zf E.r H) l vs from f.vfr t _ ht hg)
 have hL:fV (V.uses k) l=false:=DI u1 t _ ht
 obtain ⟨v,e3⟩:=QW hl (ED (fun x hx=>(n5 hx).1) hL) e2
 have f2:=f.name v u1 u2
 refine h (BE.set B k v) a w H ⟨f2.size,f2.defers,fun t' x q1 q2=>?_,f2.vgf,f2.vgu,fun t' d w x q1=>?_⟩ (m.name v u3 u4 hm) fun i hi=>?_
 ·rw [bV] at q1
  by_cases hh:t=t'
  ·subst hh
   rw [if_pos rfl] at q1
   injection q1 with q1
   subst q1
   exact ⟨vs,e1,e3⟩
  ·rw [if_neg hh] at q1;exact f2.vfr t' x q1 q2
 ·rw [bV]
  by_cases hh:t=t'
  ·subst hh
   have:=f2.vno t d w x q1
   rw [ht] at this;cases this
  ·rw [if_neg hh];exact f2.vno t' d w x q1
 ·have:i≠k:=fun e=>by rw [e,hG] at hi;cases hi
  rw [BE.set_ne B v this];exact gg i hi
end
end
section
section
variable {E:Env} {mu:Mu} {TT:List TI} {fr:Fr} {gf gf':GF} {all:List Oper} {G:AG} {Q:Exit→Act→World→Prop} {J:Act→World→Prop}
theorem aBY (hT:TOk E.P TT) {o:Oper} {t:Nat} {x:SV} {q:Ob} {es:List Prop} {gs:List GO} (hp:pst TT fr gf mu [] o.op=some (x,q)) (hs:dQ fr gf [] q [] [] = some (es,gs)) (hgd:dD t gf=some gf')
  (k:SJ G J E ((t,x) :: fr) gf' mu) (hg:o.guard=none:=by exact rfl) (hd:o.dst=some t:=by exact rfl) (ht:Nat.blt t E.N=true:=by exact rfl) (he:cS es:=by exact eD) (ho:cQ gs:=by exact gD):OJ G E all Q J o fr gf mu:=fun B a w H f m gg=>by
 obtain ⟨v,r1,r2⟩:=zA hT f m.mr.ms (g:=[]) (fun _ _ hm=>by cases hm) hp (gE f (fun _ _ hm=>by cases hm) hs he ho)
 refine qZ (fM hg) (r1 w m.mr.fw) ?_
 rw [hd]
 exact k B _ w H (Fits.put f (by simpa [Nat.blt_eq] using ht) r2 hgd) m gg
theorem bA {o:Oper} {t:Nat} {x:SV} {q:Ob} {es:List Prop} {gs:List GO} (k:SJ G J E ((t,x) :: fr) gf' mu) (hT:TOk E.P TT:=by exact TT_ok) (hp:pst TT fr gf mu [] o.op=some (x,q):=by exact rfl) (hs:dQ fr gf [] q [] [] = some (es,gs):=by exact rfl) (hgd:dD t gf=some gf':=by exact rfl) (hg:o.guard=none:=by exact rfl) (hd:o.dst=some t:=by exact rfl) (ht:Nat.blt t E.N=true:=by exact rfl) (he:cS es:=by exact eD) (ho:cQ gs:=by exact gD):OJ G E all Q J o fr gf mu:=aBY hT hp hs hgd k hg hd ht he ho
end
end
section
section
variable {E:Env} {mu:Mu} {fr:Fr} {gf:GF} {all rest:List Oper} {R:Exit→Act→World→Prop} {K:List KF} {d:Code} {TT:List TI}
theorem X_T (h:T E R d fr mu K):X E R (.code d K) fr mu:=h
theorem RJ_T (h:T E R d fr mu K):RJ E all (KQ E.P R (.seq d :: K)) [] fr gf mu:=QI (K := .seq d :: K) h
theorem YQ (hT:TOk E.P TT) {js:JS} {es:List Prop} {gs:List GO} (h:goR TT E.N E.A.ks (k9 TT E.N E.A.ks 0) all rest fr gf mu K [] [] = some (js,es,gs)) (k:js.ok E R) (he:cS es:=by exact eD) (ho:cQ gs:=by exact gD):RJ E all (KQ E.P R K) rest fr gf mu :=
 (x9 hT (mD hT 0) h ⟨he,ho⟩).2 k
end
end
section
abbrev rowOp (x:GOp):List V:=[.v (.int .i64 x.kind), .v (.int .i64 x.id), .v (.int .i64 x.a), .v (.int .i64 x.b), .v (.int .i64 x.c)]
theorem OY {n:Nat} {β:Nat→Int} (hn:n≤1048576) (hβ:eS β) (i h:Int) (h1:0≤i) (h2:i≤n) (k:GCluster):Con Tryz.prog 195 [700,701] [.a (.p 700 0),vR (bO k)] (xB n β i h) (fun y:List GOp×Int×Int=>y.1.length≤160∧0≤y.2.1∧y.2.1≤n) (fun y=>[.a (.g 900)]) fun y=>[(700,dE y.2.1 y.2.2),(900,bE 5 cOp aCr y.1)]:=by
 refine aE Tryz.func195 fun B0 r_ D_ w0=>?_
 refine aF ?_
 refine aM 20 (fun i=>cOp (([]:List GOp).getD i aCr)) (fun i hi=>absurd hi (Nat.not_lt_zero _)) (mu1:=[]) ?_
 refine aN ?_
 refine aR (bR hn hβ i h h1 h2 40) fun a ⟨a1,a2,a3⟩=>?_
 refine aN ?_
 refine cY (ι:=List GOp×Int×Int×Int×Int) (fun y=>[(5, .a (.g 20)),(6,vI y.2.1),(7,vI y.2.2.1)]) (fun y=>[(20,bE 5 cOp aCr y.1),(700,dE y.2.2.2.1 y.2.2.2.2)]) (fun y=>(y.1.length:Int)+4 * y.2.2.1≤160∧(0≤y.2.1∧y.2.1+y.2.2.1≤40)∧(0≤y.2.2.1∧y.2.2.1≤40)∧0≤y.2.2.2.1∧y.2.2.2.1≤n) (fun y=>y.2.2.1.toNat) ([],0,a.1,a.2.1,a.2.2) [20,700] [20] rfl rfl ⟨by simp only [List.length_nil];omega,by dsimp only;omega,by dsimp only;omega,a2,a3⟩ wF wM ?_
 rintro ⟨l,id,m,i1,i2⟩ ⟨q1,q2,q3,q4,q5⟩
 dsimp only at q1 q2 q3 q4 q5 ⊢
 refine aF ?_
 refine aI (fun e=>?_) (fun e=>?_)
 rotate_left
 ·refine aF ?_
  refine bB (bL 20 900) ?_
  refine aC ((l,i1,i2)) [(4,none)] ?_ ?_ ?_
  ·exact aCu _
  ·exact wM
  ·exact ⟨by dsimp only;omega,q4,q5⟩
 have hl:l.length≤160:=by omega
 refine aF ?_
 refine aR (bR hn hβ i1 i2 q4 q5 3) fun a ⟨a1,a2,a3⟩=>?_
 refine aN ?_
 refine aH (A4 _ _) ?_
 refine aR (bR hn hβ a.2.1 a.2.2 a2 a3 2) fun b ⟨b1,b2,b3⟩=>?_
 refine aN ?_
 refine aR (bR hn hβ b.2.1 b.2.2 b2 b3 3) fun c ⟨c1,c2,c3⟩=>?_
 refine aN ?_
 refine cO TT_ok (o0 hn hβ c.2.1 c.2.2 c2 c3 (-9) 9 (by decide) (by decide) (by decide)) rfl rfl (aCu _) (fun _=>rfl) rfl rfl rfl fun d ⟨d1,d2,d3⟩=>?_
 refine aN ?_
 refine aR (bR hn hβ d.2.1 d.2.2 d2 d3 14) fun g ⟨g1,g2,g3⟩=>?_
 refine RJ_T ?_
 generalize hz:B5 1 (id - a.1)=z
 refine a7 (ι:=List GOp×GOp×Int×Int×Int) (fun y=>[(5, .a (.g 20)),(6,vI y.2.2.1)]) (fun y=>[(8, .row (rowOp y.2.1)),(20,bE 5 cOp aCr y.1),(700,dE y.2.2.2.1 y.2.2.2.2)]) (fun y=>y.1.length≤l.length+3∧(0≤y.2.2.1∧y.2.2.1≤id+1)∧0≤y.2.2.2.1∧y.2.2.2.1≤n) [8,20,700] [20] ?_ ?_
 ·refine aF ?_
  refine a7 (ι:=Bool) (fun b=>[(31,vB b)]) (fun _=>[]) (fun _=>True) [] [] ?_ ?_
  ·refine aA (fun _=>?_) (fun _=>?_)
   ·refine aF ?_
    exact aL _ trivial Nat.zero_lt_one
   ·refine aF ?_
    exact aL _ trivial Nat.zero_lt_one
  rintro v _
  refine aZ ?_
  refine aA (fun _=>?_) (fun _=>?_)
  ·refine aF ?_
   refine aR (bR hn hβ g.2.1 g.2.2 g2 g3 4) fun p ⟨p1,p2,p3⟩=>?_
   refine aN ?_
   refine cV TT_ok 42 (fun _=>cOp ⟨1,id+1,p.1,0,0⟩) rfl rfl rfl rfl rfl rfl rfl (fun j hj=>by rcases j with _ | j <;>first | rfl | omega) (mu1:=[]) rfl rfl rfl ?_
   refine aN ?_
   refine cU TT_ok 20 42 43 rfl rfl rfl rfl rfl rfl rfl rfl rfl rfl rfl rfl ⟨by show (l.length+1) * 40≤_;omega,by unfold maxL;omega⟩ ?_
   refine aN ?_
   refine aR (bR hn hβ p.2.1 p.2.2 p2 p3 2) fun r ⟨r1,r2,r3⟩=>?_
   refine aN ?_
   refine aR (d9 hn hβ r.2.1 r.2.2 r2 r3 2) fun s ⟨s1,s2,s3⟩=>?_
   refine aN ?_
   refine aA (fun _=>?_) (fun _=>?_)
   ·refine aF ?_
    refine aR (bR hn hβ s.2.1 s.2.2 s2 s3 2) fun t ⟨t1,t2,t3⟩=>?_
    refine aN ?_
    refine aR (bR hn hβ t.2.1 t.2.2 t2 t3 2) fun u ⟨u1,u2,u3⟩=>?_
    refine aN ?_
    refine aR (bR hn hβ u.2.1 u.2.2 u2 u3 90) fun w ⟨w1,w2,w3⟩=>?_
    refine aN ?_
    refine bC (bL 20 43) ?_
    exact bN (l ++ [⟨1,id+1,p.1,0,0⟩],⟨3,id+1,t.1,u.1,w.1⟩,id+1,w.2.1,w.2.2) ⟨by simp,by dsimp only;omega,w2,w3⟩ Nat.zero_lt_one wF ⟨⟨_,rfl,aCt _⟩,⟨_,rfl,aS rfl⟩,wM⟩
   ·refine aF ?_
    refine bC (bL 20 43) ?_
    exact bN (l ++ [⟨1,id+1,p.1,0,0⟩],⟨4,id+1,r.1,0,0⟩,id+1,s.2.1,s.2.2) ⟨by simp,by dsimp only;omega,s2,s3⟩ Nat.zero_lt_one wF ⟨⟨_,rfl,aCt _⟩,⟨_,rfl,aS rfl⟩,wM⟩
  refine aF ?_
  refine aA (fun _=>?_) (fun _=>?_)
  ·refine aF ?_
   exact aL (l,⟨2,z,b.1,c.1,d.1⟩,id,g.2.1,g.2.2) ⟨by dsimp only;omega,by dsimp only;omega,g2,g3⟩ Nat.zero_lt_one
  refine aF ?_
  refine a7 (ι:=Bool) (fun b=>[(61,vB b)]) (fun _=>[]) (fun _=>True) [] [] ?_ ?_
  ·refine aA (fun _=>?_) (fun _=>?_)
   ·refine aF ?_
    exact aL _ trivial Nat.zero_lt_one
   ·refine aF ?_
    exact aL _ trivial Nat.zero_lt_one
  rintro v _
  refine aZ ?_
  refine aA (fun _=>?_) (fun _=>?_)
  ·refine aF ?_
   exact aL (l,⟨3,z,b.1,c.1,d.1⟩,id,g.2.1,g.2.2) ⟨by dsimp only;omega,by dsimp only;omega,g2,g3⟩ Nat.zero_lt_one
  refine aF ?_
  refine aA (fun _=>?_) (fun _=>?_)
  ·refine aF ?_
   exact aL (l,⟨4,z,b.1,c.1,d.1⟩,id,g.2.1,g.2.2) ⟨by dsimp only;omega,by dsimp only;omega,g2,g3⟩ Nat.zero_lt_one
  refine aF ?_
  refine aA (fun _=>?_) (fun _=>?_)
  ·refine aF ?_
   exact aL (l,⟨5,z,b.1,c.1,d.1⟩,id,g.2.1,g.2.2) ⟨by dsimp only;omega,by dsimp only;omega,g2,g3⟩ Nat.zero_lt_one
  refine aF ?_
  refine a7 (ι:=Bool) (fun b=>[(71,vB b)]) (fun _=>[]) (fun _=>True) [] [] ?_ ?_
  ·refine aA (fun _=>?_) (fun _=>?_)
   ·refine aF ?_
    exact aL _ trivial Nat.zero_lt_one
   ·refine aF ?_
    exact aL _ trivial Nat.zero_lt_one
  rintro v _
  refine aZ ?_
  refine aA (fun _=>?_) (fun _=>?_)
  ·refine aF ?_
   exact aL (l,⟨6,z,b.1,c.1,d.1⟩,id,g.2.1,g.2.2) ⟨by dsimp only;omega,by dsimp only;omega,g2,g3⟩ Nat.zero_lt_one
  refine aF ?_
  refine a7 (ι:=Bool) (fun b=>[(75,vB b)]) (fun _=>[]) (fun _=>True) [] [] ?_ ?_
  ·refine aA (fun _=>?_) (fun _=>?_)
   ·refine aF ?_
    exact aL _ trivial Nat.zero_lt_one
   ·refine aF ?_
    exact aL _ trivial Nat.zero_lt_one
  rintro v _
  refine aZ ?_
  refine aA (fun _=>?_) (fun _=>?_)
  ·refine aF ?_
   refine aR (bR hn hβ g.2.1 g.2.2 g2 g3 4) fun p ⟨p1,p2,p3⟩=>?_
   refine aN ?_
   refine cY (ι:=List GOp×Int) (fun y=>[(5, .a (.g 20)),(9,vI y.2)]) (fun y=>[(20,bE 5 cOp aCr y.1)]) (fun y=>(y.1.length:Int)+y.2≤l.length+3∧0≤y.2∧y.2≤3) (fun y=>y.2.toNat) (l,p.1) [20] [20] rfl rfl ⟨by dsimp only;omega,by dsimp only;omega,by dsimp only;omega⟩ wF wM ?_
   rintro ⟨l2,m2⟩ ⟨u1,u2,u3⟩
   dsimp only at u1 u2 u3 ⊢
   refine aF ?_
   refine aI (fun e=>?_) (fun e=>?_)
   ·refine aF ?_
    refine cV TT_ok 42 (fun _=>cOp ⟨7,z,b.1,c.1,d.1⟩) rfl rfl rfl rfl rfl rfl rfl (fun j hj=>by rcases j with _ | j <;>first | rfl | omega) (mu1:=[]) rfl rfl rfl ?_
    refine aN ?_
    refine cU TT_ok 20 42 43 rfl rfl rfl rfl rfl rfl rfl rfl rfl rfl rfl rfl ⟨by show (l2.length+1) * 40≤_;omega,by unfold maxL;omega⟩ ?_
    refine aN ?_
    refine bC (bL 20 43) ?_
    exact bN (l2 ++ [⟨7,z,b.1,c.1,d.1⟩],m2 - 1) ⟨by simp;omega,by dsimp only;omega,by dsimp only;omega⟩ (by dsimp only;omega) wF ⟨⟨_,rfl,aS rfl⟩,wM⟩
   ·refine aF ?_
    exact aL (l2,⟨7,z,b.1,c.1,d.1⟩,id,p.2.1,p.2.2) ⟨by dsimp only;omega,by dsimp only;omega,p2,p3⟩ Nat.zero_lt_one
  refine aF ?_
  refine aA (fun _=>?_) (fun _=>?_)
  ·refine aF ?_
   exact aL (l,⟨10,z,b.1,c.1,d.1⟩,id,g.2.1,g.2.2) ⟨by dsimp only;omega,by dsimp only;omega,g2,g3⟩ Nat.zero_lt_one
  refine aF ?_
  refine aA (fun _=>?_) (fun _=>?_)
  ·refine aF ?_
   refine aR (d9 hn hβ g.2.1 g.2.2 g2 g3 3) fun p ⟨p1,p2,p3⟩=>?_
   refine aN ?_
   refine aA (fun _=>?_) (fun _=>?_)
   rotate_left
   ·refine aF ?_
    exact aL (l,⟨0,z,b.1,c.1,d.1⟩,id,p.2.1,p.2.2) ⟨by dsimp only;omega,by dsimp only;omega,p2,p3⟩ Nat.zero_lt_one
   refine aF ?_
   refine aR (bR hn hβ p.2.1 p.2.2 p2 p3 5) fun r ⟨r1,r2,r3⟩=>?_
   refine aN ?_
   refine aR (d9 hn hβ r.2.1 r.2.2 r2 r3 2) fun s ⟨s1,s2,s3⟩=>?_
   refine aN ?_
   refine aA (fun _=>?_) (fun _=>?_)
   ·refine aF ?_
    refine cV TT_ok 42 (fun _=>cOp ⟨8,z,r.1,c.1,d.1⟩) rfl rfl rfl rfl rfl rfl rfl (fun j hj=>by rcases j with _ | j <;>first | rfl | omega) (mu1:=[]) rfl rfl rfl ?_
    refine aN ?_
    refine cU TT_ok 20 42 43 rfl rfl rfl rfl rfl rfl rfl rfl rfl rfl rfl rfl ⟨by show (l.length+1) * 40≤_;omega,by unfold maxL;omega⟩ ?_
    refine aN ?_
    refine bC (bL 20 43) ?_
    exact bN (l ++ [⟨8,z,r.1,c.1,d.1⟩],⟨9,0,0,0,0⟩,id,s.2.1,s.2.2) ⟨by simp,by dsimp only;omega,s2,s3⟩ Nat.zero_lt_one wF ⟨⟨_,rfl,aCt _⟩,⟨_,rfl,aS rfl⟩,wM⟩
   ·refine aF ?_
    exact aL (l,⟨8,z,r.1,c.1,d.1⟩,id,s.2.1,s.2.2) ⟨by dsimp only;omega,by dsimp only;omega,s2,s3⟩ Nat.zero_lt_one
  refine aF ?_
  refine aA (fun _=>?_) (fun _=>?_)
  ·refine aF ?_
   refine aR (d9 hn hβ g.2.1 g.2.2 g2 g3 3) fun p ⟨p1,p2,p3⟩=>?_
   refine aN ?_
   refine aA (fun _=>?_) (fun _=>?_)
   ·refine aF ?_
    exact aL (l,⟨9,z,b.1,c.1,d.1⟩,id,p.2.1,p.2.2) ⟨by dsimp only;omega,by dsimp only;omega,p2,p3⟩ Nat.zero_lt_one
   ·refine aF ?_
    exact aL (l,⟨0,z,b.1,c.1,d.1⟩,id,p.2.1,p.2.2) ⟨by dsimp only;omega,by dsimp only;omega,p2,p3⟩ Nat.zero_lt_one
  ·refine aF ?_
   exact aL (l,⟨0,z,b.1,c.1,d.1⟩,id,g.2.1,g.2.2) ⟨by dsimp only;omega,by dsimp only;omega,g2,g3⟩ Nat.zero_lt_one
 rintro ⟨l2,x,id2,i3,i4⟩ ⟨u1,u2,u3,u4⟩
 dsimp only at u1 u2 u3 u4 ⊢
 refine aZ ?_
 refine cV TT_ok 42 (fun _=>cOp x) rfl rfl rfl rfl rfl rfl rfl (fun j hj=>by rcases j with _ | j <;>first | rfl | omega) (mu1:=[]) rfl rfl rfl ?_
 refine aN ?_
 refine cU TT_ok 20 42 43 rfl rfl rfl rfl rfl rfl rfl rfl rfl rfl rfl rfl ⟨by show (l2.length+1) * 40≤_;omega,by unfold maxL;omega⟩ ?_
 refine aN ?_
 refine bC (bL 20 43) ?_
 exact bN (l2 ++ [x],id2,m - 1,i3,i4) ⟨by simp;omega,by dsimp only;omega,by dsimp only;omega,u3,u4⟩ (by dsimp only;omega) wF ⟨⟨_,rfl,aS rfl⟩,wM⟩
end
section
theorem QV (a b:Int):Ans Tryz.prog 83 [] [vI a,vI b] [] (vI (bif decide (a<b) then a else b)):=by
 refine aE Tryz.func83 fun B0 r_ D_ w0=>?_
 refine aF ?_
 refine aI (fun e=>?_) (fun e=>?_)
 ·refine aF ?_
  exact dK TT_ok [(4,none)] rfl rfl ((by rw [decide_eq_true e];rfl))
 ·refine aF ?_
  exact dK TT_ok [(4,none)] rfl rfl ((by rw [decide_eq_false e];rfl))
def spL (m r:Nat):List Int:=(List.range (min m 3)).map fun k=>((r:Int)+(k:Nat)).tmod m
def spP (m r:Nat):GPlace:=⟨spL m r⟩
def gF (n m:Nat):List GPlace:=(List.range n).map (spP m)
theorem oI {α:Type} (f:Nat→α) (i:Nat):(List.range (i+1)).map f=(List.range i).map f ++ [f i]:=by rw [List.range_succ,List.map_append];rfl
theorem NN (n m:Nat) (hn:1≤n∧n≤6) (hm:1≤m∧m≤8):Con Tryz.prog 95 [] [vI n,vI m] [] (fun _:Unit=>True) (fun _=>[.a (.g 900),vB true]) fun _=>[(900,bE 1 cE aCi (gF n m))]:=by
 refine aE Tryz.func95 fun B0 r_ D_ w0=>?_
 refine aF ?_
 refine aH (eA _ _ _) ?_
 refine aH (eA _ _ _) ?_
 rw [show inB (n:Int) 1 6=true from b6.2 (by omega),show inB (m:Int) 1 8=true from b6.2 (by omega)]
 refine bX rfl (fun e=>by cases e) (fun _=>?_)
 refine aF ?_
 refine aM 19 (fun i=>cE (([]:List GPlace).getD i aCi)) (fun i hi=>absurd hi (Nat.not_lt_zero _)) (mu1:=[]) ?_
 refine aN ?_
 refine aK (ι:=Nat) (fun i=>[(7,vI i),(6, .a (.g 19))]) (fun i=>[(19,bE 1 cE aCi ((List.range i).map (spP m)))]) (fun i=>i≤n) (fun i=>n - i) 0 [19] [19] (Nat.zero_le _) ?_
 intro i h1
 have hl1:((List.range i).map (spP m)).length=i:=by simp
 refine aF ?_
 refine aI (fun e=>?_) (fun e=>?_)
 ·have hi:i<n:=by omega
  refine aF ?_
  refine bB (a5 8 0 1 (fun i=>bS (([]:List Int).getD i 0))) ?_
  refine bB (a6 8 0 50) ?_
  refine aK (ι:=Nat) (fun k=>[(9,vI k)]) (fun k=>[(50,bE 1 bS 0 ((List.range k).map fun k=>((i:Int)+(k:Nat)).tmod m)),(8, .row [.g 50])]) (fun k=>k≤min m 3) (fun k=>min m 3 - k) 0 [50,8] [50] (Nat.zero_le _) ?_
  intro k h2
  have hl2:((List.range k).map fun k=>((i:Int)+(k:Nat)).tmod m).length=k:=by simp
  refine aF ?_
  refine aH (QV _ _) ?_
  refine aI (fun e2=>?_) (fun e2=>?_)
  ·have hk:k<min m 3:=by
    by_cases c:(m:Int)<3
    ·rw [decide_eq_true c] at e2;simp at e2;omega
    ·rw [decide_eq_false c] at e2;simp at e2;omega
   refine aF ?_
   refine aW [50] [0,1,2,3,4,5,6,7,8,9,10] fun B0 H0=>?_
   refine bG 7 rfl (by kernel_rfl) (dV TT_ok 39 (fun _=>bS (((i:Int)+(k:Nat)).tmod m)) rfl rfl rfl rfl rfl rfl rfl (fun j hj=>by rcases j with _ | j <;>first | rfl | omega) (mu1:=[]) rfl rfl rfl (bD ?_))
   refine bG 8 rfl (by kernel_rfl) (dM TT_ok 50 39 40 rfl rfl rfl rfl rfl rfl rfl rfl rfl rfl rfl rfl ⟨by show (((List.range k).map fun k=>((i:Int)+(k:Nat)).tmod m).length+1) * 8≤_;omega,by unfold maxL;omega⟩ (bD ?_))
   refine aY [9,10] ?_
   refine dR 10 rfl (by kernel_rfl) (by kernel_rfl) (aV (eJ [] fun B0 H0=>?_))
   refine aP ?_
   refine bC (bL 50 40) ?_
   exact bN (k+1) hk (by omega) wF ⟨⟨_,rfl,aS (x:=((i:Int)+(k:Nat)).tmod m) (oI _ k)⟩,wM⟩
  have hk:k=min m 3:=by
   by_cases c:(m:Int)<3
   ·rw [decide_eq_true c] at e2;simp at e2;omega
   ·rw [decide_eq_false c] at e2;simp at e2;omega
  subst hk
  refine aF ?_
  refine cV TT_ok 44 (fun _=>cE (spP m i)) rfl rfl rfl rfl rfl rfl rfl (fun i hi=>by rcases i with _ | i <;>first | rfl | omega) (mu1:=[(50, .arr 0 0 fun _=>[])]) rfl rfl rfl ?_
  refine aN ?_
  refine cU TT_ok 19 44 45 rfl rfl rfl rfl rfl rfl rfl rfl rfl rfl rfl rfl ⟨by show (((List.range i).map (spP m)).length+1) * 24≤_;omega,by unfold maxL;omega⟩ ?_
  refine aN ?_
  refine bC (bL 19 45) ?_
  exact bN (i+1) hi (by omega) wF ⟨⟨_,rfl,aS (x:=spP m i) (oI _ i)⟩,wM⟩
 have hi:i=n:=by omega
 subst hi
 refine aF ?_
 refine bB (bL 19 900) ?_
 refine aC (()) [(4,none),(5,none)] ?_ ?_ ?_
 ·exact aCu _
 ·exact wM
 ·trivial
end
section
def cells0:List GCell:=List.replicate 6 aCo
def PS (m r:Nat) (i:Int):Bool:=decide (i ∈ spL m r)
def i9 (m:Nat) (i:Int) (r:Nat):List GCopy:=((List.range r).filter fun r=>PS m r i).map fun (r:Nat)=>⟨r,cells0⟩
def oT (n m:Nat) (i:Nat):GMachine:=⟨true,i9 m i n,[],[]⟩
def gQ (n m:Nat):GCluster:=⟨1,0,gF n m,(List.range m).map (oT n m),[],false⟩
def eC (a b:Int):GCluster×Bool:=bif (bif !inB a 1 6 then true else !inB b 1 8) then (aCl,false) else (gQ a.toNat b.toNat,true)
theorem yU (m:Nat) (i:Int) (r:Nat):i9 m i (r+1)=if PS m r i then i9 m i r ++ [⟨r,cells0⟩] else i9 m i r:=by
 unfold i9
 rw [List.range_succ,List.filter_append,List.map_append]
 by_cases h:PS m r i
 ·rw [if_pos h];simp [h]
 ·rw [if_neg h];simp [h]
theorem I7 (m:Nat) (i:Int) (r:Nat):(i9 m i r).length≤r:=by
 unfold i9
 rw [List.length_map]
 exact Nat.le_trans (List.length_filter_le _ _) (by simp)
theorem CA:MkL Tryz.prog 43 [] 2 cX aCo cells0:=by
 refine aE Tryz.func43 fun B0 r_ D_ w0=>?_
 refine aF ?_
 refine aBC TT_ok 900 6 rfl rfl rfl rfl rfl rfl rfl ⟨by decide,by decide⟩ ?_
 refine aN ?_
 refine aC (()) [(0,none)] ?_ ?_ ?_
 ·exact aCu _
 ·exact ⟨⟨_,rfl,Ch.imp_len rfl fun i hi=>by
   have:cells0.getD i aCo=aCo:=by
    have h:i<6:=hi
    rcases i with _ | _ | _ | _ | _ | _ | i <;>first | rfl | omega
   rw [this];rfl⟩,trivial⟩
 ·trivial
theorem J6 (a b:Int) (h:(bif !inB a 1 6 then true else !inB b 1 8)=true):Con Tryz.prog 95 [] [vI a,vI b] [] (fun _:Unit=>True) (fun _=>[.a (.g 900),vB false]) fun _=>[(900,bE 1 cE aCi [])]:=by
 refine aE Tryz.func95 fun B0 r_ D_ w0=>?_
 refine aF ?_
 refine aH (eA _ _ _) ?_
 refine aH (eA _ _ _) ?_
 rw [h]
 refine bX rfl (fun _=>?_) (fun e=>by cases e)
 refine aF ?_
 refine aM 900 (fun i=>cE (([]:List GPlace).getD i aCi)) (fun i hi=>absurd hi (Nat.not_lt_zero _)) (mu1:=[]) ?_
 refine aN ?_
 refine aC (()) [(4,none),(5,none)] ?_ ?_ ?_
 ·exact aCu _
 ·exact wM
 ·trivial
theorem wB {n m r:Nat} (h:r<n):(gF n m).getD r aCi=spP m r:=by simp [gF,h]
theorem C2 (n m:Nat) (hn:1≤n∧n≤6) (hm:1≤m∧m≤8):O2 Tryz.prog 33 [vI n,vI m] (gQ n m) true:=by
 have hsl:(gF n m).length=n:=by simp [gF]
 refine aE Tryz.func33 fun B0 r_ D_ w0=>?_
 refine aF ?_
 refine aR (aCv 900 901 (NN n m hn hm)) fun _ _=>?_
 refine aN ?_
 refine bX rfl (fun e=>by cases e) (fun _=>?_)
 refine aF ?_
 refine bB (a5 8 3 4 (fun i=>bJ (([]:List GMachine).getD i aCj))) ?_
 refine bB (a6 8 3 60) ?_
 refine aK (ι:=Nat) (fun i=>[(9,vI i)]) (fun i=>[(60,bE 4 bJ aCj ((List.range i).map (oT n m))),(8, .row [.v (.int .i64 1), .v (.int .i64 0), .g 901, .g 60,lU, .v (.bool false)])]) (fun i=>i≤m) (fun i=>m - i) 0 [60,8] [60] (Nat.zero_le _) ?_
 intro i h1
 have hl1:((List.range i).map (oT n m)).length=i:=by simp
 refine aF ?_
 refine aI (fun e=>?_) (fun e=>?_)
 ·have hi:i<m:=by omega
  refine aF ?_
  refine bB (a5 10 1 2 (fun i=>dA (([]:List GCopy).getD i aCp))) ?_
  refine bB (a6 10 1 70) ?_
  refine aK (ι:=Nat) (fun r=>[(11,vI r)]) (fun r=>[(70,bE 2 dA aCp (i9 m i r)),(10, .row [.v (.bool true), .g 70,lU,lU])]) (fun r=>r≤n) (fun r=>n - r) 0 [70,10] [70] (Nat.zero_le _) ?_
  intro r h2
  have hl2:=I7 m i r
  refine aF ?_
  refine aI (fun e2=>?_) (fun e2=>?_)
  ·have hr:r<n:=by omega
   refine aF ?_
   refine l4 TT_ok (mW ((gF n m).getD r aCi).machines (by rw [wB hr];simp [spP,spL];omega) _) rfl rfl rfl rfl rfl ?_
   rw [wB hr]
   refine aA (b:=PS m r i) (fun e3=>?_) (fun e3=>?_)
   ·refine aF ?_
    refine aW [70] [0,1,2,3,4,5,6,7,8] fun B0 H0=>?_
    refine aX 3 (aCv 900 44 CA) fun _ _=>?_
    refine aY [4,5,6,7,8] ?_
    refine bG 5 rfl (by kernel_rfl) (dV TT_ok 46 (fun _=>dA ⟨r,cells0⟩) rfl rfl rfl rfl rfl rfl rfl (fun j hj=>by rcases j with _ | j <;>first | rfl | omega) (mu1:=[(44, .arr 0 0 fun _=>[])]) rfl rfl rfl (bD ?_))
    refine bG 6 rfl (by kernel_rfl) (dM TT_ok 70 46 47 rfl rfl rfl rfl rfl rfl rfl rfl rfl rfl rfl rfl ⟨by show ((i9 m i r).length+1) * 32≤_;omega,by unfold maxL;omega⟩ (bD ?_))
    refine aY [7,8] ?_
    refine dR 8 rfl (by kernel_rfl) (by kernel_rfl) (aV (eJ [] fun B0 H0=>?_))
    refine aP ?_
    refine bC (bL 70 47) ?_
    exact bN (r+1) hr (by omega) wF ⟨⟨_,rfl,fJ (x:=(⟨r,cells0⟩:GCopy)) (by rw [yU,if_pos e3]) rfl⟩,wM⟩
   ·refine aF ?_
    exact bN (r+1) hr (by omega) wF ⟨⟨_,rfl,bP (by rw [yU,if_neg (by rw [e3];simp)])⟩,wM⟩
  have hr:r=n:=by omega
  subst hr
  refine aF ?_
  refine cV TT_ok 52 (fun _=>[dB true,dL 2 dA aCp (i9 m i r), .v (.slice none 0 0), .v (.slice none 0 0)]) rfl rfl rfl rfl rfl rfl rfl (fun i hi=>by rcases i with _ | i <;>first | rfl | omega) (mu1:=[(70, .arr 0 0 fun _=>[])]) rfl rfl rfl ?_
  refine aN ?_
  refine cU TT_ok 60 52 53 rfl rfl rfl rfl rfl rfl rfl rfl rfl rfl rfl rfl ⟨by show (((List.range i).map (oT r m)).length+1) * 80≤_;omega,by unfold maxL;omega⟩ ?_
  refine aN ?_
  refine bC (bL 60 53) ?_
  exact bN (i+1) hi (by omega) wF ⟨⟨_,rfl,wS (x:=oT r m i) (oI _ i) (OwnI.c (OwnI.c (OwnI.n (OwnI.n OwnI.e))))⟩,wM⟩
 have hi:i=m:=by omega
 subst hi
 refine aF ?_
 refine bB (bL 60 902) ?_
 refine bB (a5 4 4 7 (fun i=>cTx (([]:List GTx).getD i aCk))) ?_
 refine bB (a6 4 4 903) ?_
 refine aC (()) [(4,some 28),(5,none)] ?_ ?_ ?_
 ·exact aCu _
 ·exact wM
 ·trivial
theorem xE (a b:Int):O2 Tryz.prog 33 [vI a,vI b] (eC a b).1 (eC a b).2:=by
 cases h:(bif !inB a 1 6 then true else !inB b 1 8) with
 | true =>
  rw [show eC a b=(aCl,false) from by unfold eC;rw [h];rfl]
  refine aE Tryz.func33 fun B0 r_ D_ w0=>?_
  refine aF ?_
  refine aR (aCv 900 6001 (J6 a b h)) fun _ _=>?_
  refine aN ?_
  refine bX rfl (fun _=>?_) (fun e=>by cases e)
  refine aF ?_
  refine bB (a5 4 2 1 (fun i=>cE (([]:List GPlace).getD i aCi))) ?_
  refine bB (a5 4 3 4 (fun i=>bJ (([]:List GMachine).getD i aCj))) ?_
  refine bB (a5 4 4 7 (fun i=>cTx (([]:List GTx).getD i aCk))) ?_
  refine bB (a6 4 2 901) ?_
  refine bB (a6 4 3 902) ?_
  refine bB (a6 4 4 903) ?_
  refine aC (()) [(4,some 28),(5,none)] ?_ ?_ ?_
  ·exact aCu _
  ·exact wM
  ·trivial
 | false =>
  have h1:inB a 1 6=true∧inB b 1 8=true:=by
   cases c1:inB a 1 6 <;>cases c2:inB b 1 8 <;>simp [c1,c2] at h ⊢
  have h2:=b6.1 h1.1
  have h3:=b6.1 h1.2
  rw [show eC a b=(gQ a.toNat b.toNat,true) from by unfold eC;rw [h];rfl]
  obtain ⟨n,rfl⟩:∃ n:Nat,a=n:=⟨a.toNat,by omega⟩
  obtain ⟨m,rfl⟩:∃ m:Nat,b=m:=⟨b.toNat,by omega⟩
  exact C2 n m (by omega) (by omega)
end
section
abbrev roC {α:Type} (sz:Nat) (enc:α→List D) (z:α) (xs:List α):Ch := .ro sz xs.length fun i=>enc (xs.getD i z)
theorem fG {l:List V}:∀ B r h s j,Ch.sat B r h j (.rrow l)→r.le s→h.le s→Ch.sat B s PH.emp j (.rrow l):=fun B r h s j ⟨b,o,vs,e1,e2,e4⟩ lr _ =>
 ⟨b,o,vs,e1,V.rels_mono (fun q=>AQ lr (fun _=>PH.le_refl _) q) e2,fun i hi=>by
  have h1:=e4 i hi
  have h2:i<vs.length:=by have:=V.rels_length e2;omega
  rw [List.getElem?_eq_getElem h2] at h1 ⊢
  exact lr _ _ _ h1⟩
abbrev bT (c:GCluster) (id:Int):GTx:=c.txs.getD (bQ c id).toNat aCk
abbrev jE (c:GCluster) (id:Int):Bool:=(c.machines.getD (bT c id).home.toNat aCj).alive
def gC (c:GCluster) (id:Int):Int:=bif decide (bQ c id<0) then 2 else bif !jE c id then 3 else 0
def dG (c:GCluster) (id:Int):Int:=bif decide (bQ c id<0) then 2 else bif !jE c id then 3 else bif !((bT c id).phase == 1) then 4 else 0
theorem ClusOk.home {c:GCluster} (h:ClusOk c) {i:Nat} (hi:i<c.txs.length):0≤(c.txs.getD i aCk).home∧(c.txs.getD i aCk).home<c.machines.length:=by
 have h1:=(h.tx hi).1.2.1
 have h2:=(h.2.2.2.2 i hi).1
 unfold l0 at h2
 refine ⟨h1.1,?_⟩
 by_cases c1:(c.txs.getD i aCk).home<c.machines.length
 ·exact c1
 ·rw [decide_eq_true (show (c.txs.getD i aCk).home ≥ (c.machines.length:Int) by omega)] at h2
  simp at h2
open Classical in
noncomputable def jH (c:GCluster) (id:Int):Int×Int:=if ClusOk c then (if dG c id=0 then (bQ c id,0) else (-1,dG c id)) else (-1,1)
theorem yW (c:GCluster) (hb:D.bds dJ (bO c)) (id:Int):Con Tryz.prog 123 [] [vR (bO c),vI id] [] (fun _:Unit=>True) (fun _=>[vI (jH c id).1,vI (jH c id).2]) fun _=>[]:=by
 have b3:c.txs.length≤1048576:=hb.2.2.2.2.1.1
 refine aE Tryz.func123 fun B0 r_ D_ w0=>?_
 refine aT ?_
 refine aU 2 fun r_=>?_
 refine aF ?_
 refine aH (d5 c hb) ?_
 refine eF rfl (fun e=>?_) (fun e=>?_)
 ·rw [show jH c id=(-1,1) from if_neg (jN.1 e)]
  refine aF ?_
  refine aC (()) [(4,none),(5,none)] ?_ ?_ ?_
  ·exact aCu _
  ·trivial
  ·trivial
 have hok:=c9.1 e
 have hR:jH c id=if dG c id=0 then (bQ c id,0) else (-1,dG c id):=if_pos hok
 refine aF ?_
 refine aH (vO c b3 id) ?_
 refine aI (fun e1=>?_) (fun e1=>?_)
 ·have h:dG c id=2:=by unfold dG;rw [decide_eq_true e1];rfl
  rw [show jH c id=(-1,dG c id) from by rw [hR,if_neg (by rw [h];decide)],h]
  refine aF ?_
  refine aC (()) [(4,none),(5,none)] ?_ ?_ ?_
  ·exact aCu _
  ·trivial
  ·trivial
 have hin:=dW (c:=c) (id:=id) (by omega)
 have hlt:=gO (c:=c) (id:=id)
 have hh:=hok.home hin.1
 refine aF ?_
 refine aW [] [0,1,2,3,4,5,6,7,8,9,10,11,12] fun B0 H0=>?_
 refine aP ?_
 refine aA (b := !jE c id) (fun e2=>?_) (fun e2=>?_)
 ·have h:dG c id=3:=by unfold dG;rw [decide_eq_false e1,e2];rfl
  rw [show jH c id=(-1,dG c id) from by rw [hR,if_neg (by rw [h];decide)],h]
  refine aF ?_
  refine aC (()) [(4,none),(5,none)] ?_ ?_ ?_
  ·exact aCu _
  ·trivial
  ·trivial
 refine aF ?_
 refine aA (b := !((bT c id).phase == 1)) (fun e3=>?_) (fun e3=>?_)
 ·have h:dG c id=4:=by unfold dG;rw [decide_eq_false e1,e2,e3];rfl
  rw [show jH c id=(-1,dG c id) from by rw [hR,if_neg (by rw [h];decide)],h]
  refine aF ?_
  refine aC (()) [(4,none),(5,none)] ?_ ?_ ?_
  ·exact aCu _
  ·trivial
  ·trivial
 have h:dG c id=0:=by unfold dG;rw [decide_eq_false e1,e2,e3];rfl
 rw [show jH c id=(bQ c id,0) from by rw [hR,if_pos h]]
 refine aF ?_
 refine aC (()) [(4,none),(5,none)] ?_ ?_ ?_
 ·exact aCu _
 ·trivial
 ·trivial
theorem jS {c:GCluster} {id:Int} (h:dG c id=0):gC c id=0∧(bT c id).phase=1∧0≤bQ c id:=by
 unfold dG at h
 unfold gC
 by_cases hf:bQ c id<0
 ·rw [decide_eq_true hf] at h;cases h
 ·rw [decide_eq_false hf] at h ⊢
  cases h2:jE c id with
  | false=>rw [h2] at h;cases h
  | true =>
   rw [h2] at h
   refine ⟨rfl,?_,by omega⟩
   cases h3:(bT c id).phase == 1 with
   | true=>simpa using h3
   | false=>rw [h3] at h;cases h
def goT (t:GTx):GTx:={ t with phase:=2,done:=0 }
noncomputable def goC (c:GCluster) (id:Int):GCluster:={ c with txs:=c.txs.set (bQ c id).toNat (goT (bT c id)) }
open Classical in
noncomputable def eP (c:GCluster) (id:Int):GCluster×Int:=if ClusOk c then (if dG c id=0 then (goC c id,0) else (c,dG c id)) else (aCl,1)
theorem w7 (c:GCluster) (hb:D.bds dJ (bO c)) (id:Int):vQ Tryz.prog 55 [vR (bO c),vI id] (eP c id).1 (eP c id).2:=by
 have b3:c.txs.length≤1048576:=hb.2.2.2.2.1.1
 refine aE Tryz.func55 fun B0 r_ D_ w0=>?_
 refine aT ?_
 refine aU 2 fun r_=>?_
 refine aF ?_
 refine aR (yW c hb id) fun _ _=>?_
 refine aN ?_
 by_cases hok:ClusOk c
 ·by_cases h0:dG c id=0
  ·rw [show eP c id=(goC c id,0) from by unfold eP;rw [if_pos hok,if_pos h0]]
   have hge:=(jS h0).2.2
   have hlt:=gO (c:=c) (id:=id)
   have hin:=dW hge
   rw [show jH c id=(bQ c id,0) from by unfold jH;rw [if_pos hok,if_pos h0]]
   refine bX rfl (fun e=>by cases e) (fun _=>?_)
   refine aF ?_
   refine aR (aCv 901 6001 (aCv 902 6002 (aCv 903 6003 (fY c hb)))) (fun _ _=>?_)
   refine eY (d6 6003 (bQ c id) 77 rfl rfl rfl rfl rfl rfl ⟨hge,hlt⟩) ?_
   refine aN ?_
   refine eY (kL 28 rfl rfl rfl) ?_
   refine aN ?_
   refine eY (kL 33 rfl rfl rfl) ?_
   refine aN ?_
   refine bB (a8 6003 77) ?_
   refine bB (bL 6001 901) ?_
   refine bB (bL 6002 902) ?_
   refine bB (bL 6003 903) ?_
   refine aC (()) [(4,some 28),(5,none)] ?_ ?_ ?_
   ·exact aCu _
   ·exact ⟨⟨_,rfl,aCt _⟩,⟨_,rfl,aCt _⟩,⟨_,rfl,cG (OwnI.refl _)⟩,trivial⟩
   ·trivial
  ·rw [show eP c id=(c,dG c id) from by unfold eP;rw [if_pos hok,if_neg h0]]
   rw [show jH c id=(-1,dG c id) from by unfold jH;rw [if_pos hok,if_neg h0]]
   refine bX (b := !(dG c id == 0)) rfl (fun e=>?_) (fun e=>absurd (by simpa using e) h0)
   refine aF ?_
   have h1:dG c id≠1:=by
    unfold dG
    cases decide (bQ c id<0) <;>cases jE c id <;>cases (bT c id).phase == 1 <;>decide
   refine aR (mK c hb (dG c id) h1) fun _ _=>?_
   refine aN ?_
   refine aC (()) [(4,some 28),(5,none)] ?_ ?_ ?_
   ·exact aCu _
   ·exact wM
   ·trivial
 ·rw [show eP c id=(aCl,1) from if_neg hok]
  rw [show jH c id=(-1,1) from if_neg hok]
  refine bX rfl (fun _=>?_) (fun e=>by cases e)
  refine aF ?_
  refine aR (tA c) fun _ _=>?_
  refine aN ?_
  refine aC (()) [(4,some 28),(5,none)] ?_ ?_ ?_
  ·exact aCu _
  ·exact wM
  ·trivial
end
section
theorem OU {n:Nat} {β:Nat→Int} (hn:n≤1048576) (hβ:eS β) (i h:Int) (h1:0≤i) (h2:i≤n):zE Tryz.prog 256 [] n β i h (fun _:Int=>True) vI:=by
 refine aE Tryz.func256 fun B0 r_ D_ w0=>?_
 refine aF ?_
 refine aR (d9 hn hβ i h h1 h2 10) fun a ⟨a1,a2,a3⟩=>?_
 refine aN ?_
 refine aA (fun _=>?_) (fun _=>?_)
 ·refine aF ?_
  refine cV TT_ok 50 (fun i=>bS (([-1,0,4000003,4000004,4000000,4611686018427387904, -9223372036854775808]:List Int).getD i 0)) rfl rfl rfl rfl rfl rfl rfl (fun i hi=>by rcases i with _ | _ | _ | _ | _ | _ | _ | i <;>first | rfl | omega) (mu1:=[]) rfl rfl rfl ?_
  refine aN ?_
  refine aR (bR hn hβ a.2.1 a.2.2 a2 a3 7) fun z ⟨z1,z2,z3⟩=>?_
  refine aN ?_
  refine aC ((([-1,0,4000003,4000004,4000000,4611686018427387904, -9223372036854775808]:List Int).getD z.1.toNat 0,z.2.1,z.2.2)) [(2,none)] ?_ ?_ ?_
  ·exact aCu _
  ·exact wM
  ·exact ⟨trivial,z2,z3⟩
 ·refine aF ?_
  refine aR (bR hn hβ a.2.1 a.2.2 a2 a3 60) fun z ⟨z1,z2,z3⟩=>?_
  refine aN ?_
  refine aC (z) [(2,none)] ?_ ?_ ?_
  ·exact aCu _
  ·exact wM
  ·exact ⟨trivial,z2,z3⟩
theorem N0 {n:Nat} {β:Nat→Int} (hn:n≤1048576) (hβ:eS β) (i h:Int) (h1:0≤i) (h2:i≤n) (r0:Int) (hr : -1000000≤r0∧r0≤1000000):Con Tryz.prog 255 [700,701] [.a (.p 700 0),vI r0] (xB n β i h) (fun y:List GSet×Int×Int=>y.1.length≤7∧0≤y.2.1∧y.2.1≤n) (fun _=>[.a (.g 900)]) fun y=>[(700,dE y.2.1 y.2.2),(900,bE 5 cP aCm y.1)]:=by
 refine aE Tryz.func255 fun B0 r_ D_ w0=>?_
 refine aF ?_
 refine aM 20 (fun i=>cP (([]:List GSet).getD i aCm)) (fun i hi=>absurd hi (Nat.not_lt_zero _)) (mu1:=[]) ?_
 refine aN ?_
 refine aK (ι:=List GSet×Nat×Int×Int) (fun y=>[(5, .a (.g 20)),(6,vI y.2.1)]) (fun y=>[(20,bE 5 cP aCm y.1),(700,dE y.2.2.1 y.2.2.2)]) (fun y=>y.1.length≤y.2.1∧y.2.1≤6∧0≤y.2.2.1∧y.2.2.1≤n) (fun y=>6 - y.2.1) ([],0,i,h) [20,700] [20] ⟨Nat.le_refl _,Nat.zero_le _,h1,h2⟩ ?_
 rintro ⟨l,m,i1,i2⟩ ⟨q1,q2,q3,q4⟩
 dsimp only at q1 q2 q3 q4 ⊢
 refine aF ?_
 refine aI (fun e=>?_) (fun e=>?_)
 ·have hm:m<6:=by omega
  refine aF ?_
  refine aR (d9 hn hβ i1 i2 q3 q4 3) fun a ⟨a1,a2,a3⟩=>?_
  refine aN ?_
  refine aA (fun _=>?_) (fun _=>?_)
  rotate_left
  ·refine aF ?_
   exact aL (l,m+1,a.2.1,a.2.2) ⟨Nat.le_succ_of_le q1,hm,a2,a3⟩ (by dsimp only;omega)
  refine aF ?_
  refine aR (rP hn hβ a.2.1 a.2.2 a2 a3 r0 hr) fun y ⟨y1,y2,y3⟩=>?_
  refine aN ?_
  refine aH (r7 _) ?_
  refine a7 (ι:=GSet) (fun _=>[]) (fun x=>[(7, .row (rowS x))]) (fun _=>True) [7] [] ?_ ?_
  ·refine aA (fun _=>?_) (fun _=>?_)
   ·refine aF ?_
    exact aL ⟨y.1.region,(m:Int),y.1.value,y.1.used,y.1.version⟩ trivial Nat.zero_lt_one
   ·refine aF ?_
    exact aL y.1 trivial Nat.zero_lt_one
  rintro x _
  refine aZ ?_
  refine cV TT_ok 25 (fun _=>cP x) rfl rfl rfl rfl rfl rfl rfl (fun j hj=>by rcases j with _ | j <;>first | rfl | omega) (mu1:=[]) rfl rfl rfl ?_
  refine aN ?_
  refine cU TT_ok 20 25 26 rfl rfl rfl rfl rfl rfl rfl rfl rfl rfl rfl rfl ⟨by show (l.length+1) * 40≤_;omega,by unfold maxL;omega⟩ ?_
  refine aN ?_
  refine bC (bL 20 26) ?_
  exact bN (l ++ [x],m+1,y.2.1,y.2.2) ⟨by simp;omega,hm,y2,y3⟩ (by dsimp only;omega) wF ⟨⟨_,rfl,aS rfl⟩,wM⟩
 ·refine aF ?_
  refine aR (d9 hn hβ i1 i2 q3 q4 20) fun a ⟨a1,a2,a3⟩=>?_
  refine aN ?_
  refine aA (fun e2=>?_) (fun _=>?_)
  ·have hl1:(1:Int)<l.length:=by
    revert e2
    cases a.1
    ·intro e2;cases e2
    ·intro e2;exact of_decide_eq_true e2
   refine aF ?_
   refine cV TT_ok 38 (fun _=>cP (l.getD 0 aCm)) rfl rfl rfl rfl rfl rfl rfl (fun j hj=>by rcases j with _ | j <;>first | rfl | omega) (mu1:=[]) rfl rfl rfl ?_
   refine aN ?_
   refine cU TT_ok 20 38 39 rfl rfl rfl rfl rfl rfl rfl rfl rfl rfl rfl rfl ⟨by show (l.length+1) * 40≤_;omega,by unfold maxL;omega⟩ ?_
   refine aN ?_
   refine bB (bL 39 900) ?_
   refine aC ((l ++ [l.getD 0 aCm],a.2.1,a.2.2)) [(4,none)] ?_ ?_ ?_
   ·exact aCu _
   ·exact ⟨⟨_,rfl,aCt _⟩,⟨_,rfl,aS rfl⟩,trivial⟩
   ·exact ⟨by simp;omega,a2,a3⟩
  ·refine aF ?_
   refine bB (bL 20 900) ?_
   refine aC ((l,a.2.1,a.2.2)) [(4,none)] ?_ ?_ ?_
   ·exact aCu _
   ·exact wM
   ·exact ⟨by dsimp only;omega,a2,a3⟩
abbrev agR (r:GRecord) (k:Nat):SV := .ag [.v (.int .i64 r.kind), .v (.int .i64 r.tx), .v (.int .i64 r.region), .g k]
abbrev rowR (r:GRecord) (k:Nat):List V:=[.v (.int .i64 r.kind), .v (.int .i64 r.tx), .v (.int .i64 r.region), .g k]
theorem O7 {n:Nat} {β:Nat→Int} (hn:n≤1048576) (hβ:eS β) (i h:Int) (h1:0≤i) (h2:i≤n):Con Tryz.prog 198 [700,701] [.a (.p 700 0)] (xB n β i h) (fun y:GRecord×Int×Int=>y.1.sets.length≤7∧0≤y.2.1∧y.2.1≤n) (fun y=>[agR y.1 901]) fun y=>[(700,dE y.2.1 y.2.2),(901,bE 5 cP aCm y.1.sets)]:=by
 refine aE Tryz.func198 fun B0 r_ D_ w0=>?_
 refine aF ?_
 refine aR (bR hn hβ i h h1 h2 3) fun a ⟨a1,a2,a3⟩=>?_
 refine aN ?_
 refine aR (bR hn hβ a.2.1 a.2.2 a2 a3 9) fun b ⟨b1,b2,b3⟩=>?_
 refine aN ?_
 refine aR (bR hn hβ b.2.1 b.2.2 b2 b3 3) fun c ⟨c1,c2,c3⟩=>?_
 refine aN ?_
 refine cO (nk:=[700,41]) TT_ok (aCv 900 41 (N0 hn hβ c.2.1 c.2.2 c2 c3 c.1 (by omega))) rfl rfl (aCu _) (fun _=>rfl) rfl rfl rfl fun y ⟨y1,y2,y3⟩=>?_
 refine YQ TT_ok rfl ?_
 refine zS ?_
 refine a7 (ι:=List GSet×Int×Int) (fun _=>[]) (fun z=>[(3, .row (rowR ⟨1+a.1,1+b.1,c.1,[]⟩ 41)),(41,bE 5 cP aCm z.1),(700,dE z.2.1 z.2.2)]) (fun z=>z.1.length≤7∧0≤z.2.1∧z.2.1≤n) [3,41,700] [41] ?_ ?_
 ·by_cases hl:y.1.length=0
  ·have hz:((y.1.length:Int) == 0)=true:=by rw [hl];rfl
   refine aF ?_
   refine cO TT_ok (d9 hn hβ y.2.1 y.2.2 y2 y3 6) rfl rfl (aCu _) (fun _=>rfl) rfl rfl rfl (fun z ⟨z1,z2,z3⟩=>?_) (hg:=⟨rfl,congrArg (fun x=>some (vB x)) hz⟩)
   refine aN ?_
   rw [hz]
   refine aA (fun _=>?_) (fun _=>?_)
   ·refine aF ?_
    refine cV TT_ok 30 (fun _=>cP ⟨c.1,2,7,true,1⟩) rfl rfl rfl rfl rfl rfl rfl (fun j hj=>by rcases j with _ | j <;>first | rfl | omega) (mu1:=[]) rfl rfl rfl ?_
    refine aN ?_
    refine bC (bL 41 30) ?_
    exact bN ([⟨c.1,2,7,true,1⟩],z.2.1,z.2.2) ⟨by simp,z2,z3⟩ Nat.zero_lt_one wF ⟨⟨_,rfl,aCt _⟩,⟨_,rfl,Ch.imp_arr fun j hj=>by rcases j with _ | j <;>first | rfl | omega⟩,wM⟩
   ·refine aF ?_
    exact aL (y.1,z.2.1,z.2.2) ⟨y1,z2,z3⟩ Nat.zero_lt_one
  ·have hz:((y.1.length:Int) == 0) = !true:=by simpa using hl
   refine aF ?_
   refine lK (vB true) rfl rfl rfl rfl (hz) rfl rfl ?_
   refine aN ?_
   rw [hz]
   refine bX rfl (fun e=>by cases e) (fun _=>?_)
   refine aF ?_
   exact aL (y.1,y.2.1,y.2.2) ⟨y1,y2,y3⟩ Nat.zero_lt_one
 rintro ⟨s,i3,i4⟩ ⟨u1,u2,u3⟩
 dsimp only at u1 u2 u3 ⊢
 refine aZ ?_
 refine aR (d9 hn hβ i3 i4 u2 u3 14) fun d ⟨d1,d2,d3⟩=>?_
 refine aN ?_
 refine a7 (ι:=GRecord×Int×Int) (fun _=>[]) (fun z=>[(3, .row (rowR z.1 41)),(41,bE 5 cP aCm z.1.sets),(700,dE z.2.1 z.2.2)]) (fun z=>z.1.sets.length≤7∧0≤z.2.1∧z.2.1≤n) [3,41,700] [41] ?_ ?_
 ·refine aA (fun _=>?_) (fun _=>?_)
  rotate_left
  ·refine aF ?_
   exact aL (⟨1+a.1,1+b.1,c.1,s⟩,d.2.1,d.2.2) ⟨u1,d2,d3⟩ Nat.zero_lt_one
  refine aF ?_
  refine aR (bR hn hβ d.2.1 d.2.2 d2 d3 3) fun g ⟨g1,g2,g3⟩=>?_
  refine aN ?_
  refine aA (fun _=>?_) (fun _=>?_)
  ·refine aF ?_
   refine cV TT_ok 50 (fun i=>bS (([0,4, -9223372036854775808]:List Int).getD i 0)) rfl rfl rfl rfl rfl rfl rfl (fun i hi=>by rcases i with _ | _ | _ | i <;>first | rfl | omega) (mu1:=[]) rfl rfl rfl ?_
   refine aN ?_
   refine aR (bR hn hβ g.2.1 g.2.2 g2 g3 3) fun z ⟨z1,z2,z3⟩=>?_
   refine aN ?_
   exact aL (⟨(([0,4, -9223372036854775808]:List Int).getD z.1.toNat 0),1+b.1,c.1,s⟩,z.2.1,z.2.2) ⟨u1,z2,z3⟩ Nat.zero_lt_one
  refine aF ?_
  refine aA (fun _=>?_) (fun _=>?_)
  ·refine aF ?_
   refine cV TT_ok 50 (fun i=>bS (([0,1000000,1000001, -9223372036854775808]:List Int).getD i 0)) rfl rfl rfl rfl rfl rfl rfl (fun i hi=>by rcases i with _ | _ | _ | _ | i <;>first | rfl | omega) (mu1:=[]) rfl rfl rfl ?_
   refine aN ?_
   refine aR (bR hn hβ g.2.1 g.2.2 g2 g3 4) fun z ⟨z1,z2,z3⟩=>?_
   refine aN ?_
   exact aL (⟨1+a.1,(([0,1000000,1000001, -9223372036854775808]:List Int).getD z.1.toNat 0),c.1,s⟩,z.2.1,z.2.2) ⟨u1,z2,z3⟩ Nat.zero_lt_one
  refine aF ?_
  refine aA (fun _=>?_) (fun _=>?_)
  ·refine aF ?_
   refine cV TT_ok 50 (fun i=>bS (([-1,5,6, -9223372036854775808]:List Int).getD i 0)) rfl rfl rfl rfl rfl rfl rfl (fun i hi=>by rcases i with _ | _ | _ | _ | i <;>first | rfl | omega) (mu1:=[]) rfl rfl rfl ?_
   refine aN ?_
   refine aR (bR hn hβ g.2.1 g.2.2 g2 g3 4) fun z ⟨z1,z2,z3⟩=>?_
   refine aN ?_
   exact aL (⟨1+a.1,1+b.1,(([-1,5,6, -9223372036854775808]:List Int).getD z.1.toNat 0),s⟩,z.2.1,z.2.2) ⟨u1,z2,z3⟩ Nat.zero_lt_one
  refine aF ?_
  exact aL (⟨1+a.1,1+b.1,c.1,s⟩,g.2.1,g.2.2) ⟨u1,g2,g3⟩ Nat.zero_lt_one
 rintro ⟨x,i5,i6⟩ ⟨v1,v2,v3⟩
 dsimp only at v1 v2 v3 ⊢
 refine aZ ?_
 refine bB (bL 41 901) ?_
 refine aC ((x,i5,i6)) [(2,some 83)] ?_ ?_ ?_
 ·exact aCu _
 ·exact wM
 ·exact ⟨v1,v2,v3⟩
theorem Z6 (v:Int) (h:0≤v∧v≤1000000) (u w:Bool):Ans Tryz.prog 239 [] [vI v,vB u,vB w] [] (vI (4 * v+(bif u then 2 else 0)+(bif w then 1 else 0))):=by
 refine aE Tryz.func239 fun B0 r_ D_ w0=>?_
 refine aF ?_
 refine aA (fun e=>?_) (fun e=>?_)
 ·subst e
  refine aF ?_
  refine aA (fun e=>?_) (fun e=>?_)
  ·subst e
   refine aF ?_
   exact aJ [(6,none)] (rfl)
  ·subst e
   refine aF ?_
   exact dK TT_ok [(6,none)] rfl rfl ((by simp))
 ·subst e
  refine aF ?_
  refine aA (fun e=>?_) (fun e=>?_)
  ·subst e
   refine aF ?_
   exact dK TT_ok [(6,none)] rfl rfl ((by simp))
  ·subst e
   refine aF ?_
   exact dK TT_ok [(6,none)] rfl rfl ((by simp))
theorem QA {n:Nat} {β:Nat→Int} (hn:n≤1048576) (hβ:eS β) (i h:Int) (h1:0≤i) (h2:i≤n):Con Tryz.prog 197 [700,701] [.a (.p 700 0)] (xB n β i h) (fun y:List GCell×Int×Int=>y.1.length=6∧0≤y.2.1∧y.2.1≤n) (fun _=>[.a (.g 900)]) fun y=>[(700,dE y.2.1 y.2.2),(900,bE 2 cX aCo y.1)]:=by
 refine aE Tryz.func197 fun B0 r_ D_ w0=>?_
 refine aF ?_
 refine aR (aCv 900 20 CA) fun _ _=>?_
 refine aN ?_
 refine aK (ι:=List GCell×Nat×Int×Int) (fun y=>[(4,vI y.2.1)]) (fun y=>[(20,bE 2 cX aCo y.1),(700,dE y.2.2.1 y.2.2.2)]) (fun y=>y.1.length=6∧y.2.1≤6∧0≤y.2.2.1∧y.2.2.1≤n) (fun y=>6 - y.2.1) (cells0,0,i,h) [20,700] [] ⟨rfl,Nat.zero_le _,h1,h2⟩ ?_
 rintro ⟨l,m,i1,i2⟩ ⟨q1,q2,q3,q4⟩
 dsimp only at q1 q2 q3 q4 ⊢
 refine aF ?_
 refine aI (fun e=>?_) (fun e=>?_)
 ·have hm:m<l.length:=by omega
  refine aF ?_
  refine aR (d9 hn hβ i1 i2 q3 q4 2) fun a ⟨a1,a2,a3⟩=>?_
  refine aN ?_
  refine aR (bR hn hβ a.2.1 a.2.2 a2 a3 6) fun b ⟨b1,b2,b3⟩=>?_
  refine aN ?_
  refine aR (d9 hn hβ b.2.1 b.2.2 b2 b3 5) fun c ⟨c1,c2,c3⟩=>?_
  refine aN ?_
  refine l4 TT_ok (Z6 b.1 (by omega) a.1 c.1) rfl rfl rfl rfl rfl ?_
  generalize hX:4 * b.1+(bif a.1 then (2:Int) else 0)+(bif c.1 then 1 else 0)=X
  refine bB (t5 20 rfl (cG (k:=m) (y:=(⟨X,(l.getD m aCo).value⟩:GCell)) (xs:=l) (enc:=cX) (z:=aCo) (OwnI.refl _)) rfl) ?_
  have hm2:m<(l.set m (⟨X,(l.getD m aCo).value⟩:GCell)).length:=by rw [List.length_set];exact hm
  refine aA (fun _=>?_) (fun _=>?_)
  ·refine aF ?_
   refine cO TT_ok (o0 hn hβ c.2.1 c.2.2 c2 c3 (-50) 50 (by decide) (by decide) (by decide)) rfl rfl (aCu _) (fun _=>rfl) rfl rfl rfl fun d ⟨d1,d2,d3⟩=>?_
   refine aN ?_
   exact bN ((l.set m ⟨X,(l.getD m aCo).value⟩).set m ⟨((l.set m (⟨X,(l.getD m aCo).value⟩:GCell)).getD m aCo).head,d.1⟩,m+1,d.2.1,d.2.2) ⟨by simp [q1],by dsimp only;omega,d2,d3⟩ (by dsimp only;omega) wF ⟨⟨_,rfl,cG (OwnI.refl _)⟩,wM⟩
  ·refine aF ?_
   exact aL (l.set m ⟨X,(l.getD m aCo).value⟩,m+1,c.2.1,c.2.2) ⟨by simp [q1],by dsimp only;omega,c2,c3⟩ (by dsimp only;omega)
 ·refine aF ?_
  refine bB (bL 20 900) ?_
  refine aC ((l,i1,i2)) [(2,none)] ?_ ?_ ?_
  ·exact aCu _
  ·exact wM
  ·exact ⟨q1,q3,q4⟩
end
section
def tJ (c:GCluster) (r s:Int):Bool:=bif !inB r 0 ((c.places.length:Int) - 1) then true else !inB s 0 5
def qM (u:Bool):Int:=bif u then 0 else 8
theorem BS {c:GCluster} {r s:Int} (h:tJ c r s=false):(0≤r∧r<c.places.length)∧0≤s∧s≤5:=by
 unfold tJ at h
 cases h1:inB r 0 ((c.places.length:Int) - 1) with
 | false=>rw [h1] at h;cases h
 | true =>
  rw [h1] at h
  have h2:inB s 0 5=true:=by simpa using h
  have:=b6.1 h1
  have:=b6.1 h2
  omega
def gN (c:GCluster) (r s:Int):GCell:=(cellsOf (bH c r.toNat 0) r).getD s.toNat aCo
def eI (c:GCluster) (r s:Int):GNote:=⟨r,s,(gN c r s).head.tdiv 4,(gN c r s).value,B4 (gN c r s).head⟩
def xQ (t:GTx) (r s:Int):GSet:=t.sets.getD (cI (dS r s) t.sets).toNat aCm
def oC (t:GTx) (r s:Int):GNote:=t.reads.getD (cI (eG r s) t.reads).toNat aCn
noncomputable def gP (c:GCluster) (t:GTx) (r s:Int):GTx×Int×Int×Int :=
 bif t.sets.any (dS r s) then (t,(xQ t r s).version,(xQ t r s).value,qM (xQ t r s).used)
 else bif t.reads.any (eG r s) then (t,(oC t r s).version,(oC t r s).value,qM (oC t r s).used)
 else bif !(bH c r.toNat 0).alive then (t,0,0,6)
 else bif fD (gN c r s).head then (t,0,0,7)
 else bif !(cD t (eI c r s)).2 then (t,0,0,9)
 else ((cD t (eI c r s)).1,(eI c r s).version,(eI c r s).value,qM (eI c r s).used)
theorem E8 {c:GCluster} (hok:ClusOk c) {r s:Int} (hr:0≤r∧r<c.places.length) (hs:0≤s∧s≤5) (ha:(bH c r.toNat 0).alive=true) :
  (cellsOf (bH c r.toNat 0) r).length=6∧jW (gN c r s).head=true∧US (gN c r s).value=true:=by
 have hpl:=hok.pl (r:=r.toNat) (by omega)
 have h1:=hok.at (r:=r.toNat) (k:=0) (by omega) (by omega)
 have h2:=h1.2 ha
 rw [Int.toNat_of_nonneg hr.1] at h2
 have h3:=fH (hok.mach (r:=r.toNat) (k:=0) (by omega) (by omega)) h2
 have h4:gN c r s ∈ cellsOf (bH c r.toNat 0) r:=cJ (by omega)
 have h5:(cellsOf (bH c r.toNat 0) r).any hY=false:=by
  have:=h3.2
  unfold dF at this
  rw [show (((cellsOf (bH c r.toNat 0) r).length:Int) == 6)=true from beq_iff_eq.2 (by rw [h3.1];rfl)] at this
  simpa using this
 have h6:hY (gN c r s)=false:=by
  cases e:hY (gN c r s) with
  | false=>rfl
  | true=>rw [List.any_eq_true.2 ⟨_,h4,e⟩] at h5;cases h5
 refine ⟨h3.1,?_⟩
 unfold hY at h6
 cases c1:jW (gN c r s).head with
 | false=>rw [c1] at h6;cases h6
 | true =>
  cases c2:US (gN c r s).value with
  | false=>rw [c1,c2] at h6;cases h6
  | true=>exact ⟨rfl,rfl⟩
theorem MS {c:GCluster} (hok:ClusOk c) {r s:Int} (hr:0≤r∧r<c.places.length) (hs:0≤s∧s≤5) (ha:(bH c r.toNat 0).alive=true):iX (eI c r s)=true:=by
 obtain ⟨_,c2,c3⟩:=E8 hok hr hs ha
 have hh:=kR.1 c2
 have hv:0≤(gN c r s).head.tdiv 4∧(gN c r s).head.tdiv 4≤1000000:=by rw [Int.tdiv_eq_ediv_of_nonneg hh.1];omega
 have h6:=hok.2.1.1.2
 unfold iX eI
 rw [b6.2 (show (0:Int)≤r∧r≤5 from by omega),b6.2 (show (0:Int)≤s∧s≤5 from hs)]
 dsimp only
 rw [b6.2 hv]
 exact c3
abbrev aAv (P:Program) (f:Nat) (args:List SV) (c:GCluster) (v n:Int):Prop:=Con P f [] args [] (fun _:Unit=>True) (fun _=>[iC c 901 902 903,vI v,vI n]) fun _=>[(901,bE 1 cE aCi c.places),(902,bE 4 bJ aCj c.machines),(903,bE 7 cTx aCk c.txs)]
noncomputable def t7 (c:GCluster) (id:Int) (t:GTx):GCluster:={ c with txs:=c.txs.set (bQ c id).toNat t }
open Classical in
noncomputable def pO (c:GCluster) (id r s:Int):GCluster×Int×Int :=
 if ClusOk c then (if dG c id=0 then (bif tJ c r s then (c,0,5) else (t7 c id (gP c (bT c id) r s).1,(if (gP c (bT c id) r s).2.2.2=0 then (gP c (bT c id) r s).2.2.1 else 0),(gP c (bT c id) r s).2.2.2)) else (c,0,dG c id)) else (aCl,0,1)
end
section
abbrev nX (m:GMachine) (k1 k2 k3:Nat):List V:=[.v (.bool m.alive), .g k1, .g k2, .g k3]
abbrev eM (m:GMachine) (r:Int):Int:=cI (atB r) m.copies
end
section
def nI (v:Value):Int:=match v with | .int _ x=>x | _=>0
def slA (v:Value):=match v with | .slice A _ _=>A | _=>none
def slN (v:Value):Nat:=match v with | .slice _ n _=>n | _=>0
def slC (v:Value):Nat:=match v with | .slice _ _ c=>c | _=>0
abbrev vM (f:Nat→Nat→Value) (i:Nat):List D:=[.v (.int .i64 (nI (f i 0))), .v (.int .i64 (nI (f i 1))), .v (.int .i64 (nI (f i 2))), .v (.slice (slA (f i 3)) (slN (f i 3)) (slC (f i 3)))]
theorem S9 {h:PH} {x:GRecord} {l:List Value} (e:D.rds h (cK x) l):l.map D.v=[.v (.int .i64 (nI (l.getD 0 undef))), .v (.int .i64 (nI (l.getD 1 undef))), .v (.int .i64 (nI (l.getD 2 undef))), .v (.slice (slA (l.getD 3 undef)) (slN (l.getD 3 undef)) (slC (l.getD 3 undef)))]:=by
 obtain ⟨y1,t1,rfl,e1,y2,t2,rfl,e2,y3,t3,rfl,e3,y4,t4,rfl,⟨A,c,e4,_⟩,e5⟩:=e
 have e1:y1 = .int .i64 x.kind:=e1
 have e2:y2 = .int .i64 x.tx:=e2
 have e3:y3 = .int .i64 x.region:=e3
 have e5:t4=[]:=e5
 subst e1;subst e2;subst e3;subst e4;subst e5
 rfl
theorem C3 {α:Type} {z:α} (q:α→Bool) (xs:List α):xs.filter q=((List.range xs.length).filter fun i=>q (xs.getD i z)).map fun i=>xs.getD i z:=by
 have h:xs=(List.range xs.length).map fun i=>xs.getD i z:=by
  apply List.ext_getElem
  ·simp
  ·intro i h1 h2;simp [h1]
 conv=>lhs;rw [h,List.filter_map]
 rfl
theorem lO {l:List Value} (h:l.length=2):l=[l.getD 0 undef,l.getD 1 undef]:=by
 match l,h with
 | [a,b],_=>rfl
theorem gd0 {l:List Nat} {i:Nat} (h:i<l.length):l.getD i 0=l[i]:=by simp [h]
theorem gmap {α:Type} {z:α} {f:Nat→α} {l:List Nat} {i:Nat} (h:i<l.length):(l.map f).getD i z=f (l.getD i 0):=by simp [List.getD_eq_getElem?_getD,h]
end
section
def pR (xs:List GCell) (b:Int→Bool) (s:Nat):Bool:=bif (bif !B4 (xs.getD s aCo).head then !fD (xs.getD s aCo).head else false) then !b s else false
def qQ (xs:List GCell) (b:Int→Bool):Int:=cI (pR xs b) (List.range 6)
theorem OP {xs:List GCell} {b:Int→Bool} {i:Nat} (hi:i<6) (h:∀ j,j<i→pR xs b j=false) (k:pR xs b i=true):qQ xs b=i:=by
 unfold qQ
 exact gA (z:=0) (by simpa using hi) (fun j hj=>by rw [gV (by omega)];exact h j hj) (by rw [gV hi];exact k)
theorem PL {xs:List GCell} {b:Int→Bool} (h:∀ j,j<6→pR xs b j=false):qQ xs b = -1:=by
 unfold qQ
 exact gT (z:=0) fun j hj=>by
  have hj:j<6:=by simpa using hj
  rw [gV hj];exact h j hj
theorem PK {xs:List GCell} {b:Int→Bool}:(qQ xs b = -1∧∀ j,j<6→pR xs b j=false)∨∃ i:Nat,i<6∧qQ xs b=i∧pR xs b i=true:=by
 unfold qQ
 rcases gH (pR xs b) 0 (List.range 6) with ⟨h1,h2⟩ | ⟨i,h1,h2,_,h4⟩
 ·refine .inl ⟨h1,fun j hj=>?_⟩
  have:=h2 j (by simpa using hj)
  rwa [gV hj] at this
 ·have hi:i<6:=by simpa using h1
  exact .inr ⟨i,hi,h2,by rwa [gV hi] at h4⟩
theorem R9 {xs:List GCell} {b b':Int→Bool} (h:∀ s:Nat,s<6→b s=b' s):qQ xs b=qQ xs b':=by
 have hp:∀ s,s<6→pR xs b s=pR xs b' s:=fun s hs=>by unfold pR;rw [h s hs]
 rcases PK (xs:=xs) (b:=b) with ⟨h1,h2⟩ | ⟨i,h1,h2,h3⟩
 ·rw [h1,PL fun j hj=>by rw [← hp j hj];exact h2 j hj]
 ·rw [h2]
  have hl:∀ j,j<i→pR xs b j=false:=fun j hj=>by
   unfold qQ at h2
   rcases gH (pR xs b) 0 (List.range 6) with ⟨g1,_⟩ | ⟨k,g1,g2,g3,_⟩
   ·omega
   ·have:k=i:=by omega
    subst this
    have:=g3 j hj
    rwa [gV (by omega)] at this
  exact (OP h1 (fun j hj=>by rw [← hp j (by omega)];exact hl j hj) (by rw [← hp i h1];exact h3)).symm
def t8 (t:GTx) (r s:Int):Bool:=bif t.reads.any (eG r s) then true else t.sets.any (dS r s)
def kF (c:GCluster) (t:GTx) (r:Int):Int:=qQ (cellsOf (bH c r.toNat 0) r) (t8 t r)
def DH (c:GCluster) (t:GTx) (r:Int):Int:=(gN c r (kF c t r)).head.tdiv 4
def jK (c:GCluster) (t:GTx) (r:Int):GNote:=⟨r,kF c t r,DH c t r,0,false⟩
def o4 (c:GCluster) (t:GTx) (r:Int):GSet:=⟨r,kF c t r,0,true,DH c t r⟩
noncomputable def yF (c:GCluster) (t:GTx) (r:Int):GTx:=(eX (cD t (jK c t r)).1 (o4 c t r)).1
noncomputable def kG (c:GCluster) (t:GTx) (r:Int):Int :=
 bif !inB r 0 ((c.places.length:Int) - 1) then 5 else bif !(bH c r.toNat 0).alive then 6 else bif decide (kF c t r<0) then 9
 else bif !(cD t (jK c t r)).2 then 9 else bif !eO (o4 c t r) then 9 else bif !(eX (cD t (jK c t r)).1 (o4 c t r)).2 then 9 else 0
open Classical in
noncomputable def iM (c:GCluster) (id r:Int):GCluster×Int×Int :=
 if ClusOk c then (if dG c id=0 then (if kG c (bT c id) r=0 then (t7 c id (yF c (bT c id) r),kF c (bT c id) r,0) else (c, -1,kG c (bT c id) r)) else (c, -1,dG c id)) else (aCl, -1,1)
end
section
theorem kZ {α:Type} {w:α→Nat} {k:Nat}:∀ {xs:List α},(∀ x ∈ xs,w x≤k)→gL w xs≤k * xs.length
 | [],_=>Nat.zero_le _
 | x :: r,h=>by
  have h1:=h x (by simp)
  have h2:=kZ (w:=w) (k:=k) (xs:=r) fun y hy=>h y (by simp [hy])
  simp only [gL,List.length_cons,Nat.mul_add,Nat.mul_one]
  omega
theorem lT {α:Type} {z:α} {P:α→Prop} {xs:List α} (h:∀ i,i<xs.length→P (xs.getD i z)):∀ x ∈ xs,P x:=fun x hx=>by
 obtain ⟨i,hi,rfl⟩:=List.mem_iff_getElem.1 hx
 have:=h i hi
 simpa [hi] using this
theorem aBh {r:GRecord} (h:nZ r=true):r.sets.length≤12:=by
 unfold nZ at h
 cases c1:inB r.kind 1 3 <;>cases c2:inB r.tx 1 1000000 <;>cases c3:inB r.region 0 5 <;>cases c4:decide ((r.sets.length:Int) ≥ 1) <;>cases c5:decide ((r.sets.length:Int)≤12) <;>rw [c1,c2,c3,c4,c5] at h <;>first | (cases h;done) | (have:=of_decide_eq_true c5;omega)
theorem N2 {m:GMachine} (h:dO m):gM m≤2702:=by
 have h1:gL I8 m.copies≤6 * m.copies.length:=kZ (lT (z:=aCp) fun i hi=>by
  have:=xP (PX h hi)
  show (m.copies.getD i aCp).cells.length≤6
  omega)
 have h2:gL AW m.log≤12 * m.log.length:=kZ (lT (z:=aCq) fun i hi=>aBh (h.2.2.2 i hi))
 have h3:=h.1
 unfold gM wL
 omega
theorem DS {t:GTx} (h:eN t):wTx t≤24:=by
 have:=h.1.2.2.2.2.2
 unfold wTx
 omega
theorem ZS {c:GCluster} (h:ClusOk c) {txs:List GTx} (hl:txs.length≤60) (ht:∀ t ∈ txs,wTx t≤24):iL { c with txs:=txs } ≤ 30000:=by
 have h1:gL mL c.places≤3 * c.places.length:=kZ (lT (z:=aCi) fun i hi=>(h.pl hi).2)
 have h2:gL gM c.machines≤2702 * c.machines.length:=kZ (lT (z:=aCj) fun i hi=>N2 (h.2.2.1 i hi))
 have h3:gL wTx txs≤24 * txs.length:=kZ ht
 have h4:=h.1.2.2.1.2
 have h5:=h.2.1.1.2
 show wL mL c.places+wL gM c.machines+wL wTx txs≤30000
 unfold wL
 omega
theorem zF {c:GCluster} (h:ClusOk c):iL c≤30000:=ZS (c:=c) h h.1.2.2.2 (lT (z:=aCk) fun i hi=>DS (h.tx hi))
theorem GG {c:GCluster} {t:GTx} {r:Int} (h:kG c t r=0):(0≤r∧r<c.places.length)∧(bH c r.toNat 0).alive=true∧0≤kF c t r∧(cD t (jK c t r)).2=true∧eO (o4 c t r)=true∧(eX (cD t (jK c t r)).1 (o4 c t r)).2=true:=by
 unfold kG at h
 cases c1:inB r 0 ((c.places.length:Int) - 1) with
 | false=>rw [c1] at h;cases h
 | true =>
  cases c2:(bH c r.toNat 0).alive with
  | false=>rw [c1,c2] at h;cases h
  | true =>
   cases c3:decide (kF c t r<0) with
   | true=>rw [c1,c2,c3] at h;cases h
   | false =>
    cases c4:(cD t (jK c t r)).2 with
    | false=>rw [c1,c2,c3,c4] at h;cases h
    | true =>
     cases c5:eO (o4 c t r) with
     | false=>rw [c1,c2,c3,c4,c5] at h;cases h
     | true =>
      cases c6:(eX (cD t (jK c t r)).1 (o4 c t r)).2 with
      | false=>rw [c1,c2,c3,c4,c5,c6] at h;cases h
      | true =>
       have:=b6.1 c1
       have:=of_decide_eq_false c3
       exact ⟨by omega,rfl,by omega,rfl,rfl,rfl⟩
end
section
theorem qR {α β:Type} {z:α} (f:β→α→β) (b:β) {xs:List α} {k:Nat} (h:k<xs.length):(xs.take (k+1)).foldl f b=f ((xs.take k).foldl f b) (xs.getD k z):=by
 rw [cC (z:=z) h,List.foldl_append];rfl
def dN (xs:List GCell) (s:GSet):GCell:=xs.getD s.slot.toNat aCo
def kD (xs:List GCell) (s:GSet):List GCell:=xs.set s.slot.toNat ⟨(dN xs s).head+1,(dN xs s).value⟩
def pQ (xs:List GCell) (sets:List GSet):List GCell:=sets.foldl kD xs
def qF (xs:List GCell) (s:GSet):Bool:=bif fD (dN xs s).head then true else (dN xs s).head.tdiv 4 != s.version
def kX (xs:List GCell) (sets:List GSet):Bool := !sets.any (qF xs)
def zQ (s:GSet):GCell:=⟨4 * (s.version+1)+(bif s.used then 2 else 0),bif s.used then s.value else 0⟩
def nR (xs:List GCell) (s:GSet):List GCell:=if (dN xs s).head.tdiv 4 > s.version then xs else xs.set s.slot.toNat (zQ s)
def lM (xs:List GCell) (sets:List GSet):List GCell:=sets.foldl nR xs
def nE (xs:List GCell) (s:GSet):List GCell:=if (dN xs s).head.tdiv 4=s.version then xs.set s.slot.toNat ⟨(dN xs s).head.tdiv 2 * 2,(dN xs s).value⟩ else xs
def pP (xs:List GCell) (sets:List GSet):List GCell:=sets.foldl nE xs
theorem D1 (xs:List GCell) (s:GSet):(kD xs s).length=xs.length:=by unfold kD;rw [List.length_set]
theorem DN {f:List GCell→GSet→List GCell} (h:∀ xs s,(f xs s).length=xs.length):∀ (sets:List GSet) (xs:List GCell),(sets.foldl f xs).length=xs.length
 | [],_=>rfl
 | s :: r,xs=>by rw [List.foldl_cons,DN h r,h]
theorem lF {xs:List GCell}:dF xs=true ↔ xs.length=6∧∀ x ∈ xs,hY x=false:=by
 unfold dF
 constructor
 ·intro h
  cases c:((xs.length:Int) == 6) with
  | false=>rw [c] at h;cases h
  | true =>
   rw [c] at h
   refine ⟨by have:=beq_iff_eq.1 c;omega,fun x hx=>?_⟩
   cases e:hY x with
   | false=>rfl
   | true =>
    have:xs.any hY=true:=List.any_eq_true.2 ⟨x,hx,e⟩
    rw [this] at h;cases h
 ·rintro ⟨h1,h2⟩
  rw [show ((xs.length:Int) == 6)=true from beq_iff_eq.2 (by omega)]
  have:xs.any hY=false:=by
   cases e:xs.any hY with
   | false=>rfl
   | true =>
    obtain ⟨x,hx,e2⟩:=List.any_eq_true.1 e
    rw [h2 x hx] at e2;cases e2
  rw [this];rfl
theorem nU {x:GCell}:hY x=false ↔ (0≤x.head∧x.head≤4000003)∧(-1000000000≤x.value∧x.value≤1000000000)∧((x.head / 2) % 2=1∨x.value=0):=by
 unfold hY B4 jW US
 cases h1:inB x.head 0 4000003 with
 | false =>
  have:¬ (0≤x.head∧x.head≤4000003):=fun h=>by rw [b6.2 h] at h1;cases h1
  simp [this]
 | true =>
  have g1:=b6.1 h1
  cases h2:inB x.value (-1000000000) 1000000000 with
  | false =>
   have:¬ (-1000000000≤x.value∧x.value≤1000000000):=fun h=>by rw [b6.2 h] at h2;cases h2
   simp [this]
  | true =>
   have g2:=b6.1 h2
   have e1:x.head.tdiv 2=x.head / 2:=vC g1.1
   have e2:(x.head / 2).tmod 2=x.head / 2 % 2:=AZ (by omega)
   rw [e1,e2]
   simp [g1,g2]
   by_cases c:x.head / 2 % 2=1 <;>simp [c]
theorem KC {xs:List GCell} {i:Nat} {y:GCell} {P:GCell→Prop} (h:∀ x ∈ xs,P x) (hy:P y):∀ x ∈ xs.set i y,P x:=fun x hx=>by
 rcases List.mem_or_eq_of_mem_set hx with hx | rfl
 ·exact h x hx
 ·exact hy
theorem DF {xs:List GCell} {s:GSet} (h:xs.length=6) (hs:eO s=true):dN xs s ∈ xs:=by
 have:=(sP.1 hs).2.1
 exact cJ (by omega)
theorem GR {xs:List GCell} {s:GSet} (h:dF xs=true) (hs:eO s=true):dF (nR xs s)=true:=by
 obtain ⟨h1,h2⟩:=lF.1 h
 have h3:=sP.1 hs
 unfold nR
 split
 ·exact h
 ·refine lF.2 ⟨by rw [List.length_set];exact h1,KC h2 (nU.2 ?_)⟩
  unfold zQ
  cases s.used <;>simp <;>omega
theorem GX {xs:List GCell} {s:GSet} (h:dF xs=true) (hs:eO s=true):dF (nE xs s)=true:=by
 obtain ⟨h1,h2⟩:=lF.1 h
 have h3:=nU.1 (h2 _ (DF h1 hs))
 unfold nE
 split
 ·refine lF.2 ⟨by rw [List.length_set];exact h1,KC h2 (nU.2 ?_)⟩
  dsimp only
  rw [vC h3.1.1]
  omega
 ·exact h
theorem sG {f:List GCell→GSet→List GCell} (hf:∀ xs s,dF xs=true→eO s=true→dF (f xs s)=true):∀ {sets:List GSet} {xs:List GCell},(∀ s ∈ sets,eO s=true)→dF xs=true→dF (sets.foldl f xs)=true
 | [],_,_,h=>h
 | s :: r,xs,hs,h=>by
  rw [List.foldl_cons]
  exact sG hf (fun t ht=>hs t (by simp [ht])) (hf xs s h (hs s (by simp)))
theorem GS {xs:List GCell} {sets:List GSet} (h:dF xs=true) (hs:∀ s ∈ sets,eO s=true):dF (lM xs sets)=true:=sG (fun _ _=>GR) hs h
theorem N8 {xs:List GCell} {sets:List GSet} (h:dF xs=true) (hs:∀ s ∈ sets,eO s=true):dF (pP xs sets)=true:=sG (fun _ _=>GX) hs h
def FJ (sets:List GSet):Prop:=sets.Pairwise fun a b=>a.slot<b.slot
theorem GI {xs:List GCell} {s t:GSet} {y:GCell} (hs:eO s=true) (ht:eO t=true) (h:t.slot≠s.slot):dN (xs.set s.slot.toNat y) t=dN xs t:=by
 have h1:=(sP.1 hs).2.1
 have h2:=(sP.1 ht).2.1
 unfold dN
 simp only [List.getD_eq_getElem?_getD]
 rw [List.getElem?_set_ne (by omega)]
theorem H7:∀ {sets:List GSet} {xs:List GCell} {t:GSet},(∀ s ∈ sets,eO s=true∧t.slot≠s.slot)→eO t=true→dN (sets.foldl kD xs) t=dN xs t
 | [],_,_,_,_=>rfl
 | s :: r,xs,t,h,ht=>by
  rw [List.foldl_cons,H7 (fun s hs=>h s (by simp [hs])) ht]
  exact GI (h s (by simp)).1 ht (h s (by simp)).2
theorem SP {sets:List GSet} (hs:∀ s ∈ sets,eO s=true) (hr:FJ sets) (xs:List GCell) {k:Nat} (hk:k<sets.length):dN ((sets.take k).foldl kD xs) (sets.getD k aCm)=dN xs (sets.getD k aCm):=by
 refine H7 (fun s h=>⟨hs s (List.mem_of_mem_take h),?_⟩) (hs _ (cJ hk))
 obtain ⟨a,ha,rfl⟩:=List.mem_iff_getElem.1 h
 have hak:a<k:=by rw [List.length_take] at ha;omega
 have:=iR (z:=aCm) hr hak hk
 rw [List.getElem_take]
 rw [show sets.getD a aCm=sets[a] from by simp [show a<sets.length by omega]] at this
 omega
theorem QQ:∀ {sets:List GSet} {xs:List GCell},(∀ s ∈ sets,eO s=true)→FJ sets→dF xs=true→(∀ s ∈ sets,fD (dN xs s).head=false)→dF (pQ xs sets)=true
 | [],_,_,_,h,_=>h
 | s :: r,xs,hs,hr,h,hl=>by
  obtain ⟨h1,h2⟩:=lF.1 h
  have hsb:=hs s (by simp)
  have h3:=nU.1 (h2 _ (DF h1 hsb))
  obtain ⟨p1,p2⟩:=List.pairwise_cons.1 hr
  have h4:=hl s (by simp)
  have he:(dN xs s).head % 2=0:=by
   unfold fD jW at h4
   rw [b6.2 h3.1,AZ h3.1.1] at h4
   have:¬ (dN xs s).head % 2=1:=by simpa using h4
   omega
  show dF (r.foldl kD (kD xs s))=true
  refine QQ (fun t ht=>hs t (by simp [ht])) p2 ?_ fun t ht=>?_
  ·refine lF.2 ⟨by rw [D1];exact h1,KC h2 (nU.2 ?_)⟩
   dsimp only
   omega
  ·rw [kD,GI hsb (hs t (by simp [ht])) (by have:=p1 t ht;omega)]
   exact hl t (by simp [ht])
theorem oP {t:GTx} (ht:eN t) (r:Int):(∀ s ∈ bY r t.sets,eO s=true)∧FJ (bY r t.sets)∧∀ s ∈ bY r t.sets,s.region=r:=by
 have h:=tK.1 ht.2.2
 refine ⟨fun s hs=>h.1 s (List.mem_filter.1 hs).1,?_,fun s hs=>by simpa using (List.mem_filter.1 hs).2⟩
 have h2:(bY r t.sets).Pairwise lessS:=h.2.filter _
 refine List.Pairwise.imp_of_mem ?_ h2
 intro a b ha hb hab
 have h3:a.region=r:=by simpa using (List.mem_filter.1 ha).2
 have h4:b.region=r:=by simpa using (List.mem_filter.1 hb).2
 unfold lessS at hab
 omega
end
section
theorem VV {l:List Int}:∀ {k:Nat},k≤l.length→∀ x,x ∈ cmI l k ↔ x ∈ l.take k
 | 0,_,x=>by simp [cmI]
 | k+1,hk,x=>by
  have ih:=VV (l:=l) (k:=k) (by omega) x
  rw [cC (z:=0) (by omega),cmI]
  split
  ·simp only [List.mem_append,ih]
  ·rename_i h
   simp only [List.mem_append,List.mem_singleton]
   rw [ih]
   constructor
   ·exact .inl
   ·rintro (h1 | h1)
    ·exact h1
    ·subst h1
     have h0:k≠0:=fun e=>h (.inl e)
     have h2:l.getD k 0=l.getD (k - 1) 0:=by
      by_cases c:l.getD k 0=l.getD (k - 1) 0
      ·exact c
      ·exact absurd (.inr c) h
     rw [h2,List.mem_iff_getElem]
     exact ⟨k - 1,by rw [List.length_take];omega,by simp [List.getD_eq_getElem?_getD,List.getElem?_eq_getElem (show k - 1<l.length by omega)]⟩
end
section
structure GCopyAt where
 region:Int
 machine:Int
 backup:Bool
def GCopyAt.z:GCopyAt:=⟨0,0,false⟩
abbrev cR (c:GCluster) (r:Int):List Int:=(c.places.getD r.toNat aCi).machines
abbrev bI (t:GTx):List Int:=cmI (fC t) (fC t).length
def kW (b:Bool) (r:Int) (ms:List Int):Nat→List GCopyAt
 | 0=>[]
 | i+1=>bif (bif decide ((i:Int) > 0) then true else !b) then kW b r ms i ++ [⟨r,ms.getD i 0,decide ((i:Int) > 0)⟩] else kW b r ms i
def mS (c:GCluster) (ws:List Int) (b:Bool):Nat→List GCopyAt
 | 0=>[]
 | k+1=>mS c ws b k ++ kW b (ws.getD k 0) (cR c (ws.getD k 0)) (cR c (ws.getD k 0)).length
def cW (c:GCluster) (t:GTx) (b:Bool):List GCopyAt:=mS c (bI t) b (bI t).length
theorem K0 {b:Bool} {r:Int} {ms:List Int}:∀ {i:Nat},(kW b r ms i).length≤i
 | 0=>Nat.le_refl _
 | i+1=>by
  have:=K0 (b:=b) (r:=r) (ms:=ms) (i:=i)
  rw [kW]
  cases (bif decide ((i:Int) > 0) then true else !b) <;>simp <;>omega
theorem MB {t:GTx} {r:Int} (h:r ∈ bI t):∃ s ∈ t.sets,s.region=r:=by
 have h1:=(VV (l:=fC t) (Nat.le_refl _) r).1 h
 rw [List.take_length] at h1
 obtain ⟨s,h2,h3⟩:=List.mem_map.1 h1
 exact ⟨s,h2,h3⟩
theorem iN {c:GCluster} {t:GTx} (ht:TxIn c t) {k:Nat} (hk:k<(bI t).length):0≤(bI t).getD k 0∧(bI t).getD k 0<c.places.length:=by
 obtain ⟨s,h1,h2⟩:=MB (yI hk)
 obtain ⟨j,hj,rfl⟩:=List.mem_iff_getElem.1 h1
 have:=ht.set j hj
 rw [show t.sets.getD j aCm=t.sets[j] from by simp [hj],h2] at this
 exact this
theorem sB {t:GTx} (ht:eN t):(bI t).length≤12:=by
 show (cmI (fC t) (fC t).length).length≤12
 have h1:=QH (xs:=fC t) (k:=(fC t).length)
 have h2:=m6 t
 have h3:=ht.1.2.2.2.2.2.2
 omega
theorem nT {c:GCluster} (hok:ClusOk c) {r:Int} (hr:0≤r∧r<c.places.length):1≤(cR c r).length∧(cR c r).length≤3:=hok.pl (r:=r.toNat) (by omega)
theorem AV {c:GCluster} (hok:ClusOk c) {ws:List Int} (hw:∀ k,k<ws.length→0≤ws.getD k 0∧ws.getD k 0<c.places.length) {b:Bool}:∀ {k:Nat},k≤ws.length→(mS c ws b k).length≤3 * k
 | 0,_=>Nat.le_refl _
 | k+1,h=>by
  have h1:=AV hok hw (b:=b) (k:=k) (by omega)
  have h2:=nT hok (hw k (by omega))
  have h3:=K0 (b:=b) (r:=ws.getD k 0) (ms:=cR c (ws.getD k 0)) (i:=(cR c (ws.getD k 0)).length)
  rw [mS,List.length_append];omega
def l6 (c:GCluster) (r:Int):GCopyAt:=⟨r,mAt c r.toNat 0,false⟩
def dP (c:GCluster) (t:GTx):List GCopyAt :=
 if t.phase=3 then (bW t).map fun n=>l6 c n.region
 else if t.phase=4 then cW c t true
 else if t.phase=6 then cW c t false
 else if t.phase=1∨t.phase=7∨t.phase=9 then []
 else (bI t).map (l6 c)
theorem sM {c:GCluster} (hok:ClusOk c) {t:GTx} (ht:TxIn c t):(dP c t).length≤36:=by
 have h1:=sB ht.ok
 have h2:(bW t).length≤t.reads.length:=List.length_filter_le _ _
 have h3:=ht.ok.1.2.2.2.2.2.1
 have h4:=fun b=>AV hok (ws:=bI t) (fun k hk=>iN ht hk) (b:=b) (Nat.le_refl _)
 unfold dP
 split
 ·rw [List.length_map];omega
 ·split
  ·have:=h4 true;unfold cW;omega
  ·split
   ·have:=h4 false;unfold cW;omega
   ·split
    ·exact Nat.zero_le _
    ·rw [List.length_map];omega
theorem CN {b:Bool} {r:Int} {ms:List Int} {x:GCopyAt}:∀ {i:Nat},i≤ms.length→x ∈ kW b r ms i→∃ j,j<i∧x=⟨r,ms.getD j 0,decide ((j:Int) > 0)⟩
 | 0,_,h=>by cases h
 | i+1,hi,h=>by
  rw [kW] at h
  have go:x ∈ kW b r ms i→∃ j,j<i+1∧x=⟨r,ms.getD j 0,decide ((j:Int) > 0)⟩:=fun h=>by
   obtain ⟨j,h1,h2⟩:=CN (by omega) h;exact ⟨j,by omega,h2⟩
  cases c:(bif decide ((i:Int) > 0) then true else !b) with
  | false=>rw [c] at h;exact go h
  | true =>
   rw [c] at h
   rcases List.mem_append.1 h with h | h
   ·exact go h
   ·exact ⟨i,by omega,by simpa using h⟩
structure AtIn (c:GCluster) (x:GCopyAt):Prop where
 region:0≤x.region∧x.region<c.places.length
 at':∃ j,j<(cR c x.region).length∧x.machine=mAt c x.region.toNat j∧x.backup=decide ((j:Int) > 0)
theorem N3 {c:GCluster} (hok:ClusOk c) {r:Int} (hr:0≤r∧r<c.places.length):AtIn c (l6 c r):=⟨hr,0,by have:=nT hok hr;show 0<(cR c r).length;omega,rfl,rfl⟩
theorem AU {c:GCluster} {ws:List Int} (hw:∀ k,k<ws.length→0≤ws.getD k 0∧ws.getD k 0<c.places.length) {b:Bool} {x:GCopyAt}:∀ {k:Nat},k≤ws.length→x ∈ mS c ws b k→AtIn c x
 | 0,_,h=>by cases h
 | k+1,hk,h=>by
  rw [mS] at h
  rcases List.mem_append.1 h with h | h
  ·exact AU hw (by omega) h
  ·obtain ⟨j,h1,rfl⟩:=CN (Nat.le_refl _) h
   exact ⟨hw k (by omega),j,h1,rfl,rfl⟩
theorem QU {c:GCluster} (hok:ClusOk c) {t:GTx} (ht:TxIn c t):∀ x ∈ dP c t,AtIn c x:=fun x h=>by
 unfold dP at h
 split at h
 ·obtain ⟨n,h1,rfl⟩:=List.mem_map.1 h
  obtain ⟨k,hk,rfl⟩:=List.mem_iff_getElem.1 h1
  have:=q9 ht hk
  rw [show (bW t).getD k aCn=(bW t)[k] from by simp [hk]] at this
  exact N3 hok this
 ·split at h
  ·exact AU (fun k hk=>iN ht hk) (Nat.le_refl _) h
  ·split at h
   ·exact AU (fun k hk=>iN ht hk) (Nat.le_refl _) h
   ·split at h
    ·cases h
    ·obtain ⟨r,h1,rfl⟩:=List.mem_map.1 h
     obtain ⟨k,hk,rfl⟩:=List.mem_iff_getElem.1 h1
     have:=iN ht hk
     rw [show (bI t).getD k 0=(bI t)[k] from by simp [hk]] at this
     exact N3 hok this
def fE (t:GTx):Int:=if t.phase=2 then 3 else if t.phase=3 then (if t.sets.length=0 then 7 else 4) else if t.phase=4 then 5 else if t.phase=5 then 6 else if t.phase=6 then 7 else 9
def mQ (c:GCluster) (t:GTx):Prop:=t.phase=7∨t.phase=9∨t.done<(dP c t).length
instance (c:GCluster) (t:GTx):Decidable (mQ c t):=inferInstanceAs (Decidable (_∨_∨_))
def tQ (y:Int×GTx):Int×GTx:=(if y.2.phase=2 then y.1+1 else y.1, { y.2 with phase:=fE y.2,done:=0,stamp:=if y.2.phase=2 then y.1+1 else y.2.stamp })
def iW (c:GCluster):Nat→Int×GTx→Int×GTx
 | 0,y=>y
 | n+1,y=>if mQ c y.2 then y else iW c n (tQ y)
def dY (c:GCluster) (y:Int×GTx):Int×GTx:=iW c 8 y
theorem BY {c:GCluster} {y:Int×GTx} (h:mQ c y.2):∀ n,iW c n y=y
 | 0=>rfl
 | n+1=>by rw [iW,if_pos h]
theorem VF {c:GCluster} {y:Int×GTx} (h:¬ mQ c y.2) (n:Nat):iW c (n+1) y=iW c n (tQ y):=by rw [iW,if_neg h]
structure Same (t u:GTx):Prop where
 id:u.id=t.id
 home:u.home=t.home
 reads:u.reads=t.reads
 sets:u.sets=t.sets
theorem Same.refl (t:GTx):Same t t:=⟨rfl,rfl,rfl,rfl⟩
theorem Same.trans {t u w:GTx} (h:Same t u) (k:Same u w):Same t w:=⟨k.id.trans h.id,k.home.trans h.home,k.reads.trans h.reads,k.sets.trans h.sets⟩
theorem z0 {c:GCluster}:∀ {n:Nat} {y:Int×GTx},Same y.2 (iW c n y).2
 | 0,y => .refl _
 | n+1,y=>by
  rw [iW];split
  ·exact .refl _
  ·exact Same.trans (u:=(tQ y).2) ⟨rfl,rfl,rfl,rfl⟩ (z0 (n:=n) (y:=tQ y))
theorem GV {t:GTx} (h:2≤t.phase∧t.phase≤9) (h7:t.phase≠7) (h9:t.phase≠9):t.phase<fE t∧fE t≤9:=by
 unfold fE
 (repeat' split) <;>omega
theorem E3 {c:GCluster}:∀ {n:Nat} {y:Int×GTx},2≤y.2.phase∧y.2.phase≤9→9 - y.2.phase<n→0≤y.2.done∧y.2.done≤1000→0≤y.1∧y.1≤1000000→(y.2.phase=2→y.1<1000000)→0≤y.2.stamp∧y.2.stamp≤y.1 →
  mQ c (iW c n y).2∧(y.2.phase≤(iW c n y).2.phase∧(iW c n y).2.phase≤9)∧(0≤(iW c n y).2.done∧(iW c n y).2.done≤1000)∧(y.1≤(iW c n y).1∧(iW c n y).1≤1000000∧((iW c n y).2.phase=2→(iW c n y).1=y.1))∧0≤(iW c n y).2.stamp∧(iW c n y).2.stamp≤(iW c n y).1
 | 0,y,h1,h2,_,_,_,_=>by omega
 | n+1,y,h1,h2,h3,h4,h5,h6=>by
  rw [iW]
  split
  ·rename_i hs
   exact ⟨hs,⟨Int.le_refl _,h1.2⟩,h3,⟨Int.le_refl _,h4.2,fun _=>rfl⟩,h6⟩
  ·rename_i hs
   have g1:=GV h1 (fun e=>hs (.inl e)) (fun e=>hs (.inr (.inl e)))
   by_cases e:y.2.phase=2
   ·have:=E3 (c:=c) (n:=n) (y:=tQ y) (by show 2≤fE y.2∧fE y.2≤9;omega) (by show 9 - fE y.2<n;omega) (by show (0:Int)≤0∧(0:Int)≤1000;omega)
     (by show 0≤(if y.2.phase=2 then y.1+1 else y.1)∧(if y.2.phase=2 then y.1+1 else y.1)≤1000000;rw [if_pos e];have:=h5 e;omega) (fun e2=>by exfalso;have e2:fE y.2=2:=e2;omega)
     (by show 0≤(if y.2.phase=2 then y.1+1 else y.2.stamp)∧(if y.2.phase=2 then y.1+1 else y.2.stamp)≤(if y.2.phase=2 then y.1+1 else y.1);rw [if_pos e,if_pos e];omega)
    obtain ⟨q1,q2,q3,q4,q5⟩:=this
    have q2:fE y.2≤_∧_:=q2
    have q4:(if y.2.phase=2 then y.1+1 else y.1)≤_∧_:=q4
    rw [if_pos e] at q4
    exact ⟨q1,⟨by omega,q2.2⟩,q3,⟨by omega,q4.2.1,fun e2=>by omega⟩,q5⟩
   ·have:=E3 (c:=c) (n:=n) (y:=tQ y) (by show 2≤fE y.2∧fE y.2≤9;omega) (by show 9 - fE y.2<n;omega) (by show (0:Int)≤0∧(0:Int)≤1000;omega)
     (by show 0≤(if y.2.phase=2 then y.1+1 else y.1)∧(if y.2.phase=2 then y.1+1 else y.1)≤1000000;rw [if_neg e];exact h4) (fun e2=>by exfalso;have e2:fE y.2=2:=e2;omega)
     (by show 0≤(if y.2.phase=2 then y.1+1 else y.2.stamp)∧(if y.2.phase=2 then y.1+1 else y.2.stamp)≤(if y.2.phase=2 then y.1+1 else y.1);rw [if_neg e,if_neg e];exact h6)
    obtain ⟨q1,q2,q3,q4,q5⟩:=this
    have q2:fE y.2≤_∧_:=q2
    have q4:(if y.2.phase=2 then y.1+1 else y.1)≤_∧_:=q4
    rw [if_neg e] at q4
    exact ⟨q1,⟨by omega,q2.2⟩,q3,⟨by omega,q4.2.1,fun e2=>by omega⟩,q5⟩
def cL (m:GMachine) (r:Int) (xs:List GCell):GMachine:={ m with copies:=m.copies.set (cI (atB r) m.copies).toNat ⟨(m.copies.getD (cI (atB r) m.copies).toNat aCp).region,xs⟩ }
def mJ (m:GMachine) (x:GRecord):GMachine:={ m with log:=m.log ++ [x] }
def o7 (tx r:Int) (x:GRecord):GRecord:=if pW tx r 1 x=true then ⟨3,x.tx,x.region,x.sets⟩ else x
def BR (m:GMachine) (tx r:Int):GMachine:={ m with log:=m.log.map (o7 tx r) }
def v7 (tx r:Int) (x:GRecord):Bool := !(bif x.tx == tx then x.region == r else false)
def IP (m:GMachine) (tx r:Int):GMachine:={ m with log:=m.log.filter (v7 tx r) }
def nV (n x:Int):Int:=x - n
noncomputable def pN (xs:List Int) (n:Int):List Int:=if n ∈ xs then xs else iB (o5 (nV n) 0 xs) n xs
noncomputable def iP (m:GMachine) (tx r:Int) (d:Bool):GMachine:={ IP m tx r with cleared:=bif d then pN m.cleared tx else m.cleared }
def jI (m:GMachine) (tx:Int):Bool:=bif decide ((m.cleared.length:Int)<60) then true else decide (tx ∈ m.cleared)
def oV (t:GTx):GTx:={ t with phase:=8,done:=0 }
def dT (t:GTx):GTx:={ t with done:=t.done+1 }
noncomputable def jG (t:GTx) (x:GCopyAt) (n:GNote) (m:GMachine):Int×GMachine×GTx :=
 bif !m.alive then (6,m,t)
 else if t.phase=2 then (bif !kX (cellsOf m x.region) (bY x.region t.sets) then (0,m,oV t) else bif decide ((m.log.length:Int)=200) then (9,m,t) else (0,mJ (cL m x.region (pQ (cellsOf m x.region) (bY x.region t.sets))) ⟨1,t.id,x.region,bY x.region t.sets⟩,dT t))
 else if t.phase=3 then (bif (bif fD ((cellsOf m x.region).getD n.slot.toNat aCo).head then true else ((cellsOf m x.region).getD n.slot.toNat aCo).head.tdiv 4 != n.version) then (0,m,oV t) else (0,m,dT t))
 else if t.phase=4 then (bif decide ((m.log.length:Int)=200) then (9,m,t) else (0,mJ m ⟨2,t.id,x.region,bY x.region t.sets⟩,dT t))
 else if t.phase=5 then (0,BR (cL m x.region (lM (cellsOf m x.region) (bY x.region t.sets))) t.id x.region,dT t)
 else if t.phase=6 then (bif !jI m t.id then (9,m,t) else (0,iP (bif x.backup then cL m x.region (lM (cellsOf m x.region) (bY x.region t.sets)) else m) t.id x.region true,dT t))
 else (if 0≤oD m t.id x.region 1 then (0,iP (cL m x.region (pP (cellsOf m x.region) (bY x.region t.sets))) t.id x.region false,dT t) else (0,m,dT t))
def cZ (c:GCluster) (t:GTx):GCopyAt:=(dP c t).getD t.done.toNat GCopyAt.z
noncomputable def b8 (c:GCluster) (t:GTx):Int×GMachine×GTx:=jG t (cZ c t) ((bW t).getD t.done.toNat aCn) (c.machines.getD (cZ c t).machine.toNat aCj)
noncomputable def nW (c:GCluster) (i:Nat) (y:Int×GTx) (ms:List GMachine):GCluster:={ c with clock:=y.1,machines:=ms,txs:=c.txs.set i y.2 }
noncomputable def eE (c:GCluster) (i:Nat):Int×GCluster :=
 let y:=dY c (c.clock,c.txs.getD i aCk)
 if y.2.phase=7∨y.2.phase=9 then (0,nW c i y c.machines)
 else
  let a:=b8 c y.2
  if a.1=0 then (0,nW c i (dY c (y.1,a.2.2)) (c.machines.set (cZ c y.2).machine.toNat a.2.1)) else (a.1,c)
def dZ (c:GCluster) (id:Int):Int:=bif decide (bQ c id<0) then 2 else bif !jE c id then 3 else bif (bif (bT c id).phase == 1 then true else bif (bT c id).phase == 7 then true else (bT c id).phase == 9) then 4 else 0
open Classical in
noncomputable def bZ (c:GCluster) (id:Int):GCluster×Int :=
 if ClusOk c then (if dZ c id≠0 then (c,dZ c id) else if c.clock=1000000 then (c,9) else if (eE c (bQ c id).toNat).1=0 then ((eE c (bQ c id).toNat).2,0) else (c,(eE c (bQ c id).toNat).1)) else (aCl,1)
end
section
theorem cF {a b:Bool}:(bif a then true else b)=false ↔ a=false∧b=false:=by cases a <;>simp
theorem oU {xs:List Int}:p9 xs=true ↔ (∀ x ∈ xs,1≤x∧x≤1000000)∧xs.Pairwise (· < ·):=by
 unfold p9
 constructor
 ·intro h
  have h:t9 xs.length (zO xs)=false:=by simpa using h
  have h1:=uR h
  have h2:∀ j,j<xs.length→1≤xs.getD j 0∧xs.getD j 0≤1000000:=fun j hj=>by
   have:=(cF.1 (h1 j hj)).1
   have:inB (xs.getD j 0) 1 1000000=true:=by simpa using this
   exact b6.1 this
  have h3:∀ j,j+1<xs.length→xs.getD j 0<xs.getD (j+1) 0:=fun j hj=>by
   have:=(cF.1 (h1 (j+1) hj)).2
   rw [decide_eq_true (show ((j+1:Nat):Int) > 0 by omega)] at this
   have:=of_decide_eq_false this
   rw [show (((j+1:Nat):Int) - 1).toNat=j by omega] at this
   omega
  refine ⟨lT (z:=0) h2,s7 (z:=0) fun a b hab hb=>?_⟩
  induction b with
  | zero=>omega
  | succ b ih =>
   have:=h3 b hb
   by_cases c:a=b
   ·subst c;exact this
   ·have:=ih (by omega) (by omega);omega
 ·rintro ⟨h1,h2⟩
  have:t9 xs.length (zO xs)=false:=oJ fun j hj=>by
   unfold zO
   rw [b6.2 (h1 _ (yI hj))]
   by_cases c:(j:Int) > 0
   ·rw [decide_eq_true c,show ((j:Int) - 1).toNat=j - 1 by omega]
    have:=iR (z:=0) h2 (a:=j - 1) (b:=j) (by omega) hj
    show decide _=false
    exact decide_eq_false (by omega)
   ·rw [decide_eq_false c];rfl
  rw [this];rfl
theorem wD {xs:List Int} (h:xs.Pairwise (· < ·)) (n:Int):qB (nV n) 0 xs:=fun a b hab hb hc=>by
 by_cases c:a=b
 ·subst c;exact hc
 ·have:=iR (z:=0) h (a:=a) (b:=b) (by omega) hb
  unfold nV at hc ⊢
  omega
theorem RP {xs:List Int} (hs:xs.Pairwise (· < ·)) {n:Int} {p:Nat} (hc:jJ (nV n) 0 xs p) (hn:n ∉ xs):(iB p n xs).Pairwise (· < ·):=by
 obtain ⟨h1,h2,h3⟩:=hc
 have hl:=kC (x:=n) h1
 refine s7 (z:=0) fun a b hab hb=>?_
 rw [hl] at hb
 rw [nN h1,nN h1]
 have lt:∀ i,i<p→xs.getD i 0<n:=fun i hi=>by have:=h2 i hi;unfold nV at this;omega
 have gt:∀ i,p≤i→i<xs.length→n<xs.getD i 0:=fun i hi hj=>by
  have:=h3 i hi hj
  unfold nV at this
  have:xs.getD i 0≠n:=fun e=>hn (e ▸ yI hj)
  omega
 have pw:∀ i j,i<j→j<xs.length→xs.getD i 0<xs.getD j 0:=fun i j h k=>iR (z:=0) hs h k
 by_cases a1:a<p
 ·rw [if_pos a1]
  by_cases b1:b<p
  ·rw [if_pos b1];exact pw a b hab (by omega)
  ·rw [if_neg b1]
   by_cases b2:b<p+1
   ·rw [if_pos b2];exact lt a a1
   ·rw [if_neg b2];exact pw a (b - 1) (by omega) (by omega)
 ·rw [if_neg a1,if_neg (show ¬ b<p by omega),if_neg (show ¬ b<p+1 by omega)]
  by_cases a2:a<p+1
  ·rw [if_pos a2];exact gt (b - 1) (by omega) (by omega)
  ·rw [if_neg a2];exact pw (a - 1) (b - 1) (by omega) (by omega)
theorem YS {xs:List Int} (h:p9 xs=true) {n:Int} (hn:1≤n∧n≤1000000):p9 (pN xs n)=true∧(pN xs n).length≤(if n ∈ xs then xs.length else xs.length+1):=by
 unfold pN
 by_cases c:n ∈ xs
 ·rw [if_pos c,if_pos c];exact ⟨h,Nat.le_refl _⟩
 ·rw [if_neg c,if_neg c]
  obtain ⟨h1,h2⟩:=oU.1 h
  have hc:=sA (wD h2 n)
  refine ⟨oU.2 ⟨fun x hx=>?_,RP h2 hc c⟩,by rw [kC hc.1];exact Nat.le_refl _⟩
  rcases pA.1 hx with rfl | hx
  ·exact hn
  ·exact h1 x hx
theorem S8 {α β:Type} (f:α→β) (xs:List α) (i:Nat) (y:α):(xs.set i y).map f=(xs.map f).set i (f y):=by
 simp
theorem CR (m:GMachine) (r:Int) (xs:List GCell):(cL m r xs).copies.map GCopy.region=m.copies.map GCopy.region:=by
 unfold cL
 dsimp only
 rw [S8]
 apply List.ext_getElem
 ·simp
 ·intro i h1 h2
  rw [List.getElem_set]
  split
  ·rename_i e
   subst e
   simp only [List.length_set,List.length_map] at h1 h2
   simp [h2]
  ·rfl
theorem QC (m:GMachine) (r:Int):dX m r=(m.copies.map GCopy.region).any (· == r):=by
 unfold dX
 rw [List.any_map]
 rfl
theorem mH (m:GMachine) (r q:Int) (xs:List GCell):dX (cL m r xs) q=dX m q:=by rw [QC,QC,CR]
theorem DW (m:GMachine) (r:Int) (xs:List GCell):(cL m r xs).copies.length=m.copies.length:=by unfold cL;simp
theorem n7 {m:GMachine} (h:dO m) {r:Int} {xs:List GCell} (hx:dF xs=true):dO (cL m r xs):=by
 refine ⟨⟨by rw [DW];exact h.1.1,h.1.2.1,h.1.2.2⟩,h.2.1,fun j hj=>?_,h.2.2.2⟩
 rw [DW] at hj
 have h1:=h.2.2.1 j hj
 have hreg:∀ i,((cL m r xs).copies.getD i aCp).region=(m.copies.getD i aCp).region:=fun i=>by
  have e:=congrArg (fun l=>l.getD i 0) (CR m r xs)
  simp only [List.getD_eq_getElem?_getD,List.getElem?_map] at e ⊢
  cases c1:(cL m r xs).copies[i]? <;>cases c2:m.copies[i]? <;>rw [c1,c2] at e <;>first | exact e | rfl
 unfold sT at h1 ⊢
 rw [hreg,hreg]
 obtain ⟨g1,g2⟩:=cF.1 h1
 obtain ⟨g3,g4⟩:=cF.1 g1
 refine cF.2 ⟨cF.2 ⟨g3,?_⟩,g2⟩
 unfold cL
 dsimp only
 by_cases c:j=(cI (atB r) m.copies).toNat
 ·subst c
  rw [show ((m.copies.set (cI (atB r) m.copies).toNat ⟨(m.copies.getD (cI (atB r) m.copies).toNat aCp).region,xs⟩).getD (cI (atB r) m.copies).toNat aCp)=⟨(m.copies.getD (cI (atB r) m.copies).toNat aCp).region,xs⟩ from by simp [List.getD_eq_getElem?_getD,hj]]
  dsimp only
  rw [hx];rfl
 ·rw [show ((m.copies.set (cI (atB r) m.copies).toNat ⟨(m.copies.getD (cI (atB r) m.copies).toNat aCp).region,xs⟩).getD j aCp)=m.copies.getD j aCp from by
   simp only [List.getD_eq_getElem?_getD];rw [List.getElem?_set_ne (Ne.symm c)]]
  exact g4
theorem O8 {m:GMachine} (h:dO m) {log:List GRecord} (hl:log.length≤200) (hr:∀ x ∈ log,nZ x=true):dO { m with log:=log }:=⟨⟨h.1.1,hl,h.1.2.2⟩,h.2.1,h.2.2.1,fun j hj=>hr _ (cJ hj)⟩
theorem ZQ {m:GMachine} (h:dO m):∀ x ∈ m.log,nZ x=true:=lT (z:=aCq) h.2.2.2
theorem LV {m:GMachine} (h:dO m) {x:GRecord} (hx:nZ x=true) (hl:¬ (m.log.length:Int)=200):dO (mJ m x):=by
 refine O8 h ?_ fun y hy=>?_
 ·have:=h.1.2.1
  rw [List.length_append,List.length_singleton];omega
 ·rcases List.mem_append.1 hy with hy | hy
  ·exact ZQ h y hy
  ·have:y=x:=by simpa using hy
   rw [this];exact hx
theorem YH {tx r:Int} {x:GRecord} (h:nZ x=true):nZ (o7 tx r x)=true:=by
 unfold o7
 split
 ·unfold nZ at h ⊢
  dsimp only
  cases c:inB x.kind 1 3 with
  | false=>rw [c] at h;cases h
  | true=>rw [c] at h;rw [b6.2 (show (1:Int)≤3∧(3:Int)≤3 by omega)];exact h
 ·exact h
theorem ZH {m:GMachine} (h:dO m) (tx r:Int):dO (BR m tx r):=by
 refine O8 h (by rw [List.length_map];exact h.1.2.1) fun y hy=>?_
 obtain ⟨x,hx,rfl⟩:=List.mem_map.1 hy
 exact YH (ZQ h x hx)
theorem zJ {m:GMachine} (h:dO m) {tx r:Int} (ht:1≤tx∧tx≤1000000) {d:Bool} (hc:d=true→jI m tx=true):dO (iP m tx r d):=by
 have h1:dO (IP m tx r):=O8 h (Nat.le_trans (List.length_filter_le _ _) h.1.2.1) fun y hy=>ZQ h y (List.mem_filter.1 hy).1
 cases d with
 | false=>exact h1
 | true =>
  obtain ⟨g1,g2⟩:=YS (xs:=m.cleared) h.2.1 ht
  refine ⟨⟨h1.1.1,h1.1.2.1,?_⟩,g1,h1.2.2⟩
  have:=hc rfl
  unfold jI at this
  have g3:=h.1.2.2
  show (pN m.cleared tx).length≤60
  by_cases c:tx ∈ m.cleared
  ·rw [if_pos c] at g2;omega
  ·rw [if_neg c] at g2
   rw [decide_eq_false c] at this
   have:(m.cleared.length:Int)<60:=by simpa using this
   omega
theorem LJ {t:GTx} (ht:eN t) {k r:Int} (hk:1≤k∧k≤3) (hr:r ∈ bI t):nZ ⟨k,t.id,r,bY r t.sets⟩=true:=by
 obtain ⟨s,h1,h2⟩:=MB hr
 obtain ⟨g1,g2,g3⟩:=oP ht r
 have hmem:s ∈ bY r t.sets:=List.mem_filter.2 ⟨h1,by simpa using h2⟩
 have hlen:1≤(bY r t.sets).length:=List.length_pos_of_mem hmem
 have hlen2:(bY r t.sets).length≤12:=Nat.le_trans (List.length_filter_le _ _) ht.1.2.2.2.2.2.2
 have hr5:0≤r∧r≤5:=by have:=(sP.1 (g1 s hmem)).1;rw [h2] at this;exact this
 have hS:n8 (bY r t.sets)=true:=by
  unfold n8
  rw [oJ fun j hj=>?_]; · rfl
  unfold tE
  rw [g1 _ (cJ hj)]
  by_cases c:(j:Int) > 0
  ·rw [decide_eq_true c,show ((j:Int) - 1).toNat=j - 1 by omega]
   have:=iR (z:=aCm) g2 (a:=j - 1) (b:=j) (by omega) hj
   rw [decide_eq_false (show ¬ ((bY r t.sets).getD j aCm).slot≤((bY r t.sets).getD (j - 1) aCm).slot by omega)]
   rw [g3 _ (cJ hj),g3 _ (cJ (show 0<(bY r t.sets).length by omega))]
   simp
  ·rw [decide_eq_false c];rfl
 unfold nZ
 dsimp only
 rw [b6.2 hk,b6.2 ht.1.1,b6.2 hr5,decide_eq_true (show ((bY r t.sets).length:Int) ≥ 1 by omega),decide_eq_true (show ((bY r t.sets).length:Int)≤12 by omega),hS,g3 _ (cJ (show 0<(bY r t.sets).length by omega))]
 simp
theorem Y1 {b:Bool} {r:Int} {ms:List Int} {x:GCopyAt} {i:Nat} (hi:i≤ms.length) (h:x ∈ kW b r ms i):x.region=r:=by
 obtain ⟨j,_,rfl⟩:=CN hi h;rfl
theorem GM {c:GCluster} {ws:List Int} {b:Bool} {x:GCopyAt}:∀ {k:Nat},k≤ws.length→x ∈ mS c ws b k→x.region ∈ ws
 | 0,_,h=>by cases h
 | k+1,hk,h=>by
  rw [mS] at h
  rcases List.mem_append.1 h with h | h
  ·exact GM (by omega) h
  ·rw [Y1 (Nat.le_refl _) h];exact yI hk
theorem RT {c:GCluster} {t:GTx} (h3:t.phase≠3) {x:GCopyAt} (h:x ∈ dP c t):x.region ∈ bI t:=by
 unfold dP at h
 rw [if_neg h3] at h
 split at h
 ·exact GM (Nat.le_refl _) h
 ·split at h
  ·exact GM (Nat.le_refl _) h
  ·split at h
   ·cases h
   ·obtain ⟨r,h1,rfl⟩:=List.mem_map.1 h
    exact h1
theorem MI {xs:List GCell} {sets:List GSet} (h:kX xs sets=true):∀ s ∈ sets,fD (dN xs s).head=false:=fun s hs=>by
 have h:sets.any (qF xs)=false:=by unfold kX at h;simpa using h
 have:qF xs s=false:=by
  cases e:qF xs s with
  | false=>rfl
  | true=>rw [List.any_eq_true.2 ⟨s,hs,e⟩] at h;cases h
 unfold qF at this
 exact (cF.1 this).1
structure FO (m m':GMachine) (t t':GTx):Prop where
 mach:dO m'
 alive:m'.alive=m.alive
 has:∀ q,dX m' q=dX m q
 same:Same t t'
 stamp:t'.stamp=t.stamp
 phase:t'.phase=t.phase∧t'.done=t.done+1∨t'.phase=8∧t'.done=0
theorem tB {m m':GMachine} {t:GTx} (h1:dO m') (h2:m'.alive=m.alive) (h3:∀ q,dX m' q=dX m q):FO m m' t (dT t):=⟨h1,h2,h3,⟨rfl,rfl,rfl,rfl⟩,rfl, .inl ⟨rfl,rfl⟩⟩
theorem PY {m:GMachine} {t:GTx} (h1:dO m):FO m m t (oV t):=⟨h1,rfl,fun _=>rfl,⟨rfl,rfl,rfl,rfl⟩,rfl, .inr ⟨rfl,rfl⟩⟩
theorem aAX {t:GTx} (ht:eN t) {x:GCopyAt} {n:GNote} {m:GMachine} (hm:dO m) (hx:t.phase≠3→x.region ∈ bI t) (hh:m.alive=true→dX m x.region=true) (h0:(jG t x n m).1=0) :
  FO m (jG t x n m).2.1 t (jG t x n m).2.2:=by
 unfold jG at h0 ⊢
 cases ha:m.alive with
 | false=>rw [ha] at h0;cases h0
 | true =>
  rw [ha] at h0
  have hc:=(fH hm (hh ha)).2
  obtain ⟨s1,s2,s3⟩:=oP ht x.region
  simp only [Bool.not_true,cond_false] at h0 ⊢
  by_cases p2:t.phase=2
  ·rw [if_pos p2] at h0 ⊢
   cases e:kX (cellsOf m x.region) (bY x.region t.sets) with
   | false=>exact PY hm
   | true =>
    rw [e] at h0
    cases e2:decide ((m.log.length:Int)=200) with
    | true=>rw [e2] at h0;cases h0
    | false =>
     refine tB (LV (n7 hm (QQ s1 s2 hc (MI e))) (LJ ht (by omega) (hx (by omega))) (of_decide_eq_false e2)) rfl fun q=>mH _ _ _ _
  rw [if_neg p2] at h0 ⊢
  by_cases p3:t.phase=3
  ·rw [if_pos p3] at h0 ⊢
   cases (bif fD ((cellsOf m x.region).getD n.slot.toNat aCo).head then true else ((cellsOf m x.region).getD n.slot.toNat aCo).head.tdiv 4 != n.version) with
   | true=>exact PY hm
   | false=>exact tB hm rfl fun _=>rfl
  rw [if_neg p3] at h0 ⊢
  by_cases p4:t.phase=4
  ·rw [if_pos p4] at h0 ⊢
   cases e2:decide ((m.log.length:Int)=200) with
   | true=>rw [e2] at h0;cases h0
   | false=>exact tB (LV hm (LJ ht (by omega) (hx p3)) (of_decide_eq_false e2)) rfl fun _=>rfl
  rw [if_neg p4] at h0 ⊢
  by_cases p5:t.phase=5
  ·rw [if_pos p5] at h0 ⊢
   exact tB (ZH (n7 hm (GS hc s1)) _ _) rfl fun q=>mH _ _ _ _
  rw [if_neg p5] at h0 ⊢
  by_cases p6:t.phase=6
  ·rw [if_pos p6] at h0 ⊢
   cases e2:jI m t.id with
   | false=>rw [e2] at h0;cases h0
   | true =>
    cases x.backup with
    | true=>exact tB (zJ (n7 hm (GS hc s1)) ht.1.1 fun _=>e2) rfl fun q=>mH _ _ _ _
    | false=>exact tB (zJ hm ht.1.1 fun _=>e2) rfl fun _=>rfl
  rw [if_neg p6] at h0 ⊢
  by_cases p8:0≤oD m t.id x.region 1
  ·rw [if_pos p8] at h0 ⊢
   exact tB (zJ (n7 hm (N8 hc s1)) ht.1.1 fun e=>by cases e) rfl fun q=>mH _ _ _ _
  ·rw [if_neg p8] at h0 ⊢
   exact tB hm rfl fun _=>rfl
theorem SL {c:GCluster} (hok:ClusOk c) {i:Nat} (hi:i<c.txs.length) {y:Int×GTx} {ms:List GMachine} (h1:ms.length=c.machines.length)
  (h2:∀ j,j<ms.length→dO (ms.getD j aCj)∧(ms.getD j aCj).alive=(c.machines.getD j aCj).alive∧∀ q,dX (ms.getD j aCj) q=dX (c.machines.getD j aCj) q)
  (h3:c.clock≤y.1∧y.1≤1000000) (hs:Same (c.txs.getD i aCk) y.2) (h4:1≤y.2.phase∧y.2.phase≤9) (h5:0≤y.2.done∧y.2.done≤1000) (h6:0≤y.2.stamp∧y.2.stamp≤y.1):ClusOk (nW c i y ms):=by
 have ht0:=hok.tx hi
 have ht:eN y.2:=by
  obtain ⟨g1,g2,g3⟩:=ht0
  unfold eN nK
  rw [hs.id,hs.home,hs.reads,hs.sets]
  exact ⟨⟨g1.1,g1.2.1,h4,h5,by omega,g1.2.2.2.2.2⟩,g2,g3⟩
 have hget:∀ j,(c.txs.set i y.2).getD j aCk=if j=i then y.2 else c.txs.getD j aCk:=fun j=>lA hi j
 have hid:∀ j,((c.txs.set i y.2).getD j aCk).id=(c.txs.getD j aCk).id:=fun j=>by
  rw [hget];split
  ·rename_i e;subst e;exact hs.id
  ·rfl
 refine ⟨⟨hok.1.1,by show 0≤y.1∧y.1≤1000000;have:=hok.1.2.1;omega,by show 1≤ms.length∧ms.length≤8;rw [h1];exact hok.1.2.2.1,by show (c.txs.set i y.2).length≤60;rw [List.length_set];exact hok.1.2.2.2⟩,hok.2.1,fun j hj=>(h2 j hj).1,fun r hr k hk=>?_,fun j hj=>?_⟩
 ·have g:=hok.2.2.2.1 r hr k hk
  unfold o8 at g ⊢
  have e1:mAt (nW c i y ms) r k=mAt c r k:=rfl
  have e2:(nW c i y ms).machines=ms:=rfl
  rw [e1,e2,h1]
  by_cases c1:mAt c r k ≥ (c.machines.length:Int)
  ·rw [decide_eq_true c1] at g;cases g
  ·have c2:=(hok.at hr hk).1
   obtain ⟨_,q2,q3⟩:=h2 (mAt c r k).toNat (by rw [h1];omega)
   rw [q2,q3];exact g
 ·have hj:j<c.txs.length:=by
   have:j<(c.txs.set i y.2).length:=hj
   rwa [List.length_set] at this
  have g:=hok.2.2.2.2 j hj
  have e2:(nW c i y ms).txs=c.txs.set i y.2:=rfl
  have e3:(nW c i y ms).places=c.places:=rfl
  rw [e2,e3]
  refine ⟨?_,?_,?_⟩
  ·have g1:=g.1
   unfold l0 at g1 ⊢
   rw [e2]
   have e4:(nW c i y ms).machines.length=c.machines.length:=h1
   have e5:(nW c i y ms).clock=y.1:=rfl
   rw [e4,e5]
   obtain ⟨g2,g3⟩:=cF.1 g1
   obtain ⟨g4,g5⟩:=cF.1 g2
   obtain ⟨g6,g7⟩:=cF.1 g4
   rw [hid,hid]
   refine cF.2 ⟨cF.2 ⟨cF.2 ⟨?_,g7⟩,?_⟩,?_⟩
   ·rw [hget];split
    ·rw [cN ht];rfl
    ·exact g6
   ·rw [hget];split
    ·rename_i e;subst e;rw [hs.home];exact g5
    ·exact g5
   ·rw [hget];split
    ·exact decide_eq_false (by omega)
    ·have:=of_decide_eq_false g3
     exact decide_eq_false (by omega)
  ·rw [hget];split
   ·rename_i e;subst e;rw [hs.reads];exact g.2.1
   ·exact g.2.1
  ·rw [hget];split
   ·rename_i e;subst e;rw [hs.sets];exact g.2.2
   ·exact g.2.2
theorem TxIn.same {c:GCluster} {t u:GTx} (h:TxIn c t) (hs:Same t u) (h4:1≤u.phase∧u.phase≤9) (h5:0≤u.done∧u.done≤1000) (h6:0≤u.stamp∧u.stamp≤1000000):TxIn c u:=by
 obtain ⟨⟨g1,g2,g3⟩,hh,hn,hst⟩:=h
 refine ⟨?_,by rw [hs.home];exact hh,by rw [hs.reads];exact hn,by rw [hs.sets];exact hst⟩
 unfold eN nK
 rw [hs.id,hs.home,hs.reads,hs.sets]
 exact ⟨⟨g1.1,g1.2.1,h4,h5,h6,g1.2.2.2.2.2⟩,g2,g3⟩
theorem X7 {c:GCluster} (hok:ClusOk c) {i:Nat} (hi:i<c.txs.length):(c.txs.getD i aCk).stamp≤c.clock:=by
 have g1:=(hok.2.2.2.2 i hi).1
 unfold l0 at g1
 have:=of_decide_eq_false (cF.1 g1).2
 omega
structure Mid (c:GCluster) (i:Nat) (y:Int×GTx):Prop where
 tx:TxIn c y.2
 same:Same (c.txs.getD i aCk) y.2
 stop:mQ c y.2
 phase:2≤y.2.phase∧y.2.phase≤9
 clock:c.clock≤y.1∧y.1≤1000000
 lock:y.2.phase=2→y.1<1000000
 stamp:0≤y.2.stamp∧y.2.stamp≤y.1
theorem tF {c:GCluster} (hok:ClusOk c) {i:Nat} (hi:i<c.txs.length) (hp:2≤(c.txs.getD i aCk).phase∧(c.txs.getD i aCk).phase≤9) (hc:c.clock≠1000000):Mid c i (dY c (c.clock,c.txs.getD i aCk)):=by
 have hx:=hok.txIn hi
 have h1:=hok.1.2.1
 obtain ⟨q1,q2,q3,q4,q5⟩:=E3 (c:=c) (n:=8) (y:=(c.clock,c.txs.getD i aCk)) hp (by show 9 - (c.txs.getD i aCk).phase<((8:Nat):Int);omega) hx.ok.1.2.2.2.1 h1 (fun _=>by show c.clock<1000000;omega) ⟨hx.ok.1.2.2.2.2.1.1,X7 hok hi⟩
 have hs:Same (c.txs.getD i aCk) (dY c (c.clock,c.txs.getD i aCk)).2:=z0 (y:=(c.clock,c.txs.getD i aCk))
 have q2:(c.txs.getD i aCk).phase≤_∧_:=q2
 have q4:c.clock≤_∧_∧(_→_=c.clock):=q4
 exact ⟨hx.same hs ⟨Int.le_trans (by omega) q2.1,q2.2⟩ q3 ⟨q5.1,Int.le_trans q5.2 q4.2.1⟩,hs,q1,⟨Int.le_trans hp.1 q2.1,q2.2⟩,⟨q4.1,q4.2.1⟩,fun e=>by have:=q4.2.2 e;show (iW c 8 _).1<_;omega,q5⟩
theorem Mid.done {c:GCluster} {i:Nat} {y:Int×GTx} (h:Mid c i y) (hn:¬ (y.2.phase=7∨y.2.phase=9)):0≤y.2.done∧y.2.done.toNat<(dP c y.2).length:=by
 have h1:=h.tx.ok.1.2.2.2.1
 rcases h.stop with e | e | e
 ·exact absurd (.inl e) hn
 ·exact absurd (.inr e) hn
 ·omega
theorem Mid.at {c:GCluster} (hok:ClusOk c) {i:Nat} {y:Int×GTx} (h:Mid c i y) (hn:¬ (y.2.phase=7∨y.2.phase=9)):AtIn c (cZ c y.2)∧(y.2.phase≠3→(cZ c y.2).region ∈ bI y.2)∧(cZ c y.2).machine.toNat<c.machines.length∧0≤(cZ c y.2).machine ∧
  ((c.machines.getD (cZ c y.2).machine.toNat aCj).alive=true→dX (c.machines.getD (cZ c y.2).machine.toNat aCj) (cZ c y.2).region=true):=by
 have hm:cZ c y.2 ∈ dP c y.2:=cJ (h.done hn).2
 have h1:=QU hok h.tx _ hm
 obtain ⟨j,h2,h3,h4⟩:=h1.at'
 have h5:=hok.at (r:=(cZ c y.2).region.toNat) (k:=j) (by have:=h1.region;omega) h2
 rw [← h3,Int.toNat_of_nonneg h1.region.1] at h5
 have h6:=h5.2
 unfold bH at h6
 rw [← h3] at h6
 exact ⟨h1,fun e=>RT e hm,by omega,h5.1.1,h6⟩
theorem DV {c:GCluster} (hok:ClusOk c) {i:Nat} {y:Int×GTx} (h:Mid c i y) (hn:¬ (y.2.phase=7∨y.2.phase=9)) (h0:(b8 c y.2).1=0) :
  FO (c.machines.getD (cZ c y.2).machine.toNat aCj) (b8 c y.2).2.1 y.2 (b8 c y.2).2.2:=by
 obtain ⟨_,h2,h3,_,h5⟩:=h.at hok hn
 exact aAX h.tx.ok (hok.2.2.1 _ h3) h2 h5 h0
theorem xK {c:GCluster} (hok:ClusOk c) {i:Nat} {y:Int×GTx} (h:Mid c i y) (hn:¬ (y.2.phase=7∨y.2.phase=9)) {m m':GMachine} {t:GTx} (ha:FO m m' y.2 t):Mid c i (dY c (y.1,t)):=by
 have h1:=sM hok h.tx
 have h2:=h.done hn
 have hp:=h.phase
 have hc:=hok.1.2.1
 have hc2:=h.clock
 have hst:=h.stamp
 have hph:2≤t.phase∧t.phase≤9:=by rcases ha.phase with e | e <;>omega
 have hdn:0≤t.done∧t.done≤1000:=by rcases ha.phase with e | e <;>omega
 have hlk:t.phase=2→y.1<1000000:=fun e=>h.lock (by rcases ha.phase with e2 | e2 <;>omega)
 obtain ⟨q1,q2,q3,q4,q5⟩:=E3 (c:=c) (n:=8) (y:=(y.1,t)) hph (by show 9 - t.phase<((8:Nat):Int);omega) hdn (by show 0≤y.1∧y.1≤1000000;omega) hlk (by show 0≤t.stamp∧t.stamp≤y.1;rw [ha.stamp];exact hst)
 have hs:Same t (dY c (y.1,t)).2:=z0 (y:=(y.1,t))
 have q2:t.phase≤_∧_:=q2
 have q4:y.1≤_∧_∧(_→_=y.1):=q4
 exact ⟨h.tx.same (ha.same.trans hs) ⟨Int.le_trans (by omega) q2.1,q2.2⟩ q3 ⟨q5.1,Int.le_trans q5.2 q4.2.1⟩,h.same.trans (ha.same.trans hs),q1,⟨Int.le_trans hph.1 q2.1,q2.2⟩,⟨Int.le_trans hc2.1 q4.1,q4.2.1⟩,
  fun e=>by have:=q4.2.2 e;have e1:(iW c 8 (y.1,t)).2.phase=2:=e;have:=hlk (by omega);show (iW c 8 _).1<_;omega,q5⟩
theorem YR {c:GCluster} (hok:ClusOk c) {i:Nat} (hi:i<c.txs.length) (hp:2≤(c.txs.getD i aCk).phase∧(c.txs.getD i aCk).phase≤9) (hc:c.clock≠1000000) (h0:(eE c i).1=0):ClusOk (eE c i).2:=by
 have h1:=tF hok hi hp hc
 unfold eE at h0 ⊢
 dsimp only at h0 ⊢
 generalize hy:dY c (c.clock,c.txs.getD i aCk)=y at h0 h1 ⊢
 by_cases hn:y.2.phase=7∨y.2.phase=9
 ·rw [if_pos hn]
  exact SL hok hi rfl (fun j hj=>⟨hok.2.2.1 j hj,rfl,fun _=>rfl⟩) h1.clock h1.same (by have:=h1.phase;omega) h1.tx.ok.1.2.2.2.1 h1.stamp
 ·rw [if_neg hn] at h0 ⊢
  by_cases ha:(b8 c y.2).1=0
  ·rw [if_pos ha]
   have h2:=DV hok h1 hn ha
   have h3:=xK hok h1 hn h2
   have h4:=(h1.at hok hn).2.2.1
   refine SL hok hi (by rw [List.length_set]) (fun j hj=>?_) h3.clock h3.same (by have:=h3.phase;omega) h3.tx.ok.1.2.2.2.1 h3.stamp
   rw [List.length_set] at hj
   rw [lA h4]
   split
   ·rename_i e;subst e;exact ⟨h2.mach,h2.alive,h2.has⟩
   ·exact ⟨hok.2.2.1 j hj,rfl,fun _=>rfl⟩
  ·rw [if_neg ha] at h0
   exact absurd h0 ha
theorem nA {c:GCluster} {id:Int} (h:dZ c id=0):0≤bQ c id∧jE c id=true∧(bT c id).phase≠1∧(bT c id).phase≠7∧(bT c id).phase≠9:=by
 unfold dZ at h
 cases c1:decide (bQ c id<0) with
 | true=>rw [c1] at h;cases h
 | false =>
  cases c2:jE c id with
  | false=>rw [c1,c2] at h;cases h
  | true =>
   cases c3:((bT c id).phase == 1) with
   | true=>rw [c1,c2,c3] at h;cases h
   | false =>
    cases c4:((bT c id).phase == 7) with
    | true=>rw [c1,c2,c3,c4] at h;cases h
    | false =>
     cases c5:((bT c id).phase == 9) with
     | true=>rw [c1,c2,c3,c4,c5] at h;cases h
     | false=>exact ⟨by have:=of_decide_eq_false c1;omega,rfl,beq_eq_false_iff_ne.1 c3,beq_eq_false_iff_ne.1 c4,beq_eq_false_iff_ne.1 c5⟩
theorem qY {c:GCluster} (hok:ClusOk c) {id:Int} (h:dZ c id=0):2≤(bT c id).phase∧(bT c id).phase≤9:=by
 obtain ⟨h1,_,h3,_⟩:=nA h
 have:=(hok.tx (dW h1).1).1.2.2.1
 show 2≤(c.txs.getD (bQ c id).toNat aCk).phase∧_
 have h3:(c.txs.getD (bQ c id).toNat aCk).phase≠1:=h3
 exact ⟨by omega,this.2⟩
theorem lQ {c:GCluster} (hok:ClusOk c) (id:Int):ClusOk (bZ c id).1:=by
 unfold bZ
 rw [if_pos hok]
 by_cases h1:dZ c id=0
 ·rw [if_neg (by omega)]
  by_cases h2:c.clock=1000000
  ·rw [if_pos h2];exact hok
  ·rw [if_neg h2]
   by_cases h3:(eE c (bQ c id).toNat).1=0
   ·rw [if_pos h3]
    exact YR hok (dW (nA h1).1).1 (qY hok h1) h2 h3
   ·rw [if_neg h3];exact hok
 ·rw [if_pos h1];exact hok
end
section
theorem Z7 {α β:Type} (f:α→β) (p:β→Bool) (za:α):∀ xs:List α,cI p (xs.map f)=cI (fun x=>p (f x)) xs:=fun xs=>by
 rcases gH (fun x=>p (f x)) za xs with ⟨h1,h2⟩ | ⟨i,h1,h2,h3,h4⟩
 ·rw [h1]
  refine gT (z:=f za) fun j hj=>?_
  rw [List.length_map] at hj
  have:=h2 j hj
  rw [show (xs.map f).getD j (f za)=f (xs.getD j za) from by simp [List.getD_eq_getElem?_getD,hj]]
  exact this
 ·rw [h2]
  refine gA (z:=f za) (by rw [List.length_map];exact h1) (fun j hj=>?_) ?_
  ·rw [show (xs.map f).getD j (f za)=f (xs.getD j za) from by simp [List.getD_eq_getElem?_getD,show j<xs.length by omega]]
   exact h3 j hj
  ·rw [show (xs.map f).getD i (f za)=f (xs.getD i za) from by simp [List.getD_eq_getElem?_getD,h1]]
   exact h4
theorem VX {c d:GCluster} (h:d.txs.map GTx.id=c.txs.map GTx.id) (id:Int):bQ d id=bQ c id:=by
 have e:∀ x:GCluster,bQ x id=cI (· == id) (x.txs.map GTx.id):=fun x=>(Z7 GTx.id (· == id) aCk x.txs).symm
 rw [e,e,h]
theorem QD {c:GCluster} {i:Nat} {y:Int×GTx} {ms:List GMachine} (hi:i<c.txs.length) (hs:Same (c.txs.getD i aCk) y.2):(nW c i y ms).txs.map GTx.id=c.txs.map GTx.id:=by
 show (c.txs.set i y.2).map GTx.id=_
 rw [S8,hs.id]
 apply List.ext_getElem
 ·simp
 ·intro j h1 h2
  rw [List.getElem_set]
  split
  ·rename_i e;subst e;simp [hi]
  ·rfl
theorem W3 {c:GCluster} (hok:ClusOk c) {i:Nat} (hi:i<c.txs.length) (hp:2≤(c.txs.getD i aCk).phase∧(c.txs.getD i aCk).phase≤9) (hc:c.clock≠1000000):(eE c i).2.txs.map GTx.id=c.txs.map GTx.id:=by
 have h1:=tF hok hi hp hc
 unfold eE
 dsimp only
 generalize dY c (c.clock,c.txs.getD i aCk)=y at h1 ⊢
 by_cases hn:y.2.phase=7∨y.2.phase=9
 ·rw [if_pos hn];exact QD hi h1.same
 ·rw [if_neg hn]
  by_cases ha:(b8 c y.2).1=0
  ·rw [if_pos ha]
   exact QD hi (xK hok h1 hn (DV hok h1 hn ha)).same
  ·rw [if_neg ha]
theorem uI {c:GCluster} (hok:ClusOk c) (id q:Int):bQ (bZ c id).1 q=bQ c q:=by
 unfold bZ
 rw [if_pos hok]
 by_cases h1:dZ c id=0
 ·rw [if_neg (by omega)]
  by_cases h2:c.clock=1000000
  ·rw [if_pos h2]
  ·rw [if_neg h2]
   by_cases h3:(eE c (bQ c id).toNat).1=0
   ·rw [if_pos h3]
    exact VX (W3 hok (dW (nA h1).1).1 (qY hok h1) h2) q
   ·rw [if_neg h3]
 ·rw [if_pos h1]
def lE (t:GTx):Bool:=bif t.phase == 7 then true else t.phase == 9
noncomputable def jX (id:Int):Nat→GCluster→GCluster×Int
 | 0,c=>(c,0)
 | n+1,c=>if (bZ c id).2=0 then (if lE (bT (bZ c id).1 id)=true then ((bZ c id).1,0) else jX id n (bZ c id).1) else (c,(bZ c id).2)
open Classical in
noncomputable def cM (c:GCluster) (id:Int):GCluster×Int:=if ClusOk c then jX id 200 c else (aCl,1)
theorem vU {c:GCluster} {id:Int} {n:Nat} (h:(bZ c id).2≠0):jX id (n+1) c=(c,(bZ c id).2):=by rw [jX,if_neg h]
theorem EY {id:Int}:∀ {n:Nat} {c:GCluster},ClusOk c→ClusOk (jX id n c).1
 | 0,c,h=>h
 | n+1,c,h=>by
  rw [jX]
  split
  ·split
   ·exact lQ h id
   ·exact EY (lQ h id)
  ·exact h
theorem R3 {c:GCluster} (hok:ClusOk c) {id:Int} (h:dZ c id≠0):cM c id=(c,dZ c id):=by
 have hs:bZ c id=(c,dZ c id):=by unfold bZ;rw [if_pos hok,if_pos h]
 unfold cM
 rw [if_pos hok,vU (by rw [hs];exact h),hs]
end
section
theorem aBX (v:Int) (h:0≤v∧v≤1000000) (u:Bool):Ans Tryz.prog 267 [] [vI v,vB u,vB false] [] (vI (4 * v+(bif u then 2 else 0))):=by
 refine aE Tryz.func267 fun B0 r_ D_ w0=>?_
 refine aF ?_
 refine aA (fun e=>?_) (fun e=>?_)
 ·subst e
  refine aF ?_
  refine bX rfl (fun e=>by cases e) (fun _=>?_)
  refine aF ?_
  exact aJ [(6,none)] (rfl)
 ·subst e
  refine aF ?_
  refine bX rfl (fun e=>by cases e) (fun _=>?_)
  refine aF ?_
  exact dK TT_ok [(6,none)] rfl rfl ((by simp))
theorem O9 (v:Int) (h:0≤v∧v≤1000000) (u:Bool):Ans Tryz.prog 239 [] [vI v,vB u,vB false] [] (vI (4 * v+(bif u then 2 else 0))):=by
 refine aE Tryz.func239 fun B0 r_ D_ w0=>?_
 refine aF ?_
 refine aA (fun e=>?_) (fun e=>?_)
 ·subst e
  refine aF ?_
  refine bX rfl (fun e=>by cases e) (fun _=>?_)
  refine aF ?_
  exact aJ [(6,none)] (rfl)
 ·subst e
  refine aF ?_
  refine bX rfl (fun e=>by cases e) (fun _=>?_)
  refine aF ?_
  exact dK TT_ok [(6,none)] rfl rfl ((by simp))
theorem u7 {ys:List GCell} {s:GSet} (h:dF ys=true) (hs:eO s=true):ys.length=6∧(0≤s.slot∧s.slot≤5)∧(0≤s.version∧s.version≤999999)∧jW (dN ys s).head=true∧0≤(dN ys s).head∧(dN ys s).head≤4000003∧0≤(dN ys s).head.tdiv 4∧(dN ys s).head.tdiv 4≤1000000:=by
 have h1:=lF.1 h
 have h2:=sP.1 hs
 have h3:=(nU.1 (h1.2 _ (DF h1.1 hs))).1
 have h4:jW (dN ys s).head=true:=kR.2 h3
 rw [vC h3.1]
 exact ⟨h1.1,h2.2.1,h2.2.2.2,h4,h3.1,h3.2,by omega,by omega⟩
theorem beqN {j i:Nat}:Nat.beq j i=decide (j=i):=by
 by_cases c:j=i
 ·subst c;rw [Nat.beq_refl,decide_eq_true rfl]
 ·rw [decide_eq_false c]
  cases e:Nat.beq j i with
  | false=>rfl
  | true=>exact absurd (Nat.eq_of_beq_eq_true e) c
end
section
theorem mF (h:Int):Ans Tryz.prog 188 [] [vI h] [] (vI (yN h)):=by
 refine aE Tryz.func188 fun B0 r_ D_ w0=>?_
 refine aF ?_
 refine aH (rW _) ?_
 refine eF rfl (fun e=>?_) (fun e=>?_)
 ·rw [show yN h = -1 from by unfold yN;rw [if_neg (by rw [show jW h=false from e];simp)]]
  refine aF ?_
  exact aJ [(2,none)] (rfl)
 ·have hh:=kR.1 (show jW h=true from e)
  have hv:0≤h.tdiv 4∧h.tdiv 4≤1000000:=by rw [Int.tdiv_eq_ediv_of_nonneg hh.1];omega
  rw [show yN h=h.tdiv 4 from by unfold yN;rw [if_pos (show jW h=true from e)]]
  refine aF ?_
  exact aJ [(2,none)] (rfl)
noncomputable def fP (c:GCluster) (t:GTx) (r s:Int):GTx×Int×Int :=
 bif tJ c r s then (t,0,5) else ((gP c t r s).1,(if (gP c t r s).2.2.2=0 then (gP c t r s).2.2.1 else 0),(gP c t r s).2.2.2)
theorem X4 {t:GTx} {n:GNote} (h1:t.reads.any (eG n.region n.slot)=false) (h2:(cD t n).2=true) (hs:K6 t.reads) :
  (0≤cI (eG n.region n.slot) (cD t n).1.reads∧cI (eG n.region n.slot) (cD t n).1.reads<(cD t n).1.reads.length)∧oC (cD t n).1 n.region n.slot=n:=by
 have hM:(cD t n).1.reads=iB (o5 (FD n.region n.slot) aCn t.reads) n t.reads:=by
  unfold cD at h2 ⊢
  rw [h1] at h2 ⊢
  cases d:decide ((t.reads.length:Int)=12) with
  | true=>rw [d] at h2;cases h2
  | false=>rfl
 have hany:(cD t n).1.reads.any (eG n.region n.slot)=true:=by
  rw [hM];exact List.any_eq_true.2 ⟨n,pA.2 (.inl rfl),xN.2 ⟨rfl,rfl⟩⟩
 have h0:=(gJ (z:=aCn)).2 hany
 obtain ⟨g1,g2⟩:=oE (z:=aCn) h0
 refine ⟨⟨h0,by omega⟩,?_⟩
 have hmem:oC (cD t n).1 n.region n.slot ∈ (cD t n).1.reads:=cJ g1
 rw [hM] at hmem
 rcases pA.1 hmem with h | h
 ·exact h
 ·exact absurd (xN.1 g2) (ET h1 _ h)
theorem BO (c:GCluster) (hb:D.bds dJ (bO c)) (hok:ClusOk c) (t:GTx) (ht:eN t) (r s:Int) :
  Con Tryz.prog 281 [78,79] [vR (bO c),BQ t 78 79,vI r,vI s] [(78,bE 5 cT aCn t.reads),(79,bE 5 cP aCm t.sets)] (fun _:Unit=>True) (fun _=>[BQ (fP c t r s).1 80 81,vI (fP c t r s).2.1,vI (fP c t r s).2.2])
   fun _=>[(80,bE 5 cT aCn (fP c t r s).1.reads),(81,bE 5 cP aCm (fP c t r s).1.sets)]:=by
 have hsS:=m4 ht.2.2
 have hsN:=tI ht.2.1
 have hl1:=ht.1.2.2.2.2.2.1
 have hl2:=ht.1.2.2.2.2.2.2
 have hbt:D.bds dJ (cTx t):=FH t (by unfold wTx;show _≤1048576;omega)
 have b1:c.places.length≤1048576:=hb.2.2.1.1
 refine aE Tryz.func281 fun B0 r_ D_ w0=>?_
 refine aT ?_
 refine aU 4 fun r_=>?_
 refine aF ?_
 refine aH (eA _ _ _) ?_
 refine aH (r7 _) ?_
 refine aA (b:=tJ c r s) (fun e=>?_) (fun e=>?_)
 ·rw [show fP c t r s=(t,0,5) from by unfold fP;rw [e];rfl]
  refine aF ?_
  refine bB (a9 8 4 78) ?_
  refine bB (a6 8 4 80) ?_
  refine bB (a9 8 5 79) ?_
  refine bB (a6 8 5 81) ?_
  refine aC (()) [(8,some 48),(9,none),(10,none)] ?_ ?_ ?_
  ·exact aCu _
  ·exact wM
  ·trivial
 obtain ⟨hr,hs⟩:=BS e
 have hpl:=hok.pl (r:=r.toNat) (by omega)
 have hm:=(hok.at (r:=r.toNat) (k:=0) (by omega) (by omega)).1
 have hq:fP c t r s=((gP c t r s).1,(if (gP c t r s).2.2.2=0 then (gP c t r s).2.2.1 else 0),(gP c t r s).2.2.2):=by unfold fP;rw [e];rfl
 rw [hq]
 refine aF ?_
 refine l4 TT_ok (FL t (by omega) r s) rfl rfl rfl rfl rfl ?_
 refine aI (fun e1=>?_) (fun e1=>?_)
 ·have hany:t.sets.any (dS r s)=true:=(gJ (z:=aCm)).1 e1
  have hin:=oE (z:=aCm) e1
  have hin2:0≤cI (dS r s) t.sets∧cI (dS r s) t.sets<t.sets.length:=⟨e1,by omega⟩
  rw [show gP c t r s=(t,(xQ t r s).version,(xQ t r s).value,qM (xQ t r s).used) from by unfold gP;rw [hany];rfl]
  refine aF ?_
  refine aA (b := !(xQ t r s).used) (fun e2=>?_) (fun e2=>?_)
  ·rw [show (xQ t r s).used=false from by simpa using e2,show qM false=8 from rfl]
   refine aF ?_
   refine bB (a9 8 4 78) ?_
   refine bB (a6 8 4 80) ?_
   refine bB (a9 8 5 79) ?_
   refine bB (a6 8 5 81) ?_
   refine aC (()) [(8,some 48),(9,none),(10,none)] ?_ ?_ ?_
   ·exact aCu _
   ·exact wM
   ·trivial
  rw [show (xQ t r s).used=true from by simpa using e2,show qM true=0 from rfl]
  refine aF ?_
  refine aW [8] [0,1,2,3,4,5,6,7,8,9] fun B0 H0=>?_
  refine bG 7 rfl (by kernel_rfl) (aV (bD ?_))
  refine aY [8,9] ?_
  refine aP ?_
  refine bB (a9 8 4 78) ?_
  refine bB (a6 8 4 80) ?_
  refine bB (a9 8 5 79) ?_
  refine bB (a6 8 5 81) ?_
  refine aC (()) [(8,some 48),(9,none),(10,none)] ?_ ?_ ?_
  ·exact aCu _
  ·exact wM
  ·trivial
 have hany:t.sets.any (dS r s)=false:=by
  cases h:t.sets.any (dS r s) with
  | false=>rfl
  | true=>exact absurd ((gJ (z:=aCm)).2 h) e1
 refine aF ?_
 refine l4 TT_ok (zC t (by omega) r s) rfl rfl rfl rfl rfl ?_
 refine aI (fun e2=>?_) (fun e2=>?_)
 ·have hany2:t.reads.any (eG r s)=false:=by
   cases h:t.reads.any (eG r s) with
   | false=>rfl
   | true=>have:=(gJ (z:=aCn)).2 h;omega
  have hP:=FW c hb hok r hr
  refine aF ?_
  cases ha:(bH c r.toNat 0).alive with
  | false =>
   rw [if_neg (by rw [ha];simp)] at hP
   rw [show gP c t r s=(t,0,0,6) from by unfold gP;rw [hany,hany2,ha];rfl]
   refine aR (hP) fun _ _=>?_
   refine aN ?_
   refine bX rfl (fun _=>?_) (fun e=>by cases e)
   refine aF ?_
   refine bB (a9 8 4 78) ?_
   refine bB (a6 8 4 80) ?_
   refine bB (a9 8 5 79) ?_
   refine bB (a6 8 5 81) ?_
   refine aC (()) [(8,some 48),(9,none),(10,none)] ?_ ?_ ?_
   ·exact aCu _
   ·exact wM
   ·trivial
  | true =>
   rw [if_pos ha] at hP
   refine aR (hP) fun _ _=>?_
   refine aN ?_
   refine mC rfl (fun e=>absurd e (by omega)) (fun _=>?_)
   have hhas:=(hok.at (r:=r.toNat) (k:=0) (by omega) (by omega)).2 ha
   rw [Int.toNat_of_nonneg hr.1] at hhas
   have hix:=oE (z:=aCp) ((gJ (z:=aCp)).2 (show (bH c r.toNat 0).copies.any (atB r)=true from hhas))
   have hix2:0≤cI (atB r) (bH c r.toNat 0).copies∧cI (atB r) (bH c r.toNat 0).copies<(bH c r.toNat 0).copies.length:=⟨(gJ (z:=aCp)).2 hhas,by omega⟩
   obtain ⟨c1,c2,c3⟩:=E8 hok hr hs ha
   have hco:=eW hhas
   have hlen:((bH c r.toNat 0).copies.getD (cI (atB r) (bH c r.toNat 0).copies).toNat aCp).cells.length=6:=by rw [← hco];exact c1
   have hcell:((bH c r.toNat 0).copies.getD (cI (atB r) (bH c r.toNat 0).copies).toNat aCp).cells.getD s.toNat aCo=gN c r s:=by rw [← hco];rfl
   refine S4 TT_ok rfl ?_ ?_
   ·exact ⟨⟨hs.1,by rw [hlen];omega⟩,⟨hix2.1,hix2.2⟩,⟨hm.1,hm.2⟩,trivial⟩
   rw [hcell]
   refine aH (pC _) ?_
   refine aA (fun e4=>?_) (fun e4=>?_)
   ·rw [show gP c t r s=(t,0,0,7) from by unfold gP;rw [hany,hany2,ha,e4];rfl]
    refine aF ?_
    refine bB (a9 8 4 78) ?_
    refine bB (a6 8 4 80) ?_
    refine bB (a9 8 5 79) ?_
    refine bB (a6 8 5 81) ?_
    refine aC (()) [(8,some 48),(9,none),(10,none)] ?_ ?_ ?_
    ·exact aCu _
    ·exact wM
    ·trivial
   have hN:=MS hok hr hs ha
   have hAM:d8 t (eI c r s)=if (cD t (eI c r s)).2=true then ((cD t (eI c r s)).1,true) else (aCk,false):=by
    unfold d8
    by_cases h2:(cD t (eI c r s)).2=true
    ·rw [if_pos ⟨ht,hN,h2⟩,if_pos h2]
    ·rw [if_neg fun h=>h2 h.2.2,if_neg h2]
   refine aF ?_
   refine a7 (ι:=Unit) (fun _=>[(16, .a (.p 16 0)),(17,vB (d8 t (eI c r s)).2)]) (fun _=>[(16, .row (o3 (d8 t (eI c r s)).1 161 162)),(161,bE 5 cT aCn (d8 t (eI c r s)).1.reads),(162,bE 5 cP aCm (d8 t (eI c r s)).1.sets)]) (fun _=>True) [] [] ?_ ?_
   ·refine aW [] [0,1,2,3,4,6,7,8,9,5,10,11,12,13,14,15,16,17,18] fun B0 H0=>?_
    refine fU 5 (mF _) rfl rfl rfl (aCu _) rfl ?_
    rw [show yN (gN c r s).head=(gN c r s).head.tdiv 4 from by unfold yN;rw [if_pos c2]]
    refine fU 10 (AL _) rfl rfl rfl (aCu _) rfl ?_
    refine aY [11,12,13,14,15,16,17,18] ?_
    refine eU 12 16 rfl rfl (by kernel_rfl) (gG (aCv 901 161 (aCv 902 162 (mB t hbt (eI c r s)))) rfl rfl (aCu _) (fun _=>rfl) rfl rfl rfl (fun _ _=>bD ?_)) (aV (bD ?_))
    ·refine aY [13,14,15,16,17,18] ?_
     refine bG 16 rfl (by kernel_rfl) (aV (bD ?_))
     refine bG 17 rfl (by kernel_rfl) (aV (bD ?_))
     refine aY [18] ?_
     refine aP ?_
     exact aL () trivial Nat.zero_lt_one
    ·skip
     refine aX 12 (aCv 901 161 (aCv 902 162 (mB t hbt (eI c r s)))) fun _ _=>?_
     refine aY [13,14,15,17,18] ?_
     refine bG 17 rfl (by kernel_rfl) (aV (bD ?_))
     refine aY [18] ?_
     refine aP ?_
     exact aL () trivial Nat.zero_lt_one
   rintro ⟨⟩ _
   refine aZ ?_
   cases h2:(cD t (eI c r s)).2 with
   | false =>
    rw [show d8 t (eI c r s)=(aCk,false) from by rw [hAM,h2];rfl]
    rw [show gP c t r s=(t,0,0,9) from by unfold gP;rw [hany,hany2,ha,e4,h2];rfl]
    refine bX rfl (fun _=>?_) (fun e=>by cases e)
    refine aF ?_
    refine bB (a9 8 4 78) ?_
    refine bB (a6 8 4 80) ?_
    refine bB (a9 8 5 79) ?_
    refine bB (a6 8 5 81) ?_
    refine aC (()) [(8,some 48),(9,none),(10,none)] ?_ ?_ ?_
    ·exact aCu _
    ·exact wM
    ·trivial
   | true =>
    obtain ⟨g1,g2⟩:=X4 (n:=eI c r s) hany2 h2 hsN
    have g3:=(xL ht hN).1.1.2.2.2.2.2.1
    have g1:0≤cI (eG r s) (cD t (eI c r s)).1.reads∧cI (eG r s) (cD t (eI c r s)).1.reads<(cD t (eI c r s)).1.reads.length:=g1
    have g4:(cD t (eI c r s)).1.sets=t.sets:=DL _ _
    rw [show d8 t (eI c r s)=((cD t (eI c r s)).1,true) from by rw [hAM,h2];rfl]
    rw [show gP c t r s=((cD t (eI c r s)).1,(eI c r s).version,(eI c r s).value,qM (eI c r s).used) from by unfold gP;rw [hany,hany2,ha,e4,h2];rfl]
    refine bX rfl (fun e=>by cases e) (fun _=>?_)
    refine aF ?_
    refine l4 TT_ok (zC (cD t (eI c r s)).1 (by omega) r s) rfl rfl rfl rfl rfl ?_
    unfold oC at g2
    rw [show (eI c r s).region=r from rfl,show (eI c r s).slot=s from rfl] at g2
    rw [g2]
    refine aA (b := !(eI c r s).used) (fun e5=>?_) (fun e5=>?_)
    ·rw [show (eI c r s).used=false from by simpa using e5,show qM false=8 from rfl]
     refine aF ?_
     refine bB (a9 8 4 161) ?_
     refine bB (a6 8 4 80) ?_
     refine bB (a9 8 5 162) ?_
     refine bB (a6 8 5 81) ?_
     refine aC (()) [(8,some 48),(9,none),(10,none)] ?_ ?_ ?_
     ·exact aCu _
     ·exact wM
     ·trivial
    rw [show (eI c r s).used=true from by simpa using e5,show qM true=0 from rfl]
    refine aF ?_
    refine aW [8] [0,1,2,3,4,5,6,7,8,9] fun B0 H0=>?_
    refine bG 7 rfl (by kernel_rfl) (aV (bD ?_))
    refine aY [8,9] ?_
    refine aP ?_
    rw [g2]
    refine bB (a9 8 4 161) ?_
    refine bB (a6 8 4 80) ?_
    refine bB (a9 8 5 162) ?_
    refine bB (a6 8 5 81) ?_
    refine aC (()) [(8,some 48),(9,none),(10,none)] ?_ ?_ ?_
    ·exact aCu _
    ·exact wM
    ·trivial
 have hany2:t.reads.any (eG r s)=true:=(gJ (z:=aCn)).1 (by omega)
 have hin:=oE (z:=aCn) (show 0≤cI (eG r s) t.reads by omega)
 have hin2:0≤cI (eG r s) t.reads∧cI (eG r s) t.reads<t.reads.length:=⟨by omega,by omega⟩
 rw [show gP c t r s=(t,(oC t r s).version,(oC t r s).value,qM (oC t r s).used) from by unfold gP;rw [hany,hany2];rfl]
 refine aF ?_
 refine aA (b := !(oC t r s).used) (fun e5=>?_) (fun e5=>?_)
 ·rw [show (oC t r s).used=false from by simpa using e5,show qM false=8 from rfl]
  refine aF ?_
  refine bB (a9 8 4 78) ?_
  refine bB (a6 8 4 80) ?_
  refine bB (a9 8 5 79) ?_
  refine bB (a6 8 5 81) ?_
  refine aC (()) [(8,some 48),(9,none),(10,none)] ?_ ?_ ?_
  ·exact aCu _
  ·exact wM
  ·trivial
 rw [show (oC t r s).used=true from by simpa using e5,show qM true=0 from rfl]
 refine aF ?_
 refine aW [8] [0,1,2,3,4,5,6,7,8,9] fun B0 H0=>?_
 refine bG 7 rfl (by kernel_rfl) (aV (bD ?_))
 refine aY [8,9] ?_
 refine aP ?_
 refine bB (a9 8 4 78) ?_
 refine bB (a6 8 4 80) ?_
 refine bB (a9 8 5 79) ?_
 refine bB (a6 8 5 81) ?_
 refine aC (()) [(8,some 48),(9,none),(10,none)] ?_ ?_ ?_
 ·exact aCu _
 ·exact wM
 ·trivial
theorem Q8 (c:GCluster) (hb:D.bds dJ (bO c)) (id r s:Int):aAv Tryz.prog 273 [vR (bO c),vI id,vI r,vI s] (pO c id r s).1 (pO c id r s).2.1 (pO c id r s).2.2:=by
 have b3:c.txs.length≤1048576:=hb.2.2.2.2.1.1
 refine aE Tryz.func273 fun B0 r_ D_ w0=>?_
 refine aT ?_
 refine aU 4 fun r_=>?_
 refine aF ?_
 refine aR (yW c hb id) fun _ _=>?_
 refine aN ?_
 by_cases hok:ClusOk c
 ·by_cases h0:dG c id=0
  ·have hge:=(jS h0).2.2
   have hlt:=gO (c:=c) (id:=id)
   have hin:=dW hge
   have ht:=hok.tx hin.1
   rw [show pO c id r s=(t7 c id (fP c (bT c id) r s).1,(fP c (bT c id) r s).2.1,(fP c (bT c id) r s).2.2) from by
    unfold pO fP
    rw [if_pos hok,if_pos h0]
    cases tJ c r s with
    | true =>
     have hp:t7 c id (bT c id)=c:=by
      unfold t7
      have:c.txs.set (bQ c id).toNat (bT c id)=c.txs:=by
       unfold bT
       rw [show c.txs.getD (bQ c id).toNat aCk=c.txs[(bQ c id).toNat]'hin.1 from by simp [hin.1]]
       exact List.set_getElem_self hin.1
      rw [this]
     show (c,(0:Int),(5:Int))=(t7 c id (bT c id),0,5)
     rw [hp]
    | false=>rfl]
   rw [show jH c id=(bQ c id,0) from by unfold jH;rw [if_pos hok,if_pos h0]]
   refine bX rfl (fun e=>by cases e) (fun _=>?_)
   refine aF ?_
   refine aR (aCv 901 6001 (aCv 902 6002 (aCv 903 6003 (fY c hb)))) fun _ _=>?_
   refine aN ?_
   refine bB (d6 6003 (bQ c id) 77 rfl rfl rfl rfl rfl rfl ⟨hge,hlt⟩) ?_
   refine bB (a6 77 4 78) ?_
   refine bB (a6 77 5 79) ?_
   refine a7 (ι:=Unit) (fun _=>[(16, .a (.p 16 0)),(17,vI (fP c (bT c id) r s).2.1),(12,vI (fP c (bT c id) r s).2.2)]) (fun _=>[(16, .row (o3 (fP c (bT c id) r s).1 80 81)),(80,bE 5 cT aCn (fP c (bT c id) r s).1.reads),(81,bE 5 cP aCm (fP c (bT c id) r s).1.sets)]) (fun _=>True) [78,79] [] ?_ ?_
   ·refine aW [78,79] [0,1,2,3,4,6,7,5,8,9,10,11,12,13,14,15,16] fun B0 H0=>?_
    refine AB (z8 41 rfl rfl rfl) ?_
    refine aY [5,8,9,10,11,12,13,14,15,16] ?_
    refine eU 8 13 rfl rfl (by kernel_rfl) (gG (BO c hb hok (bT c id) ht r s) rfl rfl (aCu _) (fun _=>rfl) rfl rfl rfl (fun _ _=>bD ?_)) (aV (bD ?_))
    ·refine aY [9,10,11,12,13,14,15,16] ?_
     refine bG 13 rfl (by kernel_rfl) (aV (bD ?_))
     refine bG 14 rfl (by kernel_rfl) (aV (bD ?_))
     refine aY [15,16] ?_
     refine aP ?_
     exact aL () trivial Nat.zero_lt_one
    ·skip
     refine aX 8 (BO c hb hok (bT c id) ht r s) fun _ _=>?_
     refine aY [9,10,11,12,14,15,16] ?_
     refine bG 14 rfl (by kernel_rfl) (aV (bD ?_))
     refine aY [15,16] ?_
     refine aP ?_
     exact aL () trivial Nat.zero_lt_one
   rintro ⟨⟩ _
   refine aZ ?_
   refine eY (kL 53 rfl rfl rfl) ?_
   refine aN ?_
   refine bB (a9 77 4 80) ?_
   refine bB (a9 77 5 81) ?_
   refine bB (a8 6003 77) ?_
   refine bB (bL 6001 901) ?_
   refine bB (bL 6002 902) ?_
   refine bB (bL 6003 903) ?_
   refine aC (()) [(8,some 28),(9,none),(10,none)] ?_ ?_ ?_
   ·exact aCu _
   ·exact ⟨⟨_,rfl,aCt _⟩,⟨_,rfl,aCt _⟩,⟨_,rfl,cG (OwnI.refl _)⟩,trivial⟩
   ·trivial
  ·rw [show pO c id r s=(c,0,dG c id) from by unfold pO;rw [if_pos hok,if_neg h0]]
   rw [show jH c id=(-1,dG c id) from by unfold jH;rw [if_pos hok,if_neg h0]]
   refine fO rfl (fun e=>?_) (fun e=>absurd e h0)
   refine aF ?_
   have h1:dG c id≠1:=by
    unfold dG
    cases decide (bQ c id<0) <;>cases jE c id <;>cases (bT c id).phase == 1 <;>decide
   refine aR (mK c hb (dG c id) h1) fun _ _=>?_
   refine aN ?_
   refine aC (()) [(8,some 28),(9,none),(10,none)] ?_ ?_ ?_
   ·exact aCu _
   ·exact wM
   ·trivial
 ·rw [show pO c id r s=(aCl,0,1) from if_neg hok]
  rw [show jH c id=(-1,1) from if_neg hok]
  refine bX rfl (fun _=>?_) (fun e=>by cases e)
  refine aF ?_
  refine aR (tA c) fun _ _=>?_
  refine aN ?_
  refine aC (()) [(8,some 28),(9,none),(10,none)] ?_ ?_ ?_
  ·exact aCu _
  ·exact wM
  ·trivial
end
section
theorem AJ (xs:List GCell) (sets:List GSet) (hl:sets.length≤1048576) (hx:dF xs=true) (hs:∀ s ∈ sets,eO s=true) :
  Con Tryz.prog 174 [900] [.a (.g 900),vL 5 cP aCm sets] [(900,bE 2 cX aCo xs)] (fun _:Unit=>True) (fun _=>[]) fun _=>[(900,bE 2 cX aCo (lM xs sets))]:=by
 refine aE Tryz.func174 fun B0 r_ D_ w0=>?_
 refine aF ?_
 refine aK (ι:=Nat) (fun i=>[(4,vI i)]) (fun i=>[(900,bE 2 cX aCo ((sets.take i).foldl nR xs))]) (fun i=>i≤sets.length) (fun i=>sets.length - i) 0 [900] [] (Nat.zero_le _) ?_
 intro i h1
 refine aF ?_
 refine aI (fun e=>?_) (fun e=>?_)
 ·have hi:i<sets.length:=by omega
  have hsb:=hs _ (cJ (z:=aCm) hi)
  have hy:dF ((sets.take i).foldl nR xs)=true:=sG (fun _ _=>GR) (fun s h=>hs s (List.mem_of_mem_take h)) hx
  obtain ⟨c1,c2,c3,c4,c5,c6,c7,c8⟩:=u7 hy hsb
  have hF:=qR (z:=aCm) nR xs hi
  generalize hys:(sets.take i).foldl nR xs=ys at hy c1 c4 c5 c6 c7 c8 hF ⊢
  have hV:=UP c4
  unfold dN at c7 c8 hV
  refine aF ?_
  refine aW [] [0,1,2,3,4,5,7,8,6,9] fun B0 H0=>?_
  refine fU 6 (mF _) rfl rfl rfl (aCu _) rfl ?_
  refine aY [9] ?_
  refine aP ?_
  refine aI (fun e2=>?_) (fun e2=>?_)
  ·simp only [Int.toNat_natCast] at e2
   rw [hV] at e2
   refine aF ?_
   exact bN (i+1) hi (by omega) wF ⟨⟨_,rfl,bP (by rw [hF];unfold nR;rw [if_pos (show (dN ys (sets.getD i aCm)).head.tdiv 4 > (sets.getD i aCm).version from e2)])⟩,wM⟩
  ·simp only [Int.toNat_natCast] at e2
   rw [hV] at e2
   have hN:nR ys (sets.getD i aCm)=ys.set (sets.getD i aCm).slot.toNat (zQ (sets.getD i aCm)):=by unfold nR;rw [if_neg (show ¬ (dN ys (sets.getD i aCm)).head.tdiv 4 > (sets.getD i aCm).version from e2)]
   refine aF ?_
   refine eF rfl (fun e3=>?_) (fun e3=>?_)
   ·refine aF ?_
    refine aW [] [0,1,2,3,4,5,6,7,9,8,10,11,12] fun B0 H0=>?_
    refine fU 8 (O9 ((sets.getD i aCm).version+1) ⟨by omega,by omega⟩ _) rfl rfl rfl (aCu _) rfl ?_
    refine aY [10,11,12] ?_
    refine dR 12 rfl (by kernel_rfl) (by kernel_rfl) (aV (eJ [] fun B0 H0=>?_))
    refine aP ?_
    exact bN (i+1) hi (by omega) wF ⟨⟨_,rfl,by rw [hF,hN];unfold zQ;simp only [Int.toNat_natCast] at e3 ⊢;rw [e3];exact cG (OwnI.refl _)⟩,wM⟩
   ·refine aF ?_
    refine aW [] [0,1,2,3,4,5,6,7,9,8,10,11,12] fun B0 H0=>?_
    refine fU 8 (O9 ((sets.getD i aCm).version+1) ⟨by omega,by omega⟩ _) rfl rfl rfl (aCu _) rfl ?_
    refine aY [10,11,12] ?_
    refine dR 12 rfl (by kernel_rfl) (by kernel_rfl) (aV (eJ [] fun B0 H0=>?_))
    refine aP ?_
    exact bN (i+1) hi (by omega) wF ⟨⟨_,rfl,by rw [hF,hN];unfold zQ;simp only [Int.toNat_natCast] at e3 ⊢;rw [e3];exact cG (OwnI.refl _)⟩,wM⟩
 ·have hi:i=sets.length:=by omega
  subst hi
  rw [List.take_length]
  refine wV rfl ?_
  refine l5 TT_ok () [] rfl rfl ?_ ?_ ?_
  ·exact aCu _
  ·exact wM
  ·trivial
theorem I3 (xs:List GCell) (sets:List GSet) (hl:sets.length≤1048576) (hx:dF xs=true) (hs:∀ s ∈ sets,eO s=true) :
  Con Tryz.prog 175 [900] [.a (.g 900),vL 5 cP aCm sets] [(900,bE 2 cX aCo xs)] (fun _:Unit=>True) (fun _=>[]) fun _=>[(900,bE 2 cX aCo (pP xs sets))]:=by
 refine aE Tryz.func175 fun B0 r_ D_ w0=>?_
 refine aF ?_
 refine aK (ι:=Nat) (fun i=>[(4,vI i)]) (fun i=>[(900,bE 2 cX aCo ((sets.take i).foldl nE xs))]) (fun i=>i≤sets.length) (fun i=>sets.length - i) 0 [900] [] (Nat.zero_le _) ?_
 intro i h1
 refine aF ?_
 refine aI (fun e=>?_) (fun e=>?_)
 ·have hi:i<sets.length:=by omega
  have hsb:=hs _ (cJ (z:=aCm) hi)
  have hy:dF ((sets.take i).foldl nE xs)=true:=sG (fun _ _=>GX) (fun s h=>hs s (List.mem_of_mem_take h)) hx
  obtain ⟨c1,c2,c3,c4,c5,c6,c7,c8⟩:=u7 hy hsb
  have hF:=qR (z:=aCm) nE xs hi
  generalize hys:(sets.take i).foldl nE xs=ys at hy c1 c4 c5 c6 c7 c8 hF ⊢
  have hV:=UP c4
  have hin:InR ((dN ys (sets.getD i aCm)).head.tdiv 2):=FQ c5 c6 (by decide)
  have hD:=vC (b:=2) c5
  have hin2:InR ((dN ys (sets.getD i aCm)).head.tdiv 2 * 2):=by rw [hD];unfold InR;omega
  unfold dN at c7 c8 hV hin hin2
  unfold InR at hin hin2
  refine aF ?_
  refine aW [] [0,2,3,4,5,6,1,7] fun B0 H0=>?_
  refine fU 1 (mF _) rfl rfl rfl (aCu _) rfl ?_
  refine aY [7] ?_
  refine aP ?_
  refine aQ (fun e2=>?_) (fun e2=>?_)
  ·simp only [Int.toNat_natCast] at e2
   rw [hV] at e2
   have hN:nE ys (sets.getD i aCm)=ys.set (sets.getD i aCm).slot.toNat ⟨(dN ys (sets.getD i aCm)).head.tdiv 2 * 2,(dN ys (sets.getD i aCm)).value⟩:=by unfold nE;rw [if_pos (show (dN ys (sets.getD i aCm)).head.tdiv 4=(sets.getD i aCm).version from e2)]
   refine aF ?_
   exact bN (i+1) hi (by omega) wF ⟨⟨_,rfl,by rw [hF,hN];unfold dN;simp only [Int.toNat_natCast];exact cG (OwnI.refl _)⟩,wM⟩
  ·simp only [Int.toNat_natCast] at e2
   rw [hV] at e2
   refine aF ?_
   exact bN (i+1) hi (by omega) wF ⟨⟨_,rfl,bP (by rw [hF];unfold nE;rw [if_neg (show ¬ (dN ys (sets.getD i aCm)).head.tdiv 4=(sets.getD i aCm).version from e2)])⟩,wM⟩
 ·have hi:i=sets.length:=by omega
  subst hi
  rw [List.take_length]
  refine wV rfl ?_
  refine l5 TT_ok () [] rfl rfl ?_ ?_ ?_
  ·exact aCu _
  ·exact wM
  ·trivial
def pY (xs:List GCell) (sets:List GSet):List GCell:=bif kX xs sets then pQ xs sets else xs
end
section
def tY (tx r:Int) (xs:List GRecord) (i j:Nat):GRecord:=if j<i then o7 tx r (xs.getD j aCq) else xs.getD j aCq
theorem pZ {tx r:Int} {xs:List GRecord} {i:Nat}:tY tx r xs i i=xs.getD i aCq:=if_neg (Nat.lt_irrefl i)
theorem BZ {tx r:Int} {xs:List GRecord} {i j:Nat} (h:j≠i):tY tx r xs (i+1) j=tY tx r xs i j:=by
 unfold tY
 by_cases c:j<i
 ·rw [if_pos c,if_pos (by omega)]
 ·rw [if_neg c,if_neg (by omega)]
theorem xO {tx r:Int} {xs:List GRecord} {i:Nat}:tY tx r xs (i+1) i=o7 tx r (xs.getD i aCq):=if_pos (Nat.lt_succ_self i)
end
section
theorem aA6 (xs:List Int) (hl:xs.length≤1000) (hs:xs.Pairwise (· < ·)) (n:Int):Con Tryz.prog 240 [900] [.a (.g 900),vI n] [(900,bE 1 bS 0 xs)] (fun _:Unit=>True) (fun _=>[.a (.g 901)]) fun _=>[(901,bE 1 bS 0 (pN xs n))]:=by
 refine aE Tryz.func240 fun B0 r_ D_ w0=>?_
 refine aF ?_
 refine l4 TT_ok (mW xs (by omega) n) rfl rfl rfl rfl rfl ?_
 by_cases c:n ∈ xs
 ·rw [decide_eq_true c]
  refine bX rfl (fun _=>?_) (fun e=>by cases e)
  refine aF ?_
  refine bB (FC 4 900 901 rfl rfl rfl rfl rfl rfl) ?_
  refine aC (()) [(4,none)] ?_ ?_ ?_
  ·exact aCu _
  ·exact ⟨⟨_,rfl,bP (by unfold pN;rw [if_pos c])⟩,trivial⟩
  ·trivial
 rw [decide_eq_false c]
 refine bX rfl (fun e=>by cases e) (fun _=>?_)
 refine aF ?_
 refine aM 33 (fun i=>bS (([]:List Int).getD i 0)) (fun i hi=>absurd hi (Nat.not_lt_zero _)) (mu1:=[]) ?_
 refine aN ?_
 refine cY (ι:=Nat) (fun i=>[(6,vI i),(5, .a (.g 33))]) (fun i=>[(33,bE 1 bS 0 (xs.take i))]) (fun i=>i≤xs.length∧∀ a,a<i→nV n (xs.getD a 0)<0) (fun i=>xs.length - i) 0 [33] [33] rfl rfl ⟨Nat.zero_le _,fun a ha=>absurd ha (Nat.not_lt_zero _)⟩ wF ⟨⟨_,rfl,bP (sz:=1) (enc:=bS) (z:=0) (xs:=[]) rfl⟩,wM⟩ ?_
 intro i ⟨h1,h2⟩
 refine aF ?_
 refine aA (fun e3=>?_) (fun e3=>?_)
 ·have hi:i<xs.length:=by
   rcases Nat.lt_or_ge i xs.length with h | h
   ·exact h
   ·rw [decide_eq_false (by omega)] at e3;cases e3
  have hlt:(xs.take i).length=i:=by rw [List.length_take];omega
  rw [decide_eq_true (by omega)] at e3
  have e4:xs.getD i 0<n:=of_decide_eq_true e3
  refine aF ?_
  refine cV TT_ok 66 (fun _=>bS (xs.getD i 0)) rfl rfl rfl rfl rfl rfl rfl (fun i hi=>by rcases i with _ | i <;>first | rfl | omega) (mu1:=[]) rfl rfl rfl ?_
  refine aN ?_
  refine cU TT_ok 33 66 67 rfl rfl rfl rfl rfl rfl rfl rfl rfl rfl rfl rfl ⟨by show ((xs.take i).length+1) * 8≤_;omega,by unfold maxL;omega⟩ ?_
  refine aN ?_
  refine bC (bL 33 67) ?_
  refine bN (i+1) ⟨hi,fun a ha=>?_⟩ (by omega) wF ⟨⟨_,rfl,aS (x:=xs.getD i 0) (cC hi)⟩,wM⟩
  by_cases c:a<i
  ·exact h2 a c
  ·have:a=i:=by omega
   subst this
   unfold nV;omega
 have hc:jJ (nV n) 0 xs i:=⟨h1,h2,fun a ha hb2 hlt=>by
  have h3:=wD hs n i a ha hb2 hlt
  rw [decide_eq_true (by omega)] at e3
  have e4:¬ xs.getD i 0<n:=of_decide_eq_false e3
  unfold nV at h3
  omega⟩
 have hM:pN xs n=iB i n xs:=by unfold pN;rw [if_neg c,sR hc]
 have hlt:(xs.take i).length=i:=by rw [List.length_take];omega
 rw [hM]
 refine aF ?_
 refine zM 5 33 rfl rfl fun cp _=>?_
 refine aW [33] [0,1,4,5,6,7,2,3,8,9] fun B0 H0=>?_
 refine bG 2 rfl (by kernel_rfl) (dV TT_ok 70 (fun _=>bS n) rfl rfl rfl rfl rfl rfl rfl (fun j hj=>by rcases j with _ | j <;>first | rfl | omega) (mu1:=[]) rfl rfl rfl (bD ?_))
 refine bG 3 rfl (by kernel_rfl) (dM TT_ok 33 70 71 rfl rfl rfl rfl rfl rfl rfl rfl rfl rfl rfl rfl ⟨by show ((xs.take i).length+1) * 8≤_;omega,by unfold maxL;omega⟩ (bD ?_))
 refine bG 8 rfl (by kernel_rfl) (qJ TT_ok 71 77 rfl rfl rfl rfl rfl rfl rfl rfl rfl rfl rfl rfl ⟨by show ((xs.take i).length+1+_) * 8≤_;omega,by unfold maxL;omega⟩ (hob:=⟨rfl,⟨by omega,by omega,by omega⟩,trivial⟩) (bD ?_))
 refine aY [9] ?_
 refine aP ?_
 refine bB (bL 77 901) ?_
 refine aC (()) [(4,none)] ?_ ?_ ?_
 ·exact aCu _
 ·exact ⟨⟨_,rfl,CG h1⟩,trivial⟩
 ·trivial
theorem ZV (m:GMachine) (hl:m.log.length≤1048576) (tx r:Int) :
  Con Tryz.prog 189 [900,902] [.a (.p 900 0),vI tx,vI r] [(900, .rrow (nX m 901 902 903)),(902,bE 4 cK aCq m.log)] (fun _:Unit=>True) (fun _=>[]) fun _=>[(902,bE 4 cK aCq (m.log.map (o7 tx r)))]:=by
 refine aE Tryz.func189 fun B0 r_ D_ w0=>?_
 refine aF ?_
 refine cY (ι:=Nat) (fun i=>[(6,vI i)]) (fun i=>[(902, .arr 4 m.log.length fun j=>cK (tY tx r m.log i j))]) (fun i=>i≤m.log.length) (fun i=>m.log.length - i) 0 [902] [] rfl rfl (Nat.zero_le _) wF ⟨⟨_,rfl,Ch.imp_arr fun j hj=>by rw [tY,if_neg (Nat.not_lt_zero _)]⟩,wM⟩ ?_
 intro i h1
 refine aF ?_
 refine aI (fun e=>?_) (fun e=>?_)
 ·have hi:i<m.log.length:=by omega
  refine aF ?_
  refine aA (fun e2=>?_) (fun e2=>?_)
  ·simp only [Int.toNat_natCast,pZ] at e2
   have hF:o7 tx r (m.log.getD i aCq)=⟨3,(m.log.getD i aCq).tx,(m.log.getD i aCq).region,(m.log.getD i aCq).sets⟩:=by unfold o7;rw [if_pos (show pW tx r 1 _=true from e2)]
   refine aF ?_
   exact bN (i+1) hi (by omega) wF ⟨⟨_,rfl,Ch.imp_arr fun j hj=>by
    by_cases c:j=i
    ·subst c
     simp only [Int.toNat_natCast,Nat.beq_refl,cond_true,pZ,xO,hF]
     rfl
    ·rw [BZ c,beqN,decide_eq_false (by rw [Int.toNat_natCast];exact c)]
     rfl⟩,wM⟩
  ·simp only [Int.toNat_natCast,pZ] at e2
   have hF:o7 tx r (m.log.getD i aCq)=m.log.getD i aCq:=by unfold o7;rw [if_neg (fun h=>by have:=(show pW tx r 1 _=false from e2).symm.trans h;cases this)]
   refine aF ?_
   exact bN (i+1) hi (by omega) wF ⟨⟨_,rfl,Ch.imp_arr fun j hj=>by
    by_cases c:j=i
    ·subst c;rw [xO,hF,pZ]
    ·rw [BZ c]⟩,wM⟩
 ·have hi:i=m.log.length:=by omega
  subst hi
  refine wV rfl ?_
  refine l5 TT_ok () [] rfl rfl ?_ ?_ ?_
  ·exact aCu _
  ·refine ⟨⟨_,rfl,Ch.imp_len (List.length_map _).symm fun j hj=>?_⟩,trivial⟩
   rw [tY,if_pos hj]
   congr 1
   simp [List.getD_eq_getElem?_getD,hj]
  ·trivial
def qA (f:Nat→Nat→Value) (tx r:Int) (i:Nat):Bool := !(bif nI (f i 1) == tx then nI (f i 2) == r else false)
theorem V0 (al:Bool) (n:Nat) (hl:n≤1000000) (f:Nat→Nat→Value) (cl:List Int) (hc:cl.length≤1000) (hs:cl.Pairwise (· < ·)) (tx r:Int) (d:Bool) :
  Con Tryz.prog 176 [902,900,901,903] [.a (.p 900 0),vI tx,vI r,vB d] [(902, .arr 4 n (vM f)),(900, .row [.v (.bool al), .g 901, .g 902, .g 903]),(903,bE 1 bS 0 cl)] (fun _:Unit=>True) (fun _=>[])
   fun _=>[(904, .arr 4 ((List.range n).filter (qA f tx r)).length fun j=>vM f (((List.range n).filter (qA f tx r)).getD j 0)),(900, .row [.v (.bool al), .g 901, .g 904, .g 905]),(905,bE 1 bS 0 (bif d then pN cl tx else cl))]:=by
 have hR:(List.range n).length=n:=List.length_range
 refine aE Tryz.func176 fun B0 r_ D_ w0=>?_
 refine aF ?_
 refine aM 33 (fun j=>vM f ((([]:List Nat).filter (qA f tx r)).getD j 0)) (fun i hi=>absurd hi (Nat.not_lt_zero _)) (mu1:=[]) ?_
 refine aN ?_
 refine cY (ι:=Nat) (fun i=>[(9,vI i),(8, .a (.g 33))]) (fun i=>[(33, .arr 4 (((List.range n).take i).filter (qA f tx r)).length fun j=>vM f ((((List.range n).take i).filter (qA f tx r)).getD j 0))]) (fun i=>i≤n) (fun i=>n - i) 0 [33] [33] rfl rfl (Nat.zero_le _) wF ⟨⟨_,rfl,aCt _⟩,wM⟩ ?_
 intro i h1
 have hle:=mE (List.range n) (qA f tx r) i
 refine aF ?_
 refine aI (fun e=>?_) (fun e=>?_)
 ·have hi:i<n:=by omega
  refine aF ?_
  refine aA (fun e2=>?_) (fun e2=>?_)
  ·have hp:qA f tx r i=true:=by
    unfold qA
    cases c1:nI (f i 1) == tx <;>cases c2:nI (f i 2) == r <;>simp [c1,c2,bne] at e2 ⊢
   have hF:=jM (z:=0) (by rw [hR];exact hi) (p:=qA f tx r) (by rw [gV hi];exact hp)
   rw [gV hi] at hF
   refine aF ?_
   refine cV TT_ok 66 (fun _=>vM f i) rfl rfl rfl rfl rfl rfl rfl (fun i hi=>by rcases i with _ | i <;>first | rfl | omega) (mu1:=[]) rfl rfl rfl ?_
   refine aN ?_
   refine cU TT_ok 33 66 67 rfl rfl rfl rfl rfl rfl rfl rfl rfl rfl rfl rfl ⟨by show ((((List.range n).take i).filter (qA f tx r)).length+1) * 48≤_;omega,by unfold maxL;omega⟩ ?_
   refine aN ?_
   refine bC (bL 33 67) ?_
   refine bN (i+1) hi (by omega) wF ⟨⟨_,rfl,Ch.imp_len (by rw [hF];simp) fun j hj=>?_⟩,wM⟩
   rw [hF]
   by_cases c:j<(((List.range n).take i).filter (qA f tx r)).length
   ·rw [jA c,rM c]
   ·have:j=(((List.range n).take i).filter (qA f tx r)).length:=by omega
    subst this
    rw [mU (Nat.le_refl _),rS]
  ·have hp:qA f tx r i=false:=by
    unfold qA
    cases c1:nI (f i 1) == tx <;>cases c2:nI (f i 2) == r <;>simp [c1,c2,bne] at e2 ⊢
   have hF:=j4 (z:=0) (by rw [hR];exact hi) (p:=qA f tx r) (by rw [gV hi];exact hp)
   refine aF ?_
   exact bN (i+1) hi (by omega) wF ⟨⟨_,rfl,Ch.imp_len (by rw [hF]) fun j hj=>by rw [hF]⟩,wM⟩
 ·have hi:i=n:=by omega
  subst hi
  rw [show (List.range i).take i=List.range i from List.take_of_length_le (by simp)]
  refine aF ?_
  refine aA (fun e2=>?_) (fun e2=>?_)
  ·subst e2
   refine aF ?_
   refine aR (aCv 901 905 (aCv 900 903 (aA6 cl hc hs tx))) fun _ _=>?_
   refine VK TT_ok rfl ?_
   refine bC (bL 33 904) ?_
   refine l5 TT_ok () [] rfl rfl ?_ ?_ ?_
   ·exact aCu _
   ·exact wM
   ·trivial
  ·subst e2
   refine bB (bL 33 904) ?_
   refine bB (a9 900 3 903) ?_
   refine bB (a6 900 3 905) ?_
   refine DK ?_
   refine l5 TT_ok () [] rfl rfl ?_ ?_ ?_
   ·exact aCu _
   ·exact wM
   ·trivial
theorem aBl {h:PH} {x:GRecord} {l:List Value} (e:D.rds h (cK x) l):nI (l.getD 1 undef)=x.tx∧nI (l.getD 2 undef)=x.region:=by
 obtain ⟨y1,t1,rfl,e1,y2,t2,rfl,e2,y3,t3,rfl,e3,y4,t4,rfl,⟨A,c,e4,_⟩,e5⟩:=e
 have e2:y2 = .int .i64 x.tx:=e2
 have e3:y3 = .int .i64 x.region:=e3
 subst e2;subst e3
 exact ⟨rfl,rfl⟩
theorem zU (m:GMachine) (hm:m.log.length≤1000000) (hc:m.cleared.length≤1000) (hs:m.cleared.Pairwise (· < ·)) (tx r:Int) (d:Bool) :
  Con Tryz.prog 176 [902,900,901,903] [.a (.p 900 0),vI tx,vI r,vB d] [(902,bE 4 cK aCq m.log),(900, .row (nX m 901 902 903)),(903,bE 1 bS 0 m.cleared)] (fun _:Unit=>True) (fun _=>[])
   fun _=>[(904,bE 4 cK aCq (iP m tx r d).log),(900, .row (nX m 901 904 905)),(905,bE 1 bS 0 (iP m tx r d).cleared)]:=by
 have hmem:∀ j,j<((List.range m.log.length).filter fun i=>v7 tx r (m.log.getD i aCq)).length→((List.range m.log.length).filter fun i=>v7 tx r (m.log.getD i aCq)).getD j 0<m.log.length:=fun j hj=>by
  rw [gd0 hj]
  have h1:=(List.mem_filter.1 (List.getElem_mem hj)).1
  exact List.mem_range.1 h1
 have hC:=Con.liftR (P:=Tryz.prog) (ι:=Unit) (f:=176) (sz:=4) (n:=m.log.length) (k:=902) (ko:=904) (g:=fun i=>cK (m.log.getD i aCq)) (ks:=[902,900,901,903])
  (args:=[.a (.p 900 0),vI tx,vI r,vB d]) (args':=fun _=>[.a (.p 900 0),vI tx,vI r,vB d]) (rest:=[(900, .row (nX m 901 902 903)),(903,bE 1 bS 0 m.cleared)]) (rest':=fun _=>[(900, .row (nX m 901 904 905)),(905,bE 1 bS 0 (iP m tx r d).cleared)]) (φ:=fun _=>True) (res:=fun _=>[])
  (m:=fun _=>((List.range m.log.length).filter fun i=>v7 tx r (m.log.getD i aCq)).length) (ρ:=fun _ j=>((List.range m.log.length).filter fun i=>v7 tx r (m.log.getD i aCq)).getD j 0)
  (fun j c e=>by
   rw [bV] at e
   split at e
   ·rename_i h;subst h;injection e with e;subst e;exact ⟨rfl,by decide⟩
   ·rw [bV] at e
    split at e
    ·rename_i h;subst h;injection e with e;subst e;exact ⟨rfl,by decide⟩
    ·cases e)
  (fun _ _=>rfl) (fun _ _ j hj=>hmem j hj)
  (fun _ _ i j hi hj hij e=>by
   have hn:((List.range m.log.length).filter fun i=>v7 tx r (m.log.getD i aCq)).Nodup:=List.nodup_range.filter _
   have h1:=List.pairwise_iff_getElem.1 hn
   rw [gd0 hi,gd0 hj] at e
   rcases Nat.lt_or_gt_of_ne hij with h | h
   ·exact h1 i j hi hj h e
   ·exact h1 j i hj hi h e.symm)
  (fun B r r' H H' vals row _ _ e=>e)
  (fun _ B r r' H H' out e=>e)
  (fun _ B r r' h j c e s=>by
   rw [bV] at e
   split at e
   ·rename_i hj;subst hj;injection e with e;subst e;exact s
   ·rw [bV] at e
    split at e
    ·rename_i hj;subst hj;injection e with e;subst e;exact s
    ·cases e)
  (fun row hrow _ hrd=>?_)
 ·refine hC.wkM fun _ _=>⟨⟨_,rfl,?_⟩,⟨_,rfl,aCt _⟩,⟨_,rfl,aCt _⟩,trivial⟩
  have e:=C3 (z:=aCq) (v7 tx r) m.log
  show Ch.imp _ (bE 4 cK aCq (m.log.filter (v7 tx r)))
  refine Ch.imp_len (by rw [e,List.length_map]) fun j hj=>?_
  rw [e]
  congr 1
  exact (gmap (f:=fun i=>m.log.getD i aCq) hj).symm
 ·obtain ⟨hh,hrd⟩:=hrd
  have hD:=V0 m.alive m.log.length hm (fun i j=>(row i).getD j undef) m.cleared hc hs tx r d
  have hr:∀ i,i<m.log.length→vM (fun i j=>(row i).getD j undef) i=(row i).map D.v:=fun i hi=>(S9 (hrd i hi)).symm
  have hp:(List.range m.log.length).filter (qA (fun i j=>(row i).getD j undef) tx r)=(List.range m.log.length).filter fun i=>v7 tx r (m.log.getD i aCq):=by
   refine List.filter_congr fun i hi=>?_
   obtain ⟨q1,q2⟩:=aBl (hrd i (List.mem_range.1 hi))
   unfold qA v7
   rw [q1,q2]
  rw [hp] at hD
  refine Con.wkM (Con.inM hD (mu0:=(902, .arr 4 m.log.length fun i=>(row i).map D.v) :: [(900, .row (nX m 901 902 903)),(903,bE 1 bS 0 m.cleared)]) rfl ⟨⟨_,rfl,Ch.imp_arr fun i hi=>(hr i hi).symm⟩,⟨_,rfl,aCt _⟩,⟨_,rfl,aCt _⟩,trivial⟩) fun _ _=>⟨⟨_,rfl,Ch.imp_arr fun j hj=>hr _ (hmem j hj)⟩,⟨_,rfl,aCt _⟩,⟨_,rfl,aCt _⟩,trivial⟩
end
section
abbrev clk (c:GCluster) (n:Int):GCluster:={ c with clock:=n }
abbrev tw (t:GTx) (p d s:Int):GTx:={ t with phase:=p,done:=d,stamp:=s }
theorem TxIn.tw {c:GCluster} {t:GTx} (h:TxIn c t) {p d s:Int} (h4:1≤p∧p≤9) (h5:0≤d∧d≤1000) (h6:0≤s∧s≤1000000):TxIn c (tw t p d s):=h.same ⟨rfl,rfl,rfl,rfl⟩ h4 h5 h6
theorem FI {c:GCluster} {t:GTx} (h:t.phase=3):(dP c t).length=(bW t).length:=by
 unfold dP
 rw [if_pos h,List.length_map]
end
section
def KO (m:GMachine) (n:GNote):Bool:=bif fD ((cellsOf m n.region).getD n.slot.toNat aCo).head then true else ((cellsOf m n.region).getD n.slot.toNat aCo).head.tdiv 4 != n.version
abbrev mOf (c:GCluster) (i:Int):GMachine:=c.machines.getD i.toNat aCj
end
section
theorem set_self {α:Type} {z:α} {xs:List α} {i:Nat} (h:i<xs.length):xs.set i (xs.getD i z)=xs:=by
 rw [show xs.getD i z=xs[i] from by simp [h]]
 exact List.set_getElem_self h
abbrev oR (m:GMachine) (r:Int) (xs:List GCell):GCopy:=⟨(m.copies.getD (eM m r).toNat aCp).region,xs⟩
noncomputable def HG (t:GTx) (x:GCopyAt) (m:GMachine):GMachine:=iP (bif x.backup then cL m x.region (lM (cellsOf m x.region) (bY x.region t.sets)) else m) t.id x.region true
end
section
theorem m7 {α β:Type} {za:α} {zb:β} (f:α→β) {xs:List α} {i:Nat} (h:i<xs.length):(xs.map f).getD i zb=f (xs.getD i za):=by
 simp [List.getD_eq_getElem?_getD,h]
theorem VL {c:GCluster} {t:GTx} (h:t.phase=3) (hd:t.done.toNat<(dP c t).length):cZ c t=l6 c ((bW t).getD t.done.toNat aCn).region:=by
 rw [FI h] at hd
 unfold cZ dP
 rw [if_pos h]
 exact m7 (za:=aCn) (fun n=>l6 c n.region) hd
section
variable {t:GTx} {x:GCopyAt} {n:GNote} {m:GMachine}
theorem wP (ha:m.alive=false):jG t x n m=(6,m,t):=by unfold jG;rw [ha];rfl
theorem WR (ha:m.alive=true) (h:t.phase=2):jG t x n m=(bif !kX (cellsOf m x.region) (bY x.region t.sets) then (0,m,oV t) else bif decide ((m.log.length:Int)=200) then (9,m,t) else (0,mJ (cL m x.region (pQ (cellsOf m x.region) (bY x.region t.sets))) ⟨1,t.id,x.region,bY x.region t.sets⟩,dT t)):=by
 unfold jG;rw [ha,if_pos h];rfl
theorem WB (ha:m.alive=true) (h:t.phase=3) (hn:x.region=n.region):jG t x n m=(bif KO m n then (0,m,oV t) else (0,m,dT t)):=by
 unfold jG;rw [ha,if_neg (by omega),if_pos h,hn];rfl
theorem QO (ha:m.alive=true) (h:t.phase=4):jG t x n m=(bif decide ((m.log.length:Int)=200) then (9,m,t) else (0,mJ m ⟨2,t.id,x.region,bY x.region t.sets⟩,dT t)):=by
 unfold jG;rw [ha,if_neg (by omega),if_neg (by omega),if_pos h];rfl
theorem VJ (ha:m.alive=true) (h:t.phase=5):jG t x n m=(0,BR (cL m x.region (lM (cellsOf m x.region) (bY x.region t.sets))) t.id x.region,dT t):=by
 unfold jG;rw [ha,if_neg (by omega),if_neg (by omega),if_neg (by omega),if_pos h];rfl
theorem OK (ha:m.alive=true) (h:t.phase=6):jG t x n m=(bif !jI m t.id then (9,m,t) else (0,HG t x m,dT t)):=by
 unfold jG;rw [ha,if_neg (by omega),if_neg (by omega),if_neg (by omega),if_neg (by omega),if_pos h];rfl
theorem VC (ha:m.alive=true) (h:t.phase=8):jG t x n m=(if 0≤oD m t.id x.region 1 then (0,iP (cL m x.region (pP (cellsOf m x.region) (bY x.region t.sets))) t.id x.region false,dT t) else (0,m,dT t)):=by
 unfold jG;rw [ha,if_neg (by omega),if_neg (by omega),if_neg (by omega),if_neg (by omega),if_neg (by omega)];rfl
theorem xA {r:Int} (h:dX m r=true):cL m r (cellsOf m r)=m:=by
 have hi:=oE (z:=aCp) ((gJ (z:=aCp)).2 (show m.copies.any (atB r)=true from h))
 unfold cL
 rw [eW h]
 have:=set_self (z:=aCp) hi.1
 rw [show (⟨(m.copies.getD (cI (atB r) m.copies).toNat aCp).region,(m.copies.getD (cI (atB r) m.copies).toNat aCp).cells⟩:GCopy)=m.copies.getD (cI (atB r) m.copies).toNat aCp from rfl,this]
end
theorem IF {n:GNote} (h:iX n=true):0≤n.slot∧n.slot≤5:=by
 unfold iX at h
 cases c1:inB n.region 0 5 with
 | false=>rw [c1] at h;cases h
 | true =>
  cases c2:inB n.slot 0 5 with
  | false=>rw [c1,c2] at h;cases h
  | true=>exact b6.1 c2
end
section
theorem wA {c:GCluster} (hok:ClusOk c) {id:Int} (h1:dZ c id=0) (h2:c.clock≠1000000):bZ c id=if (eE c (bQ c id).toNat).1=0 then ((eE c (bQ c id).toNat).2,0) else (c,(eE c (bQ c id).toNat).1):=by
 unfold bZ
 rw [if_pos hok,if_neg (by omega),if_neg h2]
theorem xF {c:GCluster} {i:Nat} (h:(dY c (c.clock,c.txs.getD i aCk)).2.phase=7∨(dY c (c.clock,c.txs.getD i aCk)).2.phase=9):eE c i=(0,nW c i (dY c (c.clock,c.txs.getD i aCk)) c.machines):=by
 unfold eE;dsimp only;rw [if_pos h]
theorem CC {c:GCluster} {i:Nat} (h:¬ ((dY c (c.clock,c.txs.getD i aCk)).2.phase=7∨(dY c (c.clock,c.txs.getD i aCk)).2.phase=9)) (h2:(b8 c (dY c (c.clock,c.txs.getD i aCk)).2).1≠0):eE c i=((b8 c (dY c (c.clock,c.txs.getD i aCk)).2).1,c):=by
 unfold eE;dsimp only;rw [if_neg h,if_neg h2]
theorem z7 {c:GCluster} {i:Nat} (h:¬ ((dY c (c.clock,c.txs.getD i aCk)).2.phase=7∨(dY c (c.clock,c.txs.getD i aCk)).2.phase=9)) (h2:(b8 c (dY c (c.clock,c.txs.getD i aCk)).2).1=0) :
  eE c i=(0,nW c i (dY c ((dY c (c.clock,c.txs.getD i aCk)).1,(b8 c (dY c (c.clock,c.txs.getD i aCk)).2).2.2)) (c.machines.set (cZ c (dY c (c.clock,c.txs.getD i aCk)).2).machine.toNat (b8 c (dY c (c.clock,c.txs.getD i aCk)).2).2.1)):=by
 unfold eE;dsimp only;rw [if_neg h,if_pos h2]
end
section
theorem l8 {c:GCluster} (h:ClusOk c):D.bds dJ (bO c):=rA c (by have:=zF h;unfold dJ;omega)
theorem O1 (c:GCluster) (i:Nat):(eE c i).2.places=c.places:=by
 unfold eE
 dsimp only
 split
 ·rfl
 ·split <;>rfl
theorem yM {c:GCluster} (hok:ClusOk c) (id:Int):(bZ c id).1.places=c.places:=by
 unfold bZ
 rw [if_pos hok]
 split
 ·rfl
 ·split
  ·rfl
  ·split
   ·exact O1 c _
   ·rfl
theorem C5 {d:GCluster} {id:Int} (i:Nat):jX id (200 - i) d=(if i<200 then (if (bZ d id).2=0 then (if lE (bT (bZ d id).1 id)=true then ((bZ d id).1,0) else jX id (200 - (i+1)) (bZ d id).1) else (d,(bZ d id).2)) else (d,0)):=by
 by_cases h:i<200
 ·rw [if_pos h,show 200 - i=(200 - (i+1))+1 by omega,jX]
 ·rw [if_neg h,show 200 - i=0 by omega,jX]
end
section
theorem ZE {xs:List GSet} (h1:∀ s ∈ xs,eO s=true) (h2:FJ xs) {r:Int} (h3:∀ s ∈ xs,s.region=r):n8 xs=true:=by
 unfold n8
 rw [oJ fun j hj=>?_]; · rfl
 unfold tE
 rw [h1 _ (cJ hj)]
 by_cases c:(j:Int) > 0
 ·rw [decide_eq_true c,show ((j:Int) - 1).toNat=j - 1 by omega]
  have:=iR (z:=aCm) h2 (a:=j - 1) (b:=j) (by omega) hj
  rw [decide_eq_false (show ¬ (xs.getD j aCm).slot≤(xs.getD (j - 1) aCm).slot by omega)]
  rw [h3 _ (cJ hj),h3 _ (cJ (show 0<xs.length by omega))]
  simp
 ·rw [decide_eq_false c];rfl
theorem R4 (xs:List GCell) (sets:List GSet) (hl:sets.length≤1048576) (hx:dF xs=true) (hs:∀ s ∈ sets,eO s=true) (hr:FJ sets) (hS:n8 sets=true) :
  Con Tryz.prog 187 [] [vL 2 cX aCo xs,vL 5 cP aCm sets] [] (fun _:Unit=>True) (fun _=>[.a (.g 901),vB (kX xs sets)]) fun _=>[(901,bE 2 cX aCo (pY xs sets))]:=by
 have hx6:=(lF.1 hx).1
 refine aE Tryz.func187 fun B0 r_ D_ w0=>?_
 refine aF ?_
 refine aH (vG xs) ?_
 refine aH (CU sets hl) ?_
 refine bX rfl (fun e=>by rw [hx,hS] at e;cases e) (fun _=>?_)
 refine aF ?_
 refine cO TT_ok (aCv 900 40 (yG xs (by omega))) rfl rfl (aCu _) (fun _=>rfl) rfl rfl rfl fun _ _=>?_
 refine aN ?_
 refine aK (ι:=Nat) (fun i=>[(7,vI i)]) (fun i=>[(40,bE 2 cX aCo ((sets.take i).foldl kD xs))]) (fun i=>i≤sets.length∧∀ j,j<i→qF xs (sets.getD j aCm)=false) (fun i=>sets.length - i) 0 [40] [] ⟨Nat.zero_le _,fun j hj=>absurd hj (Nat.not_lt_zero _)⟩ ?_
 intro i ⟨h1,h2⟩
 refine aF ?_
 refine aI (fun e=>?_) (fun e=>?_)
 ·have hi:i<sets.length:=by omega
  have hsb:=hs _ (cJ (z:=aCm) hi)
  obtain ⟨c1,c2,c3,c4,c5,c6,c7,c8⟩:=u7 hx hsb
  have hV:=UP c4
  have hat:=SP hs hr xs hi
  have hlen:((sets.take i).foldl kD xs).length=6:=by rw [DN D1];exact c1
  have hF:=qR (z:=aCm) kD xs hi
  unfold dN at c5 c6 c7 c8 hV
  refine aF ?_
  refine aW [] [0,1,2,3,4,5,6,7,8,9,10,11] fun B0 H0=>?_
  refine fU 1 (pC _) rfl rfl rfl (aCu _) rfl ?_
  refine aY [2,3,5,6,7,8,9,4,10,11] ?_
  refine fU 4 (mF _) rfl rfl rfl (aCu _) rfl ?_
  refine aY [10,11] ?_
  refine aP ?_
  refine aA (fun e2=>?_) (fun e2=>?_)
  ·simp only [Int.toNat_natCast] at e2
   rw [hV] at e2
   have hB:kX xs sets=false:=by unfold kX;rw [uL (p:=qF xs) hi e2];rfl
   rw [show pY xs sets=xs from by unfold pY;rw [hB];rfl,hB]
   refine aF ?_
   refine cO TT_ok (aCv 900 901 (yG xs (by omega))) rfl rfl (aCu _) (fun _=>rfl) rfl rfl rfl fun _ _=>?_
   refine aN ?_
   refine aC (()) [(4,none),(5,none)] ?_ ?_ ?_
   ·exact aCu _
   ·exact wM
   ·trivial
  ·simp only [Int.toNat_natCast] at e2
   rw [hV] at e2
   refine aF ?_
   refine bN (i+1) ⟨hi,b5 h2 e2⟩ (by omega) wF ⟨⟨_,rfl,?_⟩,wM⟩
   rw [hF,show kD ((sets.take i).foldl kD xs) (sets.getD i aCm)=((sets.take i).foldl kD xs).set (sets.getD i aCm).slot.toNat ⟨(dN ((sets.take i).foldl kD xs) (sets.getD i aCm)).head+1,(dN ((sets.take i).foldl kD xs) (sets.getD i aCm)).value⟩ from rfl,hat]
   simp only [Int.toNat_natCast]
   refine cG (OwnI.of ?_)
   show [dI _,dI (((sets.take i).foldl kD xs).getD _ aCo).value] = [dI _,dI _]
   rw [show (((sets.take i).foldl kD xs).getD (sets.getD i aCm).slot.toNat aCo)=dN xs (sets.getD i aCm) from hat]
   rfl
 ·have hi:i=sets.length:=by omega
  subst hi
  have hB:kX xs sets=true:=by unfold kX;rw [j0 (z:=aCm) (p:=qF xs) fun j hj=>h2 j hj];rfl
  rw [show pY xs sets=pQ xs sets from by unfold pY;rw [hB];rfl,hB,List.take_length]
  refine aF ?_
  refine bB (bL 40 901) ?_
  refine aC (()) [(4,none),(5,none)] ?_ ?_ ?_
  ·exact aCu _
  ·exact wM
  ·trivial
theorem F9 (m:GMachine) (hl:m.copies.length≤1048576) (hl2:m.log.length≤1048576) (hl3:m.cleared.length≤1048576) (r:Int) (hh:dX m r=true) (xs:List GCell) :
  Con Tryz.prog 111 [900,901,902,903,905] [.a (.p 900 0),vI r, .a (.g 905)] [(900, .rrow (nX m 901 902 903)),(901,bE 2 dA aCp m.copies),(902, .ro 4 m.log.length fun i=>cK (m.log.getD i aCq)),(903, .ro 1 m.cleared.length fun i=>bS (m.cleared.getD i 0)),(905,bE 2 cX aCo xs)]
   (fun _:Unit=>True) (fun _=>[]) fun _=>[(901,bE 2 dA aCp (cL m r xs).copies)]:=by
 have hix:=oE (z:=aCp) ((gJ (z:=aCp)).2 (show m.copies.any (atB r)=true from hh))
 have hix2:0≤eM m r∧eM m r<m.copies.length:=⟨(gJ (z:=aCp)).2 hh,by have:=hix.1;have:=(gJ (z:=aCp)).2 hh;show cI (atB r) m.copies<_;omega⟩
 refine aE Tryz.func111 fun B0 r_ D_ w0=>?_
 refine aF ?_
 refine aH (wT m hl r) ?_
 refine aI (fun e=>?_) (fun e=>absurd hix2.1 e)
 refine bB (d6 901 (eM m r) 64 rfl rfl rfl rfl rfl rfl hix2) ?_
 refine bB (a6 64 1 65) ?_
 refine aF ?_
 refine eY (kL 23 rfl rfl rfl) ?_
 refine aN ?_
 refine bB (a9 64 1 905) ?_
 refine bB (a8 901 64) ?_
 refine aC (()) [] ?_ ?_ ?_
 ·exact aCu _
 ·exact ⟨⟨_,rfl,cG (y:=oR m r xs) (OwnI.refl _)⟩,trivial⟩
 ·trivial
theorem HV (al:Bool) (log:List GRecord) (hl:log.length≤1048576) (tx r0 kind:Int) :
  Con Tryz.prog 154 [901,902,903] [.ag [.v (.bool al), .g 901, .g 902, .g 903],vI tx,vI r0,vI kind] [(902, .ro 4 log.length fun i=>cK (log.getD i aCq))] (fun _:Unit=>True) (fun _=>[vI (cI (pW tx r0 kind) log)]) fun _=>[]:=by
 refine aE Tryz.func154 fun B0 r_ D_ w0=>?_
 refine aF ?_
 refine aK (ι:=Nat) (fun i=>[(9,vI i)]) (fun _=>[]) (fun i=>i≤log.length∧∀ j,j<i→pW tx r0 kind (log.getD j aCq)=false) (fun i=>log.length - i) 0 [] [] ⟨Nat.zero_le _,fun j hj=>absurd hj (Nat.not_lt_zero _)⟩ ?_
 intro i ⟨h1,h2⟩
 refine aF ?_
 refine aI (fun e=>?_) (fun e=>?_)
 ·have hi:i<log.length:=by omega
  refine aF ?_
  refine aA (fun e2=>?_) (fun e2=>?_)
  ·refine aF ?_
   refine aC (()) [(8,none)] ?_ ?_ ?_
   ·exact SVs.cons (aCw (fL (gA (p:=pW tx r0 kind) hi h2 e2).symm)) rfl
   ·trivial
   ·trivial
  ·refine aF ?_
   exact aL (i+1) ⟨hi,b5 h2 e2⟩ (by omega)
 ·refine aF ?_
  refine aC (()) [(8,none)] ?_ ?_ ?_
  ·exact SVs.cons (aCw (fL (gT fun j hj=>h2 j (by omega)).symm)) rfl
  ·trivial
  ·trivial
end
end Go.Proofs.YtnffflcjaipdkaaGreat
