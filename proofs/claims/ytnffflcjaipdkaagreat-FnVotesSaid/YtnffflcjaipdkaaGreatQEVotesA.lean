/-
  What the claim leans on, made short by program.
-/
import Derived.Test.YtnffflcjaipdkaaGreatQF
namespace Go.Proofs.YtnffflcjaipdkaaGreat
open Go Go.RowKit
set_option linter.unusedVariables false
set_option linter.unusedSimpArgs false
set_option maxRecDepth 4000
section
section
theorem v6 {α:Type} {p:α→Bool} {z:α} {xs:List α} (h:∀ j,j<xs.length→p (xs.getD j z)=false):xs=xs.filter fun x => !p x:=by
 symm
 rw [List.filter_eq_self]
 intro x hx
 obtain ⟨j,hj,rfl⟩:=List.mem_iff_getElem.1 hx
 have:=h j hj
 simp at this ⊢
 rw [List.getElem?_eq_getElem hj] at this
 simpa using this
theorem tD {α:Type} {p:α→Bool} {z:α} {xs:List α} {i:Nat} (h1:i<xs.length) (h3:∀ j,j<i→p (xs.getD j z)=false) (h4:p (xs.getD i z)=true):((xs.take (i+1)).filter fun x => !p x)=xs.take i:=by
 rw [AE (z:=z) h1,if_neg (by rw [h4];simp)]
 refine (v6 (z:=z) (xs:=xs.take i) fun j hj=>?_).symm
 rw [m5 hj]
 rw [List.length_take] at hj
 exact h3 j (by omega)
end
section
section
variable {E:Env} {mu mu':Mu} {TT:List TI} {fr fr':Fr} {gf gf':GF} {all rest:List Oper} {Q:Exit→Act→World→Prop} {o:Oper} {J:Act→World→Prop} {G:AG}
theorem aAz {φ:List RD→Value→Prop} {args:List SV} {rds:List RD} {t j d:Nat} {b:Bool} {x:Value} (hg:o.guard=some (j,b)) (hsl:qL all j=some d) (hc:PF (kV 6 gf d b) fr gf o.op=some (φ,args)) (hr:GN args=some rds) (hgd:dD t gf=some gf') (hx:φ rds x)
  (k:SJ G J E fr ((t,d,b, .a (.v x)) :: gf') mu) (hd:o.dst=some t:=by exact rfl) (hn:mlk t fr=none:=by exact rfl) (ht:(Nat.blt t E.N && !(Nat.beq t d))=true:=by exact rfl):OJ G E all Q J o fr gf mu:=fun B a w H f m gg=>by
 simp only [Bool.and_eq_true,Bool.not_eq_true'] at ht
 have htd:t≠d:=Nat.ne_of_beq_eq_false ht.2
 have htN:t<E.N:=by simpa [Nat.blt_eq] using ht.1
 have hwt:=iS (ops:=all.toArray) (a:=a) hg (kS hsl)
 by_cases hyes:a.tmps.getD d undef = .bool b
 ·have hacts:=qV f 6 d b hyes
  have hw:=hwt.2 hyes
  obtain ⟨dst,op,type,pos,after,guard⟩:=o
  simp only at hc hd
  subst hd
  unfold PF at hc
  split at hc
  ·rename_i c
   obtain ⟨callee,cargs,ats⟩:=c
   simp only at hc
   split at hc
   ·rename_i y hy
    split at hc
    ·rename_i φ' l e1 e2
     simp only [Option.some.injEq,Prod.mk.injEq] at hc
     obtain ⟨rfl,rfl⟩:=hc
     obtain ⟨fn,cv,h1,h3,h4⟩:=(show ∃ f vs,_ from f.ev hacts e1)
     have h2:=f.evs hacts e2
     have ha:cargs.map a.eval=(cargs.toList.map a.eval).toArray:=Array.ext' (by rw [Array.toList_map])
     refine sJ (n:=fn) (args:=(cargs.toList.map a.eval ++ cv).toArray) hw ?_ ((h4 rds x hx w E.r _ (PH.le_refl _) m.mm.fitr (KG hr h2)).mono fun e w' ⟨g1,g2⟩=>⟨x,g1,?_⟩)
     ·simp only [execOp,resolve,h1,Deferred.ofValue,Sem.run_bind,Sem.run_pure,Result.andThen_ok,invoke,ha,Array.empty_append]
      rw [h3]
      congr 2
      simp
     ·exact k B _ w' H (Fits.putG f htN htd hn hgd (.inl ⟨hyes,show SV.rel E.P B (Zf E.r H) (.a (.v x)) x from rfl⟩)) (m.below g2) gg
    ·cases hc
   ·cases hc
  ·cases hc
 ·refine xX (by
   cases e:Region.wanted o (yielded all.toArray a.tmps) with
   | false=>rfl
   | true=>exact absurd (hwt.1 e) hyes) ?_
  rw [hd]
  exact k B _ w H (Fits.putG f htN htd hn hgd (.inr ⟨hyes,rfl⟩)) m gg
end
end
end
section
section
variable {E:Env} {mu:Mu} {TT:List TI} {fr:Fr} {gf gf':GF} {all:List Oper} {R:Exit→Act→World→Prop} {K:List KF} {G:AG}
theorem aAG (i:Nat) {n:Nat} {tk:List Nat} {o:Oper} {t j d:Nat} {b x:Bool} (v:SV) (hi:nth all i=some o) (hg:o.guard=some (j,b)) (hsl:qL all j=some d) (hx:mlk d fr=some (.a (.v (.bool x)))) (hgx:glk d gf=none) (hne:x = !b) (hn:mlk t fr=none) (hgd:dD t gf=some gf')
  (k:DJ G E all (KQ E.P R K) n (i :: tk) fr ((t,d,b,v) :: gf') mu) (hd:o.dst=some t:=by exact rfl) (ht:(Nat.blt t E.N && !(Nat.beq t d))=true:=by exact rfl) (hB:tP all.toArray tk i=true:=by kernel_rfl) (hR:PQ R:=by exact oN _ _):DJ G E all (KQ E.P R K) (n+1) tk fr gf mu :=
 yH hR i hi hB (fun B a w H f m gg=>by
  simp only [Bool.and_eq_true,Bool.not_eq_true'] at ht
  have htd:t≠d:=Nat.ne_of_beq_eq_false ht.2
  have htN:t<E.N:=by simpa [Nat.blt_eq] using ht.1
  have hv:a.tmps.getD d undef = .bool x:=f.vfr d _ hx hgx
  have hyes:a.tmps.getD d undef ≠ .bool b:=by rw [hv,hne];cases b <;>simp
  have hw:=iS (ops:=all.toArray) (a:=a) hg (kS hsl)
  refine ⟨undef, .inr ⟨?_,rfl⟩,?_⟩
  ·cases e:Region.wanted o (yielded all.toArray a.tmps) with
   | false=>rfl
   | true=>exact absurd (hw.1 e) hyes
  ·rw [hd];exact Fits.putG f htN htd hn hgd (.inr ⟨hyes,rfl⟩)) k
end
end
section
section
theorem KR (xs:List GSet) (hl:xs.length≤1048576) (p:GSet→Bool):Ans Tryz.prog 212 [] [vL 5 cP aCm xs,fbO (fun x=>[RD.ag (cP x)]) fun x => .bool (p x)] [] (vI (cI p xs)):=by
 refine aE Tryz.func212 fun B0 r_ D_ w0=>?_
 refine aF ?_
 refine aK (ι:=Nat) (fun i=>[(8,vI i)]) (fun _=>[]) (fun i=>i≤xs.length∧∀ j,j<i→p (xs.getD j aCm)=false) (fun i=>xs.length - i) 0 [] [] ⟨Nat.zero_le _,fun j hj=>absurd hj (Nat.not_lt_zero _)⟩ ?_
 intro i ⟨h1,h2⟩
 refine aF ?_
 refine aI (fun e=>?_) (fun e=>?_)
 ·have hi:i<xs.length:=by omega
  refine aF ?_
  refine vE rfl rfl rfl ⟨xs.getD i aCm,rfl,rfl⟩ ?_
  refine aN ?_
  refine aA (fun e2=>?_) (fun e2=>?_)
  ·refine aF ?_
   exact aJ [(4,none)] ((gA hi h2 e2).symm)
  ·refine aF ?_
   exact aL (i+1) ⟨hi,b5 h2 e2⟩ (by omega)
 ·refine aF ?_
  exact dK TT_ok [(4,none)] rfl rfl ((gT fun j hj=>h2 j (by omega)).symm)
theorem IQ (xs:List GSet) (hl:xs.length≤1048576) (p:GSet→Bool):Con Tryz.prog 151 [900] [.a (.g 900),fbO (fun x=>[RD.ag (cP x)]) fun x => .bool (p x)] [(900,bE 5 cP aCm xs)] (fun _:Unit=>True) (fun _=>[.a (.g 901)]) fun _=>[(901,bE 5 cP aCm (xs.filter fun x => !p x))]:=by
 refine aE Tryz.func151 fun B0 r_ D_ w0=>?_
 refine aF ?_
 refine aH (KR xs hl p) ?_
 rcases gH p aCm xs with ⟨h1,h2⟩ | ⟨i0,h1,h2,h3,h4⟩
 ·refine aQ (fun _=>?_) (fun e=>absurd h1 e)
  refine aF ?_
  refine bB (FC 4 900 901 rfl rfl rfl rfl rfl rfl) ?_
  refine aC (()) [(4,none)] ?_ ?_ ?_
  ·exact aCu _
  ·exact ⟨⟨_,rfl,bP (v6 h2)⟩,trivial⟩
  ·trivial
 rw [h2]
 refine s6 rfl (fun e=>by omega) (fun _=>?_)
 refine aF ?_
 refine cY (ι:=Nat×(Nat→GSet)) (fun y=>[(6,vI y.1),(5,vI ((xs.take y.1).filter fun x => !p x).length)]) (fun y=>[(900, .arr 5 xs.length fun k=>cP (y.2 k))])
  (fun y=>i0<y.1∧y.1≤xs.length∧(∀ k,k<((xs.take y.1).filter fun x => !p x).length→y.2 k=((xs.take y.1).filter fun x => !p x).getD k aCm)∧∀ k,y.1≤k→k<xs.length→y.2 k=xs.getD k aCm)
  (fun y=>xs.length - y.1) (i0+1,fun k=>xs.getD k aCm) [900] [] rfl rfl ⟨Nat.lt_succ_self _,h1,?_,fun _ _ _=>rfl⟩ ?_ wM ?_
 ·intro k hk
  rw [tD h1 h3 h4] at hk ⊢
  exact (m5 hk).symm
 ·refine And.intro ⟨_,rfl,aCw ?_⟩ (And.intro ⟨_,rfl,aCw ?_⟩ trivial)
  ·simp
  ·rw [tD h1 h3 h4];simp;omega
 rintro ⟨j,h⟩ ⟨g1,g2,g3,g4⟩
 dsimp only at g1 g2 g3 g4 ⊢
 have hle:=mE xs (fun x => !p x) j
 refine aF ?_
 refine aI (fun e=>?_) (fun e=>?_)
 ·have hj:j<xs.length:=by omega
  refine aF ?_
  refine vE rfl rfl rfl ⟨h j,rfl,rfl⟩ ?_
  refine aN ?_
  refine eF rfl (fun e2=>?_) (fun e2=>?_)
  ·have hF:=jM (z:=aCm) hj (p:=fun x => !p x) (by rw [← g4 j (Nat.le_refl _) hj,e2];rfl)
   refine aF ?_
   refine bN (j+1,fun k=>if k=((xs.take j).filter fun x => !p x).length then h j else h k) ⟨by omega,hj,fun k hk=>?_,fun k k1 k2=>?_⟩ (by show xs.length - (j+1)<xs.length - j;omega) ?_ ⟨⟨_,rfl,Ch.imp_arr fun k hk=>?_⟩,wM⟩
   ·dsimp only at hk ⊢
    rw [hF,List.length_append,List.length_singleton] at hk
    rw [hF]
    by_cases c:k=((xs.take j).filter fun x => !p x).length
    ·rw [if_pos c,c,rS,g4 j (Nat.le_refl _) hj]
    ·rw [if_neg c,rM (by omega)];exact g3 k (by omega)
   ·dsimp only at k1 ⊢
    rw [if_neg (by omega)];exact g4 k (by omega) k2
   ·refine And.intro ⟨_,rfl,aCw ?_⟩ (And.intro ⟨_,rfl,aCw ?_⟩ wF)
    ·simp
    ·dsimp only;rw [hF];simp
   ·dsimp only
    by_cases c:k=((xs.take j).filter fun x => !p x).length
    ·subst c
     simp only [Int.toNat_natCast,Nat.beq_refl,cond_true,if_true]
     rfl
    ·rw [if_neg c]
     have:Nat.beq k (((xs.take j).filter fun x => !p x).length:Int).toNat=false:=by
      simp only [Int.toNat_natCast]
      cases e:Nat.beq k ((xs.take j).filter fun x => !p x).length with
      | false=>rfl
      | true=>exact absurd (Nat.eq_of_beq_eq_true e) c
     rw [this];rfl
  ·have hF:=j4 (z:=aCm) hj (p:=fun x => !p x) (by rw [← g4 j (Nat.le_refl _) hj,e2];rfl)
   refine aF ?_
   refine bN (j+1,h) ⟨by omega,hj,fun k hk=>?_,fun k k1 k2=>g4 k (by dsimp only at k1;omega) k2⟩ (by show xs.length - (j+1)<xs.length - j;omega) ?_ wM
   ·dsimp only at hk ⊢
    rw [← hF] at hk ⊢;exact g3 k hk
   ·refine And.intro ⟨_,rfl,aCw ?_⟩ (And.intro ⟨_,rfl,aCw ?_⟩ wF)
    ·simp
    ·dsimp only;rw [← hF]
 ·have hj:j=xs.length:=by omega
  subst hj
  rw [List.take_length] at g3 hle ⊢
  refine aF ?_
  refine B7 TT_ok 38 900 rfl rfl rfl rfl rfl rfl ⟨by omega,by omega,by omega⟩ rfl rfl rfl rfl ?_
  refine aN ?_
  refine bB (FS 4 900 901 rfl rfl rfl ⟨by omega,by omega,by omega⟩ rfl rfl rfl) ?_
  refine aC (()) [(4,none)] ?_ ?_ ?_
  ·exact aCu _
  ·refine ⟨⟨_,rfl,Ch.imp_len (by omega) fun k hk=>?_⟩,trivial⟩
   dsimp only
   rw [if_neg (by omega),g3 _ (by omega)]
   congr 2;omega
  ·trivial
theorem IL (xs:List GNote) (hl:xs.length≤1048576) (p:GNote→Bool):Ans Tryz.prog 211 [] [vL 5 cT aCn xs,fbO (fun x=>[RD.ag (cT x)]) fun x => .bool (p x)] [] (vI (cI p xs)):=by
 refine aE Tryz.func211 fun B0 r_ D_ w0=>?_
 refine aF ?_
 refine aK (ι:=Nat) (fun i=>[(8,vI i)]) (fun _=>[]) (fun i=>i≤xs.length∧∀ j,j<i→p (xs.getD j aCn)=false) (fun i=>xs.length - i) 0 [] [] ⟨Nat.zero_le _,fun j hj=>absurd hj (Nat.not_lt_zero _)⟩ ?_
 intro i ⟨h1,h2⟩
 refine aF ?_
 refine aI (fun e=>?_) (fun e=>?_)
 ·have hi:i<xs.length:=by omega
  refine aF ?_
  refine vE rfl rfl rfl ⟨xs.getD i aCn,rfl,rfl⟩ ?_
  refine aN ?_
  refine aA (fun e2=>?_) (fun e2=>?_)
  ·refine aF ?_
   exact aJ [(4,none)] ((gA hi h2 e2).symm)
  ·refine aF ?_
   exact aL (i+1) ⟨hi,b5 h2 e2⟩ (by omega)
 ·refine aF ?_
  exact dK TT_ok [(4,none)] rfl rfl ((gT fun j hj=>h2 j (by omega)).symm)
theorem HB (xs:List GNote) (hl:xs.length≤1048576) (p:GNote→Bool):Con Tryz.prog 220 [900] [.a (.g 900),fbO (fun x=>[RD.ag (cT x)]) fun x => .bool (p x)] [(900,bE 5 cT aCn xs)] (fun _:Unit=>True) (fun _=>[.a (.g 901)]) fun _=>[(901,bE 5 cT aCn (xs.filter fun x => !p x))]:=by
 refine aE Tryz.func220 fun B0 r_ D_ w0=>?_
 refine aF ?_
 refine aH (IL xs hl p) ?_
 rcases gH p aCn xs with ⟨h1,h2⟩ | ⟨i0,h1,h2,h3,h4⟩
 ·refine aQ (fun _=>?_) (fun e=>absurd h1 e)
  refine aF ?_
  refine bB (FC 4 900 901 rfl rfl rfl rfl rfl rfl) ?_
  refine aC (()) [(4,none)] ?_ ?_ ?_
  ·exact aCu _
  ·exact ⟨⟨_,rfl,bP (v6 h2)⟩,trivial⟩
  ·trivial
 rw [h2]
 refine s6 rfl (fun e=>by omega) (fun _=>?_)
 refine aF ?_
 refine cY (ι:=Nat×(Nat→GNote)) (fun y=>[(6,vI y.1),(5,vI ((xs.take y.1).filter fun x => !p x).length)]) (fun y=>[(900, .arr 5 xs.length fun k=>cT (y.2 k))])
  (fun y=>i0<y.1∧y.1≤xs.length∧(∀ k,k<((xs.take y.1).filter fun x => !p x).length→y.2 k=((xs.take y.1).filter fun x => !p x).getD k aCn)∧∀ k,y.1≤k→k<xs.length→y.2 k=xs.getD k aCn)
  (fun y=>xs.length - y.1) (i0+1,fun k=>xs.getD k aCn) [900] [] rfl rfl ⟨Nat.lt_succ_self _,h1,?_,fun _ _ _=>rfl⟩ ?_ wM ?_
 ·intro k hk
  rw [tD h1 h3 h4] at hk ⊢
  exact (m5 hk).symm
 ·refine And.intro ⟨_,rfl,aCw ?_⟩ (And.intro ⟨_,rfl,aCw ?_⟩ trivial)
  ·simp
  ·rw [tD h1 h3 h4];simp;omega
 rintro ⟨j,h⟩ ⟨g1,g2,g3,g4⟩
 dsimp only at g1 g2 g3 g4 ⊢
 have hle:=mE xs (fun x => !p x) j
 refine aF ?_
 refine aI (fun e=>?_) (fun e=>?_)
 ·have hj:j<xs.length:=by omega
  refine aF ?_
  refine vE rfl rfl rfl ⟨h j,rfl,rfl⟩ ?_
  refine aN ?_
  refine eF rfl (fun e2=>?_) (fun e2=>?_)
  ·have hF:=jM (z:=aCn) hj (p:=fun x => !p x) (by rw [← g4 j (Nat.le_refl _) hj,e2];rfl)
   refine aF ?_
   refine bN (j+1,fun k=>if k=((xs.take j).filter fun x => !p x).length then h j else h k) ⟨by omega,hj,fun k hk=>?_,fun k k1 k2=>?_⟩ (by show xs.length - (j+1)<xs.length - j;omega) ?_ ⟨⟨_,rfl,Ch.imp_arr fun k hk=>?_⟩,wM⟩
   ·dsimp only at hk ⊢
    rw [hF,List.length_append,List.length_singleton] at hk
    rw [hF]
    by_cases c:k=((xs.take j).filter fun x => !p x).length
    ·rw [if_pos c,c,rS,g4 j (Nat.le_refl _) hj]
    ·rw [if_neg c,rM (by omega)];exact g3 k (by omega)
   ·dsimp only at k1 ⊢
    rw [if_neg (by omega)];exact g4 k (by omega) k2
   ·refine And.intro ⟨_,rfl,aCw ?_⟩ (And.intro ⟨_,rfl,aCw ?_⟩ wF)
    ·simp
    ·dsimp only;rw [hF];simp
   ·dsimp only
    by_cases c:k=((xs.take j).filter fun x => !p x).length
    ·subst c
     simp only [Int.toNat_natCast,Nat.beq_refl,cond_true,if_true]
     rfl
    ·rw [if_neg c]
     have:Nat.beq k (((xs.take j).filter fun x => !p x).length:Int).toNat=false:=by
      simp only [Int.toNat_natCast]
      cases e:Nat.beq k ((xs.take j).filter fun x => !p x).length with
      | false=>rfl
      | true=>exact absurd (Nat.eq_of_beq_eq_true e) c
     rw [this];rfl
  ·have hF:=j4 (z:=aCn) hj (p:=fun x => !p x) (by rw [← g4 j (Nat.le_refl _) hj,e2];rfl)
   refine aF ?_
   refine bN (j+1,h) ⟨by omega,hj,fun k hk=>?_,fun k k1 k2=>g4 k (by dsimp only at k1;omega) k2⟩ (by show xs.length - (j+1)<xs.length - j;omega) ?_ wM
   ·dsimp only at hk ⊢
    rw [← hF] at hk ⊢;exact g3 k hk
   ·refine And.intro ⟨_,rfl,aCw ?_⟩ (And.intro ⟨_,rfl,aCw ?_⟩ wF)
    ·simp
    ·dsimp only;rw [← hF]
 ·have hj:j=xs.length:=by omega
  subst hj
  rw [List.take_length] at g3 hle ⊢
  refine aF ?_
  refine B7 TT_ok 38 900 rfl rfl rfl rfl rfl rfl ⟨by omega,by omega,by omega⟩ rfl rfl rfl rfl ?_
  refine aN ?_
  refine bB (FS 4 900 901 rfl rfl rfl ⟨by omega,by omega,by omega⟩ rfl rfl rfl) ?_
  refine aC (()) [(4,none)] ?_ ?_ ?_
  ·exact aCu _
  ·refine ⟨⟨_,rfl,Ch.imp_len (by omega) fun k hk=>?_⟩,trivial⟩
   dsimp only
   rw [if_neg (by omega),g3 _ (by omega)]
   congr 2;omega
  ·trivial
end
section
theorem W6 (s:GSet) (r0:Int):Ans Tryz.prog 152 [] [vR (cP s),vP [dI r0]] [] (vB (s.region != r0)):=by
 refine aE Tryz.func152 fun B0 r_ D_ w0=>?_
 refine aF ?_
 exact aG [(3,none)] (rfl)
theorem yR (t:GTx) (r0:Int) (hl:t.sets.length≤1048576):MkL Tryz.prog 86 [vP (cTx t),vI r0] 5 cP aCm (bY r0 t.sets):=by
 refine aE Tryz.func86 fun B0 r_ D_ w0=>?_
 refine aF ?_
 refine aR (aCv 900 9 (CQ t.sets hl)) fun _ _=>?_
 refine aN ?_
 refine cO TT_ok (aCv 900 9 (aCv 901 11 (IQ t.sets hl fun s=>s.region != r0))) rfl rfl (SVs.cons (aCs _) (SVs.cons (iO (aB) rfl fun args x ⟨s,h1,h2⟩=>by subst h1;subst h2;exact W6 s r0) rfl)) (fun _=>rfl) rfl rfl rfl fun _ _=>?_
 refine aN ?_
 refine bB (bL 11 900) ?_
 refine aC (()) [(4,none)] ?_ ?_ ?_
 ·exact aCu _
 ·exact ⟨⟨_,rfl,bP (by simp [bY,bne])⟩,trivial⟩
 ·trivial
end
end
section
section
theorem SW (t:GTx) (hl:t.sets.length≤1048576):MkL Tryz.prog 155 [vP (cTx t)] 1 bS 0 (cmI (fC t) (fC t).length):=by
 have hln:=m6 t
 refine aE Tryz.func155 fun B0 r_ D_ w0=>?_
 refine aF ?_
 refine bB (oX 3 7 1 (fun i=>bS (([]:List Int).getD i 0)) rfl rfl rfl rfl) ?_
 refine aK (ι:=Nat) (fun i=>[(11,vI i),(3, .a (.g 7))]) (fun i=>[(7,bE 1 bS 0 ((fC t).take i))]) (fun i=>i≤t.sets.length) (fun i=>t.sets.length - i) 0 [7] [7] (Nat.zero_le _) ?_
 intro i h1
 refine aF ?_
 refine aI (fun e=>?_) (fun e=>?_)
 ·have hi:i<t.sets.length:=by omega
  have hle:((fC t).take i).length≤i:=by rw [List.length_take];omega
  refine aF ?_
  refine cV TT_ok 18 (fun _=>bS (t.sets.getD i aCm).region) rfl rfl rfl rfl rfl rfl rfl (fun i hi=>by rcases i with _ | i <;>first | rfl | omega) (mu1:=[]) rfl rfl rfl ?_
  refine aN ?_
  refine cU TT_ok 7 18 19 rfl rfl rfl rfl rfl rfl rfl rfl rfl rfl rfl rfl ⟨by simp;omega,by unfold maxL;omega⟩ ?_
  refine aN ?_
  refine bC (bL 7 19) ?_
  exact bN (i+1) hi (by omega) wF ⟨⟨_,rfl,fJ (x:=(t.sets.getD i aCm).region) (by rw [cC (z:=0) (by omega),nM]) rfl⟩,wM⟩
 ·have hi:i=t.sets.length:=by omega
  subst hi
  rw [List.take_of_length_le (by omega)]
  refine aF ?_
  refine cO TT_ok (aCv 900 7 (aCv 901 22 (VE (fC t) (by omega)))) rfl rfl (aCu _) (fun _=>rfl) rfl rfl rfl fun _ _=>?_
  refine aN ?_
  refine bB (bL 22 900) ?_
  refine aC (()) [(2,none)] ?_ ?_ ?_
  ·exact aCu _
  ·exact wM
  ·trivial
end
end
section
theorem pJ (xs:List Int) (hl:xs.length≤1048576) (S:Int→Prop) (hS:∀ i,i<xs.length→S (xs.getD i 0)) (p:Int→Bool):Ans Tryz.prog 149 [] [vL 1 bS 0 xs,fbP S (fun x=>[RD.a (dI x)]) fun x => .bool (p x)] [] (vB (xs.any p)):=by
 refine aE Tryz.func149 fun B0 r_ D_ w0=>?_
 refine aF ?_
 refine aH (HM xs hl S hS p) ?_
 exact aG [(4,none)] (sF p 0 xs)
theorem rV (xs:List GTx) (hl:xs.length≤1048576) (S:GTx→Prop) (hS:∀ i,i<xs.length→S (xs.getD i aCk)) (p:GTx→Bool):Ans Tryz.prog 144 [] [vL 7 cTx aCk xs,fbP S (fun x=>[RD.ag (cTx x)]) fun x => .bool (p x)] [] (vI (cI p xs)):=by
 refine aE Tryz.func144 fun B0 r_ D_ w0=>?_
 refine aF ?_
 refine aK (ι:=Nat) (fun i=>[(8,vI i)]) (fun _=>[]) (fun i=>i≤xs.length∧∀ j,j<i→p (xs.getD j aCk)=false) (fun i=>xs.length - i) 0 [] [] ⟨Nat.zero_le _,fun j hj=>absurd hj (Nat.not_lt_zero _)⟩ ?_
 intro i ⟨h1,h2⟩
 refine aF ?_
 refine aI (fun e=>?_) (fun e=>?_)
 ·have hi:i<xs.length:=by omega
  refine aF ?_
  refine vE rfl rfl rfl ⟨xs.getD i aCk,hS i hi,rfl,rfl⟩ ?_
  refine aN ?_
  refine aA (fun e2=>?_) (fun e2=>?_)
  ·refine aF ?_
   exact aJ [(4,none)] ((gA hi h2 e2).symm)
  ·refine aF ?_
   exact aL (i+1) ⟨hi,b5 h2 e2⟩ (by omega)
 ·refine aF ?_
  exact dK TT_ok [(4,none)] rfl rfl ((gT fun j hj=>h2 j (by omega)).symm)
theorem tT (xs:List Int) (hl:xs.length≤1048576):MkL Tryz.prog 139 [vL 1 bS 0 xs] 1 bS 0 xs:=by
 refine aE Tryz.func139 fun B0 r_ D_ w0=>?_
 refine aF ?_
 refine HY TT_ok false rfl rfl rfl rfl rfl rfl fun b hb=>?_
 refine aN ?_
 refine aA (fun e=>?_) (fun e=>?_)
 ·have h0:=hb e
  refine aF ?_
  refine bB (oX 2 900 1 (fun i=>bS (([]:List Int).getD i 0)) rfl rfl rfl rfl) ?_
  refine aC (()) [(2,none)] ?_ ?_ ?_
  ·exact aCu _
  ·exact ⟨⟨_,rfl,bP (List.length_eq_zero_iff.1 h0).symm⟩,trivial⟩
  ·trivial
 ·refine aF ?_
  refine aM 5 (fun i=>bS (([]:List Int).getD i 0)) (fun i hi=>absurd hi (Nat.not_lt_zero _)) (mu1:=[]) ?_
  refine aN ?_
  refine oG TT_ok 5 900 rfl rfl rfl rfl rfl rfl rfl rfl rfl rfl rfl rfl ⟨by simp;omega,by unfold maxL;omega⟩ ?_
  refine aN ?_
  refine aC (()) [(2,none)] ?_ ?_ ?_
  ·exact aCu _
  ·exact ⟨⟨_,rfl,mX (ys:=([]:List Int)) (by simp)⟩,trivial⟩
  ·trivial
end
section
section
theorem RO (xs:List GSet) (hl:xs.length≤1048576) (s0:GSet) (c:GSet→Int) (hm:qB c aCm xs):Con Tryz.prog 262 [] [vL 5 cP aCm xs,vR (cP s0),fbO (fun x=>[RD.ag (cP x),RD.ag (cP s0)]) fun x => .int .i64 (c x)] [] (jJ c aCm xs)
  (fun i=>[vI i,vB (bif decide ((i:Int)<xs.length) then c (xs.getD i aCm) == 0 else false)]) fun _=>[]:=by
 refine aE Tryz.func262 fun B0 r_ D_ w0=>?_
 refine aF ?_
 refine cY (ι:=Nat×Nat) (fun y=>[(9,vI y.1),(10,vI y.2)]) (fun _=>[]) (fun y=>y.1≤y.2∧y.2≤xs.length∧(∀ a,a<y.1→c (xs.getD a aCm)<0)∧∀ a,y.2≤a→a<xs.length→¬ c (xs.getD a aCm)<0) (fun y=>y.2 - y.1) (0,xs.length) [] [] rfl rfl ⟨Nat.zero_le _,Nat.le_refl _,fun a h=>absurd h (Nat.not_lt_zero _),fun a h1 h2=>by omega⟩ wF wM ?_
 rintro ⟨i,j⟩ ⟨h1,h2,h3,h4⟩
 dsimp only at h1 h2 h3 h4 ⊢
 refine aF ?_
 refine aI (fun e=>?_) (fun e=>?_)
 ·have hij:i<j:=by omega
  have hh:(((i:Int)+j) / 2).toNat=(i+j) / 2:=by omega
  refine aF ?_
  refine aO [] fun B0 H0=>?_
  refine bG 6 rfl (by kernel_rfl) (aAi rfl rfl rfl ⟨xs.getD (((i:Int)+j) / 2).toNat aCm,rfl,rfl⟩ (bD ?_))
  refine tZ TT_ok rfl ?_
  refine aP ?_
  rw [hh]
  refine aI (fun e2=>?_) (fun e2=>?_)
  ·refine aF ?_
   refine bN ((i+j) / 2+1,j) ⟨by dsimp only;omega,h2,fun a ha=>?_,h4⟩ (by show j - ((i+j) / 2+1)<j - i;omega) ⟨⟨_,rfl,aCw (fL (by dsimp only;omega))⟩,⟨_,rfl,aCs _⟩,wF⟩ wM
   exact hm a ((i+j) / 2) (by dsimp only at ha;omega) (by omega) e2
  ·refine aF ?_
   refine bN (i,(i+j) / 2) ⟨by dsimp only;omega,by dsimp only;omega,h3,fun a a1 a2 hc=>?_⟩ (by show (i+j) / 2 - i<j - i;omega) ⟨⟨_,rfl,aCs _⟩,⟨_,rfl,aCw (fL (by dsimp only;omega))⟩,wF⟩ wM
   exact e2 (hm ((i+j) / 2) a (by dsimp only at a1;omega) a2 hc)
 ·have hij:i=j:=by omega
  subst hij
  refine aF ?_
  refine aO [] fun B0 H0=>?_
  refine bG 11 rfl (by kernel_rfl) (aAz rfl rfl rfl rfl rfl ⟨xs.getD i aCm,rfl,rfl⟩ (bD ?_))
  refine tZ TT_ok rfl ?_
  refine aP ?_
  refine aC (i) [(6,none),(7,none)] ?_ ?_ ?_
  ·exact aCu _
  ·trivial
  ·exact ⟨h2,h3,h4⟩
end
section
theorem M9 {r s q t:Int}:vS r s q t=0 ↔ r=q∧s=t:=by
 unfold vS orL orL orL lN
 by_cases h1:r<q
 ·simp [h1];omega
 ·by_cases h2:r > q
  ·simp [h1,h2];omega
  ·have h3:r=q:=by omega
   subst h3
   by_cases h4:s<t
   ·simp [h4];omega
   ·by_cases h5:s > t
    ·simp [h4,h5];omega
    ·simp [h4,h5];omega
theorem aCd (a b:GSet):Ans Tryz.prog 263 [] [vR (cP a),vR (cP b)] [] (vI (vS a.region a.slot b.region b.slot)):=by
 refine aE Tryz.func263 fun B0 r_ D_ w0=>?_
 refine aF ?_
 refine aH (uV _ _ _ _) ?_
 exact aJ [(4,none)] (rfl)
theorem set_c (t:GTx) (hl:t.sets.length≤1048576) (r0 s0:Int) (hs:qU t.sets):Con Tryz.prog 222 [] [vP (cTx t),vI r0,vI s0] [] (jJ (jT r0 s0) aCm t.sets)
  (fun i=>[vI i,vB (bif decide ((i:Int)<t.sets.length) then jT r0 s0 (t.sets.getD i aCm) == 0 else false)]) fun _=>[]:=by
 refine aE Tryz.func222 fun B0 r_ D_ w0=>?_
 refine aF ?_
 refine cO TT_ok (RO t.sets hl ⟨r0,s0,0,false,0⟩ (jT r0 s0) (tU hs r0 s0)) rfl rfl (SVs.cons (aCs _) (SVs.cons (aCs _) (SVs.cons (iO (aB) rfl fun args x ⟨s,h1,h2⟩=>by subst h1;subst h2;exact aCd s ⟨r0,s0,0,false,0⟩) rfl))) (fun _=>rfl) rfl rfl rfl fun i hi=>?_
 refine aN ?_
 refine aC (i) [(6,none),(7,none)] ?_ ?_ ?_
 ·exact aCu _
 ·trivial
 ·exact hi
theorem ZL {xs:List GSet} (hs:qU xs) {r s:Int} {i:Nat} (h:jJ (jT r s) aCm xs i):(bif decide ((i:Int)<xs.length) then jT r s (xs.getD i aCm) == 0 else false)=xs.any (dS r s):=by
 obtain ⟨h1,h2,h3⟩:=h
 rw [Bool.eq_iff_iff,List.any_eq_true]
 constructor
 ·intro e
  have hi:i<xs.length:=by
   by_cases c:i<xs.length
   ·exact c
   ·rw [decide_eq_false (by omega)] at e;cases e
  rw [decide_eq_true (by omega)] at e
  have e:jT r s (xs.getD i aCm)=0:=by simpa using e
  refine ⟨xs.getD i aCm,by simp [hi],nB.2 (M9.1 e)⟩
 ·rintro ⟨x,hx,hc⟩
  obtain ⟨a,ha,rfl⟩:=List.mem_iff_getElem.1 hx
  have hxa:xs.getD a aCm=xs[a]:=by simp [ha]
  rw [← hxa] at hc
  have hc:=nB.1 hc
  have hz:jT r s (xs.getD a aCm)=0:=M9.2 hc
  have hia:i≤a:=by
   rcases Nat.lt_or_ge a i with h | h
   ·have:=h2 a h;omega
   ·exact h
  have hi:i<xs.length:=by omega
  rw [decide_eq_true (by omega)]
  have:jT r s (xs.getD i aCm)=0:=by
   by_cases c:i=a
   ·subst c;exact hz
   ·exfalso
    have h4:=hs i a (by omega) ha
    have h5:=h3 i (Nat.le_refl _) hi
    unfold jT at h5
    rw [pD] at h5
    unfold lessS at h4
    omega
  show (jT r s (xs.getD i aCm) == 0)=true
  rw [this];rfl
theorem V4 (n:GNote) (t:GTx) (hl:t.sets.length≤1048576) (hs:qU t.sets):Ans Tryz.prog 221 [] [vR (cT n),vP [.pt (cTx t) 0]] [] (vB (t.sets.any (dS n.region n.slot))):=by
 refine aE Tryz.func221 fun B0 r_ D_ w0=>?_
 refine aF ?_
 refine aR (set_c t hl n.region n.slot hs) fun i hi=>?_
 refine aN ?_
 exact aG [(3,none)] (ZL hs hi)
theorem YF (t:GTx) (n:GNote):pU t n = !t.sets.any (dS n.region n.slot):=by
 unfold pU
 rcases gH (dS n.region n.slot) aCm t.sets with ⟨h1,h2⟩ | ⟨i,h1,h2,h3,h4⟩
 ·rw [h1]
  cases c:t.sets.any (dS n.region n.slot) with
  | false=>rfl
  | true =>
   obtain ⟨x,hx,hc⟩:=List.any_eq_true.1 c
   obtain ⟨a,ha,rfl⟩:=List.mem_iff_getElem.1 hx
   have:=h2 a ha
   have hxa:t.sets.getD a aCm=t.sets[a]:=by simp [ha]
   rw [hxa,hc] at this;cases this
 ·rw [h2,decide_eq_false (by omega)]
  have:t.sets.any (dS n.region n.slot)=true:=List.any_eq_true.2 ⟨_,by simp [h1],h4⟩
  rw [this];rfl
theorem P5 (t:GTx) (h1:t.reads.length≤1048576) (h2:t.sets.length≤1048576) (hs:qU t.sets):MkL Tryz.prog 156 [vP (cTx t)] 5 cT aCn (t.reads.filter (pU t)):=by
 refine aE Tryz.func156 fun B0 r_ D_ w0=>?_
 refine aF ?_
 refine aR (aCv 900 7 (GC t.reads h1)) fun _ _=>?_
 refine aN ?_
 refine cO TT_ok (aCv 900 7 (aCv 901 9 (HB t.reads h1 fun n=>t.sets.any (dS n.region n.slot)))) rfl rfl (SVs.cons (aCs _) (SVs.cons (iO (aB) rfl fun args x ⟨n,e1,e2⟩=>by subst e1;subst e2;exact V4 n t h2 hs) rfl)) (fun _=>rfl) rfl rfl rfl fun _ _=>?_
 refine aN ?_
 refine bB (bL 9 900) ?_
 refine aC (()) [(2,none)] ?_ ?_ ?_
 ·exact aCu _
 ·exact ⟨⟨_,rfl,bP (by congr 1;funext n;exact (YF t n).symm)⟩,trivial⟩
 ·trivial
end
end
section
theorem L4 (x:GRecord) (tx r0 kind:Int):Ans Tryz.prog 218 [] [vR (cK x),vP [dI tx],vP [dI r0],vP [dI kind]] [] (vB (pW tx r0 kind x)):=by
 refine aE Tryz.func218 fun B0 r_ D_ w0=>?_
 refine aF ?_
 exact aG [(5,none)] (rfl)
theorem G0 (m:GMachine) (hl:m.log.length≤1048576) (tx r0 kind:Int):Ans Tryz.prog 153 [] [vP (bJ m),vI tx,vI r0,vI kind] [] (vI (oD m tx r0 kind)):=by
 refine aE Tryz.func153 fun B0 r_ D_ w0=>?_
 refine aF ?_
 refine lZ TT_ok (rF m.log hl (fun _=>True) (fun _ _=>trivial) (pW tx r0 kind)) rfl rfl (SVs.cons (aCs _) (SVs.cons (iO (aB) rfl fun args x ⟨n,_,e1,e2⟩=>by subst e1;subst e2;exact L4 n _ _ _) rfl)) rfl rfl ?_
 exact aJ [(8,none)] (rfl)
theorem DR (a b:Int):(if b > a then b else a)=B5 a b:=by unfold B5;split <;>split <;>omega
theorem F1 (c:GCluster) (hb:D.bds dJ (bO c)) (hok:ClusOk c) (id r0:Int) (hr:0≤r0∧r0<c.places.length):Ans Tryz.prog 87 [] [vP (bO c),vI id,vI r0] [] (vI (rY c id r0 (c.places.getD r0.toNat aCi).machines.length)):=by
 have hp:=hok.pl (r:=r0.toNat) (by omega)
 refine aE Tryz.func87 fun B0 r_ D_ w0=>?_
 refine aF ?_
 refine aK (ι:=Nat) (fun k=>[(20,vI k),(7,vI (rY c id r0 k))]) (fun _=>[]) (fun k=>k≤(c.places.getD r0.toNat aCi).machines.length) (fun k=>(c.places.getD r0.toNat aCi).machines.length - k) 0 [] [] (Nat.zero_le _) ?_
 intro k h1
 refine aF ?_
 refine aI (fun e=>?_) (fun e=>?_)
 ·have hk:k<(c.places.getD r0.toNat aCi).machines.length:=by simp at e ⊢;omega
  have hm:=(hok.at (r:=r0.toNat) (by omega) hk).1
  have bm:=pF hb (mAt c r0.toNat k).toNat
  have bl:(bH c r0.toNat k).log.length≤1048576:=bm.2.2.1.1
  have bc:(bH c r0.toNat k).cleared.length≤1048576:=bm.2.2.2.1.1
  refine aF ?_
  refine eF rfl (fun e1=>?_) (fun e1=>?_)
  ·refine aF ?_
   exact bN (k+1) hk (by omega) ⟨⟨_,rfl,aCs _⟩,⟨_,rfl,aCw (fL (show _=tH _ _ _ _ _ from (if_pos e1).symm))⟩,wF⟩ wM
  have e1':¬ (bH c r0.toNat k).alive=false:=by rw [show (bH c r0.toNat k).alive=true from e1];simp
  refine aF ?_
  refine aH (G0 _ bl _ _ _) ?_
  refine aH (j8 _ bc _) ?_
  refine aA (fun e2=>?_) (fun e2=>?_)
  ·refine aF ?_
   exact bN (k+1) hk (by omega) ⟨⟨_,rfl,aCs _⟩,⟨_,rfl,aCw (fL (show _=tH _ _ _ _ _ from ((if_neg e1').trans ((if_pos e2).trans (DR _ _).symm)).symm))⟩,wF⟩ wM
  have e2':=Bool.eq_false_iff.1 e2
  refine aF ?_
  refine aH (G0 _ bl _ _ _) ?_
  refine aA (fun e3=>?_) (fun e3=>?_)
  ·refine aF ?_
   exact bN (k+1) hk (by omega) ⟨⟨_,rfl,aCs _⟩,⟨_,rfl,aCw (fL (show _=tH _ _ _ _ _ from ((if_neg e1').trans ((if_neg e2').trans ((if_pos e3).trans (DR _ _).symm))).symm))⟩,wF⟩ wM
  have e3':=Bool.eq_false_iff.1 e3
  refine aF ?_
  refine aH (G0 _ bl _ _ _) ?_
  refine aA (fun e4=>?_) (fun e4=>?_)
  ·refine aF ?_
   exact bN (k+1) hk (by omega) ⟨⟨_,rfl,aCs _⟩,⟨_,rfl,aCw (fL (show _=tH _ _ _ _ _ from ((if_neg e1').trans ((if_neg e2').trans ((if_neg e3').trans ((if_pos e4).trans (DR _ _).symm)))).symm))⟩,wF⟩ wM
  ·have e4':=Bool.eq_false_iff.1 e4
   refine aF ?_
   exact bN (k+1) hk (by omega) ⟨⟨_,rfl,aCs _⟩,⟨_,rfl,aCw (fL (show _=tH _ _ _ _ _ from ((if_neg e1').trans ((if_neg e2').trans ((if_neg e3').trans (if_neg e4')))).symm))⟩,wF⟩ wM
 ·have hk:k=(c.places.getD r0.toNat aCi).machines.length:=by simp at e h1 ⊢;omega
  subst hk
  refine aF ?_
  exact aJ [(6,none)] (rfl)
end
section
theorem NP (t:GTx) (id:Int):Ans Tryz.prog 145 [] [vR (cTx t),vP [dI id]] [] (vB (t.id == id)):=by
 refine aE Tryz.func145 fun B0 r_ D_ w0=>?_
 refine aF ?_
 exact aG [(3,none)] (rfl)
theorem DB (c:GCluster) (hl:c.txs.length≤1048576) (id:Int) (h:0≤bQ c id):Ans Tryz.prog 80 [] [vP (bO c),vI id] [] (vP (cTx (c.txs.getD (bQ c id).toNat aCk))):=by
 have hin:=dW h
 refine aE Tryz.func80 fun B0 r_ D_ w0=>?_
 refine aF ?_
 refine lZ TT_ok (rV c.txs hl (fun _=>True) (fun _ _=>trivial) fun t=>t.id == id) rfl rfl (SVs.cons (aCs _) (SVs.cons (iO (aB) rfl fun args x ⟨n,_,e1,e2⟩=>by subst e1;subst e2;exact NP n _) rfl)) rfl rfl ?_
 refine aI (fun e=>absurd h (Int.not_le.2 e)) (fun _=>?_)
 have hx:0≤cI (fun t:GTx=>t.id == id) c.txs∧cI (fun t:GTx=>t.id == id) c.txs<c.txs.length:=⟨h,gO⟩
 refine aF ?_
 exact BV TT_ok [(4,none)] rfl rfl (rfl)
theorem EN (c:GCluster) (hl:c.txs.length≤1048576) (id:Int) (h:bQ c id<0):Ans Tryz.prog 80 [] [vP (bO c),vI id] [] (.a (.v (.pointer none))):=by
 refine aE Tryz.func80 fun B0 r_ D_ w0=>?_
 refine aF ?_
 refine lZ TT_ok (rV c.txs hl (fun _=>True) (fun _ _=>trivial) fun t=>t.id == id) rfl rfl (SVs.cons (aCs _) (SVs.cons (iO (aB) rfl fun args x ⟨n,_,e1,e2⟩=>by subst e1;subst e2;exact NP n _) rfl)) rfl rfl ?_
 refine aI (fun _=>?_) (fun e=>absurd h e)
 refine aF ?_
 exact BV TT_ok [(4,none)] rfl rfl (rfl)
theorem xZ {c:GCluster} (hb:D.bds dJ (bO c)) (i:Nat):D.bds dJ (cTx (c.txs.getD i aCk)):=UK hb.2.2.2.2.1 ⟨trivial,trivial,trivial,trivial,⟨Nat.zero_le _,fun i hi=>absurd hi (Nat.not_lt_zero _)⟩,⟨Nat.zero_le _,fun i hi=>absurd hi (Nat.not_lt_zero _)⟩,trivial,trivial⟩ _
theorem L1 {c:GCluster} (h:ClusOk c) {i:Nat} {r0:Int} (hi:i<c.txs.length) (hn:(bY r0 (c.txs.getD i aCk).sets).length≠0):0≤r0∧r0<c.places.length:=by
 have hp:0<(bY r0 (c.txs.getD i aCk).sets).length:=by omega
 have hm:=List.getElem_mem hp
 unfold bY at hm
 obtain ⟨m1,m2⟩:=List.mem_filter.1 hm
 obtain ⟨k,hk,e⟩:=List.mem_iff_getElem.1 m1
 have h2:=h.set hi hk
 have e2:((c.txs.getD i aCk).sets.getD k aCm).region=r0:=by
  have:(c.txs.getD i aCk).sets.getD k aCm=(c.txs.getD i aCk).sets[k]:=by rw [List.getD_eq_getElem?_getD,List.getElem?_eq_getElem hk];rfl
  rw [this,e];simpa using m2
 rwa [e2] at h2
open Classical in
noncomputable def xM (c:GCluster) (id r0:Int):Int:=if ClusOk c∧0≤bQ c id∧(bY r0 (c.txs.getD (bQ c id).toNat aCk).sets).length≠0 then rY c id r0 (c.places.getD r0.toNat aCi).machines.length else 0
theorem RB (c:GCluster) (hb:D.bds dJ (bO c)) (id r0:Int):Ans Tryz.prog 27 [] [vR (bO c),vI id,vI r0] [] (vI (xM c id r0)):=by
 have b3:c.txs.length≤1048576:=hb.2.2.2.2.1.1
 have hlt:=gO (c:=c) (id:=id)
 have bt:(c.txs.getD (bQ c id).toNat aCk).sets.length≤1048576:=(xZ hb _).2.2.2.2.2.1.1
 have hls:(bY r0 (c.txs.getD (bQ c id).toNat aCk).sets).length≤1048576:=Nat.le_trans (List.length_filter_le _ _) bt
 refine aE Tryz.func27 fun B0 r_ D_ w0=>?_
 refine aT ?_
 refine aU 3 fun r_=>?_
 refine aF ?_
 refine aH (vO c b3 id) ?_
 by_cases hg:ClusOk c∧0≤bQ c id
 ·have e0:(bif !dec (ClusOk c) then true else decide (bQ c id<0))=false:=by rw [cN hg.1,decide_eq_false (by omega)];rfl
  have hin:=dW hg.2
  refine aH (d5 c hb) ?_
  refine cO TT_ok (aCv 900 25 (BP (c.txs.getD (bQ c id).toNat aCk) r0 bt)) rfl rfl (aCu _) (fun _=>rfl) rfl rfl rfl (fun _ _=>?_) (hg:=⟨rfl,congrArg (fun x=>some (vB x)) e0⟩)
  refine aN ?_
  rw [e0]
  refine aQ (fun e=>?_) (fun e=>?_)
  ·refine aF ?_
   exact dK TT_ok [(6,none)] rfl rfl ((by rw [xM,if_neg];rintro ⟨_,_,h⟩;omega))
  ·have hn:(bY r0 (c.txs.getD (bQ c id).toNat aCk).sets).length≠0:=by omega
   refine aF ?_
   refine aH (MN c hb hg.1 id r0 (L1 hg.1 hin.1 hn)) ?_
   exact dK TT_ok [(6,none)] rfl rfl ((by rw [xM,if_pos ⟨hg.1,hg.2,hn⟩]))
 ·have e0:(bif !dec (ClusOk c) then true else decide (bQ c id<0))=true:=by
   by_cases h1:ClusOk c
   ·rw [cN h1,decide_eq_true (Int.not_le.1 fun h=>hg ⟨h1,h⟩)];rfl
   ·rw [b7 h1];rfl
  refine aH (d5 c hb) ?_
  refine lK (.a (.v (.slice none 0 0))) rfl rfl rfl rfl (e0) rfl rfl ?_
  refine aN ?_
  rw [e0]
  refine bX rfl (fun e=>?_) (fun e=>by cases e)
  refine aF ?_
  exact dK TT_ok [(6,none)] rfl rfl ((by rw [xM,if_neg];rintro ⟨h1,h2,_⟩;exact hg ⟨h1,h2⟩))
theorem RA (c:GCluster) (hb:D.bds dJ (bO c)) (id r0:Int):Ans Tryz.prog 26 [] [vR (bO c),vI id,vI r0] [] (vI (xM c id r0)):=by
 have b3:c.txs.length≤1048576:=hb.2.2.2.2.1.1
 have bt:(c.txs.getD (bQ c id).toNat aCk).sets.length≤1048576:=(xZ hb _).2.2.2.2.2.1.1
 have hls:(bY r0 (c.txs.getD (bQ c id).toNat aCk).sets).length≤1048576:=Nat.le_trans (List.length_filter_le _ _) bt
 refine aE Tryz.func26 fun B0 r_ D_ w0=>?_
 refine aT ?_
 refine aU 3 fun r_=>?_
 refine aF ?_
 refine aH (eT c hb) ?_
 refine eF rfl (fun e=>?_) (fun e=>?_)
 ·refine aF ?_
  exact dK TT_ok [(6,none)] rfl rfl ((by rw [xM,if_neg];rintro ⟨h,_⟩;exact jN.1 e h))
 have hok:=c9.1 e
 refine aF ?_
 by_cases hf:0≤bQ c id
 ·have hin:=dW hf
  refine rB TT_ok (DB c b3 id hf) rfl rfl (aCu _) rfl rfl ?_
  refine aR (aCv 900 18 (yR (c.txs.getD (bQ c id).toNat aCk) r0 bt)) fun _ _=>?_
  refine aN ?_
  refine aQ (fun e=>?_) (fun e=>?_)
  ·refine aF ?_
   exact dK TT_ok [(6,none)] rfl rfl ((by rw [xM,if_neg];rintro ⟨_,_,h⟩;omega))
  ·have hn:(bY r0 (c.txs.getD (bQ c id).toNat aCk).sets).length≠0:=by omega
   refine aF ?_
   refine aH (F1 c hb hok id r0 (L1 hok hin.1 hn)) ?_
   exact dK TT_ok [(6,none)] rfl rfl ((by rw [xM,if_pos ⟨hok,hf,hn⟩]))
 ·refine rB TT_ok (EN c b3 id (by omega)) rfl rfl (aCu _) rfl rfl ?_
  refine lK (.a (.v (.slice none 0 0))) rfl rfl rfl rfl (rfl) rfl rfl ?_
  refine aN ?_
  refine bX rfl (fun e=>?_) (fun e=>by cases e)
  refine aF ?_
  exact dK TT_ok [(6,none)] rfl rfl ((by rw [xM,if_neg];rintro ⟨_,h,_⟩;exact hf h))
end
section
open Classical in
noncomputable def nQ (c:GCluster) (id:Int):Bool:=if ClusOk c∧0≤bQ c id then kA c (c.txs.getD (bQ c id).toNat aCk) else false
theorem I2 (c:GCluster) (hb:D.bds dJ (bO c)) (id:Int):Ans Tryz.prog 30 [] [vR (bO c),vI id] [] (vB (nQ c id)):=by
 have b3:c.txs.length≤1048576:=hb.2.2.2.2.1.1
 have hlt:=gO (c:=c) (id:=id)
 refine aE Tryz.func30 fun B0 r_ D_ w0=>?_
 refine aT ?_
 refine aU 2 fun r_=>?_
 refine aF ?_
 refine aH (vO c b3 id) ?_
 by_cases hg:ClusOk c∧0≤bQ c id
 ·have hin:=dW hg.2
  refine aO [] fun B0 H0=>?_
  refine jB TT_ok (d5 c hb) rfl rfl rfl rfl rfl rfl ?_
  refine jB TT_ok (wW c hb hg.1 _ (hg.1.txIn hin.1)) rfl rfl rfl rfl rfl rfl ?_
  refine aP ?_
  exact b9 TT_ok [(4,none)] rfl rfl ((by rw [nQ,if_pos hg,cN hg.1,decide_eq_true hg.2];rfl))
 ·have e0:(bif dec (ClusOk c) then decide (bQ c id ≥ 0) else false)=false:=by
   by_cases h1:ClusOk c
   ·rw [cN h1,decide_eq_false fun h=>hg ⟨h1,h⟩];rfl
   ·rw [b7 h1];rfl
  refine aO [] fun B0 H0=>?_
  refine jB TT_ok (d5 c hb) rfl rfl rfl rfl rfl rfl ?_
  refine aAG 13 (vB true) rfl rfl rfl rfl rfl (e0) rfl rfl ?_
  refine tZ TT_ok rfl ?_
  refine aP ?_
  exact b9 TT_ok [(4,none)] rfl rfl ((by rw [nQ,if_neg hg,e0];rfl))
theorem aA8 (c:GCluster) (hb:D.bds dJ (bO c)) (m0:Int) (hm:0≤m0∧m0<c.machines.length):Ans Tryz.prog 158 [] [vI m0,vP [.pt (bO c) 0]] [] (vB (!(c.machines.getD m0.toNat aCj).alive)):=by
 refine aE Tryz.func158 fun B0 r_ D_ w0=>?_
 refine aF ?_
 exact aG [(3,none)] (rfl)
theorem aAf (c:GCluster) (r:Nat):((c.places.getD r aCi).machines.any fun m => !(c.machines.getD m.toNat aCj).alive)=gZ c r:=by
 unfold gZ
 rcases hx:t9 (c.places.getD r aCi).machines.length fun k => !(bH c r k).alive with _ | _
 ·exact j0 (z:=0) fun j hj=>uR hx j hj
 ·obtain ⟨k,hk,h1⟩:=List.any_eq_true.1 hx
  exact uL (z:=0) (List.mem_range.1 hk) h1
theorem Q3 (c:GCluster) (hb:D.bds dJ (bO c)) (hok:ClusOk c) (r0:Int) (hr:0≤r0∧r0<c.places.length):Ans Tryz.prog 157 [] [vI r0,vP [.pt (bO c) 0]] [] (vB (gZ c r0.toNat)):=by
 have hpl:=hok.pl (r:=r0.toNat) (by omega)
 refine aE Tryz.func157 fun B0 r_ D_ w0=>?_
 refine aF ?_
 refine lZ TT_ok (pJ (c.places.getD r0.toNat aCi).machines (by omega) (fun m=>0≤m∧m<c.machines.length) (fun k hk=>(hok.at (by omega) hk).1) fun m => !(c.machines.getD m.toNat aCj).alive) rfl rfl (SVs.cons (aCs _) (SVs.cons (iO (aB) rfl fun args x ⟨n,hn,e1,e2⟩=>by subst e1;subst e2;exact aA8 c hb n hn) rfl)) rfl rfl ?_
 exact aG [(3,none)] (aAf c r0.toNat)
theorem EZ {xs:List Int} {x:Int}:∀ {k:Nat},k≤xs.length→(x ∈ cmI xs k ↔ ∃ j,j<k∧xs.getD j 0=x)
 | 0,_=>by simp [cmI]
 | k+1,h=>by
  have ih:=EZ (xs:=xs) (x:=x) (k:=k) (by omega)
  by_cases c:k=0∨xs.getD k 0≠xs.getD (k - 1) 0
  ·rw [E0 c,List.mem_append,ih]
   constructor
   ·rintro (⟨j,h1,h2⟩ | h1)
    ·exact ⟨j,by omega,h2⟩
    ·exact ⟨k,by omega,(List.mem_singleton.1 h1).symm⟩
   ·rintro ⟨j,h1,h2⟩
    by_cases hj:j=k
    ·subst hj;exact .inr (List.mem_singleton.2 h2.symm)
    ·exact .inl ⟨j,by omega,h2⟩
  ·have c0:0<k:=by omega
   have c1:xs.getD k 0=xs.getD (k - 1) 0:=by
    by_cases h:xs.getD k 0=xs.getD (k - 1) 0
    ·exact h
    ·exact absurd (.inr h) c
   rw [ID c0 c1,ih]
   constructor
   ·rintro ⟨j,h1,h2⟩;exact ⟨j,by omega,h2⟩
   ·rintro ⟨j,h1,h2⟩
    by_cases hj:j=k
    ·subst hj;exact ⟨j - 1,by omega,c1.symm.trans h2⟩
    ·exact ⟨j,by omega,h2⟩
abbrev uA (t:GTx) (i:Nat):List Int:=cmI (fC t) (fC t).length ++ ((bW t).take i).map GNote.region
theorem ZX (c:GCluster) (t:GTx):((uA t (bW t).length).any fun r=>gZ c r.toNat)=((t.sets.any fun s=>gZ c s.region.toNat) || (bW t).any fun n=>gZ c n.region.toNat):=by
 rw [List.any_append,List.take_length,List.any_map]
 congr 1
 rw [Bool.eq_iff_iff,List.any_eq_true,List.any_eq_true]
 constructor
 ·rintro ⟨x,hx,h1⟩
  obtain ⟨j,hj,e⟩:=(EZ (Nat.le_refl _)).1 hx
  rw [m6] at hj
  rw [nM] at e
  refine ⟨t.sets.getD j aCm,?_,by rw [e];exact h1⟩
  rw [List.getD_eq_getElem?_getD,List.getElem?_eq_getElem hj];exact List.getElem_mem hj
 ·rintro ⟨s,hs,h1⟩
  obtain ⟨j,hj,e⟩:=List.mem_iff_getElem.1 hs
  refine ⟨s.region,(EZ (Nat.le_refl _)).2 ⟨j,by rw [m6];exact hj,?_⟩,h1⟩
  rw [nM,List.getD_eq_getElem?_getD,List.getElem?_eq_getElem hj];exact congrArg GSet.region e
theorem ZC {c:GCluster} {t:GTx} (h:pK c t=false):(bif t.phase != 7 then t.phase != 9 else false)=kA c t:=by
 unfold kA
 rw [h]
 by_cases h7:t.phase=7
 ·simp [h7]
 ·by_cases h9:t.phase=9
  ·simp [h9]
  ·simp [h7,h9]
theorem VZ {c:GCluster} {t:GTx} (h:pK c t=true) (h2:t.phase=1∨t.phase=7∨t.phase=9):false=kA c t:=by
 unfold kA
 rw [h]
 rcases h2 with h | h | h <;>simp [h]
theorem aBk {c:GCluster} {t:GTx} (ht:TxIn c t):∀ k,k<(uA t (bW t).length).length→0≤(uA t (bW t).length).getD k 0∧(uA t (bW t).length).getD k 0<c.places.length:=fun k hk=>by
 have hm:(uA t (bW t).length).getD k 0 ∈ uA t (bW t).length:=by
  rw [List.getD_eq_getElem?_getD,List.getElem?_eq_getElem hk];exact List.getElem_mem hk
 rcases List.mem_append.1 hm with h | h
 ·obtain ⟨j,hj,e⟩:=(EZ (Nat.le_refl _)).1 h
  rw [m6] at hj
  rw [nM] at e
  rw [← e];exact ht.set j hj
 ·rw [List.take_length] at h
  obtain ⟨n,hn,e⟩:=List.mem_map.1 h
  obtain ⟨j,hj,e2⟩:=List.mem_iff_getElem.1 hn
  rw [← e, ← e2]
  have:=q9 ht hj
  rwa [List.getD_eq_getElem?_getD,List.getElem?_eq_getElem hj] at this
theorem z9 (c:GCluster) (hb:D.bds dJ (bO c)) (hok:ClusOk c) (t:GTx) (ht:TxIn c t):Ans Tryz.prog 91 [] [vP (bO c),vP (cTx t)] [] (vB (kA c t)):=by
 have b1:c.places.length≤1048576:=hb.2.2.1.1
 have r1:t.reads.length≤1048576:=by have:=ht.ok.1;unfold nK at this;omega
 have r2:t.sets.length≤1048576:=by have:=ht.ok.1;unfold nK at this;omega
 have r3:t.reads.length≤12∧t.sets.length≤12:=by have:=ht.ok.1;unfold nK at this;omega
 have hh:=ht.home
 have hcl:(bW t).length≤t.reads.length:=List.length_filter_le _ _
 have hwl:(cmI (fC t) (fC t).length).length≤t.sets.length:=by have:=QH (xs:=fC t) (k:=(fC t).length);rw [m6] at this ⊢;exact this
 refine aE Tryz.func91 fun B0 r_ D_ w0=>?_
 refine aT ?_
 refine aU 2 fun r_=>?_
 refine aF ?_
 refine aO [] fun B0 H0=>?_
 refine aP ?_
 refine eF rfl (fun e1=>?_) (fun e1=>?_)
 ·refine aF ?_
  exact aG [(4,none)] (ZC e1)
 have e1':pK c t=true:=e1
 refine aF ?_
 refine aA (fun e2=>?_) (fun e2=>?_)
 ·refine aF ?_
  exact b9 TT_ok [(4,none)] rfl rfl (VZ e1' (by simp at e2;omega))
 have e2':¬ t.phase=1∧¬ (t.phase=7∨t.phase=9):=by
  simp at e2;omega
 have hstr:kA c t=((t.sets.any fun s=>gZ c s.region.toNat) || (bW t).any fun n=>gZ c n.region.toNat):=by
  rw [kA,if_neg e2'.1,if_neg e2'.2,if_neg (by rw [e1'];simp)]
 rw [hstr, ← ZX]
 refine aF ?_
 refine aR (aCv 900 52 (SW t r2)) fun _ _=>?_
 refine aN ?_
 refine aR (aCv 900 54 (P5 t r1 r2 (m4 ht.ok.2.2))) fun _ _=>?_
 refine aN ?_
 refine cY (ι:=Nat) (fun i=>[(56,vI i),(5, .a (.g 52))]) (fun i=>[(52,bE 1 bS 0 (uA t i))]) (fun i=>i≤(bW t).length) (fun i=>(bW t).length - i) 0 [52] [52] rfl rfl (Nat.zero_le _) wF ⟨⟨_,rfl,bP (by show _=_ ++ _;simp only [List.take_zero,List.map_nil,List.append_nil])⟩,wM⟩ ?_
 intro i h3
 have hcl2:(t.reads.filter (pU t)).length≤t.reads.length:=hcl
 have hll:(uA t i).length≤t.sets.length+i:=by have a1:(((bW t).take i).map GNote.region).length≤i:=(by rw [List.length_map,List.length_take];omega);rw [show (uA t i).length=(cmI (fC t) (fC t).length).length+(((bW t).take i).map GNote.region).length from List.length_append];omega
 refine aF ?_
 refine aI (fun e=>?_) (fun e=>?_)
 ·have hi:i<(bW t).length:=by have:(i:Int)<(bW t).length:=e;omega
  have hi2:i<(t.reads.filter (pU t)).length:=hi
  refine aF ?_
  refine cV TT_ok 63 (fun _=>bS ((bW t).getD i aCn).region) rfl rfl rfl rfl rfl rfl rfl (fun i hi=>by rcases i with _ | i <;>first | rfl | omega) (mu1:=[]) rfl rfl rfl ?_
  refine aN ?_
  refine cU TT_ok 52 63 64 rfl rfl rfl rfl rfl rfl rfl rfl rfl rfl rfl rfl ⟨by show ((uA t i).length+1) * 8≤140737488355328;omega,by unfold maxL;omega⟩ ?_
  refine aN ?_
  refine bC (bL 52 64) ?_
  exact bN (i+1) hi (by omega) wF ⟨⟨_,rfl,fJ (x:=((bW t).getD i aCn).region) (by show _ ++ _=(_ ++ _) ++ _;rw [cC (z:=aCn) hi,List.map_append,List.append_assoc];rfl) rfl⟩,wM⟩
 ·have hi:i=(bW t).length:=by have:¬ (i:Int)<(bW t).length:=e;omega
  subst hi
  refine aF ?_
  refine lZ TT_ok (pJ (uA t (bW t).length) (by omega) (fun r=>0≤r∧r<c.places.length) (aBk ht) fun r=>gZ c r.toNat) rfl rfl (SVs.cons (aCs _) (SVs.cons (iO (aB) rfl fun args x ⟨n,hn,e1,e2⟩=>by subst e1;subst e2;exact Q3 c hb hok n hn) rfl)) rfl rfl ?_
  exact aG [(4,none)] (rfl)
theorem zW (c:GCluster) (hb:D.bds dJ (bO c)) (id:Int):Ans Tryz.prog 29 [] [vR (bO c),vI id] [] (vB (nQ c id)):=by
 have b3:c.txs.length≤1048576:=hb.2.2.2.2.1.1
 refine aE Tryz.func29 fun B0 r_ D_ w0=>?_
 refine aT ?_
 refine aU 2 fun r_=>?_
 refine aF ?_
 refine aH (eT c hb) ?_
 refine eF rfl (fun e=>?_) (fun e=>?_)
 ·refine aF ?_
  exact b9 TT_ok [(4,none)] rfl rfl ((by rw [nQ,if_neg];rintro ⟨h,_⟩;exact jN.1 e h))
 have hok:=c9.1 e
 refine aF ?_
 by_cases hf:0≤bQ c id
 ·have hin:=dW hf
  refine rB TT_ok (DB c b3 id hf) rfl rfl (aCu _) rfl rfl ?_
  refine aH (z9 c hb hok _ (hok.txIn hin.1)) ?_
  exact b9 TT_ok [(4,none)] rfl rfl ((by rw [nQ,if_pos ⟨hok,hf⟩];rfl))
 ·refine rB TT_ok (EN c b3 id (by omega)) rfl rfl (aCu _) rfl rfl ?_
  refine lK (vB true) rfl rfl rfl rfl (rfl) rfl rfl ?_
  refine aN ?_
  exact b9 TT_ok [(4,none)] rfl rfl ((by rw [nQ,if_neg fun h=>hf h.2];rfl))
end
section
theorem CS (x:GRecord) (h1:x.sets.length≤1048576):MkR Tryz.prog 213 [vR (cK x)] x:=by
 refine aE Tryz.func213 fun B0 r_ D_ w0=>?_
 refine aF ?_
 refine aR (aCv 900 901 (CQ x.sets h1)) fun _ _=>?_
 refine aN ?_
 refine aC (()) [(2,some 83)] ?_ ?_ ?_
 ·exact aCu _
 ·exact wM
 ·trivial
end
section
theorem LE (m:GMachine) (hb:D.bds dJ (bJ m)):V8 Tryz.prog 140 [vR (bJ m)] m:=by
 have b1:m.copies.length≤1048576:=hb.2.1.1
 have b2:m.log.length≤1048576:=hb.2.2.1.1
 have b3:m.cleared.length≤1048576:=hb.2.2.2.1.1
 refine aE Tryz.func140 fun B0 r_ D_ w0=>?_
 refine aT ?_
 refine aU 1 fun r_=>?_
 refine zS ?_
 refine T6 [(1,vP (bJ m)),(2, .a (.p 2 0)),(3, .a (.p 3 0))] [(2, .row [.v (.bool false),lU,lU,lU]),(3, .row [.v (.bool m.alive),lU,lU, .g 12]),(12,bE 1 bS 0 m.cleared)] ?_ fun key=>?_
 ·refine aZ ?_
  refine bB (a5 3 1 2 (fun i=>dA (([]:List GCopy).getD i aCp))) ?_
  refine bB (a5 3 2 4 (fun i=>cK (([]:List GRecord).getD i aCq))) ?_
  refine bB (a6 3 1 31) ?_
  refine bB (a6 3 2 32) ?_
  refine aK (ι:=Nat) (fun i=>[(17,vI i)]) (fun i=>[(31,bE 2 dA aCp (m.copies.take i)),(3, .row [.v (.bool m.alive), .g 31, .g 32, .g 12])]) (fun i=>i≤m.copies.length) (fun i=>m.copies.length - i) 0 [31,3] [31] (Nat.zero_le _) ?_
  intro i h1
  refine aF ?_
  refine aI (fun e=>?_) (fun e=>?_)
  ·have hi:i<m.copies.length:=by omega
   have hl:(m.copies.take i).length=i:=by rw [List.length_take];omega
   refine aF ?_
   refine aW [31] [0,1,2,3,4,5,6,7,8,9,10,11] fun B0 H0=>?_
   refine aX 6 (aCv 900 27 (wC (m.copies.getD i aCp).cells (hb.2.1.2 i hi).2.1.1)) fun _ _=>?_
   refine aY [7,8,9,10,11] ?_
   refine bG 8 rfl (by kernel_rfl) (dV TT_ok 29 (fun _=>dA (m.copies.getD i aCp)) rfl rfl rfl rfl rfl rfl rfl (fun j hj=>by rcases j with _ | j <;>first | rfl | omega) (mu1:=[(27, .arr 0 0 fun _=>[])]) rfl rfl rfl (bD ?_))
   refine bG 9 rfl (by kernel_rfl) (dM TT_ok 31 29 30 rfl rfl rfl rfl rfl rfl rfl rfl rfl rfl rfl rfl ⟨by show ((m.copies.take i).length+1) * 32≤_;omega,by unfold maxL;omega⟩ (bD ?_))
   refine aY [10,11] ?_
   refine dR 11 rfl (by kernel_rfl) (by kernel_rfl) (aV (eJ [] fun B0 H0=>?_))
   refine aP ?_
   refine bC (bL 31 30) ?_
   exact bN (i+1) hi (by omega) wF ⟨⟨_,rfl,aS (x:=m.copies.getD i aCp) (cC hi)⟩,wM⟩
  have hi:i=m.copies.length:=by omega
  subst hi
  rw [List.take_length]
  refine aF ?_
  refine aK (ι:=Nat) (fun i=>[(36,vI i)]) (fun i=>[(32,bE 4 cK aCq (m.log.take i)),(3, .row [.v (.bool m.alive), .g 31, .g 32, .g 12])]) (fun i=>i≤m.log.length) (fun i=>m.log.length - i) 0 [32,3] [32] (Nat.zero_le _) ?_
  intro i h1
  refine aF ?_
  refine aI (fun e=>?_) (fun e=>?_)
  ·have hi:i<m.log.length:=by omega
   have hl:(m.log.take i).length=i:=by rw [List.length_take];omega
   refine aF ?_
   refine aW [32] [0,1,2,3,4,5,6,7] fun B0 H0=>?_
   refine aX 3 (aCv 901 43 (CS (m.log.getD i aCq) (hb.2.2.1.2 i hi).2.2.2.1.1)) fun _ _=>?_
   refine bG 4 rfl (by kernel_rfl) (dV TT_ok 44 (fun _=>cK (m.log.getD i aCq)) rfl rfl rfl rfl rfl rfl rfl (fun j hj=>by rcases j with _ | j <;>first | rfl | omega) (mu1:=[(43, .arr 0 0 fun _=>[])]) rfl rfl rfl (bD ?_))
   refine bG 5 rfl (by kernel_rfl) (dM TT_ok 32 44 45 rfl rfl rfl rfl rfl rfl rfl rfl rfl rfl rfl rfl ⟨by show ((m.log.take i).length+1) * 48≤_;omega,by unfold maxL;omega⟩ (bD ?_))
   refine aY [6,7] ?_
   refine dR 7 rfl (by kernel_rfl) (by kernel_rfl) (aV (eJ [] fun B0 H0=>?_))
   refine aP ?_
   refine bC (bL 32 45) ?_
   exact bN (i+1) hi (by omega) wF ⟨⟨_,rfl,aS (x:=m.log.getD i aCq) (cC hi)⟩,wM⟩
  have hi:i=m.log.length:=by omega
  subst hi
  rw [List.take_length]
  refine aF ?_
  refine bB (bL 31 901) ?_
  refine bB (bL 32 902) ?_
  refine bB (bL 12 903) ?_
  refine aC (()) [(2,some 39)] ?_ ?_ ?_
  ·exact aCu _
  ·exact wM
  ·trivial
 ·refine aW [] [0,1,2,3,4,5,6,7] fun B0 H0=>?_
  refine eU 4 6 rfl rfl (by kernel_rfl) (gG (aCv 900 12 (tT m.cleared b3)) rfl rfl (aCu _) (fun _=>rfl) rfl rfl rfl (fun _ _=>bD ?_)) (aV (bD ?_))
  ·refine aY [5,6,7] ?_
   refine bG 6 rfl (by kernel_rfl) (aV (bD ?_))
   refine bG 7 rfl (by kernel_rfl) (aV (bD ?_))
   exact oF key wF wM
  ·skip
   refine aX 4 (aCv 900 12 (tT m.cleared b3)) fun _ _=>?_
   refine aY [5,7] ?_
   refine bG 7 rfl (by kernel_rfl) (aV (bD ?_))
   exact oF key wF wM
theorem iU (c:GCluster) (hb:D.bds dJ (bO c)):yB Tryz.prog 66 [vR (bO c)] c:=by
 have b1:c.places.length≤1048576:=hb.2.2.1.1
 have b2:c.machines.length≤1048576:=hb.2.2.2.1.1
 have b3:c.txs.length≤1048576:=hb.2.2.2.2.1.1
 refine aE Tryz.func66 fun B0 r_ D_ w0=>?_
 refine aT ?_
 refine aU 1 fun r_=>?_
 refine aF ?_
 refine bB (a5 3 2 1 (fun i=>cE (([]:List GPlace).getD i aCi))) ?_
 refine bB (a5 3 3 4 (fun i=>bJ (([]:List GMachine).getD i aCj))) ?_
 refine bB (a5 3 4 7 (fun i=>cTx (([]:List GTx).getD i aCk))) ?_
 refine bB (a6 3 2 901) ?_
 refine bB (a6 3 3 902) ?_
 refine bB (a6 3 4 903) ?_
 refine aK (ι:=Nat) (fun i=>[(17,vI i)]) (fun i=>[(901,bE 1 cE aCi (c.places.take i)),(3, .row [.v (.int .i64 c.config), .v (.int .i64 c.clock), .g 901, .g 902, .g 903, .v (.bool c.lost)])]) (fun i=>i≤c.places.length) (fun i=>c.places.length - i) 0 [901,3] [901] (Nat.zero_le _) ?_
 intro i h1
 refine aF ?_
 refine aI (fun e=>?_) (fun e=>?_)
 ·have hi:i<c.places.length:=by omega
  have hl:(c.places.take i).length=i:=by rw [List.length_take];omega
  have hm:(c.places.getD i aCi).machines.length≤1048576:=(hb.2.2.1.2 i hi).1.1
  refine aF ?_
  refine aW [901] [0,1,2,3,4,5,6,7,8,9] fun B0 H0=>?_
  refine aX 4 (aCv 900 25 (tT (c.places.getD i aCi).machines hm)) fun _ _=>?_
  refine aY [5,6,7,8,9] ?_
  refine bG 6 rfl (by kernel_rfl) (dV TT_ok 27 (fun _=>cE (c.places.getD i aCi)) rfl rfl rfl rfl rfl rfl rfl (fun j hj=>by rcases j with _ | j <;>first | rfl | omega) (mu1:=[(25, .arr 0 0 fun _=>[])]) rfl rfl rfl (bD ?_))
  refine bG 7 rfl (by kernel_rfl) (dM TT_ok 901 27 28 rfl rfl rfl rfl rfl rfl rfl rfl rfl rfl rfl rfl ⟨by show ((c.places.take i).length+1) * 24≤_;omega,by unfold maxL;omega⟩ (bD ?_))
  refine aY [8,9] ?_
  refine dR 9 rfl (by kernel_rfl) (by kernel_rfl) (aV (eJ [] fun B0 H0=>?_))
  refine aP ?_
  refine bC (bL 901 28) ?_
  exact bN (i+1) hi (by omega) wF ⟨⟨_,rfl,aS (x:=c.places.getD i aCi) (cC hi)⟩,wM⟩
 have hi:i=c.places.length:=by omega
 subst hi
 rw [List.take_length]
 refine aF ?_
 refine aK (ι:=Nat) (fun i=>[(34,vI i)]) (fun i=>[(902,bE 4 bJ aCj (c.machines.take i)),(3, .row [.v (.int .i64 c.config), .v (.int .i64 c.clock), .g 901, .g 902, .g 903, .v (.bool c.lost)])]) (fun i=>i≤c.machines.length) (fun i=>c.machines.length - i) 0 [902,3] [902] (Nat.zero_le _) ?_
 intro i h1
 refine aF ?_
 refine aI (fun e=>?_) (fun e=>?_)
 ·have hi:i<c.machines.length:=by omega
  have hl:(c.machines.take i).length=i:=by rw [List.length_take];omega
  refine aF ?_
  refine aW [902] [0,1,2,3,4,5,6,7] fun B0 H0=>?_
  refine aX 3 (aCv 901 411 (aCv 902 412 (aCv 903 413 (LE (c.machines.getD i aCj) (hb.2.2.2.1.2 i hi))))) fun _ _=>?_
  refine bG 4 rfl (by kernel_rfl) (dV TT_ok 42 (fun _=>bJ (c.machines.getD i aCj)) rfl rfl rfl rfl rfl rfl rfl (fun j hj=>by rcases j with _ | j <;>first | rfl | omega) (mu1:=[(411, .arr 0 0 fun _=>[]),(412, .arr 0 0 fun _=>[]),(413, .arr 0 0 fun _=>[])]) rfl rfl rfl (bD ?_))
  refine bG 5 rfl (by kernel_rfl) (dM TT_ok 902 42 43 rfl rfl rfl rfl rfl rfl rfl rfl rfl rfl rfl rfl ⟨by show ((c.machines.take i).length+1) * 80≤_;omega,by unfold maxL;omega⟩ (bD ?_))
  refine aY [6,7] ?_
  refine dR 7 rfl (by kernel_rfl) (by kernel_rfl) (aV (eJ [] fun B0 H0=>?_))
  refine aP ?_
  refine bC (bL 902 43) ?_
  exact bN (i+1) hi (by omega) wF ⟨⟨_,rfl,aS (x:=c.machines.getD i aCj) (cC hi)⟩,wM⟩
 have hi:i=c.machines.length:=by omega
 subst hi
 rw [List.take_length]
 refine aF ?_
 refine aK (ι:=Nat) (fun i=>[(49,vI i)]) (fun i=>[(903,bE 7 cTx aCk (c.txs.take i)),(3, .row [.v (.int .i64 c.config), .v (.int .i64 c.clock), .g 901, .g 902, .g 903, .v (.bool c.lost)])]) (fun i=>i≤c.txs.length) (fun i=>c.txs.length - i) 0 [903,3] [903] (Nat.zero_le _) ?_
 intro i h1
 refine aF ?_
 refine aI (fun e=>?_) (fun e=>?_)
 ·have hi:i<c.txs.length:=by omega
  have hl:(c.txs.take i).length=i:=by rw [List.length_take];omega
  have ht:=hb.2.2.2.2.1.2 i hi
  refine aF ?_
  refine aW [903] [0,1,2,3,4,5,6,7] fun B0 H0=>?_
  refine aX 3 (aCv 901 561 (aCv 902 562 (MZ (c.txs.getD i aCk) ht.2.2.2.2.1.1 ht.2.2.2.2.2.1.1))) fun _ _=>?_
  refine bG 4 rfl (by kernel_rfl) (dV TT_ok 57 (fun _=>cTx (c.txs.getD i aCk)) rfl rfl rfl rfl rfl rfl rfl (fun j hj=>by rcases j with _ | j <;>first | rfl | omega) (mu1:=[(561, .arr 0 0 fun _=>[]),(562, .arr 0 0 fun _=>[])]) rfl rfl rfl (bD ?_))
  refine bG 5 rfl (by kernel_rfl) (dM TT_ok 903 57 58 rfl rfl rfl rfl rfl rfl rfl rfl rfl rfl rfl rfl ⟨by show ((c.txs.take i).length+1) * 88≤_;omega,by unfold maxL;omega⟩ (bD ?_))
  refine aY [6,7] ?_
  refine dR 7 rfl (by kernel_rfl) (by kernel_rfl) (aV (eJ [] fun B0 H0=>?_))
  refine aP ?_
  refine bC (bL 903 58) ?_
  exact bN (i+1) hi (by omega) wF ⟨⟨_,rfl,aS (x:=c.txs.getD i aCk) (cC hi)⟩,wM⟩
 have hi:i=c.txs.length:=by omega
 subst hi
 rw [List.take_length]
 refine aF ?_
 refine aC (()) [(2,some 28)] ?_ ?_ ?_
 ·exact aCu _
 ·exact wM
 ·trivial
end
section
open Classical in
noncomputable def fF (c:GCluster) (id:Int):GTx×Bool:=if ClusOk c∧0≤bQ c id then (c.txs.getD (bQ c id).toNat aCk,true) else (aCk,false)
theorem rN (c:GCluster) (hb:D.bds dJ (bO c)) (id:Int):UO Tryz.prog 21 [vR (bO c),vI id] (fF c id).1 (fF c id).2:=by
 have b3:c.txs.length≤1048576:=hb.2.2.2.2.1.1
 have bt:=xZ hb (bQ c id).toNat
 have hlt:=gO (c:=c) (id:=id)
 refine aE Tryz.func21 fun B0 r_ D_ w0=>?_
 refine aT ?_
 refine aU 2 fun r_=>?_
 refine aF ?_
 refine aH (eT c hb) ?_
 refine eF rfl (fun e=>?_) (fun e=>?_)
 ·rw [show fF c id=(aCk,false) from if_neg fun h=>jN.1 e h.1]
  refine aF ?_
  refine bB (a5 4 4 5 (fun i=>cT (([]:List GNote).getD i aCn))) ?_
  refine bB (a5 4 5 5 (fun i=>cP (([]:List GSet).getD i aCm))) ?_
  refine bB (a6 4 4 901) ?_
  refine bB (a6 4 5 902) ?_
  refine aC (()) [(4,some 48),(5,none)] ?_ ?_ ?_
  ·exact aCu _
  ·exact wM
  ·trivial
 have hok:=c9.1 e
 refine aF ?_
 by_cases hf:0≤bQ c id
 ·have hin:=dW hf
  rw [show fF c id=(c.txs.getD (bQ c id).toNat aCk,true) from if_pos ⟨hok,hf⟩]
  refine rB TT_ok (DB c b3 id hf) rfl rfl (aCu _) rfl rfl ?_
  refine bX rfl (fun e=>by cases e) (fun e=>?_)
  refine aF ?_
  refine aR (MZ (c.txs.getD (bQ c id).toNat aCk) bt.2.2.2.2.1.1 bt.2.2.2.2.2.1.1) fun _ _=>?_
  refine aN ?_
  refine aC (()) [(4,some 48),(5,none)] ?_ ?_ ?_
  ·exact aCu _
  ·exact wM
  ·trivial
 ·rw [show fF c id=(aCk,false) from if_neg fun h=>hf h.2]
  refine rB TT_ok (EN c b3 id (by omega)) rfl rfl (aCu _) rfl rfl ?_
  refine bX rfl (fun e=>?_) (fun e=>by cases e)
  refine aF ?_
  refine bB (a5 4 4 5 (fun i=>cT (([]:List GNote).getD i aCn))) ?_
  refine bB (a5 4 5 5 (fun i=>cP (([]:List GSet).getD i aCm))) ?_
  refine bB (a6 4 4 901) ?_
  refine bB (a6 4 5 902) ?_
  refine aC (()) [(4,some 48),(5,none)] ?_ ?_ ?_
  ·exact aCu _
  ·exact wM
  ·trivial
theorem NV (c:GCluster) (hb:D.bds dJ (bO c)) (id home:Int):vQ Tryz.prog 19 [vR (bO c),vI id,vI home] (fA c id home).1 (fA c id home).2:=by
 have b2:c.machines.length≤1048576:=hb.2.2.2.1.1
 have b3:c.txs.length≤1048576:=hb.2.2.2.2.1.1
 refine aE Tryz.func19 fun B0 r_ D_ w0=>?_
 refine aT ?_
 refine aU 3 fun r_=>?_
 refine aF ?_
 refine aH (eT c hb) ?_
 refine eF rfl (fun e=>?_) (fun e=>?_)
 ·rw [show fA c id home=(aCl,1) from if_neg (jN.1 e)]
  refine aF ?_
  refine bB (a5 6 2 1 (fun i=>cE (([]:List GPlace).getD i aCi))) ?_
  refine bB (a5 6 3 4 (fun i=>bJ (([]:List GMachine).getD i aCj))) ?_
  refine bB (a5 6 4 7 (fun i=>cTx (([]:List GTx).getD i aCk))) ?_
  refine bB (a6 6 2 901) ?_
  refine bB (a6 6 3 902) ?_
  refine bB (a6 6 4 903) ?_
  refine aC (()) [(6,some 28),(7,none)] ?_ ?_ ?_
  ·exact aCu _
  ·exact wM
  ·trivial
 have hok:=c9.1 e
 rw [show fA c id home=(bif n9 c id then (c,2) else bif qP c home then (c,3) else ({ c with txs:=c.txs ++ [oB id home] },0)) from if_pos hok]
 refine aF ?_
 refine aR (iU c hb) fun _ _=>?_
 refine aN ?_
 refine aH (rQ _) ?_
 refine aA (b:=n9 c id) (fun e=>?_) (fun e2=>?_)
 ·rw [e]
  refine aF ?_
  refine aC (()) [(6,some 28),(7,none)] ?_ ?_ ?_
  ·exact aCu _
  ·exact wM
  ·trivial
 rw [e2]
 refine aF ?_
 refine aH (wX _) ?_
 refine JJ TT_ok (dC _ _ _) rfl rfl (aCu _) rfl rfl ?_ ?_
 ·exact ⟨vV,trivial⟩
 refine aA (b:=qP c home) (fun e=>?_) (fun e3=>?_)
 ·rw [e]
  refine aF ?_
  refine aC (()) [(6,some 28),(7,none)] ?_ ?_ ?_
  ·exact aCu _
  ·exact wM
  ·trivial
 rw [e3]
 have h3:c.txs.length≤60:=hok.1.2.2.2
 refine aF ?_
 refine cV TT_ok 68 (fun _=>UN id home) rfl rfl rfl rfl rfl rfl rfl (fun i hi=>by rcases i with _ | i <;>first | rfl | omega) (mu1:=[]) rfl rfl rfl ?_
 refine aN ?_
 refine cU TT_ok 903 68 69 rfl rfl rfl rfl rfl rfl rfl rfl rfl rfl rfl rfl ⟨by show (c.txs.length+1) * 88≤_;omega,by unfold maxL;omega⟩ ?_
 refine aN ?_
 refine bB (bL 69 903) ?_
 refine aC (()) [(6,some 28),(7,none)] ?_ ?_ ?_
 ·exact aCu _
 ·exact ⟨⟨_,rfl,aCt _⟩,⟨_,rfl,aCt _⟩,⟨_,rfl,wS rfl (HH id home)⟩,trivial⟩
 ·trivial
end
section
theorem WU (v:Int):Ans Tryz.prog 150 [] [vI v] [] (vB (decide (v<2))):=by
 refine aE Tryz.func150 fun B0 r_ D_ w0=>?_
 refine aF ?_
 exact aG [(2,none)] (rfl)
theorem CZ (vs:List Int) (hl:vs.length≤1048576):Ans Tryz.prog 82 [] [vL 1 bS 0 vs] [] (vB (mT vs)):=by
 refine aE Tryz.func82 fun B0 r_ D_ w0=>?_
 refine aF ?_
 refine aH (j8 vs hl 4) ?_
 refine aH (j8 vs hl 3) ?_
 refine lZ TT_ok (pJ vs hl (fun _=>True) (fun _ _=>trivial) fun v=>decide (v<2)) rfl rfl (SVs.cons (aCs _) (SVs.cons (iO (aB) rfl fun args x ⟨n,_,e1,e2⟩=>by subst e1;subst e2;exact WU n) rfl)) rfl rfl ?_
 exact aG [(2,none)] ((CK vs).symm)
end
section
theorem Z5 {c:GCluster} (hok:ClusOk c) {id home:Int} (h:n9 c id=false):bQ (sH c id home) id=c.txs.length:=by
 unfold bQ
 refine gA (z:=aCk) (p:=fun t:GTx=>t.id == id) (i:=c.txs.length) (by show c.txs.length<(c.txs ++ [oB id home]).length;simp) (fun j hj=>?_) ?_
 ·have:=S5 hok h hj
  have e:=FK c id home j
  rw [if_pos hj] at e
  show (((sH c id home).txs.getD j aCk).id == id)=false
  rw [e]
  exact beq_eq_false_iff_ne.2 (by omega)
 ·have e:=FK c id home c.txs.length
  rw [if_neg (Nat.lt_irrefl _),if_pos rfl] at e
  show (((sH c id home).txs.getD c.txs.length aCk).id == id)=true
  rw [e];simp [oB]
end
section
theorem ES (c:GCluster) (id:Int):jD (eP c id).1:=by
 by_cases h:ClusOk c
 ·exact lH (BW h id)
 ·unfold eP;rw [if_neg h];exact s9
theorem IS (c:GCluster) (id:Int):jD (bZ c id).1:=by
 by_cases h:ClusOk c
 ·exact lH (lQ h id)
 ·unfold bZ;rw [if_neg h];exact s9
theorem CE (c:GCluster) (m:Int):jD (fR c m).1:=by
 by_cases h:ClusOk c
 ·exact lH (N6 h m)
 ·unfold fR;rw [if_neg h];exact s9
theorem RZ (c:GCluster) (id home:Int):jD (fA c id home).1:=by
 by_cases h:ClusOk c
 ·exact lH (EU h id home)
 ·unfold fA;rw [if_neg h];exact s9
theorem I5 {n:Nat} {β:Nat→Int} (hn:n≤1048576) (hβ:eS β) (i h:Int) (h1:0≤i) (h2:i≤n) (k:GCluster) (hk:k.txs.length≤1048576):zE Tryz.prog 100 [vR (bO k)] n β i h (fun _:Int=>True) vI:=by
 refine aE Tryz.func100 fun B0 r_ D_ w0=>?_
 refine aT ?_
 refine zS ?_
 refine a7 (ι:=Int×Int) (fun _=>[]) (fun y=>[(700,dE y.1 y.2)]) (fun y=>0≤y.1∧y.1≤n) [700] [] ?_ ?_
 ·by_cases hl:k.txs.length=0
  ·have hz:decide ((k.txs.length:Int) > 0) = !true:=decide_eq_false (by omega)
   refine aF ?_
   refine lK (vB true) rfl rfl rfl rfl (hz) rfl rfl ?_
   refine aN ?_
   rw [hz]
   refine bX rfl (fun e=>by cases e) (fun _=>?_)
   refine aF ?_
   exact aL (i,h) ⟨h1,h2⟩ Nat.zero_lt_one
  ·have hz:decide ((k.txs.length:Int) > 0)=true:=decide_eq_true (by omega)
   refine aF ?_
   refine cO TT_ok (d9 hn hβ i h h1 h2 8) rfl rfl (aCu _) (fun _=>rfl) rfl rfl rfl (fun z ⟨z1,z2,z3⟩=>?_) (hg:=⟨rfl,congrArg (fun x=>some (vB x)) hz⟩)
   refine aN ?_
   rw [hz]
   refine aA (fun _=>?_) (fun _=>?_)
   ·refine aF ?_
    refine aW [700] [0,1,2,3,4,5,6,7,8,9,10] fun B0 H0=>?_
    refine aX 6 (bR hn hβ z.2.1 z.2.2 z2 z3 k.txs.length) fun y ⟨y1,y2,y3⟩=>?_
    refine aY [7,8,9,10] ?_
    refine aP ?_
    refine aC (((k.txs.getD y.1.toNat aCk).id,y.2.1,y.2.2)) [(4,none)] ?_ ?_ ?_
    ·exact aCu _
    ·exact wM
    ·exact ⟨trivial,y2,y3⟩
   ·refine aF ?_
    exact aL (z.2.1,z.2.2) ⟨z2,z3⟩ Nat.zero_lt_one
 rintro ⟨i1,i2⟩ ⟨u1,u2⟩
 dsimp only at u1 u2 ⊢
 refine aZ ?_
 refine cV TT_ok 50 (fun i=>bS (([0,1,5,9,1000000,1000001]:List Int).getD i 0)) rfl rfl rfl rfl rfl rfl rfl (fun i hi=>by rcases i with _ | _ | _ | _ | _ | _ | i <;>first | rfl | omega) (mu1:=[]) rfl rfl rfl ?_
 refine aN ?_
 refine aR (bR hn hβ i1 i2 u1 u2 6) fun z ⟨z1,z2,z3⟩=>?_
 refine aN ?_
 refine aC ((([0,1,5,9,1000000,1000001]:List Int).getD z.1.toNat 0,z.2.1,z.2.2)) [(4,none)] ?_ ?_ ?_
 ·exact aCu _
 ·exact wM
 ·exact ⟨trivial,z2,z3⟩
abbrev VO (P:Program) (f:Nat) (n:Nat) (β:Nat→Int) (i h:Int):Prop :=
 Con P f [700,701] [.a (.p 700 0)] (xB n β i h) (fun y:GCluster×Int×Int×Int=>jD y.1∧0≤y.2.2.1∧y.2.2.1≤n) (fun y=>[iC y.1 901 902 903,vI y.2.1]) fun y=>(700,dE y.2.2.1 y.2.2.2) :: muD y.1 901 902 903
theorem N5 {n:Nat} {β:Nat→Int} (hn:n≤1048576) (hβ:eS β) (i h:Int) (h1:0≤i) (h2:i≤n):VO Tryz.prog 121 n β i h:=by
 refine aE Tryz.func121 fun B0 r_ D_ w0=>?_
 refine aF ?_
 refine aR (nk:=[700,61,62,63]) (aCv 901 61 (aCv 902 62 (aCv 903 63 (rG hn hβ i h h1 h2)))) fun y ⟨y1,y2,y3⟩=>?_
 obtain ⟨k,i1,i2⟩:=y
 dsimp only at y1 y2 y3 ⊢
 have hb:=fI y1
 have ht:k.txs.length≤1048576:=hb.2.2.2.2.1.1
 refine aN ?_
 refine aR (d9 hn hβ i1 i2 y2 y3 2) fun a ⟨a1,a2,a3⟩=>?_
 refine aN ?_
 refine aH (d5 k hb) ?_
 refine a7 (ι:=Int×Int) (fun _=>[]) (fun y=>[(700,dE y.1 y.2)]) (fun y=>0≤y.1∧y.1≤n) [700] [] ?_ ?_
 ·refine aA (fun e=>?_) (fun _=>?_)
  rotate_left
  ·refine aF ?_
   exact aL (a.2.1,a.2.2) ⟨a2,a3⟩ Nat.zero_lt_one
  have hok:ClusOk k:=by
   revert e
   cases a.1
   ·intro e;cases e
   ·intro e;exact c9.1 e
  refine aT ?_
  refine zS ?_
  refine a7 (ι:=Int) (fun v=>[(5,vI v)]) (fun _=>[]) (fun _=>True) [] [] ?_ ?_
  ·refine aF ?_
   refine aI (fun e2=>?_) (fun _=>?_)
   ·have hx:((k.txs.length:Int) - 1).toNat<k.txs.length:=by omega
    have hid:=y1.2 _ (cJ (z:=aCk) hx)
    refine aF ?_
    exact aL _ trivial Nat.zero_lt_one
   ·refine aF ?_
    exact aL _ trivial Nat.zero_lt_one
  intro id _
  refine aZ ?_
  have hul:=EM k
  have hml:k.machines.length≤1048576:=hb.2.2.2.1.1
  refine aR (aCv 900 64 (D3 k hb)) fun _ _=>?_
  refine aN ?_
  refine aI (fun e2=>?_) (fun _=>?_)
  rotate_left
  ·refine aF ?_
   exact aL (a.2.1,a.2.2) ⟨a2,a3⟩ Nat.zero_lt_one
  refine aF ?_
  refine a7 (ι:=Unit) (fun _=>[(7, .a (.p 7 0)),(8,vI (fA k id ((iG k).getD 0 0)).2)]) (fun _=>[(7, .row (fW (fA k id ((iG k).getD 0 0)).1 71 72 73)),(71,bE 1 cE aCi (fA k id ((iG k).getD 0 0)).1.places),(72,bE 4 bJ aCj (fA k id ((iG k).getD 0 0)).1.machines),(73,bE 7 cTx aCk (fA k id ((iG k).getD 0 0)).1.txs)]) (fun _=>True) [] [] ?_ ?_
  ·refine aW [] [0,1,2,3,4,5,6,7,8,9,10,11] fun B0 H0=>?_
   refine eU 5 9 rfl rfl (by kernel_rfl) (gG (aCv 901 71 (aCv 902 72 (aCv 903 73 (tG k hb id ((iG k).getD 0 0))))) rfl rfl (aCu _) (fun _=>rfl) rfl rfl rfl (fun _ _=>bD ?_)) (aV (bD ?_))
   ·refine aY [6,7,8,9,10,11] ?_
    refine bG 9 rfl (by kernel_rfl) (aV (bD ?_))
    refine bG 10 rfl (by kernel_rfl) (aV (bD ?_))
    refine aY [11] ?_
    refine aP ?_
    exact aL () trivial Nat.zero_lt_one
   ·skip
    refine aX 5 (aCv 901 71 (aCv 902 72 (aCv 903 73 (tG k hb id ((iG k).getD 0 0))))) fun _ _=>?_
    refine aY [6,7,8,10,11] ?_
    refine bG 10 rfl (by kernel_rfl) (aV (bD ?_))
    refine aY [11] ?_
    refine aP ?_
    exact aL () trivial Nat.zero_lt_one
  rintro ⟨⟩ _
  have hX:=EU hok id ((iG k).getD 0 0)
  generalize (fA k id ((iG k).getD 0 0)).1=K at hX
  generalize (fA k id ((iG k).getD 0 0)).2=code
  refine aZ ?_
  refine aQ (fun e3=>?_) (fun _=>?_)
  rotate_left
  ·refine aF ?_
   exact aL (a.2.1,a.2.2) ⟨a2,a3⟩ Nat.zero_lt_one
  refine aF ?_
  refine aR (bR hn hβ a.2.1 a.2.2 a2 a3 4) fun nn ⟨nn1,nn2,nn3⟩=>?_
  refine aN ?_
  refine bB (D4 7 rfl) ?_
  refine cY (ι:=GCluster×Int×Int×Int) (fun y=>[(9,vI y.2.1)]) (fun y=>(4, .row (fW y.1 71 72 73)) :: (700,dE y.2.2.1 y.2.2.2) :: muD y.1 71 72 73) (fun y=>ClusOk y.1∧(0≤y.2.1∧y.2.1≤4)∧0≤y.2.2.1∧y.2.2.1≤n) (fun y=>y.2.1.toNat) (K,nn.1,nn.2.1,nn.2.2) [4,700,71,72,73] [71,72,73] rfl rfl ⟨hX,by dsimp only;omega,nn2,nn3⟩ wF ⟨⟨_,rfl,aCt _⟩,⟨_,rfl,aCt _⟩,⟨_,rfl,lY⟩,wM⟩ ?_
  clear hX
  rintro ⟨K,m,i3,i4⟩ ⟨u1,u2,u3,u4⟩
  dsimp only at u1 u2 u3 u4 ⊢
  have hKb:=l8 u1
  refine aF ?_
  refine aI (fun e4=>?_) (fun _=>?_)
  ·refine aF ?_
   refine a7 (ι:=Int×Int×Int) (fun y=>[(10, .a (.p 10 0)),(11,vI (iM K id y.1).2.1),(12,vI (iM K id y.1).2.2)]) (fun y=>[(10, .row (fW (iM K id y.1).1 81 82 83)),(81,bE 1 cE aCi (iM K id y.1).1.places),(82,bE 4 bJ aCj (iM K id y.1).1.machines),(83,bE 7 cTx aCk (iM K id y.1).1.txs),(700,dE y.2.1 y.2.2)]) (fun y=>0≤y.2.1∧y.2.1≤n) [700] [] ?_ ?_
   ·refine aW [700] [0,1,2,3,4,5,6,7,8,9,10,11,12] fun B0 H0=>?_
    refine eU 3 9 rfl rfl (by kernel_rfl) (gG (nk:=[700]) (bR hn hβ i3 i4 u3 u4 2) rfl rfl (aCu _) (fun _=>rfl) rfl rfl rfl (fun r ⟨r1,r2,r3⟩=>bD ?_)) (aV (bD ?_))
    ·skip
     refine eU 4 9 rfl rfl (by kernel_rfl) (gG (aCv 901 81 (aCv 902 82 (aCv 903 83 (tW K hKb id r.1)))) rfl rfl (aCu _) (fun _=>rfl) rfl rfl rfl (fun _ _=>bD ?_)) (aV (bD ?_))
     ·refine aY [5,6,7,8,9,10,11,12] ?_
      refine bG 9 rfl (by kernel_rfl) (aV (bD ?_))
      refine bG 10 rfl (by kernel_rfl) (aV (bD ?_))
      refine aY [11,12] ?_
      refine aP ?_
      exact aL (r.1,r.2.1,r.2.2) ⟨r2,r3⟩ Nat.zero_lt_one
     ·skip
      refine aX 4 (aCv 901 81 (aCv 902 82 (aCv 903 83 (tW K hKb id r.1)))) fun _ _=>?_
      refine aY [5,6,7,8,10,11,12] ?_
      refine bG 10 rfl (by kernel_rfl) (aV (bD ?_))
      refine aY [11,12] ?_
      refine aP ?_
      exact aL (r.1,r.2.1,r.2.2) ⟨r2,r3⟩ Nat.zero_lt_one
    ·skip
     refine aX (nk:=[700]) 3 (bR hn hβ i3 i4 u3 u4 2) fun r ⟨r1,r2,r3⟩=>?_
     refine aX 4 (aCv 901 81 (aCv 902 82 (aCv 903 83 (tW K hKb id r.1)))) fun _ _=>?_
     refine aY [5,6,7,8,10,11,12] ?_
     refine bG 10 rfl (by kernel_rfl) (aV (bD ?_))
     refine aY [11,12] ?_
     refine aP ?_
     exact aL (r.1,r.2.1,r.2.2) ⟨r2,r3⟩ Nat.zero_lt_one
   rintro ⟨r,i5,i6⟩ ⟨v1,v2⟩
   dsimp only at v1 v2 ⊢
   have hA:=M6 u1 id r
   generalize (iM K id r).1=K2 at hA
   generalize (iM K id r).2.1=w1
   generalize (iM K id r).2.2=w2
   refine aZ ?_
   refine aI (fun _=>?_) (fun _=>?_)
   ·refine aF ?_
    refine bC (bL 71 81) ?_
    refine bC (bL 72 82) ?_
    refine bC (bL 73 83) ?_
    exact bN (K2,m - 1,i5,i6) ⟨hA,by dsimp only;omega,v1,v2⟩ (by dsimp only;omega) wF ⟨⟨_,rfl,aCt _⟩,⟨_,rfl,aCt _⟩,⟨_,rfl,lY⟩,wM⟩
   ·refine aF ?_
    exact aL (K,m - 1,i5,i6) ⟨u1,by dsimp only;omega,v1,v2⟩ (by dsimp only;omega)
  refine aF ?_
  refine bB (bL 71 901) ?_
  refine bB (bL 72 902) ?_
  refine bB (bL 73 903) ?_
  refine aC ((K,id,i3,i4)) [(2,some 28),(3,none)] ?_ ?_ ?_
  ·exact aCu _
  ·exact wM
  ·exact ⟨lH u1,u3,u4⟩
 rintro ⟨i3,i4⟩ ⟨u1,u2⟩
 dsimp only at u1 u2 ⊢
 refine aZ ?_
 refine aW [700,2] [0,1,2,3,4,5] fun B0 H0=>?_
 refine aX 3 (I5 hn hβ i3 i4 u1 u2 k ht) fun z ⟨z1,z2,z3⟩=>?_
 refine bG 4 rfl (by kernel_rfl) (aV (bD ?_))
 refine aY [5] ?_
 refine aP ?_
 refine bB (bL 61 901) ?_
 refine bB (bL 62 902) ?_
 refine bB (bL 63 903) ?_
 refine aC ((k,z.1,z.2.1,z.2.2)) [(2,some 28),(3,none)] ?_ ?_ ?_
 ·exact aCu _
 ·exact wM
 ·exact ⟨y1,z2,z3⟩
end
section
theorem XQ {n:Nat} {β:Nat→Int} (hn:n≤1048576) (hβ:eS β) (i h:Int) (h1:0≤i) (h2:i≤n):VO Tryz.prog 117 n β i h:=by
 refine aE Tryz.func117 fun B0 r_ D_ w0=>?_
 refine aF ?_
 refine aR (nk:=[700,61,62,63]) (aCv 901 61 (aCv 902 62 (aCv 903 63 (N5 hn hβ i h h1 h2)))) fun y ⟨y1,y2,y3⟩=>?_
 obtain ⟨k,id,i1,i2⟩:=y
 dsimp only at y1 y2 y3 ⊢
 have hb:=fI y1
 refine aN ?_
 refine aR (d9 hn hβ i1 i2 y2 y3 2) fun a ⟨a1,a2,a3⟩=>?_
 refine aN ?_
 refine a7 (ι:=GCluster×Int×Int) (fun _=>[]) (fun y=>(4, .row (fW y.1 61 62 63)) :: (700,dE y.2.1 y.2.2) :: muD y.1 61 62 63) (fun y=>jD y.1∧0≤y.2.1∧y.2.1≤n) [4,700,61,62,63] [61,62,63] ?_ ?_
 ·refine aA (fun _=>?_) (fun _=>?_)
  rotate_left
  ·refine aF ?_
   exact aL (k,a.2.1,a.2.2) ⟨y1,a2,a3⟩ Nat.zero_lt_one
  refine aF ?_
  refine aR (aCv 901 71 (aCv 902 72 (aCv 903 73 (w7 k hb id)))) fun _ _=>?_
  refine aN ?_
  have hX:=ES k id
  generalize (eP k id).1=K at hX
  generalize (eP k id).2=code
  refine aQ (fun _=>?_) (fun _=>?_)
  rotate_left
  ·refine aF ?_
   exact aL (k,a.2.1,a.2.2) ⟨y1,a2,a3⟩ Nat.zero_lt_one
  refine aF ?_
  refine aR (bR hn hβ a.2.1 a.2.2 a2 a3 10) fun nn ⟨nn1,nn2,nn3⟩=>?_
  refine aN ?_
  refine bB (D4 6 rfl) ?_
  refine cY (ι:=GCluster×Int×Int×Int) (fun y=>[(8,vI y.2.1)]) (fun y=>(4, .row (fW y.1 71 72 73)) :: (700,dE y.2.2.1 y.2.2.2) :: muD y.1 71 72 73) (fun y=>jD y.1∧(0≤y.2.1∧y.2.1≤10)∧0≤y.2.2.1∧y.2.2.1≤n) (fun y=>y.2.1.toNat) (K,nn.1,nn.2.1,nn.2.2) [4,700,71,72,73] [71,72,73] rfl rfl ⟨hX,by dsimp only;omega,nn2,nn3⟩ wF ⟨⟨_,rfl,aCt _⟩,⟨_,rfl,aCt _⟩,⟨_,rfl,lY⟩,wM⟩ ?_
  clear hX
  rintro ⟨K,m,i3,i4⟩ ⟨u1,u2,u3,u4⟩
  dsimp only at u1 u2 u3 u4 ⊢
  have hKb:=fI u1
  refine aF ?_
  refine aI (fun e4=>?_) (fun _=>?_)
  ·refine aF ?_
   refine aR (aCv 901 81 (aCv 902 82 (aCv 903 83 (vY K hKb id)))) fun _ _=>?_
   refine aN ?_
   have hA:=IS K id
   generalize (bZ K id).1=K2 at hA
   generalize (bZ K id).2=w2
   refine aQ (fun _=>?_) (fun _=>?_)
   ·refine aF ?_
    refine bC (bL 71 81) ?_
    refine bC (bL 72 82) ?_
    refine bC (bL 73 83) ?_
    exact bN (K2,m - 1,i3,i4) ⟨hA,by dsimp only;omega,u3,u4⟩ (by dsimp only;omega) wF ⟨⟨_,rfl,aCt _⟩,⟨_,rfl,aCt _⟩,⟨_,rfl,lY⟩,wM⟩
   ·refine aF ?_
    exact aL (K,m - 1,i3,i4) ⟨u1,by dsimp only;omega,u3,u4⟩ (by dsimp only;omega)
  refine aF ?_
  refine bC (bL 61 71) ?_
  refine bC (bL 62 72) ?_
  refine bC (bL 63 73) ?_
  exact aL (K,i3,i4) ⟨u1,u3,u4⟩ Nat.zero_lt_one
 clear a1 a2 a3
 rintro ⟨k,i3,i4⟩ ⟨u1,u2,u3⟩
 dsimp only at u1 u2 u3 ⊢
 refine aZ ?_
 refine bB (bL 61 901) ?_
 refine bB (bL 62 902) ?_
 refine bB (bL 63 903) ?_
 refine aC ((k,id,i3,i4)) [(2,some 28),(3,none)] ?_ ?_ ?_
 ·exact aCu _
 ·exact wM
 ·exact ⟨u1,u2,u3⟩
theorem tL {n:Nat} {β:Nat→Int} (hn:n≤1048576) (hβ:eS β):A7 Tryz.prog 50 n β:=by
 refine aE Tryz.func50 fun B0 r_ D_ w0=>?_
 refine aF ?_
 refine aR (mG hn hβ) fun h0 _=>?_
 refine aN ?_
 refine aR (nk:=[700,61,62,63]) (aCv 901 61 (aCv 902 62 (aCv 903 63 (XQ hn hβ 0 h0 (Int.le_refl _) (Int.natCast_nonneg _))))) fun y ⟨y1,y2,y3⟩=>?_
 obtain ⟨k,id,i1,i2⟩:=y
 dsimp only at y1 y2 y3 ⊢
 have ht:k.txs.length≤60000:=by have:=y1.1;unfold iL wL at this;omega
 refine aN ?_
 refine aK (ι:=Int×Nat×Int×Int) (fun y=>[(6,vI y.1),(7,vI y.2.1)]) (fun y=>[(700,dE y.2.2.1 y.2.2.2)]) (fun y=>y.2.1≤k.txs.length∧0≤y.2.2.1∧y.2.2.1≤n) (fun y=>k.txs.length - y.2.1) (id,0,i1,i2) [700] [] ⟨Nat.zero_le _,y2,y3⟩ ?_
 rintro ⟨id,j,i3,i4⟩ ⟨u1,u2,u3⟩
 dsimp only at u1 u2 u3 ⊢
 refine aF ?_
 refine aI (fun e=>?_) (fun e=>?_)
 ·have hj:j<k.txs.length:=by omega
  by_cases hz:(bif (bif ((k.txs.getD j aCk).phase != 1) then ((k.txs.getD j aCk).phase != 7) else false) then ((k.txs.getD j aCk).phase != 9) else false)=true
  ·refine aF ?_
   refine cO TT_ok (d9 hn hβ i3 i4 u2 u3 2) rfl rfl (aCu _) (fun _=>rfl) rfl rfl rfl (fun z ⟨z1,z2,z3⟩=>?_) (hg:=⟨rfl,congrArg (fun x=>some (vB x)) hz⟩)
   refine aN ?_
   refine bX (b:=z.1) (by show some (SV.a (.v (.bool (bif _ then z.1 else false))))=_;rw [show (bif (bif ((k.txs.getD (j:Int).toNat aCk).phase != 1) then ((k.txs.getD (j:Int).toNat aCk).phase != 7) else false) then ((k.txs.getD (j:Int).toNat aCk).phase != 9) else false)=true from hz];rfl) (fun _=>?_) (fun _=>?_)
   ·refine aF ?_
    exact aL (_,j+1,z.2.1,z.2.2) ⟨hj,z2,z3⟩ (by dsimp only;omega)
   ·refine aF ?_
    exact aL (id,j+1,z.2.1,z.2.2) ⟨hj,z2,z3⟩ (by dsimp only;omega)
  ·have hz':(bif (bif ((k.txs.getD (j:Int).toNat aCk).phase != 1) then ((k.txs.getD (j:Int).toNat aCk).phase != 7) else false) then ((k.txs.getD (j:Int).toNat aCk).phase != 9) else false) = !true:=by
    have:((j:Int)).toNat=j:=rfl
    rw [this];simpa using hz
   refine aF ?_
   refine lK (vB true) rfl rfl rfl rfl (hz') rfl rfl ?_
   refine aN ?_
   refine bX (b:=false) (by show some (SV.a (.v (.bool (bif _ then true else false))))=_;rw [hz'];rfl) (fun e=>by cases e) (fun _=>?_)
   refine aF ?_
   exact aL (id,j+1,i3,i4) ⟨hj,u2,u3⟩ (by dsimp only;omega)
 ·refine aF ?_
  refine bB (bL 61 901) ?_
  refine bB (bL 62 902) ?_
  refine bB (bL 63 903) ?_
  refine aC ((k,id)) [(2,some 28),(3,none)] ?_ ?_ ?_
  ·exact aCu _
  ·exact wM
  ·exact y1
theorem Q7 {n:Nat} {β:Nat→Int} (hn:n≤1048576) (hβ:eS β) :
  Con Tryz.prog 18 [701] [.a (.g 701)] [(701,rD n β)] (fun y:GCluster×Int×Int=>jD y.1) (fun y=>[iC y.1 901 902 903,vI y.2.1,vI y.2.2]) fun y=>muD y.1 901 902 903:=by
 refine aE Tryz.func18 fun B0 r_ D_ w0=>?_
 refine aF ?_
 refine aR (mG hn hβ) fun h0 _=>?_
 refine aN ?_
 refine aR (nk:=[700,901,902,903]) (rG hn hβ 0 h0 (Int.le_refl _) (Int.natCast_nonneg _)) fun y ⟨y1,y2,y3⟩=>?_
 obtain ⟨k,i1,i2⟩:=y
 dsimp only at y1 y2 y3 ⊢
 have ht:k.txs.length≤60000:=by have:=y1.1;unfold iL wL at this;omega
 refine aN ?_
 refine a7 (ι:=Int×Int×Int) (fun y=>[(7,vI y.1)]) (fun y=>[(700,dE y.2.1 y.2.2)]) (fun y=>0≤y.2.1∧y.2.1≤n) [700] [] ?_ ?_
 ·refine aI (fun e2=>?_) (fun _=>?_)
  ·have hx:((k.txs.length:Int) - 1).toNat<k.txs.length:=by omega
   have hid:=y1.2 _ (cJ (z:=aCk) hx)
   refine aF ?_
   refine aW [700] [0,1,2,3,4,5,6,7,8,9,10,11,12] fun B0 H0=>?_
   refine aX 10 (bR hn hβ i1 i2 y2 y3 3) fun z ⟨z1,z2,z3⟩=>?_
   refine aY [11,12] ?_
   refine aP ?_
   exact aL ((k.txs.getD ((k.txs.length:Int) - 1).toNat aCk).id+z.1,z.2.1,z.2.2) ⟨z2,z3⟩ Nat.zero_lt_one
  ·refine aF ?_
   exact aL (1,i1,i2) ⟨y2,y3⟩ Nat.zero_lt_one
 rintro ⟨id,i3,i4⟩ ⟨u1,u2⟩
 dsimp only at u1 u2 ⊢
 refine aZ ?_
 refine aR (d9 hn hβ i3 i4 u1 u2 14) fun a ⟨a1,a2,a3⟩=>?_
 refine aN ?_
 refine a7 (ι:=Int×Int×Int) (fun y=>[(7,vI y.1)]) (fun y=>[(700,dE y.2.1 y.2.2)]) (fun y=>0≤y.2.1∧y.2.1≤n) [700] [] ?_ ?_
 ·refine aA (fun e2=>?_) (fun _=>?_)
  ·refine aF ?_
   refine aM 50 (fun i=>bS (([0,1000000,1000001, -1]:List Int).getD i 0)) (qW rfl rfl rfl rfl) (mu1:=[]) ?_
   refine aN ?_
   refine aR (bR hn hβ a.2.1 a.2.2 a2 a3 4) fun z ⟨z1,z2,z3⟩=>?_
   refine aN ?_
   exact aL (([0,1000000,1000001, -1]:List Int).getD z.1.toNat 0,z.2.1,z.2.2) ⟨z2,z3⟩ Nat.zero_lt_one
  ·refine aF ?_
   exact aL (id,a.2.1,a.2.2) ⟨a2,a3⟩ Nat.zero_lt_one
 rintro ⟨id,i5,i6⟩ ⟨v1,v2⟩
 dsimp only at v1 v2 ⊢
 refine aZ ?_
 refine aW [700,2] [0,1,2,3,4,5,6] fun B0 H0=>?_
 refine iH 3 (o0 hn hβ i5 i6 v1 v2 (-1) 6 (by decide) (by decide) (by decide)) rfl rfl rfl (aCu _) (fun _=>rfl) rfl rfl rfl fun z ⟨z1,z2,z3⟩=>?_
 refine bG 4 rfl (by kernel_rfl) (aV (bD ?_))
 refine aY [5,6] ?_
 refine aP ?_
 refine aC ((k,id,z.1)) [(2,some 28),(3,none),(4,none)] ?_ ?_ ?_
 ·exact aCu _
 ·exact wM
 ·exact y1
end
section
theorem N9 {n:Nat} {β:Nat→Int} (hn:n≤1048576) (hβ:eS β):Con Tryz.prog 22 [701] [.a (.g 701)] [(701,rD n β)] (fun y:List Int=>y.length≤3) (fun _=>[.a (.g 900)]) fun y=>[(900,bE 1 bS 0 y)]:=by
 refine aE Tryz.func22 fun B0 r_ D_ w0=>?_
 refine aF ?_
 refine aR (mG hn hβ) fun h0 _=>?_
 refine aN ?_
 refine aM 20 (fun i=>bS (([]:List Int).getD i 0)) (fun i hi=>absurd hi (Nat.not_lt_zero _)) (mu1:=[]) ?_
 refine aN ?_
 refine aR (bR hn hβ 0 h0 (Int.le_refl _) (Int.natCast_nonneg _) 4) fun a ⟨a1,a2,a3⟩=>?_
 refine aN ?_
 refine cY (ι:=List Int×Int×Int×Int) (fun y=>[(4, .a (.g 20)),(5,vI y.2.1)]) (fun y=>[(20,bE 1 bS 0 y.1),(700,dE y.2.2.1 y.2.2.2)]) (fun y=>((y.1.length:Int)+y.2.1≤3∧0≤y.2.1)∧0≤y.2.2.1∧y.2.2.1≤n) (fun y=>y.2.1.toNat) ([],a.1,a.2.1,a.2.2) [20,700] [20] rfl rfl ⟨⟨by simp only [List.length_nil];omega,by dsimp only;omega⟩,a2,a3⟩ wF wM ?_
 rintro ⟨l,m,i1,i2⟩ ⟨⟨q1,q2⟩,q3,q4⟩
 dsimp only at q1 q2 q3 q4 ⊢
 refine aF ?_
 refine aI (fun e=>?_) (fun e=>?_)
 ·refine aF ?_
  refine aR (bR hn hβ i1 i2 q3 q4 3) fun b ⟨b1,b2,b3⟩=>?_
  refine aN ?_
  refine aR (d9 hn hβ b.2.1 b.2.2 b2 b3 6) fun c ⟨c1,c2,c3⟩=>?_
  refine aN ?_
  refine a7 (ι:=Int×Int×Int) (fun y=>[(6,vI y.1)]) (fun y=>[(700,dE y.2.1 y.2.2)]) (fun y=>0≤y.2.1∧y.2.1≤n) [700] [] ?_ ?_
  ·refine aA (fun _=>?_) (fun _=>?_)
   ·refine aF ?_
    refine aM 50 (fun i=>bS (([0,1,5, -1]:List Int).getD i 0)) (qW rfl rfl rfl rfl) (mu1:=[]) ?_
    refine aN ?_
    refine aR (bR hn hβ c.2.1 c.2.2 c2 c3 4) fun z ⟨z1,z2,z3⟩=>?_
    refine aN ?_
    exact aL (([0,1,5, -1]:List Int).getD z.1.toNat 0,z.2.1,z.2.2) ⟨z2,z3⟩ Nat.zero_lt_one
   ·refine aF ?_
    exact aL (2+b.1,c.2.1,c.2.2) ⟨c2,c3⟩ Nat.zero_lt_one
  rintro ⟨v,i3,i4⟩ ⟨u1,u2⟩
  dsimp only at u1 u2 ⊢
  refine aZ ?_
  refine cV TT_ok 28 (fun _=>bS v) rfl rfl rfl rfl rfl rfl rfl (fun j hj=>by rcases j with _ | j <;>first | rfl | omega) (mu1:=[]) rfl rfl rfl ?_
  refine aN ?_
  refine cU TT_ok 20 28 29 rfl rfl rfl rfl rfl rfl rfl rfl rfl rfl rfl rfl ⟨by show (l.length+1) * 8≤_;omega,by unfold maxL;omega⟩ ?_
  refine aN ?_
  refine bC (bL 20 29) ?_
  exact bN (l ++ [v],m - 1,i3,i4) ⟨⟨by simp;omega,by dsimp only;omega⟩,u1,u2⟩ (by dsimp only;omega) wF ⟨⟨_,rfl,aS rfl⟩,wM⟩
 ·refine aF ?_
  refine bB (bL 20 900) ?_
  refine aC (l) [(2,none)] ?_ ?_ ?_
  ·exact aCu _
  ·exact wM
  ·show l.length≤3;omega
theorem TM {n:Nat} {β:Nat→Int} (hn:n≤1048576) (hβ:eS β) :
  Con Tryz.prog 25 [701] [.a (.g 701)] [(701,rD n β)] (fun y:GCluster×Int×Int=>jD y.1) (fun y=>[iC y.1 901 902 903,vI y.2.1,vI y.2.2]) fun y=>muD y.1 901 902 903:=by
 refine aE Tryz.func25 fun B0 r_ D_ w0=>?_
 refine aF ?_
 refine aR (mG hn hβ) fun h0 _=>?_
 refine aN ?_
 refine aR (nk:=[901,902,903]) (tL hn hβ) fun y y1=>?_
 refine aN ?_
 refine aW [700,2] [0,1,2,3,4,5,6] fun B0 H0=>?_
 refine iH 3 (o0 hn hβ 0 h0 (Int.le_refl _) (Int.natCast_nonneg _) (-1) 3 (by decide) (by decide) (by decide)) rfl rfl rfl (aCu _) (fun _=>rfl) rfl rfl rfl fun z ⟨z1,z2,z3⟩=>?_
 refine bG 4 rfl (by kernel_rfl) (aV (bD ?_))
 refine aY [5,6] ?_
 refine aP ?_
 refine aC ((y.1,y.2,z.1)) [(2,some 28),(3,none),(4,none)] ?_ ?_ ?_
 ·exact aCu _
 ·exact wM
 ·exact y1
theorem K7 {n:Nat} {β:Nat→Int} (hn:n≤1048576) (hβ:eS β):A7 Tryz.prog 28 n β:=by
 refine aE Tryz.func28 fun B0 r_ D_ w0=>?_
 refine aF ?_
 refine aR (mG hn hβ) fun h0 _=>?_
 refine aN ?_
 refine aR (nk:=[61,62,63]) (aCv 901 61 (aCv 902 62 (aCv 903 63 (tL hn hβ)))) fun y y1=>?_
 obtain ⟨k,id⟩:=y
 dsimp only at y1 ⊢
 have hb:=fI y1
 refine aN ?_
 refine aR (d9 hn hβ 0 h0 (Int.le_refl _) (Int.natCast_nonneg _) 2) fun a ⟨a1,a2,a3⟩=>?_
 refine aN ?_
 refine a7 (ι:=GCluster) (fun _=>[]) (fun y=>(5, .row (fW y 61 62 63)) :: muD y 61 62 63) (fun y=>jD y) [5,700,61,62,63] [61,62,63] ?_ ?_
 ·refine aA (fun _=>?_) (fun _=>?_)
  rotate_left
  ·refine aF ?_
   exact aL k y1 Nat.zero_lt_one
  refine aF ?_
  refine a7 (ι:=Int) (fun _=>[(7, .a (.p 7 0))]) (fun m=>[(7, .row (fW (fR k m).1 71 72 73)),(71,bE 1 cE aCi (fR k m).1.places),(72,bE 4 bJ aCj (fR k m).1.machines),(73,bE 7 cTx aCk (fR k m).1.txs)]) (fun _=>True) [700] [] ?_ ?_
  ·refine aW [700] [0,1,2,3,4,5,6,7,8,9] fun B0 H0=>?_
   refine eU 2 7 rfl rfl (by kernel_rfl) (gG (nk:=[700]) (bR hn hβ a.2.1 a.2.2 a2 a3 4) rfl rfl (aCu _) (fun _=>rfl) rfl rfl rfl (fun r ⟨r1,r2,r3⟩=>bD ?_)) (aV (bD ?_))
   ·skip
    refine eU 3 7 rfl rfl (by kernel_rfl) (gG (aCv 901 71 (aCv 902 72 (aCv 903 73 (l9 k hb r.1 (fY k hb))))) rfl rfl (aCu _) (fun _=>rfl) rfl rfl rfl (fun _ _=>bD ?_)) (aV (bD ?_))
    ·refine aY [4,5,6,7,8,9] ?_
     refine bG 7 rfl (by kernel_rfl) (aV (bD ?_))
     refine bG 8 rfl (by kernel_rfl) (aV (bD ?_))
     refine aY [9] ?_
     refine aP ?_
     exact aL r.1 trivial Nat.zero_lt_one
    ·skip
     refine aX 3 (aCv 901 71 (aCv 902 72 (aCv 903 73 (l9 k hb r.1 (fY k hb))))) fun _ _=>?_
     refine aY [4,5,6,8,9] ?_
     refine bG 8 rfl (by kernel_rfl) (aV (bD ?_))
     refine aY [9] ?_
     refine aP ?_
     exact aL r.1 trivial Nat.zero_lt_one
   ·skip
    refine aX (nk:=[700]) 2 (bR hn hβ a.2.1 a.2.2 a2 a3 4) fun r ⟨r1,r2,r3⟩=>?_
    refine aX 3 (aCv 901 71 (aCv 902 72 (aCv 903 73 (l9 k hb r.1 (fY k hb))))) fun _ _=>?_
    refine aY [4,5,6,8,9] ?_
    refine bG 8 rfl (by kernel_rfl) (aV (bD ?_))
    refine aY [9] ?_
    refine aP ?_
    exact aL r.1 trivial Nat.zero_lt_one
  intro m _
  have hA:=CE k m
  generalize (fR k m).1=K2 at hA
  refine aZ ?_
  refine aI (fun _=>?_) (fun _=>?_)
  ·refine aF ?_
   refine bC (bL 61 71) ?_
   refine bC (bL 62 72) ?_
   refine bC (bL 63 73) ?_
   exact bN K2 hA Nat.zero_lt_one wF ⟨⟨_,rfl,aCt _⟩,⟨_,rfl,lY⟩,wM⟩
  ·refine aF ?_
   exact aL k y1 Nat.zero_lt_one
 intro k y1
 refine aZ ?_
 refine bB (bL 61 901) ?_
 refine bB (bL 62 902) ?_
 refine bB (bL 63 903) ?_
 refine aC ((k,id)) [(2,some 28),(3,none)] ?_ ?_ ?_
 ·exact aCu _
 ·exact wM
 ·exact y1
end
section
def RelI (l m:List V):Prop := ∀ B Z vs,V.rels B Z l vs→V.rels B Z m vs
theorem RelI.e:RelI [] []:=fun _ _ _ e=>e
theorem RelI.c {x:V} {l m:List V} (k:RelI l m):RelI (x :: l) (x :: m):=fun _ _ _ ⟨y,t,e1,e2,e3⟩=>⟨y,t,e1,e2,k _ _ _ e3⟩
theorem RelI.n {q:Tg} {sz:Nat} {f:Nat→List D} {l m:List V} (k:RelI l m):RelI (.v (.slice none 0 0) :: l) (.s q sz 0 f :: m):=fun _ _ _ ⟨y,t,e1,e2,e3⟩=>⟨y,t,e1,by
 have e2:y = .slice none 0 0:=e2
 subst e2;exact ⟨none,0,rfl,Nat.le_refl _,Nat.zero_le _, .inl rfl⟩,k _ _ _ e3⟩
theorem SV.imp_agI {P:Program} {l m:List V} (h:RelI l m):(SV.ag l).imp P (.ag m):=fun B Z _ ⟨vs,e1,e2⟩=>⟨vs,e1,h B Z vs e2⟩
theorem z6 {P:Program}:(SV.ag [.v (.int .i64 0), .v (.int .i64 0),lU,lU,lU, .v (.bool false)]).imp P (vR (bO aCl)):=SV.imp_agI (RelI.c (RelI.c (RelI.n (RelI.n (RelI.n (RelI.c RelI.e))))))
end
section
theorem WC {c:GCluster} {id home:Int} (h:(fA c id home).2=1):¬ ClusOk c∧(fA c id home).1=aCl:=by
 by_cases hok:ClusOk c
 ·exfalso
  unfold fA at h
  rw [if_pos hok] at h
  revert h
  cases n9 c id
  ·cases qP c home
   ·exact fun h=>absurd (show (0:Int)=1 from h) (by decide)
   ·exact fun h=>absurd (show (3:Int)=1 from h) (by decide)
  ·exact fun h=>absurd (show (2:Int)=1 from h) (by decide)
 ·exact ⟨hok,by unfold fA;rw [if_neg hok]⟩
theorem XL {c:GCluster} {id home:Int} (h1:(fA c id home).2≠1) (h0:(fA c id home).2≠0):(fA c id home).1=c:=by
 by_cases hok:ClusOk c
 ·unfold fA at h0 ⊢
  rw [if_pos hok] at h0 ⊢
  revert h0
  cases n9 c id
  ·cases qP c home
   ·exact fun h=>absurd rfl h
   ·exact fun _=>rfl
  ·exact fun _=>rfl
 ·exact absurd (by unfold fA;rw [if_neg hok]) h1
theorem U1 {c:GCluster} {id home:Int} (h:(fA c id home).2=0):ClusOk c∧n9 c id=false∧qP c home=false∧(fA c id home).1=sH c id home:=by
 by_cases hok:ClusOk c
 ·unfold fA at h ⊢
  rw [if_pos hok] at h ⊢
  revert h
  cases h2:n9 c id
  ·cases h3:qP c home
   ·exact fun _=>⟨hok,rfl,rfl,rfl⟩
   ·exact fun h=>absurd (show (3:Int)=0 from h) (by decide)
  ·exact fun h=>absurd (show (2:Int)=0 from h) (by decide)
 ·unfold fA at h
  rw [if_neg hok] at h
  exact absurd (show (1:Int)=0 from h) (by decide)
theorem aBu {n:Nat} {β:Nat→Int} (hβ:eS β):Ans Tryz.prog 4 [701] [.a (.g 701)] [(701,rD n β)] (vB true):=by
 refine aE Tryz.func4 fun B0 r_ D_ w0=>?_
 refine aF ?_
 refine aH (CI n _) ?_
 refine aI (fun e=>?_) (fun e=>?_)
 ·refine aF ?_
  exact aG [(2,none)] (rfl)
 have hn:n≤1048576:=by omega
 refine aF ?_
 refine aR (nk:=[61,62,63]) (aCv 901 61 (aCv 902 62 (aCv 903 63 (Q7 hn hβ)))) fun y y1=>?_
 obtain ⟨c,id,home⟩:=y
 dsimp only at y1 ⊢
 have hb:=fI y1
 have hX:=fI (RZ c id home)
 refine aN ?_
 refine aR (aCv 901 71 (aCv 902 72 (aCv 903 73 (NV c hb id home)))) fun _ _=>?_
 refine aN ?_
 refine aR (aCv 901 81 (aCv 902 82 (aCv 903 83 (tG c hb id home)))) fun _ _=>?_
 refine aN ?_
 refine aH (fZ (fA c id home).1 hX) ?_
 refine bX rfl (fun e=>by simp at e) (fun _=>?_)
 refine aF ?_
 refine aQ (fun e1=>?_) (fun e1=>?_)
 ·obtain ⟨hno,hz⟩:=WC e1
  rw [hz]
  refine aF ?_
  refine lZ TT_ok (fZ aCl (rA _ (by decide))) rfl rfl (SVs.cons (aCs _) (SVs.cons z6 rfl)) rfl rfl ?_
  have hO:=mM c hb
  rw [b7 hno] at hO
  refine aH (hO) ?_
  exact aG [(2,none)] (rfl)
 refine aF ?_
 refine fO rfl (fun e0=>?_) (fun e0=>?_)
 ·rw [XL e1 e0]
  refine aF ?_
  refine aH (fZ c hb) ?_
  exact aG [(2,none)] (rfl)
 obtain ⟨hok,h2,h3,hx⟩:=U1 e0
 rw [hx] at hX ⊢
 have hokX:=WE hok h2 h3
 have hf:=Z5 hok (home:=home) h2
 have hlen:(sH c id home).txs.length=c.txs.length+1:=by show (c.txs ++ [oB id home]).length=_;simp
 have hcl:c.txs.length≤60:=hok.1.2.2.2
 have hg:(sH c id home).txs.getD c.txs.length aCk=oB id home:=by rw [FK,if_neg (Nat.lt_irrefl _),if_pos rfl]
 have hF:=rN (sH c id home) hX id
 rw [show fF (sH c id home) id=(oB id home,true) from by unfold fF;rw [if_pos ⟨hokX,by rw [hf];omega⟩,hf];show ((sH c id home).txs.getD ((c.txs.length:Nat):Int).toNat aCk,true)=_;rw [Int.toNat_natCast,hg]] at hF
 refine aF ?_
 refine aR (aCv 901 91 (aCv 902 92 hF)) fun _ _=>?_
 refine aN ?_
 refine aH (sX (sH c id home) hX hokX) ?_
 have hfin:(bif bif bif bif (oB id home,true).2 then (oB id home,true).1.phase == 1 else false then true else false then ((sH c id home).txs.length:Int) == (c.txs.length:Int)+1 else false then ((sH c id home).txs.getD ((c.txs.length:Nat):Int).toNat aCk).id == id else false)=true:=by
  rw [Int.toNat_natCast,hg,hlen]
  simp [oB]
 exact aG [(2,none)] (hfin)
theorem NJ (vs:List Int) (hl:vs.length≤1048576):Ans Tryz.prog 23 [] [vL 1 bS 0 vs] [] (vB (mT vs)):=by
 refine aE Tryz.func23 fun B0 r_ D_ w0=>?_
 refine aF ?_
 refine aH (CZ vs hl) ?_
 exact aG [(2,none)] (rfl)
theorem QB (p:Int→Bool) {vs:List Int} {i:Nat} (h:i<vs.length):(vs.take (i+1)).any p=(bif (vs.take i).any p then true else p (vs.getD i 0)):=by
 rw [cC (z:=(0:Int)) h,List.any_append,show ([vs.getD i 0]:List Int).any p=p (vs.getD i 0) from Bool.or_false _]
 cases (vs.take i).any p <;>rfl
theorem ZB (p:Int→Bool) {vs:List Int} {i:Nat} (h:i<vs.length):(vs.take (i+1)).all p=(bif (vs.take i).all p then p (vs.getD i 0) else false):=by
 rw [cC (z:=(0:Int)) h,List.all_append,show ([vs.getD i 0]:List Int).all p=p (vs.getD i 0) from Bool.and_true _]
 cases (vs.take i).all p <;>rfl
theorem TR (vs:List Int):(mT vs == (bif vs.any (fun v=>v == 4) then true else bif vs.any (fun v=>v == 3) then vs.all (fun v=>decide (v ≥ 2)) else false))=true:=by
 rw [CK]
 have h4:vs.any (fun v=>v == 4)=decide ((4:Int) ∈ vs):=by
  rw [Bool.eq_iff_iff,decide_eq_true_iff,List.any_eq_true]
  exact ⟨fun ⟨x,hx,e⟩=>by
    have:x=4:=by simpa using e
    subst this;exact hx,fun h=>⟨4,h,rfl⟩⟩
 have h3:vs.any (fun v=>v == 3)=decide ((3:Int) ∈ vs):=by
  rw [Bool.eq_iff_iff,decide_eq_true_iff,List.any_eq_true]
  exact ⟨fun ⟨x,hx,e⟩=>by
    have:x=3:=by simpa using e
    subst this;exact hx,fun h=>⟨3,h,rfl⟩⟩
 have ha:vs.all (fun v=>decide (v ≥ 2)) = !vs.any (fun v=>decide (v<2)):=by
  rw [Bool.eq_iff_iff]
  simp [List.all_eq_true]
 rw [h4,h3,ha,beq_self_eq_true]
theorem aAR {n:Nat} {β:Nat→Int} (hβ:eS β):Ans Tryz.prog 5 [701] [.a (.g 701)] [(701,rD n β)] (vB true):=by
 refine aE Tryz.func5 fun B0 r_ D_ w0=>?_
 refine aF ?_
 refine aH (CI n _) ?_
 refine aI (fun e=>?_) (fun e=>?_)
 ·refine aF ?_
  exact aG [(2,none)] (rfl)
 have hn:n≤1048576:=by omega
 refine aF ?_
 refine aR (nk:=[60]) (aCv 900 60 (N9 hn hβ)) fun vs hv=>?_
 have hvl:vs.length≤1048576:=Nat.le_trans hv (by decide)
 refine aN ?_
 refine aH (NJ vs hvl) ?_
 refine aH (CX vs hvl) ?_
 refine bX rfl (fun e=>by simp at e) (fun _=>?_)
 refine aF ?_
 refine aR (nk:=[61,62,63]) (aCv 901 61 (aCv 902 62 (aCv 903 63 (TM hn hβ)))) fun y y1=>?_
 obtain ⟨c,id,r⟩:=y
 dsimp only at y1 ⊢
 have hb:=fI y1
 refine aN ?_
 refine aW [] [0,1,2,4,5,6,3,7,8] fun B0 H0=>?_
 refine fU 3 (RA c hb id r) rfl rfl rfl (aCu _) rfl ?_
 refine fU 7 (RB c hb id r) rfl rfl rfl (aCu _) rfl ?_
 refine aY [8] ?_
 refine aP ?_
 refine fO rfl (fun e=>absurd rfl e) (fun _=>?_)
 refine aF ?_
 refine aR (nk:=[71,72,73]) (aCv 901 71 (aCv 902 72 (aCv 903 73 (K7 hn hβ)))) fun y y2=>?_
 obtain ⟨k,i⟩:=y
 dsimp only at y2 ⊢
 have hk:=fI y2
 refine aN ?_
 refine aW [] [0,1,3,4,2,5,6] fun B0 H0=>?_
 refine fU 2 (zW k hk i) rfl rfl rfl (aCu _) rfl ?_
 refine fU 5 (I2 k hk i) rfl rfl rfl (aCu _) rfl ?_
 refine aY [6] ?_
 refine aP ?_
 refine bX rfl (fun e=>by simp at e) (fun _=>?_)
 refine aF ?_
 refine aK (ι:=Nat) (fun i=>[(13,vI i),(10,vB ((vs.take i).any fun v=>v == 3)),(11,vB ((vs.take i).all fun v=>decide (v ≥ 2))),(12,vB ((vs.take i).any fun v=>v == 4))]) (fun _=>[]) (fun i=>i≤vs.length) (fun i=>vs.length - i) 0 [] [] (Nat.zero_le _) ?_
 intro j h1
 refine aF ?_
 refine aI (fun e2=>?_) (fun e2=>?_)
 ·have hj:j<vs.length:=by omega
  refine aF ?_
  exact bN (j+1) hj (by omega) ⟨⟨_,rfl,aCs _⟩,⟨_,rfl,aCw (by rw [QB _ hj];rfl)⟩,⟨_,rfl,aCw (by rw [ZB _ hj];rfl)⟩,⟨_,rfl,aCw (by rw [QB _ hj];rfl)⟩,wF⟩ wM
 have hj:j=vs.length:=by omega
 subst hj
 have hfin:(mT vs == (bif (vs.take vs.length).any (fun v=>v == 4) then true else bif (vs.take vs.length).any (fun v=>v == 3) then (vs.take vs.length).all (fun v=>decide (v ≥ 2)) else false))=true:=by
  rw [List.take_length];exact TR vs
 refine aF ?_
 exact aG [(2,none)] (hfin)
end
end Go.Proofs.YtnffflcjaipdkaaGreat
