/-
  What the claim leans on, made short by program.
-/
import Derived.Test.YtnffflcjaipdkaaGreatQF
import Derived.Lib.AppendZerosOnto
import Derived.Lib.Overlaps
namespace Go.Proofs.YtnffflcjaipdkaaGreat
open Go Go.RowKit
set_option linter.unusedVariables false
set_option linter.unusedSimpArgs false
set_option maxRecDepth 4000
section
section
theorem v6 {α:Type} {p:α→Bool} {z:α} {xs:List α} (h:∀ j,j<xs.length→p (xs.getD j z)=false):xs=xs.filter fun x => !p x:=by
 symm
 rw [List.filter_eq_self]
 intro x hx
 obtain ⟨j,hj,rfl⟩:=List.mem_iff_getElem.1 hx
 have:=h j hj
 simp at this ⊢
 rw [List.getElem?_eq_getElem hj] at this
 simpa using this
theorem tD {α:Type} {p:α→Bool} {z:α} {xs:List α} {i:Nat} (h1:i<xs.length) (h3:∀ j,j<i→p (xs.getD j z)=false) (h4:p (xs.getD i z)=true):((xs.take (i+1)).filter fun x => !p x)=xs.take i:=by
 rw [AE (z:=z) h1,if_neg (by rw [h4];simp)]
 refine (v6 (z:=z) (xs:=xs.take i) fun j hj=>?_).symm
 rw [m5 hj]
 rw [List.length_take] at hj
 exact h3 j (by omega)
end
section
section
variable {E:Env} {mu mu':Mu} {TT:List TI} {fr fr':Fr} {gf gf':GF} {all rest:List Oper} {Q:Exit→Act→World→Prop} {o:Oper} {J:Act→World→Prop} {G:AG}
theorem aAz {φ:List RD→Value→Prop} {args:List SV} {rds:List RD} {t j d:Nat} {b:Bool} {x:Value} (hg:o.guard=some (j,b)) (hsl:qL all j=some d) (hc:PF (kV 6 gf d b) fr gf o.op=some (φ,args)) (hr:GN args=some rds) (hgd:dD t gf=some gf') (hx:φ rds x)
  (k:SJ G J E fr ((t,d,b, .a (.v x)) :: gf') mu) (hd:o.dst=some t:=by exact rfl) (hn:mlk t fr=none:=by exact rfl) (ht:(Nat.blt t E.N && !(Nat.beq t d))=true:=by exact rfl):OJ G E all Q J o fr gf mu:=fun B a w H f m gg=>by
 simp only [Bool.and_eq_true,Bool.not_eq_true'] at ht
 have htd:t≠d:=Nat.ne_of_beq_eq_false ht.2
 have htN:t<E.N:=by simpa [Nat.blt_eq] using ht.1
 have hwt:=iS (ops:=all.toArray) (a:=a) hg (kS hsl)
 by_cases hyes:a.tmps.getD d undef = .bool b
 ·have hacts:=qV f 6 d b hyes
  have hw:=hwt.2 hyes
  obtain ⟨dst,op,type,pos,after,guard⟩:=o
  simp only at hc hd
  subst hd
  unfold PF at hc
  split at hc
  ·rename_i c
   obtain ⟨callee,cargs,ats⟩:=c
   simp only at hc
   split at hc
   ·rename_i y hy
    split at hc
    ·rename_i φ' l e1 e2
     simp only [Option.some.injEq,Prod.mk.injEq] at hc
     obtain ⟨rfl,rfl⟩:=hc
     obtain ⟨fn,cv,h1,h3,h4⟩:=(show ∃ f vs,_ from f.ev hacts e1)
     have h2:=f.evs hacts e2
     have ha:cargs.map a.eval=(cargs.toList.map a.eval).toArray:=Array.ext' (by rw [Array.toList_map])
     refine sJ (n:=fn) (args:=(cargs.toList.map a.eval ++ cv).toArray) hw ?_ ((h4 rds x hx w E.r _ (PH.le_refl _) m.mm.fitr (KG hr h2)).mono fun e w' ⟨g1,g2⟩=>⟨x,g1,?_⟩)
     ·simp only [execOp,resolve,h1,Deferred.ofValue,Sem.run_bind,Sem.run_pure,Result.andThen_ok,invoke,ha,Array.empty_append]
      rw [h3]
      congr 2
      simp
     ·exact k B _ w' H (Fits.putG f htN htd hn hgd (.inl ⟨hyes,show SV.rel E.P B (Zf E.r H) (.a (.v x)) x from rfl⟩)) (m.below g2) gg
    ·cases hc
   ·cases hc
  ·cases hc
 ·refine xX (by
   cases e:Region.wanted o (yielded all.toArray a.tmps) with
   | false=>rfl
   | true=>exact absurd (hwt.1 e) hyes) ?_
  rw [hd]
  exact k B _ w H (Fits.putG f htN htd hn hgd (.inr ⟨hyes,rfl⟩)) m gg
theorem IM {P:Program} {k n c:Nat}:(SV.a (.gl k n c)).imp P (.a (.g k)):=fun _ _ _ e=>⟨e.1,e.2.1⟩
end
end
section
theorem Con.wkR {ι:Type} {P:Program} {f:Nat} {ks:List Nat} {args:List SV} {mu:Mu} {φ:ι→Prop} {res res':ι→List SV} {mu':ι→Mu} (C:Con P f ks args mu φ res mu') (h:∀ y,φ y→SVs.imp P (res y) (res' y)):Con P f ks args mu φ res' mu' :=
 fun B r w H vals m he ha=>(C B r w H vals m he ha).mono fun e w' ⟨y,B',H',out,h1,h2,h3,h4⟩=>⟨y,B',H',out,h1,h2,SVs.imp_ok (h y h1) h3,h4⟩
end
section
theorem aBL (t k:Nat) {E:Env} {fr fr':Fr} {gf:GF} {mu:Mu} {sz n o:Nat} {f:Nat→List D} {i:Int} (hx:mlk t fr=some (.a (.pe k sz i o))) (hg:glk t gf=none) (hk:mlk k mu=some (.ro sz n f)) (hi:0≤i∧i<n):kO E fr gf mu ((t, .a (.rp .r (f i.toNat) o)) :: fr) gf mu:=fun B w H a ff m=>by
 refine ⟨B,H,⟨ff.size,ff.defers,fun s x e1 e2=>?_,ff.vgf,ff.vgu,fun s d w x e=>?_⟩,m⟩
 ·rw [bV] at e1
  by_cases h:t=s
  ·subst h
   rw [if_pos rfl] at e1
   injection e1 with e1;subst e1
   obtain ⟨h1,_⟩:=(show _=elP (B k) sz i o∧_ from ff.vfr t _ hx e2)
   obtain ⟨A,c,g1,g2,g3,g4⟩:=(show D.rd _ _ _ from m.mm.sat k _ hk)
   rcases g4 with g4 | ⟨b,off,rfl,g5⟩
   ·omega
   ·obtain ⟨row,r1,r2,r3⟩:=g5 i.toNat (by omega)
    refine ⟨b,off+i.toNat * sz,row,?_,r1,fun j hj=>r3 j (by omega)⟩
    rw [h1,g1,kQ]
  ·rw [if_neg h] at e1;exact ff.vfr s x e1 e2
 ·rw [bV]
  by_cases h:t=s
  ·subst h
   have:=ff.vno t d w x e
   rw [hx] at this;cases this
  ·rw [if_neg h];exact ff.vno s d w x e
end
end
section
section
open Classical in
noncomputable def kJ (t:GTx):Int:=if eN t then (if t.phase=5∧t.done > 0∨t.phase=6∨t.phase=7 then 1 else if t.phase=8∨t.phase=9 then 2 else 0) else -1
def aAC (t:GTx):Bool:=decide (t.phase=5∧t.done > 0∨t.phase=6∨t.phase=7)
theorem X9 (t:GTx):Ans Tryz.prog 125 [] [vP (cTx t)] [] (vB (aAC t)):=by
 refine aE Tryz.func125 fun B0 r_ D_ w0=>?_
 refine aF ?_
 refine aG [(2,none)] ?_
 unfold aAC
 rw [Bool.eq_iff_iff]
 simp
 omega
theorem xS (t:GTx):Ans Tryz.prog 56 [] [vR (cTx t)] [] (vI (kJ t)):=by
 refine aE Tryz.func56 fun B0 r_ D_ w0=>?_
 refine aF ?_
 refine aH (F3 _) ?_
 refine eF rfl (fun e=>?_) (fun e=>?_)
 ·refine aF ?_
  exact dK TT_ok [(2,none)] rfl rfl (by rw [kJ,if_neg (jN.1 e)])
 have hT:=c9.1 e
 refine aF ?_
 refine aH (X9 t) ?_
 refine aA (fun e5=>?_) (fun e5=>?_)
 ·refine aF ?_
  have:=of_decide_eq_true e5
  exact dK TT_ok [(2,none)] rfl rfl (by rw [kJ,if_pos hT,if_pos this])
 have hd:=of_decide_eq_false e5
 refine aF ?_
 refine aA (fun e8=>?_) (fun e8=>?_)
 ·refine aF ?_
  have:t.phase=8∨t.phase=9:=by simpa using e8
  exact dK TT_ok [(2,none)] rfl rfl (by rw [kJ,if_pos hT,if_neg hd,if_pos this])
 refine aF ?_
 have:¬ (t.phase=8∨t.phase=9):=by simpa using e8
 exact dK TT_ok [(2,none)] rfl rfl (by rw [kJ,if_pos hT,if_neg hd,if_neg this])
end
end
section
section
variable {P:Program} {w:World}
theorem VA_re {A:Option Addr} {n c sz k:Nat} {rows:Nat→List Value} {h:PH} (va:VA A n c sz rows h) (h1:n≤k) (h2:k≤c):∃ junk:Nat→List Value,(∀ i,(junk i).length=sz)∧VA A k c sz (HA n rows junk) h:=by
 obtain ⟨v1,v2,v3⟩:=va
 refine ⟨fun i=>(List.range sz).map fun j=>match A with | some a=>(h a.block (a.off+(n+i) * sz+j)).getD undef | none=>undef,fun i=>by simp,h2,fun i hi=>?_,fun i hi hi2=>v3 i (by omega) hi2⟩
 by_cases c1:i<n
 ·rw [sS c1];exact v2 i c1
 ·rw [vH (by omega)]
  obtain ⟨b,o,rfl,q⟩:=v3 i (by omega) (by omega)
  refine ⟨b,o,rfl,by simp,fun j hj=>?_⟩
  have e:n+(i - n)=i:=by omega
  simp only [List.getElem?_map,List.getElem?_range hj,Option.map_some,e]
  cases hx:h b (o+i * sz+j) with
  | none=>exact absurd hx (q j hj)
  | some v=>rfl
theorem aBM {h:PH} {sz n k:Nat} {f:Nat→List D} {y:Value} (e:D.own h (.sl sz n f) y) {A:Option Addr} {c:Nat} (hy:y = .slice A n c) (h1:n≤k) (h2:k≤c) (h3:k≤maxL):∃ junk:Nat→List Value,(∀ i,(junk i).length=sz)∧D.own h (.sl sz k (kY n f fun i=>(junk i).map D.v)) (.slice A k c):=by
 obtain ⟨A',c',row,hc,hp,G,e1,s1,va,lc,lp,d,s2,s3,s4⟩:=lV e
 rw [hy] at e1
 injection e1 with e5 e6 e7
 subst e5;subst e7
 obtain ⟨junk,j1,va'⟩:=VA_re va h1 h2
 refine ⟨junk,j1,lX (G:=fun i=>if i<n then G i else PH.emp) va' h3 lc lp d (fun i hi=>?_) (fun i hi=>?_) (fun i j hi hj hij=>?_)⟩
 ·by_cases c1:i<n
  ·rw [if_pos c1,jA c1,sS c1];exact (s2 i c1).1
  ·rw [if_neg c1,mU (by omega),vH (by omega)];exact jL
 ·split
  ·exact s3 i
  ·exact PH.emp_le _
 ·split
  ·split
   ·exact s4 i j hij
   ·exact PH.dj_emp _
  ·exact PH.emp_dj _
end
section
variable {E:Env} {B:BE} {mu mu':Mu} {w:World} {H:Nat→PH} {TT:List TI} {fr fr':Fr} {gf gf':GF} {a:Act} {all rest:List Oper} {Q:Exit→Act→World→Prop} {o:Oper} {J:Act→World→Prop} {G:AG} {R:Exit→Act→World→Prop} {K:List KF}
theorem VH (t k:Nat) {sz n:Nat} {f:Nat→List D} (hx:mlk t fr=some (.a (.g k))) (hg:glk t gf=none) (hk:mlk k mu=some (.arr sz n f)) (h:∀ cp,n≤cp→RJ E all Q rest ((t, .a (.gl k n cp)) :: fr) gf mu):RJ E all Q rest fr gf mu:=fun B a w H ff m=>by
 obtain ⟨cp,h1,f'⟩:=X1 t k hx hg hk ff m
 exact h cp h1 B a w H f' m
theorem aAD (t tg k:Nat) {n cp:Nat} (hx:mlk t fr=some (.a (.g k))) (hg:glk t gf=none) (hl1:mlk tg fr=some (.a (.gl k n cp))) (hl2:glk tg gf=none):kO E fr gf mu ((t, .a (.gl k n cp)) :: fr) gf mu:=fun B w H a ff m=>by
 have e1:a.tmps.getD t undef=B k∧eQ (a.tmps.getD t undef)=true:=ff.vfr t _ hx hg
 obtain ⟨e3,_,A,e4⟩:=(show a.tmps.getD tg undef=B k∧_∧∃ A,_=Value.slice A n cp from ff.vfr tg _ hl1 hl2)
 refine ⟨B,H,⟨ff.size,ff.defers,fun t' x e5 e6=>?_,ff.vgf,ff.vgu,fun t' d w x e5=>?_⟩,m⟩
 ·rw [bV] at e5
  by_cases h:t=t'
  ·subst h
   rw [if_pos rfl] at e5
   injection e5 with e5
   subst e5
   exact ⟨e1.1,e1.2,A,e1.1.trans (e3.symm.trans e4)⟩
  ·rw [if_neg h] at e5;exact ff.vfr t' x e5 e6
 ·rw [bV]
  have h1:=ff.vno t' d w x e5
  have h2:t≠t':=fun h=>by subst h;rw [hx] at h1;cases h1
  rw [if_neg h2];exact h1
theorem aAA (hT:TOk E.P TT) (k k' tg:Nat) {t0 ts n cp:Nat} {x:Operand} {hi:Option Operand} {i:Int} {f:Nat→List D} {id sz1 by1 e:Nat} {z:Value} {ef:Bool} {te:TI} {md:Mu} {fr':Fr} {gf2:GF}
  (hop:o.op = .slice ts x none hi none) (hx:ev [] fr gf x=some (.a (.gl k n cp))) (hl1:mlk tg fr=some (.a (.gl k n cp))) (hl2:glk tg gf=none) (h1:tlk ts TT=some ⟨id,sz1,by1, .slc e,z,ef⟩) (h2:tlk e TT=some te) (hk:mlk k mu=some (.arr te.sz n f)) (hbd:sN [] fr gf n hi=some i) (hgd:dD t0 gf=some gf')
  (hmd:d7 [k,k'] mu=some md) (hcut:iK [k] fr gf'=some (fr',gf2)) (hi1:(n:Int)≤i∧i≤cp∧i≤maxL)
  (kk:∀ junk:Nat→List Value,(∀ j,(junk j).length=te.sz)→SJ G J E ((t0, .a (.g k')) :: fr') gf2 ((k', .arr te.sz i.toNat (kY n f fun j=>(junk j).map D.v)) :: md)) (hkeys:iF [k] [k'] [(k, .arr te.sz n f)] fr gf mu E.A.ks G.ks=true:=by exact rfl) (hne:bF k' [k] = false:=by exact rfl)
  (hg:o.guard=none:=by exact rfl) (hd:o.dst=some t0:=by exact rfl) (ht:Nat.blt t0 E.N=true:=by exact rfl):OJ G E all Q J o fr gf mu:=by
 refine GY (ι:=Nat→List Value) (ks:=[k]) (nk:=[k']) (mu1:=[(k, .arr te.sz n f)]) (φ:=fun junk => ∀ j,(junk j).length=te.sz) (res:=fun _ => .a (.g k')) (mu1':=fun junk=>[(k', .arr te.sz i.toNat (kY n f fun j=>(junk j).map D.v))]) (fun B a w H ff mm=>?_) hg hd ht hgd (fun _=>rfl) hkeys (fun _=>?_) hmd hcut kk
 ·obtain ⟨d1,u2⟩:=wJ hT h1 h2
  obtain ⟨i0,i1,i2,_⟩:=u2.info
  have hgl:∀ d w,(d,w) ∈ ([]:Gd)→a.tmps.getD d undef = .bool w:=fun _ _ hm=>by cases hm
  have e1:a.eval x=B k:=(show _∧_∧_ from ff.ev (g:=[]) hgl hx).1
  have sk:D.own (H k) (.sl te.sz n f) (B k):=mm.mm.sat k _ hk
  obtain ⟨e3,_,A,e4⟩:=(show a.tmps.getD tg undef=B k∧_∧∃ A,_=Value.slice A n cp from ff.vfr tg _ hl1 hl2)
  have hB:B k = .slice A n cp:=e3.symm.trans e4
  obtain ⟨junk,j1,s'⟩:=aBM sk hB (k:=i.toNat) (by omega) (by omega) (by omega)
  have hb:=nJ (P:=E.P) (w:=w) (b:=true) (len:=n) (cap:=cp) (l:=0) (.inl ⟨rfl,rfl⟩) (tC ff hgl hbd) ⟨Int.le_refl _,by omega⟩ hi1.2.1
  have r:Ret1 E.P [k] B (nY E.r (bU [(k,Ch.arr te.sz n f)]) H) [(k, .arr te.sz n f)] w (gI (bU [(k,Ch.arr te.sz n f)]) H) (fun _:Unit=>True) (fun _ => .a (.g k')) (fun _=>[(k', .arr te.sz i.toNat (kY n f fun j=>(junk j).map D.v))]) () (.slice A i.toNat cp) w _ _:=Ret1.new (lP mm.mm) hne (mO mm _) (FP s') s' (mm.mm.fit k) (Keep.refl _ _) fun b o h => .inl ⟨k,by simp [bU,Ch.own?,bF,Nat.beq_refl],by rw [uH k (by simp [bU,Ch.own?,bF,Nat.beq_refl])];exact h⟩
  refine ⟨junk, .slice A i.toNat cp,w,_,_,?_,⟨j1,r.2,r.3,r.4,r.5,r.6⟩⟩
  obtain ⟨dst,op,type,pos,after,guard⟩:=o
  simp only at hop
  subst hop
  simp only [execOp,e1,hB,Option.map_none]
  refine eL ?_
  simp only [Instr.sliceAt,Instr.slice,Sem.run_bind,cH d1,Result.andThen_ok,Sem.run_pure,hb,kI i1,i2]
  cases A <;>simp [Addr.add]
 ·simp [SV.inK,V.inK,lR,Ch.own?,Ch.rowL,jP,fB,bF,Nat.beq_refl]
end
def cpD {α:Type} (lo m:Nat) (g f:Nat→α):Nat→α:=fun i=>if lo≤i∧i<lo+m then g (i - lo) else f i
section
variable {P:Program} {w:World}
theorem V5 {t tx ty:TypeId} {te:TI} (ht:P.underlying t=some (.slice te.id)) (hti:te.ok P) (hpos:0<te.sz) {h:PH} {b o n c:Nat} {f:Nat→List Value} (s:VA (some ⟨b,o,none⟩) n c te.sz f h) (hf:FitO h w)
  {lo dl dc:Nat} {sa:Addr} {sl sc m:Nat} (hm:m=Nat.min sl dl) (h0:0<m) (hlo:lo+dl≤n) {g:Nat→List Value} (hg:∀ i,i<m→(g i).length=te.sz∧∀ j,j<te.sz→∀ v,(g i)[j]? = some v→w.cell? (sa.add (i * te.sz+j))=some v) (h1:∀ i,i<m→∀ u ∈ g i,eQ u=true) :
  ∃ w' h',(Builtin.copy_ #[t,tx] ty #[.slice (some ⟨b,o+lo * te.sz,none⟩) dl dc, .slice (some sa) sl sc]).run P w = .ok (goInt m) w'∧VA (some ⟨b,o,none⟩) n c te.sz (cpD lo m g f) h'∧FitO h' w'∧Keep (fun b o=>h b o≠none) w w'∧∀ b o,h' b o≠none→h b o≠none:=by
 obtain ⟨i,i1,i2,i3,i4⟩:=hti.info
 obtain ⟨s0,s1,s2⟩:=s
 have hmd:m≤dl:=by rw [hm];exact Nat.min_le_right _ _
 have hlen:∀ i,i<m→(g i).length=te.sz:=fun i hi=>(hg i hi).1
 have hnl:=lG hlen
 have hin:∀ j,j<(fK g m).length→h b (o+lo * te.sz+j)≠none:=fun j hj=>by
  rw [hnl] at hj
  obtain ⟨q,p,c1,c2,rfl⟩:=qO hlen hpos hj
  obtain ⟨b',o',e,l1,l2⟩:=s1 (lo+q) (by omega)
  injection e with e
  injection e with e1 e2
  subst e1;subst e2
  have:=l2 p c2
  rw [Nat.add_mul,show o+(lo * te.sz+q * te.sz)+p=o+lo * te.sz+(q * te.sz+p) from by omega] at this
  rw [this,List.getElem?_eq_getElem (by omega)];simp
 have hfc:(Builtin.firstCells i.size m (.slice (some sa) sl sc)).run P w = .ok (fK g m).toArray w:=run_firstCells_some (P:=P) w i.size m sa sl sc (fK g m) (by rw [i2];exact hnl) fun k v hk=>by
  have hlt:k<m * te.sz:=by rw [← hnl];exact (List.getElem?_eq_some_iff.1 hk).1
  obtain ⟨q,p,c1,c2,rfl⟩:=qO hlen hpos hlt
  rw [l7 hlen c1 c2] at hk
  exact (hg q c1).2 p c2 v hk
 obtain ⟨w',r1,r2,r3,r4⟩:=oH (P:=P) (fK g m) w b (o+lo * te.sz) 0 h hf.fit (by simpa using hin) (D5 h1)
 simp only [Nat.add_zero] at r2 r3
 refine ⟨w',_,?_,⟨s0,fun k hk=>⟨b,o,rfl,?_⟩,fun k hk hk2=>?_⟩,hf.turn r2 r3 fun b' o' hb'=>⟨o',PH.updL_ne hin hb'⟩,r3.mono fun x _ y hxy=>?_,fun b' o' hb'=>PH.updL_ne hin hb'⟩
 ·simp only [Builtin.copy_,List.getElem?_toArray,List.getElem?_cons_zero,List.getElem?_cons_succ,Sem.run_bind,cH ht,Result.andThen_ok,Builtin.lenOf,Sem.run_pure,sizeOf,typeInfo,kI i1, ← hm,hfc,r1]
  simp [i1, ← hm,hfc,r1]
 ·obtain ⟨b',o',e,l1,l2⟩:=s1 k hk
  injection e with e
  injection e with e1 e2
  subst e1;subst e2
  unfold cpD
  by_cases c1:lo≤k∧k<lo+m
  ·rw [if_pos c1]
   refine ⟨hlen _ (by omega),fun j hj=>?_⟩
   have h2:k * te.sz=lo * te.sz+(k - lo) * te.sz:=by rw [← Nat.add_mul];congr 1;omega
   have h3:(k - lo+1) * te.sz≤m * te.sz:=Nat.mul_le_mul_right _ (by omega)
   rw [Nat.add_mul,Nat.one_mul] at h3
   rw [show o+k * te.sz+j=o+lo * te.sz+((k - lo) * te.sz+j) from by omega,PH.updL_in _ _ _ _ (by omega),l7 hlen (by omega) hj]
  ·rw [if_neg c1]
   refine ⟨l1,fun j hj=>?_⟩
   rw [PH.updL_out,l2 j hj]
   rintro ⟨_,q1,q2⟩
   rw [hnl] at q2
   apply c1
   have k1:lo≤k:=by
    rcases Nat.lt_or_ge k lo with h | h
    ·have:=Nat.mul_le_mul_right te.sz (show k+1≤lo from h)
     rw [Nat.add_mul,Nat.one_mul] at this;omega
    ·exact h
   have k2:k<lo+m:=by
    rcases Nat.lt_or_ge k (lo+m) with h | h
    ·exact h
    ·have:=Nat.mul_le_mul_right te.sz h
     rw [Nat.add_mul] at this;omega
   exact ⟨k1,k2⟩
 ·obtain ⟨b',o',e,l2⟩:=s2 k hk hk2
  injection e with e
  injection e with e1 e2
  subst e1;subst e2
  refine ⟨b,o,rfl,fun j hj e=>?_⟩
  rw [PH.updL_out] at e
  ·exact l2 j hj e
  ·rintro ⟨_,q1,q2⟩
   rw [hnl] at q2
   have h3:n * te.sz≤k * te.sz:=Nat.mul_le_mul_right _ hk
   have h4:(lo+m) * te.sz≤n * te.sz:=Nat.mul_le_mul_right _ (by omega)
   rw [Nat.add_mul] at h4
   omega
 ·obtain ⟨rfl,c1,c2⟩:=hxy
  have:=hin (y - (o+lo * te.sz)) (by omega)
  rwa [show o+lo * te.sz+(y - (o+lo * te.sz))=y from by omega] at this
theorem X2 {t tx ty:TypeId} {te:TI} (ht:P.underlying t=some (.slice te.id)) (hti:te.ok P) (hpos:0<te.sz) {h:PH} {n:Nat} {f:Nat→List D} {y:Value} (s:D.own h (.sl te.sz n f) y) (hf:FitO h w) {lo hi:Int} (b1:0≤lo) (b2:lo≤hi) (b3:hi≤n)
  {x:Value} {m:Nat} {g:Nat→List D} {hx:PH} (sx:D.rd hx (.sl te.sz m g) x) (fx:Fit hx w) (hone:∀ i,i<Nat.min m (hi - lo).toNat→∃ l,jR (g i)=some l) (h0:0<Nat.min m (hi - lo).toNat) :
  ∃ w' h',(Builtin.copy_ #[t,tx] ty #[sbV y te.sz lo.toNat (hi - lo).toNat,x]).run P w = .ok (goInt (Nat.min m (hi - lo).toNat)) w'∧D.own h' (.sl te.sz n (cpD lo.toNat (Nat.min m (hi - lo).toNat) g f)) y∧FitO h' w'∧Keep (fun b o=>h b o≠none) w w'∧∀ b o,h' b o≠none→h b o≠none:=by
 obtain ⟨A,c,row,hc,hp,G,rfl,s1,va,lc,lp,d,s2,s3,s4⟩:=lV s
 obtain ⟨A',c',rfl,_,_,hcells⟩:=(show ∃ A c,x = .slice A m c∧_∧_∧_ from sx)
 have hm1:Nat.min m (hi - lo).toNat≤m:=Nat.min_le_left _ _
 have hm2:Nat.min m (hi - lo).toNat≤(hi - lo).toNat:=Nat.min_le_right _ _
 obtain ⟨sb,so,rfl,hr⟩:=hcells.resolve_left (by omega)
 obtain ⟨b,o,rfl,_⟩:=va.2.1 lo.toNat (by omega)
 have hcl:¬ c=lo.toNat:=by have:=va.1;omega
 have hrow:∀ i,i<Nat.min m (hi - lo).toNat→g i=(rX g i).map D.v∧∀ u ∈ rX g i,eQ u=true:=fun i hi=>by
  obtain ⟨l,hl⟩:=hone i hi
  have:=AA hl
  unfold rX
  rw [hl];exact this
 have hg:∀ i,i<Nat.min m (hi - lo).toNat→(rX g i).length=te.sz∧∀ j,j<te.sz→hx sb (so+i * te.sz+j)=(rX g i)[j]? := fun i hi=>by
  obtain ⟨row,r1,r2,r3⟩:=hr i (by omega)
  rw [(hrow i hi).1] at r1
  rw [uQ r1] at r2 r3
  exact ⟨r2,r3⟩
 obtain ⟨w',h',r1,r2,r3,r4,r5⟩:=V5 (P:=P) (w:=w) (ty:=ty) (tx:=tx) ht hti hpos va (hf.le lc) (lo:=lo.toNat) (dl:=(hi - lo).toNat) (dc:=c - lo.toNat) (sa:=⟨sb,so,none⟩) (sl:=m) (sc:=c') (m:=Nat.min m (hi - lo).toNat) rfl h0 (by omega) (g:=rX g)
  (fun i hi=>⟨(hg i (by omega)).1,fun j hj v hv=>by
   rw [← (hg i (by omega)).2 j hj] at hv
   rw [jQ, ← Nat.add_assoc]
   exact (fx _ _ _ hv).1⟩) (fun i hi=>(hrow i (by omega)).2)
 have dh:h'.dj hp:=fun x y=>by
  rcases d x y with e | e
  ·left
   cases e2:h' x y with
   | none=>rfl
   | some v=>exact absurd e (r5 x y (by rw [e2];simp))
  ·exact .inr e
 have fp:FitO hp w':=(hf.le lp).keep r4 fun x y e h2=>by
  rcases d x y with h3 | h3
  ·exact h2 h3
  ·exact e h3
 refine ⟨w',h'.un hp,?_,lX (G:=fun i=>if lo.toNat≤i∧i<lo.toNat+Nat.min m (hi - lo).toNat then PH.emp else G i) r2 s1 (PH.le_un_left _ _) (PH.le_un_right dh) dh (fun i hi'=>?_) (fun i hi'=>?_) (fun i j _ _ hij=>?_),r3.un fp,r4.mono fun x _ y e=>le_ne lc e,fun x y e=>?_⟩
 ·rw [sbV,if_neg hcl]
  simp only [Option.map_some,jQ]
  exact r1
 ·unfold cpD
  by_cases c1:lo.toNat≤i∧i<lo.toNat+Nat.min m (hi - lo).toNat
  ·simp only [if_pos c1]
   rw [(hrow (i - lo.toNat) (by omega)).1];exact jL
  ·simp only [if_neg c1];exact (s2 i hi').1
 ·split
  ·exact PH.emp_le _
  ·exact s3 i
 ·split
  ·exact PH.emp_dj _
  ·split
   ·exact PH.dj_emp _
   ·exact s4 i j hij
 ·rcases PH.un_ne e with h2 | h2
  ·exact le_ne lc (r5 x y h2)
  ·exact le_ne lp h2
end
section
variable {E:Env} {B:BE} {mu mu':Mu} {w:World} {H:Nat→PH} {TT:List TI} {fr fr':Fr} {gf gf':GF} {a:Act} {all rest:List Oper} {Q:Exit→Act→World→Prop} {o:Oper} {J:Act→World→Prop} {G:AG} {R:Exit→Act→World→Prop} {K:List KF}
theorem sW (hT:TOk E.P TT) (k:Nat) {t0 ts tx:Nat} {s x:Operand} {n m:Nat} {lo hi:Int} {f g:Nat→List D} {id sz1 by1 e:Nat} {z:Value} {ef:Bool} {te:TI} {md:Mu} {fr':Fr} {gf2:GF} {vx:V} {q:Tg} {ob:Ob}
  (hop:o.op = .call { callee := .builtin .copy,args := #[s,x],argTypes := #[ts,tx] }) (h1:tlk ts TT=some ⟨id,sz1,by1, .slc e,z,ef⟩) (h2:tlk e TT=some te) (hs:ev [] fr gf s=some (.a (.sb k te.sz lo hi))) (hx:ev [] fr gf x=some (.a vx)) (hk:mlk k mu=some (.arr te.sz n f)) (hkx:slR mu vx=some (q,te.sz,m,g,ob)) (hgd:dD t0 gf=some gf')
  (hmd:d7 [k,k] mu=some md) (hcut:iK [k] fr gf'=some (fr',gf2)) (hb:0≤lo∧lo≤hi∧hi≤n∧0<Nat.min m (hi - lo).toNat) (hone:∀ i,i<Nat.min m (hi - lo).toNat→∃ l,jR (g i)=some l)
  (kk:SJ G J E ((t0, .a (.v (goInt (Nat.min m (hi - lo).toNat)))) :: fr') gf2 ((k, .arr te.sz n (cpD lo.toNat (Nat.min m (hi - lo).toNat) g f)) :: md)) (hpos:0<te.sz:=by exact Nat.lt_of_sub_eq_succ rfl) (hkeys:iF [k] [k] [(k, .arr te.sz n f)] fr gf mu E.A.ks G.ks=true:=by exact rfl) (hob:kU ob:=by repeat (first | exact trivial | refine And.intro rfl ?_))
  (hg:o.guard=none:=by exact rfl) (hd:o.dst=some t0:=by exact rfl) (ht:Nat.blt t0 E.N=true:=by exact rfl):OJ G E all Q J o fr gf mu:=by
 have kself:bU [(k,Ch.arr te.sz n f)] = [k]:=rfl
 refine GY (ι:=Unit) (ks:=[k]) (nk:=[k]) (mu1:=[(k, .arr te.sz n f)]) (φ:=fun _=>True) (res:=fun _ => .a (.v (goInt (Nat.min m (hi - lo).toNat)))) (mu1':=fun _=>[(k, .arr te.sz n (cpD lo.toNat (Nat.min m (hi - lo).toNat) g f))]) (fun B a w H ff mm=>?_) hg hd ht hgd (fun _=>rfl) hkeys (fun _=>?_) hmd hcut fun _ _=>kk
 ·obtain ⟨d1,u2⟩:=wJ hT h1 h2
  have hgl:∀ d w,(d,w) ∈ ([]:Gd)→a.tmps.getD d undef = .bool w:=fun _ _ hm=>by cases hm
  have e1:a.eval s=sbV (B k) te.sz lo.toNat (hi - lo).toNat:=(show _∧_ from ff.ev (g:=[]) hgl hs).1
  have sk:D.own (H k) (.sl te.sz n f) (B k):=mm.mm.sat k _ hk
  have hr:=vT mm.mr.ms hkx hob (show vx.rel B (Zf E.r H) (a.eval x) from ff.ev (g:=[]) hgl hx)
  obtain ⟨w',h',r1,r2,r3,r4,r5⟩:=X2 (P:=E.P) (w:=w) (ty:=o.type) (t:=ts) (tx:=tx) d1 u2 hpos sk (mm.mm.fit k) hb.1 hb.2.1 hb.2.2.1 hr (V6 mm q) hone hb.2.2.2
  have hon:gI (bU [(k,Ch.arr te.sz n f)]) H k=H k:=uH k (by simp [kself,bF,Nat.beq_refl]) H
  have r:Ret1 E.P [k] B (nY E.r (bU [(k,Ch.arr te.sz n f)]) H) [(k, .arr te.sz n f)] w (gI (bU [(k,Ch.arr te.sz n f)]) H) (fun _:Unit=>True) (fun _ => .a .any) (fun _=>[(k, .arr te.sz n (cpD lo.toNat (Nat.min m (hi - lo).toNat) g f))]) () (goInt (Nat.min m (hi - lo).toNat)) w' B _ :=
   Ret1.sameK (B:=B) (h':=h') (lP mm.mm) kself (mO mm _) r2 r3 (r4.mono fun b _ o h=>by rw [hon];exact h) fun b o h => .inl (by rw [hon];exact r5 b o h)
  refine ⟨(),goInt (Nat.min m (hi - lo).toNat),w',B,_,?_,⟨trivial,rfl,r.3,r.4,r.5,r.6⟩⟩
  obtain ⟨dst,op,type,pos,after,guard⟩:=o
  simp only at hop r1
  subst hop
  simp only [execOp,resolve,Sem.run_bind,Sem.run_pure,Result.andThen_ok,invoke,builtin,List.map_toArray,List.map_cons,List.map_nil,e1,r1]
 ·simp [SV.inK,V.inK,lR,Ch.own?,Ch.rowL,jP,fB,bF,Nat.beq_refl]
end
section
variable {P:Program} {w:World}
theorem aAa {t tn ty:TypeId} {te:TI} {kn:IntKind} (ht:P.underlying t=some (.slice te.id)) (htn:P.underlying tn=some (.int kn)) (hti:te.ok P) (hpos:0<te.sz) (hzs:te.zero.cells.size=te.sz) {h:PH} {A:Option Addr} {n c:Nat} {f:Nat→List Value} (s:VA A n c te.sz f h) (hf:Fit h w)
  {m:Nat} (h0:0<m) (hg:c<n+m) (hb:(n+m) * te.by_≤140737488355328) (hm:n+m≤maxL) :
  ∃ A' c' w' h',(Builtin.append_ #[t,tn] ty #[.slice A n c, .int .i64 m]).run P w = .ok (.slice A' (n+m) c') w'∧VA A' (n+m) c' te.sz (HA n f fun _=>te.zero.cells.toList) h'∧FitO h' w'∧Keep noD w w'∧∀ b o,h' b o≠none→w.heap.size≤b:=by
 obtain ⟨i,i1,i2,i3,i4⟩:=hti.info
 obtain ⟨s0,s1,s2⟩:=s
 have hlen:∀ i,i<n→(f i).length=te.sz:=fun i hi=>by obtain ⟨_,_,_,q,_⟩:=s1 i hi;exact q
 have hol:(fK f n).length=n * te.sz:=lG hlen
 have hold:(Builtin.firstCells i.size n (.slice A n c)).run P w.drew = .ok (fK f n).toArray w.drew:=by
  cases A with
  | none =>
   have h0:n=0:=by
    rcases Nat.eq_zero_or_pos n with h | h
    ·exact h
    ·obtain ⟨_,_,e,_⟩:=s1 0 h;cases e
   subst h0
   exact run_firstCells_none w.drew i.size 0 0 c
  | some ad =>
   refine run_firstCells_some (P:=P) w.drew i.size n ad n c (fK f n) (by rw [i2];exact hol) fun k v hk=>?_
   have hlt:k<n * te.sz:=by rw [← hol];exact (List.getElem?_eq_some_iff.1 hk).1
   obtain ⟨q,p,c1,c2,rfl⟩:=qO hlen hpos hlt
   obtain ⟨b,o,e,q1,q2⟩:=s1 _ c1
   injection e with e
   subst e
   have h1:=l7 hlen c1 c2
   rw [hk, ← q2 _ c2] at h1
   have h2:=(hf _ _ _ h1.symm).1
   rw [jQ, ← Nat.add_assoc]
   exact h2
 have hby:m * i.bytes≤(n+m) * i.bytes:=Nat.mul_le_mul_right _ (by omega)
 have hrun:=Lib.run_append_grow_zeros (P:=P) w t tn ty te.id i te.zero .i64 kn ht htn i1 i4 A n c (fK f n) hold m h0 (by rw [i2];exact hpos) hg (by unfold maxL at hm;omega) (by rw [i3] at hby ⊢;omega) (growslice_fits (by omega) (by rw [i3];exact hb))
 generalize hcc:grownCap w (n+m) c te.id=cc at hrun
 have hge:n+m≤cc:=by rw [← hcc];exact grownCap_ge _ _ _ _
 generalize hcs:((fK f n).toArray ++ Builtin.zeroCells te.zero.cells m ++ Builtin.zeroCells te.zero.cells (cc - (n+m)))=cs at hrun
 have hzl:(Builtin.zeroCells te.zero.cells m).size=m * te.sz:=by rw [size_zeroCells,hzs]
 have hsz:cs.size=cc * te.sz:=by
  rw [← hcs]
  simp only [Array.size_append,List.size_toArray,size_zeroCells,hzs,hol, ← Nat.add_mul]
  congr 1;omega
 have hfit:FitO (PH.row w.heap.size 0 cs.toList) (w.drew.alloc (.cells cs te.id)):=by
  have:=FitO.alloc w.drew cs.toList te.id
  simpa using this
 have hrow:∀ k,PH.row w.heap.size 0 cs.toList w.heap.size k=cs[k]? := fun k=>by
  have:=PH.row_at (b:=w.heap.size) (off:=0) (l:=cs.toList) k
  rw [Nat.zero_add] at this
  rw [this,Array.getElem?_toList]
 refine ⟨_,cc,_,_,hrun,⟨hge,fun k hk=>⟨w.heap.size,0,rfl,?_⟩,fun k hk hk2=>⟨w.heap.size,0,rfl,fun j hj=>?_⟩⟩,hfit,?_,fun b o hb=>by rw [PH.row_ne hb];exact Nat.le_refl _⟩
 ·have hcsk:∀ q,q<(n+m) * te.sz→cs[q]? = ((fK f n) ++ (Builtin.zeroCells te.zero.cells m).toList)[q]? := fun q hq=>by
   rw [← hcs,Array.getElem?_append_left (by simp only [Array.size_append,List.size_toArray,hol,hzl, ← Nat.add_mul];exact hq), ← Array.getElem?_toList]
   simp
  have hkq:∀ j,j<te.sz→k * te.sz+j<(n+m) * te.sz:=fun j hj=>by
   have h1:(k+1) * te.sz≤(n+m) * te.sz:=Nat.mul_le_mul_right _ hk
   rw [Nat.add_mul,Nat.one_mul] at h1
   omega
  by_cases hkn:k<n
  ·rw [sS hkn]
   refine ⟨hlen k hkn,fun j hj=>?_⟩
   have h1:(k+1) * te.sz≤n * te.sz:=Nat.mul_le_mul_right _ hkn
   rw [Nat.add_mul,Nat.one_mul] at h1
   rw [Nat.zero_add,hrow,hcsk _ (hkq j hj),List.getElem?_append_left (by omega),l7 hlen hkn hj]
  ·rw [vH (by omega)]
   refine ⟨by rw [Array.length_toList,hzs],fun j hj=>?_⟩
   have h2:k * te.sz=n * te.sz+(k - n) * te.sz:=by rw [← Nat.add_mul];congr 1;omega
   have h3:=CY (z:=te.zero.cells) (n:=m) (i:=k - n) (j:=j) (by omega) (by rw [hzs];exact hj)
   rw [hzs] at h3
   rw [Nat.zero_add,hrow,hcsk _ (hkq j hj),List.getElem?_append_right (by omega),hol,show k * te.sz+j - n * te.sz=(k - n) * te.sz+j from by omega,h3]
 ·have h1:(k+1) * te.sz≤cc * te.sz:=Nat.mul_le_mul_right _ hk2
  rw [Nat.add_mul,Nat.one_mul] at h1
  rw [Nat.zero_add,hrow,Array.getElem?_eq_getElem (by omega)];simp
 ·exact ((Keep.drew w).mono fun _ _ _ h=>h.elim).trans (Keep.alloc w.drew _) fun _ _ h=>h.elim
theorem aBW {A:Option Addr} {n c sz i:Nat} {f:Nat→List Value} {h:PH} (va:VA A n c sz f h) (hi:i≤n):VA A i c sz f h :=
 ⟨by have:=va.1;omega,fun k hk=>va.2.1 k (by omega),fun k hk hk2=>by
  by_cases c1:k<n
  ·obtain ⟨b,o,e,l1,l2⟩:=va.2.1 k c1
   refine ⟨b,o,e,fun j hj=>?_⟩
   rw [l2 j hj,List.getElem?_eq_getElem (by omega)];simp
  ·exact va.2.2 k (by omega) hk2⟩
end
section
variable {E:Env} {B:BE} {mu mu':Mu} {w:World} {H:Nat→PH} {TT:List TI} {fr fr':Fr} {gf gf':GF} {a:Act} {all rest:List Oper} {Q:Exit→Act→World→Prop} {o:Oper} {J:Act→World→Prop} {G:AG} {R:Exit→Act→World→Prop} {K:List KF}
theorem TD (hT:TOk E.P TT) (k k' tg:Nat) {t0 ts tn n cp:Nat} {s x:Operand} {i m:Int} {f:Nat→List D} {id sz1 by1 e:Nat} {z:Value} {ef:Bool} {te tni:TI} {md:Mu}
  (hop:o.op = .call { callee := .builtin .append,args := #[s,x],argTypes := #[ts,tn] }) (hs:ev [] fr gf s=some (.a (.sb k te.sz 0 i))) (hx:ev [] fr gf x=some (.a (.v (.int .i64 m)))) (hl1:mlk tg fr=some (.a (.gl k n cp))) (hl2:glk tg gf=none) (h1:tlk ts TT=some ⟨id,sz1,by1, .slc e,z,ef⟩) (h2:tlk e TT=some te) (h3:tlk tn TT=some tni) (h4:tni.kind = .it .i64) (hk:mlk k mu=some (.arr te.sz n f)) (hgd:dD t0 gf=some gf')
  (hmd:d7 [k'] mu=some md) (hi1:0≤i∧i≤n∧0<m∧(cp:Int)<i+m) (hb:(i.toNat+m.toNat) * te.by_≤140737488355328∧i.toNat+m.toNat≤maxL) (hone:∀ j,j<n→∃ l,jR (f j)=some l)
  (kk:SJ G J E ((t0, .a (.g k')) :: fr) gf' ((k', .arr te.sz (i.toNat+m.toNat) (kY i.toNat f fun _=>zsD te.zero)) :: md)) (hz:(kH te.zero).map (·.length)=some te.sz:=by exact rfl) (hpos:0<te.sz:=by exact Nat.lt_of_sub_eq_succ rfl) (hkeys:iF [] [k'] [] fr gf mu E.A.ks G.ks=true:=by exact rfl)
  (hg:o.guard=none:=by exact rfl) (hd:o.dst=some t0:=by exact rfl) (ht:Nat.blt t0 E.N=true:=by exact rfl):OJ G E all Q J o fr gf mu:=by
 refine GY (ι:=Unit) (ks:=[]) (nk:=[k']) (mu1:=[]) (φ:=fun _=>True) (res:=fun _ => .a (.g k')) (mu1':=fun _=>[(k', .arr te.sz (i.toNat+m.toNat) (kY i.toNat f fun _=>zsD te.zero))]) (fun B a w H ff mm=>?_) hg hd ht hgd (fun _=>rfl) hkeys (fun _=>?_) hmd rfl fun _ _=>kk
 ·obtain ⟨d1,u2⟩:=wJ hT h1 h2
  obtain ⟨v1,v2⟩:=hT.get h3
  obtain ⟨dx,dx1,dx2⟩:=v2.desc
  rw [h4] at dx2
  obtain rfl:=oO dx2
  rw [v1] at dx1
  have hgl:∀ d w,(d,w) ∈ ([]:Gd)→a.tmps.getD d undef = .bool w:=fun _ _ hm=>by cases hm
  have e1:a.eval s=sbV (B k) te.sz 0 (i - 0).toNat:=(show _∧_ from ff.ev (g:=[]) hgl hs).1
  have e2:a.eval x = .int .i64 m:=ff.ev (g:=[]) hgl hx
  have sk:D.own (H k) (.sl te.sz n f) (B k):=mm.mm.sat k _ hk
  obtain ⟨e3,_,A0,e4⟩:=(show a.tmps.getD tg undef=B k∧_∧∃ A,_=Value.slice A n cp from ff.vfr tg _ hl1 hl2)
  have hB:B k = .slice A0 n cp:=e3.symm.trans e4
  obtain ⟨A,c,row,hc,hp,G',e5,s1,va,lc,lp,d,s2,s3,s4⟩:=lV sk
  rw [hB] at e5
  injection e5 with e6 e7 e8
  subst e6;subst e8
  have hev:sbV (B k) te.sz 0 (i - 0).toNat = .slice A0 i.toNat cp:=by
   rw [hB,sbV]
   have:(i - 0).toNat=i.toNat:=by omega
   rw [this]
   cases A0 <;>simp [Addr.add]
  have hm:Value.int .i64 m = .int .i64 (m.toNat:Int):=by congr 1;omega
  obtain ⟨A',c',w',h',r1,r2,r3,r4,r5⟩:=aAa (P:=E.P) (w:=w) (ty:=o.type) d1 dx1 u2 hpos (AY hz) (aBW va (i:=i.toNat) (by omega)) ((mm.mm.fit k).fit.le lc) (m:=m.toNat) (by omega) (by omega) hb.1 hb.2
  have s':D.own h' (.sl te.sz (i.toNat+m.toNat) (kY i.toNat f fun _=>zsD te.zero)) (.slice A' (i.toNat+m.toNat) c'):=lX (hp:=PH.emp) (G:=fun _=>PH.emp) r2 hb.2 (PH.le_refl _) (PH.emp_le _) (PH.dj_emp _) (fun j hj=>by
   by_cases c1:j<i.toNat
   ·rw [jA c1,sS c1]
    obtain ⟨l,hl⟩:=hone j (by omega)
    have hfl:=(AA hl).1
    have h6:=(s2 j (by omega)).1
    rw [hfl] at h6 ⊢
    rw [uQ (D.owns_rds _ h6)]
    exact jL
   ·rw [mU (by omega),vH (by omega)];exact jL) (fun _ _=>PH.emp_le _) (fun _ _ _ _ _=>PH.emp_dj _)
  refine ⟨(), .slice A' (i.toNat+m.toNat) c',w',_,_,?_,Ret1.new (lP mm.mm) rfl (mO mm _) rfl s' r3 (r4.mono fun _ _ _ h=>h.elim) fun b o h => .inr (r5 b o h)⟩
  obtain ⟨dst,op,type,pos,after,guard⟩:=o
  simp only at hop r1
  subst hop
  simp only [execOp,resolve,Sem.run_bind,Sem.run_pure,Result.andThen_ok,invoke,builtin,List.map_toArray,List.map_cons,List.map_nil,e1,e2,hev,hm,r1]
 ·simp [SV.inK,V.inK,lR,Ch.own?,Ch.rowL,jP,fB,bF,Nat.beq_refl]
end
theorem IB {w:World} {b o:Nat} {v:Value} (h:w.cell? ⟨b,o,none⟩=some v):∃ c T fr,w.heap[b]? = some (.cells c T fr)∧o<c.size∧w.shape? b=some (T,c.size):=by
 unfold World.cell? at h
 cases e:w.heap[b]? with
 | none=>simp [e] at h
 | some x =>
  cases x with
  | cells c T fr =>
   simp [e] at h
   exact ⟨c,T,fr,rfl,(Array.getElem?_eq_some_iff.1 h).1,by simp [World.shape?,e]⟩
  | _=>simp [e] at h
theorem GT {P:Program} {w:World} {tS tR e:TypeId} (ht:P.underlying tS=some (.slice e)) {size:Nat} (hz:∀ w,(Go.sizeOf e).run P w = .ok size w) {h1 h2:PH} (f1:FitO h1 w) (f2:FitO h2 w) (d:h1.dj h2) {b1 o1 b2 o2 la ca lb cb:Nat} (hpos:0<size) (l1:0<la) (l2:0<lb)
  (c1:∀ j,j<la * size→h1 b1 (o1+j)≠none) (c2:∀ j,j<lb * size→h2 b2 (o2+j)≠none) :
  (Extern.SlicesOverlaps.overlaps #[tS,tS] #[tR] #[.slice (some ⟨b1,o1,none⟩) la ca, .slice (some ⟨b2,o2,none⟩) lb cb]).run P w = .ok (.bool false) w:=by
 have p1:0<la * size:=Nat.mul_pos l1 hpos
 have p2:0<lb * size:=Nat.mul_pos l2 hpos
 have cell:∀ {h:PH} (f:FitO h w) {b o:Nat},h b o≠none→∃ v,w.cell? ⟨b,o,none⟩=some v∧w.frozen? ⟨b,o,none⟩=false:=fun {h} f {b o} e=>by
  cases x:h b o with
  | none=>exact absurd x e
  | some v=>exact ⟨v,f.fit b o v x⟩
 have q1:h1 b1 o1≠none:=by simpa using c1 0 p1
 have q2:h2 b2 o2≠none:=by simpa using c2 0 p2
 obtain ⟨v1,u1,z1⟩:=cell f1 q1
 obtain ⟨v2,u2,z2⟩:=cell f2 q2
 obtain ⟨cA,TA,frA,s1,s2,s3⟩:=IB u1
 obtain ⟨cB,TB,frB,t1,t2,t3⟩:=IB u2
 by_cases hne:b1=b2
 ·subst hne
  have hno:¬ (o1<o2+lb * size∧o2<o1+la * size):=fun ⟨g1,g2⟩=>by
   rcases Nat.le_total o1 o2 with h | h
   ·have k1:=c1 (o2 - o1) (by omega)
    rw [show o1+(o2 - o1)=o2 from by omega] at k1
    exact (d b1 o2).elim k1 q2
   ·have k1:=c2 (o1 - o2) (by omega)
    rw [show o2+(o1 - o2)=o1 from by omega] at k1
    exact (d b1 o1).elim q1 k1
  have h0:¬ (la=0∨lb=0∨size=0):=by omega
  change Sem.run P (α:=Value) (do
   let some t:=(#[tS,tS]:Array TypeId)[0]? | stuck "slices.overlaps: no parameter types"
   let .slice elem ← underlying t | stuck "slices.overlaps: slice type expected"
   let size ← sizeOf elem
   match (some ⟨b1,o1,none⟩:Option Addr),(some ⟨b1,o2,none⟩:Option Addr) with
   | some a,some b =>
    if la=0∨lb=0∨size=0 then pure (Value.bool false)
    else if a.block != b.block && (← frozen a) && (← frozen b) then unsupported .addressObserved
    else do
     if a.block != b.block then do
      noView a;noView b
      if ← mayBeOne a b then return Value.bool ((← choose (.extern "sameAddr.stringBytes" 2)) == 1)
     pure (Value.bool (a.block == b.block && a.off<b.off+lb * size && b.off<a.off+la * size))
   | _,_=>pure (Value.bool false)) w=_
  have hb:(decide (o1<o2+lb * size) && decide (o2<o1+la * size))=false:=by
   rw [Bool.and_eq_false_iff]
   by_cases g1:o1<o2+lb * size
   ·right;exact decide_eq_false fun g2=>hno ⟨g1,g2⟩
   ·left;exact decide_eq_false g1
  simp [cH ht,hz,h0,frozen,Sem.run]
  simpa using hb
 ·exact Lib.run_overlaps_apart w tS tR e ht size hz ⟨b1,o1,none⟩ ⟨b2,o2,none⟩ la ca lb cb hne TA TB cA.size cB.size s3 t3 (by omega) z1 (f1.ends b1 o1 q1 cA TA frA s1)
section
variable {E:Env} {B:BE} {mu mu':Mu} {w:World} {H:Nat→PH} {TT:List TI} {fr fr':Fr} {gf gf':GF} {a:Act} {all rest:List Oper} {Q:Exit→Act→World→Prop} {o:Oper} {J:Act→World→Prop} {G:AG} {R:Exit→Act→World→Prop} {K:List KF}
theorem M0 {h:PH} {sz n:Nat} {f:Nat→List D} {y:Value} (e:D.own h (.sl sz n f) y) {lo hi:Int} (h1:0≤lo) (h2:lo<hi) (h3:hi≤n) (hpos:0<sz):∃ b o c,sbV y sz lo.toNat (hi - lo).toNat = .slice (some ⟨b,o,none⟩) (hi - lo).toNat c∧∀ j,j<(hi - lo).toNat * sz→h b (o+j)≠none:=by
 obtain ⟨A,c,row,hc,hp,G,rfl,s1,va,lc,lp,d,s2,s3,s4⟩:=lV e
 obtain ⟨b,o,rfl,_⟩:=va.2.1 lo.toNat (by omega)
 have hcl:¬ c=lo.toNat:=by have:=va.1;omega
 refine ⟨b,o+lo.toNat * sz,c - lo.toNat,by rw [sbV,if_neg hcl];simp only [Option.map_some,jQ],fun j hj=>?_⟩
 obtain ⟨q,p,c1,c2,rfl⟩:∃ q p,q<(hi - lo).toNat∧p<sz∧j=q * sz+p:=⟨j / sz,j % sz,Nat.div_lt_of_lt_mul (by rwa [Nat.mul_comm]),Nat.mod_lt _ hpos,by rw [Nat.mul_comm];exact (Nat.div_add_mod j sz).symm⟩
 obtain ⟨b',o',e,l1,l2⟩:=va.2.1 (lo.toNat+q) (by omega)
 injection e with e
 injection e with e1 e2
 subst e1;subst e2
 have:=l2 p c2
 rw [Nat.add_mul,show o+(lo.toNat * sz+q * sz)+p=o+lo.toNat * sz+(q * sz+p) from by omega] at this
 refine le_ne lc ?_
 rw [this,List.getElem?_eq_getElem (by omega)];simp
theorem aAy (hT:TOk E.P TT) (k kb:Nat) {t0 ts tr fi:Nat} {fn:Func} {ats:Array TypeId} {s x:Operand} {n m:Nat} {lo hi:Int} {f g:Nat→List D} {id sz1 by1 e:Nat} {z:Value} {ef:Bool} {te:TI}
  (hop:o.op = .call { callee := .value (.func fi),args := #[s,x],argTypes:=ats }) (hf:E.P.funcs[fi]? = some fn) (hs:ev [] fr gf s=some (.a (.g kb))) (hx:ev [] fr gf x=some (.a (.sb k te.sz lo hi))) (h1:tlk ts TT=some ⟨id,sz1,by1, .slc e,z,ef⟩) (h2:tlk e TT=some te) (hk:mlk k mu=some (.arr te.sz n f)) (hkb:mlk kb mu=some (.arr te.sz m g)) (hgd:dD t0 gf=some gf')
  (hi1:0≤lo∧lo<hi∧hi≤n∧0<m)
  (kk:SJ G J E ((t0,vB false) :: fr) gf' mu) (hname:(fn.name == "runtime.NumGoroutine")=false:=by kernel_rfl) (hb:fn.body.isNone=true:=by kernel_rfl) (hn:Extern.findNext fn=none:=by kernel_rfl) (he:Extern.find fn=some (Extern.SlicesOverlaps.overlaps #[ts,ts] #[tr]):=by kernel_rfl) (hpos:0<te.sz:=by exact Nat.lt_of_sub_eq_succ rfl) (hne:Nat.beq kb k=false:=by exact rfl)
  (hg:o.guard=none:=by exact rfl) (hd:o.dst=some t0:=by exact rfl) (ht:Nat.blt t0 E.N=true:=by exact rfl):OJ G E all Q J o fr gf mu:=fun B a w H ff mm gg=>by
 obtain ⟨d1,u2⟩:=wJ hT h1 h2
 obtain ⟨i0,i1,i2,_⟩:=u2.info
 have hgl:∀ d w,(d,w) ∈ ([]:Gd)→a.tmps.getD d undef = .bool w:=fun _ _ hm=>by cases hm
 have e1:a.eval s=B kb:=(show _∧_ from ff.ev (g:=[]) hgl hs).1
 have e2:a.eval x=sbV (B k) te.sz lo.toNat (hi - lo).toNat:=(show _∧_ from ff.ev (g:=[]) hgl hx).1
 obtain ⟨b2,o2,c2,q1,q2⟩:=M0 (show D.own (H k) (.sl te.sz n f) (B k) from mm.mm.sat k _ hk) hi1.1 hi1.2.1 hi1.2.2.1 hpos
 obtain ⟨b1,o1,c1,p1,p2⟩:=M0 (lo:=0) (hi:=(m:Int)) (show D.own (H kb) (.sl te.sz m g) (B kb) from mm.mm.sat kb _ hkb) (Int.le_refl _) (by omega) (Int.le_refl _) hpos
 obtain ⟨A,cA,hB,_⟩:=wU (show D.own (H kb) (.sl te.sz m g) (B kb) from mm.mm.sat kb _ hkb)
 have hB2:∃ cc,B kb = .slice (some ⟨b1,o1,none⟩) ((m:Int) - 0).toNat cc:=by
  rw [hB,sbV] at p1
  rw [hB]
  injection p1 with p3 p4 p5
  refine ⟨cA,?_⟩
  have hm:((m:Int) - 0).toNat=m:=by omega
  rw [hm]
  congr 1
  rw [← p3]
  cases A <;>simp [Addr.add]
 obtain ⟨cc,hB2⟩:=hB2
 have hrun:=GT (P:=E.P) (w:=w) (tR:=tr) (size:=te.sz) d1 (fun w=>by rw [kI i1,i2]) (mm.mm.fit kb) (mm.mm.fit k) (mm.mm.dj kb k (j5 hne)) (ca:=cc) (cb:=c2) hpos (la:=((m:Int) - 0).toNat) (by omega) (lb:=(hi - lo).toNat) (by omega) p2 q2
 have r1:(execOp a.eval o).run E.P w = .ok (.value (.bool false)) w:=by
  obtain ⟨dst,op,type,pos,after,guard⟩:=o
  simp only at hop
  subst hop
  have ha:(#[s,x]:Array Operand).map a.eval = #[a.eval s,a.eval x]:=by simp
  have hfv:a.eval (.func fi) = .func (.func fi) #[] #[]:=rfl
  simp only [execOp,resolve,hfv,Deferred.ofValue,Sem.run_bind,Sem.run_pure,Result.andThen_ok,invoke,ha,e1,e2,hB2,q1,Array.empty_append,Array.append_empty]
  rw [run_callFunc_extern hf hname hb hn he,hrun]
  rfl
 refine qZ (fM hg) r1 ?_
 rw [hd]
 exact kk B _ w H (Fits.put ff (by simpa [Nat.blt_eq] using ht) (show SV.rel _ _ _ (.a (.v _)) _ from rfl) hgd) mm gg
end
end
section
section
theorem KR (xs:List GSet) (hl:xs.length≤1048576) (p:GSet→Bool):Ans Tryz.prog 212 [] [vL 5 cP aCm xs,fbO (fun x=>[RD.ag (cP x)]) fun x => .bool (p x)] [] (vI (cI p xs)):=by
 refine aE Tryz.func212 fun B0 r_ D_ w0=>?_
 refine aF ?_
 refine aK (ι:=Nat) (fun i=>[(8,vI i)]) (fun _=>[]) (fun i=>i≤xs.length∧∀ j,j<i→p (xs.getD j aCm)=false) (fun i=>xs.length - i) 0 [] [] ⟨Nat.zero_le _,fun j hj=>absurd hj (Nat.not_lt_zero _)⟩ ?_
 intro i ⟨h1,h2⟩
 refine aF ?_
 refine aI (fun e=>?_) (fun e=>?_)
 ·have hi:i<xs.length:=by omega
  refine aF ?_
  refine vE rfl rfl rfl ⟨xs.getD i aCm,rfl,rfl⟩ ?_
  refine aN ?_
  refine aA (fun e2=>?_) (fun e2=>?_)
  ·refine aF ?_
   exact aJ [(4,none)] ((gA hi h2 e2).symm)
  ·refine aF ?_
   exact aL (i+1) ⟨hi,b5 h2 e2⟩ (by omega)
 ·refine aF ?_
  exact dK TT_ok [(4,none)] rfl rfl ((gT fun j hj=>h2 j (by omega)).symm)
theorem IQ (xs:List GSet) (hl:xs.length≤1048576) (p:GSet→Bool):Con Tryz.prog 151 [900] [.a (.g 900),fbO (fun x=>[RD.ag (cP x)]) fun x => .bool (p x)] [(900,bE 5 cP aCm xs)] (fun _:Unit=>True) (fun _=>[.a (.g 901)]) fun _=>[(901,bE 5 cP aCm (xs.filter fun x => !p x))]:=by
 refine aE Tryz.func151 fun B0 r_ D_ w0=>?_
 refine aF ?_
 refine aH (KR xs hl p) ?_
 rcases gH p aCm xs with ⟨h1,h2⟩ | ⟨i0,h1,h2,h3,h4⟩
 ·refine aQ (fun _=>?_) (fun e=>absurd h1 e)
  refine aF ?_
  refine bB (FC 4 900 901 rfl rfl rfl rfl rfl rfl) ?_
  refine aC (()) [(4,none)] ?_ ?_ ?_
  ·exact aCu _
  ·exact ⟨⟨_,rfl,bP (v6 h2)⟩,trivial⟩
  ·trivial
 rw [h2]
 refine s6 rfl (fun e=>by omega) (fun _=>?_)
 refine aF ?_
 refine cY (ι:=Nat×(Nat→GSet)) (fun y=>[(6,vI y.1),(5,vI ((xs.take y.1).filter fun x => !p x).length)]) (fun y=>[(900, .arr 5 xs.length fun k=>cP (y.2 k))])
  (fun y=>i0<y.1∧y.1≤xs.length∧(∀ k,k<((xs.take y.1).filter fun x => !p x).length→y.2 k=((xs.take y.1).filter fun x => !p x).getD k aCm)∧∀ k,y.1≤k→k<xs.length→y.2 k=xs.getD k aCm)
  (fun y=>xs.length - y.1) (i0+1,fun k=>xs.getD k aCm) [900] [] rfl rfl ⟨Nat.lt_succ_self _,h1,?_,fun _ _ _=>rfl⟩ ?_ wM ?_
 ·intro k hk
  rw [tD h1 h3 h4] at hk ⊢
  exact (m5 hk).symm
 ·refine And.intro ⟨_,rfl,aCw ?_⟩ (And.intro ⟨_,rfl,aCw ?_⟩ trivial)
  ·simp
  ·rw [tD h1 h3 h4];simp;omega
 rintro ⟨j,h⟩ ⟨g1,g2,g3,g4⟩
 dsimp only at g1 g2 g3 g4 ⊢
 have hle:=mE xs (fun x => !p x) j
 refine aF ?_
 refine aI (fun e=>?_) (fun e=>?_)
 ·have hj:j<xs.length:=by omega
  refine aF ?_
  refine vE rfl rfl rfl ⟨h j,rfl,rfl⟩ ?_
  refine aN ?_
  refine eF rfl (fun e2=>?_) (fun e2=>?_)
  ·have hF:=jM (z:=aCm) hj (p:=fun x => !p x) (by rw [← g4 j (Nat.le_refl _) hj,e2];rfl)
   refine aF ?_
   refine bN (j+1,fun k=>if k=((xs.take j).filter fun x => !p x).length then h j else h k) ⟨by omega,hj,fun k hk=>?_,fun k k1 k2=>?_⟩ (by show xs.length - (j+1)<xs.length - j;omega) ?_ ⟨⟨_,rfl,Ch.imp_arr fun k hk=>?_⟩,wM⟩
   ·dsimp only at hk ⊢
    rw [hF,List.length_append,List.length_singleton] at hk
    rw [hF]
    by_cases c:k=((xs.take j).filter fun x => !p x).length
    ·rw [if_pos c,c,rS,g4 j (Nat.le_refl _) hj]
    ·rw [if_neg c,rM (by omega)];exact g3 k (by omega)
   ·dsimp only at k1 ⊢
    rw [if_neg (by omega)];exact g4 k (by omega) k2
   ·refine And.intro ⟨_,rfl,aCw ?_⟩ (And.intro ⟨_,rfl,aCw ?_⟩ wF)
    ·simp
    ·dsimp only;rw [hF];simp
   ·dsimp only
    by_cases c:k=((xs.take j).filter fun x => !p x).length
    ·subst c
     simp only [Int.toNat_natCast,Nat.beq_refl,cond_true,if_true]
     rfl
    ·rw [if_neg c]
     have:Nat.beq k (((xs.take j).filter fun x => !p x).length:Int).toNat=false:=by
      simp only [Int.toNat_natCast]
      cases e:Nat.beq k ((xs.take j).filter fun x => !p x).length with
      | false=>rfl
      | true=>exact absurd (Nat.eq_of_beq_eq_true e) c
     rw [this];rfl
  ·have hF:=j4 (z:=aCm) hj (p:=fun x => !p x) (by rw [← g4 j (Nat.le_refl _) hj,e2];rfl)
   refine aF ?_
   refine bN (j+1,h) ⟨by omega,hj,fun k hk=>?_,fun k k1 k2=>g4 k (by dsimp only at k1;omega) k2⟩ (by show xs.length - (j+1)<xs.length - j;omega) ?_ wM
   ·dsimp only at hk ⊢
    rw [← hF] at hk ⊢;exact g3 k hk
   ·refine And.intro ⟨_,rfl,aCw ?_⟩ (And.intro ⟨_,rfl,aCw ?_⟩ wF)
    ·simp
    ·dsimp only;rw [← hF]
 ·have hj:j=xs.length:=by omega
  subst hj
  rw [List.take_length] at g3 hle ⊢
  refine aF ?_
  refine B7 TT_ok 38 900 rfl rfl rfl rfl rfl rfl ⟨by omega,by omega,by omega⟩ rfl rfl rfl rfl ?_
  refine aN ?_
  refine bB (FS 4 900 901 rfl rfl rfl ⟨by omega,by omega,by omega⟩ rfl rfl rfl) ?_
  refine aC (()) [(4,none)] ?_ ?_ ?_
  ·exact aCu _
  ·refine ⟨⟨_,rfl,Ch.imp_len (by omega) fun k hk=>?_⟩,trivial⟩
   dsimp only
   rw [if_neg (by omega),g3 _ (by omega)]
   congr 2;omega
  ·trivial
theorem IL (xs:List GNote) (hl:xs.length≤1048576) (p:GNote→Bool):Ans Tryz.prog 211 [] [vL 5 cT aCn xs,fbO (fun x=>[RD.ag (cT x)]) fun x => .bool (p x)] [] (vI (cI p xs)):=by
 refine aE Tryz.func211 fun B0 r_ D_ w0=>?_
 refine aF ?_
 refine aK (ι:=Nat) (fun i=>[(8,vI i)]) (fun _=>[]) (fun i=>i≤xs.length∧∀ j,j<i→p (xs.getD j aCn)=false) (fun i=>xs.length - i) 0 [] [] ⟨Nat.zero_le _,fun j hj=>absurd hj (Nat.not_lt_zero _)⟩ ?_
 intro i ⟨h1,h2⟩
 refine aF ?_
 refine aI (fun e=>?_) (fun e=>?_)
 ·have hi:i<xs.length:=by omega
  refine aF ?_
  refine vE rfl rfl rfl ⟨xs.getD i aCn,rfl,rfl⟩ ?_
  refine aN ?_
  refine aA (fun e2=>?_) (fun e2=>?_)
  ·refine aF ?_
   exact aJ [(4,none)] ((gA hi h2 e2).symm)
  ·refine aF ?_
   exact aL (i+1) ⟨hi,b5 h2 e2⟩ (by omega)
 ·refine aF ?_
  exact dK TT_ok [(4,none)] rfl rfl ((gT fun j hj=>h2 j (by omega)).symm)
theorem HB (xs:List GNote) (hl:xs.length≤1048576) (p:GNote→Bool):Con Tryz.prog 220 [900] [.a (.g 900),fbO (fun x=>[RD.ag (cT x)]) fun x => .bool (p x)] [(900,bE 5 cT aCn xs)] (fun _:Unit=>True) (fun _=>[.a (.g 901)]) fun _=>[(901,bE 5 cT aCn (xs.filter fun x => !p x))]:=by
 refine aE Tryz.func220 fun B0 r_ D_ w0=>?_
 refine aF ?_
 refine aH (IL xs hl p) ?_
 rcases gH p aCn xs with ⟨h1,h2⟩ | ⟨i0,h1,h2,h3,h4⟩
 ·refine aQ (fun _=>?_) (fun e=>absurd h1 e)
  refine aF ?_
  refine bB (FC 4 900 901 rfl rfl rfl rfl rfl rfl) ?_
  refine aC (()) [(4,none)] ?_ ?_ ?_
  ·exact aCu _
  ·exact ⟨⟨_,rfl,bP (v6 h2)⟩,trivial⟩
  ·trivial
 rw [h2]
 refine s6 rfl (fun e=>by omega) (fun _=>?_)
 refine aF ?_
 refine cY (ι:=Nat×(Nat→GNote)) (fun y=>[(6,vI y.1),(5,vI ((xs.take y.1).filter fun x => !p x).length)]) (fun y=>[(900, .arr 5 xs.length fun k=>cT (y.2 k))])
  (fun y=>i0<y.1∧y.1≤xs.length∧(∀ k,k<((xs.take y.1).filter fun x => !p x).length→y.2 k=((xs.take y.1).filter fun x => !p x).getD k aCn)∧∀ k,y.1≤k→k<xs.length→y.2 k=xs.getD k aCn)
  (fun y=>xs.length - y.1) (i0+1,fun k=>xs.getD k aCn) [900] [] rfl rfl ⟨Nat.lt_succ_self _,h1,?_,fun _ _ _=>rfl⟩ ?_ wM ?_
 ·intro k hk
  rw [tD h1 h3 h4] at hk ⊢
  exact (m5 hk).symm
 ·refine And.intro ⟨_,rfl,aCw ?_⟩ (And.intro ⟨_,rfl,aCw ?_⟩ trivial)
  ·simp
  ·rw [tD h1 h3 h4];simp;omega
 rintro ⟨j,h⟩ ⟨g1,g2,g3,g4⟩
 dsimp only at g1 g2 g3 g4 ⊢
 have hle:=mE xs (fun x => !p x) j
 refine aF ?_
 refine aI (fun e=>?_) (fun e=>?_)
 ·have hj:j<xs.length:=by omega
  refine aF ?_
  refine vE rfl rfl rfl ⟨h j,rfl,rfl⟩ ?_
  refine aN ?_
  refine eF rfl (fun e2=>?_) (fun e2=>?_)
  ·have hF:=jM (z:=aCn) hj (p:=fun x => !p x) (by rw [← g4 j (Nat.le_refl _) hj,e2];rfl)
   refine aF ?_
   refine bN (j+1,fun k=>if k=((xs.take j).filter fun x => !p x).length then h j else h k) ⟨by omega,hj,fun k hk=>?_,fun k k1 k2=>?_⟩ (by show xs.length - (j+1)<xs.length - j;omega) ?_ ⟨⟨_,rfl,Ch.imp_arr fun k hk=>?_⟩,wM⟩
   ·dsimp only at hk ⊢
    rw [hF,List.length_append,List.length_singleton] at hk
    rw [hF]
    by_cases c:k=((xs.take j).filter fun x => !p x).length
    ·rw [if_pos c,c,rS,g4 j (Nat.le_refl _) hj]
    ·rw [if_neg c,rM (by omega)];exact g3 k (by omega)
   ·dsimp only at k1 ⊢
    rw [if_neg (by omega)];exact g4 k (by omega) k2
   ·refine And.intro ⟨_,rfl,aCw ?_⟩ (And.intro ⟨_,rfl,aCw ?_⟩ wF)
    ·simp
    ·dsimp only;rw [hF];simp
   ·dsimp only
    by_cases c:k=((xs.take j).filter fun x => !p x).length
    ·subst c
     simp only [Int.toNat_natCast,Nat.beq_refl,cond_true,if_true]
     rfl
    ·rw [if_neg c]
     have:Nat.beq k (((xs.take j).filter fun x => !p x).length:Int).toNat=false:=by
      simp only [Int.toNat_natCast]
      cases e:Nat.beq k ((xs.take j).filter fun x => !p x).length with
      | false=>rfl
      | true=>exact absurd (Nat.eq_of_beq_eq_true e) c
     rw [this];rfl
  ·have hF:=j4 (z:=aCn) hj (p:=fun x => !p x) (by rw [← g4 j (Nat.le_refl _) hj,e2];rfl)
   refine aF ?_
   refine bN (j+1,h) ⟨by omega,hj,fun k hk=>?_,fun k k1 k2=>g4 k (by dsimp only at k1;omega) k2⟩ (by show xs.length - (j+1)<xs.length - j;omega) ?_ wM
   ·dsimp only at hk ⊢
    rw [← hF] at hk ⊢;exact g3 k hk
   ·refine And.intro ⟨_,rfl,aCw ?_⟩ (And.intro ⟨_,rfl,aCw ?_⟩ wF)
    ·simp
    ·dsimp only;rw [← hF]
 ·have hj:j=xs.length:=by omega
  subst hj
  rw [List.take_length] at g3 hle ⊢
  refine aF ?_
  refine B7 TT_ok 38 900 rfl rfl rfl rfl rfl rfl ⟨by omega,by omega,by omega⟩ rfl rfl rfl rfl ?_
  refine aN ?_
  refine bB (FS 4 900 901 rfl rfl rfl ⟨by omega,by omega,by omega⟩ rfl rfl rfl) ?_
  refine aC (()) [(4,none)] ?_ ?_ ?_
  ·exact aCu _
  ·refine ⟨⟨_,rfl,Ch.imp_len (by omega) fun k hk=>?_⟩,trivial⟩
   dsimp only
   rw [if_neg (by omega),g3 _ (by omega)]
   congr 2;omega
  ·trivial
end
section
theorem W6 (s:GSet) (r0:Int):Ans Tryz.prog 152 [] [vR (cP s),vP [dI r0]] [] (vB (s.region != r0)):=by
 refine aE Tryz.func152 fun B0 r_ D_ w0=>?_
 refine aF ?_
 exact aG [(3,none)] (rfl)
theorem yR (t:GTx) (r0:Int) (hl:t.sets.length≤1048576):MkL Tryz.prog 86 [vP (cTx t),vI r0] 5 cP aCm (bY r0 t.sets):=by
 refine aE Tryz.func86 fun B0 r_ D_ w0=>?_
 refine aF ?_
 refine aR (aCv 900 9 (CQ t.sets hl)) fun _ _=>?_
 refine aN ?_
 refine cO TT_ok (aCv 900 9 (aCv 901 11 (IQ t.sets hl fun s=>s.region != r0))) rfl rfl (SVs.cons (aCs _) (SVs.cons (iO (aB) rfl fun args x ⟨s,h1,h2⟩=>by subst h1;subst h2;exact W6 s r0) rfl)) (fun _=>rfl) rfl rfl rfl fun _ _=>?_
 refine aN ?_
 refine bB (bL 11 900) ?_
 refine aC (()) [(4,none)] ?_ ?_ ?_
 ·exact aCu _
 ·exact ⟨⟨_,rfl,bP (by simp [bY,bne])⟩,trivial⟩
 ·trivial
end
end
section
section
theorem SW (t:GTx) (hl:t.sets.length≤1048576):MkL Tryz.prog 155 [vP (cTx t)] 1 bS 0 (cmI (fC t) (fC t).length):=by
 have hln:=m6 t
 refine aE Tryz.func155 fun B0 r_ D_ w0=>?_
 refine aF ?_
 refine bB (oX 3 7 1 (fun i=>bS (([]:List Int).getD i 0)) rfl rfl rfl rfl) ?_
 refine aK (ι:=Nat) (fun i=>[(11,vI i),(3, .a (.g 7))]) (fun i=>[(7,bE 1 bS 0 ((fC t).take i))]) (fun i=>i≤t.sets.length) (fun i=>t.sets.length - i) 0 [7] [7] (Nat.zero_le _) ?_
 intro i h1
 refine aF ?_
 refine aI (fun e=>?_) (fun e=>?_)
 ·have hi:i<t.sets.length:=by omega
  have hle:((fC t).take i).length≤i:=by rw [List.length_take];omega
  refine aF ?_
  refine cV TT_ok 18 (fun _=>bS (t.sets.getD i aCm).region) rfl rfl rfl rfl rfl rfl rfl (fun i hi=>by rcases i with _ | i <;>first | rfl | omega) (mu1:=[]) rfl rfl rfl ?_
  refine aN ?_
  refine cU TT_ok 7 18 19 rfl rfl rfl rfl rfl rfl rfl rfl rfl rfl rfl rfl ⟨by simp;omega,by unfold maxL;omega⟩ ?_
  refine aN ?_
  refine bC (bL 7 19) ?_
  exact bN (i+1) hi (by omega) wF ⟨⟨_,rfl,fJ (x:=(t.sets.getD i aCm).region) (by rw [cC (z:=0) (by omega),nM]) rfl⟩,wM⟩
 ·have hi:i=t.sets.length:=by omega
  subst hi
  rw [List.take_of_length_le (by omega)]
  refine aF ?_
  refine cO TT_ok (aCv 900 7 (aCv 901 22 (VE (fC t) (by omega)))) rfl rfl (aCu _) (fun _=>rfl) rfl rfl rfl fun _ _=>?_
  refine aN ?_
  refine bB (bL 22 900) ?_
  refine aC (()) [(2,none)] ?_ ?_ ?_
  ·exact aCu _
  ·exact wM
  ·trivial
end
end
section
theorem rV (xs:List GTx) (hl:xs.length≤1048576) (S:GTx→Prop) (hS:∀ i,i<xs.length→S (xs.getD i aCk)) (p:GTx→Bool):Ans Tryz.prog 144 [] [vL 7 cTx aCk xs,fbP S (fun x=>[RD.ag (cTx x)]) fun x => .bool (p x)] [] (vI (cI p xs)):=by
 refine aE Tryz.func144 fun B0 r_ D_ w0=>?_
 refine aF ?_
 refine aK (ι:=Nat) (fun i=>[(8,vI i)]) (fun _=>[]) (fun i=>i≤xs.length∧∀ j,j<i→p (xs.getD j aCk)=false) (fun i=>xs.length - i) 0 [] [] ⟨Nat.zero_le _,fun j hj=>absurd hj (Nat.not_lt_zero _)⟩ ?_
 intro i ⟨h1,h2⟩
 refine aF ?_
 refine aI (fun e=>?_) (fun e=>?_)
 ·have hi:i<xs.length:=by omega
  refine aF ?_
  refine vE rfl rfl rfl ⟨xs.getD i aCk,hS i hi,rfl,rfl⟩ ?_
  refine aN ?_
  refine aA (fun e2=>?_) (fun e2=>?_)
  ·refine aF ?_
   exact aJ [(4,none)] ((gA hi h2 e2).symm)
  ·refine aF ?_
   exact aL (i+1) ⟨hi,b5 h2 e2⟩ (by omega)
 ·refine aF ?_
  exact dK TT_ok [(4,none)] rfl rfl ((gT fun j hj=>h2 j (by omega)).symm)
theorem tT (xs:List Int) (hl:xs.length≤1048576):MkL Tryz.prog 139 [vL 1 bS 0 xs] 1 bS 0 xs:=by
 refine aE Tryz.func139 fun B0 r_ D_ w0=>?_
 refine aF ?_
 refine HY TT_ok false rfl rfl rfl rfl rfl rfl fun b hb=>?_
 refine aN ?_
 refine aA (fun e=>?_) (fun e=>?_)
 ·have h0:=hb e
  refine aF ?_
  refine bB (oX 2 900 1 (fun i=>bS (([]:List Int).getD i 0)) rfl rfl rfl rfl) ?_
  refine aC (()) [(2,none)] ?_ ?_ ?_
  ·exact aCu _
  ·exact ⟨⟨_,rfl,bP (List.length_eq_zero_iff.1 h0).symm⟩,trivial⟩
  ·trivial
 ·refine aF ?_
  refine aM 5 (fun i=>bS (([]:List Int).getD i 0)) (fun i hi=>absurd hi (Nat.not_lt_zero _)) (mu1:=[]) ?_
  refine aN ?_
  refine oG TT_ok 5 900 rfl rfl rfl rfl rfl rfl rfl rfl rfl rfl rfl rfl ⟨by simp;omega,by unfold maxL;omega⟩ ?_
  refine aN ?_
  refine aC (()) [(2,none)] ?_ ?_ ?_
  ·exact aCu _
  ·exact ⟨⟨_,rfl,mX (ys:=([]:List Int)) (by simp)⟩,trivial⟩
  ·trivial
end
section
theorem FF {h:Int} (k:jW h=true):(rE h 1 != 0)=fD h:=by
 obtain ⟨h1,h2⟩:=kR.1 k
 unfold fD
 rw [k,and1 k,AZ h1,Bool.eq_iff_iff]
 simp;omega
end
section
section
theorem RO (xs:List GSet) (hl:xs.length≤1048576) (s0:GSet) (c:GSet→Int) (hm:qB c aCm xs):Con Tryz.prog 262 [] [vL 5 cP aCm xs,vR (cP s0),fbO (fun x=>[RD.ag (cP x),RD.ag (cP s0)]) fun x => .int .i64 (c x)] [] (jJ c aCm xs)
  (fun i=>[vI i,vB (bif decide ((i:Int)<xs.length) then c (xs.getD i aCm) == 0 else false)]) fun _=>[]:=by
 refine aE Tryz.func262 fun B0 r_ D_ w0=>?_
 refine aF ?_
 refine cY (ι:=Nat×Nat) (fun y=>[(9,vI y.1),(10,vI y.2)]) (fun _=>[]) (fun y=>y.1≤y.2∧y.2≤xs.length∧(∀ a,a<y.1→c (xs.getD a aCm)<0)∧∀ a,y.2≤a→a<xs.length→¬ c (xs.getD a aCm)<0) (fun y=>y.2 - y.1) (0,xs.length) [] [] rfl rfl ⟨Nat.zero_le _,Nat.le_refl _,fun a h=>absurd h (Nat.not_lt_zero _),fun a h1 h2=>by omega⟩ wF wM ?_
 rintro ⟨i,j⟩ ⟨h1,h2,h3,h4⟩
 dsimp only at h1 h2 h3 h4 ⊢
 refine aF ?_
 refine aI (fun e=>?_) (fun e=>?_)
 ·have hij:i<j:=by omega
  have hh:(((i:Int)+j) / 2).toNat=(i+j) / 2:=by omega
  refine aF ?_
  refine aO [] fun B0 H0=>?_
  refine bG 6 rfl (by kernel_rfl) (aAi rfl rfl rfl ⟨xs.getD (((i:Int)+j) / 2).toNat aCm,rfl,rfl⟩ (bD ?_))
  refine tZ TT_ok rfl ?_
  refine aP ?_
  rw [hh]
  refine aI (fun e2=>?_) (fun e2=>?_)
  ·refine aF ?_
   refine bN ((i+j) / 2+1,j) ⟨by dsimp only;omega,h2,fun a ha=>?_,h4⟩ (by show j - ((i+j) / 2+1)<j - i;omega) ⟨⟨_,rfl,aCw (fL (by dsimp only;omega))⟩,⟨_,rfl,aCs _⟩,wF⟩ wM
   exact hm a ((i+j) / 2) (by dsimp only at ha;omega) (by omega) e2
  ·refine aF ?_
   refine bN (i,(i+j) / 2) ⟨by dsimp only;omega,by dsimp only;omega,h3,fun a a1 a2 hc=>?_⟩ (by show (i+j) / 2 - i<j - i;omega) ⟨⟨_,rfl,aCs _⟩,⟨_,rfl,aCw (fL (by dsimp only;omega))⟩,wF⟩ wM
   exact e2 (hm ((i+j) / 2) a (by dsimp only at a1;omega) a2 hc)
 ·have hij:i=j:=by omega
  subst hij
  refine aF ?_
  refine aO [] fun B0 H0=>?_
  refine bG 11 rfl (by kernel_rfl) (aAz rfl rfl rfl rfl rfl ⟨xs.getD i aCm,rfl,rfl⟩ (bD ?_))
  refine tZ TT_ok rfl ?_
  refine aP ?_
  refine aC (i) [(6,none),(7,none)] ?_ ?_ ?_
  ·exact aCu _
  ·trivial
  ·exact ⟨h2,h3,h4⟩
end
section
theorem M9 {r s q t:Int}:vS r s q t=0 ↔ r=q∧s=t:=by
 unfold vS orL orL orL lN
 by_cases h1:r<q
 ·simp [h1];omega
 ·by_cases h2:r > q
  ·simp [h1,h2];omega
  ·have h3:r=q:=by omega
   subst h3
   by_cases h4:s<t
   ·simp [h4];omega
   ·by_cases h5:s > t
    ·simp [h4,h5];omega
    ·simp [h4,h5];omega
theorem aCd (a b:GSet):Ans Tryz.prog 263 [] [vR (cP a),vR (cP b)] [] (vI (vS a.region a.slot b.region b.slot)):=by
 refine aE Tryz.func263 fun B0 r_ D_ w0=>?_
 refine aF ?_
 refine aH (uV _ _ _ _) ?_
 exact aJ [(4,none)] (rfl)
theorem set_c (t:GTx) (hl:t.sets.length≤1048576) (r0 s0:Int) (hs:qU t.sets):Con Tryz.prog 222 [] [vP (cTx t),vI r0,vI s0] [] (jJ (jT r0 s0) aCm t.sets)
  (fun i=>[vI i,vB (bif decide ((i:Int)<t.sets.length) then jT r0 s0 (t.sets.getD i aCm) == 0 else false)]) fun _=>[]:=by
 refine aE Tryz.func222 fun B0 r_ D_ w0=>?_
 refine aF ?_
 refine cO TT_ok (RO t.sets hl ⟨r0,s0,0,false,0⟩ (jT r0 s0) (tU hs r0 s0)) rfl rfl (SVs.cons (aCs _) (SVs.cons (aCs _) (SVs.cons (iO (aB) rfl fun args x ⟨s,h1,h2⟩=>by subst h1;subst h2;exact aCd s ⟨r0,s0,0,false,0⟩) rfl))) (fun _=>rfl) rfl rfl rfl fun i hi=>?_
 refine aN ?_
 refine aC (i) [(6,none),(7,none)] ?_ ?_ ?_
 ·exact aCu _
 ·trivial
 ·exact hi
theorem ZL {xs:List GSet} (hs:qU xs) {r s:Int} {i:Nat} (h:jJ (jT r s) aCm xs i):(bif decide ((i:Int)<xs.length) then jT r s (xs.getD i aCm) == 0 else false)=xs.any (dS r s):=by
 obtain ⟨h1,h2,h3⟩:=h
 rw [Bool.eq_iff_iff,List.any_eq_true]
 constructor
 ·intro e
  have hi:i<xs.length:=by
   by_cases c:i<xs.length
   ·exact c
   ·rw [decide_eq_false (by omega)] at e;cases e
  rw [decide_eq_true (by omega)] at e
  have e:jT r s (xs.getD i aCm)=0:=by simpa using e
  refine ⟨xs.getD i aCm,by simp [hi],nB.2 (M9.1 e)⟩
 ·rintro ⟨x,hx,hc⟩
  obtain ⟨a,ha,rfl⟩:=List.mem_iff_getElem.1 hx
  have hxa:xs.getD a aCm=xs[a]:=by simp [ha]
  rw [← hxa] at hc
  have hc:=nB.1 hc
  have hz:jT r s (xs.getD a aCm)=0:=M9.2 hc
  have hia:i≤a:=by
   rcases Nat.lt_or_ge a i with h | h
   ·have:=h2 a h;omega
   ·exact h
  have hi:i<xs.length:=by omega
  rw [decide_eq_true (by omega)]
  have:jT r s (xs.getD i aCm)=0:=by
   by_cases c:i=a
   ·subst c;exact hz
   ·exfalso
    have h4:=hs i a (by omega) ha
    have h5:=h3 i (Nat.le_refl _) hi
    unfold jT at h5
    rw [pD] at h5
    unfold lessS at h4
    omega
  show (jT r s (xs.getD i aCm) == 0)=true
  rw [this];rfl
theorem V4 (n:GNote) (t:GTx) (hl:t.sets.length≤1048576) (hs:qU t.sets):Ans Tryz.prog 221 [] [vR (cT n),vP [.pt (cTx t) 0]] [] (vB (t.sets.any (dS n.region n.slot))):=by
 refine aE Tryz.func221 fun B0 r_ D_ w0=>?_
 refine aF ?_
 refine aR (set_c t hl n.region n.slot hs) fun i hi=>?_
 refine aN ?_
 exact aG [(3,none)] (ZL hs hi)
theorem YF (t:GTx) (n:GNote):pU t n = !t.sets.any (dS n.region n.slot):=by
 unfold pU
 rcases gH (dS n.region n.slot) aCm t.sets with ⟨h1,h2⟩ | ⟨i,h1,h2,h3,h4⟩
 ·rw [h1]
  cases c:t.sets.any (dS n.region n.slot) with
  | false=>rfl
  | true =>
   obtain ⟨x,hx,hc⟩:=List.any_eq_true.1 c
   obtain ⟨a,ha,rfl⟩:=List.mem_iff_getElem.1 hx
   have:=h2 a ha
   have hxa:t.sets.getD a aCm=t.sets[a]:=by simp [ha]
   rw [hxa,hc] at this;cases this
 ·rw [h2,decide_eq_false (by omega)]
  have:t.sets.any (dS n.region n.slot)=true:=List.any_eq_true.2 ⟨_,by simp [h1],h4⟩
  rw [this];rfl
theorem P5 (t:GTx) (h1:t.reads.length≤1048576) (h2:t.sets.length≤1048576) (hs:qU t.sets):MkL Tryz.prog 156 [vP (cTx t)] 5 cT aCn (t.reads.filter (pU t)):=by
 refine aE Tryz.func156 fun B0 r_ D_ w0=>?_
 refine aF ?_
 refine aR (aCv 900 7 (GC t.reads h1)) fun _ _=>?_
 refine aN ?_
 refine cO TT_ok (aCv 900 7 (aCv 901 9 (HB t.reads h1 fun n=>t.sets.any (dS n.region n.slot)))) rfl rfl (SVs.cons (aCs _) (SVs.cons (iO (aB) rfl fun args x ⟨n,e1,e2⟩=>by subst e1;subst e2;exact V4 n t h2 hs) rfl)) (fun _=>rfl) rfl rfl rfl fun _ _=>?_
 refine aN ?_
 refine bB (bL 9 900) ?_
 refine aC (()) [(2,none)] ?_ ?_ ?_
 ·exact aCu _
 ·exact ⟨⟨_,rfl,bP (by congr 1;funext n;exact (YF t n).symm)⟩,trivial⟩
 ·trivial
end
end
section
theorem AP (m:GMachine) (hl:m.copies.length≤1048576) (r0:Int):Ans Tryz.prog 107 [] [vP (bJ m),vI r0] [] (vL 2 cX aCo (cellsOf m r0)):=by
 cases h:dX m r0 with
 | false =>
  refine (DO m hl r0 h).wkR fun _ _=>⟨_,_,rfl,?_,rfl⟩
  rw [cellsOf,if_neg (by rw [h];simp)]
  intro B Z v e
  have e:v = .slice none 0 0:=e
  subst e
  exact ⟨none,0,rfl,Nat.le_refl _,Nat.zero_le _, .inl rfl⟩
 | true =>
  rcases gH (atB r0) aCp m.copies with ⟨h1,h2⟩ | ⟨i,h1,h2,h3,h4⟩
  ·rw [dX,j0 h2] at h;cases h
  ·have e:cellsOf m r0=(m.copies.getD i aCp).cells:=by rw [eW h,h2];rfl
   rw [e]
   exact DG m hl r0 i h1 h3 h4
end
section
theorem L4 (x:GRecord) (tx r0 kind:Int):Ans Tryz.prog 218 [] [vR (cK x),vP [dI tx],vP [dI r0],vP [dI kind]] [] (vB (pW tx r0 kind x)):=by
 refine aE Tryz.func218 fun B0 r_ D_ w0=>?_
 refine aF ?_
 exact aG [(5,none)] (rfl)
end
section
theorem NP (t:GTx) (id:Int):Ans Tryz.prog 145 [] [vR (cTx t),vP [dI id]] [] (vB (t.id == id)):=by
 refine aE Tryz.func145 fun B0 r_ D_ w0=>?_
 refine aF ?_
 exact aG [(3,none)] (rfl)
theorem DB (c:GCluster) (hl:c.txs.length≤1048576) (id:Int) (h:0≤bQ c id):Ans Tryz.prog 80 [] [vP (bO c),vI id] [] (vP (cTx (c.txs.getD (bQ c id).toNat aCk))):=by
 have hin:=dW h
 refine aE Tryz.func80 fun B0 r_ D_ w0=>?_
 refine aF ?_
 refine lZ TT_ok (rV c.txs hl (fun _=>True) (fun _ _=>trivial) fun t=>t.id == id) rfl rfl (SVs.cons (aCs _) (SVs.cons (iO (aB) rfl fun args x ⟨n,_,e1,e2⟩=>by subst e1;subst e2;exact NP n _) rfl)) rfl rfl ?_
 refine aI (fun e=>absurd h (Int.not_le.2 e)) (fun _=>?_)
 have hx:0≤cI (fun t:GTx=>t.id == id) c.txs∧cI (fun t:GTx=>t.id == id) c.txs<c.txs.length:=⟨h,gO⟩
 refine aF ?_
 exact BV TT_ok [(4,none)] rfl rfl (rfl)
theorem EN (c:GCluster) (hl:c.txs.length≤1048576) (id:Int) (h:bQ c id<0):Ans Tryz.prog 80 [] [vP (bO c),vI id] [] (.a (.v (.pointer none))):=by
 refine aE Tryz.func80 fun B0 r_ D_ w0=>?_
 refine aF ?_
 refine lZ TT_ok (rV c.txs hl (fun _=>True) (fun _ _=>trivial) fun t=>t.id == id) rfl rfl (SVs.cons (aCs _) (SVs.cons (iO (aB) rfl fun args x ⟨n,_,e1,e2⟩=>by subst e1;subst e2;exact NP n _) rfl)) rfl rfl ?_
 refine aI (fun _=>?_) (fun e=>absurd h e)
 refine aF ?_
 exact BV TT_ok [(4,none)] rfl rfl (rfl)
theorem xZ {c:GCluster} (hb:D.bds dJ (bO c)) (i:Nat):D.bds dJ (cTx (c.txs.getD i aCk)):=UK hb.2.2.2.2.1 ⟨trivial,trivial,trivial,trivial,⟨Nat.zero_le _,fun i hi=>absurd hi (Nat.not_lt_zero _)⟩,⟨Nat.zero_le _,fun i hi=>absurd hi (Nat.not_lt_zero _)⟩,trivial,trivial⟩ _
end
section
theorem CS (x:GRecord) (h1:x.sets.length≤1048576):MkR Tryz.prog 213 [vR (cK x)] x:=by
 refine aE Tryz.func213 fun B0 r_ D_ w0=>?_
 refine aF ?_
 refine aR (aCv 900 901 (CQ x.sets h1)) fun _ _=>?_
 refine aN ?_
 refine aC (()) [(2,some 83)] ?_ ?_ ?_
 ·exact aCu _
 ·exact wM
 ·trivial
end
section
theorem LE (m:GMachine) (hb:D.bds dJ (bJ m)):V8 Tryz.prog 140 [vR (bJ m)] m:=by
 have b1:m.copies.length≤1048576:=hb.2.1.1
 have b2:m.log.length≤1048576:=hb.2.2.1.1
 have b3:m.cleared.length≤1048576:=hb.2.2.2.1.1
 refine aE Tryz.func140 fun B0 r_ D_ w0=>?_
 refine aT ?_
 refine aU 1 fun r_=>?_
 refine zS ?_
 refine T6 [(1,vP (bJ m)),(2, .a (.p 2 0)),(3, .a (.p 3 0))] [(2, .row [.v (.bool false),lU,lU,lU]),(3, .row [.v (.bool m.alive),lU,lU, .g 12]),(12,bE 1 bS 0 m.cleared)] ?_ fun key=>?_
 ·refine aZ ?_
  refine bB (a5 3 1 2 (fun i=>dA (([]:List GCopy).getD i aCp))) ?_
  refine bB (a5 3 2 4 (fun i=>cK (([]:List GRecord).getD i aCq))) ?_
  refine bB (a6 3 1 31) ?_
  refine bB (a6 3 2 32) ?_
  refine aK (ι:=Nat) (fun i=>[(17,vI i)]) (fun i=>[(31,bE 2 dA aCp (m.copies.take i)),(3, .row [.v (.bool m.alive), .g 31, .g 32, .g 12])]) (fun i=>i≤m.copies.length) (fun i=>m.copies.length - i) 0 [31,3] [31] (Nat.zero_le _) ?_
  intro i h1
  refine aF ?_
  refine aI (fun e=>?_) (fun e=>?_)
  ·have hi:i<m.copies.length:=by omega
   have hl:(m.copies.take i).length=i:=by rw [List.length_take];omega
   refine aF ?_
   refine aW [31] [0,1,2,3,4,5,6,7,8,9,10,11] fun B0 H0=>?_
   refine aX 6 (aCv 900 27 (wC (m.copies.getD i aCp).cells (hb.2.1.2 i hi).2.1.1)) fun _ _=>?_
   refine aY [7,8,9,10,11] ?_
   refine bG 8 rfl (by kernel_rfl) (dV TT_ok 29 (fun _=>dA (m.copies.getD i aCp)) rfl rfl rfl rfl rfl rfl rfl (fun j hj=>by rcases j with _ | j <;>first | rfl | omega) (mu1:=[(27, .arr 0 0 fun _=>[])]) rfl rfl rfl (bD ?_))
   refine bG 9 rfl (by kernel_rfl) (dM TT_ok 31 29 30 rfl rfl rfl rfl rfl rfl rfl rfl rfl rfl rfl rfl ⟨by show ((m.copies.take i).length+1) * 32≤_;omega,by unfold maxL;omega⟩ (bD ?_))
   refine aY [10,11] ?_
   refine dR 11 rfl (by kernel_rfl) (by kernel_rfl) (aV (eJ [] fun B0 H0=>?_))
   refine aP ?_
   refine bC (bL 31 30) ?_
   exact bN (i+1) hi (by omega) wF ⟨⟨_,rfl,aS (x:=m.copies.getD i aCp) (cC hi)⟩,wM⟩
  have hi:i=m.copies.length:=by omega
  subst hi
  rw [List.take_length]
  refine aF ?_
  refine aK (ι:=Nat) (fun i=>[(36,vI i)]) (fun i=>[(32,bE 4 cK aCq (m.log.take i)),(3, .row [.v (.bool m.alive), .g 31, .g 32, .g 12])]) (fun i=>i≤m.log.length) (fun i=>m.log.length - i) 0 [32,3] [32] (Nat.zero_le _) ?_
  intro i h1
  refine aF ?_
  refine aI (fun e=>?_) (fun e=>?_)
  ·have hi:i<m.log.length:=by omega
   have hl:(m.log.take i).length=i:=by rw [List.length_take];omega
   refine aF ?_
   refine aW [32] [0,1,2,3,4,5,6,7] fun B0 H0=>?_
   refine aX 3 (aCv 901 43 (CS (m.log.getD i aCq) (hb.2.2.1.2 i hi).2.2.2.1.1)) fun _ _=>?_
   refine bG 4 rfl (by kernel_rfl) (dV TT_ok 44 (fun _=>cK (m.log.getD i aCq)) rfl rfl rfl rfl rfl rfl rfl (fun j hj=>by rcases j with _ | j <;>first | rfl | omega) (mu1:=[(43, .arr 0 0 fun _=>[])]) rfl rfl rfl (bD ?_))
   refine bG 5 rfl (by kernel_rfl) (dM TT_ok 32 44 45 rfl rfl rfl rfl rfl rfl rfl rfl rfl rfl rfl rfl ⟨by show ((m.log.take i).length+1) * 48≤_;omega,by unfold maxL;omega⟩ (bD ?_))
   refine aY [6,7] ?_
   refine dR 7 rfl (by kernel_rfl) (by kernel_rfl) (aV (eJ [] fun B0 H0=>?_))
   refine aP ?_
   refine bC (bL 32 45) ?_
   exact bN (i+1) hi (by omega) wF ⟨⟨_,rfl,aS (x:=m.log.getD i aCq) (cC hi)⟩,wM⟩
  have hi:i=m.log.length:=by omega
  subst hi
  rw [List.take_length]
  refine aF ?_
  refine bB (bL 31 901) ?_
  refine bB (bL 32 902) ?_
  refine bB (bL 12 903) ?_
  refine aC (()) [(2,some 39)] ?_ ?_ ?_
  ·exact aCu _
  ·exact wM
  ·trivial
 ·refine aW [] [0,1,2,3,4,5,6,7] fun B0 H0=>?_
  refine eU 4 6 rfl rfl (by kernel_rfl) (gG (aCv 900 12 (tT m.cleared b3)) rfl rfl (aCu _) (fun _=>rfl) rfl rfl rfl (fun _ _=>bD ?_)) (aV (bD ?_))
  ·refine aY [5,6,7] ?_
   refine bG 6 rfl (by kernel_rfl) (aV (bD ?_))
   refine bG 7 rfl (by kernel_rfl) (aV (bD ?_))
   exact oF key wF wM
  ·skip
   refine aX 4 (aCv 900 12 (tT m.cleared b3)) fun _ _=>?_
   refine aY [5,7] ?_
   refine bG 7 rfl (by kernel_rfl) (aV (bD ?_))
   exact oF key wF wM
theorem iU (c:GCluster) (hb:D.bds dJ (bO c)):yB Tryz.prog 66 [vR (bO c)] c:=by
 have b1:c.places.length≤1048576:=hb.2.2.1.1
 have b2:c.machines.length≤1048576:=hb.2.2.2.1.1
 have b3:c.txs.length≤1048576:=hb.2.2.2.2.1.1
 refine aE Tryz.func66 fun B0 r_ D_ w0=>?_
 refine aT ?_
 refine aU 1 fun r_=>?_
 refine aF ?_
 refine bB (a5 3 2 1 (fun i=>cE (([]:List GPlace).getD i aCi))) ?_
 refine bB (a5 3 3 4 (fun i=>bJ (([]:List GMachine).getD i aCj))) ?_
 refine bB (a5 3 4 7 (fun i=>cTx (([]:List GTx).getD i aCk))) ?_
 refine bB (a6 3 2 901) ?_
 refine bB (a6 3 3 902) ?_
 refine bB (a6 3 4 903) ?_
 refine aK (ι:=Nat) (fun i=>[(17,vI i)]) (fun i=>[(901,bE 1 cE aCi (c.places.take i)),(3, .row [.v (.int .i64 c.config), .v (.int .i64 c.clock), .g 901, .g 902, .g 903, .v (.bool c.lost)])]) (fun i=>i≤c.places.length) (fun i=>c.places.length - i) 0 [901,3] [901] (Nat.zero_le _) ?_
 intro i h1
 refine aF ?_
 refine aI (fun e=>?_) (fun e=>?_)
 ·have hi:i<c.places.length:=by omega
  have hl:(c.places.take i).length=i:=by rw [List.length_take];omega
  have hm:(c.places.getD i aCi).machines.length≤1048576:=(hb.2.2.1.2 i hi).1.1
  refine aF ?_
  refine aW [901] [0,1,2,3,4,5,6,7,8,9] fun B0 H0=>?_
  refine aX 4 (aCv 900 25 (tT (c.places.getD i aCi).machines hm)) fun _ _=>?_
  refine aY [5,6,7,8,9] ?_
  refine bG 6 rfl (by kernel_rfl) (dV TT_ok 27 (fun _=>cE (c.places.getD i aCi)) rfl rfl rfl rfl rfl rfl rfl (fun j hj=>by rcases j with _ | j <;>first | rfl | omega) (mu1:=[(25, .arr 0 0 fun _=>[])]) rfl rfl rfl (bD ?_))
  refine bG 7 rfl (by kernel_rfl) (dM TT_ok 901 27 28 rfl rfl rfl rfl rfl rfl rfl rfl rfl rfl rfl rfl ⟨by show ((c.places.take i).length+1) * 24≤_;omega,by unfold maxL;omega⟩ (bD ?_))
  refine aY [8,9] ?_
  refine dR 9 rfl (by kernel_rfl) (by kernel_rfl) (aV (eJ [] fun B0 H0=>?_))
  refine aP ?_
  refine bC (bL 901 28) ?_
  exact bN (i+1) hi (by omega) wF ⟨⟨_,rfl,aS (x:=c.places.getD i aCi) (cC hi)⟩,wM⟩
 have hi:i=c.places.length:=by omega
 subst hi
 rw [List.take_length]
 refine aF ?_
 refine aK (ι:=Nat) (fun i=>[(34,vI i)]) (fun i=>[(902,bE 4 bJ aCj (c.machines.take i)),(3, .row [.v (.int .i64 c.config), .v (.int .i64 c.clock), .g 901, .g 902, .g 903, .v (.bool c.lost)])]) (fun i=>i≤c.machines.length) (fun i=>c.machines.length - i) 0 [902,3] [902] (Nat.zero_le _) ?_
 intro i h1
 refine aF ?_
 refine aI (fun e=>?_) (fun e=>?_)
 ·have hi:i<c.machines.length:=by omega
  have hl:(c.machines.take i).length=i:=by rw [List.length_take];omega
  refine aF ?_
  refine aW [902] [0,1,2,3,4,5,6,7] fun B0 H0=>?_
  refine aX 3 (aCv 901 411 (aCv 902 412 (aCv 903 413 (LE (c.machines.getD i aCj) (hb.2.2.2.1.2 i hi))))) fun _ _=>?_
  refine bG 4 rfl (by kernel_rfl) (dV TT_ok 42 (fun _=>bJ (c.machines.getD i aCj)) rfl rfl rfl rfl rfl rfl rfl (fun j hj=>by rcases j with _ | j <;>first | rfl | omega) (mu1:=[(411, .arr 0 0 fun _=>[]),(412, .arr 0 0 fun _=>[]),(413, .arr 0 0 fun _=>[])]) rfl rfl rfl (bD ?_))
  refine bG 5 rfl (by kernel_rfl) (dM TT_ok 902 42 43 rfl rfl rfl rfl rfl rfl rfl rfl rfl rfl rfl rfl ⟨by show ((c.machines.take i).length+1) * 80≤_;omega,by unfold maxL;omega⟩ (bD ?_))
  refine aY [6,7] ?_
  refine dR 7 rfl (by kernel_rfl) (by kernel_rfl) (aV (eJ [] fun B0 H0=>?_))
  refine aP ?_
  refine bC (bL 902 43) ?_
  exact bN (i+1) hi (by omega) wF ⟨⟨_,rfl,aS (x:=c.machines.getD i aCj) (cC hi)⟩,wM⟩
 have hi:i=c.machines.length:=by omega
 subst hi
 rw [List.take_length]
 refine aF ?_
 refine aK (ι:=Nat) (fun i=>[(49,vI i)]) (fun i=>[(903,bE 7 cTx aCk (c.txs.take i)),(3, .row [.v (.int .i64 c.config), .v (.int .i64 c.clock), .g 901, .g 902, .g 903, .v (.bool c.lost)])]) (fun i=>i≤c.txs.length) (fun i=>c.txs.length - i) 0 [903,3] [903] (Nat.zero_le _) ?_
 intro i h1
 refine aF ?_
 refine aI (fun e=>?_) (fun e=>?_)
 ·have hi:i<c.txs.length:=by omega
  have hl:(c.txs.take i).length=i:=by rw [List.length_take];omega
  have ht:=hb.2.2.2.2.1.2 i hi
  refine aF ?_
  refine aW [903] [0,1,2,3,4,5,6,7] fun B0 H0=>?_
  refine aX 3 (aCv 901 561 (aCv 902 562 (MZ (c.txs.getD i aCk) ht.2.2.2.2.1.1 ht.2.2.2.2.2.1.1))) fun _ _=>?_
  refine bG 4 rfl (by kernel_rfl) (dV TT_ok 57 (fun _=>cTx (c.txs.getD i aCk)) rfl rfl rfl rfl rfl rfl rfl (fun j hj=>by rcases j with _ | j <;>first | rfl | omega) (mu1:=[(561, .arr 0 0 fun _=>[]),(562, .arr 0 0 fun _=>[])]) rfl rfl rfl (bD ?_))
  refine bG 5 rfl (by kernel_rfl) (dM TT_ok 903 57 58 rfl rfl rfl rfl rfl rfl rfl rfl rfl rfl rfl rfl ⟨by show ((c.txs.take i).length+1) * 88≤_;omega,by unfold maxL;omega⟩ (bD ?_))
  refine aY [6,7] ?_
  refine dR 7 rfl (by kernel_rfl) (by kernel_rfl) (aV (eJ [] fun B0 H0=>?_))
  refine aP ?_
  refine bC (bL 903 58) ?_
  exact bN (i+1) hi (by omega) wF ⟨⟨_,rfl,aS (x:=c.txs.getD i aCk) (cC hi)⟩,wM⟩
 have hi:i=c.txs.length:=by omega
 subst hi
 rw [List.take_length]
 refine aF ?_
 refine aC (()) [(2,some 28)] ?_ ?_ ?_
 ·exact aCu _
 ·exact wM
 ·trivial
end
section
open Classical in
noncomputable def fF (c:GCluster) (id:Int):GTx×Bool:=if ClusOk c∧0≤bQ c id then (c.txs.getD (bQ c id).toNat aCk,true) else (aCk,false)
theorem rN (c:GCluster) (hb:D.bds dJ (bO c)) (id:Int):UO Tryz.prog 21 [vR (bO c),vI id] (fF c id).1 (fF c id).2:=by
 have b3:c.txs.length≤1048576:=hb.2.2.2.2.1.1
 have bt:=xZ hb (bQ c id).toNat
 have hlt:=gO (c:=c) (id:=id)
 refine aE Tryz.func21 fun B0 r_ D_ w0=>?_
 refine aT ?_
 refine aU 2 fun r_=>?_
 refine aF ?_
 refine aH (eT c hb) ?_
 refine eF rfl (fun e=>?_) (fun e=>?_)
 ·rw [show fF c id=(aCk,false) from if_neg fun h=>jN.1 e h.1]
  refine aF ?_
  refine bB (a5 4 4 5 (fun i=>cT (([]:List GNote).getD i aCn))) ?_
  refine bB (a5 4 5 5 (fun i=>cP (([]:List GSet).getD i aCm))) ?_
  refine bB (a6 4 4 901) ?_
  refine bB (a6 4 5 902) ?_
  refine aC (()) [(4,some 48),(5,none)] ?_ ?_ ?_
  ·exact aCu _
  ·exact wM
  ·trivial
 have hok:=c9.1 e
 refine aF ?_
 by_cases hf:0≤bQ c id
 ·have hin:=dW hf
  rw [show fF c id=(c.txs.getD (bQ c id).toNat aCk,true) from if_pos ⟨hok,hf⟩]
  refine rB TT_ok (DB c b3 id hf) rfl rfl (aCu _) rfl rfl ?_
  refine bX rfl (fun e=>by cases e) (fun e=>?_)
  refine aF ?_
  refine aR (MZ (c.txs.getD (bQ c id).toNat aCk) bt.2.2.2.2.1.1 bt.2.2.2.2.2.1.1) fun _ _=>?_
  refine aN ?_
  refine aC (()) [(4,some 48),(5,none)] ?_ ?_ ?_
  ·exact aCu _
  ·exact wM
  ·trivial
 ·rw [show fF c id=(aCk,false) from if_neg fun h=>hf h.2]
  refine rB TT_ok (EN c b3 id (by omega)) rfl rfl (aCu _) rfl rfl ?_
  refine bX rfl (fun e=>?_) (fun e=>by cases e)
  refine aF ?_
  refine bB (a5 4 4 5 (fun i=>cT (([]:List GNote).getD i aCn))) ?_
  refine bB (a5 4 5 5 (fun i=>cP (([]:List GSet).getD i aCm))) ?_
  refine bB (a6 4 4 901) ?_
  refine bB (a6 4 5 902) ?_
  refine aC (()) [(4,some 48),(5,none)] ?_ ?_ ?_
  ·exact aCu _
  ·exact wM
  ·trivial
end
section
def yP (i m:Nat) (g f:Nat→List D):Nat→List D:=fun j=>if j<i then f j else if j<i+m then g (j - i) else f (j - m)
theorem SS {n m:Nat} {f g:Nat→List D} (j:Nat):kY n f g j=yP n m g f j∨n+m≤j:=by
 unfold yP
 by_cases c:j<n
 ·left;rw [jA c,if_pos c]
 ·by_cases c2:j<n+m
  ·left;rw [mU (by omega),if_neg c,if_pos c2]
  ·right;omega
theorem XW {n m i c1 c2:Nat} {f f0 g:Nat→List D} (hi:i≤n) (h1:c1=m) (h2:c2=n - i) (h0:∀ j,j<i→f0 j=f j) (j:Nat) (hj:j<n+m):cpD (i+m) c2 (fun x=>f (i+x)) (cpD i c1 g f0) j=yP i m g f j:=by
 subst h1;subst h2
 unfold cpD yP
 by_cases a:j<i
 ·rw [if_neg (by omega),if_neg (by omega),if_pos a];exact h0 j a
 ·by_cases b:j<i+c1
  ·rw [if_neg (by omega),if_pos (by omega),if_neg a,if_pos b]
  ·rw [if_pos (by omega),if_neg a,if_neg b]
   show f (i+(j - (i+c1)))=f (j - c1)
   congr 1;omega
theorem X0 {n m i c1 c2:Nat} {f f0 f1 g:Nat→List D} (hi:i≤n) (h1:c1=m) (h2:c2=n - i) (h0:∀ j,j<n→f0 j=f j) (h3:∀ j,j<n - i→f1 j=f (i+j)) (j:Nat) (hj:j<n+m):cpD i c1 g (cpD (i+m) c2 f1 f0) j=yP i m g f j:=by
 subst h1;subst h2
 unfold cpD yP
 by_cases a:j<i
 ·rw [if_neg (by omega),if_neg (by omega),if_pos a];exact h0 j (by omega)
 ·by_cases b:j<i+c1
  ·rw [if_pos (by omega),if_neg a,if_pos b]
  ·rw [if_neg (by omega),if_pos (by omega),if_neg a,if_neg b,h3 _ (by omega)]
   congr 1;omega
theorem OL {n:Nat} {f:Nat→List D} {junk:Nat→List Value} (hf:∀ j,j<n→∃ l,jR (f j)=some l):∀ j,j<n→∃ l,jR (kY n f (fun x=>(junk x).map D.v) j)=some l:=fun j hj=>by rw [jA hj];exact hf j hj
theorem O3 (n m i:Nat) (f g:Nat→List D) (hn:n≤1048576) (hm:m≤1048576) (h0:0<m) (hi:i≤n) (hf:∀ j,j<n→∃ l,jR (f j)=some l) (hg:∀ j,j<m→∃ l,jR (g j)=some l) :
  Con Tryz.prog 227 [900,901] [.a (.g 900),vI i, .a (.g 901)] [(900, .arr 2 n f),(901, .arr 2 m g)] (fun _:Unit=>True) (fun _=>[.a (.g 902)]) fun _=>[(902, .arr 2 (n+m) (yP i m g f))]:=by
 refine aE Tryz.func227 fun B0 r_ D_ w0=>?_
 refine aF ?_
 refine mC rfl (fun e=>absurd e (by omega)) (fun _=>?_)
 refine aF ?_
 refine aI (fun e=>?_) (fun e=>?_)
 ·have hin:i=n:=by omega
  subst hin
  refine aF ?_
  refine oG TT_ok 900 902 rfl rfl rfl rfl rfl rfl rfl rfl rfl rfl rfl rfl ⟨by show (_+_) * 32≤140737488355328;omega,by unfold maxL;omega⟩ ?_ (hone:=hg)
  refine aN ?_
  refine aC (()) [(6,none)] ?_ ?_ ?_
  ·exact aCu _
  ·exact ⟨⟨_,rfl,Ch.imp_arr fun j hj=>(SS j).resolve_right (by omega)⟩,trivial⟩
  ·trivial
 refine aF ?_
 refine VH 29 900 rfl rfl rfl fun cp hcp=>?_
 refine aN ?_
 refine aI (fun e2=>?_) (fun e2=>?_)
 ·refine aF ?_
  refine gY (TD TT_ok 900 902 29 rfl rfl rfl rfl rfl rfl rfl rfl rfl rfl rfl rfl ⟨by omega,by omega,by omega,by omega⟩ ⟨by show (_+_) * 32≤140737488355328;omega,by unfold maxL;omega⟩ hf (iZ ?_))
  refine aN ?_
  refine gY (sW TT_ok 902 rfl rfl rfl rfl rfl rfl rfl rfl rfl rfl ⟨by omega,by omega,by omega,Nat.lt_min.2 ⟨by omega,by omega⟩⟩ (fun j hj=>hg j (Nat.lt_of_lt_of_le hj (Nat.min_le_left _ _))) (iZ ?_))
  refine aN ?_
  refine zM 9 902 rfl rfl fun cp2 _=>?_
  refine aW [902] [0,1,2,3,4,5,6,7,8] fun B0 H0=>?_
  refine bG 8 rfl (by kernel_rfl) (sW TT_ok 902 rfl rfl rfl rfl rfl rfl rfl rfl rfl rfl ⟨by omega,by omega,by omega,Nat.lt_min.2 ⟨by omega,by omega⟩⟩ ?hone (bD ?_) (hob:=?hob))
  case hob=>first | exact ⟨⟨by omega,by omega,by omega⟩,trivial⟩ | exact ⟨rfl,⟨by omega,by omega,by omega⟩,trivial⟩
  case hone=>exact fun j hj=>hf _ (by have:=Nat.lt_of_lt_of_le hj (Nat.min_le_left _ _);omega)
  refine aP ?_
  refine aC (()) [(6,none)] ?_ ?_ ?_
  ·exact SVs.cons IM rfl
  ·exact ⟨⟨_,rfl,Ch.imp_len (by omega) fun j hj=>XW hi (Nat.min_eq_left (by omega)) ((Nat.min_eq_left (by omega)).trans (by omega)) (fun j hj=>by rw [jA (by omega)]) j (by omega)⟩,trivial⟩
  ·trivial
 refine bB (aAD 0 29 900 rfl rfl rfl rfl) ?_
 refine aF ?_
 refine gY (aAA TT_ok 900 902 29 rfl rfl rfl rfl rfl rfl rfl rfl rfl rfl rfl ⟨by omega,by omega,by unfold maxL;omega⟩ fun junk hj=>iZ ?_)
 refine aN ?_
 refine gY (aAy TT_ok 902 901 (ts:=35) (tr:=4) rfl Tryz.func265 rfl rfl rfl rfl rfl rfl rfl ⟨by omega,by omega,by omega,by omega⟩ (iZ ?_))
 refine aN ?_
 refine bX rfl (fun _=>?_) (fun e=>by cases e)
 refine aF ?_
 refine zM 0 902 rfl rfl fun cp2 _=>?_
 refine aW [902] [0,1,2,3,4,5,6,7,8] fun B0 H0=>?_
 refine bG 8 rfl (by kernel_rfl) (sW TT_ok 902 rfl rfl rfl rfl rfl rfl rfl rfl rfl rfl ⟨by omega,by omega,by omega,Nat.lt_min.2 ⟨by omega,by omega⟩⟩ ?hone (bD ?_) (hob:=?hob))
 case hob=>first | exact ⟨⟨by omega,by omega,by omega⟩,trivial⟩ | exact ⟨rfl,⟨by omega,by omega,by omega⟩,trivial⟩
 case hone=>exact fun j hj=>OL hf _ (by have:=Nat.lt_of_lt_of_le hj (Nat.min_le_right _ _);omega)
 refine aP ?_
 refine gY (sW TT_ok 902 rfl rfl rfl rfl rfl rfl rfl rfl rfl rfl ⟨by omega,by omega,by omega,Nat.lt_min.2 ⟨by omega,by omega⟩⟩ (fun j hj=>hg j (Nat.lt_of_lt_of_le hj (Nat.min_le_left _ _))) (iZ ?_))
 refine aN ?_
 refine aC (()) [(6,none)] ?_ ?_ ?_
 ·exact SVs.cons IM rfl
 ·exact ⟨⟨_,rfl,Ch.imp_len (by omega) fun j hj=>X0 hi (Nat.min_eq_left (by omega)) ((Nat.min_eq_right (by omega)).trans (by omega)) (fun j hj=>by rw [jA (by omega)]) (fun j hj=>by rw [jA (by omega)];rfl) j (by omega)⟩,trivial⟩
 ·trivial
theorem NK (n m i:Nat) (f g:Nat→List D) (hn:n≤1048576) (hm:m≤1048576) (h0:0<m) (hi:i≤n) (hf:∀ j,j<n→∃ l,jR (f j)=some l) (hg:∀ j,j<m→∃ l,jR (g j)=some l) :
  Con Tryz.prog 271 [900,901] [.a (.g 900),vI i, .a (.g 901)] [(900, .arr 1 n f),(901, .arr 1 m g)] (fun _:Unit=>True) (fun _=>[.a (.g 902)]) fun _=>[(902, .arr 1 (n+m) (yP i m g f))]:=by
 refine aE Tryz.func271 fun B0 r_ D_ w0=>?_
 refine aF ?_
 refine mC rfl (fun e=>absurd e (by omega)) (fun _=>?_)
 refine aF ?_
 refine aI (fun e=>?_) (fun e=>?_)
 ·have hin:i=n:=by omega
  subst hin
  refine aF ?_
  refine oG TT_ok 900 902 rfl rfl rfl rfl rfl rfl rfl rfl rfl rfl rfl rfl ⟨by show (_+_) * 8≤140737488355328;omega,by unfold maxL;omega⟩ ?_ (hone:=hg)
  refine aN ?_
  refine aC (()) [(6,none)] ?_ ?_ ?_
  ·exact aCu _
  ·exact ⟨⟨_,rfl,Ch.imp_arr fun j hj=>(SS j).resolve_right (by omega)⟩,trivial⟩
  ·trivial
 refine aF ?_
 refine VH 29 900 rfl rfl rfl fun cp hcp=>?_
 refine aN ?_
 refine aI (fun e2=>?_) (fun e2=>?_)
 ·refine aF ?_
  refine gY (TD TT_ok 900 902 29 rfl rfl rfl rfl rfl rfl rfl rfl rfl rfl rfl rfl ⟨by omega,by omega,by omega,by omega⟩ ⟨by show (_+_) * 8≤140737488355328;omega,by unfold maxL;omega⟩ hf (iZ ?_))
  refine aN ?_
  refine gY (sW TT_ok 902 rfl rfl rfl rfl rfl rfl rfl rfl rfl rfl ⟨by omega,by omega,by omega,Nat.lt_min.2 ⟨by omega,by omega⟩⟩ (fun j hj=>hg j (Nat.lt_of_lt_of_le hj (Nat.min_le_left _ _))) (iZ ?_))
  refine aN ?_
  refine zM 9 902 rfl rfl fun cp2 _=>?_
  refine aW [902] [0,1,2,3,4,5,6,7,8] fun B0 H0=>?_
  refine bG 8 rfl (by kernel_rfl) (sW TT_ok 902 rfl rfl rfl rfl rfl rfl rfl rfl rfl rfl ⟨by omega,by omega,by omega,Nat.lt_min.2 ⟨by omega,by omega⟩⟩ ?hone (bD ?_) (hob:=?hob))
  case hob=>first | exact ⟨⟨by omega,by omega,by omega⟩,trivial⟩ | exact ⟨rfl,⟨by omega,by omega,by omega⟩,trivial⟩
  case hone=>exact fun j hj=>hf _ (by have:=Nat.lt_of_lt_of_le hj (Nat.min_le_left _ _);omega)
  refine aP ?_
  refine aC (()) [(6,none)] ?_ ?_ ?_
  ·exact SVs.cons IM rfl
  ·exact ⟨⟨_,rfl,Ch.imp_len (by omega) fun j hj=>XW hi (Nat.min_eq_left (by omega)) ((Nat.min_eq_left (by omega)).trans (by omega)) (fun j hj=>by rw [jA (by omega)]) j (by omega)⟩,trivial⟩
  ·trivial
 refine bB (aAD 0 29 900 rfl rfl rfl rfl) ?_
 refine aF ?_
 refine gY (aAA TT_ok 900 902 29 rfl rfl rfl rfl rfl rfl rfl rfl rfl rfl rfl ⟨by omega,by omega,by unfold maxL;omega⟩ fun junk hj=>iZ ?_)
 refine aN ?_
 refine gY (aAy TT_ok 902 901 (ts:=37) (tr:=4) rfl Tryz.func279 rfl rfl rfl rfl rfl rfl rfl ⟨by omega,by omega,by omega,by omega⟩ (iZ ?_))
 refine aN ?_
 refine bX rfl (fun _=>?_) (fun e=>by cases e)
 refine aF ?_
 refine zM 0 902 rfl rfl fun cp2 _=>?_
 refine aW [902] [0,1,2,3,4,5,6,7,8] fun B0 H0=>?_
 refine bG 8 rfl (by kernel_rfl) (sW TT_ok 902 rfl rfl rfl rfl rfl rfl rfl rfl rfl rfl ⟨by omega,by omega,by omega,Nat.lt_min.2 ⟨by omega,by omega⟩⟩ ?hone (bD ?_) (hob:=?hob))
 case hob=>first | exact ⟨⟨by omega,by omega,by omega⟩,trivial⟩ | exact ⟨rfl,⟨by omega,by omega,by omega⟩,trivial⟩
 case hone=>exact fun j hj=>OL hf _ (by have:=Nat.lt_of_lt_of_le hj (Nat.min_le_right _ _);omega)
 refine aP ?_
 refine gY (sW TT_ok 902 rfl rfl rfl rfl rfl rfl rfl rfl rfl rfl ⟨by omega,by omega,by omega,Nat.lt_min.2 ⟨by omega,by omega⟩⟩ (fun j hj=>hg j (Nat.lt_of_lt_of_le hj (Nat.min_le_left _ _))) (iZ ?_))
 refine aN ?_
 refine aC (()) [(6,none)] ?_ ?_ ?_
 ·exact SVs.cons IM rfl
 ·exact ⟨⟨_,rfl,Ch.imp_len (by omega) fun j hj=>X0 hi (Nat.min_eq_left (by omega)) ((Nat.min_eq_right (by omega)).trans (by omega)) (fun j hj=>by rw [jA (by omega)]) (fun j hj=>by rw [jA (by omega)];rfl) j (by omega)⟩,trivial⟩
 ·trivial
end
section
theorem aAK {α:Type} {sz:Nat} {enc:α→List D} {z x:α} {p:Nat} {xs:List α} (h:p≤xs.length):(Ch.arr sz (xs.length+1) (yP p 1 (fun _=>enc x) fun j=>enc (xs.getD j z))).imp (bE sz enc z (iB p x xs)) :=
 Ch.imp_len (by rw [kC h]) fun j hj=>by
  rw [nN h]
  unfold yP
  by_cases a:j<p
  ·rw [if_pos a,if_pos a]
  ·rw [if_neg a,if_neg a]
   by_cases b:j<p+1
   ·rw [if_pos b,if_pos b]
   ·rw [if_neg b,if_neg b]
end
section
section
variable {P:Program}
theorem aCc {n:Nat} {g:Nat→List D} {row:Nat→List Value} {q:Nat→Value} {B:BE} {Z Z':Tg→PH} {y:Value} (hr:(Z .r).le (Z' .r)) (hrow:∀ i,i<n→D.rds (Z' .r) (g i) (row i))
  (h:SV.rel P B Z (fbP (fun i:Nat=>i<n) (fun i=>[RD.ag (g i)]) q) y):SV.rel P B Z' (fbP (fun i:Nat=>i<n) (fun i=>[RD.ag ((row i).map D.v)]) q) y:=by
 obtain ⟨f,vs,e,F⟩:=h
 refine ⟨f,vs,e,F.1,fun args x hx w h vals l fh rv=>?_⟩
 obtain ⟨i,hi,rfl,rfl⟩:=hx
 refine F.2 [RD.ag (g i)] _ ⟨i,hi,rfl,rfl⟩ w h vals (PH.le_trans hr l) fh ?_
 obtain ⟨y,t,rfl,⟨us,rfl,hu⟩,rfl⟩:=rv
 have:=uQ hu
 subst this
 exact ⟨_,_,rfl,⟨_,rfl,D.rds_mono l _ (hrow i hi)⟩,rfl⟩
theorem Con.lift1 {ι:Type} {f sz n k ko:Nat} {g:Nat→List D} {ks:List Nat} {args:List SV} {args':(Nat→List Value)→List SV} {φ:ι→Prop} {res:ι→List SV} {m:ι→Nat} {σ:ι→Nat→Nat}
  (h1:∀ i,i<n→tO (g i)=true) (hσ:∀ y,φ y→∀ j,j<m y→σ y j<n) (hin:∀ y,φ y→∀ i j,i<m y→j<m y→i≠j→σ y i≠σ y j)
  (hA:∀ (B:BE) (r r':PH) (H H':Nat→PH) (vals:List Value) (row:Nat→List Value),r.le r'→(∀ i,i<n→D.rds r' (g i) (row i))→SV.rels P B (Zf r H) args vals→SV.rels P B (Zf r' H') (args' row) vals)
  (hR:∀ y (B:BE) (r r':PH) (H H':Nat→PH) (out:List Value),SV.rels P B (Zf r H) (res y) out→SV.rels P B (Zf r' H') (res y) out)
  (C:∀ row:Nat→List Value,(∀ i,i<n→(row i).length=sz)→(∀ i,i<n→∀ u ∈ row i,eQ u=true)→(∃ hh,∀ i,i<n→D.rds hh (g i) (row i))→Con P f ks (args' row) [(k, .arr sz n fun i=>(row i).map D.v)] φ res fun y=>[(ko, .arr sz (m y) fun j=>(row (σ y j)).map D.v)]) :
  Con P f ks args [(k, .arr sz n g)] φ res fun y=>[(ko, .arr sz (m y) fun j=>g (σ y j))]:=fun B r w H vals mm hemp hargs=>by
 have kk:∀ c:Ch,c.own? = true→bF k (bU [(k,c)])=true:=fun c hc=>by simp [bU,hc,bF,Nat.beq_refl]
 have kn:∀ (c:Ch) j,c.own? = true→bF j (bU [(k,c)])=true→j=k:=fun c j hc h=>by
  simp only [bU,hc,cond_true] at h
  rw [fN] at h
  rcases h with h | h
  ·exact h.symm
  ·cases h
 have s0:D.own (H k) (.sl sz n g) (B k):=mm.sat k (.arr sz n g) (by rw [bV,if_pos rfl])
 obtain ⟨A,c,row,hc,hp,G,e1,e2,va,lc,lp,dcp,ho,hG,hd⟩:=lV s0
 have drp:r.dj hp:=PH.dj_symm (PH.dj_le (mm.djr k) lp (PH.le_refl _))
 have ro:=PH.le_un_left r hp
 have rp:=PH.le_un_right drp
 have hrow:∀ i,i<n→D.rds (r.un hp) (g i) (row i):=fun i hi=>D.rds_mono (PH.le_trans (hG i) rp) _ (D.owns_rds _ (ho i hi).1)
 let H1:Nat→PH:=fun j=>if j=k then hc else PH.emp
 have hk1:H1 k=hc:=by simp [H1]
 have hne:∀ j,j≠k→H1 j=PH.emp:=fun j hj=>by simp [H1,hj]
 have mm1:Mm B (r.un hp) [(k, .arr sz n fun i=>(row i).map D.v)] w H1:=by
  refine ⟨fun j d e=>?_,fun j=>?_,fun i j hij=>?_,fun j=>?_,Fit.un mm.fitr ((mm.fit k).fit.le lp)⟩
  ·rw [bV] at e
   by_cases hj:k=j
   ·subst hj
    rw [if_pos rfl] at e;injection e with e;subst e
    rw [hk1]
    show D.own hc _ (B k)
    rw [e1]
    exact lX (hp:=PH.emp) (G:=fun _=>PH.emp) va e2 (PH.le_refl _) (PH.emp_le _) (PH.dj_emp _) (fun i _=>jL) (fun _ _=>PH.le_refl _) fun _ _ _ _ _=>PH.emp_dj _
   ·rw [if_neg hj] at e;cases e
  ·by_cases hj:j=k
   ·subst hj;rw [hk1];exact (mm.fit j).le lc
   ·rw [hne j hj];exact FitO.emp w
  ·by_cases hi:i=k
   ·rw [hne j fun e=>hij (hi.trans e.symm)];exact PH.dj_emp _
   ·rw [hne i hi];exact PH.emp_dj _
  ·by_cases hj:j=k
   ·subst hj;rw [hk1];exact PH.dj_un (PH.dj_le (mm.djr j) lc (PH.le_refl _)) dcp
   ·rw [hne j hj];exact PH.emp_dj _
 have own1:∀ b o,kM [(k, .arr sz n fun i=>(row i).map D.v)] H1 b o→hc b o≠none:=fun b o ⟨j,g1,g2⟩=>by
  have:=kn _ j rfl g1
  subst this
  rwa [hk1] at g2
 have own0:∀ b o,H k b o≠none→kM [(k, .arr sz n g)] H b o:=fun b o h=>⟨k,kk _ rfl,h⟩
 refine (C row (fun i hi=>(ho i hi).2) (fun i hi=>sL (ho i hi).1 (o9 (h1 i hi))) ⟨_,hrow⟩ B (r.un hp) w H1 vals mm1 (fun j hj=>hne j fun e=>by subst e;rw [kk _ rfl] at hj;cases hj) (hA B r _ H H1 vals row ro hrow hargs)).mono ?_
 rintro e w' ⟨y,B',H',out,hy,he,hres,mm2,hB,hkeep,hdom⟩
 have s2:D.own (H' ko) (.sl sz (m y) fun j=>(row (σ y j)).map D.v) (B' ko):=mm2.sat ko (.arr sz (m y) fun j=>(row (σ y j)).map D.v) (by rw [bV,if_pos rfl])
 obtain ⟨A2,c2,lO,hc2,hp2,G2,f1,f2,va2,lc2,lp2,dcp2,ho2,hG2,hd2⟩:=lV s2
 have heq:∀ j,j<m y→lO j=row (σ y j):=fun j hj=>zH (ho2 j hj).1
 have dk:(H' ko).dj hp:=PH.dj_le (mm2.djr ko) (PH.le_refl _) rp
 let H3:Nat→PH:=fun j=>if j=ko then (H' ko).un hp else PH.emp
 have h3:H3 ko=(H' ko).un hp:=by simp [H3]
 have h3n:∀ j,j≠ko→H3 j=PH.emp:=fun j hj=>by simp [H3,hj]
 have fitp:FitO hp w':=((mm.fit k).le lp).keep hkeep fun b o h hD=>by
  have h1:=own1 b o hD
  rcases dcp b o with h2 | h2
  ·exact h1 h2
  ·exact h h2
 refine ⟨y,B',H3,out,hy,he,hR y B' _ _ H' H3 out hres,⟨fun j d e=>?_,fun j=>?_,fun i j hij=>?_,fun j=>?_,mm2.fitr.le ro⟩,hB,hkeep.mono fun b _ o h=>own0 b o (PH.le_ne lc (own1 b o h)),fun j b o h=>?_⟩
 ·rw [bV] at e
  by_cases hj:ko=j
  ·subst hj
   rw [if_pos rfl] at e;injection e with e;subst e
   rw [h3]
   show D.own _ _ (B' ko)
   rw [f1]
   refine lX (hc:=hc2) (hp:=hp) (G:=fun j=>G (σ y j)) (row:=lO) va2 f2 (PH.le_trans lc2 (PH.le_un_left _ _)) (PH.le_un_right dk) (PH.dj_le dk lc2 (PH.le_refl _)) (fun j hj=>?_) (fun j _=>hG _) fun i j hi hj hij=>hd _ _ (hin y hy i j hi hj hij)
   rw [heq j hj];exact (ho _ (hσ y hy j hj)).1
  ·rw [if_neg hj] at e;cases e
 ·by_cases hj:j=ko
  ·subst hj;rw [h3];exact (mm2.fit j).un fitp
  ·rw [h3n j hj];exact FitO.emp w'
 ·by_cases hi:i=ko
  ·rw [h3n j fun e=>hij (hi.trans e.symm)];exact PH.dj_emp _
  ·rw [h3n i hi];exact PH.emp_dj _
 ·by_cases hj:j=ko
  ·subst hj;rw [h3];exact PH.un_dj (PH.dj_le (mm2.djr j) (PH.le_refl _) ro) (PH.dj_symm drp)
  ·rw [h3n j hj];exact PH.emp_dj _
 ·by_cases hj:j=ko
  ·subst hj
   rw [h3] at h
   rcases PH.un_ne h with h1 | h1
   ·rcases hdom j b o h1 with h2 | h2
    ·exact .inl (own0 b o (PH.le_ne lc (own1 b o h2)))
    ·exact .inr h2
   ·exact .inl (own0 b o (PH.le_ne lp h1))
  ·rw [h3n j hj] at h;exact absurd rfl h
end
end
section
theorem DU (c:GCluster) (hl:c.txs.length≤1048576) (id:Int) (h:0≤bQ c id):Con Tryz.prog 80 [900,903] [.a (.p 900 0),vI id] [(900, .rrow (fW c 901 902 903)),(903,roC 7 cTx aCk c.txs)] (fun _:Unit=>True) (fun _=>[.a (.pe 903 7 (bQ c id) 0)]) fun _=>[]:=by
 have hin:=dW h
 refine aE Tryz.func80 fun B0 r_ D_ w0=>?_
 refine aF ?_
 refine lZ TT_ok (rV c.txs hl (fun _=>True) (fun _ _=>trivial) fun t=>t.id == id) rfl rfl (SVs.cons (aCs _) (SVs.cons (iO (aB) rfl fun args x ⟨n,_,e1,e2⟩=>by subst e1;subst e2;exact NP n _) rfl)) rfl rfl ?_
 refine aI (fun e=>absurd h (Int.not_le.2 e)) (fun _=>?_)
 have hx:0≤cI (fun t:GTx=>t.id == id) c.txs∧cI (fun t:GTx=>t.id == id) c.txs<c.txs.length:=⟨h,gO⟩
 refine aF ?_
 refine aC (()) [(4,none)] ?_ ?_ ?_
 ·exact aCu _
 ·trivial
 ·trivial
theorem L9 (c:GCluster) (hl:c.txs.length≤1048576) (id:Int) (h:bQ c id<0):Con Tryz.prog 80 [900,903] [.a (.p 900 0),vI id] [(900, .rrow (fW c 901 902 903)),(903,roC 7 cTx aCk c.txs)] (fun _:Unit=>True) (fun _=>[.a (.v (.pointer none))]) fun _=>[]:=by
 refine aE Tryz.func80 fun B0 r_ D_ w0=>?_
 refine aF ?_
 refine lZ TT_ok (rV c.txs hl (fun _=>True) (fun _ _=>trivial) fun t=>t.id == id) rfl rfl (SVs.cons (aCs _) (SVs.cons (iO (aB) rfl fun args x ⟨n,_,e1,e2⟩=>by subst e1;subst e2;exact NP n _) rfl)) rfl rfl ?_
 refine aI (fun _=>?_) (fun e=>absurd h e)
 refine aF ?_
 refine aC (()) [(4,none)] ?_ ?_ ?_
 ·exact aCu _
 ·trivial
 ·trivial
theorem BT (c:GCluster) (hl:c.txs.length≤1048576) (hok:ClusOk c) (id:Int) (h0:gC c id=0):Con Tryz.prog 182 [900,902,903] [.a (.p 900 0),vI id] [(900, .rrow (fW c 901 902 903)),(902,roC 4 bJ aCj c.machines),(903,roC 7 cTx aCk c.txs)] (fun _:Unit=>True) (fun _=>[.a (.pe 903 7 (bQ c id) 0),vI 0]) fun _=>[]:=by
 refine aE Tryz.func182 fun B0 r_ D_ w0=>?_
 refine aF ?_
 by_cases hf:bQ c id<0
 ·have h:gC c id=2:=by unfold gC;rw [decide_eq_true hf];rfl
  rw [h] at h0;cases h0
 have hin:=dW (c:=c) (id:=id) (by omega)
 have hlt:=gO (c:=c) (id:=id)
 have hh:=hok.home hin.1
 refine cO TT_ok (DU c hl id (by omega)) rfl rfl (aCu _) (fun _=>rfl) rfl rfl rfl (fun _ _=>?_) (hin:=⟨⟨_,rfl,fG⟩,⟨_,rfl,fS⟩,trivial⟩)
 refine aN ?_
 refine bX rfl (fun e=>by cases e) (fun e=>?_)
 refine aF ?_
 refine aW [] [0,1,2,3,4,5,6,7,8,9,10,11,12] fun B0 H0=>?_
 refine aP ?_
 refine aA (b := !jE c id) (fun e2=>?_) (fun e2=>?_)
 ·have h:gC c id=3:=by unfold gC;rw [decide_eq_false hf,e2];rfl
  rw [h] at h0;cases h0
 have h:gC c id=0:=by unfold gC;rw [decide_eq_false hf,e2];rfl
 refine aF ?_
 refine aC (()) [(4,none),(5,none)] ?_ ?_ ?_
 ·exact aCu _
 ·trivial
 ·trivial
theorem MK (c:GCluster) (hl:c.txs.length≤1048576) (hok:ClusOk c) (id:Int) (h0:gC c id≠0):Con Tryz.prog 182 [900,902,903] [.a (.p 900 0),vI id] [(900, .rrow (fW c 901 902 903)),(902,roC 4 bJ aCj c.machines),(903,roC 7 cTx aCk c.txs)] (fun _:Unit=>True) (fun _=>[.a (.v (.pointer none)),vI (gC c id)]) fun _=>[]:=by
 refine aE Tryz.func182 fun B0 r_ D_ w0=>?_
 refine aF ?_
 by_cases hf:bQ c id<0
 ·have h:gC c id=2:=by unfold gC;rw [decide_eq_true hf];rfl
  rw [h]
  refine cO TT_ok (L9 c hl id hf) rfl rfl (aCu _) (fun _=>rfl) rfl rfl rfl (fun _ _=>?_) (hin:=⟨⟨_,rfl,fG⟩,⟨_,rfl,fS⟩,trivial⟩)
  refine aN ?_
  refine bX rfl (fun e=>?_) (fun e=>by cases e)
  refine aF ?_
  refine aC (()) [(4,none),(5,none)] ?_ ?_ ?_
  ·exact aCu _
  ·trivial
  ·trivial
 have hin:=dW (c:=c) (id:=id) (by omega)
 have hlt:=gO (c:=c) (id:=id)
 have hh:=hok.home hin.1
 refine cO TT_ok (DU c hl id (by omega)) rfl rfl (aCu _) (fun _=>rfl) rfl rfl rfl (fun _ _=>?_) (hin:=⟨⟨_,rfl,fG⟩,⟨_,rfl,fS⟩,trivial⟩)
 refine aN ?_
 refine bX rfl (fun e=>by cases e) (fun e=>?_)
 refine aF ?_
 refine aW [] [0,1,2,3,4,5,6,7,8,9,10,11,12] fun B0 H0=>?_
 refine aP ?_
 refine aA (b := !jE c id) (fun e2=>?_) (fun e2=>?_)
 ·have h:gC c id=3:=by unfold gC;rw [decide_eq_false hf,e2];rfl
  rw [h]
  refine aF ?_
  refine aC (()) [(4,none),(5,none)] ?_ ?_ ?_
  ·exact aCu _
  ·trivial
  ·trivial
 exact absurd (show gC c id=0 from by unfold gC;rw [decide_eq_false hf,e2];rfl) h0
theorem SD {c:GCluster} {id:Int} (h:gC c id≠0):dG c id=gC c id:=by
 unfold gC at h ⊢
 unfold dG
 by_cases hf:bQ c id<0
 ·rw [decide_eq_true hf];rfl
 ·rw [decide_eq_false hf] at h ⊢
  cases h2:jE c id with
  | false=>rfl
  | true=>rw [h2] at h;exact absurd rfl h
theorem uS {c:GCluster} {id:Int} (h:gC c id=0):0≤bQ c id:=by
 unfold gC at h
 by_cases hf:bQ c id<0
 ·rw [decide_eq_true hf] at h;cases h
 ·omega
theorem LR {c:GCluster} {id:Int} (h:gC c id=0):dG c id=bif !((bT c id).phase == 1) then 4 else 0:=by
 have hf:=uS h
 unfold gC at h
 unfold dG
 rw [decide_eq_false (by omega)] at h ⊢
 cases h2:jE c id with
 | false=>rw [h2] at h;cases h
 | true=>rfl
theorem RU (c:GCluster) (hl:c.txs.length≤1048576) (hok:ClusOk c) (id:Int) (h0:dG c id=0):Con Tryz.prog 122 [900,902,903] [.a (.p 900 0),vI id] [(900, .rrow (fW c 901 902 903)),(902,roC 4 bJ aCj c.machines),(903,roC 7 cTx aCk c.txs)] (fun _:Unit=>True) (fun _=>[.a (.pe 903 7 (bQ c id) 0),vI 0]) fun _=>[]:=by
 have hL:=(jS h0).1
 have hin:=dW (uS hL)
 have hge:=uS hL
 have hlt:=gO (c:=c) (id:=id)
 refine aE Tryz.func122 fun B0 r_ D_ w0=>?_
 refine aF ?_
 refine cO TT_ok (BT c hl hok id hL) rfl rfl (aCu _) (fun _=>rfl) rfl rfl rfl (fun _ _=>?_) (hin:=⟨⟨_,rfl,fG⟩,⟨_,rfl,fS⟩,⟨_,rfl,fS⟩,trivial⟩)
 refine aN ?_
 refine aA (b := !((bT c id).phase == 1)) (fun e=>?_) (fun _=>?_)
 ·rw [(jS h0).2.1] at e;cases e
 refine aF ?_
 refine aC (()) [(4,none),(5,none)] ?_ ?_ ?_
 ·exact aCu _
 ·trivial
 ·trivial
theorem UD (c:GCluster) (hl:c.txs.length≤1048576) (hok:ClusOk c) (id:Int) (h0:dG c id≠0):Con Tryz.prog 122 [900,902,903] [.a (.p 900 0),vI id] [(900, .rrow (fW c 901 902 903)),(902,roC 4 bJ aCj c.machines),(903,roC 7 cTx aCk c.txs)] (fun _:Unit=>True) (fun _=>[.a (.v (.pointer none)),vI (dG c id)]) fun _=>[]:=by
 refine aE Tryz.func122 fun B0 r_ D_ w0=>?_
 refine aF ?_
 by_cases hL:gC c id=0
 ·have hin:=dW (uS hL)
  have hge:=uS hL
  have hlt:=gO (c:=c) (id:=id)
  refine cO TT_ok (BT c hl hok id hL) rfl rfl (aCu _) (fun _=>rfl) rfl rfl rfl (fun _ _=>?_) (hin:=⟨⟨_,rfl,fG⟩,⟨_,rfl,fS⟩,⟨_,rfl,fS⟩,trivial⟩)
  refine aN ?_
  refine aA (b := !((bT c id).phase == 1)) (fun e=>?_) (fun e=>?_)
  ·rw [show dG c id=4 from by rw [LR hL,e];rfl]
   refine aF ?_
   refine aC (()) [(4,none),(5,none)] ?_ ?_ ?_
   ·exact aCu _
   ·trivial
   ·trivial
  ·exact absurd (show dG c id=0 from by rw [LR hL,e];rfl) h0
 ·refine cO TT_ok (MK c hl hok id hL) rfl rfl (aCu _) (fun _=>rfl) rfl rfl rfl (fun _ _=>?_) (hin:=⟨⟨_,rfl,fG⟩,⟨_,rfl,fS⟩,⟨_,rfl,fS⟩,trivial⟩)
  rw [SD hL]
  refine aN ?_
  have hz:(gC c id == 0) = !true:=by simpa using hL
  refine lK (vI 0) rfl rfl rfl rfl (hz) rfl rfl ?_
  refine aN ?_
  refine lK (vI 0) rfl rfl rfl rfl (hz) rfl rfl ?_
  refine aN ?_
  refine lK (vI 0) rfl rfl rfl rfl (hz) rfl rfl ?_
  refine aN ?_
  refine bX rfl (fun e=>by rw [hz] at e;cases e) (fun e=>?_)
  refine aF ?_
  refine aC (()) [(4,none),(5,none)] ?_ ?_ ?_
  ·exact aCu _
  ·trivial
  ·trivial
theorem NO (c:GCluster) (hb:D.bds dJ (bO c)) (id:Int):vQ Tryz.prog 54 [vR (bO c),vI id] (eP c id).1 (eP c id).2:=by
 have b3:c.txs.length≤1048576:=hb.2.2.2.2.1.1
 refine aE Tryz.func54 fun B0 r_ D_ w0=>?_
 refine aT ?_
 refine aU 2 fun r_=>?_
 refine aF ?_
 refine aH (eT c hb) ?_
 refine eF rfl (fun e=>?_) (fun e=>?_)
 ·rw [show eP c id=(aCl,1) from if_neg (jN.1 e)]
  refine aF ?_
  refine bB (a5 4 2 1 (fun i=>cE (([]:List GPlace).getD i aCi))) ?_
  refine bB (a5 4 3 4 (fun i=>bJ (([]:List GMachine).getD i aCj))) ?_
  refine bB (a5 4 4 7 (fun i=>cTx (([]:List GTx).getD i aCk))) ?_
  refine bB (a6 4 2 901) ?_
  refine bB (a6 4 3 902) ?_
  refine bB (a6 4 4 903) ?_
  refine aC (()) [(4,some 28),(5,none)] ?_ ?_ ?_
  ·exact aCu _
  ·exact wM
  ·trivial
 have hok:=c9.1 e
 refine aF ?_
 refine aR (iU c hb) fun _ _=>?_
 refine aN ?_
 by_cases h0:dG c id=0
 ·rw [show eP c id=(goC c id,0) from by unfold eP;rw [if_pos hok,if_pos h0]]
  have hge:=(jS h0).2.2
  have hlt:=gO (c:=c) (id:=id)
  have hin:=dW hge
  refine aR (aCv 900 6 (RU c b3 hok id h0)) (fun _ _=>?_)
  refine aN ?_
  refine bX rfl (fun _=>?_) (fun e=>by cases e)
  refine bB (d6 903 (bQ c id) 77 rfl rfl rfl rfl rfl rfl ⟨hge,hlt⟩) ?_
  refine bB (kL 7 rfl rfl rfl) ?_
  refine aF ?_
  refine bB (a8 903 77) ?_
  refine aC (()) [(4,some 28),(5,none)] ?_ ?_ ?_
  ·exact aCu _
  ·exact ⟨⟨_,rfl,aCt _⟩,⟨_,rfl,aCt _⟩,⟨_,rfl,cG (OwnI.refl _)⟩,trivial⟩
  ·trivial
 ·rw [show eP c id=(c,dG c id) from by unfold eP;rw [if_pos hok,if_neg h0]]
  refine aR (aCv 900 6 (UD c b3 hok id h0)) (fun _ _=>?_)
  refine aN ?_
  refine aQ (fun e=>absurd e h0) (fun _=>?_)
  refine aF ?_
  refine aC (()) [(4,some 28),(5,none)] ?_ ?_ ?_
  ·exact aCu _
  ·exact wM
  ·trivial
end
section
theorem aAE {a b:Nat} (h:a<9223372036854775808) (h2:b<9223372036854775808):orI a b=((a ||| b:Nat):Int):=by
 unfold orI
 have e1:(BitVec.ofInt 64 (a:Int))=BitVec.ofNat 64 a:=by simp
 have e2:(BitVec.ofInt 64 (b:Int))=BitVec.ofNat 64 b:=by simp
 have e3:(BitVec.ofNat 64 a ||| BitVec.ofNat 64 b).toNat=a ||| b:=by
  rw [BitVec.toNat_or,BitVec.toNat_ofNat,BitVec.toNat_ofNat,Nat.mod_eq_of_lt (by omega),Nat.mod_eq_of_lt (by omega)]
 have h3:a ||| b<2 ^ 63:=Nat.or_lt_two_pow h h2
 rw [e1,e2,e3]
 exact IntWalk.i64_in _ (by omega)
theorem lor1 (a:Nat):a ||| 1=a / 2 * 2+1:=by
 have h1:(a ||| 1) / 2=a / 2:=by rw [Nat.or_div_two];simp
 have h2:(a ||| 1) % 2=1:=by rw [Nat.or_mod_two_eq_one];right;rfl
 omega
theorem or1 {h:Int} (k:jW h=true):orI h 1=h / 2 * 2+1:=by
 obtain ⟨h1,h2⟩:=kR.1 k
 obtain ⟨a,rfl⟩:=Int.eq_ofNat_of_zero_le h1
 rw [show (1:Int)=((1:Nat):Int) from rfl,aAE (by omega) (by decide),lor1];omega
theorem an1 {h:Int} (k:jW h=true):anI h 1=h / 2 * 2:=by
 obtain ⟨h1,h2⟩:=kR.1 k
 obtain ⟨a,rfl⟩:=Int.eq_ofNat_of_zero_le h1
 unfold anI
 have e1:(BitVec.ofInt 64 (a:Int))=BitVec.ofNat 64 a:=by simp
 have e2:(BitVec.ofInt 64 1)=BitVec.ofNat 64 1:=by decide
 have e3:(BitVec.ofNat 64 a &&& ~~~BitVec.ofNat 64 1).toNat=a &&& 18446744073709551614:=by
  rw [BitVec.toNat_and,BitVec.toNat_not,BitVec.toNat_ofNat,BitVec.toNat_ofNat,Nat.mod_eq_of_lt (by omega)]
 have e4:a &&& 18446744073709551614=a / 2 * 2:=by
  have g1:(a &&& 18446744073709551614) / 2=a / 2:=by
   rw [Nat.and_div_two,show 18446744073709551614 / 2=2 ^ 63 - 1 by decide,Nat.and_two_pow_sub_one_eq_mod]
   omega
  have g2:¬ (a &&& 18446744073709551614) % 2=1:=fun h=>by have:=(Nat.and_mod_two_eq_one.1 h).2;omega
  omega
 rw [e1,e2,e3,e4]
 rw [IntWalk.i64_in _ (by omega)]
 omega
abbrev rowY (m:GMachine) (r:Int) (k:Nat):List V:=[.v (.int .i64 (m.copies.getD (eM m r).toNat aCp).region), .g k]
theorem E9 (m:GMachine) (hl:m.copies.length≤1048576) (r0:Int) (hh:dX m r0=true) :
  Con Tryz.prog 107 [900,901] [.a (.p 900 0),vI r0] [(900, .rrow (nX m 901 902 903)),(901,bE 2 dA aCp m.copies)] (fun _:Unit=>True) (fun _=>[.a (.g 905)])
   fun _=>[(901, .hole 2 m.copies.length (fun i=>dA (m.copies.getD i aCp)) (eM m r0) 904),(904, .row (rowY m r0 905)),(905,bE 2 cX aCo (cellsOf m r0))]:=by
 obtain ⟨i0,hi0,hb,ha⟩:=HJ hh
 have hI:eM m r0=i0:=gA (z:=aCp) hi0 hb ha
 have hC:cellsOf m r0=(m.copies.getD i0 aCp).cells:=by rw [eW hh];show (m.copies.getD (eM m r0).toNat aCp).cells=_;rw [hI];rfl
 unfold rowY
 rw [hI,hC]
 refine aE Tryz.func107 fun B0 r_ D_ w0=>?_
 refine aF ?_
 refine aK (ι:=Nat) (fun i=>[(12,vI i)]) (fun _=>[(901,bE 2 dA aCp m.copies)]) (fun i=>i≤i0) (fun i=>i0 - i) 0 [901] [] (Nat.zero_le _) ?_
 intro i h1
 have hi:i<m.copies.length:=by omega
 refine aF ?_
 refine mC rfl (fun e=>?_) (fun e=>absurd (by omega:(i:Int)<m.copies.length) e)
 refine bB (d6 901 i 904 rfl rfl rfl rfl rfl rfl ⟨by omega,by omega⟩) ?_
 refine bB (a6 904 1 905) ?_
 refine aF ?_
 refine eY (kL 14 rfl rfl rfl) ?_
 refine aN ?_
 refine aA (fun e2=>?_) (fun e2=>?_)
 ·have hii:i=i0:=by
   rcases Nat.lt_or_ge i i0 with h | h
   ·have:=(hb i h).symm.trans e2;cases this
   ·omega
  subst hii
  refine aF ?_
  refine aC (()) [(4,none)] ?_ ?_ ?_
  ·exact aCu _
  ·exact wM
  ·trivial
 ·have hlt:i<i0:=by
   rcases Nat.lt_or_ge i i0 with h | h
   ·exact h
   ·have:i=i0:=by omega
    subst this
    have:=ha.symm.trans e2;cases this
  refine aF ?_
  refine bC (a9 904 1 905) ?_
  refine bC (a8 901 904) ?_
  exact bN (i+1) hlt (by omega) wF ⟨⟨_,rfl,Ch.imp_arr fun j hj=>by
   by_cases c:j=i
   ·subst c;rw [show Nat.beq j ((j:Int)).toNat=true from Nat.beq_refl j];rfl
   ·rw [show Nat.beq j ((i:Int)).toNat=false from by cases e:Nat.beq j ((i:Int)).toNat with
     | false=>rfl
     | true=>exact absurd (Nat.eq_of_beq_eq_true e) c]
    rfl⟩,wM⟩
end
section
abbrev fbI (n:Nat) (rd:Nat→List RD) (p:Nat→Bool):SV:=fbP (fun i:Nat=>i<n) rd fun i => .bool (p i)
theorem FV (n:Nat) (hl:n≤1048576) (f:Nat→Nat→Value) (p:Nat→Bool):Ans Tryz.prog 217 [] [.a (.s .r 4 n (vM f)),fbI n (fun i=>[RD.ag (vM f i)]) p] [] (vI (cI p (List.range n))):=by
 have hR:(List.range n).length=n:=List.length_range
 refine aE Tryz.func217 fun B0 r_ D_ w0=>?_
 refine aF ?_
 refine aK (ι:=Nat) (fun i=>[(8,vI i)]) (fun _=>[]) (fun i=>i≤n∧∀ j,j<i→p ((List.range n).getD j 0)=false) (fun i=>n - i) 0 [] [] ⟨Nat.zero_le _,fun j hj=>absurd hj (Nat.not_lt_zero _)⟩ ?_
 intro i ⟨h1,h2⟩
 refine aF ?_
 refine aI (fun e=>?_) (fun e=>?_)
 ·have hi:i<n:=by omega
  refine aF ?_
  refine vE rfl rfl rfl ⟨i,hi,rfl,rfl⟩ ?_
  refine aN ?_
  refine aA (fun e2=>?_) (fun e2=>?_)
  ·refine aF ?_
   exact dK TT_ok [(4,none)] rfl rfl ((gA (z:=0) (by omega) h2 (by rw [gV hi];exact e2)).symm)
  ·refine aF ?_
   exact aL (i+1) ⟨hi,b5 h2 (by rw [gV hi];exact e2)⟩ (by omega)
 ·refine aF ?_
  exact dK TT_ok [(4,none)] rfl rfl ((gT (z:=0) fun j hj=>h2 j (by omega)).symm)
theorem EI (n:Nat) (hl:n≤1048576) (f:Nat→Nat→Value) (p:Nat→Bool):Con Tryz.prog 268 [900] [.a (.g 900),fbI n (fun i=>[RD.ag (vM f i)]) p] [(900, .arr 4 n (vM f))] (fun _:Unit=>True) (fun _=>[.a (.g 901)]) fun _=>[(901, .arr 4 ((List.range n).filter fun x => !p x).length fun j=>vM f (((List.range n).filter fun x => !p x).getD j 0))]:=by
 have hR:(List.range n).length=n:=List.length_range
 refine aE Tryz.func268 fun B0 r_ D_ w0=>?_
 refine aF ?_
 refine aH (FV n hl f p) ?_
 rcases gH p 0 (List.range n) with ⟨h1,h2⟩ | ⟨i0,h1,h2,h3,h4⟩
 ·refine aQ (fun _=>?_) (fun e=>absurd h1 e)
  refine aF ?_
  refine bB (FC 4 900 901 rfl rfl rfl rfl rfl rfl) ?_
  refine aC (()) [(4,none)] ?_ ?_ ?_
  ·exact aCu _
  ·exact ⟨⟨_,rfl,by rw [← v6 (z:=0) h2];exact Ch.imp_len hR.symm fun i hi=>by rw [gV hi]⟩,trivial⟩
  ·trivial
 have h5:i0<n:=by rwa [hR] at h1
 rw [h2]
 refine s6 rfl (fun e=>by omega) (fun _=>?_)
 refine aF ?_
 refine cY (ι:=Nat×(Nat→Nat)) (fun y=>[(6,vI y.1),(5,vI (((List.range n).take y.1).filter fun x => !p x).length)]) (fun y=>[(900, .arr 4 n fun k=>vM f (y.2 k))])
  (fun y=>i0<y.1∧y.1≤n∧(∀ k,k<(((List.range n).take y.1).filter fun x => !p x).length→y.2 k=(((List.range n).take y.1).filter fun x => !p x).getD k 0)∧∀ k,y.1≤k→k<n→y.2 k=(List.range n).getD k 0)
  (fun y=>n - y.1) (i0+1,fun k=>k) [900] [] rfl rfl ⟨Nat.lt_succ_self _,h5,?_,fun k _ hk=>(gV hk).symm⟩ ?_ wM ?_
 ·intro k hk
  rw [tD h1 h3 h4] at hk ⊢
  rw [m5 hk,gV (by rw [List.length_take] at hk;omega)]
 ·refine And.intro ⟨_,rfl,aCw ?_⟩ (And.intro ⟨_,rfl,aCw ?_⟩ trivial)
  ·simp
  ·rw [tD h1 h3 h4];simp;omega
 rintro ⟨j,h⟩ ⟨g1,g2,g3,g4⟩
 dsimp only at g1 g2 g3 g4 ⊢
 have hle:=mE (List.range n) (fun x => !p x) j
 refine aF ?_
 refine aI (fun e=>?_) (fun e=>?_)
 ·have hj:j<n:=by omega
  refine aF ?_
  refine vE rfl rfl rfl ⟨h j,by rw [g4 j (Nat.le_refl _) hj,gV hj];exact hj,rfl,rfl⟩ ?_
  refine aN ?_
  refine eF rfl (fun e2=>?_) (fun e2=>?_)
  ·have hF:=jM (z:=0) (by rw [hR];exact hj) (p:=fun x => !p x) (by rw [← g4 j (Nat.le_refl _) hj,e2];rfl)
   refine aF ?_
   refine bN (j+1,fun k=>if k=(((List.range n).take j).filter fun x => !p x).length then h j else h k) ⟨by omega,hj,fun k hk=>?_,fun k k1 k2=>?_⟩ (by show n - (j+1)<n - j;omega) ?_ ⟨⟨_,rfl,Ch.imp_arr fun k hk=>?_⟩,wM⟩
   ·dsimp only at hk ⊢
    rw [hF,List.length_append,List.length_singleton] at hk
    rw [hF]
    by_cases c:k=(((List.range n).take j).filter fun x => !p x).length
    ·rw [if_pos c,c,rS,g4 j (Nat.le_refl _) hj]
    ·rw [if_neg c,rM (by omega)];exact g3 k (by omega)
   ·dsimp only at k1 ⊢
    rw [if_neg (by omega)];exact g4 k (by omega) k2
   ·refine And.intro ⟨_,rfl,aCw ?_⟩ (And.intro ⟨_,rfl,aCw ?_⟩ wF)
    ·simp
    ·dsimp only;rw [hF];simp
   ·dsimp only
    by_cases c:k=(((List.range n).take j).filter fun x => !p x).length
    ·subst c
     simp only [Int.toNat_natCast,Nat.beq_refl,cond_true,if_true]
    ·rw [if_neg c]
     have:Nat.beq k ((((List.range n).take j).filter fun x => !p x).length:Int).toNat=false:=by
      simp only [Int.toNat_natCast]
      cases e:Nat.beq k (((List.range n).take j).filter fun x => !p x).length with
      | false=>rfl
      | true=>exact absurd (Nat.eq_of_beq_eq_true e) c
     rw [this];rfl
  ·have hF:=j4 (z:=0) (by rw [hR];exact hj) (p:=fun x => !p x) (by rw [← g4 j (Nat.le_refl _) hj,e2];rfl)
   refine aF ?_
   refine bN (j+1,h) ⟨by omega,hj,fun k hk=>?_,fun k k1 k2=>g4 k (by dsimp only at k1;omega) k2⟩ (by show n - (j+1)<n - j;omega) ?_ wM
   ·dsimp only at hk ⊢
    rw [← hF] at hk ⊢;exact g3 k hk
   ·refine And.intro ⟨_,rfl,aCw ?_⟩ (And.intro ⟨_,rfl,aCw ?_⟩ wF)
    ·simp
    ·dsimp only;rw [← hF]
 ·have hj:n=j:=by omega
  subst hj
  rw [show (List.range n).take n=List.range n from List.take_of_length_le (by simp)] at g3 hle ⊢
  refine aF ?_
  refine B7 TT_ok 38 900 rfl rfl rfl rfl rfl rfl ⟨by omega,by omega,by omega⟩ rfl rfl rfl rfl ?_
  refine aN ?_
  refine bB (FS 4 900 901 rfl rfl rfl ⟨by omega,by omega,by omega⟩ rfl rfl rfl) ?_
  refine aC (()) [(4,none)] ?_ ?_ ?_
  ·exact aCu _
  ·refine ⟨⟨_,rfl,Ch.imp_len (by omega) fun k hk=>?_⟩,trivial⟩
   dsimp only
   rw [if_neg (by omega),g3 _ (by omega)]
   congr 2;omega
  ·trivial
theorem EP (xs:List GRecord) (hl:xs.length≤1048576) (p:GRecord→Bool):Con Tryz.prog 268 [900] [.a (.g 900),fbO (fun x=>[RD.ag (cK x)]) fun x => .bool (p x)] [(900,bE 4 cK aCq xs)] (fun _:Unit=>True) (fun _=>[.a (.g 901)]) fun _=>[(901,bE 4 cK aCq (xs.filter fun x => !p x))]:=by
 have hmem:∀ j,j<((List.range xs.length).filter fun x => !p (xs.getD x aCq)).length→((List.range xs.length).filter fun x => !p (xs.getD x aCq)).getD j 0<xs.length:=fun j hj=>by
  rw [gd0 hj]
  have h1:=(List.mem_filter.1 (List.getElem_mem hj)).1
  exact List.mem_range.1 h1
 have hC:=Con.lift1 (P:=Tryz.prog) (ι:=Unit) (f:=268) (sz:=4) (n:=xs.length) (k:=900) (ko:=901) (g:=fun i=>cK (xs.getD i aCq)) (ks:=[900])
  (args:=[.a (.g 900),fbI xs.length (fun i=>[RD.ag (cK (xs.getD i aCq))]) fun i=>p (xs.getD i aCq)])
  (args':=fun row=>[.a (.g 900),fbI xs.length (fun i=>[RD.ag ((row i).map D.v)]) fun i=>p (xs.getD i aCq)]) (φ:=fun _=>True) (res:=fun _=>[.a (.g 901)])
  (m:=fun _=>((List.range xs.length).filter fun x => !p (xs.getD x aCq)).length) (σ:=fun _ j=>((List.range xs.length).filter fun x => !p (xs.getD x aCq)).getD j 0)
  (fun _ _=>rfl) (fun _ _ j hj=>hmem j hj)
  (fun _ _ i j hi hj hij e=>by
   have hn:((List.range xs.length).filter fun x => !p (xs.getD x aCq)).Nodup:=List.nodup_range.filter _
   have h1:=List.pairwise_iff_getElem.1 hn
   rw [gd0 hi,gd0 hj] at e
   rcases Nat.lt_or_gt_of_ne hij with h | h
   ·exact h1 i j hi hj h e
   ·exact h1 j i hj hi h e.symm)
  (fun B r r' H H' vals row hr hrow ⟨y,t,e1,e2,y2,t2,e3,e4,e5⟩=>⟨y,t,e1,e2,y2,t2,e3,aCc (Z:=Zf r H) (Z':=Zf r' H') hr hrow e4,e5⟩)
  (fun _ B r r' H H' out e=>e)
  (fun row hrow _ hrd=>?_)
 ·refine (hC.wkA ?_).wkM fun _ _=>⟨⟨_,rfl,?_⟩,trivial⟩
  ·refine SVs.cons (aCs _) (SVs.cons ?_ rfl)
   intro B Z y ⟨f,vs,h1,h2⟩
   exact ⟨f,vs,h1,h2.1,fun args x ⟨i,_,e1,e2⟩=>h2.2 args x ⟨xs.getD i aCq,e1,e2⟩⟩
  ·have e:=C3 (z:=aCq) (fun x => !p x) xs
   refine Ch.imp_len (by rw [e,List.length_map]) fun j hj=>?_
   rw [e]
   congr 1
   exact (gmap (f:=fun i=>xs.getD i aCq) hj).symm
 ·have hD:=EI xs.length hl (fun i j=>(row i).getD j undef) fun i=>p (xs.getD i aCq)
  have hr:∀ i,i<xs.length→vM (fun i j=>(row i).getD j undef) i=(row i).map D.v:=fun i hi=>by
   obtain ⟨hh,e⟩:=hrd
   exact (S9 (e i hi)).symm
  refine Con.wkM (Con.wkA (Con.inM hD (mu0:=[(900, .arr 4 xs.length fun i=>(row i).map D.v)]) rfl ⟨⟨_,rfl,Ch.imp_arr fun i hi=>(hr i hi).symm⟩,trivial⟩) ?_) fun _ _=>⟨⟨_,rfl,Ch.imp_arr fun j hj=>hr _ (hmem j hj)⟩,trivial⟩
  refine SVs.cons (aCs _) (SVs.cons ?_ rfl)
  intro B Z y ⟨f,vs,h1,h2⟩
  exact ⟨f,vs,h1,h2.1,fun args x ⟨i,hi,e1,e2⟩=>h2.2 args x ⟨i,hi,e1.trans (congrArg (fun l=>[RD.ag l]) (hr i hi)),e2⟩⟩
end
section
theorem H4 {c:GCluster} (hok:ClusOk c) {id:Int} (h:(bZ c id).2=0):dZ c id=0∧c.clock≠1000000:=by
 unfold bZ at h
 rw [if_pos hok] at h
 by_cases h1:dZ c id=0
 ·rw [if_neg (by omega)] at h
  by_cases h2:c.clock=1000000
  ·rw [if_pos h2] at h;cases h
  ·exact ⟨h1,h2⟩
 ·rw [if_pos h1] at h;exact absurd h h1
end
section
theorem C8 (xs:List GCell) (sets:List GSet) (hl:sets.length≤1048576) (hx:dF xs=true) (hs:∀ s ∈ sets,eO s=true) :
  Con Tryz.prog 236 [900] [.a (.g 900),vL 5 cP aCm sets] [(900,bE 2 cX aCo xs)] (fun _:Unit=>True) (fun _=>[]) fun _=>[(900,bE 2 cX aCo (lM xs sets))]:=by
 refine aE Tryz.func236 fun B0 r_ D_ w0=>?_
 refine aF ?_
 refine aK (ι:=Nat) (fun i=>[(9,vI i)]) (fun i=>[(900,bE 2 cX aCo ((sets.take i).foldl nR xs))]) (fun i=>i≤sets.length) (fun i=>sets.length - i) 0 [900] [] (Nat.zero_le _) ?_
 intro i h1
 refine aF ?_
 refine aI (fun e=>?_) (fun e=>?_)
 ·have hi:i<sets.length:=by omega
  have hsb:=hs _ (cJ (z:=aCm) hi)
  have hy:dF ((sets.take i).foldl nR xs)=true:=sG (fun _ _=>GR) (fun s h=>hs s (List.mem_of_mem_take h)) hx
  obtain ⟨c1,c2,c3,c4,c5,c6,c7,c8⟩:=u7 hy hsb
  have hF:=qR (z:=aCm) nR xs hi
  generalize hys:(sets.take i).foldl nR xs=ys at hy c1 c4 c5 c6 c7 c8 hF ⊢
  have hin:InR ((dN ys (sets.getD i aCm)).head.tdiv 4):=FQ c5 c6 (by decide)
  unfold dN at c7 c8 hin
  refine aF ?_
  refine aW [] [0,1,2,3,4,5,6,7,8,9] fun B0 H0=>?_
  refine aP ?_
  refine aI (fun e2=>?_) (fun e2=>?_)
  ·refine aF ?_
   exact bN (i+1) hi (by omega) wF ⟨⟨_,rfl,bP (by rw [hF];unfold nR;rw [if_pos (show (dN ys (sets.getD i aCm)).head.tdiv 4 > (sets.getD i aCm).version from e2)])⟩,wM⟩
  ·have hN:nR ys (sets.getD i aCm)=ys.set (sets.getD i aCm).slot.toNat (zQ (sets.getD i aCm)):=by unfold nR;rw [if_neg (show ¬ (dN ys (sets.getD i aCm)).head.tdiv 4 > (sets.getD i aCm).version from e2)]
   refine aF ?_
   refine l4 TT_ok (aBX ((sets.getD i aCm).version+1) ⟨by omega,by omega⟩ _) rfl rfl rfl rfl rfl ?_
   refine aA (fun e3=>?_) (fun e3=>?_)
   ·refine aF ?_
    exact bN (i+1) hi (by omega) wF ⟨⟨_,rfl,by rw [hF,hN];unfold zQ;simp only [Int.toNat_natCast] at e3 ⊢;rw [e3];exact cG (OwnI.refl _)⟩,wM⟩
   ·refine aF ?_
    exact bN (i+1) hi (by omega) wF ⟨⟨_,rfl,by rw [hF,hN];unfold zQ;simp only [Int.toNat_natCast] at e3 ⊢;rw [e3];exact cG (OwnI.refl _)⟩,wM⟩
 ·have hi:i=sets.length:=by omega
  subst hi
  rw [List.take_length]
  refine wV rfl ?_
  refine l5 TT_ok () [] rfl rfl ?_ ?_ ?_
  ·exact aCu _
  ·exact wM
  ·trivial
theorem NX (xs:List GCell) (sets:List GSet) (hl:sets.length≤1048576) (hx:dF xs=true) (hs:∀ s ∈ sets,eO s=true) :
  Con Tryz.prog 237 [900] [.a (.g 900),vL 5 cP aCm sets] [(900,bE 2 cX aCo xs)] (fun _:Unit=>True) (fun _=>[]) fun _=>[(900,bE 2 cX aCo (pP xs sets))]:=by
 refine aE Tryz.func237 fun B0 r_ D_ w0=>?_
 refine aF ?_
 refine aK (ι:=Nat) (fun i=>[(8,vI i)]) (fun i=>[(900,bE 2 cX aCo ((sets.take i).foldl nE xs))]) (fun i=>i≤sets.length) (fun i=>sets.length - i) 0 [900] [] (Nat.zero_le _) ?_
 intro i h1
 refine aF ?_
 refine aI (fun e=>?_) (fun e=>?_)
 ·have hi:i<sets.length:=by omega
  have hsb:=hs _ (cJ (z:=aCm) hi)
  have hy:dF ((sets.take i).foldl nE xs)=true:=sG (fun _ _=>GX) (fun s h=>hs s (List.mem_of_mem_take h)) hx
  obtain ⟨c1,c2,c3,c4,c5,c6,c7,c8⟩:=u7 hy hsb
  have hF:=qR (z:=aCm) nE xs hi
  generalize hys:(sets.take i).foldl nE xs=ys at hy c1 c4 c5 c6 c7 c8 hF ⊢
  have hin:InR ((dN ys (sets.getD i aCm)).head.tdiv 4):=FQ c5 c6 (by decide)
  have hA:=an1 c4
  have hD:=vC (b:=2) c5
  unfold dN at c7 c8 hin hA hD
  refine aF ?_
  refine aW [] [0,1,2,3,4,5,6,7,8,9] fun B0 H0=>?_
  refine aP ?_
  refine aQ (fun e2=>?_) (fun e2=>?_)
  ·have hN:nE ys (sets.getD i aCm)=ys.set (sets.getD i aCm).slot.toNat ⟨(dN ys (sets.getD i aCm)).head.tdiv 2 * 2,(dN ys (sets.getD i aCm)).value⟩:=by unfold nE;rw [if_pos (show (dN ys (sets.getD i aCm)).head.tdiv 4=(sets.getD i aCm).version from e2)]
   refine aF ?_
   exact bN (i+1) hi (by omega) wF ⟨⟨_,rfl,by rw [hF,hN];unfold dN;rw [hD, ← hA];simp only [Int.toNat_natCast];exact cG (OwnI.refl _)⟩,wM⟩
  ·refine aF ?_
   exact bN (i+1) hi (by omega) wF ⟨⟨_,rfl,bP (by rw [hF];unfold nE;rw [if_neg (show ¬ (dN ys (sets.getD i aCm)).head.tdiv 4=(sets.getD i aCm).version from e2)])⟩,wM⟩
 ·have hi:i=sets.length:=by omega
  subst hi
  rw [List.take_length]
  refine wV rfl ?_
  refine l5 TT_ok () [] rfl rfl ?_ ?_ ?_
  ·exact aCu _
  ·exact wM
  ·trivial
end
section
theorem aCe (xs:List GCell) (sets:List GSet) (hl:sets.length≤1048576) (hx:dF xs=true) (hs:∀ s ∈ sets,eO s=true) (hr:FJ sets) :
  Con Tryz.prog 245 [900] [.a (.g 900),vL 5 cP aCm sets] [(900,bE 2 cX aCo xs)] (fun _:Unit=>True) (fun _=>[vB (kX xs sets)]) fun _=>[(900,bE 2 cX aCo (pY xs sets))]:=by
 refine aE Tryz.func245 fun B0 r_ D_ w0=>?_
 refine aF ?_
 refine aK (ι:=Nat) (fun i=>[(12,vI i)]) (fun _=>[]) (fun i=>i≤sets.length∧∀ j,j<i→qF xs (sets.getD j aCm)=false) (fun i=>sets.length - i) 0 [] [] ⟨Nat.zero_le _,fun j hj=>absurd hj (Nat.not_lt_zero _)⟩ ?_
 intro i ⟨h1,h2⟩
 refine aF ?_
 refine aI (fun e=>?_) (fun e=>?_)
 ·have hi:i<sets.length:=by omega
  have hsb:=hs _ (cJ (z:=aCm) hi)
  obtain ⟨c1,c2,c3,c4,c5,c6,c7,c8⟩:=u7 hx hsb
  have hL:=FF c4
  unfold dN at c7 c8 hL
  refine aF ?_
  refine aA (fun e2=>?_) (fun e2=>?_)
  ·simp only [Int.toNat_natCast] at e2
   rw [hL] at e2
   have hB:kX xs sets=false:=by unfold kX;rw [uL (p:=qF xs) hi e2];rfl
   unfold pY
   rw [hB]
   refine aF ?_
   refine aC (()) [(4,none)] ?_ ?_ ?_
   ·exact aCu _
   ·exact wM
   ·trivial
  ·simp only [Int.toNat_natCast] at e2
   rw [hL] at e2
   refine aF ?_
   exact aL (i+1) ⟨hi,b5 h2 e2⟩ (by omega)
 ·have hi:i=sets.length:=by omega
  subst hi
  have hB:kX xs sets=true:=by unfold kX;rw [j0 (z:=aCm) (p:=qF xs) fun j hj=>h2 j hj];rfl
  unfold pY
  rw [hB]
  refine aF ?_
  refine aK (ι:=Nat) (fun i=>[(36,vI i)]) (fun i=>[(900,bE 2 cX aCo ((sets.take i).foldl kD xs))]) (fun i=>i≤sets.length) (fun i=>sets.length - i) 0 [900] [] (Nat.zero_le _) ?_
  intro i h3
  refine aF ?_
  refine aI (fun e=>?_) (fun e=>?_)
  ·have hi:i<sets.length:=by omega
   have hsb:=hs _ (cJ (z:=aCm) hi)
   obtain ⟨c1,c2,c3,c4,c5,c6,c7,c8⟩:=u7 hx hsb
   have hat:=SP hs hr xs hi
   have hlen:((sets.take i).foldl kD xs).length=6:=by rw [DN D1];exact c1
   have hF:=qR (z:=aCm) kD xs hi
   have hnl:fD (dN xs (sets.getD i aCm)).head=false:=MI hB _ (cJ hi)
   generalize hys:(sets.take i).foldl kD xs=ys at hat hlen hF ⊢
   rw [← hat] at c4 c5 c6 hnl
   have hO:=or1 c4
   have hE:(dN ys (sets.getD i aCm)).head / 2 * 2+1=(dN ys (sets.getD i aCm)).head+1:=by
    unfold fD at hnl
    rw [c4,AZ c5] at hnl
    have:¬ (dN ys (sets.getD i aCm)).head % 2=1:=by simpa using hnl
    omega
   rw [hE] at hO
   unfold dN at hO
   refine aF ?_
   exact bN (i+1) hi (by omega) wF ⟨⟨_,rfl,by rw [hF];unfold kD dN;rw [← hO];simp only [Int.toNat_natCast];exact cG (OwnI.refl _)⟩,wM⟩
  ·have hi:i=sets.length:=by omega
   subst hi
   rw [List.take_length]
   refine aF ?_
   refine aC (()) [(4,none)] ?_ ?_ ?_
   ·exact aCu _
   ·exact wM
   ·trivial
end
section
theorem aB6 (m:GMachine) (hl:m.log.length≤1048576) (tx r:Int) :
  Con Tryz.prog 247 [900,902] [.a (.p 900 0),vI tx,vI r] [(900, .rrow (nX m 901 902 903)),(902,bE 4 cK aCq m.log)] (fun _:Unit=>True) (fun _=>[]) fun _=>[(902,bE 4 cK aCq (m.log.map (o7 tx r)))]:=by
 refine aE Tryz.func247 fun B0 r_ D_ w0=>?_
 refine aF ?_
 refine cY (ι:=Nat) (fun i=>[(13,vI i)]) (fun i=>[(902, .arr 4 m.log.length fun j=>cK (tY tx r m.log i j))]) (fun i=>i≤m.log.length) (fun i=>m.log.length - i) 0 [902] [] rfl rfl (Nat.zero_le _) wF ⟨⟨_,rfl,Ch.imp_arr fun j hj=>by rw [tY,if_neg (Nat.not_lt_zero _)]⟩,wM⟩ ?_
 intro i h1
 refine aF ?_
 refine aI (fun e=>?_) (fun e=>?_)
 ·have hi:i<m.log.length:=by omega
  refine aF ?_
  refine aA (fun e2=>?_) (fun e2=>?_)
  ·simp only [Int.toNat_natCast,pZ] at e2
   have hF:o7 tx r (m.log.getD i aCq)=⟨3,(m.log.getD i aCq).tx,(m.log.getD i aCq).region,(m.log.getD i aCq).sets⟩:=by unfold o7;rw [if_pos (show pW tx r 1 _=true from e2)]
   refine aF ?_
   exact bN (i+1) hi (by omega) wF ⟨⟨_,rfl,Ch.imp_arr fun j hj=>by
    by_cases c:j=i
    ·subst c
     simp only [Int.toNat_natCast,Nat.beq_refl,cond_true,pZ,xO,hF]
     rfl
    ·rw [BZ c,beqN,decide_eq_false (by rw [Int.toNat_natCast];exact c)]
     rfl⟩,wM⟩
  ·simp only [Int.toNat_natCast,pZ] at e2
   have hF:o7 tx r (m.log.getD i aCq)=m.log.getD i aCq:=by unfold o7;rw [if_neg (fun h=>by have:=(show pW tx r 1 _=false from e2).symm.trans h;cases this)]
   refine aF ?_
   exact bN (i+1) hi (by omega) wF ⟨⟨_,rfl,Ch.imp_arr fun j hj=>by
    by_cases c:j=i
    ·subst c;rw [xO,hF,pZ]
    ·rw [BZ c]⟩,wM⟩
 ·have hi:i=m.log.length:=by omega
  subst hi
  refine wV rfl ?_
  refine l5 TT_ok () [] rfl rfl ?_ ?_ ?_
  ·exact aCu _
  ·refine ⟨⟨_,rfl,Ch.imp_len (List.length_map _).symm fun j hj=>?_⟩,trivial⟩
   rw [tY,if_pos hj]
   congr 1
   simp [List.getD_eq_getElem?_getD,hj]
  ·trivial
theorem O4 (m:GMachine) (hl:m.log.length≤1048576) (x:GRecord) (hx:x.sets.length≤1048576) :
  Con Tryz.prog 246 [900,901,902,903] [.a (.p 900 0),vR (cK x)] [(900, .row (nX m 901 902 903)),(902,bE 4 cK aCq m.log)] (fun _:Unit=>True) (fun _=>[]) fun _=>[(900, .row (nX m 901 904 903)),(904,bE 4 cK aCq (m.log ++ [x]))]:=by
 refine aE Tryz.func246 fun B0 r_ D_ w0=>?_
 refine aT ?_
 refine aU 3 fun r_=>?_
 refine aF ?_
 refine aW [902] [0,1,2,3,4,5,6,7,8,9,10,11] fun B0 H0=>?_
 refine aX 6 (aCv 901 43 (CS x hx)) fun _ _=>?_
 refine bG 7 rfl (by kernel_rfl) (dV TT_ok 44 (fun _=>cK x) rfl rfl rfl rfl rfl rfl rfl (fun j hj=>by rcases j with _ | j <;>first | rfl | omega) (mu1:=[(43, .arr 0 0 fun _=>[])]) rfl rfl rfl (bD ?_))
 refine bG 8 rfl (by kernel_rfl) (dM TT_ok 902 44 904 rfl rfl rfl rfl rfl rfl rfl rfl rfl rfl rfl rfl ⟨by show (m.log.length+1) * 48≤_;omega,by unfold maxL;omega⟩ (bD ?_))
 refine aY [9,10,11] ?_
 refine dR 11 rfl (by kernel_rfl) (by kernel_rfl) (aV (eJ [] fun B0 H0=>?_))
 refine tX (by kernel_rfl) ?_
 refine l5 TT_ok () [] rfl rfl ?_ ?_ ?_
 ·exact aCu _
 ·exact ⟨⟨_,rfl,aCt _⟩,⟨_,rfl,aS (x:=x) rfl⟩,trivial⟩
 ·trivial
end
section
theorem PZ (a:Int):Ans Tryz.prog 278 [] [vI a] [] (vB false):=by
 refine aE Tryz.func278 fun B0 r_ D_ w0=>?_
 refine aF ?_
 exact b9 TT_ok [(2,none)] rfl rfl (by simp)
theorem aB3 (a b:Int):Ans Tryz.prog 277 [] [vI a,vI b] [] (vB (decide (a<b))):=by
 refine aE Tryz.func277 fun B0 r_ D_ w0=>?_
 refine aF ?_
 refine aH (EW _) ?_
 refine aH (EW _) ?_
 exact aG [(4,none)] (rfl)
theorem WK {xs:List Int} (hs:xs.Pairwise (· < ·)) {n:Int} {i:Nat} (h:jJ (nV n) 0 xs i):(bif decide ((i:Int)<xs.length) then (bif xs.getD i 0 == n then true else false) else false)=decide (n ∈ xs):=by
 obtain ⟨h1,h2,h3⟩:=h
 by_cases c:n ∈ xs
 ·rw [decide_eq_true c]
  obtain ⟨a,ha,e⟩:=gW.1 c
  have hia:i≤a:=by
   rcases Nat.lt_or_ge a i with h | h
   ·have:=h2 a h;unfold nV at this;omega
   ·exact h
  have hi:i<xs.length:=by omega
  have:xs.getD i 0=n:=by
   by_cases c2:i=a
   ·subst c2;exact e
   ·have h4:=iR (z:=0) hs (a:=i) (b:=a) (by omega) ha
    have h5:=h3 i (Nat.le_refl _) hi
    unfold nV at h5
    omega
  rw [decide_eq_true (by omega),this]
  simp
 ·rw [decide_eq_false c]
  by_cases hi:(i:Int)<xs.length
  ·rw [decide_eq_true hi]
   have:xs.getD i 0≠n:=fun e=>c (e ▸ yI (by omega))
   rw [beq_eq_false_iff_ne.2 this];rfl
  ·rw [decide_eq_false hi];rfl
theorem R1 (xs:List Int) (hl:xs.length≤1048576) (n:Int) (hs:xs.Pairwise (· < ·)):Con Tryz.prog 270 [] [vL 1 bS 0 xs,vI n] [] (fun _:Unit=>True)
  (fun _=>[vI (o5 (nV n) 0 xs:Nat),vB (decide (n ∈ xs))]) fun _=>[]:=by
 have hm:=wD hs n
 refine aE Tryz.func270 fun B0 r_ D_ w0=>?_
 refine aF ?_
 refine cY (ι:=Nat×Nat) (fun y=>[(7,vI y.1),(8,vI y.2)]) (fun _=>[]) (fun y=>y.1≤y.2∧y.2≤xs.length∧(∀ a,a<y.1→nV n (xs.getD a 0)<0)∧∀ a,y.2≤a→a<xs.length→¬ nV n (xs.getD a 0)<0) (fun y=>y.2 - y.1) (0,xs.length) [] [] rfl rfl ⟨Nat.zero_le _,Nat.le_refl _,fun a h=>absurd h (Nat.not_lt_zero _),fun a h1 h2=>by omega⟩ wF wM ?_
 rintro ⟨i,j⟩ ⟨h1,h2,h3,h4⟩
 dsimp only at h1 h2 h3 h4 ⊢
 refine aF ?_
 refine aI (fun e=>?_) (fun e=>?_)
 ·have hij:i<j:=by omega
  have hh:(((i:Int)+j) / 2).toNat=(i+j) / 2:=by omega
  refine aF ?_
  refine aH (aB3 _ _) ?_
  refine aI (fun e2=>?_) (fun e2=>?_)
  ·rw [hh] at e2
   refine aF ?_
   refine bN ((i+j) / 2+1,j) ⟨by dsimp only;omega,h2,fun a ha=>?_,h4⟩ (by show j - ((i+j) / 2+1)<j - i;omega) ⟨⟨_,rfl,aCw (fL (by dsimp only;omega))⟩,⟨_,rfl,aCs _⟩,wF⟩ wM
   exact hm a ((i+j) / 2) (by dsimp only at ha;omega) (by omega) (by unfold nV;omega)
  ·rw [hh] at e2
   refine aF ?_
   refine bN (i,(i+j) / 2) ⟨by dsimp only;omega,by dsimp only;omega,h3,fun a a1 a2 hc=>?_⟩ (by show (i+j) / 2 - i<j - i;omega) ⟨⟨_,rfl,aCs _⟩,⟨_,rfl,aCw (fL (by dsimp only;omega))⟩,wF⟩ wM
   have:=hm ((i+j) / 2) a (by dsimp only at a1;omega) a2 hc
   unfold nV at this
   omega
 ·have hij:i=j:=by omega
  subst hij
  have hcut:jJ (nV n) 0 xs i:=⟨h2,h3,h4⟩
  have hf:=WK hs hcut
  refine aF ?_
  refine aH (PZ _) ?_
  refine aH (PZ _) ?_
  rw [← sR hcut] at hf ⊢
  refine aC (()) [(4,none),(5,none)] ?_ ?_ ?_
  ·exact SVs.cons (aCs _) (SVs.cons (aCw (congrArg (fun b=>SV.a (.v (.bool b))) hf)) rfl)
  ·trivial
  ·trivial
end
section
theorem aAI {xs:List Int} (hs:xs.Pairwise (· < ·)) (n:Int):o5 (nV n) 0 xs≤xs.length:=(sA (wD hs n)).1
theorem PO (m:GMachine) (hl:m.log.length≤1048576) (tx r0 kind:Int):Con Tryz.prog 153 [900,902] [.a (.p 900 0),vI tx,vI r0,vI kind] [(900, .rrow (nX m 901 902 903)),(902, .ro 4 m.log.length fun i=>cK (m.log.getD i aCq))] (fun _:Unit=>True) (fun _=>[vI (oD m tx r0 kind)]) fun _=>[]:=by
 refine aE Tryz.func153 fun B0 r_ D_ w0=>?_
 refine aF ?_
 refine lZ TT_ok (rF m.log hl (fun _=>True) (fun _ _=>trivial) (pW tx r0 kind)) rfl rfl (SVs.cons (aCs _) (SVs.cons (iO (aB) rfl fun args x ⟨n,_,e1,e2⟩=>by subst e1;subst e2;exact L4 n _ _ _) rfl)) rfl rfl ?_
 refine aC (()) [(8,none)] ?_ ?_ ?_
 ·exact aCu _
 ·trivial
 ·trivial
theorem YV (x:GRecord) (tx r0:Int):Ans Tryz.prog 269 [] [vR (cK x),vP [dI tx],vP [dI r0]] [] (vB (bif x.tx == tx then x.region == r0 else false)):=by
 refine aE Tryz.func269 fun B0 r_ D_ w0=>?_
 refine aF ?_
 exact aG [(4,none)] (rfl)
theorem LA (m:GMachine) (hm:m.log.length≤1048576) (hc:m.cleared.length≤1000) (hs:m.cleared.Pairwise (· < ·)) (tx r:Int) (d:Bool) :
  Con Tryz.prog 238 [900,901,902,903] [.a (.p 900 0),vI tx,vI r,vB d] [(900, .row (nX m 901 902 903)),(902,bE 4 cK aCq m.log),(903,bE 1 bS 0 m.cleared)] (fun _:Unit=>True) (fun _=>[])
   fun _=>[(900, .row (nX m 901 904 905)),(904,bE 4 cK aCq (iP m tx r d).log),(905,bE 1 bS 0 (iP m tx r d).cleared)]:=by
 have hp:=aAI hs tx
 refine aE Tryz.func238 fun B0 r_ D_ w0=>?_
 refine aF ?_
 refine cO TT_ok (aCv 901 904 (aCv 900 902 (EP m.log hm fun x=>bif x.tx == tx then x.region == r else false))) rfl rfl (SVs.cons (aCs _) (SVs.cons (iO (aB) rfl fun args x ⟨s,h1,h2⟩=>by subst h1;subst h2;exact YV s tx r) rfl)) (fun _=>rfl) rfl rfl rfl fun _ _=>?_
 refine aN ?_
 refine aW [] [0,1,2,3,4,5,6,7,8,9,10] fun B0 H0=>?_
 refine iH 5 (R1 m.cleared (by omega) tx hs) rfl rfl rfl (aCu _) (fun _=>rfl) rfl rfl rfl fun _ _=>?_
 refine aY [6,7,8,9,10] ?_
 refine aP ?_
 refine aA (fun e=>?_) (fun e=>?_)
 ·cases d with
  | false=>cases e
  | true =>
   have hn:tx ∉ m.cleared:=by
    intro h
    rw [decide_eq_true h] at e;cases e
   refine aF ?_
   refine aW [903] [0,1,2,3,4,5,6,7,8,9,10,11] fun B0 H0=>?_
   refine bG 7 rfl (by kernel_rfl) (dV TT_ok 30 (fun _=>bS tx) rfl rfl rfl rfl rfl rfl rfl (fun j hj=>by rcases j with _ | j <;>first | rfl | omega) (mu1:=[]) rfl rfl rfl (bD ?_))
   refine iH 8 (aCv 902 905 (aCv 900 903 (aCv 901 30 (NK m.cleared.length 1 (o5 (nV tx) 0 m.cleared) (fun j=>bS (m.cleared.getD j 0)) (fun _=>bS tx) (by omega) (by omega) (by omega) hp (fun _ _=>⟨_,rfl⟩) (fun _ _=>⟨_,rfl⟩))))) rfl rfl rfl (aCu _) (fun _=>rfl) rfl rfl rfl fun _ _=>?_
   refine aY [9,10,11] ?_
   refine dR 11 rfl (by kernel_rfl) (by kernel_rfl) (aV (eJ [] fun B0 H0=>?_))
   refine tX (by kernel_rfl) ?_
   refine l5 TT_ok () [] rfl rfl ?_ ?_ ?_
   ·exact aCu _
   ·exact ⟨⟨_,rfl,aCt _⟩,⟨_,rfl,aCt _⟩,⟨_,rfl,Ch.imp_trans (aAK hp) (bP (by show _=pN m.cleared tx;unfold pN;rw [if_neg hn]))⟩,trivial⟩
   ·trivial
 ·have hk:(iP m tx r d).cleared=m.cleared:=by
   cases d with
   | false=>rfl
   | true =>
    show pN m.cleared tx=_
    unfold pN
    by_cases h:tx ∈ m.cleared
    ·rw [if_pos h]
    ·rw [decide_eq_false h] at e;cases e
  refine bB (a9 900 3 903) ?_
  refine bB (a6 900 3 905) ?_
  refine DK ?_
  refine l5 TT_ok () [] rfl rfl ?_ ?_ ?_
  ·exact aCu _
  ·exact ⟨⟨_,rfl,aCt _⟩,⟨_,rfl,aCt _⟩,⟨_,rfl,bP hk.symm⟩,trivial⟩
  ·trivial
end
section
abbrev cAt (x:GCopyAt):List D:=[dI x.region,dI x.machine,dB x.backup]
theorem uP (t:GTx) (hl:t.sets.length≤1048576):MkL Tryz.prog 155 [vP (cTx t)] 1 bS 0 (bI t):=SW t hl
theorem M4 (t:GTx) (h1:t.reads.length≤1048576) (h2:t.sets.length≤1048576) (hs:qU t.sets):MkL Tryz.prog 156 [vP (cTx t)] 5 cT aCn (bW t):=P5 t h1 h2 hs
theorem yK (c:GCluster) (hok:ClusOk c) (t:GTx) (ht:TxIn c t) (n:Int) (b:Bool) :
  Con Tryz.prog 235 [900,901] [.a (.p 900 0),vP (cTx t),vB b] [(900, .rrow (fW (clk c n) 901 902 903)),(901,roC 1 cE aCi c.places)] (fun _:Unit=>True) (fun _=>[.a (.g 910)]) fun _=>[(910,bE 3 cAt GCopyAt.z (cW c t b))]:=by
 have hw:=sB ht.ok
 have hs:=ht.ok.1.2.2.2.2.2.2
 refine aE Tryz.func235 fun B0 r_ D_ w0=>?_
 refine aF ?_
 refine cO TT_ok (aCv 900 13 (uP t (by omega))) rfl rfl (aCu _) (fun _=>rfl) rfl rfl rfl fun _ _=>?_
 refine aN ?_
 refine bB (oX 7 40 3 (fun i=>cAt (([]:List GCopyAt).getD i GCopyAt.z)) rfl rfl rfl rfl) ?_
 refine aK (ι:=Nat) (fun k=>[(15,vI k),(7, .a (.g 40))]) (fun k=>[(40,bE 3 cAt GCopyAt.z (mS c (bI t) b k))]) (fun k=>k≤(bI t).length) (fun k=>(bI t).length - k) 0 [40] [40] (Nat.zero_le _) ?_
 intro k h1
 refine aF ?_
 refine aI (fun e=>?_) (fun e=>?_)
 ·have hk:k<(bI t).length:=by omega
  have hr:=iN ht hk
  have hp:=nT hok hr
  have hc:=AV hok (fun k hk=>iN ht hk) (b:=b) (k:=k) (by omega)
  refine aF ?_
  refine cY (ι:=Nat) (fun i=>[(28,vI i),(7, .a (.g 40))]) (fun i=>[(40,bE 3 cAt GCopyAt.z (mS c (bI t) b k ++ kW b ((bI t).getD k 0) (cR c ((bI t).getD k 0)) i))]) (fun i=>i≤(cR c ((bI t).getD k 0)).length) (fun i=>(cR c ((bI t).getD k 0)).length - i) 0 [40] [40] rfl rfl (Nat.zero_le _) wF ⟨⟨_,rfl,bP (by simp [kW])⟩,wM⟩ ?_
  intro i h2
  have hrl:=K0 (b:=b) (r:=(bI t).getD k 0) (ms:=cR c ((bI t).getD k 0)) (i:=i)
  refine aF ?_
  refine aI (fun e2=>?_) (fun e2=>?_)
  ·simp only [Int.toNat_natCast] at e2
   have e2:(i:Int)<(cR c ((bI t).getD k 0)).length:=e2
   have hi:i<(cR c ((bI t).getD k 0)).length:=by omega
   refine aF ?_
   refine aA (b:=bif decide ((i:Int) > 0) then true else !b) (fun e3=>?_) (fun e3=>?_)
   ·refine aF ?_
    refine cV TT_ok 45 (fun _=>cAt ⟨(bI t).getD k 0,(cR c ((bI t).getD k 0)).getD i 0,decide ((i:Int) > 0)⟩) rfl rfl rfl rfl rfl rfl rfl (fun i hi=>by rcases i with _ | i <;>first | rfl | omega) (mu1:=[]) rfl rfl rfl ?_
    refine aN ?_
    refine cU TT_ok 40 45 46 rfl rfl rfl rfl rfl rfl rfl rfl rfl rfl rfl rfl ⟨by show ((mS c (bI t) b k ++ kW b ((bI t).getD k 0) (cR c ((bI t).getD k 0)) i).length+1) * 24≤_;rw [List.length_append];omega,by rw [List.length_append];unfold maxL;omega⟩ ?_
    refine aN ?_
    refine bC (bL 40 46) ?_
    exact bN (i+1) hi (by omega) wF ⟨⟨_,rfl,fJ (x:=(⟨(bI t).getD k 0,(cR c ((bI t).getD k 0)).getD i 0,decide ((i:Int) > 0)⟩:GCopyAt)) (by rw [kW,e3,cond_true,List.append_assoc]) rfl⟩,wM⟩
   ·refine aF ?_
    exact bN (i+1) hi (by omega) wF ⟨⟨_,rfl,bP (by rw [kW,e3];rfl)⟩,wM⟩
  ·simp only [Int.toNat_natCast] at e2
   have e2:¬ (i:Int)<(cR c ((bI t).getD k 0)).length:=e2
   have hi:i=(cR c ((bI t).getD k 0)).length:=by omega
   subst hi
   refine aF ?_
   exact bN (k+1) hk (by omega) wF ⟨⟨_,rfl,bP (by rw [mS])⟩,wM⟩
 ·have hk:k=(bI t).length:=by omega
  subst hk
  refine aF ?_
  refine bB (bL 40 910) ?_
  refine aC (()) [(6,none)] ?_ ?_ ?_
  ·exact aCu _
  ·exact wM
  ·trivial
theorem E6 {c:GCluster} {t:GTx} (h:t.phase=2∨t.phase=5∨t.phase=8):(dP c t).length=(bI t).length:=by
 unfold dP
 rw [if_neg (by omega),if_neg (by omega),if_neg (by omega),if_neg (by omega),List.length_map]
theorem U5 {c:GCluster} {t:GTx} (h:t.phase=4):dP c t=cW c t true:=by
 unfold dP
 rw [if_neg (by omega),if_pos h]
theorem UA {c:GCluster} {t:GTx} (h:t.phase=6):dP c t=cW c t false:=by
 unfold dP
 rw [if_neg (by omega),if_neg (by omega),if_pos h]
theorem LY (c:GCluster) (hok:ClusOk c) (y:Int×GTx) (hx:TxIn c y.2) (hp:2≤y.2.phase∧y.2.phase≤9) (hc:0≤y.1∧y.1≤1000000) (hl:y.2.phase=2→y.1<1000000) :
  Con Tryz.prog 183 [900,901,902,903,77,78,79] [.a (.p 900 0), .a (.p 77 0)] [(900, .row (fW (clk c y.1) 901 902 903)),(901,roC 1 cE aCi c.places),(77, .row (o3 y.2 78 79)),(78,roC 5 cT aCn y.2.reads),(79,roC 5 cP aCm y.2.sets)]
   (fun _:Unit=>True) (fun _=>[vI 0]) fun _=>[(900, .row (fW (clk c (dY c y).1) 901 902 903)),(77, .row (o3 (dY c y).2 78 79))]:=by
 have hs1:=hx.ok.1.2.2.2.2.2.1
 have hs2:=hx.ok.1.2.2.2.2.2.2
 have hst:=hx.ok.1.2.2.2.2.1
 refine aE Tryz.func183 fun B0 r_ D_ w0=>?_
 refine aF ?_
 refine cY (ι:=Nat×Int×Int×Int×Int) (fun _=>[]) (fun z=>[(900, .row (fW (clk c z.2.1) 901 902 903)),(77, .row (o3 (tw y.2 z.2.2.1 z.2.2.2.1 z.2.2.2.2) 78 79))])
  (fun z=>iW c z.1 (z.2.1,tw y.2 z.2.2.1 z.2.2.2.1 z.2.2.2.2)=dY c y∧9 - z.2.2.1<z.1∧(2≤z.2.2.1∧z.2.2.1≤9)∧(0≤z.2.2.2.1∧z.2.2.2.1≤1000)∧(0≤z.2.2.2.2∧z.2.2.2.2≤1000000)∧(0≤z.2.1∧z.2.1≤1000000)∧(z.2.2.1=2→z.2.1<1000000))
  (fun z=>z.1) (8,y.1,y.2.phase,y.2.done,y.2.stamp) [900,77] [] rfl rfl ⟨rfl,by show 9 - y.2.phase<((8:Nat):Int);omega,hp,hx.ok.1.2.2.2.1,hst,hc,hl⟩ wF wM ?_
 rintro ⟨n,k,p,d,s⟩ ⟨h1,h2,h3,h4,h5,h6,h7⟩
 dsimp only at h1 h2 h3 h4 h5 h6 h7 ⊢
 have hT:TxIn c (tw y.2 p d s):=hx.tw (by omega) h4 h5
 have hle:=sM hok hT
 have hso:=m4 hT.ok.2.2
 refine aF ?_
 refine a7 (ι:=Unit) (fun _=>[(5,vI (fE (tw y.2 p d s))),(6,vI (dP c (tw y.2 p d s)).length)]) (fun _=>[]) (fun _=>p≠7∧p≠9) [] [] ?_ ?_
 ·refine aQ (fun e=>?_) (fun e=>?_)
  ·have e:p=2:=e
   refine aF ?_
   refine cO TT_ok (aCv 900 14 (uP (tw y.2 p d s) (by show y.2.sets.length≤_;omega))) rfl rfl (aCu _) (fun _=>rfl) rfl rfl rfl fun _ _=>?_
   refine aN ?_
   exact bN () ⟨by omega,by omega⟩ Nat.zero_lt_one ⟨⟨_,rfl,aCw (fL (by unfold fE;rw [if_pos e]))⟩,⟨_,rfl,aCw (fL (by rw [E6 (.inl e)]))⟩,wF⟩ wM
  refine aF ?_
  refine aQ (fun e3=>?_) (fun e3=>?_)
  ·have e3:p=3:=e3
   refine aF ?_
   refine cO TT_ok (aCv 900 19 (M4 (tw y.2 p d s) (by show y.2.reads.length≤_;omega) (by show y.2.sets.length≤_;omega) hso)) rfl rfl (aCu _) (fun _=>rfl) rfl rfl rfl fun _ _=>?_
   refine aN ?_
   refine aQ (fun e4=>?_) (fun e4=>?_)
   ·refine aF ?_
    exact bN () ⟨by omega,by omega⟩ Nat.zero_lt_one ⟨⟨_,rfl,aCw (fL (by unfold fE;rw [if_neg e,if_pos e3,if_pos (show y.2.sets.length=0 by omega)]))⟩,⟨_,rfl,aCw (fL (by rw [FI e3]))⟩,wF⟩ wM
   ·refine aF ?_
    exact bN () ⟨by omega,by omega⟩ Nat.zero_lt_one ⟨⟨_,rfl,aCw (fL (by unfold fE;rw [if_neg e,if_pos e3,if_neg (show ¬ y.2.sets.length=0 by omega)]))⟩,⟨_,rfl,aCw (fL (by rw [FI e3]))⟩,wF⟩ wM
  refine aF ?_
  refine aQ (fun e4=>?_) (fun e4=>?_)
  ·have e4:p=4:=e4
   refine aF ?_
   refine aR (aCv 910 31 (yK c hok (tw y.2 p d s) hT k true)) fun _ _=>?_
   refine aN ?_
   exact bN () ⟨by omega,by omega⟩ Nat.zero_lt_one ⟨⟨_,rfl,aCw (fL (by unfold fE;rw [if_neg e,if_neg e3,if_pos e4]))⟩,⟨_,rfl,aCw (fL (by rw [U5 e4]))⟩,wF⟩ wM
  refine aF ?_
  refine aQ (fun e5=>?_) (fun e5=>?_)
  ·have e5:p=5:=e5
   refine aF ?_
   refine cO TT_ok (aCv 900 36 (uP (tw y.2 p d s) (by show y.2.sets.length≤_;omega))) rfl rfl (aCu _) (fun _=>rfl) rfl rfl rfl fun _ _=>?_
   refine aN ?_
   exact bN () ⟨by omega,by omega⟩ Nat.zero_lt_one ⟨⟨_,rfl,aCw (fL (by unfold fE;rw [if_neg e,if_neg e3,if_neg e4,if_pos e5]))⟩,⟨_,rfl,aCw (fL (by rw [E6 (.inr (.inl e5))]))⟩,wF⟩ wM
  refine aF ?_
  refine aQ (fun e6=>?_) (fun e6=>?_)
  ·have e6:p=6:=e6
   refine aF ?_
   refine aR (aCv 910 42 (yK c hok (tw y.2 p d s) hT k false)) fun _ _=>?_
   refine aN ?_
   exact bN () ⟨by omega,by omega⟩ Nat.zero_lt_one ⟨⟨_,rfl,aCw (fL (by unfold fE;rw [if_neg e,if_neg e3,if_neg e4,if_neg e5,if_pos e6]))⟩,⟨_,rfl,aCw (fL (by rw [UA e6]))⟩,wF⟩ wM
  refine aF ?_
  refine aQ (fun e8=>?_) (fun e8=>?_)
  ·have e8:p=8:=e8
   refine aF ?_
   refine cO TT_ok (aCv 900 47 (uP (tw y.2 p d s) (by show y.2.sets.length≤_;omega))) rfl rfl (aCu _) (fun _=>rfl) rfl rfl rfl fun _ _=>?_
   refine aN ?_
   exact bN () ⟨by omega,by omega⟩ Nat.zero_lt_one ⟨⟨_,rfl,aCw (fL (by unfold fE;rw [if_neg e,if_neg e3,if_neg e4,if_neg e5,if_neg e6]))⟩,⟨_,rfl,aCw (fL (by rw [E6 (.inr (.inr e8))]))⟩,wF⟩ wM
  have e:p≠2:=e
  have e3:p≠3:=e3
  have e4:p≠4:=e4
  have e5:p≠5:=e5
  have e6:p≠6:=e6
  have e8:p≠8:=e8
  have hA:dY c y=(k,tw y.2 p d s):=by rw [← h1];exact BY (y:=(k,tw y.2 p d s)) (show p=7∨p=9∨d<(dP c (tw y.2 p d s)).length from by omega) n
  rw [hA]
  refine aF ?_
  refine aC (()) [(4,none)] ?_ ?_ ?_
  ·exact aCu _
  ·exact wM
  ·trivial
 rintro ⟨⟩ ⟨h7n,h9n⟩
 refine aZ ?_
 refine aI (fun e=>?_) (fun e=>?_)
 ·have hA:dY c y=(k,tw y.2 p d s):=by rw [← h1];exact BY (.inr (.inr e)) n
  rw [hA]
  refine aF ?_
  refine aC (()) [(4,none)] ?_ ?_ ?_
  ·exact aCu _
  ·exact wM
  ·trivial
 have hns:¬ mQ c (k,tw y.2 p d s).2:=fun h=>by
  rcases h with h | h | h
  ·exact h7n h
  ·exact h9n h
  ·exact e h
 obtain ⟨m,rfl⟩:∃ m,n=m+1:=⟨n - 1,by omega⟩
 rw [VF hns] at h1
 have hnx:=GV (t:=tw y.2 p d s) h3 h7n h9n
 have hnx1:p<fE (tw y.2 p d s):=hnx.1
 refine aF ?_
 refine aQ (fun e2=>?_) (fun e2=>?_)
 ·have hk:=h7 e2
  refine aF ?_
  refine s6 rfl (fun e3=>absurd e3 (by show ¬ k=1000000;omega)) (fun e3=>?_)
  refine aF ?_
  refine aL (m,k+1,fE (tw y.2 p d s),0,k+1) ⟨?_,?_,⟨?_,hnx.2⟩,?_,?_,?_,?_⟩ (Nat.lt_succ_self m)
  ·rw [← h1];congr 1;unfold tQ;rw [if_pos e2,if_pos e2]
  ·dsimp only;omega
  ·dsimp only;omega
  ·dsimp only;omega
  ·dsimp only;omega
  ·dsimp only;omega
  ·intro h;dsimp only at h;omega
 ·refine aF ?_
  refine aL (m,k,fE (tw y.2 p d s),0,s) ⟨?_,?_,⟨?_,hnx.2⟩,?_,h5,h6,?_⟩ (Nat.lt_succ_self m)
  ·rw [← h1];congr 1;unfold tQ;rw [if_neg e2,if_neg e2]
  ·dsimp only;omega
  ·dsimp only;omega
  ·dsimp only;omega
  ·intro h;dsimp only at h;omega
end
section
section
variable {E:Env} {B:BE} {mu mu':Mu} {w:World} {H:Nat→PH} {TT:List TI} {fr fr':Fr} {gf gf':GF} {a:Act} {all rest:List Oper} {Q:Exit→Act→World→Prop} {o:Oper} {J:Act→World→Prop} {G:AG}
theorem VI {f:Nat} {args:List SV} {res:SV} (C:Ans E.P f [] args [] res) {svs args':List SV} {g:Option (Nat×Nat×Bool)} {t:Nat} {q:Ob} {es:List Prop} {gs:List GO}
  (hc:kN E.N all fr gf o=some (f,svs,g,t,gf')) (hw:lS [] [] [] svs=some (args',q)) (ha:SVs.imp E.P args' args) (hs:dQ fr gf (match g with | none=>[] | some (_,d,b)=>kV 6 gf d b) q [] [] = some (es,gs))
  (k:SJ G J E (frQ fr g t res) (gfQ gf' g t res) mu) (hres:res.rO=true:=by exact rfl) (hen:iE E.P f:=by exact aB) (he:cS es:=by exact eD) (ho:cQ gs:=by exact gD):OJ G E all Q J o fr gf mu :=
 aAq C hc rfl hen hres hw ha hs he ho k
end
theorem MQ (c:GCluster) (hok:ClusOk c) (n:Int) (r0:Int) (hr:0≤r0∧r0<c.places.length):Con Tryz.prog 105 [900,901,902] [.a (.p 900 0),vI r0] [(900, .rrow (fW (clk c n) 901 902 903)),(901,roC 1 cE aCi c.places),(902,roC 4 bJ aCj c.machines)] (fun _:Unit=>True) (fun _=>[.a (.pe 902 4 (mAt c r0.toNat 0) 0)]) fun _=>[]:=by
 have hpl:=hok.pl (r:=r0.toNat) (by omega)
 have hm:=(hok.at (r:=r0.toNat) (k:=0) (by omega) (by omega)).1
 refine aE Tryz.func105 fun B0 r_ D_ w0=>?_
 refine aF ?_
 refine aW [] [0,1,2,3,4,5,6,7,8,9,10,11,12,13,14,15] fun B0 H0=>?_
 refine aP ?_
 refine aC (()) [(4,none)] ?_ ?_ ?_
 ·exact aCu _
 ·trivial
 ·trivial
def tN (m:GMachine):Int:=bif !m.alive then 6 else 0
theorem aAF (c:GCluster) (hok:ClusOk c) (k:Int) (t:GTx) (n:GNote) (hr:0≤n.region∧n.region<c.places.length) (hs:0≤n.slot∧n.slot≤5) :
  Con Tryz.prog 242 [900,901,902,77,78,79] [.a (.p 900 0), .a (.p 77 0),vR (cT n)] [(900, .rrow (fW (clk c k) 901 902 903)),(901,roC 1 cE aCi c.places),(902,roC 4 bJ aCj c.machines),(77, .row (o3 t 78 79))]
   (fun _:Unit=>True) (fun _=>[vI (tN (bH c n.region.toNat 0))]) fun _=>[(77, .row (o3 (bif (bH c n.region.toNat 0).alive then (bif KO (bH c n.region.toNat 0) n then oV t else t) else t) 78 79))]:=by
 have hpl:=hok.pl (r:=n.region.toNat) (by omega)
 have hm:=(hok.at (r:=n.region.toNat) (k:=0) (by omega) (by omega)).1
 have bm:=(hok.mach (r:=n.region.toNat) (k:=0) (by omega) (by omega)).1.1
 refine aE Tryz.func242 fun B0 r_ D_ w0=>?_
 refine aT ?_
 refine aU 5 fun r_=>?_
 refine aF ?_
 refine cO TT_ok (MQ c hok k n.region hr) rfl rfl (aCu _) (fun _=>rfl) rfl rfl rfl (fun _ _=>?_) (hin:=⟨⟨_,rfl,fG⟩,⟨_,rfl,fS⟩,⟨_,rfl,fS⟩,trivial⟩)
 refine aN ?_
 refine aA (b := !(bH c n.region.toNat 0).alive) (fun e3=>?_) (fun e3=>?_)
 ·have ha:(bH c n.region.toNat 0).alive=false:=by simpa using e3
  rw [show tN (bH c n.region.toNat 0)=6 from by unfold tN;rw [ha];rfl,ha]
  refine aF ?_
  refine aC (()) [(6,none)] ?_ ?_ ?_
  ·exact aCu _
  ·exact wM
  ·trivial
 have ha:(bH c n.region.toNat 0).alive=true:=by simpa using e3
 rw [show tN (bH c n.region.toNat 0)=0 from by unfold tN;rw [ha];rfl,ha]
 obtain ⟨c1,c2,c3⟩:=E8 hok hr hs ha
 have hh:=kR.1 c2
 have hv:0≤(gN c n.region n.slot).head.tdiv 4∧(gN c n.region n.slot).head.tdiv 4≤1000000:=by rw [Int.tdiv_eq_ediv_of_nonneg hh.1];omega
 have k1:=FF c2
 unfold gN at hv k1
 refine bB (aBL (fr':=[]) 7 902 rfl rfl rfl hm) ?_
 refine aF ?_
 refine a7 (ι:=Unit) (fun _=>[(8, .a (.p 8 0))]) (fun _=>[(8, .row [.v (.int .i64 ((cellsOf (bH c n.region.toNat 0) n.region).getD n.slot.toNat aCo).head), .v (.int .i64 ((cellsOf (bH c n.region.toNat 0) n.region).getD n.slot.toNat aCo).value)])]) (fun _=>True) [] [] ?_ ?_
 ·refine aW [] [0,1,2,4,5,3,6,7,8,9] fun B0 H0=>?_
  refine eU 3 8 rfl rfl (by kernel_rfl) (VI (AP (bH c n.region.toNat 0) (by omega) n.region) rfl rfl (aCu _) rfl (bD ?_)) (aV (bD ?_))
  ·refine aY [6,7,8,9] ?_
   refine bG 8 rfl (by kernel_rfl) (aV (bD ?_))
   refine bG 9 rfl (by kernel_rfl) (aV (bD ?_))
   refine aP ?_
   exact aL () trivial Nat.zero_lt_one
  ·skip
   refine bG 3 rfl (by kernel_rfl) (VI (AP (bH c n.region.toNat 0) (by omega) n.region) rfl rfl (aCu _) rfl (bD ?_))
   refine aY [6,7,9] ?_
   refine bG 9 rfl (by kernel_rfl) (aV (bD ?_))
   refine aP ?_
   exact aL () trivial Nat.zero_lt_one
 rintro ⟨⟩ _
 refine aZ ?_
 rw [k1]
 refine aA (b:=KO (bH c n.region.toNat 0) n) (fun e4=>?_) (fun e4=>?_)
 ·rw [e4]
  refine aF ?_
  refine aC (()) [(6,none)] ?_ ?_ ?_
  ·exact aCu _
  ·exact wM
  ·trivial
 ·rw [e4]
  refine aF ?_
  refine aC (()) [(6,none)] ?_ ?_ ?_
  ·exact aCu _
  ·exact wM
  ·trivial
def qK (m:GMachine):Int:=bif !m.alive then 6 else bif decide ((m.log.length:Int)=200) then 9 else 0
theorem ZW (c:GCluster) (hok:ClusOk c) (k:Int) (t:GTx) (ht:eN t) (x:GCopyAt) (hx:0≤x.machine∧x.machine<c.machines.length) :
  Con Tryz.prog 243 [900,902,77,78,79] [.a (.p 900 0), .a (.p 77 0),vR (cAt x)] [(900, .rrow (fW (clk c k) 901 902 903)),(902,bE 4 bJ aCj c.machines),(77, .rrow (o3 t 78 79)),(78,roC 5 cT aCn t.reads),(79,roC 5 cP aCm t.sets)]
   (fun _:Unit=>True) (fun _=>[vI (qK (mOf c x.machine))]) fun _=>[(902,bE 4 bJ aCj (if qK (mOf c x.machine)=0 then c.machines.set x.machine.toNat (mJ (mOf c x.machine) ⟨2,t.id,x.region,bY x.region t.sets⟩) else c.machines))]:=by
 have hs2:=ht.1.2.2.2.2.2.2
 have hsl:(bY x.region t.sets).length≤t.sets.length:=List.length_filter_le _ _
 have hM:=hok.2.2.1 x.machine.toNat (by omega)
 have bl:(mOf c x.machine).log.length≤200:=hM.1.2.1
 refine aE Tryz.func243 fun B0 r_ D_ w0=>?_
 refine aT ?_
 refine aU 5 fun r_=>?_
 refine aF ?_
 refine aW [] [0,1,2,3,4,5,6,7] fun B0 H0=>?_
 refine aP ?_
 refine aA (b := !(mOf c x.machine).alive) (fun e3=>?_) (fun e3=>?_)
 ·rw [show qK (mOf c x.machine)=6 from by unfold qK;rw [e3];rfl,if_neg (by decide)]
  refine aF ?_
  refine aC (()) [(6,none)] ?_ ?_ ?_
  ·exact aCu _
  ·exact wM
  ·trivial
 refine aF ?_
 refine aQ (fun e4=>?_) (fun e4=>?_)
 ·rw [show qK (mOf c x.machine)=9 from by unfold qK;rw [e3,decide_eq_true e4];rfl,if_neg (by decide)]
  refine aF ?_
  refine aC (()) [(6,none)] ?_ ?_ ?_
  ·exact aCu _
  ·exact wM
  ·trivial
 rw [show qK (mOf c x.machine)=0 from by unfold qK;rw [e3,decide_eq_false e4];rfl,if_pos rfl]
 refine aF ?_
 refine bB (d6 902 x.machine 60 rfl rfl rfl rfl rfl rfl hx) ?_
 refine bB (kL 7 rfl rfl rfl) ?_
 refine bB (a6 60 1 61) ?_
 refine bB (a6 60 2 62) ?_
 refine bB (a6 60 3 63) ?_
 refine aW [60,62] [0,1,2,3,4,5,6,7,8,9,10,11,12] fun B0 H0=>?_
 refine iH 10 (aCv 900 38 (yR t x.region (by omega))) rfl rfl rfl (aCu _) (fun _=>rfl) rfl rfl rfl fun _ _=>?_
 refine aY [11,12] ?_
 refine iH 12 (aCv 904 64 (aCv 903 63 (aCv 902 62 (aCv 901 61 (aCv 900 60 (O4 (mOf c x.machine) (by omega) ⟨2,t.id,x.region,bY x.region t.sets⟩ (by show (bY x.region t.sets).length≤_;omega))))))) rfl rfl rfl (aCu _) (fun _=>rfl) rfl rfl rfl fun _ _=>?_
 refine aP ?_
 refine bB (a9 60 1 61) ?_
 refine bB (a9 60 2 64) ?_
 refine bB (a9 60 3 63) ?_
 refine bB (a8 902 60) ?_
 refine aC (()) [(6,none)] ?_ ?_ ?_
 ·exact aCu _
 ·exact ⟨⟨_,rfl,cG (y:=mJ (mOf c x.machine) ⟨2,t.id,x.region,bY x.region t.sets⟩) (OwnI.refl _)⟩,trivial⟩
 ·trivial
end
section
theorem UV (m:GMachine) (hl:m.cleared.length≤1048576) (tx:Int):Ans Tryz.prog 272 [] [vP (bJ m),vI tx] [] (vB (jI m tx)):=by
 refine aE Tryz.func272 fun B0 r_ D_ w0=>?_
 refine aF ?_
 refine aH (j8 m.cleared hl tx) ?_
 exact aG [(4,none)] (rfl)
def tV (m:GMachine) (tx:Int):Int:=bif !m.alive then 6 else bif !jI m tx then 9 else 0
theorem V3 (c:GCluster) (hok:ClusOk c) (k:Int) (t:GTx) (ht:eN t) (x:GCopyAt) (hx:0≤x.machine∧x.machine<c.machines.length) (hh:(mOf c x.machine).alive=true→dX (mOf c x.machine) x.region=true) :
  Con Tryz.prog 244 [900,902,77,78,79] [.a (.p 900 0), .a (.p 77 0),vR (cAt x)] [(900, .rrow (fW (clk c k) 901 902 903)),(902,bE 4 bJ aCj c.machines),(77, .rrow (o3 t 78 79)),(78,roC 5 cT aCn t.reads),(79,roC 5 cP aCm t.sets)]
   (fun _:Unit=>True) (fun _=>[vI (tV (mOf c x.machine) t.id)]) fun _=>[(902,bE 4 bJ aCj (if tV (mOf c x.machine) t.id=0 then c.machines.set x.machine.toNat (HG t x (mOf c x.machine)) else c.machines))]:=by
 have hs2:=ht.1.2.2.2.2.2.2
 have hsl:(bY x.region t.sets).length≤t.sets.length:=List.length_filter_le _ _
 have hM:=hok.2.2.1 x.machine.toNat (by omega)
 have bl:(mOf c x.machine).log.length≤200:=hM.1.2.1
 have bc:(mOf c x.machine).cleared.length≤60:=hM.1.2.2
 have bk:(mOf c x.machine).copies.length≤6:=hM.1.1
 have hrs:=(oU.1 hM.2.1).2
 obtain ⟨s1,s2,s3⟩:=oP ht x.region
 refine aE Tryz.func244 fun B0 r_ D_ w0=>?_
 refine aT ?_
 refine aU 5 fun r_=>?_
 refine aF ?_
 refine aW [] [0,1,2,3,4,5,6,7] fun B0 H0=>?_
 refine aP ?_
 refine aA (b := !(mOf c x.machine).alive) (fun e3=>?_) (fun e3=>?_)
 ·rw [show tV (mOf c x.machine) t.id=6 from by unfold tV;rw [e3];rfl,if_neg (by decide)]
  refine aF ?_
  refine aC (()) [(6,none)] ?_ ?_ ?_
  ·exact aCu _
  ·exact wM
  ·trivial
 have ha:(mOf c x.machine).alive=true:=by simpa using e3
 have hhas:=hh ha
 have hcb:=(fH hM hhas).2
 refine aF ?_
 refine l4 TT_ok (UV (mOf c x.machine) (by omega) t.id) rfl rfl rfl rfl rfl ?_
 refine aA (b := !jI (mOf c x.machine) t.id) (fun e4=>?_) (fun e4=>?_)
 ·rw [show tV (mOf c x.machine) t.id=9 from by unfold tV;rw [e3,e4];rfl,if_neg (by decide)]
  refine aF ?_
  refine aC (()) [(6,none)] ?_ ?_ ?_
  ·exact aCu _
  ·exact wM
  ·trivial
 rw [show tV (mOf c x.machine) t.id=0 from by unfold tV;rw [e3,e4];rfl,if_pos rfl]
 refine aF ?_
 refine bB (d6 902 x.machine 60 rfl rfl rfl rfl rfl rfl hx) ?_
 refine bB (kL 7 rfl rfl rfl) ?_
 refine bB (a6 60 1 61) ?_
 refine bB (a6 60 2 62) ?_
 refine bB (a6 60 3 63) ?_
 refine a7 (ι:=Unit) (fun _=>[]) (fun _=>[(61,bE 2 dA aCp (bif x.backup then cL (mOf c x.machine) x.region (lM (cellsOf (mOf c x.machine) x.region) (bY x.region t.sets)) else mOf c x.machine).copies)]) (fun _=>True) [61] [] ?_ ?_
 ·refine aA (b:=x.backup) (fun e5=>?_) (fun e5=>?_)
  ·rw [e5]
   refine aW [61] [0,1,2,4,5,6,3,7,8] fun B0 H0=>?_
   refine iH 3 (aCv 905 65 (aCv 904 64 (aCv 903 63 (aCv 902 62 (aCv 901 61 (aCv 900 60 (E9 (mOf c x.machine) (by omega) x.region hhas))))))) rfl rfl rfl (aCu _) (fun _=>rfl) rfl rfl rfl fun _ _=>?_
   refine iH 7 (aCv 900 38 (yR t x.region (by omega))) rfl rfl rfl (aCu _) (fun _=>rfl) rfl rfl rfl fun _ _=>?_
   refine iH 8 (aCv 900 65 (C8 (cellsOf (mOf c x.machine) x.region) (bY x.region t.sets) (by omega) hcb s1)) rfl rfl rfl (aCu _) (fun _=>rfl) rfl rfl rfl fun _ _=>?_
   refine aP ?_
   refine bC (a9 64 1 65) ?_
   refine bC (a8 61 64) ?_
   exact bN () trivial Nat.zero_lt_one wF ⟨⟨_,rfl,cG (y:=oR (mOf c x.machine) x.region (lM (cellsOf (mOf c x.machine) x.region) (bY x.region t.sets))) (OwnI.refl _)⟩,wM⟩
  ·rw [e5]
   refine aF ?_
   exact aL () trivial Nat.zero_lt_one
 rintro ⟨⟩ _
 refine aZ ?_
 refine aW [60,62,63] [0,1,2,3,4,5,6,7] fun B0 H0=>?_
 refine iH 7 (aCv 905 67 (aCv 904 66 (aCv 903 63 (aCv 902 62 (aCv 901 61 (aCv 900 60 (LA (mOf c x.machine) (by omega) (by omega) hrs t.id x.region true))))))) rfl rfl rfl (aCu _) (fun _=>rfl) rfl rfl rfl fun _ _=>?_
 refine aP ?_
 refine bB (a9 60 1 61) ?_
 refine bB (a9 60 2 66) ?_
 refine bB (a9 60 3 67) ?_
 refine bB (a8 902 60) ?_
 refine aC (()) [(6,none)] ?_ ?_ ?_
 ·exact aCu _
 ·exact ⟨⟨_,rfl,cG (y:=HG t x (mOf c x.machine)) (OwnI.of (by unfold HG;cases x.backup <;>rfl))⟩,trivial⟩
 ·trivial
end
section
theorem aCb {c:GCluster} {t:GTx} (h:t.phase=2∨t.phase=5∨t.phase=8) (hd:t.done.toNat<(dP c t).length):cZ c t=l6 c ((bI t).getD t.done.toNat 0):=by
 rw [E6 h] at hd
 unfold cZ dP
 rw [if_neg (by omega),if_neg (by omega),if_neg (by omega),if_neg (by omega)]
 exact m7 (za:=0) (l6 c) hd
theorem aBS {c:GCluster} {t:GTx} (h:t.phase=4):cZ c t=(cW c t true).getD t.done.toNat GCopyAt.z:=by unfold cZ;rw [U5 h]
theorem aBN {c:GCluster} {t:GTx} (h:t.phase=6):cZ c t=(cW c t false).getD t.done.toNat GCopyAt.z:=by unfold cZ;rw [UA h]
set_option maxHeartbeats 1000000 in
theorem act_k (c:GCluster) (hok:ClusOk c) (k:Int) (t:GTx) (hx:TxIn c t) (hp:2≤t.phase∧t.phase≤9) (hn79:¬ (t.phase=7∨t.phase=9)) (hd:0≤t.done∧t.done.toNat<(dP c t).length) :
  Con Tryz.prog 184 [900,901,902,77,78,79] [.a (.p 900 0), .a (.p 77 0),vI t.done] [(900, .rrow (fW (clk c k) 901 902 903)),(901,roC 1 cE aCi c.places),(902,bE 4 bJ aCj c.machines),(77, .row (o3 (dT t) 78 79)),(78,roC 5 cT aCn t.reads),(79,roC 5 cP aCm t.sets)]
   (fun _:Unit=>True) (fun _=>[vI (b8 c t).1]) fun _=>if (b8 c t).1=0 then [(902,bE 4 bJ aCj (c.machines.set (cZ c t).machine.toNat (b8 c t).2.1)),(77, .row (o3 (b8 c t).2.2 78 79))] else []:=by
 have hs1:=hx.ok.1.2.2.2.2.2.1
 have hs2:=hx.ok.1.2.2.2.2.2.2
 have hle:=sM hok hx
 have hT1:TxIn c (dT t):=hx.same ⟨rfl,rfl,rfl,rfl⟩ hx.ok.1.2.2.1 (by show 0≤t.done+1∧t.done+1≤1000;omega) hx.ok.1.2.2.2.2.1
 have hso:=m4 hx.ok.2.2
 have hpm:cZ c t ∈ dP c t:=cJ hd.2
 have hin:=QU hok hx _ hpm
 have hmi:0≤(cZ c t).machine∧(cZ c t).machine<c.machines.length∧((mOf c (cZ c t).machine).alive=true→dX (mOf c (cZ c t).machine) (cZ c t).region=true):=by
  obtain ⟨j,h2,h3,h4⟩:=hin.at'
  have h5:=hok.at (r:=(cZ c t).region.toNat) (k:=j) (by have:=hin.region;omega) h2
  rw [← h3,Int.toNat_of_nonneg hin.region.1] at h5
  have h6:=h5.2
  unfold bH at h6
  rw [← h3] at h6
  exact ⟨h5.1.1,h5.1.2,h6⟩
 have hC0:b8 c t=jG t (cZ c t) ((bW t).getD t.done.toNat aCn) (mOf c (cZ c t).machine):=rfl
 refine aE Tryz.func184 fun B0 r_ D_ w0=>?_
 refine aF ?_
 refine aQ (fun e3=>?_) (fun e3=>?_)
 ·have e3:t.phase=3:=e3
  have hA:=VL e3 hd.2
  have hk:t.done.toNat<(bW t).length:=by rw [← FI (c:=c) e3];exact hd.2
  have hk2:0≤t.done∧t.done.toNat<(bW (dT t)).length:=⟨hd.1,hk⟩
  have hr:=q9 hx hk
  have hnb:=IF ((v8.1 hx.ok.2.1).1 _ (List.mem_filter.1 (cJ (z:=aCn) hk)).1)
  rw [hA] at hC0 ⊢
  have hC0:b8 c t=jG t (l6 c ((bW t).getD t.done.toNat aCn).region) ((bW t).getD t.done.toNat aCn) (bH c ((bW t).getD t.done.toNat aCn).region.toNat 0):=hC0
  have hmm:=(hok.at (r:=((bW t).getD t.done.toNat aCn).region.toNat) (k:=0) (by omega) (by have:=nT hok hr;show 0<(cR c _).length;omega)).1
  refine aF ?_
  refine cO TT_ok (aCv 900 20 (M4 (dT t) (by show t.reads.length≤_;omega) (by show t.sets.length≤_;omega) hso)) rfl rfl (aCu _) (fun _=>rfl) rfl rfl rfl fun _ _=>?_
  refine aN ?_
  refine cO TT_ok (aAF c hok k (dT t) ((bW t).getD t.done.toNat aCn) hr hnb) rfl rfl (aCu _) (fun _=>rfl) rfl rfl rfl (fun _ _=>?_) (hin:=by repeat (first | exact trivial | refine And.intro ⟨_,rfl,gS⟩ ?_ | refine And.intro ⟨_,rfl,fS⟩ ?_ | refine And.intro ⟨_,rfl,gR⟩ ?_ | refine And.intro ⟨_,rfl,fG⟩ ?_ | refine And.intro ⟨_,rfl,aCt _⟩ ?_))
  refine aN ?_
  cases ha:(bH c ((bW t).getD t.done.toNat aCn).region.toNat 0).alive with
  | false =>
   have hC:=hC0.trans (wP ha)
   rw [show tN (bH c ((bW t).getD t.done.toNat aCn).region.toNat 0)=6 from by unfold tN;rw [ha];rfl]
   rw [show (b8 c t).1=6 from by rw [hC],if_neg (by decide)]
   refine aC (()) [(6,none)] ?_ ?_ ?_
   ·exact aCu _
   ·trivial
   ·trivial
  | true =>
   have hC:=hC0.trans (WB ha e3 rfl)
   rw [show tN (bH c ((bW t).getD t.done.toNat aCn).region.toNat 0)=0 from by unfold tN;rw [ha];rfl]
   have hself:c.machines.set (mAt c ((bW t).getD t.done.toNat aCn).region.toNat 0).toNat (bH c ((bW t).getD t.done.toNat aCn).region.toNat 0)=c.machines:=set_self (z:=aCj) (by omega)
   cases hb:KO (bH c ((bW t).getD t.done.toNat aCn).region.toNat 0) ((bW t).getD t.done.toNat aCn) with
   | false =>
    rw [hb] at hC
    rw [show (b8 c t).1=0 from by rw [hC];rfl,if_pos rfl,show (b8 c t).2.1=bH c ((bW t).getD t.done.toNat aCn).region.toNat 0 from by rw [hC];rfl,show (b8 c t).2.2=dT t from by rw [hC];rfl]
    refine aC (()) [(6,none)] ?_ ?_ ?_
    ·exact aCu _
    ·exact ⟨⟨_,rfl,bP hself.symm⟩,⟨_,rfl,aCt _⟩,trivial⟩
    ·trivial
   | true =>
    rw [hb] at hC
    rw [show (b8 c t).1=0 from by rw [hC];rfl,if_pos rfl,show (b8 c t).2.1=bH c ((bW t).getD t.done.toNat aCn).region.toNat 0 from by rw [hC];rfl,show (b8 c t).2.2=oV t from by rw [hC];rfl]
    refine aC (()) [(6,none)] ?_ ?_ ?_
    ·exact aCu _
    ·exact ⟨⟨_,rfl,bP hself.symm⟩,⟨_,rfl,aCt _⟩,trivial⟩
    ·trivial
 refine aF ?_
 refine aQ (fun e4=>?_) (fun e4=>?_)
 ·have e4:t.phase=4:=e4
  have hA:=aBS (c:=c) e4
  have hk:t.done.toNat<(cW c t true).length:=by rw [← U5 (c:=c) e4];exact hd.2
  have hk2:0≤t.done∧t.done.toNat<(cW c (dT t) true).length:=⟨hd.1,hk⟩
  rw [hA] at hC0 hmi ⊢
  refine aF ?_
  refine cO TT_ok (aCv 910 31 (yK c hok (dT t) hT1 k true)) rfl rfl (aCu _) (fun _=>rfl) rfl rfl rfl (fun _ _=>?_) (hin:=by repeat (first | exact trivial | refine And.intro ⟨_,rfl,gS⟩ ?_ | refine And.intro ⟨_,rfl,fS⟩ ?_ | refine And.intro ⟨_,rfl,gR⟩ ?_ | refine And.intro ⟨_,rfl,fG⟩ ?_ | refine And.intro ⟨_,rfl,aCt _⟩ ?_))
  refine aN ?_
  refine cO TT_ok (ZW c hok k (dT t) hT1.ok ((cW c t true).getD t.done.toNat GCopyAt.z) ⟨hmi.1,hmi.2.1⟩) rfl rfl (aCu _) (fun _=>rfl) rfl rfl rfl (fun _ _=>?_) (hin:=by repeat (first | exact trivial | refine And.intro ⟨_,rfl,gS⟩ ?_ | refine And.intro ⟨_,rfl,fS⟩ ?_ | refine And.intro ⟨_,rfl,gR⟩ ?_ | refine And.intro ⟨_,rfl,fG⟩ ?_ | refine And.intro ⟨_,rfl,aCt _⟩ ?_))
  refine aN ?_
  by_cases h0:qK (mOf c ((cW c t true).getD t.done.toNat GCopyAt.z).machine)=0
  ·have ha:(mOf c ((cW c t true).getD t.done.toNat GCopyAt.z).machine).alive=true:=by
    unfold qK at h0
    cases e:(mOf c ((cW c t true).getD t.done.toNat GCopyAt.z).machine).alive with
    | true=>rfl
    | false=>rw [e] at h0;cases h0
   have hl:decide (((mOf c ((cW c t true).getD t.done.toNat GCopyAt.z).machine).log.length:Int)=200)=false:=by
    unfold qK at h0
    cases e:decide (((mOf c ((cW c t true).getD t.done.toNat GCopyAt.z).machine).log.length:Int)=200) with
    | false=>rfl
    | true=>rw [ha,e] at h0;cases h0
   have hC:=hC0.trans (QO ha e4)
   rw [hl] at hC
   rw [h0,if_pos rfl]
   rw [show (b8 c t).1=0 from by rw [hC];rfl,if_pos rfl,show (b8 c t).2.1=mJ (mOf c ((cW c t true).getD t.done.toNat GCopyAt.z).machine) ⟨2,t.id,((cW c t true).getD t.done.toNat GCopyAt.z).region,bY ((cW c t true).getD t.done.toNat GCopyAt.z).region t.sets⟩ from by rw [hC];rfl,show (b8 c t).2.2=dT t from by rw [hC];rfl]
   refine aC (()) [(6,none)] ?_ ?_ ?_
   ·exact aCu _
   ·exact wM
   ·trivial
  ·have hC:(b8 c t).1=qK (mOf c ((cW c t true).getD t.done.toNat GCopyAt.z).machine):=by
    rw [hC0]
    unfold qK at h0 ⊢
    cases ha:(mOf c ((cW c t true).getD t.done.toNat GCopyAt.z).machine).alive with
    | false=>rw [wP ha];rfl
    | true =>
     rw [QO ha e4]
     cases decide (((mOf c ((cW c t true).getD t.done.toNat GCopyAt.z).machine).log.length:Int)=200) <;>rfl
   rw [hC,if_neg h0]
   refine aC (()) [(6,none)] ?_ ?_ ?_
   ·exact aCu _
   ·trivial
   ·trivial
 refine aF ?_
 refine aQ (fun e6=>?_) (fun e6=>?_)
 ·have e6:t.phase=6:=e6
  have hA:=aBN (c:=c) e6
  have hk:t.done.toNat<(cW c t false).length:=by rw [← UA (c:=c) e6];exact hd.2
  have hk2:0≤t.done∧t.done.toNat<(cW c (dT t) false).length:=⟨hd.1,hk⟩
  rw [hA] at hC0 hmi ⊢
  refine aF ?_
  refine cO TT_ok (aCv 910 42 (yK c hok (dT t) hT1 k false)) rfl rfl (aCu _) (fun _=>rfl) rfl rfl rfl (fun _ _=>?_) (hin:=by repeat (first | exact trivial | refine And.intro ⟨_,rfl,gS⟩ ?_ | refine And.intro ⟨_,rfl,fS⟩ ?_ | refine And.intro ⟨_,rfl,gR⟩ ?_ | refine And.intro ⟨_,rfl,fG⟩ ?_ | refine And.intro ⟨_,rfl,aCt _⟩ ?_))
  refine aN ?_
  refine cO TT_ok (V3 c hok k (dT t) hT1.ok ((cW c t false).getD t.done.toNat GCopyAt.z) ⟨hmi.1,hmi.2.1⟩ hmi.2.2) rfl rfl (aCu _) (fun _=>rfl) rfl rfl rfl (fun _ _=>?_) (hin:=by repeat (first | exact trivial | refine And.intro ⟨_,rfl,gS⟩ ?_ | refine And.intro ⟨_,rfl,fS⟩ ?_ | refine And.intro ⟨_,rfl,gR⟩ ?_ | refine And.intro ⟨_,rfl,fG⟩ ?_ | refine And.intro ⟨_,rfl,aCt _⟩ ?_))
  refine aN ?_
  by_cases h0:tV (mOf c ((cW c t false).getD t.done.toNat GCopyAt.z).machine) t.id=0
  ·have ha:(mOf c ((cW c t false).getD t.done.toNat GCopyAt.z).machine).alive=true:=by
    unfold tV at h0
    cases e:(mOf c ((cW c t false).getD t.done.toNat GCopyAt.z).machine).alive with
    | true=>rfl
    | false=>rw [e] at h0;cases h0
   have hl:jI (mOf c ((cW c t false).getD t.done.toNat GCopyAt.z).machine) t.id=true:=by
    unfold tV at h0
    cases e:jI (mOf c ((cW c t false).getD t.done.toNat GCopyAt.z).machine) t.id with
    | true=>rfl
    | false=>rw [ha,e] at h0;cases h0
   have hC:=hC0.trans (OK ha e6)
   rw [hl] at hC
   rw [show tV (mOf c ((cW c t false).getD t.done.toNat GCopyAt.z).machine) (dT t).id=0 from h0,if_pos rfl]
   rw [show (b8 c t).1=0 from by rw [hC];rfl,if_pos rfl,show (b8 c t).2.1=HG t ((cW c t false).getD t.done.toNat GCopyAt.z) (mOf c ((cW c t false).getD t.done.toNat GCopyAt.z).machine) from by rw [hC];rfl,show (b8 c t).2.2=dT t from by rw [hC];rfl]
   refine aC (()) [(6,none)] ?_ ?_ ?_
   ·exact aCu _
   ·exact wM
   ·trivial
  ·have hC:(b8 c t).1=tV (mOf c ((cW c t false).getD t.done.toNat GCopyAt.z).machine) t.id:=by
    rw [hC0]
    unfold tV at h0 ⊢
    cases ha:(mOf c ((cW c t false).getD t.done.toNat GCopyAt.z).machine).alive with
    | false=>rw [wP ha];rfl
    | true =>
     rw [OK ha e6]
     cases jI (mOf c ((cW c t false).getD t.done.toNat GCopyAt.z).machine) t.id <;>rfl
   rw [hC,if_neg h0]
   refine aC (()) [(6,none)] ?_ ?_ ?_
   ·exact aCu _
   ·trivial
   ·trivial
 have hph:t.phase=2∨t.phase=5∨t.phase=8:=by
  have e3:t.phase≠3:=e3
  have e4:t.phase≠4:=e4
  have e6:t.phase≠6:=e6
  omega
 have hA:=aCb hph hd.2
 have hk:t.done.toNat<(bI t).length:=by rw [← E6 (c:=c) hph];exact hd.2
 have hk2:0≤t.done∧t.done.toNat<(bI (dT t)).length:=⟨hd.1,hk⟩
 have hr:=iN hx hk
 have hpl:=nT hok hr
 rw [hA] at hC0 hmi ⊢
 generalize hrr:(bI t).getD t.done.toNat 0=r at hr hpl hA hC0 hmi ⊢
 have hC0:b8 c t=jG t (l6 c r) ((bW t).getD t.done.toNat aCn) (bH c r.toNat 0):=hC0
 have hmi:0≤mAt c r.toNat 0∧mAt c r.toNat 0<c.machines.length∧((bH c r.toNat 0).alive=true→dX (bH c r.toNat 0) r=true):=hmi
 have hM:=hok.2.2.1 (mAt c r.toNat 0).toNat (by omega)
 have bl:(bH c r.toNat 0).log.length≤200:=hM.1.2.1
 have bc:(bH c r.toNat 0).cleared.length≤60:=hM.1.2.2
 have bk:(bH c r.toNat 0).copies.length≤6:=hM.1.1
 have hrs:=(oU.1 hM.2.1).2
 obtain ⟨s1,s2,s3⟩:=oP hx.ok r
 have hsl:(bY r t.sets).length≤t.sets.length:=List.length_filter_le _ _
 refine aF ?_
 refine cO TT_ok (aCv 900 48 (uP (dT t) (by show t.sets.length≤_;omega))) rfl rfl (aCu _) (fun _=>rfl) rfl rfl rfl fun _ _=>?_
 refine aN ?_
 rw [show (bI (dT t)).getD t.done.toNat 0=r from hrr]
 refine cO TT_ok (MQ c hok k r hr) rfl rfl (aCu _) (fun _=>rfl) rfl rfl rfl (fun _ _=>?_) (hin:=by repeat (first | exact trivial | refine And.intro ⟨_,rfl,gS⟩ ?_ | refine And.intro ⟨_,rfl,fS⟩ ?_ | refine And.intro ⟨_,rfl,gR⟩ ?_ | refine And.intro ⟨_,rfl,fG⟩ ?_ | refine And.intro ⟨_,rfl,aCt _⟩ ?_))
 refine aN ?_
 refine aA (b := !(bH c r.toNat 0).alive) (fun e=>?_) (fun e=>?_)
 ·have ha:(bH c r.toNat 0).alive=false:=by simpa using e
  have hC:=hC0.trans (wP ha)
  rw [show (b8 c t).1=6 from by rw [hC],if_neg (by decide)]
  refine aF ?_
  refine aC (()) [(6,none)] ?_ ?_ ?_
  ·exact aCu _
  ·trivial
  ·trivial
 have ha:(bH c r.toNat 0).alive=true:=by simpa using e
 have hhas:=hmi.2.2 ha
 have hcb:=(fH hM hhas).2
 have hself:=xA hhas
 refine bB (d6 902 (mAt c r.toNat 0) 60 rfl rfl rfl rfl rfl rfl ⟨hmi.1,hmi.2.1⟩) ?_
 refine bB (kL 8 rfl rfl rfl) ?_
 refine bB (a6 60 1 61) ?_
 refine bB (a6 60 2 62) ?_
 refine bB (a6 60 3 63) ?_
 refine aF ?_
 refine cO TT_ok (aCv 900 30 (yR (dT t) r (by show t.sets.length≤_;omega))) rfl rfl (aCu _) (fun _=>rfl) rfl rfl rfl fun _ _=>?_
 refine aN ?_
 refine cO TT_ok (aCv 905 65 (aCv 904 64 (aCv 903 63 (aCv 902 62 (aCv 901 61 (aCv 900 60 (E9 (bH c r.toNat 0) (by omega) r hhas))))))) rfl rfl (aCu _) (fun _=>rfl) rfl rfl rfl fun _ _=>?_
 refine aN ?_
 refine aQ (fun e2=>?_) (fun e2=>?_)
 ·have e2:t.phase=2:=e2
  have hC:=hC0.trans (WR ha e2)
  refine aF ?_
  refine cO TT_ok (aCv 900 65 (aCe (cellsOf (bH c r.toNat 0) r) (bY r t.sets) (by omega) hcb s1 s2)) rfl rfl (aCu _) (fun _=>rfl) rfl rfl rfl fun _ _=>?_
  refine aN ?_
  refine eF rfl (fun e=>?_) (fun e=>?_)
  ·have hC:b8 c t=(0,bH c r.toNat 0,oV t):=by rw [hC,show kX (cellsOf (bH c r.toNat 0) (l6 c r).region) (bY (l6 c r).region t.sets)=false from e];rfl
   rw [show pY (cellsOf (bH c r.toNat 0) r) (bY r t.sets)=cellsOf (bH c r.toNat 0) r from by unfold pY;rw [e];rfl]
   rw [show (b8 c t).1=0 from by rw [hC],if_pos rfl,show (b8 c t).2.1=cL (bH c r.toNat 0) r (cellsOf (bH c r.toNat 0) r) from by rw [hC,hself],show (b8 c t).2.2=oV t from by rw [hC]]
   refine aF ?_
   refine bB (a9 64 1 65) ?_
   refine bB (a8 61 64) ?_
   refine bB (t5 61 rfl (cG (y:=(oR (bH c r.toNat 0) r (cellsOf (bH c r.toNat 0) r))) (OwnI.refl _)) rfl) ?_
   refine bB (a9 60 1 61) ?_
   refine bB (a9 60 2 62) ?_
   refine bB (a9 60 3 63) ?_
   refine bB (a8 902 60) ?_
   refine aC (()) [(6,none)] ?_ ?_ ?_
   ·exact aCu _
   ·exact ⟨⟨_,rfl,cG (y:=cL (bH c r.toNat 0) r (cellsOf (bH c r.toNat 0) r)) (OwnI.refl _)⟩,⟨_,rfl,aCt _⟩,trivial⟩
   ·trivial
  rw [show pY (cellsOf (bH c r.toNat 0) r) (bY r t.sets)=pQ (cellsOf (bH c r.toNat 0) r) (bY r t.sets) from by unfold pY;rw [e];rfl]
  refine aF ?_
  refine aQ (fun e5=>?_) (fun e5=>?_)
  ·have hC:b8 c t=(9,bH c r.toNat 0,t):=by rw [hC,show kX (cellsOf (bH c r.toNat 0) (l6 c r).region) (bY (l6 c r).region t.sets)=true from e,decide_eq_true e5];rfl
   rw [show (b8 c t).1=9 from by rw [hC],if_neg (by decide)]
   refine aF ?_
   refine aC (()) [(6,none)] ?_ ?_ ?_
   ·exact aCu _
   ·trivial
   ·trivial
  have hC:b8 c t=(0,mJ (cL (bH c r.toNat 0) r (pQ (cellsOf (bH c r.toNat 0) r) (bY r t.sets))) ⟨1,t.id,r,bY r t.sets⟩,dT t):=by rw [hC,show kX (cellsOf (bH c r.toNat 0) (l6 c r).region) (bY (l6 c r).region t.sets)=true from e,decide_eq_false e5];rfl
  rw [show (b8 c t).1=0 from by rw [hC],if_pos rfl,show (b8 c t).2.1=mJ (cL (bH c r.toNat 0) r (pQ (cellsOf (bH c r.toNat 0) r) (bY r t.sets))) ⟨1,t.id,r,bY r t.sets⟩ from by rw [hC],show (b8 c t).2.2=dT t from by rw [hC]]
  refine aF ?_
  refine cO TT_ok (aCv 904 66 (aCv 903 63 (aCv 902 62 (aCv 901 61 (aCv 900 60 (O4 (bH c r.toNat 0) (by omega) ⟨1,t.id,r,bY r t.sets⟩ (by show (bY r t.sets).length≤_;omega))))))) rfl rfl (aCu _) (fun _=>rfl) rfl rfl rfl fun _ _=>?_
  refine aN ?_
  refine bB (a9 64 1 65) ?_
  refine bB (a8 61 64) ?_
  refine bB (t5 61 rfl (cG (y:=(oR (bH c r.toNat 0) r (pQ (cellsOf (bH c r.toNat 0) r) (bY r t.sets)))) (OwnI.refl _)) rfl) ?_
  refine bB (a9 60 1 61) ?_
  refine bB (a9 60 2 66) ?_
  refine bB (a9 60 3 63) ?_
  refine bB (a8 902 60) ?_
  refine aC (()) [(6,none)] ?_ ?_ ?_
  ·exact aCu _
  ·exact ⟨⟨_,rfl,cG (y:=mJ (cL (bH c r.toNat 0) r (pQ (cellsOf (bH c r.toNat 0) r) (bY r t.sets))) ⟨1,t.id,r,bY r t.sets⟩) (OwnI.refl _)⟩,⟨_,rfl,aCt _⟩,trivial⟩
  ·trivial
 refine aF ?_
 refine aQ (fun e5=>?_) (fun e5=>?_)
 ·have e5:t.phase=5:=e5
  have hC:b8 c t=(0,BR (cL (bH c r.toNat 0) r (lM (cellsOf (bH c r.toNat 0) r) (bY r t.sets))) t.id r,dT t):=hC0.trans (VJ ha e5)
  rw [show (b8 c t).1=0 from by rw [hC],if_pos rfl,show (b8 c t).2.1=BR (cL (bH c r.toNat 0) r (lM (cellsOf (bH c r.toNat 0) r) (bY r t.sets))) t.id r from by rw [hC],show (b8 c t).2.2=dT t from by rw [hC]]
  refine aF ?_
  refine cO TT_ok (aCv 900 65 (C8 (cellsOf (bH c r.toNat 0) r) (bY r t.sets) (by omega) hcb s1)) rfl rfl (aCu _) (fun _=>rfl) rfl rfl rfl fun _ _=>?_
  refine aN ?_
  refine cO TT_ok (aCv 903 63 (aCv 902 62 (aCv 901 61 (aCv 900 60 (aB6 (bH c r.toNat 0) (by omega) t.id r))))) rfl rfl (aCu _) (fun _=>rfl) rfl rfl rfl fun _ _=>?_
  refine aN ?_
  refine bB (a9 64 1 65) ?_
  refine bB (a8 61 64) ?_
  refine bB (t5 61 rfl (cG (y:=(oR (bH c r.toNat 0) r (lM (cellsOf (bH c r.toNat 0) r) (bY r t.sets)))) (OwnI.refl _)) rfl) ?_
  refine bB (a9 60 1 61) ?_
  refine bB (a9 60 2 62) ?_
  refine bB (a9 60 3 63) ?_
  refine bB (a8 902 60) ?_
  refine aC (()) [(6,none)] ?_ ?_ ?_
  ·exact aCu _
  ·exact ⟨⟨_,rfl,cG (y:=BR (cL (bH c r.toNat 0) r (lM (cellsOf (bH c r.toNat 0) r) (bY r t.sets))) t.id r) (OwnI.refl _)⟩,⟨_,rfl,aCt _⟩,trivial⟩
  ·trivial
 have e8:t.phase=8:=by
  have e2:t.phase≠2:=e2
  have e5:t.phase≠5:=e5
  omega
 have hC:=hC0.trans (VC ha e8)
 refine aF ?_
 refine cO TT_ok (aCv 903 63 (aCv 902 62 (aCv 901 61 (aCv 900 60 (PO (bH c r.toNat 0) (by omega) t.id r 1))))) rfl rfl (aCu _) (fun _=>rfl) rfl rfl rfl fun _ _=>?_
 refine aN ?_
 refine aI (fun e=>?_) (fun e=>?_)
 ·have hC:b8 c t=(0,iP (cL (bH c r.toNat 0) r (pP (cellsOf (bH c r.toNat 0) r) (bY r t.sets))) t.id r false,dT t):=by rw [hC,if_pos (show 0≤oD (bH c r.toNat 0) t.id (l6 c r).region 1 from e)];rfl
  rw [show (b8 c t).1=0 from by rw [hC],if_pos rfl,show (b8 c t).2.1=iP (cL (bH c r.toNat 0) r (pP (cellsOf (bH c r.toNat 0) r) (bY r t.sets))) t.id r false from by rw [hC],show (b8 c t).2.2=dT t from by rw [hC]]
  refine aF ?_
  refine cO TT_ok (aCv 900 65 (NX (cellsOf (bH c r.toNat 0) r) (bY r t.sets) (by omega) hcb s1)) rfl rfl (aCu _) (fun _=>rfl) rfl rfl rfl fun _ _=>?_
  refine aN ?_
  refine cO TT_ok (aCv 905 67 (aCv 904 66 (aCv 903 63 (aCv 902 62 (aCv 901 61 (aCv 900 60 (LA (bH c r.toNat 0) (by omega) (by omega) hrs t.id r false))))))) rfl rfl (aCu _) (fun _=>rfl) rfl rfl rfl fun _ _=>?_
  refine aN ?_
  refine bB (a9 64 1 65) ?_
  refine bB (a8 61 64) ?_
  refine bB (t5 61 rfl (cG (y:=(oR (bH c r.toNat 0) r (pP (cellsOf (bH c r.toNat 0) r) (bY r t.sets)))) (OwnI.refl _)) rfl) ?_
  refine bB (a9 60 1 61) ?_
  refine bB (a9 60 2 66) ?_
  refine bB (a9 60 3 67) ?_
  refine bB (a8 902 60) ?_
  refine aC (()) [(6,none)] ?_ ?_ ?_
  ·exact aCu _
  ·exact ⟨⟨_,rfl,cG (y:=iP (cL (bH c r.toNat 0) r (pP (cellsOf (bH c r.toNat 0) r) (bY r t.sets))) t.id r false) (OwnI.refl _)⟩,⟨_,rfl,aCt _⟩,trivial⟩
  ·trivial
 ·have hC:b8 c t=(0,bH c r.toNat 0,dT t):=by rw [hC,if_neg (show ¬ 0≤oD (bH c r.toNat 0) t.id (l6 c r).region 1 from e)]
  rw [show (b8 c t).1=0 from by rw [hC],if_pos rfl,show (b8 c t).2.1=cL (bH c r.toNat 0) r (cellsOf (bH c r.toNat 0) r) from by rw [hC,hself],show (b8 c t).2.2=dT t from by rw [hC]]
  refine aF ?_
  refine bB (a9 64 1 65) ?_
  refine bB (a8 61 64) ?_
  refine bB (t5 61 rfl (cG (y:=(oR (bH c r.toNat 0) r (cellsOf (bH c r.toNat 0) r))) (OwnI.refl _)) rfl) ?_
  refine bB (a9 60 1 61) ?_
  refine bB (a9 60 2 62) ?_
  refine bB (a9 60 3 63) ?_
  refine bB (a8 902 60) ?_
  refine aC (()) [(6,none)] ?_ ?_ ?_
  ·exact aCu _
  ·exact ⟨⟨_,rfl,cG (y:=cL (bH c r.toNat 0) r (cellsOf (bH c r.toNat 0) r)) (OwnI.refl _)⟩,⟨_,rfl,aCt _⟩,trivial⟩
  ·trivial
end
section
theorem IV {c:GCluster} (hok:ClusOk c) {id:Int} (h:gC c id≠0):bZ c id=(c,gC c id):=by
 have hm:dZ c id=gC c id:=by
  unfold gC at h ⊢
  unfold dZ
  by_cases hf:bQ c id<0
  ·rw [decide_eq_true hf];rfl
  ·rw [decide_eq_false hf] at h ⊢
   cases h2:jE c id with
   | false=>rfl
   | true=>rw [h2] at h;exact absurd rfl h
 unfold bZ
 rw [if_pos hok,if_pos (by rw [hm];exact h),hm]
theorem LF {c:GCluster} {id:Int} (h:gC c id=0):dZ c id=bif (bif (bT c id).phase == 1 then true else bif (bT c id).phase == 7 then true else (bT c id).phase == 9) then 4 else 0:=by
 have hf:=uS h
 unfold gC at h
 unfold dZ
 rw [decide_eq_false (by omega)] at h ⊢
 cases h2:jE c id with
 | false=>rw [h2] at h;cases h
 | true=>rfl
set_option maxHeartbeats 1000000 in
theorem XV (c:GCluster) (hok:ClusOk c) (id:Int) :
  Con Tryz.prog 118 [900,901,902,903] [.a (.p 900 0),vI id] [(900, .row (fW c 901 902 903)),(901,roC 1 cE aCi c.places),(902,bE 4 bJ aCj c.machines),(903,bE 7 cTx aCk c.txs)]
   (fun _:Unit=>True) (fun _=>[vI (bZ c id).2]) fun _=>if (bZ c id).2=0 then [(900, .row (fW (bZ c id).1 901 902 903)),(902,bE 4 bJ aCj (bZ c id).1.machines),(903,bE 7 cTx aCk (bZ c id).1.txs)] else []:=by
 have b3:c.txs.length≤1048576:=by have:=hok.1.2.2.2;omega
 refine aE Tryz.func118 fun B0 r_ D_ w0=>?_
 refine aF ?_
 by_cases hL:gC c id=0
 ·have hge:=uS hL
  have hlt:=gO (c:=c) (id:=id)
  have hin:=dW hge
  have hi:=hin.1
  refine cO TT_ok (BT c b3 hok id hL) rfl rfl (aCu _) (fun _=>rfl) rfl rfl rfl (fun _ _=>?_) (hin:=by repeat (first | exact trivial | refine And.intro ⟨_,rfl,gS⟩ ?_ | refine And.intro ⟨_,rfl,fS⟩ ?_ | refine And.intro ⟨_,rfl,gR⟩ ?_ | refine And.intro ⟨_,rfl,fG⟩ ?_ | refine And.intro ⟨_,rfl,aCt _⟩ ?_))
  refine aN ?_
  refine bX rfl (fun e=>by cases e) (fun _=>?_)
  refine bB (d6 903 (bQ c id) 77 rfl rfl rfl rfl rfl rfl ⟨hge,hlt⟩) ?_
  refine bB (kL 5 rfl rfl rfl) ?_
  refine bB (a6 77 4 78) ?_
  refine bB (a6 77 5 79) ?_
  refine aF ?_
  refine aA (b:=bif (bif (bT c id).phase == 1 then true else (bT c id).phase == 7) then true else (bT c id).phase == 9) (fun e=>?_) (fun e=>?_)
  ·have hm:dZ c id=4:=by
    rw [LF hL]
    cases c1:(bT c id).phase == 1 <;>cases c2:(bT c id).phase == 7 <;>cases c3:(bT c id).phase == 9 <;>rw [c1,c2,c3] at e <;>first | rfl | cases e
   have hS:(bZ c id).2=4:=by unfold bZ;rw [if_pos hok,if_pos (by omega),hm]
   rw [hS,if_neg (by decide)]
   refine aF ?_
   refine aC (()) [(4,none)] ?_ ?_ ?_
   ·exact aCu _
   ·trivial
   ·trivial
  have hm:dZ c id=0:=by
   rw [LF hL]
   cases c1:(bT c id).phase == 1 <;>cases c2:(bT c id).phase == 7 <;>cases c3:(bT c id).phase == 9 <;>rw [c1,c2,c3] at e <;>first | rfl | cases e
  have hp:=qY hok hm
  refine aF ?_
  refine aQ (fun e2=>?_) (fun e2=>?_)
  ·have hS:(bZ c id).2=9:=by unfold bZ;rw [if_pos hok,if_neg (by omega),if_pos e2]
   rw [hS,if_neg (by decide)]
   refine aF ?_
   refine aC (()) [(4,none)] ?_ ?_ ?_
   ·exact aCu _
   ·trivial
   ·trivial
  have hclk:=hok.1.2.1
  have hmid:=tF hok hi hp e2
  have hS:=wA hok hm e2
  have hx:=hok.txIn hi
  refine aF ?_
  refine cO TT_ok (LY c hok (c.clock,bT c id) hx hp hclk (fun _=>by show c.clock<1000000;omega)) rfl rfl (aCu _) (fun _=>rfl) rfl rfl rfl fun _ _=>?_
  refine aN ?_
  refine bX rfl (fun e=>by cases e) (fun _=>?_)
  generalize hy:dY c (c.clock,bT c id)=y
  have hy':dY c (c.clock,c.txs.getD (bQ c id).toNat aCk)=y:=hy
  rw [hy'] at hmid
  refine bB (t5 78 rfl (bP (sz:=5) (enc:=cT) (z:=aCn) hmid.same.reads.symm) rfl) ?_
  refine bB (t5 79 rfl (bP (sz:=5) (enc:=cP) (z:=aCm) hmid.same.sets.symm) rfl) ?_
  refine aF ?_
  refine aA (b:=bif y.2.phase == 7 then true else y.2.phase == 9) (fun e=>?_) (fun e=>?_)
  ·have h79:y.2.phase=7∨y.2.phase=9:=by
    cases c2:y.2.phase == 7 with
    | true=>exact .inl (by simpa using c2)
    | false=>rw [c2] at e;exact .inr (by simpa using e)
   have hR:=xF (c:=c) (i:=(bQ c id).toNat) (by rw [hy'];exact h79)
   rw [hy'] at hR
   rw [hR,if_pos rfl] at hS
   rw [hS,if_pos rfl]
   refine aF ?_
   refine bB (a9 77 4 78) ?_
   refine bB (a9 77 5 79) ?_
   refine bB (a8 903 77) ?_
   refine aC (()) [(4,none)] ?_ ?_ ?_
   ·exact aCu _
   ·exact ⟨⟨_,rfl,aCt _⟩,⟨_,rfl,aCt _⟩,⟨_,rfl,cG (y:=y.2) (OwnI.refl _)⟩,trivial⟩
   ·trivial
  have h79:¬ (y.2.phase=7∨y.2.phase=9):=by
   rintro (h | h) <;>rw [h] at e <;>cases e
  have hd:=hmid.done h79
  have hle:=sM hok hmid.tx
  refine aF ?_
  rw [show y.2.done+1 - 1=y.2.done from by omega]
  have hact:=act_k c hok y.1 y.2 hmid.tx hmid.phase h79 hd
  by_cases h0:(b8 c y.2).1=0
  ·rw [if_pos h0,h0] at hact
   have ha:=DV hok hmid h79 h0
   have hmid2:=xK hok hmid h79 ha
   have hR:=z7 (c:=c) (i:=(bQ c id).toNat) (by rw [hy'];exact h79) (by rw [hy'];exact h0)
   rw [hy'] at hR
   rw [hR,if_pos rfl] at hS
   rw [hS,if_pos rfl]
   have hx2:TxIn c (b8 c y.2).2.2:=by
    have hp2:=hmid.phase
    have hst:=hmid.stamp
    have hck:=hmid.clock
    refine hmid.tx.same ha.same ?_ ?_ (by rw [ha.stamp];omega)
    ·rcases ha.phase with q | q <;>omega
    ·rcases ha.phase with q | q <;>omega
   have hp2:2≤(b8 c y.2).2.2.phase∧(b8 c y.2).2.2.phase≤9:=by have:=hmid.phase;rcases ha.phase with q | q <;>omega
   refine cO TT_ok (hact) rfl rfl (aCu _) (fun _=>rfl) rfl rfl rfl (fun _ _=>?_) (hin:=by repeat (first | exact trivial | refine And.intro ⟨_,rfl,gS⟩ ?_ | refine And.intro ⟨_,rfl,fS⟩ ?_ | refine And.intro ⟨_,rfl,gR⟩ ?_ | refine And.intro ⟨_,rfl,fG⟩ ?_ | refine And.intro ⟨_,rfl,aCt _⟩ ?_))
   refine aN ?_
   refine bX rfl (fun e=>by cases e) (fun _=>?_)
   refine bB (t5 78 rfl (bP (sz:=5) (enc:=cT) (z:=aCn) ha.same.reads.symm) rfl) ?_
   refine bB (t5 79 rfl (bP (sz:=5) (enc:=cP) (z:=aCm) ha.same.sets.symm) rfl) ?_
   refine aF ?_
   refine cO TT_ok (LY c hok (y.1,(b8 c y.2).2.2) hx2 hp2 (by have:=hmid.clock;show 0≤y.1∧y.1≤1000000;omega) (fun h=>hmid.lock (by have h:(b8 c y.2).2.2.phase=2:=h;rcases ha.phase with q | q <;>omega))) rfl rfl (aCu _) (fun _=>rfl) rfl rfl rfl fun _ _=>?_
   refine aN ?_
   have hsm:Same (b8 c y.2).2.2 (dY c (y.1,(b8 c y.2).2.2)).2:=z0 (y:=(y.1,(b8 c y.2).2.2))
   generalize dY c (y.1,(b8 c y.2).2.2)=z at hsm ⊢
   refine bB (t5 78 rfl (bP (sz:=5) (enc:=cT) (z:=aCn) hsm.reads.symm) rfl) ?_
   refine bB (t5 79 rfl (bP (sz:=5) (enc:=cP) (z:=aCm) hsm.sets.symm) rfl) ?_
   refine bB (a9 77 4 78) ?_
   refine bB (a9 77 5 79) ?_
   refine bB (a8 903 77) ?_
   refine aC (()) [(4,none)] ?_ ?_ ?_
   ·exact aCu _
   ·exact ⟨⟨_,rfl,aCt _⟩,⟨_,rfl,aCt _⟩,⟨_,rfl,cG (y:=z.2) (OwnI.refl _)⟩,trivial⟩
   ·trivial
  ·rw [if_neg h0] at hact
   have hR:=CC (c:=c) (i:=(bQ c id).toNat) (by rw [hy'];exact h79) (by rw [hy'];exact h0)
   rw [hy'] at hR
   rw [hR,if_neg h0] at hS
   rw [hS,if_neg h0]
   refine cO TT_ok (hact) rfl rfl (aCu _) (fun _=>rfl) rfl rfl rfl (fun _ _=>?_) (hin:=by repeat (first | exact trivial | refine And.intro ⟨_,rfl,gS⟩ ?_ | refine And.intro ⟨_,rfl,fS⟩ ?_ | refine And.intro ⟨_,rfl,gR⟩ ?_ | refine And.intro ⟨_,rfl,fG⟩ ?_ | refine And.intro ⟨_,rfl,aCt _⟩ ?_))
   refine aN ?_
   refine fO rfl (fun _=>?_) (fun e=>absurd e h0)
   refine aF ?_
   refine aC (()) [(4,none)] ?_ ?_ ?_
   ·exact aCu _
   ·trivial
   ·trivial
 ·have hS:=IV hok hL
  rw [hS,if_neg hL]
  refine cO TT_ok (MK c b3 hok id hL) rfl rfl (aCu _) (fun _=>rfl) rfl rfl rfl (fun _ _=>?_) (hin:=by repeat (first | exact trivial | refine And.intro ⟨_,rfl,gS⟩ ?_ | refine And.intro ⟨_,rfl,fS⟩ ?_ | refine And.intro ⟨_,rfl,gR⟩ ?_ | refine And.intro ⟨_,rfl,fG⟩ ?_ | refine And.intro ⟨_,rfl,aCt _⟩ ?_))
  refine aN ?_
  refine fO rfl (fun _=>?_) (fun e=>absurd e hL)
  refine aF ?_
  refine aC (()) [(4,none)] ?_ ?_ ?_
  ·exact aCu _
  ·trivial
  ·trivial
end
section
theorem H8 {c:GCluster} (hok:ClusOk c) {id:Int} (h:(bZ c id).2≠0):(bZ c id).1=c:=by
 unfold bZ at h ⊢
 rw [if_pos hok] at h ⊢
 by_cases h1:dZ c id=0
 ·rw [if_neg (by omega)] at h ⊢
  by_cases h2:c.clock=1000000
  ·rw [if_pos h2]
  ·rw [if_neg h2] at h ⊢
   by_cases h3:(eE c (bQ c id).toNat).1=0
   ·rw [if_pos h3] at h;exact absurd rfl h
   ·rw [if_neg h3]
 ·rw [if_pos h1]
theorem F4 (c:GCluster) (hb:D.bds dJ (bO c)) (id:Int):vQ Tryz.prog 51 [vR (bO c),vI id] (bZ c id).1 (bZ c id).2:=by
 refine aE Tryz.func51 fun B0 r_ D_ w0=>?_
 refine aT ?_
 refine aU 2 fun r_=>?_
 refine aF ?_
 refine aH (eT c hb) ?_
 refine eF rfl (fun e=>?_) (fun e=>?_)
 ·rw [show bZ c id=(aCl,1) from by unfold bZ;rw [if_neg (jN.1 e)]]
  refine aF ?_
  refine bB (a5 4 2 1 (fun i=>cE (([]:List GPlace).getD i aCi))) ?_
  refine bB (a5 4 3 4 (fun i=>bJ (([]:List GMachine).getD i aCj))) ?_
  refine bB (a5 4 4 7 (fun i=>cTx (([]:List GTx).getD i aCk))) ?_
  refine bB (a6 4 2 901) ?_
  refine bB (a6 4 3 902) ?_
  refine bB (a6 4 4 903) ?_
  refine aC (()) [(4,some 28),(5,none)] ?_ ?_ ?_
  ·exact aCu _
  ·exact wM
  ·trivial
 have hok:=c9.1 e
 refine aF ?_
 refine aR (iU c hb) fun _ _=>?_
 refine aN ?_
 have hst:=XV c hok id
 by_cases h0:(bZ c id).2=0
 ·rw [if_pos h0,h0] at hst
  rw [h0]
  have hpl:=yM hok id
  refine cO TT_ok (aCv 900 6 hst) rfl rfl (aCu _) (fun _=>rfl) rfl rfl rfl (fun _ _=>?_) (hin:=by repeat (first | exact trivial | refine And.intro ⟨_,rfl,gS⟩ ?_ | refine And.intro ⟨_,rfl,fS⟩ ?_ | refine And.intro ⟨_,rfl,gR⟩ ?_ | refine And.intro ⟨_,rfl,fG⟩ ?_ | refine And.intro ⟨_,rfl,aCt _⟩ ?_))
  refine aN ?_
  refine bX rfl (fun e=>by cases e) (fun _=>?_)
  refine aF ?_
  refine aC (()) [(4,some 28),(5,none)] ?_ ?_ ?_
  ·exact aCu _
  ·exact ⟨⟨_,rfl,bP hpl.symm⟩,⟨_,rfl,aCt _⟩,⟨_,rfl,aCt _⟩,trivial⟩
  ·trivial
 ·rw [if_neg h0] at hst
  rw [H8 hok h0]
  refine cO TT_ok (aCv 900 6 hst) rfl rfl (aCu _) (fun _=>rfl) rfl rfl rfl (fun _ _=>?_) (hin:=by repeat (first | exact trivial | refine And.intro ⟨_,rfl,gS⟩ ?_ | refine And.intro ⟨_,rfl,fS⟩ ?_ | refine And.intro ⟨_,rfl,gR⟩ ?_ | refine And.intro ⟨_,rfl,fG⟩ ?_ | refine And.intro ⟨_,rfl,aCt _⟩ ?_))
  refine aN ?_
  refine fO rfl (fun _=>?_) (fun e=>absurd e h0)
  refine aF ?_
  refine aR (aCv 901 911 (aCv 902 912 (aCv 903 913 (iU c hb)))) fun _ _=>?_
  refine aN ?_
  refine bB (bL 911 901) ?_
  refine bB (bL 912 902) ?_
  refine bB (bL 913 903) ?_
  refine aC (()) [(4,some 28),(5,none)] ?_ ?_ ?_
  ·exact aCu _
  ·exact wM
  ·trivial
end
section
theorem MA {t:GTx} {x:GCopyAt} {n:GNote} {m:GMachine} (h:(jG t x n m).1=0):(jG t x n m).2.2=dT t∨((t.phase=2∨t.phase=3)∧(jG t x n m).2.2=oV t):=by
 unfold jG at h ⊢
 cases hal:m.alive with
 | false=>rw [hal] at h;exact absurd (show (6:Int)=0 from h) (by decide)
 | true =>
  rw [hal] at h
  simp only [Bool.not_true,cond_false] at h ⊢
  by_cases h2:t.phase=2
  ·rw [if_pos h2] at h ⊢
   revert h
   cases !kX (cellsOf m x.region) (bY x.region t.sets) <;>cases decide ((m.log.length:Int)=200) <;>intro h <;>first | exact .inr ⟨.inl h2,rfl⟩ | exact .inl rfl | exact absurd (show (9:Int)=0 from h) (by decide)
  ·rw [if_neg h2] at h ⊢
   by_cases h3:t.phase=3
   ·rw [if_pos h3] at h ⊢
    revert h
    cases (bif fD ((cellsOf m x.region).getD n.slot.toNat aCo).head then true else ((cellsOf m x.region).getD n.slot.toNat aCo).head.tdiv 4 != n.version) <;>intro h <;>first | exact .inr ⟨.inr h3,rfl⟩ | exact .inl rfl
   ·rw [if_neg h3] at h ⊢
    by_cases h4:t.phase=4
    ·rw [if_pos h4] at h ⊢
     revert h
     cases decide ((m.log.length:Int)=200) <;>intro h <;>first | exact .inl rfl | exact absurd (show (9:Int)=0 from h) (by decide)
    ·rw [if_neg h4] at h ⊢
     by_cases h5:t.phase=5
     ·rw [if_pos h5] at h ⊢;exact .inl rfl
     ·rw [if_neg h5] at h ⊢
      by_cases h6:t.phase=6
      ·rw [if_pos h6] at h ⊢
       revert h
       cases !jI m t.id <;>intro h <;>first | exact .inl rfl | exact absurd (show (9:Int)=0 from h) (by decide)
      ·rw [if_neg h6] at h ⊢
       split <;>exact .inl rfl
end
section
theorem MC {t:GTx} {x:GCopyAt} {n:GNote} {m:GMachine}:(jG t x n m).1=0∨(jG t x n m).1=6∨(jG t x n m).1=9:=by
 unfold jG
 cases m.alive with
 | false=>exact .inr (.inl rfl)
 | true =>
  simp only [Bool.not_true,cond_false]
  split
  ·cases !kX (cellsOf m x.region) (bY x.region t.sets) <;>cases decide ((m.log.length:Int)=200) <;>simp
  ·split
   ·cases (bif fD ((cellsOf m x.region).getD n.slot.toNat aCo).head then true else ((cellsOf m x.region).getD n.slot.toNat aCo).head.tdiv 4 != n.version) <;>simp
   ·split
    ·cases decide ((m.log.length:Int)=200) <;>simp
    ·split
     ·simp
     ·split
      ·cases !jI m t.id <;>simp
      ·split <;>simp
def tlP (p d:Int):Int:=if p=5∧d > 0∨p=6∨p=7 then 1 else if p=8∨p=9 then 2 else 0
theorem OF {t:GTx} (h:eN t):kJ t=tlP t.phase t.done:=by unfold kJ tlP;rw [if_pos h]
theorem aAV {t:GTx} (h:tlP t.phase t.done≠0) (h7:t.phase≠7) (h9:t.phase≠9):tlP (fE t) 0=tlP t.phase t.done:=by
 have hx:(t.phase=5∧t.done > 0)∨t.phase=6∨t.phase=8:=by
  unfold tlP at h
  by_cases c1:t.phase=5∧t.done > 0∨t.phase=6∨t.phase=7
  ·omega
  ·rw [if_neg c1] at h
   by_cases c2:t.phase=8∨t.phase=9
   ·omega
   ·rw [if_neg c2] at h;exact absurd rfl h
 unfold fE tlP
 rcases hx with ⟨e,e2⟩ | e | e <;>rw [e] <;>simp
 ·exact e2
theorem HK {c:GCluster}:∀ (n:Nat) (y:Int×GTx),tlP y.2.phase y.2.done≠0→tlP (iW c n y).2.phase (iW c n y).2.done=tlP y.2.phase y.2.done
 | 0,_,_=>rfl
 | n+1,y,h=>by
  rw [iW]
  by_cases hs:mQ c y.2
  ·rw [if_pos hs]
  ·rw [if_neg hs]
   have h1:=aAV h (fun e=>hs (.inl e)) (fun e=>hs (.inr (.inl e)))
   have h2:tlP (tQ y).2.phase (tQ y).2.done=tlP y.2.phase y.2.done:=h1
   rw [HK n (tQ y) (by rw [h2];exact h),h2]
theorem TQ {c:GCluster} {i:Nat} (hi:i<c.txs.length) (h0:(eE c i).1=0) (ht:tlP (c.txs.getD i aCk).phase (c.txs.getD i aCk).done≠0) (hdn:∀ u,0≤(dY c (c.clock,c.txs.getD i aCk)).2.done∨u):tlP ((eE c i).2.txs.getD i aCk).phase ((eE c i).2.txs.getD i aCk).done=tlP (c.txs.getD i aCk).phase (c.txs.getD i aCk).done:=by
 have hA:=HK (c:=c) 8 (c.clock,c.txs.getD i aCk) ht
 have hRo:=xF (c:=c) (i:=i)
 have hRn:=CC (c:=c) (i:=i)
 have hRy:=z7 (c:=c) (i:=i)
 have hA:tlP (dY c (c.clock,c.txs.getD i aCk)).2.phase (dY c (c.clock,c.txs.getD i aCk)).2.done=tlP (c.txs.getD i aCk).phase (c.txs.getD i aCk).done:=hA
 generalize dY c (c.clock,c.txs.getD i aCk)=y at hA hRo hRn hRy hdn
 have hset:∀ u:GTx,(c.txs.set i u).getD i aCk=u:=fun u=>by rw [lA hi,if_pos rfl]
 by_cases h79:y.2.phase=7∨y.2.phase=9
 ·rw [hRo h79]
  have e:(nW c i y c.machines).txs.getD i aCk=y.2:=hset _
  show tlP ((nW c i y c.machines).txs.getD i aCk).phase ((nW c i y c.machines).txs.getD i aCk).done=_
  rw [e];exact hA
 ·have ha:(b8 c y.2).1=0:=by
   by_cases ha:(b8 c y.2).1=0
   ·exact ha
   ·rw [hRn h79 ha] at h0;exact absurd h0 ha
  rw [hRy h79 ha]
  have e:∀ z ms,(nW c i z ms).txs.getD i aCk=z.2:=fun z ms=>hset _
  show tlP ((nW c i _ _).txs.getD i aCk).phase ((nW c i _ _).txs.getD i aCk).done=_
  rw [e]
  have hd:0≤y.2.done:=(hdn False).resolve_right id
  have key:tlP (b8 c y.2).2.2.phase (b8 c y.2).2.2.done=tlP y.2.phase y.2.done:=by
   rcases MA (t:=y.2) (x:=cZ c y.2) (n:=(bW y.2).getD y.2.done.toNat aCn) (m:=c.machines.getD (cZ c y.2).machine.toNat aCj) ha with e | ⟨hb,e⟩
   ·have e:(b8 c y.2).2.2=dT y.2:=e
    rw [e]
    show tlP y.2.phase (y.2.done+1)=_
    have hne:tlP y.2.phase y.2.done≠0:=by rw [hA];exact ht
    unfold tlP at hne ⊢
    by_cases c1:y.2.phase=5∧y.2.done > 0∨y.2.phase=6∨y.2.phase=7
    ·rw [if_pos c1,if_pos (by omega)]
    ·rw [if_neg c1] at hne ⊢
     by_cases c2:y.2.phase=8∨y.2.phase=9
     ·rw [if_neg (by omega)]
     ·rw [if_neg c2] at hne;exact absurd rfl hne
   ·have hne:tlP y.2.phase y.2.done≠0:=by rw [hA];exact ht
    exfalso;apply hne
    unfold tlP
    rw [if_neg (by omega),if_neg (by omega)]
  have h2:=HK (c:=c) 8 (y.1,(b8 c y.2).2.2) (by show tlP (b8 c y.2).2.2.phase (b8 c y.2).2.2.done≠0;rw [key,hA];exact ht)
  exact h2.trans (key.trans hA)
theorem IC {c:GCluster} (hok:ClusOk c) (id:Int):(∃ m,∀ k,k≠m→(bZ c id).1.machines.getD k aCj=c.machines.getD k aCj)∧(bZ c id).1.machines.length=c.machines.length∧(bZ c id).1.txs.length=c.txs.length∧∀ k:Nat,(k:Int)≠bQ c id→(bZ c id).1.txs.getD k aCk=c.txs.getD k aCk:=by
 have hs:∀ {α:Type} {z:α} (xs:List α) (p k:Nat) (y:α),k≠p→(xs.set p y).getD k z=xs.getD k z:=fun xs p k y h=>by
  simp only [List.getD_eq_getElem?_getD]
  rw [List.getElem?_set_ne (Ne.symm h)]
 have hsame:(∃ m,∀ k,k≠m→c.machines.getD k aCj=c.machines.getD k aCj)∧c.machines.length=c.machines.length∧c.txs.length=c.txs.length∧∀ k,((k:Nat):Int)≠bQ c id→c.txs.getD k aCk=c.txs.getD k aCk:=⟨⟨0,fun _ _=>rfl⟩,rfl,rfl,fun _ _=>rfl⟩
 unfold bZ
 rw [if_pos hok]
 by_cases h1:dZ c id≠0
 ·rw [if_pos h1];exact hsame
 ·have hge:=(nA (show dZ c id=0 by omega)).1
  rw [if_neg h1]
  by_cases h2:c.clock=1000000
  ·rw [if_pos h2];exact hsame
  ·rw [if_neg h2]
   by_cases h3:(eE c (bQ c id).toNat).1=0
   ·rw [if_pos h3]
    unfold eE at h3 ⊢
    dsimp only at h3 ⊢
    split
    ·exact ⟨⟨0,fun _ _=>rfl⟩,rfl,List.length_set,fun k hk=>hs _ _ _ _ (by omega)⟩
    ·rename_i h79
     rw [if_neg h79] at h3
     split
     ·exact ⟨⟨_,fun k hk=>hs _ _ _ _ hk⟩,List.length_set,List.length_set,fun k hk=>hs _ _ _ _ (by omega)⟩
     ·exact hsame
   ·rw [if_neg h3];exact hsame
end
section
theorem ES (c:GCluster) (id:Int):jD (eP c id).1:=by
 by_cases h:ClusOk c
 ·exact lH (BW h id)
 ·unfold eP;rw [if_neg h];exact s9
theorem IS (c:GCluster) (id:Int):jD (bZ c id).1:=by
 by_cases h:ClusOk c
 ·exact lH (lQ h id)
 ·unfold bZ;rw [if_neg h];exact s9
theorem I5 {n:Nat} {β:Nat→Int} (hn:n≤1048576) (hβ:eS β) (i h:Int) (h1:0≤i) (h2:i≤n) (k:GCluster) (hk:k.txs.length≤1048576):zE Tryz.prog 100 [vR (bO k)] n β i h (fun _:Int=>True) vI:=by
 refine aE Tryz.func100 fun B0 r_ D_ w0=>?_
 refine aT ?_
 refine zS ?_
 refine a7 (ι:=Int×Int) (fun _=>[]) (fun y=>[(700,dE y.1 y.2)]) (fun y=>0≤y.1∧y.1≤n) [700] [] ?_ ?_
 ·by_cases hl:k.txs.length=0
  ·have hz:decide ((k.txs.length:Int) > 0) = !true:=decide_eq_false (by omega)
   refine aF ?_
   refine lK (vB true) rfl rfl rfl rfl (hz) rfl rfl ?_
   refine aN ?_
   rw [hz]
   refine bX rfl (fun e=>by cases e) (fun _=>?_)
   refine aF ?_
   exact aL (i,h) ⟨h1,h2⟩ Nat.zero_lt_one
  ·have hz:decide ((k.txs.length:Int) > 0)=true:=decide_eq_true (by omega)
   refine aF ?_
   refine cO TT_ok (d9 hn hβ i h h1 h2 8) rfl rfl (aCu _) (fun _=>rfl) rfl rfl rfl (fun z ⟨z1,z2,z3⟩=>?_) (hg:=⟨rfl,congrArg (fun x=>some (vB x)) hz⟩)
   refine aN ?_
   rw [hz]
   refine aA (fun _=>?_) (fun _=>?_)
   ·refine aF ?_
    refine aW [700] [0,1,2,3,4,5,6,7,8,9,10] fun B0 H0=>?_
    refine aX 6 (bR hn hβ z.2.1 z.2.2 z2 z3 k.txs.length) fun y ⟨y1,y2,y3⟩=>?_
    refine aY [7,8,9,10] ?_
    refine aP ?_
    refine aC (((k.txs.getD y.1.toNat aCk).id,y.2.1,y.2.2)) [(4,none)] ?_ ?_ ?_
    ·exact aCu _
    ·exact wM
    ·exact ⟨trivial,y2,y3⟩
   ·refine aF ?_
    exact aL (z.2.1,z.2.2) ⟨z2,z3⟩ Nat.zero_lt_one
 rintro ⟨i1,i2⟩ ⟨u1,u2⟩
 dsimp only at u1 u2 ⊢
 refine aZ ?_
 refine cV TT_ok 50 (fun i=>bS (([0,1,5,9,1000000,1000001]:List Int).getD i 0)) rfl rfl rfl rfl rfl rfl rfl (fun i hi=>by rcases i with _ | _ | _ | _ | _ | _ | i <;>first | rfl | omega) (mu1:=[]) rfl rfl rfl ?_
 refine aN ?_
 refine aR (bR hn hβ i1 i2 u1 u2 6) fun z ⟨z1,z2,z3⟩=>?_
 refine aN ?_
 refine aC ((([0,1,5,9,1000000,1000001]:List Int).getD z.1.toNat 0,z.2.1,z.2.2)) [(4,none)] ?_ ?_ ?_
 ·exact aCu _
 ·exact wM
 ·exact ⟨trivial,z2,z3⟩
abbrev VO (P:Program) (f:Nat) (n:Nat) (β:Nat→Int) (i h:Int):Prop :=
 Con P f [700,701] [.a (.p 700 0)] (xB n β i h) (fun y:GCluster×Int×Int×Int=>jD y.1∧0≤y.2.2.1∧y.2.2.1≤n) (fun y=>[iC y.1 901 902 903,vI y.2.1]) fun y=>(700,dE y.2.2.1 y.2.2.2) :: muD y.1 901 902 903
theorem N5 {n:Nat} {β:Nat→Int} (hn:n≤1048576) (hβ:eS β) (i h:Int) (h1:0≤i) (h2:i≤n):VO Tryz.prog 121 n β i h:=by
 refine aE Tryz.func121 fun B0 r_ D_ w0=>?_
 refine aF ?_
 refine aR (nk:=[700,61,62,63]) (aCv 901 61 (aCv 902 62 (aCv 903 63 (rG hn hβ i h h1 h2)))) fun y ⟨y1,y2,y3⟩=>?_
 obtain ⟨k,i1,i2⟩:=y
 dsimp only at y1 y2 y3 ⊢
 have hb:=fI y1
 have ht:k.txs.length≤1048576:=hb.2.2.2.2.1.1
 refine aN ?_
 refine aR (d9 hn hβ i1 i2 y2 y3 2) fun a ⟨a1,a2,a3⟩=>?_
 refine aN ?_
 refine aH (d5 k hb) ?_
 refine a7 (ι:=Int×Int) (fun _=>[]) (fun y=>[(700,dE y.1 y.2)]) (fun y=>0≤y.1∧y.1≤n) [700] [] ?_ ?_
 ·refine aA (fun e=>?_) (fun _=>?_)
  rotate_left
  ·refine aF ?_
   exact aL (a.2.1,a.2.2) ⟨a2,a3⟩ Nat.zero_lt_one
  have hok:ClusOk k:=by
   revert e
   cases a.1
   ·intro e;cases e
   ·intro e;exact c9.1 e
  refine aT ?_
  refine zS ?_
  refine a7 (ι:=Int) (fun v=>[(5,vI v)]) (fun _=>[]) (fun _=>True) [] [] ?_ ?_
  ·refine aF ?_
   refine aI (fun e2=>?_) (fun _=>?_)
   ·have hx:((k.txs.length:Int) - 1).toNat<k.txs.length:=by omega
    have hid:=y1.2 _ (cJ (z:=aCk) hx)
    refine aF ?_
    exact aL _ trivial Nat.zero_lt_one
   ·refine aF ?_
    exact aL _ trivial Nat.zero_lt_one
  intro id _
  refine aZ ?_
  have hul:=EM k
  have hml:k.machines.length≤1048576:=hb.2.2.2.1.1
  refine aR (aCv 900 64 (D3 k hb)) fun _ _=>?_
  refine aN ?_
  refine aI (fun e2=>?_) (fun _=>?_)
  rotate_left
  ·refine aF ?_
   exact aL (a.2.1,a.2.2) ⟨a2,a3⟩ Nat.zero_lt_one
  refine aF ?_
  refine a7 (ι:=Unit) (fun _=>[(7, .a (.p 7 0)),(8,vI (fA k id ((iG k).getD 0 0)).2)]) (fun _=>[(7, .row (fW (fA k id ((iG k).getD 0 0)).1 71 72 73)),(71,bE 1 cE aCi (fA k id ((iG k).getD 0 0)).1.places),(72,bE 4 bJ aCj (fA k id ((iG k).getD 0 0)).1.machines),(73,bE 7 cTx aCk (fA k id ((iG k).getD 0 0)).1.txs)]) (fun _=>True) [] [] ?_ ?_
  ·refine aW [] [0,1,2,3,4,5,6,7,8,9,10,11] fun B0 H0=>?_
   refine eU 5 9 rfl rfl (by kernel_rfl) (gG (aCv 901 71 (aCv 902 72 (aCv 903 73 (tG k hb id ((iG k).getD 0 0))))) rfl rfl (aCu _) (fun _=>rfl) rfl rfl rfl (fun _ _=>bD ?_)) (aV (bD ?_))
   ·refine aY [6,7,8,9,10,11] ?_
    refine bG 9 rfl (by kernel_rfl) (aV (bD ?_))
    refine bG 10 rfl (by kernel_rfl) (aV (bD ?_))
    refine aY [11] ?_
    refine aP ?_
    exact aL () trivial Nat.zero_lt_one
   ·skip
    refine aX 5 (aCv 901 71 (aCv 902 72 (aCv 903 73 (tG k hb id ((iG k).getD 0 0))))) fun _ _=>?_
    refine aY [6,7,8,10,11] ?_
    refine bG 10 rfl (by kernel_rfl) (aV (bD ?_))
    refine aY [11] ?_
    refine aP ?_
    exact aL () trivial Nat.zero_lt_one
  rintro ⟨⟩ _
  have hX:=EU hok id ((iG k).getD 0 0)
  generalize (fA k id ((iG k).getD 0 0)).1=K at hX
  generalize (fA k id ((iG k).getD 0 0)).2=code
  refine aZ ?_
  refine aQ (fun e3=>?_) (fun _=>?_)
  rotate_left
  ·refine aF ?_
   exact aL (a.2.1,a.2.2) ⟨a2,a3⟩ Nat.zero_lt_one
  refine aF ?_
  refine aR (bR hn hβ a.2.1 a.2.2 a2 a3 4) fun nn ⟨nn1,nn2,nn3⟩=>?_
  refine aN ?_
  refine bB (D4 7 rfl) ?_
  refine cY (ι:=GCluster×Int×Int×Int) (fun y=>[(9,vI y.2.1)]) (fun y=>(4, .row (fW y.1 71 72 73)) :: (700,dE y.2.2.1 y.2.2.2) :: muD y.1 71 72 73) (fun y=>ClusOk y.1∧(0≤y.2.1∧y.2.1≤4)∧0≤y.2.2.1∧y.2.2.1≤n) (fun y=>y.2.1.toNat) (K,nn.1,nn.2.1,nn.2.2) [4,700,71,72,73] [71,72,73] rfl rfl ⟨hX,by dsimp only;omega,nn2,nn3⟩ wF ⟨⟨_,rfl,aCt _⟩,⟨_,rfl,aCt _⟩,⟨_,rfl,lY⟩,wM⟩ ?_
  clear hX
  rintro ⟨K,m,i3,i4⟩ ⟨u1,u2,u3,u4⟩
  dsimp only at u1 u2 u3 u4 ⊢
  have hKb:=l8 u1
  refine aF ?_
  refine aI (fun e4=>?_) (fun _=>?_)
  ·refine aF ?_
   refine a7 (ι:=Int×Int×Int) (fun y=>[(10, .a (.p 10 0)),(11,vI (iM K id y.1).2.1),(12,vI (iM K id y.1).2.2)]) (fun y=>[(10, .row (fW (iM K id y.1).1 81 82 83)),(81,bE 1 cE aCi (iM K id y.1).1.places),(82,bE 4 bJ aCj (iM K id y.1).1.machines),(83,bE 7 cTx aCk (iM K id y.1).1.txs),(700,dE y.2.1 y.2.2)]) (fun y=>0≤y.2.1∧y.2.1≤n) [700] [] ?_ ?_
   ·refine aW [700] [0,1,2,3,4,5,6,7,8,9,10,11,12] fun B0 H0=>?_
    refine eU 3 9 rfl rfl (by kernel_rfl) (gG (nk:=[700]) (bR hn hβ i3 i4 u3 u4 2) rfl rfl (aCu _) (fun _=>rfl) rfl rfl rfl (fun r ⟨r1,r2,r3⟩=>bD ?_)) (aV (bD ?_))
    ·skip
     refine eU 4 9 rfl rfl (by kernel_rfl) (gG (aCv 901 81 (aCv 902 82 (aCv 903 83 (tW K hKb id r.1)))) rfl rfl (aCu _) (fun _=>rfl) rfl rfl rfl (fun _ _=>bD ?_)) (aV (bD ?_))
     ·refine aY [5,6,7,8,9,10,11,12] ?_
      refine bG 9 rfl (by kernel_rfl) (aV (bD ?_))
      refine bG 10 rfl (by kernel_rfl) (aV (bD ?_))
      refine aY [11,12] ?_
      refine aP ?_
      exact aL (r.1,r.2.1,r.2.2) ⟨r2,r3⟩ Nat.zero_lt_one
     ·skip
      refine aX 4 (aCv 901 81 (aCv 902 82 (aCv 903 83 (tW K hKb id r.1)))) fun _ _=>?_
      refine aY [5,6,7,8,10,11,12] ?_
      refine bG 10 rfl (by kernel_rfl) (aV (bD ?_))
      refine aY [11,12] ?_
      refine aP ?_
      exact aL (r.1,r.2.1,r.2.2) ⟨r2,r3⟩ Nat.zero_lt_one
    ·skip
     refine aX (nk:=[700]) 3 (bR hn hβ i3 i4 u3 u4 2) fun r ⟨r1,r2,r3⟩=>?_
     refine aX 4 (aCv 901 81 (aCv 902 82 (aCv 903 83 (tW K hKb id r.1)))) fun _ _=>?_
     refine aY [5,6,7,8,10,11,12] ?_
     refine bG 10 rfl (by kernel_rfl) (aV (bD ?_))
     refine aY [11,12] ?_
     refine aP ?_
     exact aL (r.1,r.2.1,r.2.2) ⟨r2,r3⟩ Nat.zero_lt_one
   rintro ⟨r,i5,i6⟩ ⟨v1,v2⟩
   dsimp only at v1 v2 ⊢
   have hA:=M6 u1 id r
   generalize (iM K id r).1=K2 at hA
   generalize (iM K id r).2.1=w1
   generalize (iM K id r).2.2=w2
   refine aZ ?_
   refine aI (fun _=>?_) (fun _=>?_)
   ·refine aF ?_
    refine bC (bL 71 81) ?_
    refine bC (bL 72 82) ?_
    refine bC (bL 73 83) ?_
    exact bN (K2,m - 1,i5,i6) ⟨hA,by dsimp only;omega,v1,v2⟩ (by dsimp only;omega) wF ⟨⟨_,rfl,aCt _⟩,⟨_,rfl,aCt _⟩,⟨_,rfl,lY⟩,wM⟩
   ·refine aF ?_
    exact aL (K,m - 1,i5,i6) ⟨u1,by dsimp only;omega,v1,v2⟩ (by dsimp only;omega)
  refine aF ?_
  refine bB (bL 71 901) ?_
  refine bB (bL 72 902) ?_
  refine bB (bL 73 903) ?_
  refine aC ((K,id,i3,i4)) [(2,some 28),(3,none)] ?_ ?_ ?_
  ·exact aCu _
  ·exact wM
  ·exact ⟨lH u1,u3,u4⟩
 rintro ⟨i3,i4⟩ ⟨u1,u2⟩
 dsimp only at u1 u2 ⊢
 refine aZ ?_
 refine aW [700,2] [0,1,2,3,4,5] fun B0 H0=>?_
 refine aX 3 (I5 hn hβ i3 i4 u1 u2 k ht) fun z ⟨z1,z2,z3⟩=>?_
 refine bG 4 rfl (by kernel_rfl) (aV (bD ?_))
 refine aY [5] ?_
 refine aP ?_
 refine bB (bL 61 901) ?_
 refine bB (bL 62 902) ?_
 refine bB (bL 63 903) ?_
 refine aC ((k,z.1,z.2.1,z.2.2)) [(2,some 28),(3,none)] ?_ ?_ ?_
 ·exact aCu _
 ·exact wM
 ·exact ⟨y1,z2,z3⟩
end
section
theorem XQ {n:Nat} {β:Nat→Int} (hn:n≤1048576) (hβ:eS β) (i h:Int) (h1:0≤i) (h2:i≤n):VO Tryz.prog 117 n β i h:=by
 refine aE Tryz.func117 fun B0 r_ D_ w0=>?_
 refine aF ?_
 refine aR (nk:=[700,61,62,63]) (aCv 901 61 (aCv 902 62 (aCv 903 63 (N5 hn hβ i h h1 h2)))) fun y ⟨y1,y2,y3⟩=>?_
 obtain ⟨k,id,i1,i2⟩:=y
 dsimp only at y1 y2 y3 ⊢
 have hb:=fI y1
 refine aN ?_
 refine aR (d9 hn hβ i1 i2 y2 y3 2) fun a ⟨a1,a2,a3⟩=>?_
 refine aN ?_
 refine a7 (ι:=GCluster×Int×Int) (fun _=>[]) (fun y=>(4, .row (fW y.1 61 62 63)) :: (700,dE y.2.1 y.2.2) :: muD y.1 61 62 63) (fun y=>jD y.1∧0≤y.2.1∧y.2.1≤n) [4,700,61,62,63] [61,62,63] ?_ ?_
 ·refine aA (fun _=>?_) (fun _=>?_)
  rotate_left
  ·refine aF ?_
   exact aL (k,a.2.1,a.2.2) ⟨y1,a2,a3⟩ Nat.zero_lt_one
  refine aF ?_
  refine aR (aCv 901 71 (aCv 902 72 (aCv 903 73 (w7 k hb id)))) fun _ _=>?_
  refine aN ?_
  have hX:=ES k id
  generalize (eP k id).1=K at hX
  generalize (eP k id).2=code
  refine aQ (fun _=>?_) (fun _=>?_)
  rotate_left
  ·refine aF ?_
   exact aL (k,a.2.1,a.2.2) ⟨y1,a2,a3⟩ Nat.zero_lt_one
  refine aF ?_
  refine aR (bR hn hβ a.2.1 a.2.2 a2 a3 10) fun nn ⟨nn1,nn2,nn3⟩=>?_
  refine aN ?_
  refine bB (D4 6 rfl) ?_
  refine cY (ι:=GCluster×Int×Int×Int) (fun y=>[(8,vI y.2.1)]) (fun y=>(4, .row (fW y.1 71 72 73)) :: (700,dE y.2.2.1 y.2.2.2) :: muD y.1 71 72 73) (fun y=>jD y.1∧(0≤y.2.1∧y.2.1≤10)∧0≤y.2.2.1∧y.2.2.1≤n) (fun y=>y.2.1.toNat) (K,nn.1,nn.2.1,nn.2.2) [4,700,71,72,73] [71,72,73] rfl rfl ⟨hX,by dsimp only;omega,nn2,nn3⟩ wF ⟨⟨_,rfl,aCt _⟩,⟨_,rfl,aCt _⟩,⟨_,rfl,lY⟩,wM⟩ ?_
  clear hX
  rintro ⟨K,m,i3,i4⟩ ⟨u1,u2,u3,u4⟩
  dsimp only at u1 u2 u3 u4 ⊢
  have hKb:=fI u1
  refine aF ?_
  refine aI (fun e4=>?_) (fun _=>?_)
  ·refine aF ?_
   refine aR (aCv 901 81 (aCv 902 82 (aCv 903 83 (vY K hKb id)))) fun _ _=>?_
   refine aN ?_
   have hA:=IS K id
   generalize (bZ K id).1=K2 at hA
   generalize (bZ K id).2=w2
   refine aQ (fun _=>?_) (fun _=>?_)
   ·refine aF ?_
    refine bC (bL 71 81) ?_
    refine bC (bL 72 82) ?_
    refine bC (bL 73 83) ?_
    exact bN (K2,m - 1,i3,i4) ⟨hA,by dsimp only;omega,u3,u4⟩ (by dsimp only;omega) wF ⟨⟨_,rfl,aCt _⟩,⟨_,rfl,aCt _⟩,⟨_,rfl,lY⟩,wM⟩
   ·refine aF ?_
    exact aL (K,m - 1,i3,i4) ⟨u1,by dsimp only;omega,u3,u4⟩ (by dsimp only;omega)
  refine aF ?_
  refine bC (bL 61 71) ?_
  refine bC (bL 62 72) ?_
  refine bC (bL 63 73) ?_
  exact aL (K,i3,i4) ⟨u1,u3,u4⟩ Nat.zero_lt_one
 clear a1 a2 a3
 rintro ⟨k,i3,i4⟩ ⟨u1,u2,u3⟩
 dsimp only at u1 u2 u3 ⊢
 refine aZ ?_
 refine bB (bL 61 901) ?_
 refine bB (bL 62 902) ?_
 refine bB (bL 63 903) ?_
 refine aC ((k,id,i3,i4)) [(2,some 28),(3,none)] ?_ ?_ ?_
 ·exact aCu _
 ·exact wM
 ·exact ⟨u1,u2,u3⟩
theorem tL {n:Nat} {β:Nat→Int} (hn:n≤1048576) (hβ:eS β):A7 Tryz.prog 50 n β:=by
 refine aE Tryz.func50 fun B0 r_ D_ w0=>?_
 refine aF ?_
 refine aR (mG hn hβ) fun h0 _=>?_
 refine aN ?_
 refine aR (nk:=[700,61,62,63]) (aCv 901 61 (aCv 902 62 (aCv 903 63 (XQ hn hβ 0 h0 (Int.le_refl _) (Int.natCast_nonneg _))))) fun y ⟨y1,y2,y3⟩=>?_
 obtain ⟨k,id,i1,i2⟩:=y
 dsimp only at y1 y2 y3 ⊢
 have ht:k.txs.length≤60000:=by have:=y1.1;unfold iL wL at this;omega
 refine aN ?_
 refine aK (ι:=Int×Nat×Int×Int) (fun y=>[(6,vI y.1),(7,vI y.2.1)]) (fun y=>[(700,dE y.2.2.1 y.2.2.2)]) (fun y=>y.2.1≤k.txs.length∧0≤y.2.2.1∧y.2.2.1≤n) (fun y=>k.txs.length - y.2.1) (id,0,i1,i2) [700] [] ⟨Nat.zero_le _,y2,y3⟩ ?_
 rintro ⟨id,j,i3,i4⟩ ⟨u1,u2,u3⟩
 dsimp only at u1 u2 u3 ⊢
 refine aF ?_
 refine aI (fun e=>?_) (fun e=>?_)
 ·have hj:j<k.txs.length:=by omega
  by_cases hz:(bif (bif ((k.txs.getD j aCk).phase != 1) then ((k.txs.getD j aCk).phase != 7) else false) then ((k.txs.getD j aCk).phase != 9) else false)=true
  ·refine aF ?_
   refine cO TT_ok (d9 hn hβ i3 i4 u2 u3 2) rfl rfl (aCu _) (fun _=>rfl) rfl rfl rfl (fun z ⟨z1,z2,z3⟩=>?_) (hg:=⟨rfl,congrArg (fun x=>some (vB x)) hz⟩)
   refine aN ?_
   refine bX (b:=z.1) (by show some (SV.a (.v (.bool (bif _ then z.1 else false))))=_;rw [show (bif (bif ((k.txs.getD (j:Int).toNat aCk).phase != 1) then ((k.txs.getD (j:Int).toNat aCk).phase != 7) else false) then ((k.txs.getD (j:Int).toNat aCk).phase != 9) else false)=true from hz];rfl) (fun _=>?_) (fun _=>?_)
   ·refine aF ?_
    exact aL (_,j+1,z.2.1,z.2.2) ⟨hj,z2,z3⟩ (by dsimp only;omega)
   ·refine aF ?_
    exact aL (id,j+1,z.2.1,z.2.2) ⟨hj,z2,z3⟩ (by dsimp only;omega)
  ·have hz':(bif (bif ((k.txs.getD (j:Int).toNat aCk).phase != 1) then ((k.txs.getD (j:Int).toNat aCk).phase != 7) else false) then ((k.txs.getD (j:Int).toNat aCk).phase != 9) else false) = !true:=by
    have:((j:Int)).toNat=j:=rfl
    rw [this];simpa using hz
   refine aF ?_
   refine lK (vB true) rfl rfl rfl rfl (hz') rfl rfl ?_
   refine aN ?_
   refine bX (b:=false) (by show some (SV.a (.v (.bool (bif _ then true else false))))=_;rw [hz'];rfl) (fun e=>by cases e) (fun _=>?_)
   refine aF ?_
   exact aL (id,j+1,i3,i4) ⟨hj,u2,u3⟩ (by dsimp only;omega)
 ·refine aF ?_
  refine bB (bL 61 901) ?_
  refine bB (bL 62 902) ?_
  refine bB (bL 63 903) ?_
  refine aC ((k,id)) [(2,some 28),(3,none)] ?_ ?_ ?_
  ·exact aCu _
  ·exact wM
  ·exact y1
end
section
theorem ON {n:Nat} {β:Nat→Int} (hn:n≤1048576) (hβ:eS β):A7 Tryz.prog 53 n β:=by
 refine aE Tryz.func53 fun B0 r_ D_ w0=>?_
 refine aF ?_
 refine aR (mG hn hβ) fun h0 _=>?_
 refine aN ?_
 refine aR (nk:=[700,901,902,903]) (N5 hn hβ 0 h0 (Int.le_refl _) (Int.natCast_nonneg _)) fun y ⟨y1,y2,y3⟩=>?_
 refine aN ?_
 refine aC ((y.1,y.2.1)) [(2,some 28),(3,none)] ?_ ?_ ?_
 ·exact aCu _
 ·exact wM
 ·exact y1
end
section
def RelI (l m:List V):Prop := ∀ B Z vs,V.rels B Z l vs→V.rels B Z m vs
theorem RelI.e:RelI [] []:=fun _ _ _ e=>e
theorem RelI.c {x:V} {l m:List V} (k:RelI l m):RelI (x :: l) (x :: m):=fun _ _ _ ⟨y,t,e1,e2,e3⟩=>⟨y,t,e1,e2,k _ _ _ e3⟩
theorem RelI.n {q:Tg} {sz:Nat} {f:Nat→List D} {l m:List V} (k:RelI l m):RelI (.v (.slice none 0 0) :: l) (.s q sz 0 f :: m):=fun _ _ _ ⟨y,t,e1,e2,e3⟩=>⟨y,t,e1,by
 have e2:y = .slice none 0 0:=e2
 subst e2;exact ⟨none,0,rfl,Nat.le_refl _,Nat.zero_le _, .inl rfl⟩,k _ _ _ e3⟩
theorem SV.imp_agI {P:Program} {l m:List V} (h:RelI l m):(SV.ag l).imp P (.ag m):=fun B Z _ ⟨vs,e1,e2⟩=>⟨vs,e1,h B Z vs e2⟩
theorem z6 {P:Program}:(SV.ag [.v (.int .i64 0), .v (.int .i64 0),lU,lU,lU, .v (.bool false)]).imp P (vR (bO aCl)):=SV.imp_agI (RelI.c (RelI.c (RelI.n (RelI.n (RelI.n (RelI.c RelI.e))))))
end
section
theorem KV {c:GCluster} (hb:D.bds dJ (bO c)) (id:Int):(fF c id).1.reads.length≤1048576∧(fF c id).1.sets.length≤1048576:=by
 unfold fF
 split
 ·have:=xZ hb (bQ c id).toNat
  exact ⟨this.2.2.2.2.1.1,this.2.2.2.2.2.1.1⟩
 ·exact ⟨Nat.zero_le _,Nat.zero_le _⟩
end
section
theorem ZK {c:GCluster} {id:Int}:dZ c id≠1:=by
 unfold dZ
 cases decide (bQ c id<0)
 ·rw [cond_false]
  cases !jE c id
  ·rw [cond_false]
   cases (bif (bT c id).phase == 1 then true else bif (bT c id).phase == 7 then true else (bT c id).phase == 9) <;>decide
  ·exact (by decide:(3:Int)≠1)
 ·exact (by decide:(2:Int)≠1)
theorem NA {c:GCluster} {id:Int} (h:(bZ c id).2=1):¬ ClusOk c∧(bZ c id).1=aCl:=by
 by_cases hok:ClusOk c
 ·exfalso
  unfold bZ at h
  rw [if_pos hok] at h
  by_cases h1:dZ c id≠0
  ·rw [if_pos h1] at h;exact ZK h
  ·rw [if_neg h1] at h
   by_cases h2:c.clock=1000000
   ·rw [if_pos h2] at h;exact absurd (show (9:Int)=1 from h) (by decide)
   ·rw [if_neg h2] at h
    by_cases h3:(eE c (bQ c id).toNat).1=0
    ·rw [if_pos h3] at h;exact absurd (show (0:Int)=1 from h) (by decide)
    ·rw [if_neg h3] at h
     have h:(eE c (bQ c id).toNat).1=1:=h
     unfold eE at h
     dsimp only at h
     split at h
     ·exact absurd (show (0:Int)=1 from h) (by decide)
     ·split at h
      ·exact absurd (show (0:Int)=1 from h) (by decide)
      ·have h:(b8 c (dY c (c.clock,c.txs.getD (bQ c id).toNat aCk)).2).1=1:=h
       rcases MC (t:=(dY c (c.clock,c.txs.getD (bQ c id).toNat aCk)).2) (x:=cZ c (dY c (c.clock,c.txs.getD (bQ c id).toNat aCk)).2) (n:=(bW (dY c (c.clock,c.txs.getD (bQ c id).toNat aCk)).2).getD (dY c (c.clock,c.txs.getD (bQ c id).toNat aCk)).2.done.toNat aCn) (m:=c.machines.getD (cZ c (dY c (c.clock,c.txs.getD (bQ c id).toNat aCk)).2).machine.toNat aCj) with e | e | e <;>
        (have e:(b8 c (dY c (c.clock,c.txs.getD (bQ c id).toNat aCk)).2).1=_:=e;omega)
 ·exact ⟨hok,by unfold bZ;rw [if_neg hok]⟩
theorem WS {c:GCluster} {id:Int} (h:(bZ c id).2≠1):ClusOk c:=by
 by_cases hok:ClusOk c
 ·exact hok
 ·exact absurd (by unfold bZ;rw [if_neg hok]) h
theorem Q6 {c:GCluster} {id:Int} (h:(eP c id).2=0):ClusOk (eP c id).1:=by
 by_cases hok:ClusOk c
 ·exact BW hok id
 ·unfold eP at h
  rw [if_neg hok] at h
  exact absurd (show (1:Int)=0 from h) (by decide)
noncomputable def unl (x c:GCluster):Nat→Int
 | 0=>0
 | i+1=>bif dec (c.machines.getD i aCj=x.machines.getD i aCj) then unl x c i else unl x c i+1
theorem XX {x c:GCluster} {m:Nat} (h:∀ k,k≠m→x.machines.getD k aCj=c.machines.getD k aCj):∀ i,0≤unl x c i∧unl x c i≤1∧(i≤m→unl x c i=0)
 | 0=>⟨by show (0:Int)≤0;omega,by show (0:Int)≤1;omega,fun _=>rfl⟩
 | i+1=>by
  obtain ⟨h1,h2,h3⟩:=XX h i
  rw [unl]
  by_cases e:c.machines.getD i aCj=x.machines.getD i aCj
  ·rw [cN e];exact ⟨h1,h2,fun hi=>h3 (by omega)⟩
  ·rw [b7 e]
   have him:i=m:=by
    by_cases q:i=m
    ·exact q
    ·exact absurd (h i q).symm e
   rw [h3 (by omega)]
   show (0:Int)≤0+1∧(0:Int)+1≤1∧_
   exact ⟨by omega,by omega,fun hi=>by omega⟩
theorem WN {c:GCluster} {id:Int} (hok:ClusOk c) (h0:(bZ c id).2=0):(bif kJ (fF c id).1 == 0 then true else kJ (fF (bZ c id).1 id).1 == kJ (fF c id).1)=true:=by
 obtain ⟨hm,hc⟩:=H4 hok h0
 obtain ⟨hge,_⟩:=nA hm
 have hi:=(dW hge).1
 have hpp:=qY hok hm
 have hS:=wA hok hm hc
 have hr:(eE c (bQ c id).toNat).1=0:=by
  by_cases h:(eE c (bQ c id).toNat).1=0
  ·exact h
  ·rw [hS,if_neg h] at h0;exact absurd h0 h
 have hf:=uI hok id id
 have hokX:=lQ hok id
 have ea:(fF c id).1=c.txs.getD (bQ c id).toNat aCk:=by unfold fF;rw [if_pos ⟨hok,hge⟩]
 have eb:(fF (bZ c id).1 id).1=(eE c (bQ c id).toNat).2.txs.getD (bQ c id).toNat aCk:=by
  unfold fF
  rw [if_pos ⟨hokX,by rw [hf];exact hge⟩,hf,hS,if_pos hr]
 have ta:=(hok.txIn hi).ok
 have hlen:(bZ c id).1.txs.length=c.txs.length:=(IC hok id).2.2.1
 have tb:eN (fF (bZ c id).1 id).1:=by
  have:=(hokX.txIn (i:=(bQ c id).toNat) (by rw [hlen];exact hi)).ok
  unfold fF
  rw [if_pos ⟨hokX,by rw [hf];exact hge⟩,hf]
  exact this
 have m1:=tF hok hi hpp hc
 by_cases hz:kJ (fF c id).1=0
 ·rw [hz];rfl
 ·rw [OF tb,eb]
  rw [ea,OF ta] at hz ⊢
  rw [TQ hi hr hz fun _ => .inl m1.tx.ok.1.2.2.2.1.1]
  simp
set_option maxHeartbeats 2000000 in
theorem XC {n:Nat} {β:Nat→Int} (hβ:eS β):Ans Tryz.prog 8 [701] [.a (.g 701)] [(701,rD n β)] (vB true):=by
 refine aE Tryz.func8 fun B0 r_ D_ w0=>?_
 refine aF ?_
 refine aH (CI n _) ?_
 refine aI (fun e=>?_) (fun e=>?_)
 ·refine aF ?_
  exact aG [(2,none)] (rfl)
 have hn:n≤1048576:=by omega
 refine aF ?_
 refine aR (nk:=[61,62,63]) (aCv 901 61 (aCv 902 62 (aCv 903 63 (tL hn hβ)))) fun y y1=>?_
 obtain ⟨c,id⟩:=y
 dsimp only at y1 ⊢
 have hb:=fI y1
 have hX:=fI (IS c id)
 refine aN ?_
 refine aR (aCv 901 71 (aCv 902 72 (aCv 903 73 (F4 c hb id)))) fun _ _=>?_
 refine aN ?_
 refine aR (aCv 901 81 (aCv 902 82 (aCv 903 83 (vY c hb id)))) fun _ _=>?_
 refine aN ?_
 refine aH (fZ (bZ c id).1 hX) ?_
 refine bX rfl (fun e=>by simp at e) (fun _=>?_)
 refine aF ?_
 refine aR (nk:=[64,65,66]) (aCv 901 64 (aCv 902 65 (aCv 903 66 (ON hn hβ)))) fun y y2=>?_
 obtain ⟨d,i⟩:=y
 dsimp only at y2 ⊢
 have hd:=fI y2
 have hZ:=fI (ES d i)
 refine aN ?_
 refine aR (aCv 901 74 (aCv 902 75 (aCv 903 76 (NO d hd i)))) fun _ _=>?_
 refine aN ?_
 refine aR (aCv 901 84 (aCv 902 85 (aCv 903 86 (w7 d hd i)))) fun _ _=>?_
 refine aN ?_
 refine aH (fZ (eP d i).1 hZ) ?_
 refine aH (mM (eP d i).1 hZ) ?_
 have hcm:(bif bif ((eP d i).2 != (eP d i).2) then true else !true then true else bif (eP d i).2 == 0 then !dec (ClusOk (eP d i).1) else false)=false:=by
  by_cases h0:(eP d i).2=0
  ·rw [cN (Q6 h0)];simp
  ·simp [h0]
 refine bX (b:=false) (congrArg (fun b=>some (vB b)) hcm) (fun e=>by cases e) (fun _=>?_)
 refine aF ?_
 refine aQ (fun e1=>?_) (fun e1=>?_)
 ·obtain ⟨hno,hz⟩:=NA e1
  rw [hz]
  refine aF ?_
  refine lZ TT_ok (fZ aCl (rA _ (by decide))) rfl rfl (SVs.cons (aCs _) (SVs.cons z6 rfl)) rfl rfl ?_
  exact aG [(2,none)] (rfl)
 have hok:=WS e1
 refine aF ?_
 refine fO rfl (fun e0=>?_) (fun e0=>?_)
 ·rw [H8 hok e0]
  refine aF ?_
  refine aH (fZ c hb) ?_
  exact aG [(2,none)] (rfl)
 have hokX:=lQ hok id
 obtain ⟨⟨m,hm⟩,hml,htl,htx⟩:=IC hok id
 have hnl:=XX hm
 have hml2:c.machines.length≤8:=hok.1.2.2.1.2
 have htl2:c.txs.length≤60:=hok.1.2.2.2
 have hbm:∀ k,k<c.machines.length→D.bds dJ (bJ (c.machines.getD k aCj)):=fun k hk=>hb.2.2.2.1.2 k hk
 refine aF ?_
 refine aK (ι:=Nat) (fun k=>[(15,vI (unl (bZ c id).1 c k)),(16,vI k)]) (fun _=>[]) (fun k=>k≤c.machines.length) (fun k=>c.machines.length - k) 0 [] [] (Nat.zero_le _) ?_
 intro k g1
 have hnk:=hnl k
 refine aF ?_
 refine aI (fun e2=>?_) (fun e2=>?_)
 ·have hk:k<c.machines.length:=by omega
  have hk2:k<(bZ c id).1.machines.length:=by omega
  have hu:unl (bZ c id).1 c (k+1)=bif dec (c.machines.getD k aCj=(bZ c id).1.machines.getD k aCj) then unl (bZ c id).1 c k else unl (bZ c id).1 c k+1:=rfl
  refine aF ?_
  refine aW [] [0,1,2,3,4,5,6,7,8,9,10,11] fun B0 H0=>?_
  refine fU 10 (r8 (c.machines.getD k aCj) ((bZ c id).1.machines.getD k aCj) (hbm k hk)) rfl rfl rfl (aCu _) rfl ?_
  refine aY [11] ?_
  refine aP ?_
  refine aA (b := !dec (c.machines.getD k aCj=(bZ c id).1.machines.getD k aCj)) (fun e3=>?_) (fun e3=>?_)
  ·have e4:¬ c.machines.getD k aCj=(bZ c id).1.machines.getD k aCj:=fun h=>by rw [h,k8] at e3;cases e3
   rw [b7 e4] at hu
   refine aF ?_
   exact bN (k+1) hk (by omega) ⟨⟨_,rfl,aCw (fL hu.symm)⟩,wF⟩ wM
  ·have e4:c.machines.getD k aCj=(bZ c id).1.machines.getD k aCj:=c9.1 (by simpa using e3)
   rw [cN e4] at hu
   refine aF ?_
   exact bN (k+1) hk (by omega) ⟨⟨_,rfl,aCw (fL hu.symm)⟩,wF⟩ wM
 clear g1 e2
 refine aF ?_
 refine aK (ι:=Nat) (fun k=>[(17,vI k)]) (fun _=>[]) (fun k=>k≤c.txs.length) (fun k=>c.txs.length - k) 0 [] [] (Nat.zero_le _) ?_
 intro j g1
 refine aF ?_
 refine aI (fun e2=>?_) (fun e2=>?_)
 ·have hj:j<c.txs.length:=by omega
  have hj2:j<(bZ c id).1.txs.length:=by omega
  have hbt:=xZ hb j
  refine aF ?_
  refine aW [] [0,1,2,3,4,5,6,7,8,9,10,11,12,13,14,15,16,17,18,19,20,21] fun B0 H0=>?_
  refine fU 19 (HE (c.txs.getD j aCk) ((bZ c id).1.txs.getD j aCk) hbt.2.2.2.2.1.1 hbt.2.2.2.2.2.1.1) rfl rfl rfl (aCu _) rfl ?_
  refine aY [20,21] ?_
  refine aP ?_
  have hfin:(bif (c.txs.getD j aCk).id != id then !dec (c.txs.getD j aCk=(bZ c id).1.txs.getD j aCk) else false)=false:=by
   by_cases hq:(j:Int)=bQ c id
   ·have hid:(c.txs.getD j aCk).id=id:=by
     have:=(dW (c:=c) (id:=id) (by omega)).2
     rw [← hq,Int.toNat_natCast] at this
     exact this
    rw [hid];simp
   ·rw [htx j hq,k8];simp
  refine bX (b:=false) (congrArg (fun b=>some (vB b)) hfin) (fun e=>by cases e) (fun _=>?_)
  refine aF ?_
  exact aL (j+1) hj (by omega)
 have hfc:=KV hb id
 have hfx:=KV hX id
 refine aF ?_
 refine aR (aCv 901 91 (aCv 902 92 (rN c hb id))) fun _ _=>?_
 refine aN ?_
 refine aR (aCv 901 93 (aCv 902 94 (rN (bZ c id).1 hX id))) fun _ _=>?_
 refine aN ?_
 refine aW [] [0,1,2,3,4,5,6,7,8,9,10,11,12,13,14,15,16,17,18] fun B0 H0=>?_
 refine fU 4 (sX (bZ c id).1 hX hokX) rfl rfl rfl (aCu _) rfl ?_
 refine aY [5,6,7,8,9,10,11,12,13,14,15,16,17,18] ?_
 refine fU 8 (xS (fF c id).1) rfl rfl rfl (aCu _) rfl ?_
 refine aY [9,10,11,13,12,14,15,16,17,18] ?_
 refine fU 12 (xS (fF (bZ c id).1 id).1) rfl rfl rfl (aCu _) rfl ?_
 refine fU 14 (xS (fF c id).1) rfl rfl rfl (aCu _) rfl ?_
 refine aY [15,16,17,18] ?_
 refine aP ?_
 have hfin:(bif bif decide (unl (bZ c id).1 c k≤1) then true else false then (bif kJ (fF c id).1 == 0 then true else kJ (fF (bZ c id).1 id).1 == kJ (fF c id).1) else false)=true:=by
  rw [WN hok e0,decide_eq_true hnk.2.1];rfl
 exact aG [(2,none)] (hfin)
end
end Go.Proofs.YtnffflcjaipdkaaGreat
