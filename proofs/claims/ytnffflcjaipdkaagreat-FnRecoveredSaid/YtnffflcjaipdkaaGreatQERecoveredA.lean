/-
  What the claim leans on, made short by program.
-/
import Derived.Test.YtnffflcjaipdkaaGreatQF
import Derived.Lib.AppendZerosOnto
import Derived.Lib.Overlaps
namespace Go.Proofs.YtnffflcjaipdkaaGreat
open Go Go.RowKit
set_option linter.unusedVariables false
set_option linter.unusedSimpArgs false
set_option maxRecDepth 4000
section
section
theorem v6 {α:Type} {p:α→Bool} {z:α} {xs:List α} (h:∀ j,j<xs.length→p (xs.getD j z)=false):xs=xs.filter fun x => !p x:=by
 symm
 rw [List.filter_eq_self]
 intro x hx
 obtain ⟨j,hj,rfl⟩:=List.mem_iff_getElem.1 hx
 have:=h j hj
 simp at this ⊢
 rw [List.getElem?_eq_getElem hj] at this
 simpa using this
theorem tD {α:Type} {p:α→Bool} {z:α} {xs:List α} {i:Nat} (h1:i<xs.length) (h3:∀ j,j<i→p (xs.getD j z)=false) (h4:p (xs.getD i z)=true):((xs.take (i+1)).filter fun x => !p x)=xs.take i:=by
 rw [AE (z:=z) h1,if_neg (by rw [h4];simp)]
 refine (v6 (z:=z) (xs:=xs.take i) fun j hj=>?_).symm
 rw [m5 hj]
 rw [List.length_take] at hj
 exact h3 j (by omega)
end
section
section
variable {E:Env} {mu mu':Mu} {TT:List TI} {fr fr':Fr} {gf gf':GF} {all rest:List Oper} {Q:Exit→Act→World→Prop} {o:Oper} {J:Act→World→Prop} {G:AG}
theorem aAz {φ:List RD→Value→Prop} {args:List SV} {rds:List RD} {t j d:Nat} {b:Bool} {x:Value} (hg:o.guard=some (j,b)) (hsl:qL all j=some d) (hc:PF (kV 6 gf d b) fr gf o.op=some (φ,args)) (hr:GN args=some rds) (hgd:dD t gf=some gf') (hx:φ rds x)
  (k:SJ G J E fr ((t,d,b, .a (.v x)) :: gf') mu) (hd:o.dst=some t:=by exact rfl) (hn:mlk t fr=none:=by exact rfl) (ht:(Nat.blt t E.N && !(Nat.beq t d))=true:=by exact rfl):OJ G E all Q J o fr gf mu:=fun B a w H f m gg=>by
 simp only [Bool.and_eq_true,Bool.not_eq_true'] at ht
 have htd:t≠d:=Nat.ne_of_beq_eq_false ht.2
 have htN:t<E.N:=by simpa [Nat.blt_eq] using ht.1
 have hwt:=iS (ops:=all.toArray) (a:=a) hg (kS hsl)
 by_cases hyes:a.tmps.getD d undef = .bool b
 ·have hacts:=qV f 6 d b hyes
  have hw:=hwt.2 hyes
  obtain ⟨dst,op,type,pos,after,guard⟩:=o
  simp only at hc hd
  subst hd
  unfold PF at hc
  split at hc
  ·rename_i c
   obtain ⟨callee,cargs,ats⟩:=c
   simp only at hc
   split at hc
   ·rename_i y hy
    split at hc
    ·rename_i φ' l e1 e2
     simp only [Option.some.injEq,Prod.mk.injEq] at hc
     obtain ⟨rfl,rfl⟩:=hc
     obtain ⟨fn,cv,h1,h3,h4⟩:=(show ∃ f vs,_ from f.ev hacts e1)
     have h2:=f.evs hacts e2
     have ha:cargs.map a.eval=(cargs.toList.map a.eval).toArray:=Array.ext' (by rw [Array.toList_map])
     refine sJ (n:=fn) (args:=(cargs.toList.map a.eval ++ cv).toArray) hw ?_ ((h4 rds x hx w E.r _ (PH.le_refl _) m.mm.fitr (KG hr h2)).mono fun e w' ⟨g1,g2⟩=>⟨x,g1,?_⟩)
     ·simp only [execOp,resolve,h1,Deferred.ofValue,Sem.run_bind,Sem.run_pure,Result.andThen_ok,invoke,ha,Array.empty_append]
      rw [h3]
      congr 2
      simp
     ·exact k B _ w' H (Fits.putG f htN htd hn hgd (.inl ⟨hyes,show SV.rel E.P B (Zf E.r H) (.a (.v x)) x from rfl⟩)) (m.below g2) gg
    ·cases hc
   ·cases hc
  ·cases hc
 ·refine xX (by
   cases e:Region.wanted o (yielded all.toArray a.tmps) with
   | false=>rfl
   | true=>exact absurd (hwt.1 e) hyes) ?_
  rw [hd]
  exact k B _ w H (Fits.putG f htN htd hn hgd (.inr ⟨hyes,rfl⟩)) m gg
theorem IM {P:Program} {k n c:Nat}:(SV.a (.gl k n c)).imp P (.a (.g k)):=fun _ _ _ e=>⟨e.1,e.2.1⟩
end
end
section
theorem Con.wkR {ι:Type} {P:Program} {f:Nat} {ks:List Nat} {args:List SV} {mu:Mu} {φ:ι→Prop} {res res':ι→List SV} {mu':ι→Mu} (C:Con P f ks args mu φ res mu') (h:∀ y,φ y→SVs.imp P (res y) (res' y)):Con P f ks args mu φ res' mu' :=
 fun B r w H vals m he ha=>(C B r w H vals m he ha).mono fun e w' ⟨y,B',H',out,h1,h2,h3,h4⟩=>⟨y,B',H',out,h1,h2,SVs.imp_ok (h y h1) h3,h4⟩
end
end
section
section
variable {P:Program} {w:World}
theorem VA_re {A:Option Addr} {n c sz k:Nat} {rows:Nat→List Value} {h:PH} (va:VA A n c sz rows h) (h1:n≤k) (h2:k≤c):∃ junk:Nat→List Value,(∀ i,(junk i).length=sz)∧VA A k c sz (HA n rows junk) h:=by
 obtain ⟨v1,v2,v3⟩:=va
 refine ⟨fun i=>(List.range sz).map fun j=>match A with | some a=>(h a.block (a.off+(n+i) * sz+j)).getD undef | none=>undef,fun i=>by simp,h2,fun i hi=>?_,fun i hi hi2=>v3 i (by omega) hi2⟩
 by_cases c1:i<n
 ·rw [sS c1];exact v2 i c1
 ·rw [vH (by omega)]
  obtain ⟨b,o,rfl,q⟩:=v3 i (by omega) (by omega)
  refine ⟨b,o,rfl,by simp,fun j hj=>?_⟩
  have e:n+(i - n)=i:=by omega
  simp only [List.getElem?_map,List.getElem?_range hj,Option.map_some,e]
  cases hx:h b (o+i * sz+j) with
  | none=>exact absurd hx (q j hj)
  | some v=>rfl
theorem aBM {h:PH} {sz n k:Nat} {f:Nat→List D} {y:Value} (e:D.own h (.sl sz n f) y) {A:Option Addr} {c:Nat} (hy:y = .slice A n c) (h1:n≤k) (h2:k≤c) (h3:k≤maxL):∃ junk:Nat→List Value,(∀ i,(junk i).length=sz)∧D.own h (.sl sz k (kY n f fun i=>(junk i).map D.v)) (.slice A k c):=by
 obtain ⟨A',c',row,hc,hp,G,e1,s1,va,lc,lp,d,s2,s3,s4⟩:=lV e
 rw [hy] at e1
 injection e1 with e5 e6 e7
 subst e5;subst e7
 obtain ⟨junk,j1,va'⟩:=VA_re va h1 h2
 refine ⟨junk,j1,lX (G:=fun i=>if i<n then G i else PH.emp) va' h3 lc lp d (fun i hi=>?_) (fun i hi=>?_) (fun i j hi hj hij=>?_)⟩
 ·by_cases c1:i<n
  ·rw [if_pos c1,jA c1,sS c1];exact (s2 i c1).1
  ·rw [if_neg c1,mU (by omega),vH (by omega)];exact jL
 ·split
  ·exact s3 i
  ·exact PH.emp_le _
 ·split
  ·split
   ·exact s4 i j hij
   ·exact PH.dj_emp _
  ·exact PH.emp_dj _
end
section
variable {E:Env} {B:BE} {mu mu':Mu} {w:World} {H:Nat→PH} {TT:List TI} {fr fr':Fr} {gf gf':GF} {a:Act} {all rest:List Oper} {Q:Exit→Act→World→Prop} {o:Oper} {J:Act→World→Prop} {G:AG} {R:Exit→Act→World→Prop} {K:List KF}
theorem VH (t k:Nat) {sz n:Nat} {f:Nat→List D} (hx:mlk t fr=some (.a (.g k))) (hg:glk t gf=none) (hk:mlk k mu=some (.arr sz n f)) (h:∀ cp,n≤cp→RJ E all Q rest ((t, .a (.gl k n cp)) :: fr) gf mu):RJ E all Q rest fr gf mu:=fun B a w H ff m=>by
 obtain ⟨cp,h1,f'⟩:=X1 t k hx hg hk ff m
 exact h cp h1 B a w H f' m
theorem aAD (t tg k:Nat) {n cp:Nat} (hx:mlk t fr=some (.a (.g k))) (hg:glk t gf=none) (hl1:mlk tg fr=some (.a (.gl k n cp))) (hl2:glk tg gf=none):kO E fr gf mu ((t, .a (.gl k n cp)) :: fr) gf mu:=fun B w H a ff m=>by
 have e1:a.tmps.getD t undef=B k∧eQ (a.tmps.getD t undef)=true:=ff.vfr t _ hx hg
 obtain ⟨e3,_,A,e4⟩:=(show a.tmps.getD tg undef=B k∧_∧∃ A,_=Value.slice A n cp from ff.vfr tg _ hl1 hl2)
 refine ⟨B,H,⟨ff.size,ff.defers,fun t' x e5 e6=>?_,ff.vgf,ff.vgu,fun t' d w x e5=>?_⟩,m⟩
 ·rw [bV] at e5
  by_cases h:t=t'
  ·subst h
   rw [if_pos rfl] at e5
   injection e5 with e5
   subst e5
   exact ⟨e1.1,e1.2,A,e1.1.trans (e3.symm.trans e4)⟩
  ·rw [if_neg h] at e5;exact ff.vfr t' x e5 e6
 ·rw [bV]
  have h1:=ff.vno t' d w x e5
  have h2:t≠t':=fun h=>by subst h;rw [hx] at h1;cases h1
  rw [if_neg h2];exact h1
theorem aAA (hT:TOk E.P TT) (k k' tg:Nat) {t0 ts n cp:Nat} {x:Operand} {hi:Option Operand} {i:Int} {f:Nat→List D} {id sz1 by1 e:Nat} {z:Value} {ef:Bool} {te:TI} {md:Mu} {fr':Fr} {gf2:GF}
  (hop:o.op = .slice ts x none hi none) (hx:ev [] fr gf x=some (.a (.gl k n cp))) (hl1:mlk tg fr=some (.a (.gl k n cp))) (hl2:glk tg gf=none) (h1:tlk ts TT=some ⟨id,sz1,by1, .slc e,z,ef⟩) (h2:tlk e TT=some te) (hk:mlk k mu=some (.arr te.sz n f)) (hbd:sN [] fr gf n hi=some i) (hgd:dD t0 gf=some gf')
  (hmd:d7 [k,k'] mu=some md) (hcut:iK [k] fr gf'=some (fr',gf2)) (hi1:(n:Int)≤i∧i≤cp∧i≤maxL)
  (kk:∀ junk:Nat→List Value,(∀ j,(junk j).length=te.sz)→SJ G J E ((t0, .a (.g k')) :: fr') gf2 ((k', .arr te.sz i.toNat (kY n f fun j=>(junk j).map D.v)) :: md)) (hkeys:iF [k] [k'] [(k, .arr te.sz n f)] fr gf mu E.A.ks G.ks=true:=by exact rfl) (hne:bF k' [k] = false:=by exact rfl)
  (hg:o.guard=none:=by exact rfl) (hd:o.dst=some t0:=by exact rfl) (ht:Nat.blt t0 E.N=true:=by exact rfl):OJ G E all Q J o fr gf mu:=by
 refine GY (ι:=Nat→List Value) (ks:=[k]) (nk:=[k']) (mu1:=[(k, .arr te.sz n f)]) (φ:=fun junk => ∀ j,(junk j).length=te.sz) (res:=fun _ => .a (.g k')) (mu1':=fun junk=>[(k', .arr te.sz i.toNat (kY n f fun j=>(junk j).map D.v))]) (fun B a w H ff mm=>?_) hg hd ht hgd (fun _=>rfl) hkeys (fun _=>?_) hmd hcut kk
 ·obtain ⟨d1,u2⟩:=wJ hT h1 h2
  obtain ⟨i0,i1,i2,_⟩:=u2.info
  have hgl:∀ d w,(d,w) ∈ ([]:Gd)→a.tmps.getD d undef = .bool w:=fun _ _ hm=>by cases hm
  have e1:a.eval x=B k:=(show _∧_∧_ from ff.ev (g:=[]) hgl hx).1
  have sk:D.own (H k) (.sl te.sz n f) (B k):=mm.mm.sat k _ hk
  obtain ⟨e3,_,A,e4⟩:=(show a.tmps.getD tg undef=B k∧_∧∃ A,_=Value.slice A n cp from ff.vfr tg _ hl1 hl2)
  have hB:B k = .slice A n cp:=e3.symm.trans e4
  obtain ⟨junk,j1,s'⟩:=aBM sk hB (k:=i.toNat) (by omega) (by omega) (by omega)
  have hb:=nJ (P:=E.P) (w:=w) (b:=true) (len:=n) (cap:=cp) (l:=0) (.inl ⟨rfl,rfl⟩) (tC ff hgl hbd) ⟨Int.le_refl _,by omega⟩ hi1.2.1
  have r:Ret1 E.P [k] B (nY E.r (bU [(k,Ch.arr te.sz n f)]) H) [(k, .arr te.sz n f)] w (gI (bU [(k,Ch.arr te.sz n f)]) H) (fun _:Unit=>True) (fun _ => .a (.g k')) (fun _=>[(k', .arr te.sz i.toNat (kY n f fun j=>(junk j).map D.v))]) () (.slice A i.toNat cp) w _ _:=Ret1.new (lP mm.mm) hne (mO mm _) (FP s') s' (mm.mm.fit k) (Keep.refl _ _) fun b o h => .inl ⟨k,by simp [bU,Ch.own?,bF,Nat.beq_refl],by rw [uH k (by simp [bU,Ch.own?,bF,Nat.beq_refl])];exact h⟩
  refine ⟨junk, .slice A i.toNat cp,w,_,_,?_,⟨j1,r.2,r.3,r.4,r.5,r.6⟩⟩
  obtain ⟨dst,op,type,pos,after,guard⟩:=o
  simp only at hop
  subst hop
  simp only [execOp,e1,hB,Option.map_none]
  refine eL ?_
  simp only [Instr.sliceAt,Instr.slice,Sem.run_bind,cH d1,Result.andThen_ok,Sem.run_pure,hb,kI i1,i2]
  cases A <;>simp [Addr.add]
 ·simp [SV.inK,V.inK,lR,Ch.own?,Ch.rowL,jP,fB,bF,Nat.beq_refl]
end
def cpD {α:Type} (lo m:Nat) (g f:Nat→α):Nat→α:=fun i=>if lo≤i∧i<lo+m then g (i - lo) else f i
section
variable {P:Program} {w:World}
theorem V5 {t tx ty:TypeId} {te:TI} (ht:P.underlying t=some (.slice te.id)) (hti:te.ok P) (hpos:0<te.sz) {h:PH} {b o n c:Nat} {f:Nat→List Value} (s:VA (some ⟨b,o,none⟩) n c te.sz f h) (hf:FitO h w)
  {lo dl dc:Nat} {sa:Addr} {sl sc m:Nat} (hm:m=Nat.min sl dl) (h0:0<m) (hlo:lo+dl≤n) {g:Nat→List Value} (hg:∀ i,i<m→(g i).length=te.sz∧∀ j,j<te.sz→∀ v,(g i)[j]? = some v→w.cell? (sa.add (i * te.sz+j))=some v) (h1:∀ i,i<m→∀ u ∈ g i,eQ u=true) :
  ∃ w' h',(Builtin.copy_ #[t,tx] ty #[.slice (some ⟨b,o+lo * te.sz,none⟩) dl dc, .slice (some sa) sl sc]).run P w = .ok (goInt m) w'∧VA (some ⟨b,o,none⟩) n c te.sz (cpD lo m g f) h'∧FitO h' w'∧Keep (fun b o=>h b o≠none) w w'∧∀ b o,h' b o≠none→h b o≠none:=by
 obtain ⟨i,i1,i2,i3,i4⟩:=hti.info
 obtain ⟨s0,s1,s2⟩:=s
 have hmd:m≤dl:=by rw [hm];exact Nat.min_le_right _ _
 have hlen:∀ i,i<m→(g i).length=te.sz:=fun i hi=>(hg i hi).1
 have hnl:=lG hlen
 have hin:∀ j,j<(fK g m).length→h b (o+lo * te.sz+j)≠none:=fun j hj=>by
  rw [hnl] at hj
  obtain ⟨q,p,c1,c2,rfl⟩:=qO hlen hpos hj
  obtain ⟨b',o',e,l1,l2⟩:=s1 (lo+q) (by omega)
  injection e with e
  injection e with e1 e2
  subst e1;subst e2
  have:=l2 p c2
  rw [Nat.add_mul,show o+(lo * te.sz+q * te.sz)+p=o+lo * te.sz+(q * te.sz+p) from by omega] at this
  rw [this,List.getElem?_eq_getElem (by omega)];simp
 have hfc:(Builtin.firstCells i.size m (.slice (some sa) sl sc)).run P w = .ok (fK g m).toArray w:=run_firstCells_some (P:=P) w i.size m sa sl sc (fK g m) (by rw [i2];exact hnl) fun k v hk=>by
  have hlt:k<m * te.sz:=by rw [← hnl];exact (List.getElem?_eq_some_iff.1 hk).1
  obtain ⟨q,p,c1,c2,rfl⟩:=qO hlen hpos hlt
  rw [l7 hlen c1 c2] at hk
  exact (hg q c1).2 p c2 v hk
 obtain ⟨w',r1,r2,r3,r4⟩:=oH (P:=P) (fK g m) w b (o+lo * te.sz) 0 h hf.fit (by simpa using hin) (D5 h1)
 simp only [Nat.add_zero] at r2 r3
 refine ⟨w',_,?_,⟨s0,fun k hk=>⟨b,o,rfl,?_⟩,fun k hk hk2=>?_⟩,hf.turn r2 r3 fun b' o' hb'=>⟨o',PH.updL_ne hin hb'⟩,r3.mono fun x _ y hxy=>?_,fun b' o' hb'=>PH.updL_ne hin hb'⟩
 ·simp only [Builtin.copy_,List.getElem?_toArray,List.getElem?_cons_zero,List.getElem?_cons_succ,Sem.run_bind,cH ht,Result.andThen_ok,Builtin.lenOf,Sem.run_pure,sizeOf,typeInfo,kI i1, ← hm,hfc,r1]
  simp [i1, ← hm,hfc,r1]
 ·obtain ⟨b',o',e,l1,l2⟩:=s1 k hk
  injection e with e
  injection e with e1 e2
  subst e1;subst e2
  unfold cpD
  by_cases c1:lo≤k∧k<lo+m
  ·rw [if_pos c1]
   refine ⟨hlen _ (by omega),fun j hj=>?_⟩
   have h2:k * te.sz=lo * te.sz+(k - lo) * te.sz:=by rw [← Nat.add_mul];congr 1;omega
   have h3:(k - lo+1) * te.sz≤m * te.sz:=Nat.mul_le_mul_right _ (by omega)
   rw [Nat.add_mul,Nat.one_mul] at h3
   rw [show o+k * te.sz+j=o+lo * te.sz+((k - lo) * te.sz+j) from by omega,PH.updL_in _ _ _ _ (by omega),l7 hlen (by omega) hj]
  ·rw [if_neg c1]
   refine ⟨l1,fun j hj=>?_⟩
   rw [PH.updL_out,l2 j hj]
   rintro ⟨_,q1,q2⟩
   rw [hnl] at q2
   apply c1
   have k1:lo≤k:=by
    rcases Nat.lt_or_ge k lo with h | h
    ·have:=Nat.mul_le_mul_right te.sz (show k+1≤lo from h)
     rw [Nat.add_mul,Nat.one_mul] at this;omega
    ·exact h
   have k2:k<lo+m:=by
    rcases Nat.lt_or_ge k (lo+m) with h | h
    ·exact h
    ·have:=Nat.mul_le_mul_right te.sz h
     rw [Nat.add_mul] at this;omega
   exact ⟨k1,k2⟩
 ·obtain ⟨b',o',e,l2⟩:=s2 k hk hk2
  injection e with e
  injection e with e1 e2
  subst e1;subst e2
  refine ⟨b,o,rfl,fun j hj e=>?_⟩
  rw [PH.updL_out] at e
  ·exact l2 j hj e
  ·rintro ⟨_,q1,q2⟩
   rw [hnl] at q2
   have h3:n * te.sz≤k * te.sz:=Nat.mul_le_mul_right _ hk
   have h4:(lo+m) * te.sz≤n * te.sz:=Nat.mul_le_mul_right _ (by omega)
   rw [Nat.add_mul] at h4
   omega
 ·obtain ⟨rfl,c1,c2⟩:=hxy
  have:=hin (y - (o+lo * te.sz)) (by omega)
  rwa [show o+lo * te.sz+(y - (o+lo * te.sz))=y from by omega] at this
theorem X2 {t tx ty:TypeId} {te:TI} (ht:P.underlying t=some (.slice te.id)) (hti:te.ok P) (hpos:0<te.sz) {h:PH} {n:Nat} {f:Nat→List D} {y:Value} (s:D.own h (.sl te.sz n f) y) (hf:FitO h w) {lo hi:Int} (b1:0≤lo) (b2:lo≤hi) (b3:hi≤n)
  {x:Value} {m:Nat} {g:Nat→List D} {hx:PH} (sx:D.rd hx (.sl te.sz m g) x) (fx:Fit hx w) (hone:∀ i,i<Nat.min m (hi - lo).toNat→∃ l,jR (g i)=some l) (h0:0<Nat.min m (hi - lo).toNat) :
  ∃ w' h',(Builtin.copy_ #[t,tx] ty #[sbV y te.sz lo.toNat (hi - lo).toNat,x]).run P w = .ok (goInt (Nat.min m (hi - lo).toNat)) w'∧D.own h' (.sl te.sz n (cpD lo.toNat (Nat.min m (hi - lo).toNat) g f)) y∧FitO h' w'∧Keep (fun b o=>h b o≠none) w w'∧∀ b o,h' b o≠none→h b o≠none:=by
 obtain ⟨A,c,row,hc,hp,G,rfl,s1,va,lc,lp,d,s2,s3,s4⟩:=lV s
 obtain ⟨A',c',rfl,_,_,hcells⟩:=(show ∃ A c,x = .slice A m c∧_∧_∧_ from sx)
 have hm1:Nat.min m (hi - lo).toNat≤m:=Nat.min_le_left _ _
 have hm2:Nat.min m (hi - lo).toNat≤(hi - lo).toNat:=Nat.min_le_right _ _
 obtain ⟨sb,so,rfl,hr⟩:=hcells.resolve_left (by omega)
 obtain ⟨b,o,rfl,_⟩:=va.2.1 lo.toNat (by omega)
 have hcl:¬ c=lo.toNat:=by have:=va.1;omega
 have hrow:∀ i,i<Nat.min m (hi - lo).toNat→g i=(rX g i).map D.v∧∀ u ∈ rX g i,eQ u=true:=fun i hi=>by
  obtain ⟨l,hl⟩:=hone i hi
  have:=AA hl
  unfold rX
  rw [hl];exact this
 have hg:∀ i,i<Nat.min m (hi - lo).toNat→(rX g i).length=te.sz∧∀ j,j<te.sz→hx sb (so+i * te.sz+j)=(rX g i)[j]? := fun i hi=>by
  obtain ⟨row,r1,r2,r3⟩:=hr i (by omega)
  rw [(hrow i hi).1] at r1
  rw [uQ r1] at r2 r3
  exact ⟨r2,r3⟩
 obtain ⟨w',h',r1,r2,r3,r4,r5⟩:=V5 (P:=P) (w:=w) (ty:=ty) (tx:=tx) ht hti hpos va (hf.le lc) (lo:=lo.toNat) (dl:=(hi - lo).toNat) (dc:=c - lo.toNat) (sa:=⟨sb,so,none⟩) (sl:=m) (sc:=c') (m:=Nat.min m (hi - lo).toNat) rfl h0 (by omega) (g:=rX g)
  (fun i hi=>⟨(hg i (by omega)).1,fun j hj v hv=>by
   rw [← (hg i (by omega)).2 j hj] at hv
   rw [jQ, ← Nat.add_assoc]
   exact (fx _ _ _ hv).1⟩) (fun i hi=>(hrow i (by omega)).2)
 have dh:h'.dj hp:=fun x y=>by
  rcases d x y with e | e
  ·left
   cases e2:h' x y with
   | none=>rfl
   | some v=>exact absurd e (r5 x y (by rw [e2];simp))
  ·exact .inr e
 have fp:FitO hp w':=(hf.le lp).keep r4 fun x y e h2=>by
  rcases d x y with h3 | h3
  ·exact h2 h3
  ·exact e h3
 refine ⟨w',h'.un hp,?_,lX (G:=fun i=>if lo.toNat≤i∧i<lo.toNat+Nat.min m (hi - lo).toNat then PH.emp else G i) r2 s1 (PH.le_un_left _ _) (PH.le_un_right dh) dh (fun i hi'=>?_) (fun i hi'=>?_) (fun i j _ _ hij=>?_),r3.un fp,r4.mono fun x _ y e=>le_ne lc e,fun x y e=>?_⟩
 ·rw [sbV,if_neg hcl]
  simp only [Option.map_some,jQ]
  exact r1
 ·unfold cpD
  by_cases c1:lo.toNat≤i∧i<lo.toNat+Nat.min m (hi - lo).toNat
  ·simp only [if_pos c1]
   rw [(hrow (i - lo.toNat) (by omega)).1];exact jL
  ·simp only [if_neg c1];exact (s2 i hi').1
 ·split
  ·exact PH.emp_le _
  ·exact s3 i
 ·split
  ·exact PH.emp_dj _
  ·split
   ·exact PH.dj_emp _
   ·exact s4 i j hij
 ·rcases PH.un_ne e with h2 | h2
  ·exact le_ne lc (r5 x y h2)
  ·exact le_ne lp h2
end
section
variable {E:Env} {B:BE} {mu mu':Mu} {w:World} {H:Nat→PH} {TT:List TI} {fr fr':Fr} {gf gf':GF} {a:Act} {all rest:List Oper} {Q:Exit→Act→World→Prop} {o:Oper} {J:Act→World→Prop} {G:AG} {R:Exit→Act→World→Prop} {K:List KF}
theorem sW (hT:TOk E.P TT) (k:Nat) {t0 ts tx:Nat} {s x:Operand} {n m:Nat} {lo hi:Int} {f g:Nat→List D} {id sz1 by1 e:Nat} {z:Value} {ef:Bool} {te:TI} {md:Mu} {fr':Fr} {gf2:GF} {vx:V} {q:Tg} {ob:Ob}
  (hop:o.op = .call { callee := .builtin .copy,args := #[s,x],argTypes := #[ts,tx] }) (h1:tlk ts TT=some ⟨id,sz1,by1, .slc e,z,ef⟩) (h2:tlk e TT=some te) (hs:ev [] fr gf s=some (.a (.sb k te.sz lo hi))) (hx:ev [] fr gf x=some (.a vx)) (hk:mlk k mu=some (.arr te.sz n f)) (hkx:slR mu vx=some (q,te.sz,m,g,ob)) (hgd:dD t0 gf=some gf')
  (hmd:d7 [k,k] mu=some md) (hcut:iK [k] fr gf'=some (fr',gf2)) (hb:0≤lo∧lo≤hi∧hi≤n∧0<Nat.min m (hi - lo).toNat) (hone:∀ i,i<Nat.min m (hi - lo).toNat→∃ l,jR (g i)=some l)
  (kk:SJ G J E ((t0, .a (.v (goInt (Nat.min m (hi - lo).toNat)))) :: fr') gf2 ((k, .arr te.sz n (cpD lo.toNat (Nat.min m (hi - lo).toNat) g f)) :: md)) (hpos:0<te.sz:=by exact Nat.lt_of_sub_eq_succ rfl) (hkeys:iF [k] [k] [(k, .arr te.sz n f)] fr gf mu E.A.ks G.ks=true:=by exact rfl) (hob:kU ob:=by repeat (first | exact trivial | refine And.intro rfl ?_))
  (hg:o.guard=none:=by exact rfl) (hd:o.dst=some t0:=by exact rfl) (ht:Nat.blt t0 E.N=true:=by exact rfl):OJ G E all Q J o fr gf mu:=by
 have kself:bU [(k,Ch.arr te.sz n f)] = [k]:=rfl
 refine GY (ι:=Unit) (ks:=[k]) (nk:=[k]) (mu1:=[(k, .arr te.sz n f)]) (φ:=fun _=>True) (res:=fun _ => .a (.v (goInt (Nat.min m (hi - lo).toNat)))) (mu1':=fun _=>[(k, .arr te.sz n (cpD lo.toNat (Nat.min m (hi - lo).toNat) g f))]) (fun B a w H ff mm=>?_) hg hd ht hgd (fun _=>rfl) hkeys (fun _=>?_) hmd hcut fun _ _=>kk
 ·obtain ⟨d1,u2⟩:=wJ hT h1 h2
  have hgl:∀ d w,(d,w) ∈ ([]:Gd)→a.tmps.getD d undef = .bool w:=fun _ _ hm=>by cases hm
  have e1:a.eval s=sbV (B k) te.sz lo.toNat (hi - lo).toNat:=(show _∧_ from ff.ev (g:=[]) hgl hs).1
  have sk:D.own (H k) (.sl te.sz n f) (B k):=mm.mm.sat k _ hk
  have hr:=vT mm.mr.ms hkx hob (show vx.rel B (Zf E.r H) (a.eval x) from ff.ev (g:=[]) hgl hx)
  obtain ⟨w',h',r1,r2,r3,r4,r5⟩:=X2 (P:=E.P) (w:=w) (ty:=o.type) (t:=ts) (tx:=tx) d1 u2 hpos sk (mm.mm.fit k) hb.1 hb.2.1 hb.2.2.1 hr (V6 mm q) hone hb.2.2.2
  have hon:gI (bU [(k,Ch.arr te.sz n f)]) H k=H k:=uH k (by simp [kself,bF,Nat.beq_refl]) H
  have r:Ret1 E.P [k] B (nY E.r (bU [(k,Ch.arr te.sz n f)]) H) [(k, .arr te.sz n f)] w (gI (bU [(k,Ch.arr te.sz n f)]) H) (fun _:Unit=>True) (fun _ => .a .any) (fun _=>[(k, .arr te.sz n (cpD lo.toNat (Nat.min m (hi - lo).toNat) g f))]) () (goInt (Nat.min m (hi - lo).toNat)) w' B _ :=
   Ret1.sameK (B:=B) (h':=h') (lP mm.mm) kself (mO mm _) r2 r3 (r4.mono fun b _ o h=>by rw [hon];exact h) fun b o h => .inl (by rw [hon];exact r5 b o h)
  refine ⟨(),goInt (Nat.min m (hi - lo).toNat),w',B,_,?_,⟨trivial,rfl,r.3,r.4,r.5,r.6⟩⟩
  obtain ⟨dst,op,type,pos,after,guard⟩:=o
  simp only at hop r1
  subst hop
  simp only [execOp,resolve,Sem.run_bind,Sem.run_pure,Result.andThen_ok,invoke,builtin,List.map_toArray,List.map_cons,List.map_nil,e1,r1]
 ·simp [SV.inK,V.inK,lR,Ch.own?,Ch.rowL,jP,fB,bF,Nat.beq_refl]
end
section
variable {P:Program} {w:World}
theorem aAa {t tn ty:TypeId} {te:TI} {kn:IntKind} (ht:P.underlying t=some (.slice te.id)) (htn:P.underlying tn=some (.int kn)) (hti:te.ok P) (hpos:0<te.sz) (hzs:te.zero.cells.size=te.sz) {h:PH} {A:Option Addr} {n c:Nat} {f:Nat→List Value} (s:VA A n c te.sz f h) (hf:Fit h w)
  {m:Nat} (h0:0<m) (hg:c<n+m) (hb:(n+m) * te.by_≤140737488355328) (hm:n+m≤maxL) :
  ∃ A' c' w' h',(Builtin.append_ #[t,tn] ty #[.slice A n c, .int .i64 m]).run P w = .ok (.slice A' (n+m) c') w'∧VA A' (n+m) c' te.sz (HA n f fun _=>te.zero.cells.toList) h'∧FitO h' w'∧Keep noD w w'∧∀ b o,h' b o≠none→w.heap.size≤b:=by
 obtain ⟨i,i1,i2,i3,i4⟩:=hti.info
 obtain ⟨s0,s1,s2⟩:=s
 have hlen:∀ i,i<n→(f i).length=te.sz:=fun i hi=>by obtain ⟨_,_,_,q,_⟩:=s1 i hi;exact q
 have hol:(fK f n).length=n * te.sz:=lG hlen
 have hold:(Builtin.firstCells i.size n (.slice A n c)).run P w.drew = .ok (fK f n).toArray w.drew:=by
  cases A with
  | none =>
   have h0:n=0:=by
    rcases Nat.eq_zero_or_pos n with h | h
    ·exact h
    ·obtain ⟨_,_,e,_⟩:=s1 0 h;cases e
   subst h0
   exact run_firstCells_none w.drew i.size 0 0 c
  | some ad =>
   refine run_firstCells_some (P:=P) w.drew i.size n ad n c (fK f n) (by rw [i2];exact hol) fun k v hk=>?_
   have hlt:k<n * te.sz:=by rw [← hol];exact (List.getElem?_eq_some_iff.1 hk).1
   obtain ⟨q,p,c1,c2,rfl⟩:=qO hlen hpos hlt
   obtain ⟨b,o,e,q1,q2⟩:=s1 _ c1
   injection e with e
   subst e
   have h1:=l7 hlen c1 c2
   rw [hk, ← q2 _ c2] at h1
   have h2:=(hf _ _ _ h1.symm).1
   rw [jQ, ← Nat.add_assoc]
   exact h2
 have hby:m * i.bytes≤(n+m) * i.bytes:=Nat.mul_le_mul_right _ (by omega)
 have hrun:=Lib.run_append_grow_zeros (P:=P) w t tn ty te.id i te.zero .i64 kn ht htn i1 i4 A n c (fK f n) hold m h0 (by rw [i2];exact hpos) hg (by unfold maxL at hm;omega) (by rw [i3] at hby ⊢;omega) (growslice_fits (by omega) (by rw [i3];exact hb))
 generalize hcc:grownCap w (n+m) c te.id=cc at hrun
 have hge:n+m≤cc:=by rw [← hcc];exact grownCap_ge _ _ _ _
 generalize hcs:((fK f n).toArray ++ Builtin.zeroCells te.zero.cells m ++ Builtin.zeroCells te.zero.cells (cc - (n+m)))=cs at hrun
 have hzl:(Builtin.zeroCells te.zero.cells m).size=m * te.sz:=by rw [size_zeroCells,hzs]
 have hsz:cs.size=cc * te.sz:=by
  rw [← hcs]
  simp only [Array.size_append,List.size_toArray,size_zeroCells,hzs,hol, ← Nat.add_mul]
  congr 1;omega
 have hfit:FitO (PH.row w.heap.size 0 cs.toList) (w.drew.alloc (.cells cs te.id)):=by
  have:=FitO.alloc w.drew cs.toList te.id
  simpa using this
 have hrow:∀ k,PH.row w.heap.size 0 cs.toList w.heap.size k=cs[k]? := fun k=>by
  have:=PH.row_at (b:=w.heap.size) (off:=0) (l:=cs.toList) k
  rw [Nat.zero_add] at this
  rw [this,Array.getElem?_toList]
 refine ⟨_,cc,_,_,hrun,⟨hge,fun k hk=>⟨w.heap.size,0,rfl,?_⟩,fun k hk hk2=>⟨w.heap.size,0,rfl,fun j hj=>?_⟩⟩,hfit,?_,fun b o hb=>by rw [PH.row_ne hb];exact Nat.le_refl _⟩
 ·have hcsk:∀ q,q<(n+m) * te.sz→cs[q]? = ((fK f n) ++ (Builtin.zeroCells te.zero.cells m).toList)[q]? := fun q hq=>by
   rw [← hcs,Array.getElem?_append_left (by simp only [Array.size_append,List.size_toArray,hol,hzl, ← Nat.add_mul];exact hq), ← Array.getElem?_toList]
   simp
  have hkq:∀ j,j<te.sz→k * te.sz+j<(n+m) * te.sz:=fun j hj=>by
   have h1:(k+1) * te.sz≤(n+m) * te.sz:=Nat.mul_le_mul_right _ hk
   rw [Nat.add_mul,Nat.one_mul] at h1
   omega
  by_cases hkn:k<n
  ·rw [sS hkn]
   refine ⟨hlen k hkn,fun j hj=>?_⟩
   have h1:(k+1) * te.sz≤n * te.sz:=Nat.mul_le_mul_right _ hkn
   rw [Nat.add_mul,Nat.one_mul] at h1
   rw [Nat.zero_add,hrow,hcsk _ (hkq j hj),List.getElem?_append_left (by omega),l7 hlen hkn hj]
  ·rw [vH (by omega)]
   refine ⟨by rw [Array.length_toList,hzs],fun j hj=>?_⟩
   have h2:k * te.sz=n * te.sz+(k - n) * te.sz:=by rw [← Nat.add_mul];congr 1;omega
   have h3:=CY (z:=te.zero.cells) (n:=m) (i:=k - n) (j:=j) (by omega) (by rw [hzs];exact hj)
   rw [hzs] at h3
   rw [Nat.zero_add,hrow,hcsk _ (hkq j hj),List.getElem?_append_right (by omega),hol,show k * te.sz+j - n * te.sz=(k - n) * te.sz+j from by omega,h3]
 ·have h1:(k+1) * te.sz≤cc * te.sz:=Nat.mul_le_mul_right _ hk2
  rw [Nat.add_mul,Nat.one_mul] at h1
  rw [Nat.zero_add,hrow,Array.getElem?_eq_getElem (by omega)];simp
 ·exact ((Keep.drew w).mono fun _ _ _ h=>h.elim).trans (Keep.alloc w.drew _) fun _ _ h=>h.elim
theorem aBW {A:Option Addr} {n c sz i:Nat} {f:Nat→List Value} {h:PH} (va:VA A n c sz f h) (hi:i≤n):VA A i c sz f h :=
 ⟨by have:=va.1;omega,fun k hk=>va.2.1 k (by omega),fun k hk hk2=>by
  by_cases c1:k<n
  ·obtain ⟨b,o,e,l1,l2⟩:=va.2.1 k c1
   refine ⟨b,o,e,fun j hj=>?_⟩
   rw [l2 j hj,List.getElem?_eq_getElem (by omega)];simp
  ·exact va.2.2 k (by omega) hk2⟩
end
section
variable {E:Env} {B:BE} {mu mu':Mu} {w:World} {H:Nat→PH} {TT:List TI} {fr fr':Fr} {gf gf':GF} {a:Act} {all rest:List Oper} {Q:Exit→Act→World→Prop} {o:Oper} {J:Act→World→Prop} {G:AG} {R:Exit→Act→World→Prop} {K:List KF}
theorem TD (hT:TOk E.P TT) (k k' tg:Nat) {t0 ts tn n cp:Nat} {s x:Operand} {i m:Int} {f:Nat→List D} {id sz1 by1 e:Nat} {z:Value} {ef:Bool} {te tni:TI} {md:Mu}
  (hop:o.op = .call { callee := .builtin .append,args := #[s,x],argTypes := #[ts,tn] }) (hs:ev [] fr gf s=some (.a (.sb k te.sz 0 i))) (hx:ev [] fr gf x=some (.a (.v (.int .i64 m)))) (hl1:mlk tg fr=some (.a (.gl k n cp))) (hl2:glk tg gf=none) (h1:tlk ts TT=some ⟨id,sz1,by1, .slc e,z,ef⟩) (h2:tlk e TT=some te) (h3:tlk tn TT=some tni) (h4:tni.kind = .it .i64) (hk:mlk k mu=some (.arr te.sz n f)) (hgd:dD t0 gf=some gf')
  (hmd:d7 [k'] mu=some md) (hi1:0≤i∧i≤n∧0<m∧(cp:Int)<i+m) (hb:(i.toNat+m.toNat) * te.by_≤140737488355328∧i.toNat+m.toNat≤maxL) (hone:∀ j,j<n→∃ l,jR (f j)=some l)
  (kk:SJ G J E ((t0, .a (.g k')) :: fr) gf' ((k', .arr te.sz (i.toNat+m.toNat) (kY i.toNat f fun _=>zsD te.zero)) :: md)) (hz:(kH te.zero).map (·.length)=some te.sz:=by exact rfl) (hpos:0<te.sz:=by exact Nat.lt_of_sub_eq_succ rfl) (hkeys:iF [] [k'] [] fr gf mu E.A.ks G.ks=true:=by exact rfl)
  (hg:o.guard=none:=by exact rfl) (hd:o.dst=some t0:=by exact rfl) (ht:Nat.blt t0 E.N=true:=by exact rfl):OJ G E all Q J o fr gf mu:=by
 refine GY (ι:=Unit) (ks:=[]) (nk:=[k']) (mu1:=[]) (φ:=fun _=>True) (res:=fun _ => .a (.g k')) (mu1':=fun _=>[(k', .arr te.sz (i.toNat+m.toNat) (kY i.toNat f fun _=>zsD te.zero))]) (fun B a w H ff mm=>?_) hg hd ht hgd (fun _=>rfl) hkeys (fun _=>?_) hmd rfl fun _ _=>kk
 ·obtain ⟨d1,u2⟩:=wJ hT h1 h2
  obtain ⟨v1,v2⟩:=hT.get h3
  obtain ⟨dx,dx1,dx2⟩:=v2.desc
  rw [h4] at dx2
  obtain rfl:=oO dx2
  rw [v1] at dx1
  have hgl:∀ d w,(d,w) ∈ ([]:Gd)→a.tmps.getD d undef = .bool w:=fun _ _ hm=>by cases hm
  have e1:a.eval s=sbV (B k) te.sz 0 (i - 0).toNat:=(show _∧_ from ff.ev (g:=[]) hgl hs).1
  have e2:a.eval x = .int .i64 m:=ff.ev (g:=[]) hgl hx
  have sk:D.own (H k) (.sl te.sz n f) (B k):=mm.mm.sat k _ hk
  obtain ⟨e3,_,A0,e4⟩:=(show a.tmps.getD tg undef=B k∧_∧∃ A,_=Value.slice A n cp from ff.vfr tg _ hl1 hl2)
  have hB:B k = .slice A0 n cp:=e3.symm.trans e4
  obtain ⟨A,c,row,hc,hp,G',e5,s1,va,lc,lp,d,s2,s3,s4⟩:=lV sk
  rw [hB] at e5
  injection e5 with e6 e7 e8
  subst e6;subst e8
  have hev:sbV (B k) te.sz 0 (i - 0).toNat = .slice A0 i.toNat cp:=by
   rw [hB,sbV]
   have:(i - 0).toNat=i.toNat:=by omega
   rw [this]
   cases A0 <;>simp [Addr.add]
  have hm:Value.int .i64 m = .int .i64 (m.toNat:Int):=by congr 1;omega
  obtain ⟨A',c',w',h',r1,r2,r3,r4,r5⟩:=aAa (P:=E.P) (w:=w) (ty:=o.type) d1 dx1 u2 hpos (AY hz) (aBW va (i:=i.toNat) (by omega)) ((mm.mm.fit k).fit.le lc) (m:=m.toNat) (by omega) (by omega) hb.1 hb.2
  have s':D.own h' (.sl te.sz (i.toNat+m.toNat) (kY i.toNat f fun _=>zsD te.zero)) (.slice A' (i.toNat+m.toNat) c'):=lX (hp:=PH.emp) (G:=fun _=>PH.emp) r2 hb.2 (PH.le_refl _) (PH.emp_le _) (PH.dj_emp _) (fun j hj=>by
   by_cases c1:j<i.toNat
   ·rw [jA c1,sS c1]
    obtain ⟨l,hl⟩:=hone j (by omega)
    have hfl:=(AA hl).1
    have h6:=(s2 j (by omega)).1
    rw [hfl] at h6 ⊢
    rw [uQ (D.owns_rds _ h6)]
    exact jL
   ·rw [mU (by omega),vH (by omega)];exact jL) (fun _ _=>PH.emp_le _) (fun _ _ _ _ _=>PH.emp_dj _)
  refine ⟨(), .slice A' (i.toNat+m.toNat) c',w',_,_,?_,Ret1.new (lP mm.mm) rfl (mO mm _) rfl s' r3 (r4.mono fun _ _ _ h=>h.elim) fun b o h => .inr (r5 b o h)⟩
  obtain ⟨dst,op,type,pos,after,guard⟩:=o
  simp only at hop r1
  subst hop
  simp only [execOp,resolve,Sem.run_bind,Sem.run_pure,Result.andThen_ok,invoke,builtin,List.map_toArray,List.map_cons,List.map_nil,e1,e2,hev,hm,r1]
 ·simp [SV.inK,V.inK,lR,Ch.own?,Ch.rowL,jP,fB,bF,Nat.beq_refl]
end
theorem IB {w:World} {b o:Nat} {v:Value} (h:w.cell? ⟨b,o,none⟩=some v):∃ c T fr,w.heap[b]? = some (.cells c T fr)∧o<c.size∧w.shape? b=some (T,c.size):=by
 unfold World.cell? at h
 cases e:w.heap[b]? with
 | none=>simp [e] at h
 | some x =>
  cases x with
  | cells c T fr =>
   simp [e] at h
   exact ⟨c,T,fr,rfl,(Array.getElem?_eq_some_iff.1 h).1,by simp [World.shape?,e]⟩
  | _=>simp [e] at h
theorem GT {P:Program} {w:World} {tS tR e:TypeId} (ht:P.underlying tS=some (.slice e)) {size:Nat} (hz:∀ w,(Go.sizeOf e).run P w = .ok size w) {h1 h2:PH} (f1:FitO h1 w) (f2:FitO h2 w) (d:h1.dj h2) {b1 o1 b2 o2 la ca lb cb:Nat} (hpos:0<size) (l1:0<la) (l2:0<lb)
  (c1:∀ j,j<la * size→h1 b1 (o1+j)≠none) (c2:∀ j,j<lb * size→h2 b2 (o2+j)≠none) :
  (Extern.SlicesOverlaps.overlaps #[tS,tS] #[tR] #[.slice (some ⟨b1,o1,none⟩) la ca, .slice (some ⟨b2,o2,none⟩) lb cb]).run P w = .ok (.bool false) w:=by
 have p1:0<la * size:=Nat.mul_pos l1 hpos
 have p2:0<lb * size:=Nat.mul_pos l2 hpos
 have cell:∀ {h:PH} (f:FitO h w) {b o:Nat},h b o≠none→∃ v,w.cell? ⟨b,o,none⟩=some v∧w.frozen? ⟨b,o,none⟩=false:=fun {h} f {b o} e=>by
  cases x:h b o with
  | none=>exact absurd x e
  | some v=>exact ⟨v,f.fit b o v x⟩
 have q1:h1 b1 o1≠none:=by simpa using c1 0 p1
 have q2:h2 b2 o2≠none:=by simpa using c2 0 p2
 obtain ⟨v1,u1,z1⟩:=cell f1 q1
 obtain ⟨v2,u2,z2⟩:=cell f2 q2
 obtain ⟨cA,TA,frA,s1,s2,s3⟩:=IB u1
 obtain ⟨cB,TB,frB,t1,t2,t3⟩:=IB u2
 by_cases hne:b1=b2
 ·subst hne
  have hno:¬ (o1<o2+lb * size∧o2<o1+la * size):=fun ⟨g1,g2⟩=>by
   rcases Nat.le_total o1 o2 with h | h
   ·have k1:=c1 (o2 - o1) (by omega)
    rw [show o1+(o2 - o1)=o2 from by omega] at k1
    exact (d b1 o2).elim k1 q2
   ·have k1:=c2 (o1 - o2) (by omega)
    rw [show o2+(o1 - o2)=o1 from by omega] at k1
    exact (d b1 o1).elim q1 k1
  have h0:¬ (la=0∨lb=0∨size=0):=by omega
  change Sem.run P (α:=Value) (do
   let some t:=(#[tS,tS]:Array TypeId)[0]? | stuck "slices.overlaps: no parameter types"
   let .slice elem ← underlying t | stuck "slices.overlaps: slice type expected"
   let size ← sizeOf elem
   match (some ⟨b1,o1,none⟩:Option Addr),(some ⟨b1,o2,none⟩:Option Addr) with
   | some a,some b =>
    if la=0∨lb=0∨size=0 then pure (Value.bool false)
    else if a.block != b.block && (← frozen a) && (← frozen b) then unsupported .addressObserved
    else do
     if a.block != b.block then do
      noView a;noView b
      if ← mayBeOne a b then return Value.bool ((← choose (.extern "sameAddr.stringBytes" 2)) == 1)
     pure (Value.bool (a.block == b.block && a.off<b.off+lb * size && b.off<a.off+la * size))
   | _,_=>pure (Value.bool false)) w=_
  have hb:(decide (o1<o2+lb * size) && decide (o2<o1+la * size))=false:=by
   rw [Bool.and_eq_false_iff]
   by_cases g1:o1<o2+lb * size
   ·right;exact decide_eq_false fun g2=>hno ⟨g1,g2⟩
   ·left;exact decide_eq_false g1
  simp [cH ht,hz,h0,frozen,Sem.run]
  simpa using hb
 ·exact Lib.run_overlaps_apart w tS tR e ht size hz ⟨b1,o1,none⟩ ⟨b2,o2,none⟩ la ca lb cb hne TA TB cA.size cB.size s3 t3 (by omega) z1 (f1.ends b1 o1 q1 cA TA frA s1)
section
variable {E:Env} {B:BE} {mu mu':Mu} {w:World} {H:Nat→PH} {TT:List TI} {fr fr':Fr} {gf gf':GF} {a:Act} {all rest:List Oper} {Q:Exit→Act→World→Prop} {o:Oper} {J:Act→World→Prop} {G:AG} {R:Exit→Act→World→Prop} {K:List KF}
theorem M0 {h:PH} {sz n:Nat} {f:Nat→List D} {y:Value} (e:D.own h (.sl sz n f) y) {lo hi:Int} (h1:0≤lo) (h2:lo<hi) (h3:hi≤n) (hpos:0<sz):∃ b o c,sbV y sz lo.toNat (hi - lo).toNat = .slice (some ⟨b,o,none⟩) (hi - lo).toNat c∧∀ j,j<(hi - lo).toNat * sz→h b (o+j)≠none:=by
 obtain ⟨A,c,row,hc,hp,G,rfl,s1,va,lc,lp,d,s2,s3,s4⟩:=lV e
 obtain ⟨b,o,rfl,_⟩:=va.2.1 lo.toNat (by omega)
 have hcl:¬ c=lo.toNat:=by have:=va.1;omega
 refine ⟨b,o+lo.toNat * sz,c - lo.toNat,by rw [sbV,if_neg hcl];simp only [Option.map_some,jQ],fun j hj=>?_⟩
 obtain ⟨q,p,c1,c2,rfl⟩:∃ q p,q<(hi - lo).toNat∧p<sz∧j=q * sz+p:=⟨j / sz,j % sz,Nat.div_lt_of_lt_mul (by rwa [Nat.mul_comm]),Nat.mod_lt _ hpos,by rw [Nat.mul_comm];exact (Nat.div_add_mod j sz).symm⟩
 obtain ⟨b',o',e,l1,l2⟩:=va.2.1 (lo.toNat+q) (by omega)
 injection e with e
 injection e with e1 e2
 subst e1;subst e2
 have:=l2 p c2
 rw [Nat.add_mul,show o+(lo.toNat * sz+q * sz)+p=o+lo.toNat * sz+(q * sz+p) from by omega] at this
 refine le_ne lc ?_
 rw [this,List.getElem?_eq_getElem (by omega)];simp
theorem aAy (hT:TOk E.P TT) (k kb:Nat) {t0 ts tr fi:Nat} {fn:Func} {ats:Array TypeId} {s x:Operand} {n m:Nat} {lo hi:Int} {f g:Nat→List D} {id sz1 by1 e:Nat} {z:Value} {ef:Bool} {te:TI}
  (hop:o.op = .call { callee := .value (.func fi),args := #[s,x],argTypes:=ats }) (hf:E.P.funcs[fi]? = some fn) (hs:ev [] fr gf s=some (.a (.g kb))) (hx:ev [] fr gf x=some (.a (.sb k te.sz lo hi))) (h1:tlk ts TT=some ⟨id,sz1,by1, .slc e,z,ef⟩) (h2:tlk e TT=some te) (hk:mlk k mu=some (.arr te.sz n f)) (hkb:mlk kb mu=some (.arr te.sz m g)) (hgd:dD t0 gf=some gf')
  (hi1:0≤lo∧lo<hi∧hi≤n∧0<m)
  (kk:SJ G J E ((t0,vB false) :: fr) gf' mu) (hname:(fn.name == "runtime.NumGoroutine")=false:=by kernel_rfl) (hb:fn.body.isNone=true:=by kernel_rfl) (hn:Extern.findNext fn=none:=by kernel_rfl) (he:Extern.find fn=some (Extern.SlicesOverlaps.overlaps #[ts,ts] #[tr]):=by kernel_rfl) (hpos:0<te.sz:=by exact Nat.lt_of_sub_eq_succ rfl) (hne:Nat.beq kb k=false:=by exact rfl)
  (hg:o.guard=none:=by exact rfl) (hd:o.dst=some t0:=by exact rfl) (ht:Nat.blt t0 E.N=true:=by exact rfl):OJ G E all Q J o fr gf mu:=fun B a w H ff mm gg=>by
 obtain ⟨d1,u2⟩:=wJ hT h1 h2
 obtain ⟨i0,i1,i2,_⟩:=u2.info
 have hgl:∀ d w,(d,w) ∈ ([]:Gd)→a.tmps.getD d undef = .bool w:=fun _ _ hm=>by cases hm
 have e1:a.eval s=B kb:=(show _∧_ from ff.ev (g:=[]) hgl hs).1
 have e2:a.eval x=sbV (B k) te.sz lo.toNat (hi - lo).toNat:=(show _∧_ from ff.ev (g:=[]) hgl hx).1
 obtain ⟨b2,o2,c2,q1,q2⟩:=M0 (show D.own (H k) (.sl te.sz n f) (B k) from mm.mm.sat k _ hk) hi1.1 hi1.2.1 hi1.2.2.1 hpos
 obtain ⟨b1,o1,c1,p1,p2⟩:=M0 (lo:=0) (hi:=(m:Int)) (show D.own (H kb) (.sl te.sz m g) (B kb) from mm.mm.sat kb _ hkb) (Int.le_refl _) (by omega) (Int.le_refl _) hpos
 obtain ⟨A,cA,hB,_⟩:=wU (show D.own (H kb) (.sl te.sz m g) (B kb) from mm.mm.sat kb _ hkb)
 have hB2:∃ cc,B kb = .slice (some ⟨b1,o1,none⟩) ((m:Int) - 0).toNat cc:=by
  rw [hB,sbV] at p1
  rw [hB]
  injection p1 with p3 p4 p5
  refine ⟨cA,?_⟩
  have hm:((m:Int) - 0).toNat=m:=by omega
  rw [hm]
  congr 1
  rw [← p3]
  cases A <;>simp [Addr.add]
 obtain ⟨cc,hB2⟩:=hB2
 have hrun:=GT (P:=E.P) (w:=w) (tR:=tr) (size:=te.sz) d1 (fun w=>by rw [kI i1,i2]) (mm.mm.fit kb) (mm.mm.fit k) (mm.mm.dj kb k (j5 hne)) (ca:=cc) (cb:=c2) hpos (la:=((m:Int) - 0).toNat) (by omega) (lb:=(hi - lo).toNat) (by omega) p2 q2
 have r1:(execOp a.eval o).run E.P w = .ok (.value (.bool false)) w:=by
  obtain ⟨dst,op,type,pos,after,guard⟩:=o
  simp only at hop
  subst hop
  have ha:(#[s,x]:Array Operand).map a.eval = #[a.eval s,a.eval x]:=by simp
  have hfv:a.eval (.func fi) = .func (.func fi) #[] #[]:=rfl
  simp only [execOp,resolve,hfv,Deferred.ofValue,Sem.run_bind,Sem.run_pure,Result.andThen_ok,invoke,ha,e1,e2,hB2,q1,Array.empty_append,Array.append_empty]
  rw [run_callFunc_extern hf hname hb hn he,hrun]
  rfl
 refine qZ (fM hg) r1 ?_
 rw [hd]
 exact kk B _ w H (Fits.put ff (by simpa [Nat.blt_eq] using ht) (show SV.rel _ _ _ (.a (.v _)) _ from rfl) hgd) mm gg
end
end
section
section
theorem KR (xs:List GSet) (hl:xs.length≤1048576) (p:GSet→Bool):Ans Tryz.prog 212 [] [vL 5 cP aCm xs,fbO (fun x=>[RD.ag (cP x)]) fun x => .bool (p x)] [] (vI (cI p xs)):=by
 refine aE Tryz.func212 fun B0 r_ D_ w0=>?_
 refine aF ?_
 refine aK (ι:=Nat) (fun i=>[(8,vI i)]) (fun _=>[]) (fun i=>i≤xs.length∧∀ j,j<i→p (xs.getD j aCm)=false) (fun i=>xs.length - i) 0 [] [] ⟨Nat.zero_le _,fun j hj=>absurd hj (Nat.not_lt_zero _)⟩ ?_
 intro i ⟨h1,h2⟩
 refine aF ?_
 refine aI (fun e=>?_) (fun e=>?_)
 ·have hi:i<xs.length:=by omega
  refine aF ?_
  refine vE rfl rfl rfl ⟨xs.getD i aCm,rfl,rfl⟩ ?_
  refine aN ?_
  refine aA (fun e2=>?_) (fun e2=>?_)
  ·refine aF ?_
   exact aJ [(4,none)] ((gA hi h2 e2).symm)
  ·refine aF ?_
   exact aL (i+1) ⟨hi,b5 h2 e2⟩ (by omega)
 ·refine aF ?_
  exact dK TT_ok [(4,none)] rfl rfl ((gT fun j hj=>h2 j (by omega)).symm)
theorem IQ (xs:List GSet) (hl:xs.length≤1048576) (p:GSet→Bool):Con Tryz.prog 151 [900] [.a (.g 900),fbO (fun x=>[RD.ag (cP x)]) fun x => .bool (p x)] [(900,bE 5 cP aCm xs)] (fun _:Unit=>True) (fun _=>[.a (.g 901)]) fun _=>[(901,bE 5 cP aCm (xs.filter fun x => !p x))]:=by
 refine aE Tryz.func151 fun B0 r_ D_ w0=>?_
 refine aF ?_
 refine aH (KR xs hl p) ?_
 rcases gH p aCm xs with ⟨h1,h2⟩ | ⟨i0,h1,h2,h3,h4⟩
 ·refine aQ (fun _=>?_) (fun e=>absurd h1 e)
  refine aF ?_
  refine bB (FC 4 900 901 rfl rfl rfl rfl rfl rfl) ?_
  refine aC (()) [(4,none)] ?_ ?_ ?_
  ·exact aCu _
  ·exact ⟨⟨_,rfl,bP (v6 h2)⟩,trivial⟩
  ·trivial
 rw [h2]
 refine s6 rfl (fun e=>by omega) (fun _=>?_)
 refine aF ?_
 refine cY (ι:=Nat×(Nat→GSet)) (fun y=>[(6,vI y.1),(5,vI ((xs.take y.1).filter fun x => !p x).length)]) (fun y=>[(900, .arr 5 xs.length fun k=>cP (y.2 k))])
  (fun y=>i0<y.1∧y.1≤xs.length∧(∀ k,k<((xs.take y.1).filter fun x => !p x).length→y.2 k=((xs.take y.1).filter fun x => !p x).getD k aCm)∧∀ k,y.1≤k→k<xs.length→y.2 k=xs.getD k aCm)
  (fun y=>xs.length - y.1) (i0+1,fun k=>xs.getD k aCm) [900] [] rfl rfl ⟨Nat.lt_succ_self _,h1,?_,fun _ _ _=>rfl⟩ ?_ wM ?_
 ·intro k hk
  rw [tD h1 h3 h4] at hk ⊢
  exact (m5 hk).symm
 ·refine And.intro ⟨_,rfl,aCw ?_⟩ (And.intro ⟨_,rfl,aCw ?_⟩ trivial)
  ·simp
  ·rw [tD h1 h3 h4];simp;omega
 rintro ⟨j,h⟩ ⟨g1,g2,g3,g4⟩
 dsimp only at g1 g2 g3 g4 ⊢
 have hle:=mE xs (fun x => !p x) j
 refine aF ?_
 refine aI (fun e=>?_) (fun e=>?_)
 ·have hj:j<xs.length:=by omega
  refine aF ?_
  refine vE rfl rfl rfl ⟨h j,rfl,rfl⟩ ?_
  refine aN ?_
  refine eF rfl (fun e2=>?_) (fun e2=>?_)
  ·have hF:=jM (z:=aCm) hj (p:=fun x => !p x) (by rw [← g4 j (Nat.le_refl _) hj,e2];rfl)
   refine aF ?_
   refine bN (j+1,fun k=>if k=((xs.take j).filter fun x => !p x).length then h j else h k) ⟨by omega,hj,fun k hk=>?_,fun k k1 k2=>?_⟩ (by show xs.length - (j+1)<xs.length - j;omega) ?_ ⟨⟨_,rfl,Ch.imp_arr fun k hk=>?_⟩,wM⟩
   ·dsimp only at hk ⊢
    rw [hF,List.length_append,List.length_singleton] at hk
    rw [hF]
    by_cases c:k=((xs.take j).filter fun x => !p x).length
    ·rw [if_pos c,c,rS,g4 j (Nat.le_refl _) hj]
    ·rw [if_neg c,rM (by omega)];exact g3 k (by omega)
   ·dsimp only at k1 ⊢
    rw [if_neg (by omega)];exact g4 k (by omega) k2
   ·refine And.intro ⟨_,rfl,aCw ?_⟩ (And.intro ⟨_,rfl,aCw ?_⟩ wF)
    ·simp
    ·dsimp only;rw [hF];simp
   ·dsimp only
    by_cases c:k=((xs.take j).filter fun x => !p x).length
    ·subst c
     simp only [Int.toNat_natCast,Nat.beq_refl,cond_true,if_true]
     rfl
    ·rw [if_neg c]
     have:Nat.beq k (((xs.take j).filter fun x => !p x).length:Int).toNat=false:=by
      simp only [Int.toNat_natCast]
      cases e:Nat.beq k ((xs.take j).filter fun x => !p x).length with
      | false=>rfl
      | true=>exact absurd (Nat.eq_of_beq_eq_true e) c
     rw [this];rfl
  ·have hF:=j4 (z:=aCm) hj (p:=fun x => !p x) (by rw [← g4 j (Nat.le_refl _) hj,e2];rfl)
   refine aF ?_
   refine bN (j+1,h) ⟨by omega,hj,fun k hk=>?_,fun k k1 k2=>g4 k (by dsimp only at k1;omega) k2⟩ (by show xs.length - (j+1)<xs.length - j;omega) ?_ wM
   ·dsimp only at hk ⊢
    rw [← hF] at hk ⊢;exact g3 k hk
   ·refine And.intro ⟨_,rfl,aCw ?_⟩ (And.intro ⟨_,rfl,aCw ?_⟩ wF)
    ·simp
    ·dsimp only;rw [← hF]
 ·have hj:j=xs.length:=by omega
  subst hj
  rw [List.take_length] at g3 hle ⊢
  refine aF ?_
  refine B7 TT_ok 38 900 rfl rfl rfl rfl rfl rfl ⟨by omega,by omega,by omega⟩ rfl rfl rfl rfl ?_
  refine aN ?_
  refine bB (FS 4 900 901 rfl rfl rfl ⟨by omega,by omega,by omega⟩ rfl rfl rfl) ?_
  refine aC (()) [(4,none)] ?_ ?_ ?_
  ·exact aCu _
  ·refine ⟨⟨_,rfl,Ch.imp_len (by omega) fun k hk=>?_⟩,trivial⟩
   dsimp only
   rw [if_neg (by omega),g3 _ (by omega)]
   congr 2;omega
  ·trivial
theorem IL (xs:List GNote) (hl:xs.length≤1048576) (p:GNote→Bool):Ans Tryz.prog 211 [] [vL 5 cT aCn xs,fbO (fun x=>[RD.ag (cT x)]) fun x => .bool (p x)] [] (vI (cI p xs)):=by
 refine aE Tryz.func211 fun B0 r_ D_ w0=>?_
 refine aF ?_
 refine aK (ι:=Nat) (fun i=>[(8,vI i)]) (fun _=>[]) (fun i=>i≤xs.length∧∀ j,j<i→p (xs.getD j aCn)=false) (fun i=>xs.length - i) 0 [] [] ⟨Nat.zero_le _,fun j hj=>absurd hj (Nat.not_lt_zero _)⟩ ?_
 intro i ⟨h1,h2⟩
 refine aF ?_
 refine aI (fun e=>?_) (fun e=>?_)
 ·have hi:i<xs.length:=by omega
  refine aF ?_
  refine vE rfl rfl rfl ⟨xs.getD i aCn,rfl,rfl⟩ ?_
  refine aN ?_
  refine aA (fun e2=>?_) (fun e2=>?_)
  ·refine aF ?_
   exact aJ [(4,none)] ((gA hi h2 e2).symm)
  ·refine aF ?_
   exact aL (i+1) ⟨hi,b5 h2 e2⟩ (by omega)
 ·refine aF ?_
  exact dK TT_ok [(4,none)] rfl rfl ((gT fun j hj=>h2 j (by omega)).symm)
theorem HB (xs:List GNote) (hl:xs.length≤1048576) (p:GNote→Bool):Con Tryz.prog 220 [900] [.a (.g 900),fbO (fun x=>[RD.ag (cT x)]) fun x => .bool (p x)] [(900,bE 5 cT aCn xs)] (fun _:Unit=>True) (fun _=>[.a (.g 901)]) fun _=>[(901,bE 5 cT aCn (xs.filter fun x => !p x))]:=by
 refine aE Tryz.func220 fun B0 r_ D_ w0=>?_
 refine aF ?_
 refine aH (IL xs hl p) ?_
 rcases gH p aCn xs with ⟨h1,h2⟩ | ⟨i0,h1,h2,h3,h4⟩
 ·refine aQ (fun _=>?_) (fun e=>absurd h1 e)
  refine aF ?_
  refine bB (FC 4 900 901 rfl rfl rfl rfl rfl rfl) ?_
  refine aC (()) [(4,none)] ?_ ?_ ?_
  ·exact aCu _
  ·exact ⟨⟨_,rfl,bP (v6 h2)⟩,trivial⟩
  ·trivial
 rw [h2]
 refine s6 rfl (fun e=>by omega) (fun _=>?_)
 refine aF ?_
 refine cY (ι:=Nat×(Nat→GNote)) (fun y=>[(6,vI y.1),(5,vI ((xs.take y.1).filter fun x => !p x).length)]) (fun y=>[(900, .arr 5 xs.length fun k=>cT (y.2 k))])
  (fun y=>i0<y.1∧y.1≤xs.length∧(∀ k,k<((xs.take y.1).filter fun x => !p x).length→y.2 k=((xs.take y.1).filter fun x => !p x).getD k aCn)∧∀ k,y.1≤k→k<xs.length→y.2 k=xs.getD k aCn)
  (fun y=>xs.length - y.1) (i0+1,fun k=>xs.getD k aCn) [900] [] rfl rfl ⟨Nat.lt_succ_self _,h1,?_,fun _ _ _=>rfl⟩ ?_ wM ?_
 ·intro k hk
  rw [tD h1 h3 h4] at hk ⊢
  exact (m5 hk).symm
 ·refine And.intro ⟨_,rfl,aCw ?_⟩ (And.intro ⟨_,rfl,aCw ?_⟩ trivial)
  ·simp
  ·rw [tD h1 h3 h4];simp;omega
 rintro ⟨j,h⟩ ⟨g1,g2,g3,g4⟩
 dsimp only at g1 g2 g3 g4 ⊢
 have hle:=mE xs (fun x => !p x) j
 refine aF ?_
 refine aI (fun e=>?_) (fun e=>?_)
 ·have hj:j<xs.length:=by omega
  refine aF ?_
  refine vE rfl rfl rfl ⟨h j,rfl,rfl⟩ ?_
  refine aN ?_
  refine eF rfl (fun e2=>?_) (fun e2=>?_)
  ·have hF:=jM (z:=aCn) hj (p:=fun x => !p x) (by rw [← g4 j (Nat.le_refl _) hj,e2];rfl)
   refine aF ?_
   refine bN (j+1,fun k=>if k=((xs.take j).filter fun x => !p x).length then h j else h k) ⟨by omega,hj,fun k hk=>?_,fun k k1 k2=>?_⟩ (by show xs.length - (j+1)<xs.length - j;omega) ?_ ⟨⟨_,rfl,Ch.imp_arr fun k hk=>?_⟩,wM⟩
   ·dsimp only at hk ⊢
    rw [hF,List.length_append,List.length_singleton] at hk
    rw [hF]
    by_cases c:k=((xs.take j).filter fun x => !p x).length
    ·rw [if_pos c,c,rS,g4 j (Nat.le_refl _) hj]
    ·rw [if_neg c,rM (by omega)];exact g3 k (by omega)
   ·dsimp only at k1 ⊢
    rw [if_neg (by omega)];exact g4 k (by omega) k2
   ·refine And.intro ⟨_,rfl,aCw ?_⟩ (And.intro ⟨_,rfl,aCw ?_⟩ wF)
    ·simp
    ·dsimp only;rw [hF];simp
   ·dsimp only
    by_cases c:k=((xs.take j).filter fun x => !p x).length
    ·subst c
     simp only [Int.toNat_natCast,Nat.beq_refl,cond_true,if_true]
     rfl
    ·rw [if_neg c]
     have:Nat.beq k (((xs.take j).filter fun x => !p x).length:Int).toNat=false:=by
      simp only [Int.toNat_natCast]
      cases e:Nat.beq k ((xs.take j).filter fun x => !p x).length with
      | false=>rfl
      | true=>exact absurd (Nat.eq_of_beq_eq_true e) c
     rw [this];rfl
  ·have hF:=j4 (z:=aCn) hj (p:=fun x => !p x) (by rw [← g4 j (Nat.le_refl _) hj,e2];rfl)
   refine aF ?_
   refine bN (j+1,h) ⟨by omega,hj,fun k hk=>?_,fun k k1 k2=>g4 k (by dsimp only at k1;omega) k2⟩ (by show xs.length - (j+1)<xs.length - j;omega) ?_ wM
   ·dsimp only at hk ⊢
    rw [← hF] at hk ⊢;exact g3 k hk
   ·refine And.intro ⟨_,rfl,aCw ?_⟩ (And.intro ⟨_,rfl,aCw ?_⟩ wF)
    ·simp
    ·dsimp only;rw [← hF]
 ·have hj:j=xs.length:=by omega
  subst hj
  rw [List.take_length] at g3 hle ⊢
  refine aF ?_
  refine B7 TT_ok 38 900 rfl rfl rfl rfl rfl rfl ⟨by omega,by omega,by omega⟩ rfl rfl rfl rfl ?_
  refine aN ?_
  refine bB (FS 4 900 901 rfl rfl rfl ⟨by omega,by omega,by omega⟩ rfl rfl rfl) ?_
  refine aC (()) [(4,none)] ?_ ?_ ?_
  ·exact aCu _
  ·refine ⟨⟨_,rfl,Ch.imp_len (by omega) fun k hk=>?_⟩,trivial⟩
   dsimp only
   rw [if_neg (by omega),g3 _ (by omega)]
   congr 2;omega
  ·trivial
end
section
theorem W6 (s:GSet) (r0:Int):Ans Tryz.prog 152 [] [vR (cP s),vP [dI r0]] [] (vB (s.region != r0)):=by
 refine aE Tryz.func152 fun B0 r_ D_ w0=>?_
 refine aF ?_
 exact aG [(3,none)] (rfl)
theorem yR (t:GTx) (r0:Int) (hl:t.sets.length≤1048576):MkL Tryz.prog 86 [vP (cTx t),vI r0] 5 cP aCm (bY r0 t.sets):=by
 refine aE Tryz.func86 fun B0 r_ D_ w0=>?_
 refine aF ?_
 refine aR (aCv 900 9 (CQ t.sets hl)) fun _ _=>?_
 refine aN ?_
 refine cO TT_ok (aCv 900 9 (aCv 901 11 (IQ t.sets hl fun s=>s.region != r0))) rfl rfl (SVs.cons (aCs _) (SVs.cons (iO (aB) rfl fun args x ⟨s,h1,h2⟩=>by subst h1;subst h2;exact W6 s r0) rfl)) (fun _=>rfl) rfl rfl rfl fun _ _=>?_
 refine aN ?_
 refine bB (bL 11 900) ?_
 refine aC (()) [(4,none)] ?_ ?_ ?_
 ·exact aCu _
 ·exact ⟨⟨_,rfl,bP (by simp [bY,bne])⟩,trivial⟩
 ·trivial
end
end
section
section
theorem SW (t:GTx) (hl:t.sets.length≤1048576):MkL Tryz.prog 155 [vP (cTx t)] 1 bS 0 (cmI (fC t) (fC t).length):=by
 have hln:=m6 t
 refine aE Tryz.func155 fun B0 r_ D_ w0=>?_
 refine aF ?_
 refine bB (oX 3 7 1 (fun i=>bS (([]:List Int).getD i 0)) rfl rfl rfl rfl) ?_
 refine aK (ι:=Nat) (fun i=>[(11,vI i),(3, .a (.g 7))]) (fun i=>[(7,bE 1 bS 0 ((fC t).take i))]) (fun i=>i≤t.sets.length) (fun i=>t.sets.length - i) 0 [7] [7] (Nat.zero_le _) ?_
 intro i h1
 refine aF ?_
 refine aI (fun e=>?_) (fun e=>?_)
 ·have hi:i<t.sets.length:=by omega
  have hle:((fC t).take i).length≤i:=by rw [List.length_take];omega
  refine aF ?_
  refine cV TT_ok 18 (fun _=>bS (t.sets.getD i aCm).region) rfl rfl rfl rfl rfl rfl rfl (fun i hi=>by rcases i with _ | i <;>first | rfl | omega) (mu1:=[]) rfl rfl rfl ?_
  refine aN ?_
  refine cU TT_ok 7 18 19 rfl rfl rfl rfl rfl rfl rfl rfl rfl rfl rfl rfl ⟨by simp;omega,by unfold maxL;omega⟩ ?_
  refine aN ?_
  refine bC (bL 7 19) ?_
  exact bN (i+1) hi (by omega) wF ⟨⟨_,rfl,fJ (x:=(t.sets.getD i aCm).region) (by rw [cC (z:=0) (by omega),nM]) rfl⟩,wM⟩
 ·have hi:i=t.sets.length:=by omega
  subst hi
  rw [List.take_of_length_le (by omega)]
  refine aF ?_
  refine cO TT_ok (aCv 900 7 (aCv 901 22 (VE (fC t) (by omega)))) rfl rfl (aCu _) (fun _=>rfl) rfl rfl rfl fun _ _=>?_
  refine aN ?_
  refine bB (bL 22 900) ?_
  refine aC (()) [(2,none)] ?_ ?_ ?_
  ·exact aCu _
  ·exact wM
  ·trivial
end
end
section
theorem pJ (xs:List Int) (hl:xs.length≤1048576) (S:Int→Prop) (hS:∀ i,i<xs.length→S (xs.getD i 0)) (p:Int→Bool):Ans Tryz.prog 149 [] [vL 1 bS 0 xs,fbP S (fun x=>[RD.a (dI x)]) fun x => .bool (p x)] [] (vB (xs.any p)):=by
 refine aE Tryz.func149 fun B0 r_ D_ w0=>?_
 refine aF ?_
 refine aH (HM xs hl S hS p) ?_
 exact aG [(4,none)] (sF p 0 xs)
theorem AR (xs:List GMachine) (hl:xs.length≤1048576) (p:GMachine→Bool):Ans Tryz.prog 132 [] [vL 4 bJ aCj xs,fbO (fun x=>[RD.ag (bJ x)]) fun x => .bool (p x)] [] (vB (xs.any p)) :=
 (s8 xs hl (fun _=>True) (fun _ _=>trivial) p).wkA ⟨_,_,rfl,aCs _,_,_,rfl,EV p,rfl⟩
theorem rV (xs:List GTx) (hl:xs.length≤1048576) (S:GTx→Prop) (hS:∀ i,i<xs.length→S (xs.getD i aCk)) (p:GTx→Bool):Ans Tryz.prog 144 [] [vL 7 cTx aCk xs,fbP S (fun x=>[RD.ag (cTx x)]) fun x => .bool (p x)] [] (vI (cI p xs)):=by
 refine aE Tryz.func144 fun B0 r_ D_ w0=>?_
 refine aF ?_
 refine aK (ι:=Nat) (fun i=>[(8,vI i)]) (fun _=>[]) (fun i=>i≤xs.length∧∀ j,j<i→p (xs.getD j aCk)=false) (fun i=>xs.length - i) 0 [] [] ⟨Nat.zero_le _,fun j hj=>absurd hj (Nat.not_lt_zero _)⟩ ?_
 intro i ⟨h1,h2⟩
 refine aF ?_
 refine aI (fun e=>?_) (fun e=>?_)
 ·have hi:i<xs.length:=by omega
  refine aF ?_
  refine vE rfl rfl rfl ⟨xs.getD i aCk,hS i hi,rfl,rfl⟩ ?_
  refine aN ?_
  refine aA (fun e2=>?_) (fun e2=>?_)
  ·refine aF ?_
   exact aJ [(4,none)] ((gA hi h2 e2).symm)
  ·refine aF ?_
   exact aL (i+1) ⟨hi,b5 h2 e2⟩ (by omega)
 ·refine aF ?_
  exact dK TT_ok [(4,none)] rfl rfl ((gT fun j hj=>h2 j (by omega)).symm)
theorem tT (xs:List Int) (hl:xs.length≤1048576):MkL Tryz.prog 139 [vL 1 bS 0 xs] 1 bS 0 xs:=by
 refine aE Tryz.func139 fun B0 r_ D_ w0=>?_
 refine aF ?_
 refine HY TT_ok false rfl rfl rfl rfl rfl rfl fun b hb=>?_
 refine aN ?_
 refine aA (fun e=>?_) (fun e=>?_)
 ·have h0:=hb e
  refine aF ?_
  refine bB (oX 2 900 1 (fun i=>bS (([]:List Int).getD i 0)) rfl rfl rfl rfl) ?_
  refine aC (()) [(2,none)] ?_ ?_ ?_
  ·exact aCu _
  ·exact ⟨⟨_,rfl,bP (List.length_eq_zero_iff.1 h0).symm⟩,trivial⟩
  ·trivial
 ·refine aF ?_
  refine aM 5 (fun i=>bS (([]:List Int).getD i 0)) (fun i hi=>absurd hi (Nat.not_lt_zero _)) (mu1:=[]) ?_
  refine aN ?_
  refine oG TT_ok 5 900 rfl rfl rfl rfl rfl rfl rfl rfl rfl rfl rfl rfl ⟨by simp;omega,by unfold maxL;omega⟩ ?_
  refine aN ?_
  refine aC (()) [(2,none)] ?_ ?_ ?_
  ·exact aCu _
  ·exact ⟨⟨_,rfl,mX (ys:=([]:List Int)) (by simp)⟩,trivial⟩
  ·trivial
end
section
theorem UX {n:Nat} {p q:Nat→Bool} (h:∀ j,j<n→p j=q j):t9 n p=t9 n q:=by
 cases c:t9 n q with
 | false=>exact oJ fun j hj=>by rw [h j hj];exact uR c j hj
 | true =>
  obtain ⟨x,hx,h1⟩:=List.any_eq_true.1 c
  exact x5 (List.mem_range.1 hx) (by rw [h x (List.mem_range.1 hx)];exact h1)
theorem FF {h:Int} (k:jW h=true):(rE h 1 != 0)=fD h:=by
 obtain ⟨h1,h2⟩:=kR.1 k
 unfold fD
 rw [k,and1 k,AZ h1,Bool.eq_iff_iff]
 simp;omega
end
section
section
theorem RO (xs:List GSet) (hl:xs.length≤1048576) (s0:GSet) (c:GSet→Int) (hm:qB c aCm xs):Con Tryz.prog 262 [] [vL 5 cP aCm xs,vR (cP s0),fbO (fun x=>[RD.ag (cP x),RD.ag (cP s0)]) fun x => .int .i64 (c x)] [] (jJ c aCm xs)
  (fun i=>[vI i,vB (bif decide ((i:Int)<xs.length) then c (xs.getD i aCm) == 0 else false)]) fun _=>[]:=by
 refine aE Tryz.func262 fun B0 r_ D_ w0=>?_
 refine aF ?_
 refine cY (ι:=Nat×Nat) (fun y=>[(9,vI y.1),(10,vI y.2)]) (fun _=>[]) (fun y=>y.1≤y.2∧y.2≤xs.length∧(∀ a,a<y.1→c (xs.getD a aCm)<0)∧∀ a,y.2≤a→a<xs.length→¬ c (xs.getD a aCm)<0) (fun y=>y.2 - y.1) (0,xs.length) [] [] rfl rfl ⟨Nat.zero_le _,Nat.le_refl _,fun a h=>absurd h (Nat.not_lt_zero _),fun a h1 h2=>by omega⟩ wF wM ?_
 rintro ⟨i,j⟩ ⟨h1,h2,h3,h4⟩
 dsimp only at h1 h2 h3 h4 ⊢
 refine aF ?_
 refine aI (fun e=>?_) (fun e=>?_)
 ·have hij:i<j:=by omega
  have hh:(((i:Int)+j) / 2).toNat=(i+j) / 2:=by omega
  refine aF ?_
  refine aO [] fun B0 H0=>?_
  refine bG 6 rfl (by kernel_rfl) (aAi rfl rfl rfl ⟨xs.getD (((i:Int)+j) / 2).toNat aCm,rfl,rfl⟩ (bD ?_))
  refine tZ TT_ok rfl ?_
  refine aP ?_
  rw [hh]
  refine aI (fun e2=>?_) (fun e2=>?_)
  ·refine aF ?_
   refine bN ((i+j) / 2+1,j) ⟨by dsimp only;omega,h2,fun a ha=>?_,h4⟩ (by show j - ((i+j) / 2+1)<j - i;omega) ⟨⟨_,rfl,aCw (fL (by dsimp only;omega))⟩,⟨_,rfl,aCs _⟩,wF⟩ wM
   exact hm a ((i+j) / 2) (by dsimp only at ha;omega) (by omega) e2
  ·refine aF ?_
   refine bN (i,(i+j) / 2) ⟨by dsimp only;omega,by dsimp only;omega,h3,fun a a1 a2 hc=>?_⟩ (by show (i+j) / 2 - i<j - i;omega) ⟨⟨_,rfl,aCs _⟩,⟨_,rfl,aCw (fL (by dsimp only;omega))⟩,wF⟩ wM
   exact e2 (hm ((i+j) / 2) a (by dsimp only at a1;omega) a2 hc)
 ·have hij:i=j:=by omega
  subst hij
  refine aF ?_
  refine aO [] fun B0 H0=>?_
  refine bG 11 rfl (by kernel_rfl) (aAz rfl rfl rfl rfl rfl ⟨xs.getD i aCm,rfl,rfl⟩ (bD ?_))
  refine tZ TT_ok rfl ?_
  refine aP ?_
  refine aC (i) [(6,none),(7,none)] ?_ ?_ ?_
  ·exact aCu _
  ·trivial
  ·exact ⟨h2,h3,h4⟩
end
section
theorem M9 {r s q t:Int}:vS r s q t=0 ↔ r=q∧s=t:=by
 unfold vS orL orL orL lN
 by_cases h1:r<q
 ·simp [h1];omega
 ·by_cases h2:r > q
  ·simp [h1,h2];omega
  ·have h3:r=q:=by omega
   subst h3
   by_cases h4:s<t
   ·simp [h4];omega
   ·by_cases h5:s > t
    ·simp [h4,h5];omega
    ·simp [h4,h5];omega
theorem aCd (a b:GSet):Ans Tryz.prog 263 [] [vR (cP a),vR (cP b)] [] (vI (vS a.region a.slot b.region b.slot)):=by
 refine aE Tryz.func263 fun B0 r_ D_ w0=>?_
 refine aF ?_
 refine aH (uV _ _ _ _) ?_
 exact aJ [(4,none)] (rfl)
theorem set_c (t:GTx) (hl:t.sets.length≤1048576) (r0 s0:Int) (hs:qU t.sets):Con Tryz.prog 222 [] [vP (cTx t),vI r0,vI s0] [] (jJ (jT r0 s0) aCm t.sets)
  (fun i=>[vI i,vB (bif decide ((i:Int)<t.sets.length) then jT r0 s0 (t.sets.getD i aCm) == 0 else false)]) fun _=>[]:=by
 refine aE Tryz.func222 fun B0 r_ D_ w0=>?_
 refine aF ?_
 refine cO TT_ok (RO t.sets hl ⟨r0,s0,0,false,0⟩ (jT r0 s0) (tU hs r0 s0)) rfl rfl (SVs.cons (aCs _) (SVs.cons (aCs _) (SVs.cons (iO (aB) rfl fun args x ⟨s,h1,h2⟩=>by subst h1;subst h2;exact aCd s ⟨r0,s0,0,false,0⟩) rfl))) (fun _=>rfl) rfl rfl rfl fun i hi=>?_
 refine aN ?_
 refine aC (i) [(6,none),(7,none)] ?_ ?_ ?_
 ·exact aCu _
 ·trivial
 ·exact hi
theorem ZL {xs:List GSet} (hs:qU xs) {r s:Int} {i:Nat} (h:jJ (jT r s) aCm xs i):(bif decide ((i:Int)<xs.length) then jT r s (xs.getD i aCm) == 0 else false)=xs.any (dS r s):=by
 obtain ⟨h1,h2,h3⟩:=h
 rw [Bool.eq_iff_iff,List.any_eq_true]
 constructor
 ·intro e
  have hi:i<xs.length:=by
   by_cases c:i<xs.length
   ·exact c
   ·rw [decide_eq_false (by omega)] at e;cases e
  rw [decide_eq_true (by omega)] at e
  have e:jT r s (xs.getD i aCm)=0:=by simpa using e
  refine ⟨xs.getD i aCm,by simp [hi],nB.2 (M9.1 e)⟩
 ·rintro ⟨x,hx,hc⟩
  obtain ⟨a,ha,rfl⟩:=List.mem_iff_getElem.1 hx
  have hxa:xs.getD a aCm=xs[a]:=by simp [ha]
  rw [← hxa] at hc
  have hc:=nB.1 hc
  have hz:jT r s (xs.getD a aCm)=0:=M9.2 hc
  have hia:i≤a:=by
   rcases Nat.lt_or_ge a i with h | h
   ·have:=h2 a h;omega
   ·exact h
  have hi:i<xs.length:=by omega
  rw [decide_eq_true (by omega)]
  have:jT r s (xs.getD i aCm)=0:=by
   by_cases c:i=a
   ·subst c;exact hz
   ·exfalso
    have h4:=hs i a (by omega) ha
    have h5:=h3 i (Nat.le_refl _) hi
    unfold jT at h5
    rw [pD] at h5
    unfold lessS at h4
    omega
  show (jT r s (xs.getD i aCm) == 0)=true
  rw [this];rfl
theorem V4 (n:GNote) (t:GTx) (hl:t.sets.length≤1048576) (hs:qU t.sets):Ans Tryz.prog 221 [] [vR (cT n),vP [.pt (cTx t) 0]] [] (vB (t.sets.any (dS n.region n.slot))):=by
 refine aE Tryz.func221 fun B0 r_ D_ w0=>?_
 refine aF ?_
 refine aR (set_c t hl n.region n.slot hs) fun i hi=>?_
 refine aN ?_
 exact aG [(3,none)] (ZL hs hi)
theorem YF (t:GTx) (n:GNote):pU t n = !t.sets.any (dS n.region n.slot):=by
 unfold pU
 rcases gH (dS n.region n.slot) aCm t.sets with ⟨h1,h2⟩ | ⟨i,h1,h2,h3,h4⟩
 ·rw [h1]
  cases c:t.sets.any (dS n.region n.slot) with
  | false=>rfl
  | true =>
   obtain ⟨x,hx,hc⟩:=List.any_eq_true.1 c
   obtain ⟨a,ha,rfl⟩:=List.mem_iff_getElem.1 hx
   have:=h2 a ha
   have hxa:t.sets.getD a aCm=t.sets[a]:=by simp [ha]
   rw [hxa,hc] at this;cases this
 ·rw [h2,decide_eq_false (by omega)]
  have:t.sets.any (dS n.region n.slot)=true:=List.any_eq_true.2 ⟨_,by simp [h1],h4⟩
  rw [this];rfl
theorem P5 (t:GTx) (h1:t.reads.length≤1048576) (h2:t.sets.length≤1048576) (hs:qU t.sets):MkL Tryz.prog 156 [vP (cTx t)] 5 cT aCn (t.reads.filter (pU t)):=by
 refine aE Tryz.func156 fun B0 r_ D_ w0=>?_
 refine aF ?_
 refine aR (aCv 900 7 (GC t.reads h1)) fun _ _=>?_
 refine aN ?_
 refine cO TT_ok (aCv 900 7 (aCv 901 9 (HB t.reads h1 fun n=>t.sets.any (dS n.region n.slot)))) rfl rfl (SVs.cons (aCs _) (SVs.cons (iO (aB) rfl fun args x ⟨n,e1,e2⟩=>by subst e1;subst e2;exact V4 n t h2 hs) rfl)) (fun _=>rfl) rfl rfl rfl fun _ _=>?_
 refine aN ?_
 refine bB (bL 9 900) ?_
 refine aC (()) [(2,none)] ?_ ?_ ?_
 ·exact aCu _
 ·exact ⟨⟨_,rfl,bP (by congr 1;funext n;exact (YF t n).symm)⟩,trivial⟩
 ·trivial
end
end
section
theorem AP (m:GMachine) (hl:m.copies.length≤1048576) (r0:Int):Ans Tryz.prog 107 [] [vP (bJ m),vI r0] [] (vL 2 cX aCo (cellsOf m r0)):=by
 cases h:dX m r0 with
 | false =>
  refine (DO m hl r0 h).wkR fun _ _=>⟨_,_,rfl,?_,rfl⟩
  rw [cellsOf,if_neg (by rw [h];simp)]
  intro B Z v e
  have e:v = .slice none 0 0:=e
  subst e
  exact ⟨none,0,rfl,Nat.le_refl _,Nat.zero_le _, .inl rfl⟩
 | true =>
  rcases gH (atB r0) aCp m.copies with ⟨h1,h2⟩ | ⟨i,h1,h2,h3,h4⟩
  ·rw [dX,j0 h2] at h;cases h
  ·have e:cellsOf m r0=(m.copies.getD i aCp).cells:=by rw [eW h,h2];rfl
   rw [e]
   exact DG m hl r0 i h1 h3 h4
theorem HX {xs:List GCell} (h:dF xs=true) {i:Nat} (hi:i<xs.length):hY (xs.getD i aCo)=false:=by
 unfold dF at h
 cases c:((xs.length:Int) == 6) with
 | false=>rw [c] at h;cases h
 | true=>rw [c] at h;exact sY (by simpa using h) i hi
theorem IJ {x:GCell} (h:hY x=false):jW x.head=true:=by
 unfold hY at h
 cases c:jW x.head with
 | true=>rfl
 | false=>rw [c] at h;cases h
def eqC (x y:GCell):Bool:=bif x.head == y.head then (bif x.value == y.value then true else false) else false
theorem E7 {x y:GCell}:eqC x y=true ↔ x=y:=by
 obtain ⟨a,b⟩:=x
 obtain ⟨c,d⟩:=y
 unfold eqC
 by_cases h:a=c <;>simp [h]
theorem QX {α:Type} {z:α} {xs ys:List α} (hl:xs.length=ys.length) (h:∀ i,i<xs.length→xs.getD i z=ys.getD i z):xs=ys:=by
 refine List.ext_getElem hl fun i h1 h2=>?_
 have:=h i h1
 simpa [h1,h2] using this
theorem XB (xs ys:List GCell) (h1:xs.length=6) (h2:ys.length=6):Ans Tryz.prog 115 [] [vL 2 cX aCo xs,vL 2 cX aCo ys] [] (vB (dec (xs=ys))):=by
 refine aE Tryz.func115 fun B0 r_ D_ w0=>?_
 refine aF ?_
 refine aK (ι:=Nat) (fun i=>[(5,vI i)]) (fun _=>[]) (fun i=>i≤6∧∀ j,j<i→(!eqC (xs.getD j aCo) (ys.getD j aCo))=false) (fun i=>6 - i) 0 [] [] ⟨Nat.zero_le _,fun j hj=>absurd hj (Nat.not_lt_zero _)⟩ ?_
 intro i ⟨h3,h4⟩
 refine aF ?_
 refine aI (fun e=>?_) (fun e=>?_)
 ·have hi:i<6:=by omega
  refine aF ?_
  refine aO [] fun B0 H0=>?_
  refine aP ?_
  refine aA (fun e2=>?_) (fun e2=>?_)
  ·refine aF ?_
   exact b9 TT_ok [(4,none)] rfl rfl ((b7 fun h=>by subst h;have e3:(!eqC (xs.getD i aCo) (xs.getD i aCo))=true:=e2;rw [E7.2 rfl] at e3;cases e3).symm)
  ·refine aF ?_
   exact aL (i+1) ⟨hi,b5 h4 e2⟩ (by omega)
 ·refine aF ?_
  exact b9 TT_ok [(4,none)] rfl rfl ((cN (QX (z:=aCo) (by omega) fun i hi=>E7.1 (by simpa using h4 i (by omega)))).symm)
theorem Q5 (xs ys:List GCell) (h1:xs.length≤1048576) (h2:ys.length≤1048576):Ans Tryz.prog 177 [] [vL 2 cX aCo xs,vL 2 cX aCo ys] [] (vB (dec (xs=ys))):=by
 refine aE Tryz.func177 fun B0 r_ D_ w0=>?_
 refine aF ?_
 refine fO rfl (fun e=>?_) (fun e=>?_)
 ·refine aF ?_
  exact b9 TT_ok [(4,none)] rfl rfl ((b7 fun h=>e (by rw [h])).symm)
 have hl:xs.length=ys.length:=by omega
 refine aF ?_
 refine aK (ι:=Nat) (fun i=>[(13,vI i)]) (fun _=>[]) (fun i=>i≤xs.length∧∀ j,j<i→(!eqC (xs.getD j aCo) (ys.getD j aCo))=false) (fun i=>xs.length - i) 0 [] [] ⟨Nat.zero_le _,fun j hj=>absurd hj (Nat.not_lt_zero _)⟩ ?_
 intro i ⟨h3,h4⟩
 refine aF ?_
 refine aI (fun e=>?_) (fun e=>?_)
 ·have hi:i<xs.length:=by omega
  refine aF ?_
  refine aO [] fun B0 H0=>?_
  refine aP ?_
  refine aA (fun e2=>?_) (fun e2=>?_)
  ·refine aF ?_
   exact b9 TT_ok [(4,none)] rfl rfl ((b7 fun h=>by subst h;have e3:(!eqC (xs.getD i aCo) (xs.getD i aCo))=true:=e2;rw [E7.2 rfl] at e3;cases e3).symm)
  ·refine aF ?_
   exact aL (i+1) ⟨hi,b5 h4 e2⟩ (by omega)
 ·refine aF ?_
  exact b9 TT_ok [(4,none)] rfl rfl ((cN (QX (z:=aCo) hl fun i hi=>E7.1 (by simpa using h4 i (by omega)))).symm)
def B8 (c:GCluster):Prop:=ClusOk c∧c.lost=false∧(∀ i,i<c.machines.length→(c.machines.getD i aCj).log.length=0)∧∀ r,r<c.places.length→gZ c r=false∧(∀ k,k<(c.places.getD r aCi).machines.length→cellsOf (bH c r 0) r=cellsOf (bH c r k) r)∧∀ s,s<6→fD ((cellsOf (bH c r 0) r).getD s aCo).head=false
theorem KA (c:GCluster) (hb:D.bds dJ (bO c)):Ans Tryz.prog 49 [] [vR (bO c)] [] (vB (dec (B8 c))):=by
 have b1:c.places.length≤1048576:=hb.2.2.1.1
 have b2:c.machines.length≤1048576:=hb.2.2.2.1.1
 refine aE Tryz.func49 fun B0 r_ D_ w0=>?_
 refine aT ?_
 refine aU 1 fun r_=>?_
 refine aF ?_
 refine aH (d5 c hb) ?_
 refine aA (fun e=>?_) (fun e=>?_)
 ·refine aF ?_
  exact b9 TT_ok [(2,none)] rfl rfl ((b7 fun h=>by rw [cN h.1,h.2.1] at e;cases e).symm)
 have hH:ClusOk c∧c.lost=false:=by
  cases c1:dec (ClusOk c) with
  | false=>rw [c1] at e;cases e
  | true=>rw [c1] at e;exact ⟨c9.1 c1,e⟩
 obtain ⟨hok,hlost⟩:=hH
 clear e
 refine aF ?_
 refine aK (ι:=Nat) (fun i=>[(3,vI i)]) (fun _=>[]) (fun i=>i≤c.machines.length∧∀ j,j<i→(c.machines.getD j aCj).log.length=0) (fun i=>c.machines.length - i) 0 [] [] ⟨Nat.zero_le _,fun j hj=>absurd hj (Nat.not_lt_zero _)⟩ ?_
 intro i ⟨h1,h2⟩
 refine aF ?_
 refine aI (fun e=>?_) (fun e=>?_)
 ·have hi:i<c.machines.length:=by omega
  refine aF ?_
  refine aI (fun e1=>?_) (fun e1=>?_)
  ·refine aF ?_
   exact b9 TT_ok [(2,none)] rfl rfl ((b7 fun h=>by have:=h.2.2.1 i hi;have e2:((c.machines.getD i aCj).log.length:Int) > 0:=e1;omega).symm)
  ·refine aF ?_
   exact aL (i+1) ⟨hi,b5 h2 (by have e2:¬ ((c.machines.getD i aCj).log.length:Int) > 0:=e1;omega)⟩ (by omega)
 have hi:i=c.machines.length:=by omega
 subst hi
 clear e h1
 refine aF ?_
 refine aK (ι:=Nat) (fun i=>[(4,vI i)]) (fun _=>[]) (fun i=>i≤c.places.length∧∀ r,r<i→gZ c r=false∧(∀ k,k<(c.places.getD r aCi).machines.length→cellsOf (bH c r 0) r=cellsOf (bH c r k) r)∧∀ s,s<6→fD ((cellsOf (bH c r 0) r).getD s aCo).head=false) (fun i=>c.places.length - i) 0 [] [] ⟨Nat.zero_le _,fun j hj=>absurd hj (Nat.not_lt_zero _)⟩ ?_
 intro i ⟨h1,h3⟩
 refine aF ?_
 refine aI (fun e=>?_) (fun e=>?_)
 ·have hi:i<c.places.length:=by omega
  have hpl:=hok.pl hi
  refine aF ?_
  refine aH (L7 c b1 hok i hi) ?_
  refine aA (fun e1=>?_) (fun e1=>?_)
  ·refine aF ?_
   exact b9 TT_ok [(2,none)] rfl rfl ((b7 fun h=>by rw [(h.2.2.2 i hi).1] at e1;cases e1).symm)
  have hal:∀ k,k<(c.places.getD i aCi).machines.length→(bH c i k).alive=true:=fun k hk=>by simpa using uR e1 k hk
  have h0:=hok.at hi (k:=0) (by omega)
  have g0:=h0.1
  have hh0:=h0.2 (hal 0 (by omega))
  have gi0:=p7 hh0
  have hc0:=fH (hok.mach hi (k:=0) (by omega)) hh0
  refine aF ?_
  refine aO [] fun B0 H0=>?_
  refine bG 7 rfl (by kernel_rfl) (aV (bD ?_))
  refine bG 8 rfl (by kernel_rfl) (aV (bD ?_))
  refine aP ?_
  refine aO [] fun B0 H0=>?_
  refine jB TT_ok (wT (bH c i 0) (pF hb _).2.1.1 _) rfl rfl rfl rfl rfl rfl ?_
  refine aP ?_
  refine aK (ι:=Nat) (fun k=>[(8,vI k)]) (fun _=>[]) (fun k=>k≤(c.places.getD i aCi).machines.length∧(∀ j,j<k→cellsOf (bH c i 0) i=cellsOf (bH c i j) i)∧(0<k→∀ s,s<6→fD ((cellsOf (bH c i 0) i).getD s aCo).head=false)) (fun k=>(c.places.getD i aCi).machines.length - k) 0 [] [] ⟨Nat.zero_le _,(fun j hj=>absurd hj (Nat.not_lt_zero _)),fun h=>absurd h (Nat.lt_irrefl _)⟩ ?_
  intro k ⟨g1,g2,g3⟩
  refine aF ?_
  refine aI (fun e2=>?_) (fun e2=>?_)
  ·have hk:k<(c.places.getD i aCi).machines.length:=by simp at e2 ⊢;omega
   have hk0:=hok.at hi hk
   have gk:=hk0.1
   have hhk:=hk0.2 (hal k hk)
   have gik:=p7 hhk
   have hck:=fH (hok.mach hi hk) hhk
   refine aF ?_
   refine aO [] fun B0 H0=>?_
   refine bG 8 rfl (by kernel_rfl) (aV (bD ?_))
   refine bG 9 rfl (by kernel_rfl) (aV (bD ?_))
   refine aP ?_
   refine aO [] fun B0 H0=>?_
   refine jB TT_ok (wT (bH c i k) (pF hb _).2.1.1 _) rfl rfl rfl rfl rfl rfl ?_
   refine aP ?_
   refine aH (XB _ _ ((congrArg List.length (eW hh0)).symm.trans hc0.1) ((congrArg List.length (eW hhk)).symm.trans hck.1)) ?_
   refine eF rfl (fun e3=>?_) (fun e3=>?_)
   ·refine aF ?_
    exact b9 TT_ok [(2,none)] rfl rfl ((b7 fun h=>by have:=(h.2.2.2 i hi).2.1 k hk;rw [eW hh0,eW hhk] at this;exact jN.1 e3 this).symm)
   have hsame:cellsOf (bH c i 0) i=cellsOf (bH c i k) i:=by rw [eW hh0,eW hhk];exact c9.1 e3
   have hlk:((bH c i k).copies.getD (cI (atB i) (bH c i k).copies).toNat aCp).cells.length=6:=(congrArg List.length (eW hhk)).symm.trans hck.1
   refine aF ?_
   refine aK (ι:=Nat) (fun s=>[(11,vI s)]) (fun _=>[]) (fun s=>s≤6∧∀ j,j<s→fD ((cellsOf (bH c i k) i).getD j aCo).head=false) (fun s=>6 - s) 0 [] [] ⟨Nat.zero_le _,fun j hj=>absurd hj (Nat.not_lt_zero _)⟩ ?_
   intro s ⟨s1,s2⟩
   refine aF ?_
   refine aI (fun e4=>?_) (fun e4=>?_)
   ·have hs:s<6:=by omega
    refine aF ?_
    refine aH (pC _) ?_
    refine aA (fun e5=>?_) (fun e5=>?_)
    ·refine aF ?_
     exact b9 TT_ok [(2,none)] rfl rfl ((b7 fun h=>by have:=(h.2.2.2 i hi).2.2 s hs;rw [hsame,eW hhk] at this;exact Bool.noConfusion (this.symm.trans e5)).symm)
    ·refine aF ?_
     exact aL (s+1) ⟨hs,b5 s2 (by rw [eW hhk];exact e5)⟩ (by omega)
   ·refine aF ?_
    exact aL (k+1) ⟨hk,b5 g2 hsame,fun _ s hs=>by rw [hsame];exact s2 s (by omega)⟩ (by omega)
  ·have hk:k=(c.places.getD i aCi).machines.length:=by simp at e2 g1 ⊢;omega
   refine aF ?_
   exact aL (i+1) ⟨hi,b5 h3 ⟨e1,fun j hj=>g2 j (by omega),g3 (by omega)⟩⟩ (by omega)
 ·refine aF ?_
  exact b9 TT_ok [(2,none)] rfl rfl ((cN ⟨hok,hlost,h2,fun r hr=>h3 r (by omega)⟩).symm)
end
section
theorem OV (x:GCell):Ans Tryz.prog 179 [] [vR (cX x)] [] (vB (rE x.head 1 != 0)):=by
 refine aE Tryz.func179 fun B0 r_ D_ w0=>?_
 refine aF ?_
 exact aG [(2,none)] (rfl)
theorem NW (m:GMachine):Ans Tryz.prog 180 [] [vR (bJ m)] [] (vB (decide ((m.log.length:Int) > 0))):=by
 refine aE Tryz.func180 fun B0 r_ D_ w0=>?_
 refine aF ?_
 exact aG [(2,none)] (rfl)
theorem JX {xs:List GCell} (h:dF xs=true) (hl:xs.length=6):(xs.any fun x=>rE x.head 1 != 0)=false ↔ ∀ s,s<6→fD (xs.getD s aCo).head=false:=by
 constructor
 ·intro e s hs
  have:=sY (z:=aCo) e s (by omega)
  rwa [FF (IJ (HX h (by omega)))] at this
 ·intro e
  exact j0 (z:=aCo) fun s hs=>by rw [FF (IJ (HX h hs))];exact e s (by omega)
theorem R2 {c:GCluster} {i:Nat} {p:Nat→Prop} (h3:∀ r,r<i→p r) (e:¬ (i:Int)<c.places.length):(!c.machines.any fun m=>decide ((m.log.length:Int) > 0))=dec ((∀ i,i<c.machines.length→(c.machines.getD i aCj).log.length=0)∧∀ r,r<c.places.length→p r):=by
 rw [Bool.eq_iff_iff,c9]
 constructor
 ·intro h
  refine ⟨fun j hj=>?_,fun r hr=>h3 r (by omega)⟩
  have:=sY (z:=aCj) (by simpa using h:(c.machines.any fun m=>decide ((m.log.length:Int) > 0))=false) j hj
  have:=of_decide_eq_false this
  omega
 ·rintro ⟨h,_⟩
  rw [j0 (z:=aCj) fun j hj=>decide_eq_false (by rw [h j hj];omega)];rfl
theorem R5 (c:GCluster) (hok:ClusOk c):(bif (bif dec (ClusOk c) then !c.lost else false) then dec ((∀ i,i<c.machines.length→(c.machines.getD i aCj).log.length=0)∧∀ r,r<c.places.length→gZ c r=false∧(∀ k,k<(c.places.getD r aCi).machines.length→cellsOf (bH c r 0) r=cellsOf (bH c r k) r)∧∀ s,s<6→fD ((cellsOf (bH c r 0) r).getD s aCo).head=false) else false)=dec (B8 c):=by
 rw [cN hok,Bool.eq_iff_iff,c9]
 cases h:c.lost with
 | true=>simp [B8,h]
 | false =>
  simp only [Bool.cond_true,Bool.not_false,c9]
  exact ⟨fun k=>⟨hok,h,k.1,k.2⟩,fun k=>k.2.2⟩
theorem HO (c:GCluster) (hb:D.bds dJ (bO c)) (hok:ClusOk c):Ans Tryz.prog 113 [] [vP (bO c)] [] (vB (dec ((∀ i,i<c.machines.length→(c.machines.getD i aCj).log.length=0)∧∀ r,r<c.places.length→gZ c r=false∧(∀ k,k<(c.places.getD r aCi).machines.length→cellsOf (bH c r 0) r=cellsOf (bH c r k) r)∧∀ s,s<6→fD ((cellsOf (bH c r 0) r).getD s aCo).head=false))):=by
 have b1:c.places.length≤1048576:=hb.2.2.1.1
 have b2:c.machines.length≤1048576:=hb.2.2.2.1.1
 refine aE Tryz.func113 fun B0 r_ D_ w0=>?_
 refine aF ?_
 refine aK (ι:=Nat) (fun i=>[(13,vI i)]) (fun _=>[]) (fun i=>i≤c.places.length∧∀ r,r<i→gZ c r=false∧(∀ k,k<(c.places.getD r aCi).machines.length→cellsOf (bH c r 0) r=cellsOf (bH c r k) r)∧∀ s,s<6→fD ((cellsOf (bH c r 0) r).getD s aCo).head=false) (fun i=>c.places.length - i) 0 [] [] ⟨Nat.zero_le _,fun j hj=>absurd hj (Nat.not_lt_zero _)⟩ ?_
 intro i ⟨h1,h3⟩
 refine aF ?_
 refine aI (fun e=>?_) (fun e=>?_)
 ·have hi:i<c.places.length:=by omega
  have hpl:=hok.pl hi
  have h0:=hok.at hi (k:=0) (by omega)
  have g0:=h0.1
  refine aF ?_
  refine rB TT_ok (MP c i hi (by omega) g0) rfl rfl (aCu _) rfl rfl ?_
  refine rB TT_ok (AP (bH c i 0) (pF hb _).2.1.1 _) rfl rfl (aCu _) rfl rfl ?_
  refine aK (ι:=Nat) (fun k=>[(26,vI k)]) (fun _=>[]) (fun k=>k≤(c.places.getD i aCi).machines.length∧∀ j,j<k→(!(bH c i j).alive)=false∧cellsOf (bH c i 0) i=cellsOf (bH c i j) i) (fun k=>(c.places.getD i aCi).machines.length - k) 0 [] [] ⟨Nat.zero_le _,(fun j hj=>absurd hj (Nat.not_lt_zero _))⟩ ?_
  intro k ⟨g1,g2⟩
  have lc0:(cellsOf (bH c i 0) i).length≤1048576:=by
   cases hh:dX (bH c i 0) i with
   | true=>have:=(fH (hok.mach hi (k:=0) (by omega)) hh).1;omega
   | false=>rw [cellsOf,if_neg (by rw [hh];simp)];exact Nat.zero_le _
  refine aF ?_
  refine aI (fun e2=>?_) (fun e2=>?_)
  ·have hk:k<(c.places.getD i aCi).machines.length:=by simp at e2 ⊢;omega
   have hk0:=hok.at hi hk
   have gk:=hk0.1
   have lck:(cellsOf (bH c i k) i).length≤1048576:=by
    cases hh:dX (bH c i k) i with
    | true=>have:=(fH (hok.mach hi hk) hh).1;omega
    | false=>rw [cellsOf,if_neg (by rw [hh];simp)];exact Nat.zero_le _
   refine aF ?_
   refine rB TT_ok (AP (bH c i k) (pF hb _).2.1.1 _) rfl rfl (aCu _) rfl rfl ?_
   refine aH (Q5 _ _ lck lc0) ?_
   refine aA (fun e3=>?_) (fun e3=>?_)
   ·refine aF ?_
    exact b9 TT_ok [(2,none)] rfl rfl ((b7 fun h=>by have h5:=h.2 i hi;have h6:=uR h5.1 k hk;rw [cN (h5.2.1 k hk).symm] at e3;simp at h6 e3;rw [h6] at e3;cases e3).symm)
   ·refine aF ?_
    exact aL (k+1) ⟨hk,b5 g2 (by
     cases ha:(bH c i k).alive with
     | false=>change (bif !(bH c i k).alive then true else _)=false at e3;rw [ha] at e3;cases e3
     | true=>change (bif !(bH c i k).alive then true else !dec (cellsOf (bH c i k) i=cellsOf (bH c i 0) i))=false at e3;rw [ha] at e3;exact ⟨rfl,Eq.symm (c9.1 (show dec (cellsOf (bH c i k) i=cellsOf (bH c i 0) i)=true from by simpa using e3))⟩)⟩ (by omega)
  have hal:∀ k,k<(c.places.getD i aCi).machines.length→(!(bH c i k).alive)=false∧cellsOf (bH c i 0) i=cellsOf (bH c i k) i:=fun k hk=>g2 k (by simp at e2 hk;omega)
  have hh0:=h0.2 (by simpa using (hal 0 (by omega)).1)
  have hc0:=fH (hok.mach hi (k:=0) (by omega)) hh0
  refine aF ?_
  refine lZ TT_ok (wR (cellsOf (bH c i 0) i) lc0 fun x=>rE x.head 1 != 0) rfl rfl (SVs.cons (aCs _) (SVs.cons (iO (aB) rfl fun args x ⟨n,e1,e2⟩=>by subst e1;subst e2;exact OV n) rfl)) rfl rfl ?_
  refine aA (fun e3=>?_) (fun e3=>?_)
  ·refine aF ?_
   exact b9 TT_ok [(2,none)] rfl rfl ((b7 fun h=>by rw [(JX hc0.2 hc0.1).2 (h.2 i hi).2.2] at e3;cases e3).symm)
  ·refine aF ?_
   exact aL (i+1) ⟨hi,b5 h3 ⟨oJ fun k hk=>(hal k hk).1,fun k hk=>(hal k hk).2,(JX hc0.2 hc0.1).1 e3⟩⟩ (by omega)
 ·refine aF ?_
  refine lZ TT_ok (AR c.machines b2 fun m=>decide ((m.log.length:Int) > 0)) rfl rfl (SVs.cons (aCs _) (SVs.cons (iO (aB) rfl fun args x ⟨n,e1,e2⟩=>by subst e1;subst e2;exact NW n) rfl)) rfl rfl ?_
  exact aG [(2,none)] (R2 h3 e)
theorem K4 (c:GCluster) (hb:D.bds dJ (bO c)):Ans Tryz.prog 48 [] [vR (bO c)] [] (vB (dec (B8 c))):=by
 refine aE Tryz.func48 fun B0 r_ D_ w0=>?_
 refine aF ?_
 refine aH (eT c hb) ?_
 by_cases hok:ClusOk c
 ·refine aH (HO c hb hok) ?_
  exact aG [(2,none)] (R5 c hok)
 ·refine lK (vB true) rfl rfl rfl rfl ((by rw [b7 hok];rfl)) rfl rfl ?_
  refine aN ?_
  exact b9 TT_ok [(2,none)] rfl rfl ((by rw [b7 hok,b7 fun h=>hok h.1];rfl))
theorem L4 (x:GRecord) (tx r0 kind:Int):Ans Tryz.prog 218 [] [vR (cK x),vP [dI tx],vP [dI r0],vP [dI kind]] [] (vB (pW tx r0 kind x)):=by
 refine aE Tryz.func218 fun B0 r_ D_ w0=>?_
 refine aF ?_
 exact aG [(5,none)] (rfl)
theorem G0 (m:GMachine) (hl:m.log.length≤1048576) (tx r0 kind:Int):Ans Tryz.prog 153 [] [vP (bJ m),vI tx,vI r0,vI kind] [] (vI (oD m tx r0 kind)):=by
 refine aE Tryz.func153 fun B0 r_ D_ w0=>?_
 refine aF ?_
 refine lZ TT_ok (rF m.log hl (fun _=>True) (fun _ _=>trivial) (pW tx r0 kind)) rfl rfl (SVs.cons (aCs _) (SVs.cons (iO (aB) rfl fun args x ⟨n,_,e1,e2⟩=>by subst e1;subst e2;exact L4 n _ _ _) rfl)) rfl rfl ?_
 exact aJ [(8,none)] (rfl)
theorem DR (a b:Int):(if b > a then b else a)=B5 a b:=by unfold B5;split <;>split <;>omega
theorem F1 (c:GCluster) (hb:D.bds dJ (bO c)) (hok:ClusOk c) (id r0:Int) (hr:0≤r0∧r0<c.places.length):Ans Tryz.prog 87 [] [vP (bO c),vI id,vI r0] [] (vI (rY c id r0 (c.places.getD r0.toNat aCi).machines.length)):=by
 have hp:=hok.pl (r:=r0.toNat) (by omega)
 refine aE Tryz.func87 fun B0 r_ D_ w0=>?_
 refine aF ?_
 refine aK (ι:=Nat) (fun k=>[(20,vI k),(7,vI (rY c id r0 k))]) (fun _=>[]) (fun k=>k≤(c.places.getD r0.toNat aCi).machines.length) (fun k=>(c.places.getD r0.toNat aCi).machines.length - k) 0 [] [] (Nat.zero_le _) ?_
 intro k h1
 refine aF ?_
 refine aI (fun e=>?_) (fun e=>?_)
 ·have hk:k<(c.places.getD r0.toNat aCi).machines.length:=by simp at e ⊢;omega
  have hm:=(hok.at (r:=r0.toNat) (by omega) hk).1
  have bm:=pF hb (mAt c r0.toNat k).toNat
  have bl:(bH c r0.toNat k).log.length≤1048576:=bm.2.2.1.1
  have bc:(bH c r0.toNat k).cleared.length≤1048576:=bm.2.2.2.1.1
  refine aF ?_
  refine eF rfl (fun e1=>?_) (fun e1=>?_)
  ·refine aF ?_
   exact bN (k+1) hk (by omega) ⟨⟨_,rfl,aCs _⟩,⟨_,rfl,aCw (fL (show _=tH _ _ _ _ _ from (if_pos e1).symm))⟩,wF⟩ wM
  have e1':¬ (bH c r0.toNat k).alive=false:=by rw [show (bH c r0.toNat k).alive=true from e1];simp
  refine aF ?_
  refine aH (G0 _ bl _ _ _) ?_
  refine aH (j8 _ bc _) ?_
  refine aA (fun e2=>?_) (fun e2=>?_)
  ·refine aF ?_
   exact bN (k+1) hk (by omega) ⟨⟨_,rfl,aCs _⟩,⟨_,rfl,aCw (fL (show _=tH _ _ _ _ _ from ((if_neg e1').trans ((if_pos e2).trans (DR _ _).symm)).symm))⟩,wF⟩ wM
  have e2':=Bool.eq_false_iff.1 e2
  refine aF ?_
  refine aH (G0 _ bl _ _ _) ?_
  refine aA (fun e3=>?_) (fun e3=>?_)
  ·refine aF ?_
   exact bN (k+1) hk (by omega) ⟨⟨_,rfl,aCs _⟩,⟨_,rfl,aCw (fL (show _=tH _ _ _ _ _ from ((if_neg e1').trans ((if_neg e2').trans ((if_pos e3).trans (DR _ _).symm))).symm))⟩,wF⟩ wM
  have e3':=Bool.eq_false_iff.1 e3
  refine aF ?_
  refine aH (G0 _ bl _ _ _) ?_
  refine aA (fun e4=>?_) (fun e4=>?_)
  ·refine aF ?_
   exact bN (k+1) hk (by omega) ⟨⟨_,rfl,aCs _⟩,⟨_,rfl,aCw (fL (show _=tH _ _ _ _ _ from ((if_neg e1').trans ((if_neg e2').trans ((if_neg e3').trans ((if_pos e4).trans (DR _ _).symm)))).symm))⟩,wF⟩ wM
  ·have e4':=Bool.eq_false_iff.1 e4
   refine aF ?_
   exact bN (k+1) hk (by omega) ⟨⟨_,rfl,aCs _⟩,⟨_,rfl,aCw (fL (show _=tH _ _ _ _ _ from ((if_neg e1').trans ((if_neg e2').trans ((if_neg e3').trans (if_neg e4')))).symm))⟩,wF⟩ wM
 ·have hk:k=(c.places.getD r0.toNat aCi).machines.length:=by simp at e h1 ⊢;omega
  subst hk
  refine aF ?_
  exact aJ [(6,none)] (rfl)
end
section
theorem NP (t:GTx) (id:Int):Ans Tryz.prog 145 [] [vR (cTx t),vP [dI id]] [] (vB (t.id == id)):=by
 refine aE Tryz.func145 fun B0 r_ D_ w0=>?_
 refine aF ?_
 exact aG [(3,none)] (rfl)
theorem DB (c:GCluster) (hl:c.txs.length≤1048576) (id:Int) (h:0≤bQ c id):Ans Tryz.prog 80 [] [vP (bO c),vI id] [] (vP (cTx (c.txs.getD (bQ c id).toNat aCk))):=by
 have hin:=dW h
 refine aE Tryz.func80 fun B0 r_ D_ w0=>?_
 refine aF ?_
 refine lZ TT_ok (rV c.txs hl (fun _=>True) (fun _ _=>trivial) fun t=>t.id == id) rfl rfl (SVs.cons (aCs _) (SVs.cons (iO (aB) rfl fun args x ⟨n,_,e1,e2⟩=>by subst e1;subst e2;exact NP n _) rfl)) rfl rfl ?_
 refine aI (fun e=>absurd h (Int.not_le.2 e)) (fun _=>?_)
 have hx:0≤cI (fun t:GTx=>t.id == id) c.txs∧cI (fun t:GTx=>t.id == id) c.txs<c.txs.length:=⟨h,gO⟩
 refine aF ?_
 exact BV TT_ok [(4,none)] rfl rfl (rfl)
theorem EN (c:GCluster) (hl:c.txs.length≤1048576) (id:Int) (h:bQ c id<0):Ans Tryz.prog 80 [] [vP (bO c),vI id] [] (.a (.v (.pointer none))):=by
 refine aE Tryz.func80 fun B0 r_ D_ w0=>?_
 refine aF ?_
 refine lZ TT_ok (rV c.txs hl (fun _=>True) (fun _ _=>trivial) fun t=>t.id == id) rfl rfl (SVs.cons (aCs _) (SVs.cons (iO (aB) rfl fun args x ⟨n,_,e1,e2⟩=>by subst e1;subst e2;exact NP n _) rfl)) rfl rfl ?_
 refine aI (fun _=>?_) (fun e=>absurd h e)
 refine aF ?_
 exact BV TT_ok [(4,none)] rfl rfl (rfl)
end
section
open Classical in
noncomputable def nQ (c:GCluster) (id:Int):Bool:=if ClusOk c∧0≤bQ c id then kA c (c.txs.getD (bQ c id).toNat aCk) else false
theorem aA8 (c:GCluster) (hb:D.bds dJ (bO c)) (m0:Int) (hm:0≤m0∧m0<c.machines.length):Ans Tryz.prog 158 [] [vI m0,vP [.pt (bO c) 0]] [] (vB (!(c.machines.getD m0.toNat aCj).alive)):=by
 refine aE Tryz.func158 fun B0 r_ D_ w0=>?_
 refine aF ?_
 exact aG [(3,none)] (rfl)
theorem aAf (c:GCluster) (r:Nat):((c.places.getD r aCi).machines.any fun m => !(c.machines.getD m.toNat aCj).alive)=gZ c r:=by
 unfold gZ
 rcases hx:t9 (c.places.getD r aCi).machines.length fun k => !(bH c r k).alive with _ | _
 ·exact j0 (z:=0) fun j hj=>uR hx j hj
 ·obtain ⟨k,hk,h1⟩:=List.any_eq_true.1 hx
  exact uL (z:=0) (List.mem_range.1 hk) h1
theorem Q3 (c:GCluster) (hb:D.bds dJ (bO c)) (hok:ClusOk c) (r0:Int) (hr:0≤r0∧r0<c.places.length):Ans Tryz.prog 157 [] [vI r0,vP [.pt (bO c) 0]] [] (vB (gZ c r0.toNat)):=by
 have hpl:=hok.pl (r:=r0.toNat) (by omega)
 refine aE Tryz.func157 fun B0 r_ D_ w0=>?_
 refine aF ?_
 refine lZ TT_ok (pJ (c.places.getD r0.toNat aCi).machines (by omega) (fun m=>0≤m∧m<c.machines.length) (fun k hk=>(hok.at (by omega) hk).1) fun m => !(c.machines.getD m.toNat aCj).alive) rfl rfl (SVs.cons (aCs _) (SVs.cons (iO (aB) rfl fun args x ⟨n,hn,e1,e2⟩=>by subst e1;subst e2;exact aA8 c hb n hn) rfl)) rfl rfl ?_
 exact aG [(3,none)] (aAf c r0.toNat)
theorem EZ {xs:List Int} {x:Int}:∀ {k:Nat},k≤xs.length→(x ∈ cmI xs k ↔ ∃ j,j<k∧xs.getD j 0=x)
 | 0,_=>by simp [cmI]
 | k+1,h=>by
  have ih:=EZ (xs:=xs) (x:=x) (k:=k) (by omega)
  by_cases c:k=0∨xs.getD k 0≠xs.getD (k - 1) 0
  ·rw [E0 c,List.mem_append,ih]
   constructor
   ·rintro (⟨j,h1,h2⟩ | h1)
    ·exact ⟨j,by omega,h2⟩
    ·exact ⟨k,by omega,(List.mem_singleton.1 h1).symm⟩
   ·rintro ⟨j,h1,h2⟩
    by_cases hj:j=k
    ·subst hj;exact .inr (List.mem_singleton.2 h2.symm)
    ·exact .inl ⟨j,by omega,h2⟩
  ·have c0:0<k:=by omega
   have c1:xs.getD k 0=xs.getD (k - 1) 0:=by
    by_cases h:xs.getD k 0=xs.getD (k - 1) 0
    ·exact h
    ·exact absurd (.inr h) c
   rw [ID c0 c1,ih]
   constructor
   ·rintro ⟨j,h1,h2⟩;exact ⟨j,by omega,h2⟩
   ·rintro ⟨j,h1,h2⟩
    by_cases hj:j=k
    ·subst hj;exact ⟨j - 1,by omega,c1.symm.trans h2⟩
    ·exact ⟨j,by omega,h2⟩
abbrev uA (t:GTx) (i:Nat):List Int:=cmI (fC t) (fC t).length ++ ((bW t).take i).map GNote.region
theorem ZX (c:GCluster) (t:GTx):((uA t (bW t).length).any fun r=>gZ c r.toNat)=((t.sets.any fun s=>gZ c s.region.toNat) || (bW t).any fun n=>gZ c n.region.toNat):=by
 rw [List.any_append,List.take_length,List.any_map]
 congr 1
 rw [Bool.eq_iff_iff,List.any_eq_true,List.any_eq_true]
 constructor
 ·rintro ⟨x,hx,h1⟩
  obtain ⟨j,hj,e⟩:=(EZ (Nat.le_refl _)).1 hx
  rw [m6] at hj
  rw [nM] at e
  refine ⟨t.sets.getD j aCm,?_,by rw [e];exact h1⟩
  rw [List.getD_eq_getElem?_getD,List.getElem?_eq_getElem hj];exact List.getElem_mem hj
 ·rintro ⟨s,hs,h1⟩
  obtain ⟨j,hj,e⟩:=List.mem_iff_getElem.1 hs
  refine ⟨s.region,(EZ (Nat.le_refl _)).2 ⟨j,by rw [m6];exact hj,?_⟩,h1⟩
  rw [nM,List.getD_eq_getElem?_getD,List.getElem?_eq_getElem hj];exact congrArg GSet.region e
theorem ZC {c:GCluster} {t:GTx} (h:pK c t=false):(bif t.phase != 7 then t.phase != 9 else false)=kA c t:=by
 unfold kA
 rw [h]
 by_cases h7:t.phase=7
 ·simp [h7]
 ·by_cases h9:t.phase=9
  ·simp [h9]
  ·simp [h7,h9]
theorem VZ {c:GCluster} {t:GTx} (h:pK c t=true) (h2:t.phase=1∨t.phase=7∨t.phase=9):false=kA c t:=by
 unfold kA
 rw [h]
 rcases h2 with h | h | h <;>simp [h]
theorem aBk {c:GCluster} {t:GTx} (ht:TxIn c t):∀ k,k<(uA t (bW t).length).length→0≤(uA t (bW t).length).getD k 0∧(uA t (bW t).length).getD k 0<c.places.length:=fun k hk=>by
 have hm:(uA t (bW t).length).getD k 0 ∈ uA t (bW t).length:=by
  rw [List.getD_eq_getElem?_getD,List.getElem?_eq_getElem hk];exact List.getElem_mem hk
 rcases List.mem_append.1 hm with h | h
 ·obtain ⟨j,hj,e⟩:=(EZ (Nat.le_refl _)).1 h
  rw [m6] at hj
  rw [nM] at e
  rw [← e];exact ht.set j hj
 ·rw [List.take_length] at h
  obtain ⟨n,hn,e⟩:=List.mem_map.1 h
  obtain ⟨j,hj,e2⟩:=List.mem_iff_getElem.1 hn
  rw [← e, ← e2]
  have:=q9 ht hj
  rwa [List.getD_eq_getElem?_getD,List.getElem?_eq_getElem hj] at this
theorem z9 (c:GCluster) (hb:D.bds dJ (bO c)) (hok:ClusOk c) (t:GTx) (ht:TxIn c t):Ans Tryz.prog 91 [] [vP (bO c),vP (cTx t)] [] (vB (kA c t)):=by
 have b1:c.places.length≤1048576:=hb.2.2.1.1
 have r1:t.reads.length≤1048576:=by have:=ht.ok.1;unfold nK at this;omega
 have r2:t.sets.length≤1048576:=by have:=ht.ok.1;unfold nK at this;omega
 have r3:t.reads.length≤12∧t.sets.length≤12:=by have:=ht.ok.1;unfold nK at this;omega
 have hh:=ht.home
 have hcl:(bW t).length≤t.reads.length:=List.length_filter_le _ _
 have hwl:(cmI (fC t) (fC t).length).length≤t.sets.length:=by have:=QH (xs:=fC t) (k:=(fC t).length);rw [m6] at this ⊢;exact this
 refine aE Tryz.func91 fun B0 r_ D_ w0=>?_
 refine aT ?_
 refine aU 2 fun r_=>?_
 refine aF ?_
 refine aO [] fun B0 H0=>?_
 refine aP ?_
 refine eF rfl (fun e1=>?_) (fun e1=>?_)
 ·refine aF ?_
  exact aG [(4,none)] (ZC e1)
 have e1':pK c t=true:=e1
 refine aF ?_
 refine aA (fun e2=>?_) (fun e2=>?_)
 ·refine aF ?_
  exact b9 TT_ok [(4,none)] rfl rfl (VZ e1' (by simp at e2;omega))
 have e2':¬ t.phase=1∧¬ (t.phase=7∨t.phase=9):=by
  simp at e2;omega
 have hstr:kA c t=((t.sets.any fun s=>gZ c s.region.toNat) || (bW t).any fun n=>gZ c n.region.toNat):=by
  rw [kA,if_neg e2'.1,if_neg e2'.2,if_neg (by rw [e1'];simp)]
 rw [hstr, ← ZX]
 refine aF ?_
 refine aR (aCv 900 52 (SW t r2)) fun _ _=>?_
 refine aN ?_
 refine aR (aCv 900 54 (P5 t r1 r2 (m4 ht.ok.2.2))) fun _ _=>?_
 refine aN ?_
 refine cY (ι:=Nat) (fun i=>[(56,vI i),(5, .a (.g 52))]) (fun i=>[(52,bE 1 bS 0 (uA t i))]) (fun i=>i≤(bW t).length) (fun i=>(bW t).length - i) 0 [52] [52] rfl rfl (Nat.zero_le _) wF ⟨⟨_,rfl,bP (by show _=_ ++ _;simp only [List.take_zero,List.map_nil,List.append_nil])⟩,wM⟩ ?_
 intro i h3
 have hcl2:(t.reads.filter (pU t)).length≤t.reads.length:=hcl
 have hll:(uA t i).length≤t.sets.length+i:=by have a1:(((bW t).take i).map GNote.region).length≤i:=(by rw [List.length_map,List.length_take];omega);rw [show (uA t i).length=(cmI (fC t) (fC t).length).length+(((bW t).take i).map GNote.region).length from List.length_append];omega
 refine aF ?_
 refine aI (fun e=>?_) (fun e=>?_)
 ·have hi:i<(bW t).length:=by have:(i:Int)<(bW t).length:=e;omega
  have hi2:i<(t.reads.filter (pU t)).length:=hi
  refine aF ?_
  refine cV TT_ok 63 (fun _=>bS ((bW t).getD i aCn).region) rfl rfl rfl rfl rfl rfl rfl (fun i hi=>by rcases i with _ | i <;>first | rfl | omega) (mu1:=[]) rfl rfl rfl ?_
  refine aN ?_
  refine cU TT_ok 52 63 64 rfl rfl rfl rfl rfl rfl rfl rfl rfl rfl rfl rfl ⟨by show ((uA t i).length+1) * 8≤140737488355328;omega,by unfold maxL;omega⟩ ?_
  refine aN ?_
  refine bC (bL 52 64) ?_
  exact bN (i+1) hi (by omega) wF ⟨⟨_,rfl,fJ (x:=((bW t).getD i aCn).region) (by show _ ++ _=(_ ++ _) ++ _;rw [cC (z:=aCn) hi,List.map_append,List.append_assoc];rfl) rfl⟩,wM⟩
 ·have hi:i=(bW t).length:=by have:¬ (i:Int)<(bW t).length:=e;omega
  subst hi
  refine aF ?_
  refine lZ TT_ok (pJ (uA t (bW t).length) (by omega) (fun r=>0≤r∧r<c.places.length) (aBk ht) fun r=>gZ c r.toNat) rfl rfl (SVs.cons (aCs _) (SVs.cons (iO (aB) rfl fun args x ⟨n,hn,e1,e2⟩=>by subst e1;subst e2;exact Q3 c hb hok n hn) rfl)) rfl rfl ?_
  exact aG [(4,none)] (rfl)
theorem zW (c:GCluster) (hb:D.bds dJ (bO c)) (id:Int):Ans Tryz.prog 29 [] [vR (bO c),vI id] [] (vB (nQ c id)):=by
 have b3:c.txs.length≤1048576:=hb.2.2.2.2.1.1
 refine aE Tryz.func29 fun B0 r_ D_ w0=>?_
 refine aT ?_
 refine aU 2 fun r_=>?_
 refine aF ?_
 refine aH (eT c hb) ?_
 refine eF rfl (fun e=>?_) (fun e=>?_)
 ·refine aF ?_
  exact b9 TT_ok [(4,none)] rfl rfl ((by rw [nQ,if_neg];rintro ⟨h,_⟩;exact jN.1 e h))
 have hok:=c9.1 e
 refine aF ?_
 by_cases hf:0≤bQ c id
 ·have hin:=dW hf
  refine rB TT_ok (DB c b3 id hf) rfl rfl (aCu _) rfl rfl ?_
  refine aH (z9 c hb hok _ (hok.txIn hin.1)) ?_
  exact b9 TT_ok [(4,none)] rfl rfl ((by rw [nQ,if_pos ⟨hok,hf⟩];rfl))
 ·refine rB TT_ok (EN c b3 id (by omega)) rfl rfl (aCu _) rfl rfl ?_
  refine lK (vB true) rfl rfl rfl rfl (rfl) rfl rfl ?_
  refine aN ?_
  exact b9 TT_ok [(4,none)] rfl rfl ((by rw [nQ,if_neg fun h=>hf h.2];rfl))
end
section
theorem CS (x:GRecord) (h1:x.sets.length≤1048576):MkR Tryz.prog 213 [vR (cK x)] x:=by
 refine aE Tryz.func213 fun B0 r_ D_ w0=>?_
 refine aF ?_
 refine aR (aCv 900 901 (CQ x.sets h1)) fun _ _=>?_
 refine aN ?_
 refine aC (()) [(2,some 83)] ?_ ?_ ?_
 ·exact aCu _
 ·exact wM
 ·trivial
end
section
theorem LE (m:GMachine) (hb:D.bds dJ (bJ m)):V8 Tryz.prog 140 [vR (bJ m)] m:=by
 have b1:m.copies.length≤1048576:=hb.2.1.1
 have b2:m.log.length≤1048576:=hb.2.2.1.1
 have b3:m.cleared.length≤1048576:=hb.2.2.2.1.1
 refine aE Tryz.func140 fun B0 r_ D_ w0=>?_
 refine aT ?_
 refine aU 1 fun r_=>?_
 refine zS ?_
 refine T6 [(1,vP (bJ m)),(2, .a (.p 2 0)),(3, .a (.p 3 0))] [(2, .row [.v (.bool false),lU,lU,lU]),(3, .row [.v (.bool m.alive),lU,lU, .g 12]),(12,bE 1 bS 0 m.cleared)] ?_ fun key=>?_
 ·refine aZ ?_
  refine bB (a5 3 1 2 (fun i=>dA (([]:List GCopy).getD i aCp))) ?_
  refine bB (a5 3 2 4 (fun i=>cK (([]:List GRecord).getD i aCq))) ?_
  refine bB (a6 3 1 31) ?_
  refine bB (a6 3 2 32) ?_
  refine aK (ι:=Nat) (fun i=>[(17,vI i)]) (fun i=>[(31,bE 2 dA aCp (m.copies.take i)),(3, .row [.v (.bool m.alive), .g 31, .g 32, .g 12])]) (fun i=>i≤m.copies.length) (fun i=>m.copies.length - i) 0 [31,3] [31] (Nat.zero_le _) ?_
  intro i h1
  refine aF ?_
  refine aI (fun e=>?_) (fun e=>?_)
  ·have hi:i<m.copies.length:=by omega
   have hl:(m.copies.take i).length=i:=by rw [List.length_take];omega
   refine aF ?_
   refine aW [31] [0,1,2,3,4,5,6,7,8,9,10,11] fun B0 H0=>?_
   refine aX 6 (aCv 900 27 (wC (m.copies.getD i aCp).cells (hb.2.1.2 i hi).2.1.1)) fun _ _=>?_
   refine aY [7,8,9,10,11] ?_
   refine bG 8 rfl (by kernel_rfl) (dV TT_ok 29 (fun _=>dA (m.copies.getD i aCp)) rfl rfl rfl rfl rfl rfl rfl (fun j hj=>by rcases j with _ | j <;>first | rfl | omega) (mu1:=[(27, .arr 0 0 fun _=>[])]) rfl rfl rfl (bD ?_))
   refine bG 9 rfl (by kernel_rfl) (dM TT_ok 31 29 30 rfl rfl rfl rfl rfl rfl rfl rfl rfl rfl rfl rfl ⟨by show ((m.copies.take i).length+1) * 32≤_;omega,by unfold maxL;omega⟩ (bD ?_))
   refine aY [10,11] ?_
   refine dR 11 rfl (by kernel_rfl) (by kernel_rfl) (aV (eJ [] fun B0 H0=>?_))
   refine aP ?_
   refine bC (bL 31 30) ?_
   exact bN (i+1) hi (by omega) wF ⟨⟨_,rfl,aS (x:=m.copies.getD i aCp) (cC hi)⟩,wM⟩
  have hi:i=m.copies.length:=by omega
  subst hi
  rw [List.take_length]
  refine aF ?_
  refine aK (ι:=Nat) (fun i=>[(36,vI i)]) (fun i=>[(32,bE 4 cK aCq (m.log.take i)),(3, .row [.v (.bool m.alive), .g 31, .g 32, .g 12])]) (fun i=>i≤m.log.length) (fun i=>m.log.length - i) 0 [32,3] [32] (Nat.zero_le _) ?_
  intro i h1
  refine aF ?_
  refine aI (fun e=>?_) (fun e=>?_)
  ·have hi:i<m.log.length:=by omega
   have hl:(m.log.take i).length=i:=by rw [List.length_take];omega
   refine aF ?_
   refine aW [32] [0,1,2,3,4,5,6,7] fun B0 H0=>?_
   refine aX 3 (aCv 901 43 (CS (m.log.getD i aCq) (hb.2.2.1.2 i hi).2.2.2.1.1)) fun _ _=>?_
   refine bG 4 rfl (by kernel_rfl) (dV TT_ok 44 (fun _=>cK (m.log.getD i aCq)) rfl rfl rfl rfl rfl rfl rfl (fun j hj=>by rcases j with _ | j <;>first | rfl | omega) (mu1:=[(43, .arr 0 0 fun _=>[])]) rfl rfl rfl (bD ?_))
   refine bG 5 rfl (by kernel_rfl) (dM TT_ok 32 44 45 rfl rfl rfl rfl rfl rfl rfl rfl rfl rfl rfl rfl ⟨by show ((m.log.take i).length+1) * 48≤_;omega,by unfold maxL;omega⟩ (bD ?_))
   refine aY [6,7] ?_
   refine dR 7 rfl (by kernel_rfl) (by kernel_rfl) (aV (eJ [] fun B0 H0=>?_))
   refine aP ?_
   refine bC (bL 32 45) ?_
   exact bN (i+1) hi (by omega) wF ⟨⟨_,rfl,aS (x:=m.log.getD i aCq) (cC hi)⟩,wM⟩
  have hi:i=m.log.length:=by omega
  subst hi
  rw [List.take_length]
  refine aF ?_
  refine bB (bL 31 901) ?_
  refine bB (bL 32 902) ?_
  refine bB (bL 12 903) ?_
  refine aC (()) [(2,some 39)] ?_ ?_ ?_
  ·exact aCu _
  ·exact wM
  ·trivial
 ·refine aW [] [0,1,2,3,4,5,6,7] fun B0 H0=>?_
  refine eU 4 6 rfl rfl (by kernel_rfl) (gG (aCv 900 12 (tT m.cleared b3)) rfl rfl (aCu _) (fun _=>rfl) rfl rfl rfl (fun _ _=>bD ?_)) (aV (bD ?_))
  ·refine aY [5,6,7] ?_
   refine bG 6 rfl (by kernel_rfl) (aV (bD ?_))
   refine bG 7 rfl (by kernel_rfl) (aV (bD ?_))
   exact oF key wF wM
  ·skip
   refine aX 4 (aCv 900 12 (tT m.cleared b3)) fun _ _=>?_
   refine aY [5,7] ?_
   refine bG 7 rfl (by kernel_rfl) (aV (bD ?_))
   exact oF key wF wM
theorem iU (c:GCluster) (hb:D.bds dJ (bO c)):yB Tryz.prog 66 [vR (bO c)] c:=by
 have b1:c.places.length≤1048576:=hb.2.2.1.1
 have b2:c.machines.length≤1048576:=hb.2.2.2.1.1
 have b3:c.txs.length≤1048576:=hb.2.2.2.2.1.1
 refine aE Tryz.func66 fun B0 r_ D_ w0=>?_
 refine aT ?_
 refine aU 1 fun r_=>?_
 refine aF ?_
 refine bB (a5 3 2 1 (fun i=>cE (([]:List GPlace).getD i aCi))) ?_
 refine bB (a5 3 3 4 (fun i=>bJ (([]:List GMachine).getD i aCj))) ?_
 refine bB (a5 3 4 7 (fun i=>cTx (([]:List GTx).getD i aCk))) ?_
 refine bB (a6 3 2 901) ?_
 refine bB (a6 3 3 902) ?_
 refine bB (a6 3 4 903) ?_
 refine aK (ι:=Nat) (fun i=>[(17,vI i)]) (fun i=>[(901,bE 1 cE aCi (c.places.take i)),(3, .row [.v (.int .i64 c.config), .v (.int .i64 c.clock), .g 901, .g 902, .g 903, .v (.bool c.lost)])]) (fun i=>i≤c.places.length) (fun i=>c.places.length - i) 0 [901,3] [901] (Nat.zero_le _) ?_
 intro i h1
 refine aF ?_
 refine aI (fun e=>?_) (fun e=>?_)
 ·have hi:i<c.places.length:=by omega
  have hl:(c.places.take i).length=i:=by rw [List.length_take];omega
  have hm:(c.places.getD i aCi).machines.length≤1048576:=(hb.2.2.1.2 i hi).1.1
  refine aF ?_
  refine aW [901] [0,1,2,3,4,5,6,7,8,9] fun B0 H0=>?_
  refine aX 4 (aCv 900 25 (tT (c.places.getD i aCi).machines hm)) fun _ _=>?_
  refine aY [5,6,7,8,9] ?_
  refine bG 6 rfl (by kernel_rfl) (dV TT_ok 27 (fun _=>cE (c.places.getD i aCi)) rfl rfl rfl rfl rfl rfl rfl (fun j hj=>by rcases j with _ | j <;>first | rfl | omega) (mu1:=[(25, .arr 0 0 fun _=>[])]) rfl rfl rfl (bD ?_))
  refine bG 7 rfl (by kernel_rfl) (dM TT_ok 901 27 28 rfl rfl rfl rfl rfl rfl rfl rfl rfl rfl rfl rfl ⟨by show ((c.places.take i).length+1) * 24≤_;omega,by unfold maxL;omega⟩ (bD ?_))
  refine aY [8,9] ?_
  refine dR 9 rfl (by kernel_rfl) (by kernel_rfl) (aV (eJ [] fun B0 H0=>?_))
  refine aP ?_
  refine bC (bL 901 28) ?_
  exact bN (i+1) hi (by omega) wF ⟨⟨_,rfl,aS (x:=c.places.getD i aCi) (cC hi)⟩,wM⟩
 have hi:i=c.places.length:=by omega
 subst hi
 rw [List.take_length]
 refine aF ?_
 refine aK (ι:=Nat) (fun i=>[(34,vI i)]) (fun i=>[(902,bE 4 bJ aCj (c.machines.take i)),(3, .row [.v (.int .i64 c.config), .v (.int .i64 c.clock), .g 901, .g 902, .g 903, .v (.bool c.lost)])]) (fun i=>i≤c.machines.length) (fun i=>c.machines.length - i) 0 [902,3] [902] (Nat.zero_le _) ?_
 intro i h1
 refine aF ?_
 refine aI (fun e=>?_) (fun e=>?_)
 ·have hi:i<c.machines.length:=by omega
  have hl:(c.machines.take i).length=i:=by rw [List.length_take];omega
  refine aF ?_
  refine aW [902] [0,1,2,3,4,5,6,7] fun B0 H0=>?_
  refine aX 3 (aCv 901 411 (aCv 902 412 (aCv 903 413 (LE (c.machines.getD i aCj) (hb.2.2.2.1.2 i hi))))) fun _ _=>?_
  refine bG 4 rfl (by kernel_rfl) (dV TT_ok 42 (fun _=>bJ (c.machines.getD i aCj)) rfl rfl rfl rfl rfl rfl rfl (fun j hj=>by rcases j with _ | j <;>first | rfl | omega) (mu1:=[(411, .arr 0 0 fun _=>[]),(412, .arr 0 0 fun _=>[]),(413, .arr 0 0 fun _=>[])]) rfl rfl rfl (bD ?_))
  refine bG 5 rfl (by kernel_rfl) (dM TT_ok 902 42 43 rfl rfl rfl rfl rfl rfl rfl rfl rfl rfl rfl rfl ⟨by show ((c.machines.take i).length+1) * 80≤_;omega,by unfold maxL;omega⟩ (bD ?_))
  refine aY [6,7] ?_
  refine dR 7 rfl (by kernel_rfl) (by kernel_rfl) (aV (eJ [] fun B0 H0=>?_))
  refine aP ?_
  refine bC (bL 902 43) ?_
  exact bN (i+1) hi (by omega) wF ⟨⟨_,rfl,aS (x:=c.machines.getD i aCj) (cC hi)⟩,wM⟩
 have hi:i=c.machines.length:=by omega
 subst hi
 rw [List.take_length]
 refine aF ?_
 refine aK (ι:=Nat) (fun i=>[(49,vI i)]) (fun i=>[(903,bE 7 cTx aCk (c.txs.take i)),(3, .row [.v (.int .i64 c.config), .v (.int .i64 c.clock), .g 901, .g 902, .g 903, .v (.bool c.lost)])]) (fun i=>i≤c.txs.length) (fun i=>c.txs.length - i) 0 [903,3] [903] (Nat.zero_le _) ?_
 intro i h1
 refine aF ?_
 refine aI (fun e=>?_) (fun e=>?_)
 ·have hi:i<c.txs.length:=by omega
  have hl:(c.txs.take i).length=i:=by rw [List.length_take];omega
  have ht:=hb.2.2.2.2.1.2 i hi
  refine aF ?_
  refine aW [903] [0,1,2,3,4,5,6,7] fun B0 H0=>?_
  refine aX 3 (aCv 901 561 (aCv 902 562 (MZ (c.txs.getD i aCk) ht.2.2.2.2.1.1 ht.2.2.2.2.2.1.1))) fun _ _=>?_
  refine bG 4 rfl (by kernel_rfl) (dV TT_ok 57 (fun _=>cTx (c.txs.getD i aCk)) rfl rfl rfl rfl rfl rfl rfl (fun j hj=>by rcases j with _ | j <;>first | rfl | omega) (mu1:=[(561, .arr 0 0 fun _=>[]),(562, .arr 0 0 fun _=>[])]) rfl rfl rfl (bD ?_))
  refine bG 5 rfl (by kernel_rfl) (dM TT_ok 903 57 58 rfl rfl rfl rfl rfl rfl rfl rfl rfl rfl rfl rfl ⟨by show ((c.txs.take i).length+1) * 88≤_;omega,by unfold maxL;omega⟩ (bD ?_))
  refine aY [6,7] ?_
  refine dR 7 rfl (by kernel_rfl) (by kernel_rfl) (aV (eJ [] fun B0 H0=>?_))
  refine aP ?_
  refine bC (bL 903 58) ?_
  exact bN (i+1) hi (by omega) wF ⟨⟨_,rfl,aS (x:=c.txs.getD i aCk) (cC hi)⟩,wM⟩
 have hi:i=c.txs.length:=by omega
 subst hi
 rw [List.take_length]
 refine aF ?_
 refine aC (()) [(2,some 28)] ?_ ?_ ?_
 ·exact aCu _
 ·exact wM
 ·trivial
end
section
def yP (i m:Nat) (g f:Nat→List D):Nat→List D:=fun j=>if j<i then f j else if j<i+m then g (j - i) else f (j - m)
theorem SS {n m:Nat} {f g:Nat→List D} (j:Nat):kY n f g j=yP n m g f j∨n+m≤j:=by
 unfold yP
 by_cases c:j<n
 ·left;rw [jA c,if_pos c]
 ·by_cases c2:j<n+m
  ·left;rw [mU (by omega),if_neg c,if_pos c2]
  ·right;omega
theorem XW {n m i c1 c2:Nat} {f f0 g:Nat→List D} (hi:i≤n) (h1:c1=m) (h2:c2=n - i) (h0:∀ j,j<i→f0 j=f j) (j:Nat) (hj:j<n+m):cpD (i+m) c2 (fun x=>f (i+x)) (cpD i c1 g f0) j=yP i m g f j:=by
 subst h1;subst h2
 unfold cpD yP
 by_cases a:j<i
 ·rw [if_neg (by omega),if_neg (by omega),if_pos a];exact h0 j a
 ·by_cases b:j<i+c1
  ·rw [if_neg (by omega),if_pos (by omega),if_neg a,if_pos b]
  ·rw [if_pos (by omega),if_neg a,if_neg b]
   show f (i+(j - (i+c1)))=f (j - c1)
   congr 1;omega
theorem X0 {n m i c1 c2:Nat} {f f0 f1 g:Nat→List D} (hi:i≤n) (h1:c1=m) (h2:c2=n - i) (h0:∀ j,j<n→f0 j=f j) (h3:∀ j,j<n - i→f1 j=f (i+j)) (j:Nat) (hj:j<n+m):cpD i c1 g (cpD (i+m) c2 f1 f0) j=yP i m g f j:=by
 subst h1;subst h2
 unfold cpD yP
 by_cases a:j<i
 ·rw [if_neg (by omega),if_neg (by omega),if_pos a];exact h0 j (by omega)
 ·by_cases b:j<i+c1
  ·rw [if_pos (by omega),if_neg a,if_pos b]
  ·rw [if_neg (by omega),if_pos (by omega),if_neg a,if_neg b,h3 _ (by omega)]
   congr 1;omega
theorem OL {n:Nat} {f:Nat→List D} {junk:Nat→List Value} (hf:∀ j,j<n→∃ l,jR (f j)=some l):∀ j,j<n→∃ l,jR (kY n f (fun x=>(junk x).map D.v) j)=some l:=fun j hj=>by rw [jA hj];exact hf j hj
theorem O3 (n m i:Nat) (f g:Nat→List D) (hn:n≤1048576) (hm:m≤1048576) (h0:0<m) (hi:i≤n) (hf:∀ j,j<n→∃ l,jR (f j)=some l) (hg:∀ j,j<m→∃ l,jR (g j)=some l) :
  Con Tryz.prog 227 [900,901] [.a (.g 900),vI i, .a (.g 901)] [(900, .arr 2 n f),(901, .arr 2 m g)] (fun _:Unit=>True) (fun _=>[.a (.g 902)]) fun _=>[(902, .arr 2 (n+m) (yP i m g f))]:=by
 refine aE Tryz.func227 fun B0 r_ D_ w0=>?_
 refine aF ?_
 refine mC rfl (fun e=>absurd e (by omega)) (fun _=>?_)
 refine aF ?_
 refine aI (fun e=>?_) (fun e=>?_)
 ·have hin:i=n:=by omega
  subst hin
  refine aF ?_
  refine oG TT_ok 900 902 rfl rfl rfl rfl rfl rfl rfl rfl rfl rfl rfl rfl ⟨by show (_+_) * 32≤140737488355328;omega,by unfold maxL;omega⟩ ?_ (hone:=hg)
  refine aN ?_
  refine aC (()) [(6,none)] ?_ ?_ ?_
  ·exact aCu _
  ·exact ⟨⟨_,rfl,Ch.imp_arr fun j hj=>(SS j).resolve_right (by omega)⟩,trivial⟩
  ·trivial
 refine aF ?_
 refine VH 29 900 rfl rfl rfl fun cp hcp=>?_
 refine aN ?_
 refine aI (fun e2=>?_) (fun e2=>?_)
 ·refine aF ?_
  refine gY (TD TT_ok 900 902 29 rfl rfl rfl rfl rfl rfl rfl rfl rfl rfl rfl rfl ⟨by omega,by omega,by omega,by omega⟩ ⟨by show (_+_) * 32≤140737488355328;omega,by unfold maxL;omega⟩ hf (iZ ?_))
  refine aN ?_
  refine gY (sW TT_ok 902 rfl rfl rfl rfl rfl rfl rfl rfl rfl rfl ⟨by omega,by omega,by omega,Nat.lt_min.2 ⟨by omega,by omega⟩⟩ (fun j hj=>hg j (Nat.lt_of_lt_of_le hj (Nat.min_le_left _ _))) (iZ ?_))
  refine aN ?_
  refine zM 9 902 rfl rfl fun cp2 _=>?_
  refine aW [902] [0,1,2,3,4,5,6,7,8] fun B0 H0=>?_
  refine bG 8 rfl (by kernel_rfl) (sW TT_ok 902 rfl rfl rfl rfl rfl rfl rfl rfl rfl rfl ⟨by omega,by omega,by omega,Nat.lt_min.2 ⟨by omega,by omega⟩⟩ ?hone (bD ?_) (hob:=?hob))
  case hob=>first | exact ⟨⟨by omega,by omega,by omega⟩,trivial⟩ | exact ⟨rfl,⟨by omega,by omega,by omega⟩,trivial⟩
  case hone=>exact fun j hj=>hf _ (by have:=Nat.lt_of_lt_of_le hj (Nat.min_le_left _ _);omega)
  refine aP ?_
  refine aC (()) [(6,none)] ?_ ?_ ?_
  ·exact SVs.cons IM rfl
  ·exact ⟨⟨_,rfl,Ch.imp_len (by omega) fun j hj=>XW hi (Nat.min_eq_left (by omega)) ((Nat.min_eq_left (by omega)).trans (by omega)) (fun j hj=>by rw [jA (by omega)]) j (by omega)⟩,trivial⟩
  ·trivial
 refine bB (aAD 0 29 900 rfl rfl rfl rfl) ?_
 refine aF ?_
 refine gY (aAA TT_ok 900 902 29 rfl rfl rfl rfl rfl rfl rfl rfl rfl rfl rfl ⟨by omega,by omega,by unfold maxL;omega⟩ fun junk hj=>iZ ?_)
 refine aN ?_
 refine gY (aAy TT_ok 902 901 (ts:=35) (tr:=4) rfl Tryz.func265 rfl rfl rfl rfl rfl rfl rfl ⟨by omega,by omega,by omega,by omega⟩ (iZ ?_))
 refine aN ?_
 refine bX rfl (fun _=>?_) (fun e=>by cases e)
 refine aF ?_
 refine zM 0 902 rfl rfl fun cp2 _=>?_
 refine aW [902] [0,1,2,3,4,5,6,7,8] fun B0 H0=>?_
 refine bG 8 rfl (by kernel_rfl) (sW TT_ok 902 rfl rfl rfl rfl rfl rfl rfl rfl rfl rfl ⟨by omega,by omega,by omega,Nat.lt_min.2 ⟨by omega,by omega⟩⟩ ?hone (bD ?_) (hob:=?hob))
 case hob=>first | exact ⟨⟨by omega,by omega,by omega⟩,trivial⟩ | exact ⟨rfl,⟨by omega,by omega,by omega⟩,trivial⟩
 case hone=>exact fun j hj=>OL hf _ (by have:=Nat.lt_of_lt_of_le hj (Nat.min_le_right _ _);omega)
 refine aP ?_
 refine gY (sW TT_ok 902 rfl rfl rfl rfl rfl rfl rfl rfl rfl rfl ⟨by omega,by omega,by omega,Nat.lt_min.2 ⟨by omega,by omega⟩⟩ (fun j hj=>hg j (Nat.lt_of_lt_of_le hj (Nat.min_le_left _ _))) (iZ ?_))
 refine aN ?_
 refine aC (()) [(6,none)] ?_ ?_ ?_
 ·exact SVs.cons IM rfl
 ·exact ⟨⟨_,rfl,Ch.imp_len (by omega) fun j hj=>X0 hi (Nat.min_eq_left (by omega)) ((Nat.min_eq_right (by omega)).trans (by omega)) (fun j hj=>by rw [jA (by omega)]) (fun j hj=>by rw [jA (by omega)];rfl) j (by omega)⟩,trivial⟩
 ·trivial
theorem NK (n m i:Nat) (f g:Nat→List D) (hn:n≤1048576) (hm:m≤1048576) (h0:0<m) (hi:i≤n) (hf:∀ j,j<n→∃ l,jR (f j)=some l) (hg:∀ j,j<m→∃ l,jR (g j)=some l) :
  Con Tryz.prog 271 [900,901] [.a (.g 900),vI i, .a (.g 901)] [(900, .arr 1 n f),(901, .arr 1 m g)] (fun _:Unit=>True) (fun _=>[.a (.g 902)]) fun _=>[(902, .arr 1 (n+m) (yP i m g f))]:=by
 refine aE Tryz.func271 fun B0 r_ D_ w0=>?_
 refine aF ?_
 refine mC rfl (fun e=>absurd e (by omega)) (fun _=>?_)
 refine aF ?_
 refine aI (fun e=>?_) (fun e=>?_)
 ·have hin:i=n:=by omega
  subst hin
  refine aF ?_
  refine oG TT_ok 900 902 rfl rfl rfl rfl rfl rfl rfl rfl rfl rfl rfl rfl ⟨by show (_+_) * 8≤140737488355328;omega,by unfold maxL;omega⟩ ?_ (hone:=hg)
  refine aN ?_
  refine aC (()) [(6,none)] ?_ ?_ ?_
  ·exact aCu _
  ·exact ⟨⟨_,rfl,Ch.imp_arr fun j hj=>(SS j).resolve_right (by omega)⟩,trivial⟩
  ·trivial
 refine aF ?_
 refine VH 29 900 rfl rfl rfl fun cp hcp=>?_
 refine aN ?_
 refine aI (fun e2=>?_) (fun e2=>?_)
 ·refine aF ?_
  refine gY (TD TT_ok 900 902 29 rfl rfl rfl rfl rfl rfl rfl rfl rfl rfl rfl rfl ⟨by omega,by omega,by omega,by omega⟩ ⟨by show (_+_) * 8≤140737488355328;omega,by unfold maxL;omega⟩ hf (iZ ?_))
  refine aN ?_
  refine gY (sW TT_ok 902 rfl rfl rfl rfl rfl rfl rfl rfl rfl rfl ⟨by omega,by omega,by omega,Nat.lt_min.2 ⟨by omega,by omega⟩⟩ (fun j hj=>hg j (Nat.lt_of_lt_of_le hj (Nat.min_le_left _ _))) (iZ ?_))
  refine aN ?_
  refine zM 9 902 rfl rfl fun cp2 _=>?_
  refine aW [902] [0,1,2,3,4,5,6,7,8] fun B0 H0=>?_
  refine bG 8 rfl (by kernel_rfl) (sW TT_ok 902 rfl rfl rfl rfl rfl rfl rfl rfl rfl rfl ⟨by omega,by omega,by omega,Nat.lt_min.2 ⟨by omega,by omega⟩⟩ ?hone (bD ?_) (hob:=?hob))
  case hob=>first | exact ⟨⟨by omega,by omega,by omega⟩,trivial⟩ | exact ⟨rfl,⟨by omega,by omega,by omega⟩,trivial⟩
  case hone=>exact fun j hj=>hf _ (by have:=Nat.lt_of_lt_of_le hj (Nat.min_le_left _ _);omega)
  refine aP ?_
  refine aC (()) [(6,none)] ?_ ?_ ?_
  ·exact SVs.cons IM rfl
  ·exact ⟨⟨_,rfl,Ch.imp_len (by omega) fun j hj=>XW hi (Nat.min_eq_left (by omega)) ((Nat.min_eq_left (by omega)).trans (by omega)) (fun j hj=>by rw [jA (by omega)]) j (by omega)⟩,trivial⟩
  ·trivial
 refine bB (aAD 0 29 900 rfl rfl rfl rfl) ?_
 refine aF ?_
 refine gY (aAA TT_ok 900 902 29 rfl rfl rfl rfl rfl rfl rfl rfl rfl rfl rfl ⟨by omega,by omega,by unfold maxL;omega⟩ fun junk hj=>iZ ?_)
 refine aN ?_
 refine gY (aAy TT_ok 902 901 (ts:=37) (tr:=4) rfl Tryz.func279 rfl rfl rfl rfl rfl rfl rfl ⟨by omega,by omega,by omega,by omega⟩ (iZ ?_))
 refine aN ?_
 refine bX rfl (fun _=>?_) (fun e=>by cases e)
 refine aF ?_
 refine zM 0 902 rfl rfl fun cp2 _=>?_
 refine aW [902] [0,1,2,3,4,5,6,7,8] fun B0 H0=>?_
 refine bG 8 rfl (by kernel_rfl) (sW TT_ok 902 rfl rfl rfl rfl rfl rfl rfl rfl rfl rfl ⟨by omega,by omega,by omega,Nat.lt_min.2 ⟨by omega,by omega⟩⟩ ?hone (bD ?_) (hob:=?hob))
 case hob=>first | exact ⟨⟨by omega,by omega,by omega⟩,trivial⟩ | exact ⟨rfl,⟨by omega,by omega,by omega⟩,trivial⟩
 case hone=>exact fun j hj=>OL hf _ (by have:=Nat.lt_of_lt_of_le hj (Nat.min_le_right _ _);omega)
 refine aP ?_
 refine gY (sW TT_ok 902 rfl rfl rfl rfl rfl rfl rfl rfl rfl rfl ⟨by omega,by omega,by omega,Nat.lt_min.2 ⟨by omega,by omega⟩⟩ (fun j hj=>hg j (Nat.lt_of_lt_of_le hj (Nat.min_le_left _ _))) (iZ ?_))
 refine aN ?_
 refine aC (()) [(6,none)] ?_ ?_ ?_
 ·exact SVs.cons IM rfl
 ·exact ⟨⟨_,rfl,Ch.imp_len (by omega) fun j hj=>X0 hi (Nat.min_eq_left (by omega)) ((Nat.min_eq_right (by omega)).trans (by omega)) (fun j hj=>by rw [jA (by omega)]) (fun j hj=>by rw [jA (by omega)];rfl) j (by omega)⟩,trivial⟩
 ·trivial
end
section
theorem aAK {α:Type} {sz:Nat} {enc:α→List D} {z x:α} {p:Nat} {xs:List α} (h:p≤xs.length):(Ch.arr sz (xs.length+1) (yP p 1 (fun _=>enc x) fun j=>enc (xs.getD j z))).imp (bE sz enc z (iB p x xs)) :=
 Ch.imp_len (by rw [kC h]) fun j hj=>by
  rw [nN h]
  unfold yP
  by_cases a:j<p
  ·rw [if_pos a,if_pos a]
  ·rw [if_neg a,if_neg a]
   by_cases b:j<p+1
   ·rw [if_pos b,if_pos b]
   ·rw [if_neg b,if_neg b]
end
section
section
variable {P:Program}
theorem aCc {n:Nat} {g:Nat→List D} {row:Nat→List Value} {q:Nat→Value} {B:BE} {Z Z':Tg→PH} {y:Value} (hr:(Z .r).le (Z' .r)) (hrow:∀ i,i<n→D.rds (Z' .r) (g i) (row i))
  (h:SV.rel P B Z (fbP (fun i:Nat=>i<n) (fun i=>[RD.ag (g i)]) q) y):SV.rel P B Z' (fbP (fun i:Nat=>i<n) (fun i=>[RD.ag ((row i).map D.v)]) q) y:=by
 obtain ⟨f,vs,e,F⟩:=h
 refine ⟨f,vs,e,F.1,fun args x hx w h vals l fh rv=>?_⟩
 obtain ⟨i,hi,rfl,rfl⟩:=hx
 refine F.2 [RD.ag (g i)] _ ⟨i,hi,rfl,rfl⟩ w h vals (PH.le_trans hr l) fh ?_
 obtain ⟨y,t,rfl,⟨us,rfl,hu⟩,rfl⟩:=rv
 have:=uQ hu
 subst this
 exact ⟨_,_,rfl,⟨_,rfl,D.rds_mono l _ (hrow i hi)⟩,rfl⟩
theorem Con.lift1 {ι:Type} {f sz n k ko:Nat} {g:Nat→List D} {ks:List Nat} {args:List SV} {args':(Nat→List Value)→List SV} {φ:ι→Prop} {res:ι→List SV} {m:ι→Nat} {σ:ι→Nat→Nat}
  (h1:∀ i,i<n→tO (g i)=true) (hσ:∀ y,φ y→∀ j,j<m y→σ y j<n) (hin:∀ y,φ y→∀ i j,i<m y→j<m y→i≠j→σ y i≠σ y j)
  (hA:∀ (B:BE) (r r':PH) (H H':Nat→PH) (vals:List Value) (row:Nat→List Value),r.le r'→(∀ i,i<n→D.rds r' (g i) (row i))→SV.rels P B (Zf r H) args vals→SV.rels P B (Zf r' H') (args' row) vals)
  (hR:∀ y (B:BE) (r r':PH) (H H':Nat→PH) (out:List Value),SV.rels P B (Zf r H) (res y) out→SV.rels P B (Zf r' H') (res y) out)
  (C:∀ row:Nat→List Value,(∀ i,i<n→(row i).length=sz)→(∀ i,i<n→∀ u ∈ row i,eQ u=true)→(∃ hh,∀ i,i<n→D.rds hh (g i) (row i))→Con P f ks (args' row) [(k, .arr sz n fun i=>(row i).map D.v)] φ res fun y=>[(ko, .arr sz (m y) fun j=>(row (σ y j)).map D.v)]) :
  Con P f ks args [(k, .arr sz n g)] φ res fun y=>[(ko, .arr sz (m y) fun j=>g (σ y j))]:=fun B r w H vals mm hemp hargs=>by
 have kk:∀ c:Ch,c.own? = true→bF k (bU [(k,c)])=true:=fun c hc=>by simp [bU,hc,bF,Nat.beq_refl]
 have kn:∀ (c:Ch) j,c.own? = true→bF j (bU [(k,c)])=true→j=k:=fun c j hc h=>by
  simp only [bU,hc,cond_true] at h
  rw [fN] at h
  rcases h with h | h
  ·exact h.symm
  ·cases h
 have s0:D.own (H k) (.sl sz n g) (B k):=mm.sat k (.arr sz n g) (by rw [bV,if_pos rfl])
 obtain ⟨A,c,row,hc,hp,G,e1,e2,va,lc,lp,dcp,ho,hG,hd⟩:=lV s0
 have drp:r.dj hp:=PH.dj_symm (PH.dj_le (mm.djr k) lp (PH.le_refl _))
 have ro:=PH.le_un_left r hp
 have rp:=PH.le_un_right drp
 have hrow:∀ i,i<n→D.rds (r.un hp) (g i) (row i):=fun i hi=>D.rds_mono (PH.le_trans (hG i) rp) _ (D.owns_rds _ (ho i hi).1)
 let H1:Nat→PH:=fun j=>if j=k then hc else PH.emp
 have hk1:H1 k=hc:=by simp [H1]
 have hne:∀ j,j≠k→H1 j=PH.emp:=fun j hj=>by simp [H1,hj]
 have mm1:Mm B (r.un hp) [(k, .arr sz n fun i=>(row i).map D.v)] w H1:=by
  refine ⟨fun j d e=>?_,fun j=>?_,fun i j hij=>?_,fun j=>?_,Fit.un mm.fitr ((mm.fit k).fit.le lp)⟩
  ·rw [bV] at e
   by_cases hj:k=j
   ·subst hj
    rw [if_pos rfl] at e;injection e with e;subst e
    rw [hk1]
    show D.own hc _ (B k)
    rw [e1]
    exact lX (hp:=PH.emp) (G:=fun _=>PH.emp) va e2 (PH.le_refl _) (PH.emp_le _) (PH.dj_emp _) (fun i _=>jL) (fun _ _=>PH.le_refl _) fun _ _ _ _ _=>PH.emp_dj _
   ·rw [if_neg hj] at e;cases e
  ·by_cases hj:j=k
   ·subst hj;rw [hk1];exact (mm.fit j).le lc
   ·rw [hne j hj];exact FitO.emp w
  ·by_cases hi:i=k
   ·rw [hne j fun e=>hij (hi.trans e.symm)];exact PH.dj_emp _
   ·rw [hne i hi];exact PH.emp_dj _
  ·by_cases hj:j=k
   ·subst hj;rw [hk1];exact PH.dj_un (PH.dj_le (mm.djr j) lc (PH.le_refl _)) dcp
   ·rw [hne j hj];exact PH.emp_dj _
 have own1:∀ b o,kM [(k, .arr sz n fun i=>(row i).map D.v)] H1 b o→hc b o≠none:=fun b o ⟨j,g1,g2⟩=>by
  have:=kn _ j rfl g1
  subst this
  rwa [hk1] at g2
 have own0:∀ b o,H k b o≠none→kM [(k, .arr sz n g)] H b o:=fun b o h=>⟨k,kk _ rfl,h⟩
 refine (C row (fun i hi=>(ho i hi).2) (fun i hi=>sL (ho i hi).1 (o9 (h1 i hi))) ⟨_,hrow⟩ B (r.un hp) w H1 vals mm1 (fun j hj=>hne j fun e=>by subst e;rw [kk _ rfl] at hj;cases hj) (hA B r _ H H1 vals row ro hrow hargs)).mono ?_
 rintro e w' ⟨y,B',H',out,hy,he,hres,mm2,hB,hkeep,hdom⟩
 have s2:D.own (H' ko) (.sl sz (m y) fun j=>(row (σ y j)).map D.v) (B' ko):=mm2.sat ko (.arr sz (m y) fun j=>(row (σ y j)).map D.v) (by rw [bV,if_pos rfl])
 obtain ⟨A2,c2,lO,hc2,hp2,G2,f1,f2,va2,lc2,lp2,dcp2,ho2,hG2,hd2⟩:=lV s2
 have heq:∀ j,j<m y→lO j=row (σ y j):=fun j hj=>zH (ho2 j hj).1
 have dk:(H' ko).dj hp:=PH.dj_le (mm2.djr ko) (PH.le_refl _) rp
 let H3:Nat→PH:=fun j=>if j=ko then (H' ko).un hp else PH.emp
 have h3:H3 ko=(H' ko).un hp:=by simp [H3]
 have h3n:∀ j,j≠ko→H3 j=PH.emp:=fun j hj=>by simp [H3,hj]
 have fitp:FitO hp w':=((mm.fit k).le lp).keep hkeep fun b o h hD=>by
  have h1:=own1 b o hD
  rcases dcp b o with h2 | h2
  ·exact h1 h2
  ·exact h h2
 refine ⟨y,B',H3,out,hy,he,hR y B' _ _ H' H3 out hres,⟨fun j d e=>?_,fun j=>?_,fun i j hij=>?_,fun j=>?_,mm2.fitr.le ro⟩,hB,hkeep.mono fun b _ o h=>own0 b o (PH.le_ne lc (own1 b o h)),fun j b o h=>?_⟩
 ·rw [bV] at e
  by_cases hj:ko=j
  ·subst hj
   rw [if_pos rfl] at e;injection e with e;subst e
   rw [h3]
   show D.own _ _ (B' ko)
   rw [f1]
   refine lX (hc:=hc2) (hp:=hp) (G:=fun j=>G (σ y j)) (row:=lO) va2 f2 (PH.le_trans lc2 (PH.le_un_left _ _)) (PH.le_un_right dk) (PH.dj_le dk lc2 (PH.le_refl _)) (fun j hj=>?_) (fun j _=>hG _) fun i j hi hj hij=>hd _ _ (hin y hy i j hi hj hij)
   rw [heq j hj];exact (ho _ (hσ y hy j hj)).1
  ·rw [if_neg hj] at e;cases e
 ·by_cases hj:j=ko
  ·subst hj;rw [h3];exact (mm2.fit j).un fitp
  ·rw [h3n j hj];exact FitO.emp w'
 ·by_cases hi:i=ko
  ·rw [h3n j fun e=>hij (hi.trans e.symm)];exact PH.dj_emp _
  ·rw [h3n i hi];exact PH.emp_dj _
 ·by_cases hj:j=ko
  ·subst hj;rw [h3];exact PH.un_dj (PH.dj_le (mm2.djr j) (PH.le_refl _) ro) (PH.dj_symm drp)
  ·rw [h3n j hj];exact PH.emp_dj _
 ·by_cases hj:j=ko
  ·subst hj
   rw [h3] at h
   rcases PH.un_ne h with h1 | h1
   ·rcases hdom j b o h1 with h2 | h2
    ·exact .inl (own0 b o (PH.le_ne lc (own1 b o h2)))
    ·exact .inr h2
   ·exact .inl (own0 b o (PH.le_ne lp h1))
  ·rw [h3n j hj] at h;exact absurd rfl h
def E2 {α:Type} (a b:Nat→α) (x:Bool×Nat):α:=bif x.1 then a x.2 else b x.2
theorem Con.lift2 {ι:Type} {f sz n1 n2 k1 k2 ko:Nat} {g1 g2:Nat→List D} {ks:List Nat} {args:List SV} {φ:ι→Prop} {res:ι→List SV} {m:ι→Nat} {ρ:ι→Nat→Bool×Nat} (hk:k1≠k2) (hw1:∀ i,i<n1→tO (g1 i)=true) (hw2:∀ i,i<n2→tO (g2 i)=true)
  (hσ:∀ y,φ y→∀ j,j<m y→(ρ y j).2<bif (ρ y j).1 then n1 else n2) (hin:∀ y,φ y→∀ i j,i<m y→j<m y→i≠j→ρ y i≠ρ y j)
  (hA:∀ (B:BE) (r r':PH) (H H':Nat→PH) (vals:List Value),r.le r'→SV.rels P B (Zf r H) args vals→SV.rels P B (Zf r' H') args vals)
  (hR:∀ y (B:BE) (r r':PH) (H H':Nat→PH) (out:List Value),SV.rels P B (Zf r H) (res y) out→SV.rels P B (Zf r' H') (res y) out)
  (C:∀ row1 lO:Nat→List Value,(∀ i,i<n1→(row1 i).length=sz)→(∀ i,i<n2→(lO i).length=sz)→(∀ i,i<n1→∀ u ∈ row1 i,eQ u=true)→(∀ i,i<n2→∀ u ∈ lO i,eQ u=true)→Con P f ks args [(k1, .arr sz n1 fun i=>(row1 i).map D.v),(k2, .arr sz n2 fun i=>(lO i).map D.v)] φ res fun y=>[(ko, .arr sz (m y) fun j=>(E2 row1 lO (ρ y j)).map D.v)]) :
  Con P f ks args [(k1, .arr sz n1 g1),(k2, .arr sz n2 g2)] φ res fun y=>[(ko, .arr sz (m y) fun j=>E2 g1 g2 (ρ y j))]:=fun B r w H vals mm hemp hargs=>by
 have kk:∀ c d:Ch,c.own? = true→d.own? = true→∀ j,bF j (bU [(k1,c),(k2,d)])=true ↔ j=k1∨j=k2:=fun c d hc hd j=>by
  simp only [bU,hc,hd,cond_true]
  rw [fN,fN]
  constructor
  ·rintro (h | h | h)
   ·exact .inl h.symm
   ·exact .inr h.symm
   ·cases h
  ·rintro (h | h)
   ·exact .inl h.symm
   ·exact .inr (.inl h.symm)
 have s1:D.own (H k1) (.sl sz n1 g1) (B k1):=mm.sat k1 (.arr sz n1 g1) (by rw [bV,if_pos rfl])
 have s2:D.own (H k2) (.sl sz n2 g2) (B k2):=mm.sat k2 (.arr sz n2 g2) (by rw [bV,if_neg hk,bV,if_pos rfl])
 obtain ⟨A1,c1,row1,hc1,hp1,G1,e1,e1b,va1,lc1,lp1,dcp1,ho1,hG1,hd1⟩:=lV s1
 obtain ⟨A2,c2,lO,hc2,hp2,G2,e2,e2b,va2,lc2,lp2,dcp2,ho2,hG2,hd2⟩:=lV s2
 have d12:(H k1).dj (H k2):=mm.dj _ _ hk
 have dpp:hp1.dj hp2:=PH.dj_le d12 lp1 lp2
 have drp1:r.dj hp1:=PH.dj_symm (PH.dj_le (mm.djr k1) lp1 (PH.le_refl _))
 have drp2:r.dj hp2:=PH.dj_symm (PH.dj_le (mm.djr k2) lp2 (PH.le_refl _))
 have drp:r.dj (hp1.un hp2):=PH.dj_un drp1 drp2
 have ro:=PH.le_un_left r (hp1.un hp2)
 have rp:=PH.le_un_right drp
 have pl1:=PH.le_un_left hp1 hp2
 have pl2:=PH.le_un_right dpp
 let H1:Nat→PH:=fun j=>if j=k1 then hc1 else if j=k2 then hc2 else PH.emp
 have hk1:H1 k1=hc1:=by simp [H1]
 have hk2:H1 k2=hc2:=by simp [H1,Ne.symm hk]
 have hne:∀ j,j≠k1→j≠k2→H1 j=PH.emp:=fun j hj hj2=>by simp [H1,hj,hj2]
 have hle:∀ j,(H1 j).le (H j):=fun j=>by
  by_cases h:j=k1
  ·subst h;rw [hk1];exact lc1
  ·by_cases h2:j=k2
   ·subst h2;rw [hk2];exact lc2
   ·rw [hne j h h2];exact PH.emp_le _
 have mm1:Mm B (r.un (hp1.un hp2)) [(k1, .arr sz n1 fun i=>(row1 i).map D.v),(k2, .arr sz n2 fun i=>(lO i).map D.v)] w H1:=by
  refine ⟨fun j d e=>?_,fun j=>(mm.fit j).le (hle j),fun i j hij=>PH.dj_le (mm.dj i j hij) (hle i) (hle j),fun j=>?_,Fit.un mm.fitr (Fit.un ((mm.fit k1).fit.le lp1) ((mm.fit k2).fit.le lp2))⟩
  ·rw [bV] at e
   by_cases hj:k1=j
   ·subst hj
    rw [if_pos rfl] at e;injection e with e;subst e
    rw [hk1]
    show D.own hc1 _ (B k1)
    rw [e1]
    exact lX (hp:=PH.emp) (G:=fun _=>PH.emp) va1 e1b (PH.le_refl _) (PH.emp_le _) (PH.dj_emp _) (fun i _=>jL) (fun _ _=>PH.le_refl _) fun _ _ _ _ _=>PH.emp_dj _
   ·rw [if_neg hj,bV] at e
    by_cases hj2:k2=j
    ·subst hj2
     rw [if_pos rfl] at e;injection e with e;subst e
     rw [hk2]
     show D.own hc2 _ (B k2)
     rw [e2]
     exact lX (hp:=PH.emp) (G:=fun _=>PH.emp) va2 e2b (PH.le_refl _) (PH.emp_le _) (PH.dj_emp _) (fun i _=>jL) (fun _ _=>PH.le_refl _) fun _ _ _ _ _=>PH.emp_dj _
    ·rw [if_neg hj2] at e;cases e
  ·refine PH.dj_un (PH.dj_le (mm.djr j) (hle j) (PH.le_refl _)) (PH.dj_un ?_ ?_)
   ·by_cases h:j=k1
    ·subst h;rw [hk1];exact dcp1
    ·exact PH.dj_le (mm.dj j k1 h) (hle j) lp1
   ·by_cases h:j=k2
    ·subst h;rw [hk2];exact dcp2
    ·exact PH.dj_le (mm.dj j k2 h) (hle j) lp2
 have own0:∀ j b o,j=k1∨j=k2→H j b o≠none→kM [(k1, .arr sz n1 g1),(k2, .arr sz n2 g2)] H b o:=fun j b o hj h=>⟨j,(kk _ _ rfl rfl j).2 hj,h⟩
 have own1:∀ b o,kM [(k1, .arr sz n1 fun i=>(row1 i).map D.v),(k2, .arr sz n2 fun i=>(lO i).map D.v)] H1 b o→∃ j,(j=k1∨j=k2)∧H1 j b o≠none:=fun b o ⟨j,h1,h2⟩=>⟨j,(kk _ _ rfl rfl j).1 h1,h2⟩
 refine (C row1 lO (fun i hi=>(ho1 i hi).2) (fun i hi=>(ho2 i hi).2) (fun i hi=>sL (ho1 i hi).1 (o9 (hw1 i hi))) (fun i hi=>sL (ho2 i hi).1 (o9 (hw2 i hi))) B _ w H1 vals mm1 (fun j hj=>hne j (fun e=>by rw [(kk _ _ rfl rfl j).2 (.inl e)] at hj;cases hj) fun e=>by rw [(kk _ _ rfl rfl j).2 (.inr e)] at hj;cases hj) (hA B r _ H H1 vals ro hargs)).mono ?_
 rintro e w' ⟨y,B',H',out,hy,he,hres,mm2,hB,hkeep,hdom⟩
 have s2:D.own (H' ko) (.sl sz (m y) fun j=>(E2 row1 lO (ρ y j)).map D.v) (B' ko):=mm2.sat ko (.arr sz (m y) fun j=>(E2 row1 lO (ρ y j)).map D.v) (by rw [bV,if_pos rfl])
 obtain ⟨A3,c3,row3,hc3,hp3,G3,f1,f2,va3,lc3,lp3,dcp3,ho3,hG3,hd3⟩:=lV s2
 have heq:∀ j,j<m y→row3 j=E2 row1 lO (ρ y j):=fun j hj=>zH (ho3 j hj).1
 have dk:(H' ko).dj (hp1.un hp2):=PH.dj_le (mm2.djr ko) (PH.le_refl _) rp
 let H3:Nat→PH:=fun j=>if j=ko then (H' ko).un (hp1.un hp2) else PH.emp
 have h3:H3 ko=(H' ko).un (hp1.un hp2):=by simp [H3]
 have h3n:∀ j,j≠ko→H3 j=PH.emp:=fun j hj=>by simp [H3,hj]
 have apart:∀ b o,(hp1.un hp2) b o≠none→¬ kM [(k1, .arr sz n1 fun i=>(row1 i).map D.v),(k2, .arr sz n2 fun i=>(lO i).map D.v)] H1 b o:=fun b o h hD=>by
  obtain ⟨j,hj,h2⟩:=own1 b o hD
  have h4:=mm1.djr j b o
  rcases h4 with h4 | h4
  ·exact h2 h4
  ·exact PH.le_ne rp h h4
 have fitp:FitO (hp1.un hp2) w':=(((mm.fit k1).le lp1).un ((mm.fit k2).le lp2)).keep hkeep apart
 have up:∀ b o,kM [(k1, .arr sz n1 fun i=>(row1 i).map D.v),(k2, .arr sz n2 fun i=>(lO i).map D.v)] H1 b o→kM [(k1, .arr sz n1 g1),(k2, .arr sz n2 g2)] H b o:=fun b o h=>by
  obtain ⟨j,hj,h2⟩:=own1 b o h
  exact own0 j b o hj (PH.le_ne (hle j) h2)
 refine ⟨y,B',H3,out,hy,he,hR y B' _ _ H' H3 out hres,⟨fun j d e=>?_,fun j=>?_,fun i j hij=>?_,fun j=>?_,mm2.fitr.le ro⟩,hB,hkeep.mono fun b _ o h=>up b o h,fun j b o h=>?_⟩
 ·rw [bV] at e
  by_cases hj:ko=j
  ·subst hj
   rw [if_pos rfl] at e;injection e with e;subst e
   rw [h3]
   show D.own _ _ (B' ko)
   rw [f1]
   refine lX (hc:=hc3) (hp:=hp1.un hp2) (G:=fun j=>E2 G1 G2 (ρ y j)) (row:=row3) va3 f2 (PH.le_trans lc3 (PH.le_un_left _ _)) (PH.le_un_right dk) (PH.dj_le dk lc3 (PH.le_refl _)) (fun j hj=>?_) (fun j _=>?_) fun i j hi hj hij=>?_
   ·rw [heq j hj]
    have h4:=hσ y hy j hj
    generalize ρ y j=x at h4
    obtain ⟨b,a⟩:=x
    cases b with
    | true=>exact (ho1 a h4).1
    | false=>exact (ho2 a h4).1
   ·generalize ρ y j=x
    obtain ⟨b,a⟩:=x
    cases b with
    | true=>exact PH.le_trans (hG1 a) pl1
    | false=>exact PH.le_trans (hG2 a) pl2
   ·have h4:=hin y hy i j hi hj hij
    generalize ρ y i=x at h4
    generalize ρ y j=z at h4
    obtain ⟨b,a⟩:=x
    obtain ⟨b2,a2⟩:=z
    cases b with
    | true =>
     cases b2 with
     | true=>exact hd1 a a2 fun e=>h4 (by rw [e])
     | false=>exact PH.dj_le dpp (hG1 a) (hG2 a2)
    | false =>
     cases b2 with
     | true=>exact PH.dj_symm (PH.dj_le dpp (hG1 a2) (hG2 a))
     | false=>exact hd2 a a2 fun e=>h4 (by rw [e])
  ·rw [if_neg hj] at e;cases e
 ·by_cases hj:j=ko
  ·subst hj;rw [h3];exact (mm2.fit j).un fitp
  ·rw [h3n j hj];exact FitO.emp w'
 ·by_cases hi:i=ko
  ·rw [h3n j fun e=>hij (hi.trans e.symm)];exact PH.dj_emp _
  ·rw [h3n i hi];exact PH.emp_dj _
 ·by_cases hj:j=ko
  ·subst hj;rw [h3];exact PH.un_dj (PH.dj_le (mm2.djr j) (PH.le_refl _) ro) (PH.dj_symm drp)
  ·rw [h3n j hj];exact PH.emp_dj _
 ·by_cases hj:j=ko
  ·subst hj
   rw [h3] at h
   rcases PH.un_ne h with h1 | h1
   ·rcases hdom j b o h1 with h2 | h2
    ·exact .inl (up b o h2)
    ·exact .inr h2
   ·rcases PH.un_ne h1 with h2 | h2
    ·exact .inl (own0 k1 b o (.inl rfl) (PH.le_ne lp1 h2))
    ·exact .inl (own0 k2 b o (.inr rfl) (PH.le_ne lp2 h2))
  ·rw [h3n j hj] at h;exact absurd rfl h
end
end
section
theorem an1 {h:Int} (k:jW h=true):anI h 1=h / 2 * 2:=by
 obtain ⟨h1,h2⟩:=kR.1 k
 obtain ⟨a,rfl⟩:=Int.eq_ofNat_of_zero_le h1
 unfold anI
 have e1:(BitVec.ofInt 64 (a:Int))=BitVec.ofNat 64 a:=by simp
 have e2:(BitVec.ofInt 64 1)=BitVec.ofNat 64 1:=by decide
 have e3:(BitVec.ofNat 64 a &&& ~~~BitVec.ofNat 64 1).toNat=a &&& 18446744073709551614:=by
  rw [BitVec.toNat_and,BitVec.toNat_not,BitVec.toNat_ofNat,BitVec.toNat_ofNat,Nat.mod_eq_of_lt (by omega)]
 have e4:a &&& 18446744073709551614=a / 2 * 2:=by
  have g1:(a &&& 18446744073709551614) / 2=a / 2:=by
   rw [Nat.and_div_two,show 18446744073709551614 / 2=2 ^ 63 - 1 by decide,Nat.and_two_pow_sub_one_eq_mod]
   omega
  have g2:¬ (a &&& 18446744073709551614) % 2=1:=fun h=>by have:=(Nat.and_mod_two_eq_one.1 h).2;omega
  omega
 rw [e1,e2,e3,e4]
 rw [IntWalk.i64_in _ (by omega)]
 omega
abbrev rowY (m:GMachine) (r:Int) (k:Nat):List V:=[.v (.int .i64 (m.copies.getD (eM m r).toNat aCp).region), .g k]
theorem E9 (m:GMachine) (hl:m.copies.length≤1048576) (r0:Int) (hh:dX m r0=true) :
  Con Tryz.prog 107 [900,901] [.a (.p 900 0),vI r0] [(900, .rrow (nX m 901 902 903)),(901,bE 2 dA aCp m.copies)] (fun _:Unit=>True) (fun _=>[.a (.g 905)])
   fun _=>[(901, .hole 2 m.copies.length (fun i=>dA (m.copies.getD i aCp)) (eM m r0) 904),(904, .row (rowY m r0 905)),(905,bE 2 cX aCo (cellsOf m r0))]:=by
 obtain ⟨i0,hi0,hb,ha⟩:=HJ hh
 have hI:eM m r0=i0:=gA (z:=aCp) hi0 hb ha
 have hC:cellsOf m r0=(m.copies.getD i0 aCp).cells:=by rw [eW hh];show (m.copies.getD (eM m r0).toNat aCp).cells=_;rw [hI];rfl
 unfold rowY
 rw [hI,hC]
 refine aE Tryz.func107 fun B0 r_ D_ w0=>?_
 refine aF ?_
 refine aK (ι:=Nat) (fun i=>[(12,vI i)]) (fun _=>[(901,bE 2 dA aCp m.copies)]) (fun i=>i≤i0) (fun i=>i0 - i) 0 [901] [] (Nat.zero_le _) ?_
 intro i h1
 have hi:i<m.copies.length:=by omega
 refine aF ?_
 refine mC rfl (fun e=>?_) (fun e=>absurd (by omega:(i:Int)<m.copies.length) e)
 refine bB (d6 901 i 904 rfl rfl rfl rfl rfl rfl ⟨by omega,by omega⟩) ?_
 refine bB (a6 904 1 905) ?_
 refine aF ?_
 refine eY (kL 14 rfl rfl rfl) ?_
 refine aN ?_
 refine aA (fun e2=>?_) (fun e2=>?_)
 ·have hii:i=i0:=by
   rcases Nat.lt_or_ge i i0 with h | h
   ·have:=(hb i h).symm.trans e2;cases this
   ·omega
  subst hii
  refine aF ?_
  refine aC (()) [(4,none)] ?_ ?_ ?_
  ·exact aCu _
  ·exact wM
  ·trivial
 ·have hlt:i<i0:=by
   rcases Nat.lt_or_ge i i0 with h | h
   ·exact h
   ·have:i=i0:=by omega
    subst this
    have:=ha.symm.trans e2;cases this
  refine aF ?_
  refine bC (a9 904 1 905) ?_
  refine bC (a8 901 904) ?_
  exact bN (i+1) hlt (by omega) wF ⟨⟨_,rfl,Ch.imp_arr fun j hj=>by
   by_cases c:j=i
   ·subst c;rw [show Nat.beq j ((j:Int)).toNat=true from Nat.beq_refl j];rfl
   ·rw [show Nat.beq j ((i:Int)).toNat=false from by cases e:Nat.beq j ((i:Int)).toNat with
     | false=>rfl
     | true=>exact absurd (Nat.eq_of_beq_eq_true e) c]
    rfl⟩,wM⟩
end
section
theorem HD:∀ {l:List Value},(∀ u ∈ l,eQ u=true)→∃ m,jR (l.map D.v)=some m
 | [],_=>⟨_,rfl⟩
 | x :: r,h=>by
  obtain ⟨m,e⟩:=HD fun u hu=>h u (List.mem_cons_of_mem _ hu)
  exact ⟨x :: m,by rw [List.map_cons];unfold jR;rw [e,h x List.mem_cons_self];rfl⟩
abbrev fbI (n:Nat) (rd:Nat→List RD) (p:Nat→Bool):SV:=fbP (fun i:Nat=>i<n) rd fun i => .bool (p i)
theorem FV (n:Nat) (hl:n≤1048576) (f:Nat→Nat→Value) (p:Nat→Bool):Ans Tryz.prog 217 [] [.a (.s .r 4 n (vM f)),fbI n (fun i=>[RD.ag (vM f i)]) p] [] (vI (cI p (List.range n))):=by
 have hR:(List.range n).length=n:=List.length_range
 refine aE Tryz.func217 fun B0 r_ D_ w0=>?_
 refine aF ?_
 refine aK (ι:=Nat) (fun i=>[(8,vI i)]) (fun _=>[]) (fun i=>i≤n∧∀ j,j<i→p ((List.range n).getD j 0)=false) (fun i=>n - i) 0 [] [] ⟨Nat.zero_le _,fun j hj=>absurd hj (Nat.not_lt_zero _)⟩ ?_
 intro i ⟨h1,h2⟩
 refine aF ?_
 refine aI (fun e=>?_) (fun e=>?_)
 ·have hi:i<n:=by omega
  refine aF ?_
  refine vE rfl rfl rfl ⟨i,hi,rfl,rfl⟩ ?_
  refine aN ?_
  refine aA (fun e2=>?_) (fun e2=>?_)
  ·refine aF ?_
   exact dK TT_ok [(4,none)] rfl rfl ((gA (z:=0) (by omega) h2 (by rw [gV hi];exact e2)).symm)
  ·refine aF ?_
   exact aL (i+1) ⟨hi,b5 h2 (by rw [gV hi];exact e2)⟩ (by omega)
 ·refine aF ?_
  exact dK TT_ok [(4,none)] rfl rfl ((gT (z:=0) fun j hj=>h2 j (by omega)).symm)
theorem EI (n:Nat) (hl:n≤1048576) (f:Nat→Nat→Value) (p:Nat→Bool):Con Tryz.prog 268 [900] [.a (.g 900),fbI n (fun i=>[RD.ag (vM f i)]) p] [(900, .arr 4 n (vM f))] (fun _:Unit=>True) (fun _=>[.a (.g 901)]) fun _=>[(901, .arr 4 ((List.range n).filter fun x => !p x).length fun j=>vM f (((List.range n).filter fun x => !p x).getD j 0))]:=by
 have hR:(List.range n).length=n:=List.length_range
 refine aE Tryz.func268 fun B0 r_ D_ w0=>?_
 refine aF ?_
 refine aH (FV n hl f p) ?_
 rcases gH p 0 (List.range n) with ⟨h1,h2⟩ | ⟨i0,h1,h2,h3,h4⟩
 ·refine aQ (fun _=>?_) (fun e=>absurd h1 e)
  refine aF ?_
  refine bB (FC 4 900 901 rfl rfl rfl rfl rfl rfl) ?_
  refine aC (()) [(4,none)] ?_ ?_ ?_
  ·exact aCu _
  ·exact ⟨⟨_,rfl,by rw [← v6 (z:=0) h2];exact Ch.imp_len hR.symm fun i hi=>by rw [gV hi]⟩,trivial⟩
  ·trivial
 have h5:i0<n:=by rwa [hR] at h1
 rw [h2]
 refine s6 rfl (fun e=>by omega) (fun _=>?_)
 refine aF ?_
 refine cY (ι:=Nat×(Nat→Nat)) (fun y=>[(6,vI y.1),(5,vI (((List.range n).take y.1).filter fun x => !p x).length)]) (fun y=>[(900, .arr 4 n fun k=>vM f (y.2 k))])
  (fun y=>i0<y.1∧y.1≤n∧(∀ k,k<(((List.range n).take y.1).filter fun x => !p x).length→y.2 k=(((List.range n).take y.1).filter fun x => !p x).getD k 0)∧∀ k,y.1≤k→k<n→y.2 k=(List.range n).getD k 0)
  (fun y=>n - y.1) (i0+1,fun k=>k) [900] [] rfl rfl ⟨Nat.lt_succ_self _,h5,?_,fun k _ hk=>(gV hk).symm⟩ ?_ wM ?_
 ·intro k hk
  rw [tD h1 h3 h4] at hk ⊢
  rw [m5 hk,gV (by rw [List.length_take] at hk;omega)]
 ·refine And.intro ⟨_,rfl,aCw ?_⟩ (And.intro ⟨_,rfl,aCw ?_⟩ trivial)
  ·simp
  ·rw [tD h1 h3 h4];simp;omega
 rintro ⟨j,h⟩ ⟨g1,g2,g3,g4⟩
 dsimp only at g1 g2 g3 g4 ⊢
 have hle:=mE (List.range n) (fun x => !p x) j
 refine aF ?_
 refine aI (fun e=>?_) (fun e=>?_)
 ·have hj:j<n:=by omega
  refine aF ?_
  refine vE rfl rfl rfl ⟨h j,by rw [g4 j (Nat.le_refl _) hj,gV hj];exact hj,rfl,rfl⟩ ?_
  refine aN ?_
  refine eF rfl (fun e2=>?_) (fun e2=>?_)
  ·have hF:=jM (z:=0) (by rw [hR];exact hj) (p:=fun x => !p x) (by rw [← g4 j (Nat.le_refl _) hj,e2];rfl)
   refine aF ?_
   refine bN (j+1,fun k=>if k=(((List.range n).take j).filter fun x => !p x).length then h j else h k) ⟨by omega,hj,fun k hk=>?_,fun k k1 k2=>?_⟩ (by show n - (j+1)<n - j;omega) ?_ ⟨⟨_,rfl,Ch.imp_arr fun k hk=>?_⟩,wM⟩
   ·dsimp only at hk ⊢
    rw [hF,List.length_append,List.length_singleton] at hk
    rw [hF]
    by_cases c:k=(((List.range n).take j).filter fun x => !p x).length
    ·rw [if_pos c,c,rS,g4 j (Nat.le_refl _) hj]
    ·rw [if_neg c,rM (by omega)];exact g3 k (by omega)
   ·dsimp only at k1 ⊢
    rw [if_neg (by omega)];exact g4 k (by omega) k2
   ·refine And.intro ⟨_,rfl,aCw ?_⟩ (And.intro ⟨_,rfl,aCw ?_⟩ wF)
    ·simp
    ·dsimp only;rw [hF];simp
   ·dsimp only
    by_cases c:k=(((List.range n).take j).filter fun x => !p x).length
    ·subst c
     simp only [Int.toNat_natCast,Nat.beq_refl,cond_true,if_true]
    ·rw [if_neg c]
     have:Nat.beq k ((((List.range n).take j).filter fun x => !p x).length:Int).toNat=false:=by
      simp only [Int.toNat_natCast]
      cases e:Nat.beq k (((List.range n).take j).filter fun x => !p x).length with
      | false=>rfl
      | true=>exact absurd (Nat.eq_of_beq_eq_true e) c
     rw [this];rfl
  ·have hF:=j4 (z:=0) (by rw [hR];exact hj) (p:=fun x => !p x) (by rw [← g4 j (Nat.le_refl _) hj,e2];rfl)
   refine aF ?_
   refine bN (j+1,h) ⟨by omega,hj,fun k hk=>?_,fun k k1 k2=>g4 k (by dsimp only at k1;omega) k2⟩ (by show n - (j+1)<n - j;omega) ?_ wM
   ·dsimp only at hk ⊢
    rw [← hF] at hk ⊢;exact g3 k hk
   ·refine And.intro ⟨_,rfl,aCw ?_⟩ (And.intro ⟨_,rfl,aCw ?_⟩ wF)
    ·simp
    ·dsimp only;rw [← hF]
 ·have hj:n=j:=by omega
  subst hj
  rw [show (List.range n).take n=List.range n from List.take_of_length_le (by simp)] at g3 hle ⊢
  refine aF ?_
  refine B7 TT_ok 38 900 rfl rfl rfl rfl rfl rfl ⟨by omega,by omega,by omega⟩ rfl rfl rfl rfl ?_
  refine aN ?_
  refine bB (FS 4 900 901 rfl rfl rfl ⟨by omega,by omega,by omega⟩ rfl rfl rfl) ?_
  refine aC (()) [(4,none)] ?_ ?_ ?_
  ·exact aCu _
  ·refine ⟨⟨_,rfl,Ch.imp_len (by omega) fun k hk=>?_⟩,trivial⟩
   dsimp only
   rw [if_neg (by omega),g3 _ (by omega)]
   congr 2;omega
  ·trivial
theorem EP (xs:List GRecord) (hl:xs.length≤1048576) (p:GRecord→Bool):Con Tryz.prog 268 [900] [.a (.g 900),fbO (fun x=>[RD.ag (cK x)]) fun x => .bool (p x)] [(900,bE 4 cK aCq xs)] (fun _:Unit=>True) (fun _=>[.a (.g 901)]) fun _=>[(901,bE 4 cK aCq (xs.filter fun x => !p x))]:=by
 have hmem:∀ j,j<((List.range xs.length).filter fun x => !p (xs.getD x aCq)).length→((List.range xs.length).filter fun x => !p (xs.getD x aCq)).getD j 0<xs.length:=fun j hj=>by
  rw [gd0 hj]
  have h1:=(List.mem_filter.1 (List.getElem_mem hj)).1
  exact List.mem_range.1 h1
 have hC:=Con.lift1 (P:=Tryz.prog) (ι:=Unit) (f:=268) (sz:=4) (n:=xs.length) (k:=900) (ko:=901) (g:=fun i=>cK (xs.getD i aCq)) (ks:=[900])
  (args:=[.a (.g 900),fbI xs.length (fun i=>[RD.ag (cK (xs.getD i aCq))]) fun i=>p (xs.getD i aCq)])
  (args':=fun row=>[.a (.g 900),fbI xs.length (fun i=>[RD.ag ((row i).map D.v)]) fun i=>p (xs.getD i aCq)]) (φ:=fun _=>True) (res:=fun _=>[.a (.g 901)])
  (m:=fun _=>((List.range xs.length).filter fun x => !p (xs.getD x aCq)).length) (σ:=fun _ j=>((List.range xs.length).filter fun x => !p (xs.getD x aCq)).getD j 0)
  (fun _ _=>rfl) (fun _ _ j hj=>hmem j hj)
  (fun _ _ i j hi hj hij e=>by
   have hn:((List.range xs.length).filter fun x => !p (xs.getD x aCq)).Nodup:=List.nodup_range.filter _
   have h1:=List.pairwise_iff_getElem.1 hn
   rw [gd0 hi,gd0 hj] at e
   rcases Nat.lt_or_gt_of_ne hij with h | h
   ·exact h1 i j hi hj h e
   ·exact h1 j i hj hi h e.symm)
  (fun B r r' H H' vals row hr hrow ⟨y,t,e1,e2,y2,t2,e3,e4,e5⟩=>⟨y,t,e1,e2,y2,t2,e3,aCc (Z:=Zf r H) (Z':=Zf r' H') hr hrow e4,e5⟩)
  (fun _ B r r' H H' out e=>e)
  (fun row hrow _ hrd=>?_)
 ·refine (hC.wkA ?_).wkM fun _ _=>⟨⟨_,rfl,?_⟩,trivial⟩
  ·refine SVs.cons (aCs _) (SVs.cons ?_ rfl)
   intro B Z y ⟨f,vs,h1,h2⟩
   exact ⟨f,vs,h1,h2.1,fun args x ⟨i,_,e1,e2⟩=>h2.2 args x ⟨xs.getD i aCq,e1,e2⟩⟩
  ·have e:=C3 (z:=aCq) (fun x => !p x) xs
   refine Ch.imp_len (by rw [e,List.length_map]) fun j hj=>?_
   rw [e]
   congr 1
   exact (gmap (f:=fun i=>xs.getD i aCq) hj).symm
 ·have hD:=EI xs.length hl (fun i j=>(row i).getD j undef) fun i=>p (xs.getD i aCq)
  have hr:∀ i,i<xs.length→vM (fun i j=>(row i).getD j undef) i=(row i).map D.v:=fun i hi=>by
   obtain ⟨hh,e⟩:=hrd
   exact (S9 (e i hi)).symm
  refine Con.wkM (Con.wkA (Con.inM hD (mu0:=[(900, .arr 4 xs.length fun i=>(row i).map D.v)]) rfl ⟨⟨_,rfl,Ch.imp_arr fun i hi=>(hr i hi).symm⟩,trivial⟩) ?_) fun _ _=>⟨⟨_,rfl,Ch.imp_arr fun j hj=>hr _ (hmem j hj)⟩,trivial⟩
  refine SVs.cons (aCs _) (SVs.cons ?_ rfl)
  intro B Z y ⟨f,vs,h1,h2⟩
  exact ⟨f,vs,h1,h2.1,fun args x ⟨i,hi,e1,e2⟩=>h2.2 args x ⟨i,hi,e1.trans (congrArg (fun l=>[RD.ag l]) (hr i hi)),e2⟩⟩
theorem OR (xs:List GCopy) (hl:xs.length≤1048575) (i:Nat) (hi:i≤xs.length) (x:GCopy):Con Tryz.prog 227 [900,901] [.a (.g 900),vI i, .a (.g 901)] [(900,bE 2 dA aCp xs),(901, .arr 2 1 fun _=>dA x)] (fun _:Unit=>True) (fun _=>[.a (.g 902)]) fun _=>[(902,bE 2 dA aCp (xs.take i ++ x :: xs.drop i))]:=by
 have hC:=Con.lift2 (P:=Tryz.prog) (ι:=Unit) (f:=227) (sz:=2) (n1:=xs.length) (n2:=1) (k1:=900) (k2:=901) (ko:=902) (g1:=fun i=>dA (xs.getD i aCp)) (g2:=fun _=>dA x) (ks:=[900,901])
  (args:=[.a (.g 900),vI i, .a (.g 901)]) (φ:=fun _=>True) (res:=fun _=>[.a (.g 902)]) (m:=fun _=>xs.length+1)
  (ρ:=fun _ j=>if j<i then (true,j) else if j<i+1 then (false,j - i) else (true,j - 1)) (by decide) (fun _ _=>rfl) (fun _ _=>rfl)
  (fun _ _ j hj=>by
   by_cases c1:j<i
   ·rw [if_pos c1];show j<xs.length;omega
   ·by_cases c2:j<i+1
    ·rw [if_neg c1,if_pos c2];show j - i<1;omega
    ·rw [if_neg c1,if_neg c2];show j - 1<xs.length;omega)
  (fun _ _ a b ha hb hab e=>by
   by_cases c1:a<i <;>by_cases c2:a<i+1 <;>by_cases c3:b<i <;>by_cases c4:b<i+1 <;>simp [c1,c2,c3,c4] at e <;>omega)
  (fun B r r' H H' vals _ e=>e) (fun _ B r r' H H' out e=>e)
  (fun row1 lO h1 h2 o1 o2=>?_)
 ·refine hC.wkM fun _ _=>⟨⟨_,rfl,Ch.imp_len (by simp;omega) fun j hj=>?_⟩,trivial⟩
  have hg:(xs.take i ++ x :: xs.drop i).getD j aCp=if j<i then xs.getD j aCp else if j<i+1 then x else xs.getD (j - 1) aCp:=nN (p:=i) (x:=x) (z:=aCp) hi j
  rw [hg]
  by_cases c1:j<i
  ·rw [if_pos c1,if_pos c1];rfl
  ·by_cases c2:j<i+1
   ·rw [if_neg c1,if_pos c2,if_neg c1,if_pos c2];rfl
   ·rw [if_neg c1,if_neg c2,if_neg c1,if_neg c2];rfl
 ·have hD:=O3 xs.length 1 i (fun j=>(row1 j).map D.v) (fun j=>(lO j).map D.v) (by omega) (by decide) (by decide) hi (fun j hj=>HD (o1 j hj)) (fun j hj=>HD (o2 j hj))
  refine hD.wkM fun _ _=>⟨⟨_,rfl,Ch.imp_arr fun j hj=>?_⟩,trivial⟩
  unfold yP
  by_cases c1:j<i
  ·rw [if_pos c1,if_pos c1];rfl
  ·by_cases c2:j<i+1
   ·rw [if_neg c1,if_pos c2,if_neg c1,if_pos c2];rfl
   ·rw [if_neg c1,if_neg c2,if_neg c1,if_neg c2];rfl
end
section
theorem C8 (xs:List GCell) (sets:List GSet) (hl:sets.length≤1048576) (hx:dF xs=true) (hs:∀ s ∈ sets,eO s=true) :
  Con Tryz.prog 236 [900] [.a (.g 900),vL 5 cP aCm sets] [(900,bE 2 cX aCo xs)] (fun _:Unit=>True) (fun _=>[]) fun _=>[(900,bE 2 cX aCo (lM xs sets))]:=by
 refine aE Tryz.func236 fun B0 r_ D_ w0=>?_
 refine aF ?_
 refine aK (ι:=Nat) (fun i=>[(9,vI i)]) (fun i=>[(900,bE 2 cX aCo ((sets.take i).foldl nR xs))]) (fun i=>i≤sets.length) (fun i=>sets.length - i) 0 [900] [] (Nat.zero_le _) ?_
 intro i h1
 refine aF ?_
 refine aI (fun e=>?_) (fun e=>?_)
 ·have hi:i<sets.length:=by omega
  have hsb:=hs _ (cJ (z:=aCm) hi)
  have hy:dF ((sets.take i).foldl nR xs)=true:=sG (fun _ _=>GR) (fun s h=>hs s (List.mem_of_mem_take h)) hx
  obtain ⟨c1,c2,c3,c4,c5,c6,c7,c8⟩:=u7 hy hsb
  have hF:=qR (z:=aCm) nR xs hi
  generalize hys:(sets.take i).foldl nR xs=ys at hy c1 c4 c5 c6 c7 c8 hF ⊢
  have hin:InR ((dN ys (sets.getD i aCm)).head.tdiv 4):=FQ c5 c6 (by decide)
  unfold dN at c7 c8 hin
  refine aF ?_
  refine aW [] [0,1,2,3,4,5,6,7,8,9] fun B0 H0=>?_
  refine aP ?_
  refine aI (fun e2=>?_) (fun e2=>?_)
  ·refine aF ?_
   exact bN (i+1) hi (by omega) wF ⟨⟨_,rfl,bP (by rw [hF];unfold nR;rw [if_pos (show (dN ys (sets.getD i aCm)).head.tdiv 4 > (sets.getD i aCm).version from e2)])⟩,wM⟩
  ·have hN:nR ys (sets.getD i aCm)=ys.set (sets.getD i aCm).slot.toNat (zQ (sets.getD i aCm)):=by unfold nR;rw [if_neg (show ¬ (dN ys (sets.getD i aCm)).head.tdiv 4 > (sets.getD i aCm).version from e2)]
   refine aF ?_
   refine l4 TT_ok (aBX ((sets.getD i aCm).version+1) ⟨by omega,by omega⟩ _) rfl rfl rfl rfl rfl ?_
   refine aA (fun e3=>?_) (fun e3=>?_)
   ·refine aF ?_
    exact bN (i+1) hi (by omega) wF ⟨⟨_,rfl,by rw [hF,hN];unfold zQ;simp only [Int.toNat_natCast] at e3 ⊢;rw [e3];exact cG (OwnI.refl _)⟩,wM⟩
   ·refine aF ?_
    exact bN (i+1) hi (by omega) wF ⟨⟨_,rfl,by rw [hF,hN];unfold zQ;simp only [Int.toNat_natCast] at e3 ⊢;rw [e3];exact cG (OwnI.refl _)⟩,wM⟩
 ·have hi:i=sets.length:=by omega
  subst hi
  rw [List.take_length]
  refine wV rfl ?_
  refine l5 TT_ok () [] rfl rfl ?_ ?_ ?_
  ·exact aCu _
  ·exact wM
  ·trivial
theorem NX (xs:List GCell) (sets:List GSet) (hl:sets.length≤1048576) (hx:dF xs=true) (hs:∀ s ∈ sets,eO s=true) :
  Con Tryz.prog 237 [900] [.a (.g 900),vL 5 cP aCm sets] [(900,bE 2 cX aCo xs)] (fun _:Unit=>True) (fun _=>[]) fun _=>[(900,bE 2 cX aCo (pP xs sets))]:=by
 refine aE Tryz.func237 fun B0 r_ D_ w0=>?_
 refine aF ?_
 refine aK (ι:=Nat) (fun i=>[(8,vI i)]) (fun i=>[(900,bE 2 cX aCo ((sets.take i).foldl nE xs))]) (fun i=>i≤sets.length) (fun i=>sets.length - i) 0 [900] [] (Nat.zero_le _) ?_
 intro i h1
 refine aF ?_
 refine aI (fun e=>?_) (fun e=>?_)
 ·have hi:i<sets.length:=by omega
  have hsb:=hs _ (cJ (z:=aCm) hi)
  have hy:dF ((sets.take i).foldl nE xs)=true:=sG (fun _ _=>GX) (fun s h=>hs s (List.mem_of_mem_take h)) hx
  obtain ⟨c1,c2,c3,c4,c5,c6,c7,c8⟩:=u7 hy hsb
  have hF:=qR (z:=aCm) nE xs hi
  generalize hys:(sets.take i).foldl nE xs=ys at hy c1 c4 c5 c6 c7 c8 hF ⊢
  have hin:InR ((dN ys (sets.getD i aCm)).head.tdiv 4):=FQ c5 c6 (by decide)
  have hA:=an1 c4
  have hD:=vC (b:=2) c5
  unfold dN at c7 c8 hin hA hD
  refine aF ?_
  refine aW [] [0,1,2,3,4,5,6,7,8,9] fun B0 H0=>?_
  refine aP ?_
  refine aQ (fun e2=>?_) (fun e2=>?_)
  ·have hN:nE ys (sets.getD i aCm)=ys.set (sets.getD i aCm).slot.toNat ⟨(dN ys (sets.getD i aCm)).head.tdiv 2 * 2,(dN ys (sets.getD i aCm)).value⟩:=by unfold nE;rw [if_pos (show (dN ys (sets.getD i aCm)).head.tdiv 4=(sets.getD i aCm).version from e2)]
   refine aF ?_
   exact bN (i+1) hi (by omega) wF ⟨⟨_,rfl,by rw [hF,hN];unfold dN;rw [hD, ← hA];simp only [Int.toNat_natCast];exact cG (OwnI.refl _)⟩,wM⟩
  ·refine aF ?_
   exact bN (i+1) hi (by omega) wF ⟨⟨_,rfl,bP (by rw [hF];unfold nE;rw [if_neg (show ¬ (dN ys (sets.getD i aCm)).head.tdiv 4=(sets.getD i aCm).version from e2)])⟩,wM⟩
 ·have hi:i=sets.length:=by omega
  subst hi
  rw [List.take_length]
  refine wV rfl ?_
  refine l5 TT_ok () [] rfl rfl ?_ ?_ ?_
  ·exact aCu _
  ·exact wM
  ·trivial
end
section
theorem PZ (a:Int):Ans Tryz.prog 278 [] [vI a] [] (vB false):=by
 refine aE Tryz.func278 fun B0 r_ D_ w0=>?_
 refine aF ?_
 exact b9 TT_ok [(2,none)] rfl rfl (by simp)
theorem aB3 (a b:Int):Ans Tryz.prog 277 [] [vI a,vI b] [] (vB (decide (a<b))):=by
 refine aE Tryz.func277 fun B0 r_ D_ w0=>?_
 refine aF ?_
 refine aH (EW _) ?_
 refine aH (EW _) ?_
 exact aG [(4,none)] (rfl)
theorem WK {xs:List Int} (hs:xs.Pairwise (· < ·)) {n:Int} {i:Nat} (h:jJ (nV n) 0 xs i):(bif decide ((i:Int)<xs.length) then (bif xs.getD i 0 == n then true else false) else false)=decide (n ∈ xs):=by
 obtain ⟨h1,h2,h3⟩:=h
 by_cases c:n ∈ xs
 ·rw [decide_eq_true c]
  obtain ⟨a,ha,e⟩:=gW.1 c
  have hia:i≤a:=by
   rcases Nat.lt_or_ge a i with h | h
   ·have:=h2 a h;unfold nV at this;omega
   ·exact h
  have hi:i<xs.length:=by omega
  have:xs.getD i 0=n:=by
   by_cases c2:i=a
   ·subst c2;exact e
   ·have h4:=iR (z:=0) hs (a:=i) (b:=a) (by omega) ha
    have h5:=h3 i (Nat.le_refl _) hi
    unfold nV at h5
    omega
  rw [decide_eq_true (by omega),this]
  simp
 ·rw [decide_eq_false c]
  by_cases hi:(i:Int)<xs.length
  ·rw [decide_eq_true hi]
   have:xs.getD i 0≠n:=fun e=>c (e ▸ yI (by omega))
   rw [beq_eq_false_iff_ne.2 this];rfl
  ·rw [decide_eq_false hi];rfl
theorem R1 (xs:List Int) (hl:xs.length≤1048576) (n:Int) (hs:xs.Pairwise (· < ·)):Con Tryz.prog 270 [] [vL 1 bS 0 xs,vI n] [] (fun _:Unit=>True)
  (fun _=>[vI (o5 (nV n) 0 xs:Nat),vB (decide (n ∈ xs))]) fun _=>[]:=by
 have hm:=wD hs n
 refine aE Tryz.func270 fun B0 r_ D_ w0=>?_
 refine aF ?_
 refine cY (ι:=Nat×Nat) (fun y=>[(7,vI y.1),(8,vI y.2)]) (fun _=>[]) (fun y=>y.1≤y.2∧y.2≤xs.length∧(∀ a,a<y.1→nV n (xs.getD a 0)<0)∧∀ a,y.2≤a→a<xs.length→¬ nV n (xs.getD a 0)<0) (fun y=>y.2 - y.1) (0,xs.length) [] [] rfl rfl ⟨Nat.zero_le _,Nat.le_refl _,fun a h=>absurd h (Nat.not_lt_zero _),fun a h1 h2=>by omega⟩ wF wM ?_
 rintro ⟨i,j⟩ ⟨h1,h2,h3,h4⟩
 dsimp only at h1 h2 h3 h4 ⊢
 refine aF ?_
 refine aI (fun e=>?_) (fun e=>?_)
 ·have hij:i<j:=by omega
  have hh:(((i:Int)+j) / 2).toNat=(i+j) / 2:=by omega
  refine aF ?_
  refine aH (aB3 _ _) ?_
  refine aI (fun e2=>?_) (fun e2=>?_)
  ·rw [hh] at e2
   refine aF ?_
   refine bN ((i+j) / 2+1,j) ⟨by dsimp only;omega,h2,fun a ha=>?_,h4⟩ (by show j - ((i+j) / 2+1)<j - i;omega) ⟨⟨_,rfl,aCw (fL (by dsimp only;omega))⟩,⟨_,rfl,aCs _⟩,wF⟩ wM
   exact hm a ((i+j) / 2) (by dsimp only at ha;omega) (by omega) (by unfold nV;omega)
  ·rw [hh] at e2
   refine aF ?_
   refine bN (i,(i+j) / 2) ⟨by dsimp only;omega,by dsimp only;omega,h3,fun a a1 a2 hc=>?_⟩ (by show (i+j) / 2 - i<j - i;omega) ⟨⟨_,rfl,aCs _⟩,⟨_,rfl,aCw (fL (by dsimp only;omega))⟩,wF⟩ wM
   have:=hm ((i+j) / 2) a (by dsimp only at a1;omega) a2 hc
   unfold nV at this
   omega
 ·have hij:i=j:=by omega
  subst hij
  have hcut:jJ (nV n) 0 xs i:=⟨h2,h3,h4⟩
  have hf:=WK hs hcut
  refine aF ?_
  refine aH (PZ _) ?_
  refine aH (PZ _) ?_
  rw [← sR hcut] at hf ⊢
  refine aC (()) [(4,none),(5,none)] ?_ ?_ ?_
  ·exact SVs.cons (aCs _) (SVs.cons (aCw (congrArg (fun b=>SV.a (.v (.bool b))) hf)) rfl)
  ·trivial
  ·trivial
end
section
theorem aAI {xs:List Int} (hs:xs.Pairwise (· < ·)) (n:Int):o5 (nV n) 0 xs≤xs.length:=(sA (wD hs n)).1
theorem PO (m:GMachine) (hl:m.log.length≤1048576) (tx r0 kind:Int):Con Tryz.prog 153 [900,902] [.a (.p 900 0),vI tx,vI r0,vI kind] [(900, .rrow (nX m 901 902 903)),(902, .ro 4 m.log.length fun i=>cK (m.log.getD i aCq))] (fun _:Unit=>True) (fun _=>[vI (oD m tx r0 kind)]) fun _=>[]:=by
 refine aE Tryz.func153 fun B0 r_ D_ w0=>?_
 refine aF ?_
 refine lZ TT_ok (rF m.log hl (fun _=>True) (fun _ _=>trivial) (pW tx r0 kind)) rfl rfl (SVs.cons (aCs _) (SVs.cons (iO (aB) rfl fun args x ⟨n,_,e1,e2⟩=>by subst e1;subst e2;exact L4 n _ _ _) rfl)) rfl rfl ?_
 refine aC (()) [(8,none)] ?_ ?_ ?_
 ·exact aCu _
 ·trivial
 ·trivial
theorem YV (x:GRecord) (tx r0:Int):Ans Tryz.prog 269 [] [vR (cK x),vP [dI tx],vP [dI r0]] [] (vB (bif x.tx == tx then x.region == r0 else false)):=by
 refine aE Tryz.func269 fun B0 r_ D_ w0=>?_
 refine aF ?_
 exact aG [(4,none)] (rfl)
theorem LA (m:GMachine) (hm:m.log.length≤1048576) (hc:m.cleared.length≤1000) (hs:m.cleared.Pairwise (· < ·)) (tx r:Int) (d:Bool) :
  Con Tryz.prog 238 [900,901,902,903] [.a (.p 900 0),vI tx,vI r,vB d] [(900, .row (nX m 901 902 903)),(902,bE 4 cK aCq m.log),(903,bE 1 bS 0 m.cleared)] (fun _:Unit=>True) (fun _=>[])
   fun _=>[(900, .row (nX m 901 904 905)),(904,bE 4 cK aCq (iP m tx r d).log),(905,bE 1 bS 0 (iP m tx r d).cleared)]:=by
 have hp:=aAI hs tx
 refine aE Tryz.func238 fun B0 r_ D_ w0=>?_
 refine aF ?_
 refine cO TT_ok (aCv 901 904 (aCv 900 902 (EP m.log hm fun x=>bif x.tx == tx then x.region == r else false))) rfl rfl (SVs.cons (aCs _) (SVs.cons (iO (aB) rfl fun args x ⟨s,h1,h2⟩=>by subst h1;subst h2;exact YV s tx r) rfl)) (fun _=>rfl) rfl rfl rfl fun _ _=>?_
 refine aN ?_
 refine aW [] [0,1,2,3,4,5,6,7,8,9,10] fun B0 H0=>?_
 refine iH 5 (R1 m.cleared (by omega) tx hs) rfl rfl rfl (aCu _) (fun _=>rfl) rfl rfl rfl fun _ _=>?_
 refine aY [6,7,8,9,10] ?_
 refine aP ?_
 refine aA (fun e=>?_) (fun e=>?_)
 ·cases d with
  | false=>cases e
  | true =>
   have hn:tx ∉ m.cleared:=by
    intro h
    rw [decide_eq_true h] at e;cases e
   refine aF ?_
   refine aW [903] [0,1,2,3,4,5,6,7,8,9,10,11] fun B0 H0=>?_
   refine bG 7 rfl (by kernel_rfl) (dV TT_ok 30 (fun _=>bS tx) rfl rfl rfl rfl rfl rfl rfl (fun j hj=>by rcases j with _ | j <;>first | rfl | omega) (mu1:=[]) rfl rfl rfl (bD ?_))
   refine iH 8 (aCv 902 905 (aCv 900 903 (aCv 901 30 (NK m.cleared.length 1 (o5 (nV tx) 0 m.cleared) (fun j=>bS (m.cleared.getD j 0)) (fun _=>bS tx) (by omega) (by omega) (by omega) hp (fun _ _=>⟨_,rfl⟩) (fun _ _=>⟨_,rfl⟩))))) rfl rfl rfl (aCu _) (fun _=>rfl) rfl rfl rfl fun _ _=>?_
   refine aY [9,10,11] ?_
   refine dR 11 rfl (by kernel_rfl) (by kernel_rfl) (aV (eJ [] fun B0 H0=>?_))
   refine tX (by kernel_rfl) ?_
   refine l5 TT_ok () [] rfl rfl ?_ ?_ ?_
   ·exact aCu _
   ·exact ⟨⟨_,rfl,aCt _⟩,⟨_,rfl,aCt _⟩,⟨_,rfl,Ch.imp_trans (aAK hp) (bP (by show _=pN m.cleared tx;unfold pN;rw [if_neg hn]))⟩,trivial⟩
   ·trivial
 ·have hk:(iP m tx r d).cleared=m.cleared:=by
   cases d with
   | false=>rfl
   | true =>
    show pN m.cleared tx=_
    unfold pN
    by_cases h:tx ∈ m.cleared
    ·rw [if_pos h]
    ·rw [decide_eq_false h] at e;cases e
  refine bB (a9 900 3 903) ?_
  refine bB (a6 900 3 905) ?_
  refine DK ?_
  refine l5 TT_ok () [] rfl rfl ?_ ?_ ?_
  ·exact aCu _
  ·exact ⟨⟨_,rfl,aCt _⟩,⟨_,rfl,aCt _⟩,⟨_,rfl,bP hk.symm⟩,trivial⟩
  ·trivial
end
section
abbrev cAt (x:GCopyAt):List D:=[dI x.region,dI x.machine,dB x.backup]
theorem uP (t:GTx) (hl:t.sets.length≤1048576):MkL Tryz.prog 155 [vP (cTx t)] 1 bS 0 (bI t):=SW t hl
theorem yK (c:GCluster) (hok:ClusOk c) (t:GTx) (ht:TxIn c t) (n:Int) (b:Bool) :
  Con Tryz.prog 235 [900,901] [.a (.p 900 0),vP (cTx t),vB b] [(900, .rrow (fW (clk c n) 901 902 903)),(901,roC 1 cE aCi c.places)] (fun _:Unit=>True) (fun _=>[.a (.g 910)]) fun _=>[(910,bE 3 cAt GCopyAt.z (cW c t b))]:=by
 have hw:=sB ht.ok
 have hs:=ht.ok.1.2.2.2.2.2.2
 refine aE Tryz.func235 fun B0 r_ D_ w0=>?_
 refine aF ?_
 refine cO TT_ok (aCv 900 13 (uP t (by omega))) rfl rfl (aCu _) (fun _=>rfl) rfl rfl rfl fun _ _=>?_
 refine aN ?_
 refine bB (oX 7 40 3 (fun i=>cAt (([]:List GCopyAt).getD i GCopyAt.z)) rfl rfl rfl rfl) ?_
 refine aK (ι:=Nat) (fun k=>[(15,vI k),(7, .a (.g 40))]) (fun k=>[(40,bE 3 cAt GCopyAt.z (mS c (bI t) b k))]) (fun k=>k≤(bI t).length) (fun k=>(bI t).length - k) 0 [40] [40] (Nat.zero_le _) ?_
 intro k h1
 refine aF ?_
 refine aI (fun e=>?_) (fun e=>?_)
 ·have hk:k<(bI t).length:=by omega
  have hr:=iN ht hk
  have hp:=nT hok hr
  have hc:=AV hok (fun k hk=>iN ht hk) (b:=b) (k:=k) (by omega)
  refine aF ?_
  refine cY (ι:=Nat) (fun i=>[(28,vI i),(7, .a (.g 40))]) (fun i=>[(40,bE 3 cAt GCopyAt.z (mS c (bI t) b k ++ kW b ((bI t).getD k 0) (cR c ((bI t).getD k 0)) i))]) (fun i=>i≤(cR c ((bI t).getD k 0)).length) (fun i=>(cR c ((bI t).getD k 0)).length - i) 0 [40] [40] rfl rfl (Nat.zero_le _) wF ⟨⟨_,rfl,bP (by simp [kW])⟩,wM⟩ ?_
  intro i h2
  have hrl:=K0 (b:=b) (r:=(bI t).getD k 0) (ms:=cR c ((bI t).getD k 0)) (i:=i)
  refine aF ?_
  refine aI (fun e2=>?_) (fun e2=>?_)
  ·simp only [Int.toNat_natCast] at e2
   have e2:(i:Int)<(cR c ((bI t).getD k 0)).length:=e2
   have hi:i<(cR c ((bI t).getD k 0)).length:=by omega
   refine aF ?_
   refine aA (b:=bif decide ((i:Int) > 0) then true else !b) (fun e3=>?_) (fun e3=>?_)
   ·refine aF ?_
    refine cV TT_ok 45 (fun _=>cAt ⟨(bI t).getD k 0,(cR c ((bI t).getD k 0)).getD i 0,decide ((i:Int) > 0)⟩) rfl rfl rfl rfl rfl rfl rfl (fun i hi=>by rcases i with _ | i <;>first | rfl | omega) (mu1:=[]) rfl rfl rfl ?_
    refine aN ?_
    refine cU TT_ok 40 45 46 rfl rfl rfl rfl rfl rfl rfl rfl rfl rfl rfl rfl ⟨by show ((mS c (bI t) b k ++ kW b ((bI t).getD k 0) (cR c ((bI t).getD k 0)) i).length+1) * 24≤_;rw [List.length_append];omega,by rw [List.length_append];unfold maxL;omega⟩ ?_
    refine aN ?_
    refine bC (bL 40 46) ?_
    exact bN (i+1) hi (by omega) wF ⟨⟨_,rfl,fJ (x:=(⟨(bI t).getD k 0,(cR c ((bI t).getD k 0)).getD i 0,decide ((i:Int) > 0)⟩:GCopyAt)) (by rw [kW,e3,cond_true,List.append_assoc]) rfl⟩,wM⟩
   ·refine aF ?_
    exact bN (i+1) hi (by omega) wF ⟨⟨_,rfl,bP (by rw [kW,e3];rfl)⟩,wM⟩
  ·simp only [Int.toNat_natCast] at e2
   have e2:¬ (i:Int)<(cR c ((bI t).getD k 0)).length:=e2
   have hi:i=(cR c ((bI t).getD k 0)).length:=by omega
   subst hi
   refine aF ?_
   exact bN (k+1) hk (by omega) wF ⟨⟨_,rfl,bP (by rw [mS])⟩,wM⟩
 ·have hk:k=(bI t).length:=by omega
  subst hk
  refine aF ?_
  refine bB (bL 40 910) ?_
  refine aC (()) [(6,none)] ?_ ?_ ?_
  ·exact aCu _
  ·exact wM
  ·trivial
end
section
theorem JL {c d:GCluster} (h:Like c.machines d.machines) (j:Nat):(d.machines.getD j aCj).alive=(c.machines.getD j aCj).alive:=by
 by_cases hj:j<d.machines.length
 ·exact (h.ok j hj).2.1
 ·have h2:¬ j<c.machines.length:=by rw [← h.len];exact hj
  simp only [List.getD_eq_getElem?_getD,List.getElem?_eq_none (show d.machines.length≤j by omega),List.getElem?_eq_none (show c.machines.length≤j by omega)]
theorem XF {c d:GCluster} (h:Like c.machines d.machines) (hp:d.places=c.places) (r:Nat):gZ d r=gZ c r:=by
 unfold gZ bH mAt
 rw [hp]
 exact UX fun k hk=>by rw [JL h]
theorem aAg {c d:GCluster} (h:Like c.machines d.machines) (hp:d.places=c.places) (t:GTx):kA d t=kA c t:=by
 have h1:pK d t=pK c t:=JL h _
 unfold kA
 rw [h1]
 simp only [XF h hp]
end
section
theorem WU (v:Int):Ans Tryz.prog 150 [] [vI v] [] (vB (decide (v<2))):=by
 refine aE Tryz.func150 fun B0 r_ D_ w0=>?_
 refine aF ?_
 exact aG [(2,none)] (rfl)
theorem CZ (vs:List Int) (hl:vs.length≤1048576):Ans Tryz.prog 82 [] [vL 1 bS 0 vs] [] (vB (mT vs)):=by
 refine aE Tryz.func82 fun B0 r_ D_ w0=>?_
 refine aF ?_
 refine aH (j8 vs hl 4) ?_
 refine aH (j8 vs hl 3) ?_
 refine lZ TT_ok (pJ vs hl (fun _=>True) (fun _ _=>trivial) fun v=>decide (v<2)) rfl rfl (SVs.cons (aCs _) (SVs.cons (iO (aB) rfl fun args x ⟨n,_,e1,e2⟩=>by subst e1;subst e2;exact WU n) rfl)) rfl rfl ?_
 exact aG [(2,none)] ((CK vs).symm)
theorem SU (c:GCluster) (hl:c.machines.length≤1048576):MkL Tryz.prog 170 [vP (bO c)] 1 qT false (fQ c):=by
 have hln:=qI c
 refine aE Tryz.func170 fun B0 r_ D_ w0=>?_
 refine aF ?_
 refine bB (oX 3 40 1 (fun i=>qT (([]:List Bool).getD i false)) rfl rfl rfl rfl) ?_
 refine aK (ι:=Nat) (fun k=>[(11,vI k),(3, .a (.g 40))]) (fun k=>[(40,bE 1 qT false ((fQ c).take k))]) (fun k=>k≤c.machines.length) (fun k=>c.machines.length - k) 0 [40] [40] (Nat.zero_le _) ?_
 intro k h1
 have hlt:((fQ c).take k).length=k:=by rw [List.length_take];omega
 refine aF ?_
 refine aI (fun e=>?_) (fun e=>?_)
 ·have hk:k<c.machines.length:=by omega
  refine aF ?_
  refine cV TT_ok 18 (fun _=>qT (c.machines.getD k aCj).alive) rfl rfl rfl rfl rfl rfl rfl (fun i hi=>by rcases i with _ | i <;>first | rfl | omega) (mu1:=[]) rfl rfl rfl ?_
  refine aN ?_
  refine cU TT_ok 40 18 19 rfl rfl rfl rfl rfl rfl rfl rfl rfl rfl rfl rfl ⟨by show (((fQ c).take k).length+1) * 1≤_;omega,by unfold maxL;omega⟩ ?_
  refine aN ?_
  refine bC (bL 40 19) ?_
  exact bN (k+1) hk (by omega) wF ⟨⟨_,rfl,fJ (x:=(c.machines.getD k aCj).alive) (by rw [cC (z:=false) (by omega),zN c hk]) rfl⟩,wM⟩
 ·have hk:k=c.machines.length:=by omega
  subst hk
  rw [List.take_of_length_le (by omega)]
  refine aF ?_
  refine bB (bL 40 900) ?_
  refine aC (()) [(2,none)] ?_ ?_ ?_
  ·exact aCu _
  ·exact wM
  ·trivial
theorem JF (xs:List Bool):Ans Tryz.prog 234 [] [vL 1 qT false xs] [] (vI xs.length):=by
 refine aE Tryz.func234 fun B0 r_ D_ w0=>?_
 refine aF ?_
 exact aJ [(2,none)] (rfl)
theorem aBm (al:List Bool) (m:Int) (hm:0≤m):Ans Tryz.prog 233 [] [vI m,vP [dL 1 qT false al]] [] (vB (nD al m)):=by
 refine aE Tryz.func233 fun B0 r_ D_ w0=>?_
 refine aF ?_
 refine aH (JF al) ?_
 exact aG [(3,none)] (rfl)
set_option maxHeartbeats 1000000 in
theorem SZ (ps:List GPlace) (hp:PlOk ps) (al:List Bool) (hal:al.length≤8) :
  Con Tryz.prog 169 [] [vL 1 cE aCi ps,vL 1 qT false al] [] (fun _:Unit=>True) (fun _=>[.a (.g 910), .a (.g 911)]) fun _=>[(910,bE 1 cE aCi (ps.map (n4 al))),(911,bE 1 bS 0 (g8 al ps ps.length))]:=by
 have hpl:=hp.1
 refine aE Tryz.func169 fun B0 r_ D_ w0=>?_
 refine aT ?_
 refine aU 3 fun r_=>?_
 refine aF ?_
 refine bB (oX 6 40 1 (fun i=>cE (([]:List GPlace).getD i aCi)) rfl rfl rfl rfl) ?_
 refine bB (oX 7 41 1 (fun i=>bS (([]:List Int).getD i 0)) rfl rfl rfl rfl) ?_
 refine aK (ι:=Nat) (fun r=>[(18,vI r),(6, .a (.g 40)),(7, .a (.g 41))]) (fun r=>[(40,bE 1 cE aCi ((ps.take r).map (n4 al))),(41,bE 1 bS 0 (g8 al ps r))]) (fun r=>r≤ps.length∧(g8 al ps r).length≤r) (fun r=>ps.length - r) 0 [40,41] [40,41] ⟨Nat.zero_le _,Nat.le_refl _⟩ ?_
 intro r ⟨h1,hlo⟩
 have hl1:((ps.take r).map (n4 al)).length=r:=by rw [List.length_map,List.length_take];omega
 refine aF ?_
 refine aI (fun e=>?_) (fun e=>?_)
 ·have hr:r<ps.length:=by omega
  have hpr:=(hp.2 r hr).1
  refine aF ?_
  refine bB (a5 11 0 1 (fun i=>bS (([]:List Int).getD i 0))) ?_
  refine bB (a6 11 0 50) ?_
  refine aK (ι:=Nat) (fun j=>[(26,vI j)]) (fun j=>[(11, .row [.g 50]),(50,bE 1 bS 0 (((ps.getD r aCi).machines.take j).filter (nD al)))]) (fun j=>j≤(ps.getD r aCi).machines.length) (fun j=>(ps.getD r aCi).machines.length - j) 0 [11,50] [50] (Nat.zero_le _) ?_
  intro j h2
  have hfl:=mE (ps.getD r aCi).machines (nD al) j
  refine aF ?_
  refine aI (fun e2=>?_) (fun e2=>?_)
  ·simp only [Int.toNat_natCast] at e2
   have hj:j<(ps.getD r aCi).machines.length:=by omega
   have hm:=hp.le hr hj
   refine aF ?_
   refine aH (aBm al ((ps.getD r aCi).machines.getD j 0) hm.1) ?_
   refine aA (fun e3=>?_) (fun e3=>?_)
   ·have hF:=jM (z:=0) hj (p:=nD al) e3
    refine aF ?_
    refine cV TT_ok 36 (fun _=>bS ((ps.getD r aCi).machines.getD j 0)) rfl rfl rfl rfl rfl rfl rfl (fun i hi=>by rcases i with _ | i <;>first | rfl | omega) (mu1:=[]) rfl rfl rfl ?_
    refine aN ?_
    refine cU TT_ok 50 36 37 rfl rfl rfl rfl rfl rfl rfl rfl rfl rfl rfl rfl ⟨by show ((((ps.getD r aCi).machines.take j).filter (nD al)).length+1) * 8≤_;omega,by unfold maxL;omega⟩ ?_
    refine aN ?_
    refine bC (bL 50 37) ?_
    exact bN (j+1) hj (by omega) wF ⟨⟨_,rfl,aCt _⟩,⟨_,rfl,aS (x:=(ps.getD r aCi).machines.getD j 0) hF⟩,wM⟩
   ·have hF:=j4 (z:=0) hj (p:=nD al) e3
    refine aF ?_
    exact bN (j+1) hj (by omega) wF ⟨⟨_,rfl,aCt _⟩,⟨_,rfl,bP hF⟩,wM⟩
  simp only [Int.toNat_natCast] at e2
  have hj:j=(ps.getD r aCi).machines.length:=by omega
  subst hj
  rw [List.take_length]
  have hke:(fT al (ps.getD r aCi)).length≤3:=Nat.le_trans (List.length_filter_le _ _) hpr.2
  refine aF ?_
  refine aQ (fun e3=>?_) (fun e3=>?_)
  ·have e3:((fT al (ps.getD r aCi)).length:Int)=0:=e3
   have hrem:n4 al (ps.getD r aCi)=⟨(ps.getD r aCi).machines⟩:=by unfold n4;rw [if_pos (by omega)]
   have hlost:g8 al ps (r+1)=g8 al ps r ++ [(r:Int)]:=by rw [g8,if_pos (by omega)]
   refine aF ?_
   refine cV TT_ok 46 (fun _=>bS r) rfl rfl rfl rfl rfl rfl rfl (fun i hi=>by rcases i with _ | i <;>first | rfl | omega) (mu1:=[]) rfl rfl rfl ?_
   refine aN ?_
   refine cU TT_ok 41 46 47 rfl rfl rfl rfl rfl rfl rfl rfl rfl rfl rfl rfl ⟨by show ((g8 al ps r).length+1) * 8≤_;omega,by unfold maxL;omega⟩ ?_
   refine aN ?_
   refine cO TT_ok (aCv 900 51 (tT (ps.getD r aCi).machines (by omega))) rfl rfl (aCu _) (fun _=>rfl) rfl rfl rfl fun _ _=>?_
   refine aN ?_
   refine cV TT_ok 53 (fun _=>cE ⟨(ps.getD r aCi).machines⟩) rfl rfl rfl rfl rfl rfl rfl (fun i hi=>by rcases i with _ | i <;>first | rfl | omega) (mu1:=[(51, .arr 0 0 fun _=>[])]) rfl rfl rfl ?_
   refine aN ?_
   refine cU TT_ok 40 53 54 rfl rfl rfl rfl rfl rfl rfl rfl rfl rfl rfl rfl ⟨by show (((ps.take r).map (n4 al)).length+1) * 24≤_;omega,by unfold maxL;omega⟩ ?_
   refine aN ?_
   refine bC (bL 40 54) ?_
   refine bC (bL 41 47) ?_
   exact bN (r+1) ⟨hr,by rw [hlost,List.length_append,List.length_singleton];omega⟩ (by omega) wF ⟨⟨_,rfl,fJ (x:=(⟨(ps.getD r aCi).machines⟩:GPlace)) (by rw [cC (z:=aCi) hr,List.map_append,List.map_singleton,hrem]) rfl⟩,⟨_,rfl,aS (x:=(r:Int)) hlost⟩,wM⟩
  have e3:((fT al (ps.getD r aCi)).length:Int)≠0:=e3
  have hrem:n4 al (ps.getD r aCi)=⟨dH al (fT al (ps.getD r aCi)) al.length⟩:=by unfold n4;rw [if_neg (by omega)]
  have hlost:g8 al ps (r+1)=g8 al ps r:=by rw [g8,if_neg (by omega)]
  refine aF ?_
  refine aH (JF al) ?_
  refine aK (ι:=Nat) (fun m=>[(57,vI m)]) (fun m=>[(11, .row [.g 50]),(50,bE 1 bS 0 (dH al (fT al (ps.getD r aCi)) m))]) (fun m=>m≤al.length) (fun m=>al.length - m) 0 [11,50] [50] (Nat.zero_le _) ?_
  intro m h3
  have hfi:=BJ (al:=al) hke m
  refine aF ?_
  refine aI (fun e4=>?_) (fun e4=>?_)
  ·have hm:m<al.length:=by omega
   refine aF ?_
   refine l4 TT_ok (j8 (dH al (fT al (ps.getD r aCi)) m) (by omega) m) rfl rfl rfl rfl rfl ?_
   refine aA (b:=bif (bif al.getD m false then decide (((dH al (fT al (ps.getD r aCi)) m).length:Int)<3) else false) then !decide ((m:Int) ∈ dH al (fT al (ps.getD r aCi)) m) else false) (fun e5=>?_) (fun e5=>?_)
   ·refine aF ?_
    refine cV TT_ok 80 (fun _=>bS m) rfl rfl rfl rfl rfl rfl rfl (fun i hi=>by rcases i with _ | i <;>first | rfl | omega) (mu1:=[]) rfl rfl rfl ?_
    refine aN ?_
    refine cU TT_ok 50 80 81 rfl rfl rfl rfl rfl rfl rfl rfl rfl rfl rfl rfl ⟨by show ((dH al (fT al (ps.getD r aCi)) m).length+1) * 8≤_;omega,by unfold maxL;omega⟩ ?_
    refine aN ?_
    refine bC (bL 50 81) ?_
    exact bN (m+1) hm (by omega) wF ⟨⟨_,rfl,aCt _⟩,⟨_,rfl,fJ (x:=(m:Int)) (by rw [dH,e5];rfl) rfl⟩,wM⟩
   ·refine aF ?_
    exact bN (m+1) hm (by omega) wF ⟨⟨_,rfl,aCt _⟩,⟨_,rfl,bP (by rw [dH,e5];rfl)⟩,wM⟩
  have hm:m=al.length:=by omega
  subst hm
  refine aF ?_
  refine cV TT_ok 86 (fun _=>cE ⟨dH al (fT al (ps.getD r aCi)) al.length⟩) rfl rfl rfl rfl rfl rfl rfl (fun i hi=>by rcases i with _ | i <;>first | rfl | omega) (mu1:=[(50, .arr 0 0 fun _=>[])]) rfl rfl rfl ?_
  refine aN ?_
  refine cU TT_ok 40 86 87 rfl rfl rfl rfl rfl rfl rfl rfl rfl rfl rfl rfl ⟨by show (((ps.take r).map (n4 al)).length+1) * 24≤_;omega,by unfold maxL;omega⟩ ?_
  refine aN ?_
  refine bC (bL 40 87) ?_
  exact bN (r+1) ⟨hr,by rw [hlost];omega⟩ (by omega) wF ⟨⟨_,rfl,fJ (x:=(⟨dH al (fT al (ps.getD r aCi)) al.length⟩:GPlace)) (by rw [cC (z:=aCi) hr,List.map_append,List.map_singleton,hrem]) rfl⟩,⟨_,rfl,bP hlost.symm⟩,wM⟩
 have hr:r=ps.length:=by omega
 subst hr
 rw [List.take_length]
 refine aF ?_
 refine bB (bL 40 910) ?_
 refine bB (bL 41 911) ?_
 refine aC (()) [(4,none),(5,none)] ?_ ?_ ?_
 ·exact aCu _
 ·exact wM
 ·trivial
end
section
def uF (d:Bool) (t:GTx) (xs:List GCopyAt) (ms:List GMachine) (k:Nat):List GMachine:=(xs.take k).foldl (sI d t) ms
theorem T9 {d:Bool} {t:GTx} {xs:List GCopyAt} {ms:List GMachine} {k:Nat} (h:k<xs.length):uF d t xs ms (k+1)=sI d t (uF d t xs ms k) (xs.getD k GCopyAt.z):=by
 unfold uF
 rw [cC (z:=GCopyAt.z) h,List.foldl_append];rfl
theorem U4 {c:GCluster} (hok:ClusOk c) {d:Bool} {t:GTx} (ht:eN t) {xs:List GCopyAt} (hx:∀ x ∈ xs,AtIn c x) (k:Nat):Like c.machines (uF d t xs c.machines k):=zY hok ht (fun x h=>hx x (List.mem_of_mem_take h)) (Like.refl hok)
set_option maxHeartbeats 2000000 in
theorem VR (c:GCluster) (hok:ClusOk c) (i:Nat) (hi:i<c.txs.length) :
  Con Tryz.prog 171 [900,901,902,903] [.a (.p 900 0), .a (.pe 903 7 i 0)] [(900, .rrow (fW c 901 902 903)),(901,roC 1 cE aCi c.places),(902,bE 4 bJ aCj c.machines),(903,bE 7 cTx aCk c.txs)]
   (fun _:Unit=>True) (fun _=>[]) fun _=>[(902,bE 4 bJ aCj (tM c i).machines),(903,bE 7 cTx aCk (tM c i).txs)]:=by
 have hb:=l8 hok
 have hx:=hok.txIn hi
 have hs1:=hx.ok.1.2.2.2.2.2.1
 have hs2:=hx.ok.1.2.2.2.2.2.2
 have hwl:=sB hx.ok
 have hvl:(kE c (c.txs.getD i aCk)).length=(bI (c.txs.getD i aCk)).length:=List.length_map _
 have hcl:=AV hok (fun k hk=>iN hx hk) (b:=false) (Nat.le_refl _)
 have hcl:(cW c (c.txs.getD i aCk) false).length≤36:=Nat.le_trans hcl (by omega)
 refine aE Tryz.func171 fun B0 r_ D_ w0=>?_
 refine aF ?_
 refine cO TT_ok (aCv 900 14 (uP (c.txs.getD i aCk) (by omega))) rfl rfl (aCu _) (fun _=>rfl) rfl rfl rfl fun _ _=>?_
 refine aN ?_
 refine bB (oX 4 40 1 (fun i=>bS (([]:List Int).getD i 0)) rfl rfl rfl rfl) ?_
 refine aK (ι:=Nat) (fun k=>[(16,vI k),(4, .a (.g 40))]) (fun k=>[(40,bE 1 bS 0 ((kE c (c.txs.getD i aCk)).take k))]) (fun k=>k≤(bI (c.txs.getD i aCk)).length) (fun k=>(bI (c.txs.getD i aCk)).length - k) 0 [40] [40] (Nat.zero_le _) ?_
 intro k h1
 have hvt:((kE c (c.txs.getD i aCk)).take k).length≤k:=by rw [List.length_take];omega
 refine aF ?_
 refine aI (fun e=>?_) (fun e=>?_)
 ·have hk:k<(bI (c.txs.getD i aCk)).length:=by omega
  have hr:=iN hx hk
  refine aF ?_
  refine aH (F1 c hb hok _ _ hr) ?_
  refine cV TT_ok 28 (fun _=>bS (rY c (c.txs.getD i aCk).id ((bI (c.txs.getD i aCk)).getD k 0) (cR c ((bI (c.txs.getD i aCk)).getD k 0)).length)) rfl rfl rfl rfl rfl rfl rfl (fun i hi=>by rcases i with _ | i <;>first | rfl | omega) (mu1:=[]) rfl rfl rfl ?_
  refine aN ?_
  refine cU TT_ok 40 28 29 rfl rfl rfl rfl rfl rfl rfl rfl rfl rfl rfl rfl ⟨by show (((kE c (c.txs.getD i aCk)).take k).length+1) * 8≤_;omega,by unfold maxL;omega⟩ ?_
  refine aN ?_
  refine bC (bL 40 29) ?_
  exact bN (k+1) hk (by omega) wF ⟨⟨_,rfl,aS (x:=rY c (c.txs.getD i aCk).id ((bI (c.txs.getD i aCk)).getD k 0) (cR c ((bI (c.txs.getD i aCk)).getD k 0)).length) (L3 hk)⟩,wM⟩
 have hk:k=(bI (c.txs.getD i aCk)).length:=by omega
 subst hk
 rw [List.take_of_length_le (show (kE c (c.txs.getD i aCk)).length≤_ by omega)]
 refine aF ?_
 refine l4 TT_ok (CZ (kE c (c.txs.getD i aCk)) (by omega)) rfl rfl rfl rfl rfl ?_
 rw [show (bif (bif (c.txs.getD (i:Int).toNat aCk).phase != 8 then (c.txs.getD (i:Int).toNat aCk).phase != 1 else false) then mT (kE c (c.txs.getD i aCk)) else false)=pG c (c.txs.getD i aCk) from J1 c _]
 refine cO TT_ok (aCv 910 49 (yK c hok (c.txs.getD i aCk) hx c.clock false)) rfl rfl (aCu _) (fun _=>rfl) rfl rfl rfl (fun _ _=>?_) (hin:=by repeat (first | exact trivial | refine And.intro ⟨_,rfl,gS⟩ ?_ | refine And.intro ⟨_,rfl,fS⟩ ?_ | refine And.intro ⟨_,rfl,gR⟩ ?_ | refine And.intro ⟨_,rfl,fG⟩ ?_ | refine And.intro ⟨_,rfl,aCt _⟩ ?_))
 refine aN ?_
 generalize hD:pG c (c.txs.getD i aCk)=d
 have hres:tM c i = { c with machines:=(cW c (c.txs.getD i aCk) false).foldl (sI d (c.txs.getD i aCk)) c.machines,txs:=c.txs.set i (y9 d (c.txs.getD i aCk)) }:=by unfold tM;rw [hD]
 rw [hres]
 have hat:∀ x ∈ cW c (c.txs.getD i aCk) false,AtIn c x:=HR hx
 generalize hX:cW c (c.txs.getD i aCk) false=xs at hcl hat
 have hs:=m4 hx.ok.2.2
 refine aK (ι:=Nat) (fun k=>[(51,vI k)]) (fun k=>[(902,bE 4 bJ aCj (uF d (c.txs.getD i aCk) xs c.machines k))]) (fun k=>k≤xs.length) (fun k=>xs.length - k) 0 [902] [] (Nat.zero_le _) ?_
 intro k h1
 refine aF ?_
 refine aI (fun e=>?_) (fun e=>?_)
 ·have hk:k<xs.length:=by omega
  have hA:=hat _ (cJ (z:=GCopyAt.z) hk)
  obtain ⟨hm1,hm2⟩:=hA.mach hok
  have hL:=U4 hok (d:=d) hx.ok hat k
  have hm3:0≤(xs.getD k GCopyAt.z).machine∧(xs.getD k GCopyAt.z).machine<(uF d (c.txs.getD i aCk) xs c.machines k).length:=by rw [hL.len];exact hm1
  obtain ⟨hM,hLa,hLh⟩:=hL.ok (xs.getD k GCopyAt.z).machine.toNat (by omega)
  have hh:((uF d (c.txs.getD i aCk) xs c.machines k).getD (xs.getD k GCopyAt.z).machine.toNat aCj).alive=true→dX ((uF d (c.txs.getD i aCk) xs c.machines k).getD (xs.getD k GCopyAt.z).machine.toNat aCj) (xs.getD k GCopyAt.z).region=true:=fun h=>by rw [hLh];exact hm2 (hLa ▸ h)
  have hS:=T9 (d:=d) (t:=(c.txs.getD i aCk)) (ms:=c.machines) hk
  unfold sI at hS
  refine aF ?_
  refine aW [] [0,1,2,3,4,5,6,7] fun B0 H0=>?_
  refine aP ?_
  generalize hmm:((uF d (c.txs.getD i aCk) xs c.machines k).getD (xs.getD k GCopyAt.z).machine.toNat aCj)=m at hM hh hS
  refine bX (b := !m.alive) (by subst hmm;rfl) (fun e2=>?_) (fun e2=>?_)
  ·have ha:m.alive=false:=by simpa using e2
   rw [LI ha, ← hmm,set_self (z:=aCj) (by omega)] at hS
   refine aF ?_
   exact bN (k+1) hk (by omega) wF ⟨⟨_,rfl,bP hS.symm⟩,wM⟩
  have ha:m.alive=true:=by simpa using e2
  have hhas:=hh ha
  have bl:m.log.length≤200:=hM.1.2.1
  have bc:m.cleared.length≤60:=hM.1.2.2
  have bk:m.copies.length≤6:=hM.1.1
  have hrs:=(oU.1 hM.2.1).2
  obtain ⟨s1,s2,s3⟩:=oP hx.ok (xs.getD k GCopyAt.z).region
  have hsl:(bY (xs.getD k GCopyAt.z).region (c.txs.getD i aCk).sets).length≤(c.txs.getD i aCk).sets.length:=List.length_filter_le _ _
  have hcb:=(fH hM hhas).2
  rw [SI ha hhas] at hS
  refine bB (d6 902 (xs.getD k GCopyAt.z).machine 60 rfl rfl rfl rfl rfl rfl hm3) ?_
  rw [hmm]
  refine bB (kL 10 rfl rfl rfl) ?_
  refine bB (a6 60 1 61) ?_
  refine bB (a6 60 2 62) ?_
  refine bB (a6 60 3 63) ?_
  refine aF ?_
  refine aW [61] [0,1,2,4,5,6,3,7,8,9] fun B0 H0=>?_
  refine iH 3 (aCv 905 65 (aCv 904 64 (aCv 903 63 (aCv 902 62 (aCv 901 61 (aCv 900 60 (E9 m (by omega) (xs.getD k GCopyAt.z).region hhas))))))) rfl rfl rfl (aCu _) (fun _=>rfl) rfl rfl rfl fun _ _=>?_
  refine iH 7 (aCv 900 38 (yR (c.txs.getD i aCk) (xs.getD k GCopyAt.z).region (by omega))) rfl rfl rfl (aCu _) (fun _=>rfl) rfl rfl rfl fun _ _=>?_
  refine aY [8,9] ?_
  refine aP ?_
  refine a7 (ι:=Unit) (fun _=>[]) (fun _=>[(65,bE 2 cX aCo (t6 d (c.txs.getD i aCk) (xs.getD k GCopyAt.z).region m))]) (fun _=>True) [65] [] ?_ ?_
  ·refine aA (b:=d) (fun e3=>?_) (fun e3=>?_)
   ·refine aF ?_
    refine cO TT_ok (aCv 900 65 (C8 (cellsOf m (xs.getD k GCopyAt.z).region) (bY (xs.getD k GCopyAt.z).region (c.txs.getD i aCk).sets) (by omega) hcb s1)) rfl rfl (aCu _) (fun _=>rfl) rfl rfl rfl fun _ _=>?_
    refine aN ?_
    exact bN () trivial Nat.zero_lt_one wF ⟨⟨_,rfl,bP (by unfold t6;rw [e3];rfl)⟩,wM⟩
   ·refine aF ?_
    refine aW [] [0,1,2,3,4,5,6,7,8] fun B0 H0=>?_
    refine iH 7 (aCv 903 63 (aCv 902 62 (aCv 901 61 (aCv 900 60 (PO m (by omega) (c.txs.getD i aCk).id (xs.getD k GCopyAt.z).region 1))))) rfl rfl rfl (aCu _) (fun _=>rfl) rfl rfl rfl fun _ _=>?_
    refine aY [8] ?_
    refine aP ?_
    refine aI (fun e4=>?_) (fun e4=>?_)
    ·refine aF ?_
     refine cO TT_ok (aCv 900 65 (NX (cellsOf m (xs.getD k GCopyAt.z).region) (bY (xs.getD k GCopyAt.z).region (c.txs.getD i aCk).sets) (by omega) hcb s1)) rfl rfl (aCu _) (fun _=>rfl) rfl rfl rfl fun _ _=>?_
     refine aN ?_
     exact bN () trivial Nat.zero_lt_one wF ⟨⟨_,rfl,bP (by unfold t6;rw [e3,cond_false,if_pos (show 0≤oD m (c.txs.getD i aCk).id (xs.getD k GCopyAt.z).region 1 from e4)])⟩,wM⟩
    ·refine aF ?_
     exact bN () trivial Nat.zero_lt_one wF ⟨⟨_,rfl,bP (by unfold t6;rw [e3,cond_false,if_neg (show ¬ 0≤oD m (c.txs.getD i aCk).id (xs.getD k GCopyAt.z).region 1 from e4)])⟩,wM⟩
  rintro ⟨⟩ _
  refine aZ ?_
  refine aW [60,62,63] [0,1,2,3,4,5,6,7] fun B0 H0=>?_
  refine iH 7 (aCv 905 67 (aCv 904 66 (aCv 903 63 (aCv 902 62 (aCv 901 61 (aCv 900 60 (LA m (by omega) (by omega) hrs (c.txs.getD i aCk).id (xs.getD k GCopyAt.z).region false))))))) rfl rfl rfl (aCu _) (fun _=>rfl) rfl rfl rfl fun _ _=>?_
  refine aP ?_
  refine bC (a9 64 1 65) ?_
  refine bC (a8 61 64) ?_
  refine bC (t5 61 rfl (cG (y:=(oR m (xs.getD k GCopyAt.z).region (t6 d (c.txs.getD i aCk) (xs.getD k GCopyAt.z).region m))) (OwnI.refl _)) rfl) ?_
  refine bC (a9 60 1 61) ?_
  refine bC (a9 60 2 66) ?_
  refine bC (a9 60 3 67) ?_
  refine bC (a8 902 60) ?_
  exact bN (k+1) hk (by omega) wF ⟨⟨_,rfl,Ch.imp_trans (cG (y:=iP (cL m (xs.getD k GCopyAt.z).region (t6 d (c.txs.getD i aCk) (xs.getD k GCopyAt.z).region m)) (c.txs.getD i aCk).id (xs.getD k GCopyAt.z).region false) (OwnI.refl _)) (bP hS.symm)⟩,wM⟩
 have hk:k=xs.length:=by omega
 subst hk
 have hE:uF d (c.txs.getD i aCk) xs c.machines xs.length=xs.foldl (sI d (c.txs.getD i aCk)) c.machines:=by unfold uF;rw [List.take_length]
 rw [hE]
 refine bB (d6 903 (i:Int) 77 rfl rfl rfl rfl rfl rfl ⟨by omega,by omega⟩) ?_
 refine bB (kL 1 rfl rfl rfl) ?_
 refine aF ?_
 refine aA (b:=d) (fun e3=>?_) (fun e3=>?_)
 ·subst e3
  refine IE TT_ok rfl ?_
  refine bC (a8 903 77) ?_
  refine l5 TT_ok () [] rfl rfl ?_ ?_ ?_
  ·exact aCu _
  ·exact ⟨⟨_,rfl,aCt _⟩,⟨_,rfl,cG (y:=y9 true (c.txs.getD i aCk)) (OwnI.refl _)⟩,trivial⟩
  ·trivial
 ·subst e3
  refine bB (a8 903 77) ?_
  refine DK ?_
  refine l5 TT_ok () [] rfl rfl ?_ ?_ ?_
  ·exact aCu _
  ·exact ⟨⟨_,rfl,aCt _⟩,⟨_,rfl,cG (y:=y9 false (c.txs.getD i aCk)) (OwnI.refl _)⟩,trivial⟩
  ·trivial
end
section
theorem C9 (xs:List GCopy) (hl:xs.length≤1048576) (s0:Int) (c:GCopy→Int) (hm:qB c aCp xs):Con Tryz.prog 224 [] [vL 2 dA aCp xs,vI s0,fbO (fun x=>[RD.ag (dA x),RD.a (dI s0)]) fun x => .int .i64 (c x)] [] (jJ c aCp xs)
  (fun i=>[vI i,vB (bif decide ((i:Int)<xs.length) then c (xs.getD i aCp) == 0 else false)]) fun _=>[]:=by
 refine aE Tryz.func224 fun B0 r_ D_ w0=>?_
 refine aF ?_
 refine cY (ι:=Nat×Nat) (fun y=>[(9,vI y.1),(10,vI y.2)]) (fun _=>[]) (fun y=>y.1≤y.2∧y.2≤xs.length∧(∀ a,a<y.1→c (xs.getD a aCp)<0)∧∀ a,y.2≤a→a<xs.length→¬ c (xs.getD a aCp)<0) (fun y=>y.2 - y.1) (0,xs.length) [] [] rfl rfl ⟨Nat.zero_le _,Nat.le_refl _,fun a h=>absurd h (Nat.not_lt_zero _),fun a h1 h2=>by omega⟩ wF wM ?_
 rintro ⟨i,j⟩ ⟨h1,h2,h3,h4⟩
 dsimp only at h1 h2 h3 h4 ⊢
 refine aF ?_
 refine aI (fun e=>?_) (fun e=>?_)
 ·have hij:i<j:=by omega
  have hh:(((i:Int)+j) / 2).toNat=(i+j) / 2:=by omega
  refine aF ?_
  refine gY (aAi rfl rfl rfl ⟨xs.getD (((i:Int)+j) / 2).toNat aCp,rfl,rfl⟩ (iZ ?_))
  refine aN ?_
  rw [hh]
  refine aI (fun e2=>?_) (fun e2=>?_)
  ·refine aF ?_
   refine bN ((i+j) / 2+1,j) ⟨by dsimp only;omega,h2,fun a ha=>?_,h4⟩ (by show j - ((i+j) / 2+1)<j - i;omega) ⟨⟨_,rfl,aCw (fL (by dsimp only;omega))⟩,⟨_,rfl,aCs _⟩,wF⟩ wM
   exact hm a ((i+j) / 2) (by dsimp only at ha;omega) (by omega) e2
  ·refine aF ?_
   refine bN (i,(i+j) / 2) ⟨by dsimp only;omega,by dsimp only;omega,h3,fun a a1 a2 hc=>?_⟩ (by show (i+j) / 2 - i<j - i;omega) ⟨⟨_,rfl,aCs _⟩,⟨_,rfl,aCw (fL (by dsimp only;omega))⟩,wF⟩ wM
   exact e2 (hm ((i+j) / 2) a (by dsimp only at a1;omega) a2 hc)
 ·have hij:i=j:=by omega
  subst hij
  refine aF ?_
  refine gY (aAz rfl rfl rfl rfl rfl ⟨xs.getD i aCp,rfl,rfl⟩ (iZ ?_))
  refine aN ?_
  refine aC (i) [(6,none),(7,none)] ?_ ?_ ?_
  ·exact aCu _
  ·trivial
  ·exact ⟨h2,h3,h4⟩
theorem I6 (x:GCopy) (r:Int):Ans Tryz.prog 225 [] [vR (dA x),vI r] [] (vI (lN x.region r)):=by
 refine aE Tryz.func225 fun B0 r_ D_ w0=>?_
 refine aF ?_
 refine aH (DM _ _) ?_
 exact aJ [(4,none)] (rfl)
end
section
theorem FA {a b:Int}:lN a b<0 ↔ a - b<0:=by
 unfold lN
 split
 ·constructor <;>intro _ <;>omega
 ·split
  ·constructor <;>intro h <;>omega
  ·constructor <;>intro h <;>omega
theorem aBg {m:GMachine} {r:Int} {i:Nat} (h:jJ (fun x:GCopy=>lN x.region r) aCp m.copies i):jJ (vA r) aCp m.copies i:=⟨h.1,fun a ha=>FA.1 (h.2.1 a ha),fun a ha hb hc=>h.2.2 a ha hb (FA.2 hc)⟩
theorem UH {m:GMachine} (h:dO m) (r:Int):qB (fun x:GCopy=>lN x.region r) aCp m.copies:=fun a b hab hb hc=>FA.2 (wG h r a b hab hb (FA.1 hc))
theorem S6 {m:GMachine} (h:dO m) {r:Int} {i:Nat} (hc:jJ (vA r) aCp m.copies i):(dX m r=true→eM m r=i∧i<m.copies.length∧(m.copies.getD i aCp).region=r)∧(dX m r=false→¬ (i<m.copies.length∧(m.copies.getD i aCp).region=r)):=by
 obtain ⟨h1,h2,h3⟩:=hc
 refine ⟨fun hh=>?_,fun hh hc=>?_⟩
 ·obtain ⟨k,hk,hb,ha⟩:=HJ hh
  have hrk:(m.copies.getD k aCp).region=r:=by simpa [atB] using ha
  have hki:k=i:=by
   rcases Nat.lt_trichotomy k i with c | c | c
   ·have:=h2 k c;unfold vA at this;omega
   ·exact c
   ·have:=iR (z:=aCp) (F5 h) (a:=i) (b:=k) c hk
    have:=h3 i (Nat.le_refl _) (by omega)
    unfold vA at this
    omega
  subst hki
  exact ⟨gA (z:=aCp) hk hb ha,hk,hrk⟩
 ·have:dX m r=true:=List.any_eq_true.2 ⟨_,cJ (z:=aCp) hc.1,by simpa [atB] using hc.2⟩
  rw [hh] at this;cases this
theorem T5 {m:GMachine} (h:dO m) {r:Int} {i:Nat} (hc:jJ (vA r) aCp m.copies i):(bif decide ((i:Int)<m.copies.length) then lN (m.copies.getD i aCp).region r == 0 else false)=dX m r:=by
 obtain ⟨h1,h2⟩:=S6 h hc
 have ho:∀ a:Int,(lN a r == 0)=decide (a=r):=fun a=>by
  unfold lN
  by_cases c:a<r
  ·rw [if_pos c,decide_eq_false (by omega)];rfl
  ·rw [if_neg c]
   by_cases c2:a > r
   ·rw [if_pos c2,decide_eq_false (by omega)];rfl
   ·rw [if_neg c2,decide_eq_true (by omega)];rfl
 rw [ho]
 cases e:dX m r with
 | true =>
  obtain ⟨_,q2,q3⟩:=h1 e
  rw [decide_eq_true (by omega),decide_eq_true q3];rfl
 | false =>
  by_cases c:(i:Int)<m.copies.length
  ·rw [decide_eq_true c,decide_eq_false (fun q=>h2 e ⟨by omega,q⟩)];rfl
  ·rw [decide_eq_false c];rfl
theorem VS (m:GMachine) (hM:dO m) (r:Int) (cs:List GCell) (hc:cs.length≤1048576) :
  Con Tryz.prog 161 [900,901,902,903] [.a (.p 900 0),vI r,vL 2 cX aCo cs] [(900, .row (nX m 901 902 903)),(901,bE 2 dA aCp m.copies)] (fun _:Unit=>True) (fun _=>[])
   fun _=>[(900, .row (nX m 904 902 903)),(904,bE 2 dA aCp (jC m r cs).copies)]:=by
 have bk:m.copies.length≤6:=hM.1.1
 refine aE Tryz.func161 fun B0 r_ D_ w0=>?_
 refine aF ?_
 refine cO TT_ok (C9 m.copies (by omega) r (fun x=>lN x.region r) (UH hM r)) rfl rfl (SVs.cons (aCs _) (SVs.cons (aCs _) (SVs.cons (iO (aB) rfl fun args x ⟨s,h1,h2⟩=>by subst h1;subst h2;exact I6 s r) rfl))) (fun _=>rfl) rfl rfl rfl fun i hi=>?_
 have hi:=aBg hi
 rw [T5 hM hi]
 refine aN ?_
 refine aR (aCv 900 44 (wC cs hc)) fun _ _=>?_
 refine aN ?_
 refine aA (b:=dX m r) (fun e=>?_) (fun e=>?_)
 ·obtain ⟨q1,q2,q3⟩:=(S6 hM hi).1 e
  have hrep:jC m r cs=cL m r cs:=by unfold jC;rw [if_pos e]
  have hset:(cL m r cs).copies=m.copies.set i ⟨r,cs⟩:=by
   show m.copies.set (eM m r).toNat ⟨(m.copies.getD (eM m r).toNat aCp).region,cs⟩=_
   rw [q1,Int.toNat_natCast,q3]
  rw [hrep]
  refine bB (d6 901 (i:Int) 64 rfl rfl rfl rfl rfl rfl ⟨by omega,by omega⟩) ?_
  refine aW [64] [0,1,2,3,4,5,6,7] fun B0 H0=>?_
  refine AB (z8 29 rfl rfl rfl) ?_
  refine dR 7 rfl (by kernel_rfl) (by kernel_rfl) (aV (eJ [] fun B0 H0=>?_))
  refine tX (by kernel_rfl) ?_
  refine bC (a9 64 1 44) ?_
  refine bC (a8 901 64) ?_
  refine bC (a9 900 1 901) ?_
  refine bC (a6 900 1 904) ?_
  refine l5 TT_ok () [] rfl rfl ?_ ?_ ?_
  ·exact aCu _
  ·exact ⟨⟨_,rfl,aCt _⟩,⟨_,rfl,Ch.imp_trans (cG (y:=(⟨r,cs⟩:GCopy)) (OwnI.refl _)) (bP (by rw [hset];simp))⟩,trivial⟩
  ·trivial
 ·have hrep:(jC m r cs).copies=iB i ⟨r,cs⟩ m.copies:=by
   unfold jC;rw [if_neg (by rw [e];simp),sR hi]
  refine aW [901,44] [0,1,2,3,4,5,6,7,8,9,10,11] fun B0 H0=>?_
  refine bG 7 rfl (by kernel_rfl) (dV TT_ok 37 (fun _=>dA ⟨r,cs⟩) rfl rfl rfl rfl rfl rfl rfl (fun j hj=>by rcases j with _ | j <;>first | rfl | omega) (mu1:=[(44, .arr 0 0 fun _=>[])]) rfl rfl rfl (bD ?_))
  refine iH 8 (aCv 902 904 (aCv 900 901 (aCv 901 37 (OR m.copies (by omega) i hi.1 ⟨r,cs⟩)))) rfl rfl rfl (aCu _) (fun _=>rfl) rfl rfl rfl fun _ _=>?_
  refine aY [9,10,11] ?_
  refine dR 11 rfl (by kernel_rfl) (by kernel_rfl) (aV (eJ [] fun B0 H0=>?_))
  refine tX (by kernel_rfl) ?_
  refine l5 TT_ok () [] rfl rfl ?_ ?_ ?_
  ·exact aCu _
  ·exact ⟨⟨_,rfl,aCt _⟩,⟨_,rfl,bP hrep.symm⟩,trivial⟩
  ·trivial
end
section
theorem J5 (c:GCluster) (hok:ClusOk c) (hl:(jU c).length > 0) :
  Con Tryz.prog 108 [900,901,902,903] [.a (.p 900 0)] [(900, .row (fW c 901 902 903)),(901,roC 1 cE aCi c.places),(902,bE 4 bJ aCj c.machines),(903,bE 7 cTx aCk c.txs)]
   (fun _:Unit=>True) (fun _=>[]) fun _=>[(900, .row (fW { c with lost:=true } 901 902 903)),(902,bE 4 bJ aCj c.machines),(903,bE 7 cTx aCk c.txs)]:=by
 have hml:=hok.1.2.2.1
 have hal:=qI c
 refine aE Tryz.func108 fun B0 r_ D_ w0=>?_
 refine aF ?_
 refine aW [] [0,1,2,3,4,5,6,7,8,9,10,11] fun B0 H0=>?_
 refine iH 5 (aCv 900 50 (SU c (by omega))) rfl rfl rfl (aCu _) (fun _=>rfl) rfl rfl rfl fun _ _=>?_
 refine iH 6 (aCv 910 51 (aCv 911 52 (SZ c.places hok.2.1 (fQ c) (by omega)))) rfl rfl rfl (aCu _) (fun _=>rfl) rfl rfl rfl fun _ _=>?_
 refine aY [7,8,9,10,11] ?_
 refine aP ?_
 refine mC rfl (fun _=>?_) (fun e=>absurd (by show ((jU c).length:Int) > 0;omega) e)
 refine aF ?_
 refine aC (()) [] ?_ ?_ ?_
 ·exact aCu _
 ·exact wM
 ·trivial
set_option maxHeartbeats 2000000 in
theorem O6 (c:GCluster) (hok:ClusOk c) (hl:(jU c).length=0) (hcf:c.config≠1000000) :
  Con Tryz.prog 108 [900,901,902,903] [.a (.p 900 0)] [(900, .row (fW c 901 902 903)),(901,roC 1 cE aCi c.places),(902,bE 4 bJ aCj c.machines),(903,bE 7 cTx aCk c.txs)]
   (fun _:Unit=>True) (fun _=>[]) fun _=>[(900, .row (fW { c with config:=c.config+1 } 910 902 903)),(910,bE 1 cE aCi (bK c)),(902,bE 4 bJ aCj (gX c.places (bK c) c.places.length (dU c c.txs.length).machines)),(903,bE 7 cTx aCk (dU c c.txs.length).txs)]:=by
 have hml:=hok.1.2.2.1
 have htl:=hok.1.2.2.2
 have hcg:=hok.1.1
 have hal:=qI c
 have hp6:=hok.2.1.1
 have hbd:=l8 hok
 have hql:(bK c).length=c.places.length:=List.length_map _
 refine aE Tryz.func108 fun B0 r_ D_ w0=>?_
 refine aF ?_
 refine aW [] [0,1,2,3,4,5,6,7,8,9,10,11] fun B0 H0=>?_
 refine iH 5 (aCv 900 50 (SU c (by omega))) rfl rfl rfl (aCu _) (fun _=>rfl) rfl rfl rfl fun _ _=>?_
 refine iH 6 (aCv 911 52 (SZ c.places hok.2.1 (fQ c) (by omega))) rfl rfl rfl (aCu _) (fun _=>rfl) rfl rfl rfl fun _ _=>?_
 refine aY [7,8,9,10,11] ?_
 refine aP ?_
 refine mC rfl (fun e=>absurd e (by show ¬ ((jU c).length:Int) > 0;omega)) (fun _=>?_)
 refine aF ?_
 refine aK (ι:=Nat) (fun i=>[(32,vI i)]) (fun i=>[(902,bE 4 bJ aCj (dU c i).machines),(903,bE 7 cTx aCk (dU c i).txs)]) (fun i=>i≤c.txs.length) (fun i=>c.txs.length - i) 0 [902,903] [] (Nat.zero_le _) ?_
 intro i h1
 have hR:=qS hok i h1
 have hE:=hR.eq
 have hlen:=hR.len
 have hokd:=hR.ok hok
 rw [hE] at hokd
 have hms:(dU c i).machines.length=c.machines.length:=hR.like.len
 refine aF ?_
 refine aI (fun e=>?_) (fun e=>?_)
 ·have hi:i<c.txs.length:=by omega
  have hti:=hR.rest i (Nat.le_refl _)
  have hin:TxIn (cwt c c.clock (dU c i).machines (dU c i).txs) (c.txs.getD i aCk):=by
   rw [← hti];exact hokd.txIn (by show i<(dU c i).txs.length;omega)
  have hst:kA (cwt c c.clock (dU c i).machines (dU c i).txs) (c.txs.getD i aCk)=kA c (c.txs.getD i aCk):=by rw [← hE];exact aAg hR.like hR.places _
  have hbq:=l8 hokd
  have hin2:TxIn (cwt c c.clock (dU c i).machines (dU c i).txs) ((dU c i).txs.getD i aCk):=by rw [hti];exact hin
  refine aF ?_
  refine aH (z9 (cwt c c.clock (dU c i).machines (dU c i).txs) hbq hokd ((dU c i).txs.getD i aCk) hin2) ?_
  rw [hti,hst]
  refine aA (fun e2=>?_) (fun e2=>?_)
  ·have hS:=GK e2
   refine aF ?_
   refine cO TT_ok (VR (cwt c c.clock (dU c i).machines (dU c i).txs) hokd i (by show i<(dU c i).txs.length;omega)) rfl rfl (aCu _) (fun _=>rfl) rfl rfl rfl (fun _ _=>?_) (hin:=by repeat (first | exact trivial | refine And.intro ⟨_,rfl,gS⟩ ?_ | refine And.intro ⟨_,rfl,fS⟩ ?_ | refine And.intro ⟨_,rfl,gR⟩ ?_ | refine And.intro ⟨_,rfl,fG⟩ ?_ | refine And.intro ⟨_,rfl,aCt _⟩ ?_))
   refine aN ?_
   exact bN (i+1) hi (by omega) wF ⟨⟨_,rfl,bP (by rw [hS, ← hE])⟩,⟨_,rfl,bP (by rw [hS, ← hE])⟩,wM⟩
  ·have hS:=KZ e2
   refine aF ?_
   exact bN (i+1) hi (by omega) wF ⟨⟨_,rfl,bP (by rw [hS])⟩,⟨_,rfl,bP (by rw [hS])⟩,wM⟩
 have hi:i=c.txs.length:=by omega
 subst hi
 clear hE hokd hlen hms e h1
 have hM0:More c.machines (dU c c.txs.length).machines:=hR.like.more
 generalize (dU c c.txs.length).machines=ms0 at hM0 ⊢
 generalize (dU c c.txs.length).txs=ts0
 refine aF ?_
 refine aK (ι:=Nat) (fun r=>[(50,vI r)]) (fun r=>[(902,bE 4 bJ aCj (gX c.places (bK c) r ms0)),(910,bE 1 cE aCi (bK c))]) (fun r=>r≤c.places.length) (fun r=>c.places.length - r) 0 [902,910] [] (Nat.zero_le _) ?_
 intro r h1
 refine aF ?_
 refine aI (fun e=>?_) (fun e=>?_)
 ·have e:(r:Int)<((bK c).length:Int):=e
  have hr:r<c.places.length:=by omega
  have np:=xR hok hl hr
  have hMr:=m3 hok hl hM0 r (by omega)
  have hnw:gX c.places (bK c) (r+1) ms0=iI (c.places.getD r aCi).machines ((bK c).getD r aCi).machines (r:Int) (cellsOf ((gX c.places (bK c) r ms0).getD (iQ c r).toNat aCj) (r:Int)) ((bK c).getD r aCi).machines.length (gX c.places (bK c) r ms0):=rfl
  generalize gX c.places (bK c) r ms0=ms at hMr hnw ⊢
  have hf:0≤iQ c r∧iQ c r<c.machines.length:=np.rng _ (cJ (z:=0) np.pos)
  have hf2:0≤iQ c r∧iQ c r<ms.length:=by rw [hMr.len];exact hf
  obtain ⟨hMo,hMa,hMh⟩:=hMr.ok (iQ c r).toNat (by rw [hMr.len];omega)
  have hhas:=hMh _ np.has
  have hpl:=hok.pl hr
  have hq3:=np.le
  have hq0:=np.pos
  have hrng:=np.rng
  have hfo:=np.fst
  generalize hm:ms.getD (iQ c r).toNat aCj=m at hMo hhas ⊢
  rw [hm] at hnw
  have bk:m.copies.length≤6:=hMo.1.1
  obtain ⟨hc6,hcb⟩:=fH hMo hhas
  refine bB (d6 910 (r:Int) 70 rfl rfl rfl rfl rfl rfl ⟨by omega,by omega⟩) ?_
  refine bB (a6 70 0 71) ?_
  refine bB (d6 902 (iQ c r) 60 rfl rfl rfl rfl rfl rfl hf2) ?_
  rw [hm]
  refine bB (a6 60 1 61) ?_
  refine bB (a6 60 2 62) ?_
  refine bB (a6 60 3 63) ?_
  refine aF ?_
  refine eY (kL 53 rfl rfl rfl) ?_
  refine aN ?_
  refine aW [61] [0,1,2,3,4,5,6,7,8,9,10,11] fun B0 H0=>?_
  refine AB (z8 63 rfl rfl rfl) ?_
  refine iH 10 (aCv 905 65 (aCv 904 64 (aCv 903 63 (aCv 902 62 (aCv 901 61 (aCv 900 60 (E9 m (by omega) (r:Int) hhas))))))) rfl rfl rfl (aCu _) (fun _=>rfl) rfl rfl rfl fun _ _=>?_
  refine aY [11] ?_
  refine aP ?_
  refine PB 65 rfl fun v=>?_
  refine bB (V_gv 64 65 (v:=v) rfl rfl rfl rfl) ?_
  refine bB (a8 61 64) ?_
  refine bB (a9 60 1 61) ?_
  refine bB (a9 60 2 62) ?_
  refine bB (a9 60 3 63) ?_
  refine bB (a8 902 60) ?_
  generalize hcs:cellsOf m (r:Int)=cs at hc6 hcb hnw ⊢
  refine aF ?_
  refine aK (ι:=Nat) (fun k=>[(69,vI k)]) (fun k=>[(902,UE (iI (c.places.getD r aCi).machines ((bK c).getD r aCi).machines (r:Int) cs k ms) (iQ c r) (HT m (r:Int) v))]) (fun k=>k≤((bK c).getD r aCi).machines.length) (fun k=>((bK c).getD r aCi).machines.length - k) 0 [902] [] (Nat.zero_le _) ?_
  intro k h2
  refine aF ?_
  refine aI (fun e2=>?_) (fun e2=>?_)
  ·have e2:(k:Int)<(((bK c).getD r aCi).machines.length:Int):=e2
   have hk:k<((bK c).getD r aCi).machines.length:=by omega
   have hx:=hrng _ (cJ (z:=0) hk)
   have hMk:=nC (old:=(c.places.getD r aCi).machines) (l:=((bK c).getD r aCi).machines) (r:=(r:Int)) (by omega) hcb hrng hMr k (by omega)
   have hnk:iI (c.places.getD r aCi).machines ((bK c).getD r aCi).machines (r:Int) cs (k+1) ms=if ((bK c).getD r aCi).machines.getD k 0 ∈ (c.places.getD r aCi).machines then iI (c.places.getD r aCi).machines ((bK c).getD r aCi).machines (r:Int) cs k ms else (iI (c.places.getD r aCi).machines ((bK c).getD r aCi).machines (r:Int) cs k ms).set (((bK c).getD r aCi).machines.getD k 0).toNat (jC ((iI (c.places.getD r aCi).machines ((bK c).getD r aCi).machines (r:Int) cs k ms).getD (((bK c).getD r aCi).machines.getD k 0).toNat aCj) (r:Int) cs):=rfl
   generalize iI (c.places.getD r aCi).machines ((bK c).getD r aCi).machines (r:Int) cs k ms=ns at hMk hnk ⊢
   have hx2:0≤((bK c).getD r aCi).machines.getD k 0∧((bK c).getD r aCi).machines.getD k 0<ns.length:=by rw [hMk.len];exact hx
   obtain ⟨hMx,_,_⟩:=hMk.ok (((bK c).getD r aCi).machines.getD k 0).toNat (by rw [hMk.len];omega)
   by_cases hin:((bK c).getD r aCi).machines.getD k 0 ∈ (c.places.getD r aCi).machines
   ·rw [if_pos hin] at hnk
    refine aF ?_
    refine l4 TT_ok (j8 (c.places.getD r aCi).machines (by omega) (((bK c).getD r aCi).machines.getD k 0)) rfl rfl rfl rfl rfl ?_
    refine bX rfl (fun e3=>by rw [decide_eq_true hin] at e3;cases e3) (fun _=>?_)
    refine aF ?_
    exact bN (k+1) hk (by omega) wF ⟨⟨_,rfl,by rw [hnk];exact aCt _⟩,wM⟩
   ·rw [if_neg hin] at hnk
    have hne:(((bK c).getD r aCi).machines.getD k 0).toNat≠(iQ c r).toNat:=fun e=>hin (by
     have:((bK c).getD r aCi).machines.getD k 0=iQ c r:=by omega
     rw [this];exact hfo)
    refine aF ?_
    refine l4 TT_ok (j8 (c.places.getD r aCi).machines (by omega) (((bK c).getD r aCi).machines.getD k 0)) rfl rfl rfl rfl rfl ?_
    refine bX rfl (fun _=>?_) (fun e3=>by rw [decide_eq_false hin] at e3;cases e3)
    refine bB (d6 902 (((bK c).getD r aCi).machines.getD k 0) 80 rfl (SO hne) rfl rfl rfl rfl hx2) ?_
    generalize hM:ns.getD (((bK c).getD r aCi).machines.getD k 0).toNat aCj=M at hMx hnk ⊢
    refine bB (a6 80 1 81) ?_
    refine bB (a6 80 2 82) ?_
    refine bB (a6 80 3 83) ?_
    refine aF ?_
    refine eY (kL 89 rfl rfl rfl) ?_
    refine cO TT_ok (aCv 904 84 (aCv 903 83 (aCv 902 82 (aCv 901 81 (aCv 900 80 (VS M hMx (r:Int) cs (by omega))))))) rfl rfl (aCu _) (fun _=>rfl) rfl rfl rfl fun _ _=>?_
    refine aN ?_
    refine bC (a9 80 1 84) ?_
    refine bC (a9 80 2 82) ?_
    refine bC (a9 80 3 83) ?_
    refine bC (a8 902 80) ?_
    exact bN (k+1) hk (by omega) wF ⟨⟨_,rfl,by rw [hnk];exact J3 (by omega) hne (SH M (r:Int) cs).symm⟩,wM⟩
  have e2:¬ (k:Int)<(((bK c).getD r aCi).machines.length:Int):=e2
  have hk:k=((bK c).getD r aCi).machines.length:=by omega
  subst hk
  have hMk:=nC (old:=(c.places.getD r aCi).machines) (l:=((bK c).getD r aCi).machines) (r:=(r:Int)) (by omega) hcb hrng hMr _ (Nat.le_refl _)
  have hfk:=EJ (r:=(r:Int)) (xs:=cs) (ms:=ms) hfo hf.1 (fun x hx=>(hrng x hx).1) _ (Nat.le_refl _)
  rw [hm] at hfk
  generalize iI (c.places.getD r aCi).machines ((bK c).getD r aCi).machines (r:Int) cs ((bK c).getD r aCi).machines.length ms=ns at hMk hnw hfk ⊢
  have hix:0≤eM m r∧eM m r<m.copies.length:=p7 hhas
  have hcs2:cs=(m.copies.getD (eM m r).toNat aCp).cells:=by rw [← hcs];exact eW hhas
  refine bB (d6 902 (iQ c r) 90 rfl (XP m (r:Int) v) rfl rfl rfl rfl (by rw [hMk.len];exact hf)) ?_
  refine bB (a6 90 1 91) ?_
  refine bB (d6 91 (eM m r) 94 rfl (WM m (r:Int) v) rfl rfl rfl rfl hix) ?_
  refine bB (V_vg 94 65 (v:=v) rfl rfl rfl rfl rfl) ?_
  refine bB (a9 94 1 65) ?_
  refine bB (a8 91 94) ?_
  refine bB (a9 90 1 91) ?_
  refine bB (a8 902 90) ?_
  refine bB (t5 902 rfl (QJ hfk hcs2) rfl) ?_
  refine QK 65 rfl ?_
  refine bB (D4 7 rfl) ?_
  refine bB (a9 70 0 71) ?_
  refine bB (a8 910 70) ?_
  refine bB (t5 910 rfl (PW (z:=aCi) rfl) rfl) ?_
  refine aF ?_
  exact bN (r+1) hr (by omega) wF ⟨⟨_,rfl,bP hnw.symm⟩,wM⟩
 have e:¬ (r:Int)<((bK c).length:Int):=e
 have hr:r=c.places.length:=by omega
 subst hr
 refine wV rfl ?_
 refine X_T (zS ?_)
 refine IE TT_ok rfl ?_
 refine X_T ?_
 refine IE TT_ok rfl ?_
 refine l5 TT_ok () [] rfl rfl ?_ ?_ ?_
 ·exact aCu _
 ·exact wM
 ·trivial
end
section
theorem aBf {c:GCluster} (hok:ClusOk c) (hl:(jU c).length=0):gL mL (bK c)≤3 * (bK c).length:=kZ (lT (z:=aCi) fun i hi=>(xR hok hl (by have:i<(bK c).length:=hi;rw [show (bK c).length=c.places.length from List.length_map _] at this;exact this)).le)
theorem recover_w {c:GCluster}:iL (eZ c)≤1048576:=by
 by_cases h:ClusOk c∧c.config≠1000000
 ·obtain ⟨hok,hcf⟩:=h
  by_cases hl:(jU c).length=0
  ·rw [uK hok hcf hl]
   have hR:=qS hok c.txs.length (Nat.le_refl _)
   have hMr:=m3 hok hl hR.like.more c.places.length (Nat.le_refl _)
   have hokd:=hR.ok hok
   have h1:=aBf hok hl
   have h0:(bK c).length=c.places.length:=List.length_map _
   have h2:gL gM (gX c.places (bK c) c.places.length (dU c c.txs.length).machines)≤2702 * (gX c.places (bK c) c.places.length (dU c c.txs.length).machines).length:=kZ (lT (z:=aCj) fun i hi=>N2 (hMr.ok i hi).1)
   have h3:gL wTx (dU c c.txs.length).txs≤24 * (dU c c.txs.length).txs.length:=kZ (lT (z:=aCk) fun i hi=>DS (hokd.tx hi))
   have h4:=hok.1.2.2.1
   have h5:=hok.1.2.2.2
   have h6:=hok.2.1.1
   have h7:=hMr.len
   have h8:=hR.len
   show wL mL (bK c)+wL gM (gX c.places (bK c) c.places.length (dU c c.txs.length).machines)+wL wTx (dU c c.txs.length).txs≤1048576
   unfold wL
   omega
  ·rw [yE hok hcf (by omega)]
   exact Nat.le_trans (show iL c≤30000 from zF hok) (by decide)
 ·rw [xH h];decide
theorem KI (c:GCluster) (hb:D.bds dJ (bO c)):yB Tryz.prog 45 [vR (bO c)] (eZ c):=by
 refine aE Tryz.func45 fun B0 r_ D_ w0=>?_
 refine aT ?_
 refine aU 1 fun r_=>?_
 refine aF ?_
 refine aH (eT c hb) ?_
 refine aA (b:=bif !dec (ClusOk c) then true else c.config == 1000000) (fun e=>?_) (fun e=>?_)
 ·rw [xH (c:=c) (fun h=>by rw [cN h.1] at e;simp [h.2] at e)]
  refine aF ?_
  refine bB (a5 2 2 1 (fun i=>cE (([]:List GPlace).getD i aCi))) ?_
  refine bB (a5 2 3 4 (fun i=>bJ (([]:List GMachine).getD i aCj))) ?_
  refine bB (a5 2 4 7 (fun i=>cTx (([]:List GTx).getD i aCk))) ?_
  refine bB (a6 2 2 901) ?_
  refine bB (a6 2 3 902) ?_
  refine bB (a6 2 4 903) ?_
  refine aC (()) [(2,some 28)] ?_ ?_ ?_
  ·exact aCu _
  ·exact wM
  ·trivial
 have hok:ClusOk c:=by
  cases h:dec (ClusOk c) with
  | true=>exact c9.1 h
  | false=>rw [h] at e;cases e
 have hcf:c.config≠1000000:=fun h=>by rw [cN hok,h] at e;cases e
 clear e
 refine aF ?_
 refine aR (iU c hb) fun _ _=>?_
 refine aN ?_
 by_cases hl:(jU c).length=0
 ·rw [uK hok hcf hl]
  refine aR (aCv 900 3 (O6 c hok hl hcf)) fun _ _=>?_
  refine aN ?_
  refine bB (bL 910 901) ?_
  refine aC (()) [(2,some 28)] ?_ ?_ ?_
  ·exact aCu _
  ·exact wM
  ·trivial
 ·rw [yE hok hcf (by omega)]
  refine cO TT_ok (aCv 900 3 (J5 c hok (by omega))) rfl rfl (aCu _) (fun _=>rfl) rfl rfl rfl fun _ _=>?_
  refine aN ?_
  refine aC (()) [(2,some 28)] ?_ ?_ ?_
  ·exact aCu _
  ·exact wM
  ·trivial
end
section
theorem JA {c:GCluster} (hok:ClusOk c) (hl:(jU c).length=0) (j:Nat) (hj:j<c.machines.length):((j9 c).machines.getD j aCj).alive=(c.machines.getD j aCj).alive:=by
 have hR:=qS hok c.txs.length (Nat.le_refl _)
 have hM:=m3 hok hl hR.like.more c.places.length (Nat.le_refl _)
 exact (hM.ok j (by rw [hM.len];exact hj)).2.1
theorem JP {c:GCluster} (hok:ClusOk c) (hl:(jU c).length=0) {r:Nat} (hr:r<c.places.length) {k:Nat} (hk:k<((bK c).getD r aCi).machines.length):((j9 c).machines.getD (((bK c).getD r aCi).machines.getD k 0).toNat aCj).alive=true:=by
 have np:=xR hok hl hr
 have hx:=np.rng _ (cJ (z:=0) hk)
 rw [JA hok hl _ (by omega)]
 exact np.alive _ (cJ (z:=0) hk)
theorem LN {c:GCluster} (hok:ClusOk c) (hl:(jU c).length=0) {r:Nat} (hr:r<c.places.length):gZ (j9 c) r=false:=by
 unfold gZ
 refine oJ fun k hk=>?_
 have:=JP hok hl hr hk
 show (!((j9 c).machines.getD (((bK c).getD r aCi).machines.getD k 0).toNat aCj).alive)=false
 rw [this];rfl
theorem SG {c:GCluster} (hok:ClusOk c):∀ i,i≤c.txs.length→∀ j,j<i→(kA c (c.txs.getD j aCk)=true→∃ d,(dU c i).txs.getD j aCk=y9 d (c.txs.getD j aCk))∧(kA c (c.txs.getD j aCk)=false→(dU c i).txs.getD j aCk=c.txs.getD j aCk)
 | 0,_,j,hj=>absurd hj (Nat.not_lt_zero _)
 | i+1,hi,j,hj=>by
  have ih:=SG hok i (by omega)
  have hR:=qS hok i (by omega)
  have hlt:i<(dU c i).txs.length:=by rw [hR.len];omega
  cases hs:kA c (c.txs.getD i aCk) with
  | true =>
   rw [GK hs]
   have e:(tM (dU c i) i).txs.getD j aCk=if j=i then y9 (pG (dU c i) ((dU c i).txs.getD i aCk)) ((dU c i).txs.getD i aCk) else (dU c i).txs.getD j aCk:=by
    unfold tM
    exact lA hlt j
   rw [e,hR.rest i (Nat.le_refl _)]
   by_cases c1:j=i
   ·subst c1
    rw [if_pos rfl]
    exact ⟨fun _=>⟨_,rfl⟩,fun h=>by rw [hs] at h;cases h⟩
   ·rw [if_neg c1];exact ih j (by omega)
  | false =>
   rw [KZ hs]
   by_cases c1:j=i
   ·subst c1
    exact ⟨fun h=>by (rw [hs] at h;cases h),fun _=>hR.rest j (Nat.le_refl _)⟩
   ·exact ih j (by omega)
theorem ZR {c:GCluster} (hok:ClusOk c) (hl:(jU c).length=0) {j:Nat} (hj:j<c.txs.length):kA (j9 c) ((j9 c).txs.getD j aCk)=false:=by
 obtain ⟨h1,h2⟩:=SG hok c.txs.length (Nat.le_refl _) j hj
 have hin:=hok.txIn hj
 show kA (j9 c) ((dU c c.txs.length).txs.getD j aCk)=false
 cases hs:kA c (c.txs.getD j aCk) with
 | true =>
  obtain ⟨d,e⟩:=h1 hs
  rw [e]
  unfold kA
  have hp:(y9 d (c.txs.getD j aCk)).phase=7∨(y9 d (c.txs.getD j aCk)).phase=9:=by
   show (bif d then (7:Int) else 9)=7∨(bif d then (7:Int) else 9)=9
   cases d
   ·exact .inr rfl
   ·exact .inl rfl
  rw [if_neg (by omega),if_pos hp]
 | false =>
  rw [h2 hs]
  have hh:pK (j9 c) (c.txs.getD j aCk)=pK c (c.txs.getD j aCk):=JA hok hl _ (by have:=hin.home;omega)
  unfold kA at hs ⊢
  rw [hh]
  by_cases c1:(c.txs.getD j aCk).phase=1
  ·rw [if_pos c1] at hs ⊢;exact hs
  ·rw [if_neg c1] at hs ⊢
   by_cases c2:(c.txs.getD j aCk).phase=7∨(c.txs.getD j aCk).phase=9
   ·rw [if_pos c2]
   ·rw [if_neg c2] at hs ⊢
    by_cases c3:pK c (c.txs.getD j aCk)=false
    ·rw [if_pos c3] at hs;cases hs
    ·rw [if_neg c3]
     rw [j0 (z:=aCm) fun k hk=>?_,j0 (z:=aCn) fun k hk=>?_]
     ·rfl
     ·have:=q9 hin hk
      exact LN hok hl (by omega)
     ·have:=hin.set k hk
      exact LN hok hl (by omega)
end
section
theorem ES (c:GCluster) (id:Int):jD (eP c id).1:=by
 by_cases h:ClusOk c
 ·exact lH (BW h id)
 ·unfold eP;rw [if_neg h];exact s9
theorem IS (c:GCluster) (id:Int):jD (bZ c id).1:=by
 by_cases h:ClusOk c
 ·exact lH (lQ h id)
 ·unfold bZ;rw [if_neg h];exact s9
theorem CE (c:GCluster) (m:Int):jD (fR c m).1:=by
 by_cases h:ClusOk c
 ·exact lH (N6 h m)
 ·unfold fR;rw [if_neg h];exact s9
theorem EF (c:GCluster) (id:Int):jD (cM c id).1:=by
 by_cases h:ClusOk c
 ·exact lH (JK h id)
 ·unfold cM;rw [if_neg h];exact s9
theorem CV (c:GCluster):jD (eZ c):=by
 by_cases h:ClusOk c
 ·rcases F8 h with h | h
  ·exact lH h
  ·rw [h];exact s9
 ·unfold eZ;rw [if_neg fun e=>h e.1];exact s9
theorem I5 {n:Nat} {β:Nat→Int} (hn:n≤1048576) (hβ:eS β) (i h:Int) (h1:0≤i) (h2:i≤n) (k:GCluster) (hk:k.txs.length≤1048576):zE Tryz.prog 100 [vR (bO k)] n β i h (fun _:Int=>True) vI:=by
 refine aE Tryz.func100 fun B0 r_ D_ w0=>?_
 refine aT ?_
 refine zS ?_
 refine a7 (ι:=Int×Int) (fun _=>[]) (fun y=>[(700,dE y.1 y.2)]) (fun y=>0≤y.1∧y.1≤n) [700] [] ?_ ?_
 ·by_cases hl:k.txs.length=0
  ·have hz:decide ((k.txs.length:Int) > 0) = !true:=decide_eq_false (by omega)
   refine aF ?_
   refine lK (vB true) rfl rfl rfl rfl (hz) rfl rfl ?_
   refine aN ?_
   rw [hz]
   refine bX rfl (fun e=>by cases e) (fun _=>?_)
   refine aF ?_
   exact aL (i,h) ⟨h1,h2⟩ Nat.zero_lt_one
  ·have hz:decide ((k.txs.length:Int) > 0)=true:=decide_eq_true (by omega)
   refine aF ?_
   refine cO TT_ok (d9 hn hβ i h h1 h2 8) rfl rfl (aCu _) (fun _=>rfl) rfl rfl rfl (fun z ⟨z1,z2,z3⟩=>?_) (hg:=⟨rfl,congrArg (fun x=>some (vB x)) hz⟩)
   refine aN ?_
   rw [hz]
   refine aA (fun _=>?_) (fun _=>?_)
   ·refine aF ?_
    refine aW [700] [0,1,2,3,4,5,6,7,8,9,10] fun B0 H0=>?_
    refine aX 6 (bR hn hβ z.2.1 z.2.2 z2 z3 k.txs.length) fun y ⟨y1,y2,y3⟩=>?_
    refine aY [7,8,9,10] ?_
    refine aP ?_
    refine aC (((k.txs.getD y.1.toNat aCk).id,y.2.1,y.2.2)) [(4,none)] ?_ ?_ ?_
    ·exact aCu _
    ·exact wM
    ·exact ⟨trivial,y2,y3⟩
   ·refine aF ?_
    exact aL (z.2.1,z.2.2) ⟨z2,z3⟩ Nat.zero_lt_one
 rintro ⟨i1,i2⟩ ⟨u1,u2⟩
 dsimp only at u1 u2 ⊢
 refine aZ ?_
 refine cV TT_ok 50 (fun i=>bS (([0,1,5,9,1000000,1000001]:List Int).getD i 0)) rfl rfl rfl rfl rfl rfl rfl (fun i hi=>by rcases i with _ | _ | _ | _ | _ | _ | i <;>first | rfl | omega) (mu1:=[]) rfl rfl rfl ?_
 refine aN ?_
 refine aR (bR hn hβ i1 i2 u1 u2 6) fun z ⟨z1,z2,z3⟩=>?_
 refine aN ?_
 refine aC ((([0,1,5,9,1000000,1000001]:List Int).getD z.1.toNat 0,z.2.1,z.2.2)) [(4,none)] ?_ ?_ ?_
 ·exact aCu _
 ·exact wM
 ·exact ⟨trivial,z2,z3⟩
abbrev VO (P:Program) (f:Nat) (n:Nat) (β:Nat→Int) (i h:Int):Prop :=
 Con P f [700,701] [.a (.p 700 0)] (xB n β i h) (fun y:GCluster×Int×Int×Int=>jD y.1∧0≤y.2.2.1∧y.2.2.1≤n) (fun y=>[iC y.1 901 902 903,vI y.2.1]) fun y=>(700,dE y.2.2.1 y.2.2.2) :: muD y.1 901 902 903
theorem N5 {n:Nat} {β:Nat→Int} (hn:n≤1048576) (hβ:eS β) (i h:Int) (h1:0≤i) (h2:i≤n):VO Tryz.prog 121 n β i h:=by
 refine aE Tryz.func121 fun B0 r_ D_ w0=>?_
 refine aF ?_
 refine aR (nk:=[700,61,62,63]) (aCv 901 61 (aCv 902 62 (aCv 903 63 (rG hn hβ i h h1 h2)))) fun y ⟨y1,y2,y3⟩=>?_
 obtain ⟨k,i1,i2⟩:=y
 dsimp only at y1 y2 y3 ⊢
 have hb:=fI y1
 have ht:k.txs.length≤1048576:=hb.2.2.2.2.1.1
 refine aN ?_
 refine aR (d9 hn hβ i1 i2 y2 y3 2) fun a ⟨a1,a2,a3⟩=>?_
 refine aN ?_
 refine aH (d5 k hb) ?_
 refine a7 (ι:=Int×Int) (fun _=>[]) (fun y=>[(700,dE y.1 y.2)]) (fun y=>0≤y.1∧y.1≤n) [700] [] ?_ ?_
 ·refine aA (fun e=>?_) (fun _=>?_)
  rotate_left
  ·refine aF ?_
   exact aL (a.2.1,a.2.2) ⟨a2,a3⟩ Nat.zero_lt_one
  have hok:ClusOk k:=by
   revert e
   cases a.1
   ·intro e;cases e
   ·intro e;exact c9.1 e
  refine aT ?_
  refine zS ?_
  refine a7 (ι:=Int) (fun v=>[(5,vI v)]) (fun _=>[]) (fun _=>True) [] [] ?_ ?_
  ·refine aF ?_
   refine aI (fun e2=>?_) (fun _=>?_)
   ·have hx:((k.txs.length:Int) - 1).toNat<k.txs.length:=by omega
    have hid:=y1.2 _ (cJ (z:=aCk) hx)
    refine aF ?_
    exact aL _ trivial Nat.zero_lt_one
   ·refine aF ?_
    exact aL _ trivial Nat.zero_lt_one
  intro id _
  refine aZ ?_
  have hul:=EM k
  have hml:k.machines.length≤1048576:=hb.2.2.2.1.1
  refine aR (aCv 900 64 (D3 k hb)) fun _ _=>?_
  refine aN ?_
  refine aI (fun e2=>?_) (fun _=>?_)
  rotate_left
  ·refine aF ?_
   exact aL (a.2.1,a.2.2) ⟨a2,a3⟩ Nat.zero_lt_one
  refine aF ?_
  refine a7 (ι:=Unit) (fun _=>[(7, .a (.p 7 0)),(8,vI (fA k id ((iG k).getD 0 0)).2)]) (fun _=>[(7, .row (fW (fA k id ((iG k).getD 0 0)).1 71 72 73)),(71,bE 1 cE aCi (fA k id ((iG k).getD 0 0)).1.places),(72,bE 4 bJ aCj (fA k id ((iG k).getD 0 0)).1.machines),(73,bE 7 cTx aCk (fA k id ((iG k).getD 0 0)).1.txs)]) (fun _=>True) [] [] ?_ ?_
  ·refine aW [] [0,1,2,3,4,5,6,7,8,9,10,11] fun B0 H0=>?_
   refine eU 5 9 rfl rfl (by kernel_rfl) (gG (aCv 901 71 (aCv 902 72 (aCv 903 73 (tG k hb id ((iG k).getD 0 0))))) rfl rfl (aCu _) (fun _=>rfl) rfl rfl rfl (fun _ _=>bD ?_)) (aV (bD ?_))
   ·refine aY [6,7,8,9,10,11] ?_
    refine bG 9 rfl (by kernel_rfl) (aV (bD ?_))
    refine bG 10 rfl (by kernel_rfl) (aV (bD ?_))
    refine aY [11] ?_
    refine aP ?_
    exact aL () trivial Nat.zero_lt_one
   ·skip
    refine aX 5 (aCv 901 71 (aCv 902 72 (aCv 903 73 (tG k hb id ((iG k).getD 0 0))))) fun _ _=>?_
    refine aY [6,7,8,10,11] ?_
    refine bG 10 rfl (by kernel_rfl) (aV (bD ?_))
    refine aY [11] ?_
    refine aP ?_
    exact aL () trivial Nat.zero_lt_one
  rintro ⟨⟩ _
  have hX:=EU hok id ((iG k).getD 0 0)
  generalize (fA k id ((iG k).getD 0 0)).1=K at hX
  generalize (fA k id ((iG k).getD 0 0)).2=code
  refine aZ ?_
  refine aQ (fun e3=>?_) (fun _=>?_)
  rotate_left
  ·refine aF ?_
   exact aL (a.2.1,a.2.2) ⟨a2,a3⟩ Nat.zero_lt_one
  refine aF ?_
  refine aR (bR hn hβ a.2.1 a.2.2 a2 a3 4) fun nn ⟨nn1,nn2,nn3⟩=>?_
  refine aN ?_
  refine bB (D4 7 rfl) ?_
  refine cY (ι:=GCluster×Int×Int×Int) (fun y=>[(9,vI y.2.1)]) (fun y=>(4, .row (fW y.1 71 72 73)) :: (700,dE y.2.2.1 y.2.2.2) :: muD y.1 71 72 73) (fun y=>ClusOk y.1∧(0≤y.2.1∧y.2.1≤4)∧0≤y.2.2.1∧y.2.2.1≤n) (fun y=>y.2.1.toNat) (K,nn.1,nn.2.1,nn.2.2) [4,700,71,72,73] [71,72,73] rfl rfl ⟨hX,by dsimp only;omega,nn2,nn3⟩ wF ⟨⟨_,rfl,aCt _⟩,⟨_,rfl,aCt _⟩,⟨_,rfl,lY⟩,wM⟩ ?_
  clear hX
  rintro ⟨K,m,i3,i4⟩ ⟨u1,u2,u3,u4⟩
  dsimp only at u1 u2 u3 u4 ⊢
  have hKb:=l8 u1
  refine aF ?_
  refine aI (fun e4=>?_) (fun _=>?_)
  ·refine aF ?_
   refine a7 (ι:=Int×Int×Int) (fun y=>[(10, .a (.p 10 0)),(11,vI (iM K id y.1).2.1),(12,vI (iM K id y.1).2.2)]) (fun y=>[(10, .row (fW (iM K id y.1).1 81 82 83)),(81,bE 1 cE aCi (iM K id y.1).1.places),(82,bE 4 bJ aCj (iM K id y.1).1.machines),(83,bE 7 cTx aCk (iM K id y.1).1.txs),(700,dE y.2.1 y.2.2)]) (fun y=>0≤y.2.1∧y.2.1≤n) [700] [] ?_ ?_
   ·refine aW [700] [0,1,2,3,4,5,6,7,8,9,10,11,12] fun B0 H0=>?_
    refine eU 3 9 rfl rfl (by kernel_rfl) (gG (nk:=[700]) (bR hn hβ i3 i4 u3 u4 2) rfl rfl (aCu _) (fun _=>rfl) rfl rfl rfl (fun r ⟨r1,r2,r3⟩=>bD ?_)) (aV (bD ?_))
    ·skip
     refine eU 4 9 rfl rfl (by kernel_rfl) (gG (aCv 901 81 (aCv 902 82 (aCv 903 83 (tW K hKb id r.1)))) rfl rfl (aCu _) (fun _=>rfl) rfl rfl rfl (fun _ _=>bD ?_)) (aV (bD ?_))
     ·refine aY [5,6,7,8,9,10,11,12] ?_
      refine bG 9 rfl (by kernel_rfl) (aV (bD ?_))
      refine bG 10 rfl (by kernel_rfl) (aV (bD ?_))
      refine aY [11,12] ?_
      refine aP ?_
      exact aL (r.1,r.2.1,r.2.2) ⟨r2,r3⟩ Nat.zero_lt_one
     ·skip
      refine aX 4 (aCv 901 81 (aCv 902 82 (aCv 903 83 (tW K hKb id r.1)))) fun _ _=>?_
      refine aY [5,6,7,8,10,11,12] ?_
      refine bG 10 rfl (by kernel_rfl) (aV (bD ?_))
      refine aY [11,12] ?_
      refine aP ?_
      exact aL (r.1,r.2.1,r.2.2) ⟨r2,r3⟩ Nat.zero_lt_one
    ·skip
     refine aX (nk:=[700]) 3 (bR hn hβ i3 i4 u3 u4 2) fun r ⟨r1,r2,r3⟩=>?_
     refine aX 4 (aCv 901 81 (aCv 902 82 (aCv 903 83 (tW K hKb id r.1)))) fun _ _=>?_
     refine aY [5,6,7,8,10,11,12] ?_
     refine bG 10 rfl (by kernel_rfl) (aV (bD ?_))
     refine aY [11,12] ?_
     refine aP ?_
     exact aL (r.1,r.2.1,r.2.2) ⟨r2,r3⟩ Nat.zero_lt_one
   rintro ⟨r,i5,i6⟩ ⟨v1,v2⟩
   dsimp only at v1 v2 ⊢
   have hA:=M6 u1 id r
   generalize (iM K id r).1=K2 at hA
   generalize (iM K id r).2.1=w1
   generalize (iM K id r).2.2=w2
   refine aZ ?_
   refine aI (fun _=>?_) (fun _=>?_)
   ·refine aF ?_
    refine bC (bL 71 81) ?_
    refine bC (bL 72 82) ?_
    refine bC (bL 73 83) ?_
    exact bN (K2,m - 1,i5,i6) ⟨hA,by dsimp only;omega,v1,v2⟩ (by dsimp only;omega) wF ⟨⟨_,rfl,aCt _⟩,⟨_,rfl,aCt _⟩,⟨_,rfl,lY⟩,wM⟩
   ·refine aF ?_
    exact aL (K,m - 1,i5,i6) ⟨u1,by dsimp only;omega,v1,v2⟩ (by dsimp only;omega)
  refine aF ?_
  refine bB (bL 71 901) ?_
  refine bB (bL 72 902) ?_
  refine bB (bL 73 903) ?_
  refine aC ((K,id,i3,i4)) [(2,some 28),(3,none)] ?_ ?_ ?_
  ·exact aCu _
  ·exact wM
  ·exact ⟨lH u1,u3,u4⟩
 rintro ⟨i3,i4⟩ ⟨u1,u2⟩
 dsimp only at u1 u2 ⊢
 refine aZ ?_
 refine aW [700,2] [0,1,2,3,4,5] fun B0 H0=>?_
 refine aX 3 (I5 hn hβ i3 i4 u1 u2 k ht) fun z ⟨z1,z2,z3⟩=>?_
 refine bG 4 rfl (by kernel_rfl) (aV (bD ?_))
 refine aY [5] ?_
 refine aP ?_
 refine bB (bL 61 901) ?_
 refine bB (bL 62 902) ?_
 refine bB (bL 63 903) ?_
 refine aC ((k,z.1,z.2.1,z.2.2)) [(2,some 28),(3,none)] ?_ ?_ ?_
 ·exact aCu _
 ·exact wM
 ·exact ⟨y1,z2,z3⟩
end
section
theorem XQ {n:Nat} {β:Nat→Int} (hn:n≤1048576) (hβ:eS β) (i h:Int) (h1:0≤i) (h2:i≤n):VO Tryz.prog 117 n β i h:=by
 refine aE Tryz.func117 fun B0 r_ D_ w0=>?_
 refine aF ?_
 refine aR (nk:=[700,61,62,63]) (aCv 901 61 (aCv 902 62 (aCv 903 63 (N5 hn hβ i h h1 h2)))) fun y ⟨y1,y2,y3⟩=>?_
 obtain ⟨k,id,i1,i2⟩:=y
 dsimp only at y1 y2 y3 ⊢
 have hb:=fI y1
 refine aN ?_
 refine aR (d9 hn hβ i1 i2 y2 y3 2) fun a ⟨a1,a2,a3⟩=>?_
 refine aN ?_
 refine a7 (ι:=GCluster×Int×Int) (fun _=>[]) (fun y=>(4, .row (fW y.1 61 62 63)) :: (700,dE y.2.1 y.2.2) :: muD y.1 61 62 63) (fun y=>jD y.1∧0≤y.2.1∧y.2.1≤n) [4,700,61,62,63] [61,62,63] ?_ ?_
 ·refine aA (fun _=>?_) (fun _=>?_)
  rotate_left
  ·refine aF ?_
   exact aL (k,a.2.1,a.2.2) ⟨y1,a2,a3⟩ Nat.zero_lt_one
  refine aF ?_
  refine aR (aCv 901 71 (aCv 902 72 (aCv 903 73 (w7 k hb id)))) fun _ _=>?_
  refine aN ?_
  have hX:=ES k id
  generalize (eP k id).1=K at hX
  generalize (eP k id).2=code
  refine aQ (fun _=>?_) (fun _=>?_)
  rotate_left
  ·refine aF ?_
   exact aL (k,a.2.1,a.2.2) ⟨y1,a2,a3⟩ Nat.zero_lt_one
  refine aF ?_
  refine aR (bR hn hβ a.2.1 a.2.2 a2 a3 10) fun nn ⟨nn1,nn2,nn3⟩=>?_
  refine aN ?_
  refine bB (D4 6 rfl) ?_
  refine cY (ι:=GCluster×Int×Int×Int) (fun y=>[(8,vI y.2.1)]) (fun y=>(4, .row (fW y.1 71 72 73)) :: (700,dE y.2.2.1 y.2.2.2) :: muD y.1 71 72 73) (fun y=>jD y.1∧(0≤y.2.1∧y.2.1≤10)∧0≤y.2.2.1∧y.2.2.1≤n) (fun y=>y.2.1.toNat) (K,nn.1,nn.2.1,nn.2.2) [4,700,71,72,73] [71,72,73] rfl rfl ⟨hX,by dsimp only;omega,nn2,nn3⟩ wF ⟨⟨_,rfl,aCt _⟩,⟨_,rfl,aCt _⟩,⟨_,rfl,lY⟩,wM⟩ ?_
  clear hX
  rintro ⟨K,m,i3,i4⟩ ⟨u1,u2,u3,u4⟩
  dsimp only at u1 u2 u3 u4 ⊢
  have hKb:=fI u1
  refine aF ?_
  refine aI (fun e4=>?_) (fun _=>?_)
  ·refine aF ?_
   refine aR (aCv 901 81 (aCv 902 82 (aCv 903 83 (vY K hKb id)))) fun _ _=>?_
   refine aN ?_
   have hA:=IS K id
   generalize (bZ K id).1=K2 at hA
   generalize (bZ K id).2=w2
   refine aQ (fun _=>?_) (fun _=>?_)
   ·refine aF ?_
    refine bC (bL 71 81) ?_
    refine bC (bL 72 82) ?_
    refine bC (bL 73 83) ?_
    exact bN (K2,m - 1,i3,i4) ⟨hA,by dsimp only;omega,u3,u4⟩ (by dsimp only;omega) wF ⟨⟨_,rfl,aCt _⟩,⟨_,rfl,aCt _⟩,⟨_,rfl,lY⟩,wM⟩
   ·refine aF ?_
    exact aL (K,m - 1,i3,i4) ⟨u1,by dsimp only;omega,u3,u4⟩ (by dsimp only;omega)
  refine aF ?_
  refine bC (bL 61 71) ?_
  refine bC (bL 62 72) ?_
  refine bC (bL 63 73) ?_
  exact aL (K,i3,i4) ⟨u1,u3,u4⟩ Nat.zero_lt_one
 clear a1 a2 a3
 rintro ⟨k,i3,i4⟩ ⟨u1,u2,u3⟩
 dsimp only at u1 u2 u3 ⊢
 refine aZ ?_
 refine bB (bL 61 901) ?_
 refine bB (bL 62 902) ?_
 refine bB (bL 63 903) ?_
 refine aC ((k,id,i3,i4)) [(2,some 28),(3,none)] ?_ ?_ ?_
 ·exact aCu _
 ·exact wM
 ·exact ⟨u1,u2,u3⟩
abbrev Q0 (P:Program) (f:Nat) (n:Nat) (β:Nat→Int):Prop :=
 Con P f [701] [.a (.g 701)] [(701,rD n β)] (fun y:GCluster=>jD y) (fun y=>[iC y 901 902 903]) fun y=>muD y 901 902 903
theorem tL {n:Nat} {β:Nat→Int} (hn:n≤1048576) (hβ:eS β):A7 Tryz.prog 50 n β:=by
 refine aE Tryz.func50 fun B0 r_ D_ w0=>?_
 refine aF ?_
 refine aR (mG hn hβ) fun h0 _=>?_
 refine aN ?_
 refine aR (nk:=[700,61,62,63]) (aCv 901 61 (aCv 902 62 (aCv 903 63 (XQ hn hβ 0 h0 (Int.le_refl _) (Int.natCast_nonneg _))))) fun y ⟨y1,y2,y3⟩=>?_
 obtain ⟨k,id,i1,i2⟩:=y
 dsimp only at y1 y2 y3 ⊢
 have ht:k.txs.length≤60000:=by have:=y1.1;unfold iL wL at this;omega
 refine aN ?_
 refine aK (ι:=Int×Nat×Int×Int) (fun y=>[(6,vI y.1),(7,vI y.2.1)]) (fun y=>[(700,dE y.2.2.1 y.2.2.2)]) (fun y=>y.2.1≤k.txs.length∧0≤y.2.2.1∧y.2.2.1≤n) (fun y=>k.txs.length - y.2.1) (id,0,i1,i2) [700] [] ⟨Nat.zero_le _,y2,y3⟩ ?_
 rintro ⟨id,j,i3,i4⟩ ⟨u1,u2,u3⟩
 dsimp only at u1 u2 u3 ⊢
 refine aF ?_
 refine aI (fun e=>?_) (fun e=>?_)
 ·have hj:j<k.txs.length:=by omega
  by_cases hz:(bif (bif ((k.txs.getD j aCk).phase != 1) then ((k.txs.getD j aCk).phase != 7) else false) then ((k.txs.getD j aCk).phase != 9) else false)=true
  ·refine aF ?_
   refine cO TT_ok (d9 hn hβ i3 i4 u2 u3 2) rfl rfl (aCu _) (fun _=>rfl) rfl rfl rfl (fun z ⟨z1,z2,z3⟩=>?_) (hg:=⟨rfl,congrArg (fun x=>some (vB x)) hz⟩)
   refine aN ?_
   refine bX (b:=z.1) (by show some (SV.a (.v (.bool (bif _ then z.1 else false))))=_;rw [show (bif (bif ((k.txs.getD (j:Int).toNat aCk).phase != 1) then ((k.txs.getD (j:Int).toNat aCk).phase != 7) else false) then ((k.txs.getD (j:Int).toNat aCk).phase != 9) else false)=true from hz];rfl) (fun _=>?_) (fun _=>?_)
   ·refine aF ?_
    exact aL (_,j+1,z.2.1,z.2.2) ⟨hj,z2,z3⟩ (by dsimp only;omega)
   ·refine aF ?_
    exact aL (id,j+1,z.2.1,z.2.2) ⟨hj,z2,z3⟩ (by dsimp only;omega)
  ·have hz':(bif (bif ((k.txs.getD (j:Int).toNat aCk).phase != 1) then ((k.txs.getD (j:Int).toNat aCk).phase != 7) else false) then ((k.txs.getD (j:Int).toNat aCk).phase != 9) else false) = !true:=by
    have:((j:Int)).toNat=j:=rfl
    rw [this];simpa using hz
   refine aF ?_
   refine lK (vB true) rfl rfl rfl rfl (hz') rfl rfl ?_
   refine aN ?_
   refine bX (b:=false) (by show some (SV.a (.v (.bool (bif _ then true else false))))=_;rw [hz'];rfl) (fun e=>by cases e) (fun _=>?_)
   refine aF ?_
   exact aL (id,j+1,i3,i4) ⟨hj,u2,u3⟩ (by dsimp only;omega)
 ·refine aF ?_
  refine bB (bL 61 901) ?_
  refine bB (bL 62 902) ?_
  refine bB (bL 63 903) ?_
  refine aC ((k,id)) [(2,some 28),(3,none)] ?_ ?_ ?_
  ·exact aCu _
  ·exact wM
  ·exact y1
end
section
theorem N9 {n:Nat} {β:Nat→Int} (hn:n≤1048576) (hβ:eS β):Con Tryz.prog 22 [701] [.a (.g 701)] [(701,rD n β)] (fun y:List Int=>y.length≤3) (fun _=>[.a (.g 900)]) fun y=>[(900,bE 1 bS 0 y)]:=by
 refine aE Tryz.func22 fun B0 r_ D_ w0=>?_
 refine aF ?_
 refine aR (mG hn hβ) fun h0 _=>?_
 refine aN ?_
 refine aM 20 (fun i=>bS (([]:List Int).getD i 0)) (fun i hi=>absurd hi (Nat.not_lt_zero _)) (mu1:=[]) ?_
 refine aN ?_
 refine aR (bR hn hβ 0 h0 (Int.le_refl _) (Int.natCast_nonneg _) 4) fun a ⟨a1,a2,a3⟩=>?_
 refine aN ?_
 refine cY (ι:=List Int×Int×Int×Int) (fun y=>[(4, .a (.g 20)),(5,vI y.2.1)]) (fun y=>[(20,bE 1 bS 0 y.1),(700,dE y.2.2.1 y.2.2.2)]) (fun y=>((y.1.length:Int)+y.2.1≤3∧0≤y.2.1)∧0≤y.2.2.1∧y.2.2.1≤n) (fun y=>y.2.1.toNat) ([],a.1,a.2.1,a.2.2) [20,700] [20] rfl rfl ⟨⟨by simp only [List.length_nil];omega,by dsimp only;omega⟩,a2,a3⟩ wF wM ?_
 rintro ⟨l,m,i1,i2⟩ ⟨⟨q1,q2⟩,q3,q4⟩
 dsimp only at q1 q2 q3 q4 ⊢
 refine aF ?_
 refine aI (fun e=>?_) (fun e=>?_)
 ·refine aF ?_
  refine aR (bR hn hβ i1 i2 q3 q4 3) fun b ⟨b1,b2,b3⟩=>?_
  refine aN ?_
  refine aR (d9 hn hβ b.2.1 b.2.2 b2 b3 6) fun c ⟨c1,c2,c3⟩=>?_
  refine aN ?_
  refine a7 (ι:=Int×Int×Int) (fun y=>[(6,vI y.1)]) (fun y=>[(700,dE y.2.1 y.2.2)]) (fun y=>0≤y.2.1∧y.2.1≤n) [700] [] ?_ ?_
  ·refine aA (fun _=>?_) (fun _=>?_)
   ·refine aF ?_
    refine aM 50 (fun i=>bS (([0,1,5, -1]:List Int).getD i 0)) (qW rfl rfl rfl rfl) (mu1:=[]) ?_
    refine aN ?_
    refine aR (bR hn hβ c.2.1 c.2.2 c2 c3 4) fun z ⟨z1,z2,z3⟩=>?_
    refine aN ?_
    exact aL (([0,1,5, -1]:List Int).getD z.1.toNat 0,z.2.1,z.2.2) ⟨z2,z3⟩ Nat.zero_lt_one
   ·refine aF ?_
    exact aL (2+b.1,c.2.1,c.2.2) ⟨c2,c3⟩ Nat.zero_lt_one
  rintro ⟨v,i3,i4⟩ ⟨u1,u2⟩
  dsimp only at u1 u2 ⊢
  refine aZ ?_
  refine cV TT_ok 28 (fun _=>bS v) rfl rfl rfl rfl rfl rfl rfl (fun j hj=>by rcases j with _ | j <;>first | rfl | omega) (mu1:=[]) rfl rfl rfl ?_
  refine aN ?_
  refine cU TT_ok 20 28 29 rfl rfl rfl rfl rfl rfl rfl rfl rfl rfl rfl rfl ⟨by show (l.length+1) * 8≤_;omega,by unfold maxL;omega⟩ ?_
  refine aN ?_
  refine bC (bL 20 29) ?_
  exact bN (l ++ [v],m - 1,i3,i4) ⟨⟨by simp;omega,by dsimp only;omega⟩,u1,u2⟩ (by dsimp only;omega) wF ⟨⟨_,rfl,aS rfl⟩,wM⟩
 ·refine aF ?_
  refine bB (bL 20 900) ?_
  refine aC (l) [(2,none)] ?_ ?_ ?_
  ·exact aCu _
  ·exact wM
  ·show l.length≤3;omega
theorem C1 {n:Nat} {β:Nat→Int} (hn:n≤1048576) (hβ:eS β):Q0 Tryz.prog 44 n β:=by
 refine aE Tryz.func44 fun B0 r_ D_ w0=>?_
 refine aF ?_
 refine aR (mG hn hβ) fun h0 _=>?_
 refine aN ?_
 refine aR (nk:=[61,62,63]) (aCv 901 61 (aCv 902 62 (aCv 903 63 (tL hn hβ)))) fun y y1=>?_
 obtain ⟨k,id⟩:=y
 dsimp only at y1 ⊢
 refine aN ?_
 refine aR (bR hn hβ 0 h0 (Int.le_refl _) (Int.natCast_nonneg _) 3) fun nn ⟨nn1,nn2,nn3⟩=>?_
 refine aN ?_
 refine cY (ι:=GCluster×Int×Int×Int) (fun y=>[(6,vI y.2.1)]) (fun y=>(4, .row (fW y.1 61 62 63)) :: (700,dE y.2.2.1 y.2.2.2) :: muD y.1 61 62 63) (fun y=>jD y.1∧(0≤y.2.1∧y.2.1≤3)∧0≤y.2.2.1∧y.2.2.1≤n) (fun y=>y.2.1.toNat) (k,nn.1,nn.2.1,nn.2.2) [4,700,61,62,63] [61,62,63] rfl rfl ⟨y1,by dsimp only;omega,nn2,nn3⟩ wF wM ?_
 clear y1
 rintro ⟨k,m,i3,i4⟩ ⟨y1,u2,u3,u4⟩
 dsimp only at y1 u2 u3 u4 ⊢
 have hb:=fI y1
 refine aF ?_
 refine aI (fun e4=>?_) (fun _=>?_)
 ·refine aF ?_
  refine a7 (ι:=Int×Int×Int) (fun _=>[(7, .a (.p 7 0))]) (fun y=>[(7, .row (fW (fR k y.1).1 71 72 73)),(71,bE 1 cE aCi (fR k y.1).1.places),(72,bE 4 bJ aCj (fR k y.1).1.machines),(73,bE 7 cTx aCk (fR k y.1).1.txs),(700,dE y.2.1 y.2.2)]) (fun y=>0≤y.2.1∧y.2.1≤n) [700] [] ?_ ?_
  ·refine aW [700] [0,1,2,3,4,5,6,7,8,9] fun B0 H0=>?_
   refine eU 2 7 rfl rfl (by kernel_rfl) (gG (nk:=[700]) (bR hn hβ i3 i4 u3 u4 5) rfl rfl (aCu _) (fun _=>rfl) rfl rfl rfl (fun r ⟨r1,r2,r3⟩=>bD ?_)) (aV (bD ?_))
   ·skip
    refine eU 3 7 rfl rfl (by kernel_rfl) (gG (aCv 901 71 (aCv 902 72 (aCv 903 73 (l9 k hb r.1 (fY k hb))))) rfl rfl (aCu _) (fun _=>rfl) rfl rfl rfl (fun _ _=>bD ?_)) (aV (bD ?_))
    ·refine aY [4,5,6,7,8,9] ?_
     refine bG 7 rfl (by kernel_rfl) (aV (bD ?_))
     refine bG 8 rfl (by kernel_rfl) (aV (bD ?_))
     refine aY [9] ?_
     refine aP ?_
     exact aL (r.1,r.2.1,r.2.2) ⟨r2,r3⟩ Nat.zero_lt_one
    ·skip
     refine aX 3 (aCv 901 71 (aCv 902 72 (aCv 903 73 (l9 k hb r.1 (fY k hb))))) fun _ _=>?_
     refine aY [4,5,6,8,9] ?_
     refine bG 8 rfl (by kernel_rfl) (aV (bD ?_))
     refine aY [9] ?_
     refine aP ?_
     exact aL (r.1,r.2.1,r.2.2) ⟨r2,r3⟩ Nat.zero_lt_one
   ·skip
    refine aX (nk:=[700]) 2 (bR hn hβ i3 i4 u3 u4 5) fun r ⟨r1,r2,r3⟩=>?_
    refine aX 3 (aCv 901 71 (aCv 902 72 (aCv 903 73 (l9 k hb r.1 (fY k hb))))) fun _ _=>?_
    refine aY [4,5,6,8,9] ?_
    refine bG 8 rfl (by kernel_rfl) (aV (bD ?_))
    refine aY [9] ?_
    refine aP ?_
    exact aL (r.1,r.2.1,r.2.2) ⟨r2,r3⟩ Nat.zero_lt_one
  rintro ⟨q,i5,i6⟩ ⟨v1,v2⟩
  dsimp only at v1 v2 ⊢
  have hA:=CE k q
  generalize (fR k q).1=K2 at hA
  refine aZ ?_
  refine aI (fun _=>?_) (fun _=>?_)
  ·refine aF ?_
   refine bC (bL 61 71) ?_
   refine bC (bL 62 72) ?_
   refine bC (bL 63 73) ?_
   exact bN (K2,m - 1,i5,i6) ⟨hA,by dsimp only;omega,v1,v2⟩ (by dsimp only;omega) wF ⟨⟨_,rfl,aCt _⟩,⟨_,rfl,aCt _⟩,⟨_,rfl,lY⟩,wM⟩
  ·refine aF ?_
   exact aL (k,m - 1,i5,i6) ⟨y1,by dsimp only;omega,v1,v2⟩ (by dsimp only;omega)
 ·refine aF ?_
  refine bB (bL 61 901) ?_
  refine bB (bL 62 902) ?_
  refine bB (bL 63 903) ?_
  refine aC (k) [(2,some 28)] ?_ ?_ ?_
  ·exact aCu _
  ·exact wM
  ·exact y1
theorem NM {n:Nat} {β:Nat→Int} (hn:n≤1048576) (hβ:eS β):Q0 Tryz.prog 47 n β:=by
 refine aE Tryz.func47 fun B0 r_ D_ w0=>?_
 refine aF ?_
 refine aR (mG hn hβ) fun h0 _=>?_
 refine aN ?_
 refine aR (nk:=[61,62,63]) (aCv 901 61 (aCv 902 62 (aCv 903 63 (C1 hn hβ)))) fun k y1=>?_
 have hb:=fI y1
 refine aN ?_
 refine aR (d9 hn hβ 0 h0 (Int.le_refl _) (Int.natCast_nonneg _) 3) fun a ⟨a1,a2,a3⟩=>?_
 refine aN ?_
 refine aA (fun _=>?_) (fun _=>?_)
 ·refine aF ?_
  refine bB (bL 61 901) ?_
  refine bB (bL 62 902) ?_
  refine bB (bL 63 903) ?_
  refine aC (k) [(2,some 28)] ?_ ?_ ?_
  ·exact aCu _
  ·exact wM
  ·exact y1
 refine aF ?_
 refine aR (aCv 901 71 (aCv 902 72 (aCv 903 73 (uZ k hb)))) fun _ _=>?_
 refine aN ?_
 have hX:=CV k
 generalize eZ k=K at hX
 refine cY (ι:=GCluster×Nat) (fun y=>[(6,vI y.2)]) (fun y=>(5, .row (fW y.1 71 72 73)) :: muD y.1 71 72 73) (fun y=>jD y.1∧y.2≤60000) (fun y=>60000 - y.2) (K,0) [5,71,72,73] [71,72,73] rfl rfl ⟨hX,Nat.zero_le _⟩ wF ⟨⟨_,rfl,aCt _⟩,⟨_,rfl,lY⟩,wM⟩ ?_
 clear hX
 rintro ⟨K,j⟩ ⟨u1,u2⟩
 dsimp only at u1 u2 ⊢
 have hKb:=fI u1
 have ht:K.txs.length≤60000:=by have:=u1.1;unfold iL wL at this;omega
 refine aF ?_
 refine aI (fun e=>?_) (fun _=>?_)
 ·have hj:j<K.txs.length:=by omega
  refine aF ?_
  refine a7 (ι:=Unit) (fun _=>[(7, .a (.p 7 0))]) (fun y=>[(7, .row (fW (cM K (K.txs.getD j aCk).id).1 81 82 83)),(81,bE 1 cE aCi (cM K (K.txs.getD j aCk).id).1.places),(82,bE 4 bJ aCj (cM K (K.txs.getD j aCk).id).1.machines),(83,bE 7 cTx aCk (cM K (K.txs.getD j aCk).id).1.txs)]) (fun _=>True) [] [] ?_ ?_
  ·refine aW [] [0,1,2,3,4,5,6,7,8,9,10,11,12,13] fun B0 H0=>?_
   refine eU 7 11 rfl rfl (by kernel_rfl) (gG (aCv 901 81 (aCv 902 82 (aCv 903 83 (rU K hKb (K.txs.getD j aCk).id)))) rfl rfl (aCu _) (fun _=>rfl) rfl rfl rfl (fun _ _=>bD ?_)) (aV (bD ?_))
   ·refine aY [8,9,10,11,12,13] ?_
    refine bG 11 rfl (by kernel_rfl) (aV (bD ?_))
    refine bG 12 rfl (by kernel_rfl) (aV (bD ?_))
    refine aY [13] ?_
    refine aP ?_
    exact aL () trivial Nat.zero_lt_one
   ·skip
    refine aX 7 (aCv 901 81 (aCv 902 82 (aCv 903 83 (rU K hKb (K.txs.getD j aCk).id)))) fun _ _=>?_
    refine aY [8,9,10,12,13] ?_
    refine bG 12 rfl (by kernel_rfl) (aV (bD ?_))
    refine aY [13] ?_
    refine aP ?_
    exact aL () trivial Nat.zero_lt_one
  rintro ⟨⟩ _
  have hA:=EF K (K.txs.getD j aCk).id
  generalize (cM K (K.txs.getD j aCk).id).1=K2 at hA
  refine aZ ?_
  refine aI (fun _=>?_) (fun _=>?_)
  ·refine aF ?_
   refine bC (bL 71 81) ?_
   refine bC (bL 72 82) ?_
   refine bC (bL 73 83) ?_
   exact bN (K2,j+1) ⟨hA,by dsimp only;omega⟩ (by dsimp only;omega) wF ⟨⟨_,rfl,aCt _⟩,⟨_,rfl,lY⟩,wM⟩
  ·refine aF ?_
   exact aL (K,j+1) ⟨u1,by dsimp only;omega⟩ (by dsimp only;omega)
 ·refine aF ?_
  refine bB (bL 71 901) ?_
  refine bB (bL 72 902) ?_
  refine bB (bL 73 903) ?_
  refine aC (K) [(2,some 28)] ?_ ?_ ?_
  ·exact aCu _
  ·exact wM
  ·exact u1
end
section
theorem RS (c:GCluster):((¬ ClusOk c∨c.config=1000000)∧eZ c=aCl)∨(ClusOk c∧c.config≠1000000∧eZ c = { c with lost:=true })∨(ClusOk c∧c.config≠1000000∧(jU c).length=0∧eZ c=j9 c):=by
 by_cases h:ClusOk c∧c.config≠1000000
 ·right
  by_cases h2:(jU c).length=0
  ·exact .inr ⟨h.1,h.2,h2,uK h.1 h.2 h2⟩
  ·left
   have h3:(g8 (fQ c) c.places c.places.length).length > 0:=Nat.pos_of_ne_zero h2
   exact ⟨h.1,h.2,by unfold eZ;rw [if_pos h,if_pos h3]⟩
 ·left
  refine ⟨?_,xH h⟩
  by_cases h1:ClusOk c
  ·right
   by_cases h2:c.config=1000000
   ·exact h2
   ·exact absurd ⟨h1,h2⟩ h
  ·exact .inl h1
theorem YL {c:GCluster} (hok:ClusOk c):(j9 c).txs.length=c.txs.length:=(qS hok c.txs.length (Nat.le_refl _)).len
theorem RX {n:Nat} {β:Nat→Int} (hβ:eS β):Ans Tryz.prog 7 [701] [.a (.g 701)] [(701,rD n β)] (vB true):=by
 refine aE Tryz.func7 fun B0 r_ D_ w0=>?_
 refine aF ?_
 refine aH (CI n _) ?_
 refine aI (fun e=>?_) (fun e=>?_)
 ·refine aF ?_
  exact aG [(2,none)] (rfl)
 have hn:n≤1048576:=by omega
 refine aF ?_
 refine aR (nk:=[61,62,63]) (aCv 901 61 (aCv 902 62 (aCv 903 63 (C1 hn hβ)))) fun c y1=>?_
 have hb:=fI y1
 have hX:=fI (CV c)
 refine aN ?_
 refine aR (aCv 901 71 (aCv 902 72 (aCv 903 73 (KI c hb)))) fun _ _=>?_
 refine aN ?_
 refine aW [] [0,1,2,3,4] fun B0 H0=>?_
 refine aX 2 (aCv 901 81 (aCv 902 82 (aCv 903 83 (uZ c hb)))) fun _ _=>?_
 refine z5 3 (fZ (eZ c) hX) rfl rfl rfl rfl rfl ?_
 refine aY [4] ?_
 refine tZ TT_ok rfl ?_
 refine aP ?_
 refine bX rfl (fun e=>by simp at e) (fun _=>?_)
 refine aF ?_
 refine aR (nk:=[64,65,66]) (aCv 901 64 (aCv 902 65 (aCv 903 66 (NM hn hβ)))) fun s y2=>?_
 have hs:=fI y2
 refine aN ?_
 refine aW [] [0,2,1,3,4] fun B0 H0=>?_
 refine fU 1 (K4 s hs) rfl rfl rfl (aCu _) rfl ?_
 refine fU 3 (KA s hs) rfl rfl rfl (aCu _) rfl ?_
 refine aY [4] ?_
 refine aP ?_
 refine bX rfl (fun e=>by simp at e) (fun _=>?_)
 refine aF ?_
 rcases RS c with ⟨h1,h2⟩ | ⟨hok,h1,h2⟩ | ⟨hok,h1,h3,h2⟩
 ·rw [h2]
  refine bX rfl (fun _=>?_) (fun e=>by cases e)
  refine aF ?_
  refine aH (mM c hb) ?_
  have hfin:(bif !dec (ClusOk c) then true else c.config == 1000000)=true:=by
   rcases h1 with h1 | h1
   ·rw [b7 h1];rfl
   ·rw [h1];cases dec (ClusOk c) <;>rfl
  exact aG [(2,none)] (hfin)
 ·have hm:=hok.1.2.2.1
  rw [h2] at hX ⊢
  refine s6 rfl (fun e=>absurd (show (c.machines.length:Int)=0 from e) (by omega)) (fun _=>?_)
  refine aF ?_
  by_cases hl:c.lost=true
  ·refine bX (b:=false) (by show some (SV.a (.v (.bool (bif true then !c.lost else false))))=_;rw [hl];rfl) (fun e=>by cases e) (fun _=>?_)
   refine aF ?_
   refine aQ (fun _=>?_) (fun e=>absurd rfl e)
   refine aF ?_
   have hL:=r9 { c with lost:=true } c hX
   rw [cN (show { c with lost:=true } = c from by cases c;simp_all)] at hL
   refine aH (hL) ?_
   exact aG [(2,none)] (rfl)
  ·have hl:c.lost=false:=by simpa using hl
   refine bX (b:=true) (by show some (SV.a (.v (.bool (bif true then !c.lost else false))))=_;rw [hl];rfl) (fun _=>?_) (fun e=>by cases e)
   refine aF ?_
   have hL:=r9 { c with lost:=false } c hX
   rw [cN (show { c with lost:=false } = c from by cases c;simp_all)] at hL
   refine aH (hL) ?_
   exact aG [(2,none)] (rfl)
 have hokX:=TJ hok h1 h3
 have hXm:=hokX.1.2.2.1
 have htl:=YL hok
 have hct:c.txs.length≤60:=hok.1.2.2.2
 have hcf:1≤c.config∧c.config≤1000000:=hok.1.1
 rw [h2] at hX ⊢
 refine s6 rfl (fun e=>absurd (show ((j9 c).machines.length:Int)=0 from e) (by omega)) (fun _=>?_)
 refine aF ?_
 refine bX (b:=false) (by show some (SV.a (.v (.bool (bif c.lost then !c.lost else false))))=_;cases c.lost <;>rfl) (fun e=>by cases e) (fun _=>?_)
 refine aF ?_
 refine s6 rfl (fun e=>absurd (show c.config+1=c.config from e) (by omega)) (fun _=>?_)
 refine aF ?_
 refine aK (ι:=Nat) (fun i=>[(6,vI i)]) (fun _=>[]) (fun i=>i≤(j9 c).txs.length) (fun i=>(j9 c).txs.length - i) 0 [] [] (Nat.zero_le _) ?_
 intro i g1
 refine aF ?_
 refine aI (fun e2=>?_) (fun e2=>?_)
 ·have hi:i<(j9 c).txs.length:=by omega
  have hS:=zW (j9 c) hX ((j9 c).txs.getD i aCk).id
  have hS0:nQ (j9 c) ((j9 c).txs.getD i aCk).id=false:=by
   unfold nQ
   split
   ·rename_i hq
    have hin:=(dW hq.2).1
    exact ZR hok h3 (by rw [← htl];exact hin)
   ·rfl
  rw [hS0] at hS
  refine aF ?_
  refine aW [] [0,1,2,3,4,5,6,7] fun B0 H0=>?_
  refine fU 7 (hS) rfl rfl rfl (aCu _) rfl ?_
  refine aP ?_
  refine bX rfl (fun e=>by cases e) (fun _=>?_)
  refine aF ?_
  exact aL (i+1) hi (by omega)
 clear g1 e2
 have hpl:(j9 c).places.length=c.places.length:=by show (bK c).length=_;exact List.length_map _
 have hp6:c.places.length≤6:=hok.2.1.1.2
 refine aF ?_
 refine aK (ι:=Nat) (fun i=>[(7,vI i)]) (fun _=>[]) (fun i=>i≤(j9 c).places.length) (fun i=>(j9 c).places.length - i) 0 [] [] (Nat.zero_le _) ?_
 intro r g1
 refine aF ?_
 refine aI (fun e2=>?_) (fun e2=>?_)
 ·have hr:r<(j9 c).places.length:=by omega
  have hr':r<c.places.length:=by omega
  have hk3:=hokX.pl hr
  refine aF ?_
  refine aK (ι:=Nat) (fun i=>[(8,vI i)]) (fun _=>[]) (fun i=>i≤((j9 c).places.getD r aCi).machines.length) (fun i=>((j9 c).places.getD r aCi).machines.length - i) 0 [] [] (Nat.zero_le _) ?_
  intro k g2
  refine aF ?_
  refine aI (fun e3=>?_) (fun e3=>?_)
  ·simp only [Int.toNat_natCast] at e3
   have hk:k<((j9 c).places.getD r aCi).machines.length:=by
    show k<((bK c).getD r aCi).machines.length
    omega
   have hat:=(hokX.at hr hk).1
   have hal:=JP hok h3 hr' hk
   refine aF ?_
   refine aW [] [0,1,2,3,4,5,6,7,8,9,10,11,12,13,14] fun B0 H0=>?_
   refine aP ?_
   refine bX (b:=false) (by show some (SV.a (.v (.bool (!((j9 c).machines.getD (((bK c).getD r aCi).machines.getD k 0).toNat aCj).alive))))=_;rw [hal];rfl) (fun e=>by cases e) (fun _=>?_)
   refine aF ?_
   exact aL (k+1) hk (by omega)
  ·refine aF ?_
   exact aL (r+1) hr (by omega)
 ·refine aF ?_
  refine aH (sX (j9 c) hX hokX) ?_
  exact b9 TT_ok [(2,none)] rfl rfl ((by simp))
end
end Go.Proofs.YtnffflcjaipdkaaGreat
