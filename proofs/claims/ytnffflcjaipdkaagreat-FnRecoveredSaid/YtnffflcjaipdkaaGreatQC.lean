/-
  What the claim leans on, made short by program.
-/
import Derived.Test.YtnffflcjaipdkaaGreatQB
import Derived.Test.YtnffflcjaipdkaaGreatProg
namespace Go.Proofs.YtnffflcjaipdkaaGreat
open Go Go.RowKit
set_option linter.unusedVariables false
set_option linter.unusedSimpArgs false
set_option maxRecDepth 4000
section
section
def bsV (sz:Nat):List (Nat×SV)→List V→Option (List V)
 | [],l=>some l
 | (i,x) :: r,l=>match x.cells with
  | some vs=>bif nO vs sz then match eV l (i * sz) vs with
    | some l'=>bsV sz r l'
    | none=>none
   else none
  | none=>none
def oY (mu:Mu):List V→Option (List D×List Nat)
 | []=>some ([],[])
 | .v x :: r=>match oY mu r with
  | some (l,ks)=>bif eQ x then some (.v x :: l,ks) else none
  | none=>none
 | .g k :: r=>match mlk k mu,oY mu r with
  | some (.arr sz n f),some (l,ks)=>bif bF k ks then none else some (.sl sz n f :: l,k :: ks)
  | _,_=>none
 | _ :: _=>none
def unK (H:Nat→PH):List Nat→PH
 | []=>PH.emp
 | k :: r=>(H k).un (unK H r)
theorem VP {H:Nat→PH} (d:∀ j k,j≠k→(H j).dj (H k)) {k:Nat}:∀ {ks:List Nat},bF k ks=false→(H k).dj (unK H ks)
 | [],_=>PH.dj_emp _
 | j :: r,h=>by
  simp only [bF] at h
  cases c:Nat.beq j k with
  | true=>rw [c] at h;cases h
  | false =>
   rw [c] at h
   exact PH.dj_un (d k j (fun e=>by rw [e,Nat.beq_refl] at c;cases c)) (VP d h)
theorem SR {H:Nat→PH} {w:World} (f:∀ k,FitO (H k) w):∀ ks:List Nat,FitO (unK H ks) w
 | []=>FitO.emp w
 | k :: r=>(f k).un (SR f r)
theorem WL {H:Nat→PH} {b o:Nat}:∀ {ks:List Nat},unK H ks b o≠none→∃ k,bF k ks=true∧H k b o≠none
 | [],h=>absurd rfl h
 | k :: r,h=>by
  rcases PH.un_ne h with h | h
  ·exact ⟨k,by simp [bF,Nat.beq_refl],h⟩
  ·obtain ⟨j,j1,j2⟩:=WL h
   exact ⟨j,by simp only [bF,j1];cases Nat.beq k j <;>rfl,j2⟩
theorem KU {B:BE} {r:PH} {mu:Mu} {w:World} {H:Nat→PH} (m:Mm B r mu w H) {Z:Tg→PH}:∀ {l:List V} {ds:List D} {ks:List Nat},oY mu l=some (ds,ks)→∀ {vs:List Value},V.rels B Z l vs→D.owns (unK H ks) ds vs
 | [],ds,ks,h,vs,e=>by simp [oY] at h;obtain ⟨rfl,rfl⟩:=h;exact e
 | x :: l,ds,ks,h,vs,e=>by
  obtain ⟨v,t,rfl,e2,e3⟩:=e
  cases x with
  | v x =>
   simp only [oY] at h
   split at h
   ·rename_i l' ks' c
    cases c2:eQ x with
    | false=>rw [c2] at h;cases h
    | true =>
     rw [c2] at h;simp at h;obtain ⟨rfl,rfl⟩:=h
     exact ⟨v,t,PH.emp,_,rfl,PH.emp_le _,PH.le_refl _,PH.emp_dj _,e2,KU m c e3⟩
   ·cases h
  | g k =>
   simp only [oY] at h
   split at h
   ·rename_i sz n f l' ks' c1 c
    cases c2:bF k ks' with
    | true=>rw [c2] at h;cases h
    | false =>
     rw [c2] at h;simp at h;obtain ⟨rfl,rfl⟩:=h
     have d:=VP m.dj c2
     have e2:v=B k:=e2.1
     refine ⟨v,t,H k,unK H ks',rfl,PH.le_un_left _ _,PH.le_un_right d,d,?_,KU m c e3⟩
     rw [e2];exact m.sat k _ c1
   ·cases h
  | _=>simp [oY] at h
theorem HI {B:BE} {mu:Mu} {Z:Tg→PH}:∀ {l:List V} {ds:List D} {ks:List Nat},oY mu l=some (ds,ks)→∀ {vs:List Value},V.rels B Z l vs→∀ v ∈ vs,eQ v=true
 | [],ds,ks,h,vs,e,v,hv=>by have e:vs=[]:=e;rw [e] at hv;cases hv
 | x :: l,ds,ks,h,vs,e,u,hu=>by
  obtain ⟨v,t,rfl,e2,e3⟩:=e
  cases x with
  | v x =>
   simp only [oY] at h
   split at h
   ·rename_i l' ks' c
    cases c2:eQ x with
    | false=>rw [c2] at h;cases h
    | true =>
     cases hu with
     | head=>have e2:u=x:=e2;rw [e2];exact c2
     | tail _ hu=>exact HI c e3 u hu
   ·cases h
  | g k =>
   simp only [oY] at h
   split at h
   ·rename_i sz n f l' ks' c1 c
    cases hu with
    | head=>exact e2.2
    | tail _ hu=>exact HI c e3 u hu
   ·cases h
  | _=>simp [oY] at h
theorem JG {h:PH}:∀ {l m:List D} {vs:List Value},D.owns h (l ++ m) vs→∃ v1 v2 h1 h2,vs=v1 ++ v2∧h1.le h∧h2.le h∧h1.dj h2∧D.owns h1 l v1∧D.owns h2 m v2
 | [],m,vs,e=>⟨[],vs,PH.emp,h,rfl,PH.emp_le _,PH.le_refl _,PH.emp_dj _,rfl,e⟩
 | x :: l,m,vs,e=>by
  obtain ⟨a,t,g1,g2,rfl,e2,e3,e4,e5,e6⟩:=e
  obtain ⟨v1,v2,h1,h2,rfl,q1,q2,q3,q4,q5⟩:=JG e6
  exact ⟨a :: v1,v2,g1.un h1,h2,rfl,PH.un_le e2 (PH.le_trans q1 e3),PH.le_trans q2 e3,PH.un_dj (PH.dj_le e4 (PH.le_refl _) q2) q3,⟨a,v1,g1,h1,rfl,PH.le_un_left _ _,PH.le_un_right (PH.dj_le e4 (PH.le_refl _) q1),PH.dj_le e4 (PH.le_refl _) q1,e5,q4⟩,q5⟩
theorem L6 (sz:Nat):∀ (n:Nat) {h:PH} {F:List D} {vs:List Value},D.owns h F vs→F.length=n * sz→∃ G:Nat→PH,(∀ i,(G i).le h)∧(∀ i j,i≠j→(G i).dj (G j))∧∀ i,i<n→D.owns (G i) ((F.drop (i * sz)).take sz) ((vs.drop (i * sz)).take sz)
 | 0,h,F,vs,e,hl=>⟨fun _=>PH.emp,fun _=>PH.emp_le _,fun _ _ _=>PH.emp_dj _,fun i hi=>absurd hi (Nat.not_lt_zero _)⟩
 | n+1,h,F,vs,e,hl=>by
  rw [← List.take_append_drop sz F] at e
  obtain ⟨v1,v2,h1,h2,rfl,q1,q2,q3,q4,q5⟩:=JG e
  rw [Nat.add_mul,Nat.one_mul] at hl
  have l1:v1.length=sz:=by rw [D.owns_length q4,List.length_take];omega
  obtain ⟨G,g1,g2,g3⟩:=L6 sz n q5 (by rw [List.length_drop];omega)
  refine ⟨fun i=>match i with | 0=>h1 | i+1=>G i,fun i=>?_,fun i j hij=>?_,fun i hi=>?_⟩
  ·cases i with
   | zero=>exact q1
   | succ i=>exact PH.le_trans (g1 i) q2
  ·cases i with
   | zero =>
    cases j with
    | zero=>exact absurd rfl hij
    | succ j=>exact PH.dj_le q3 (PH.le_refl _) (g1 j)
   | succ i =>
    cases j with
    | zero=>exact PH.dj_symm (PH.dj_le q3 (PH.le_refl _) (g1 i))
    | succ j=>exact g2 i j (by omega)
  ·cases i with
   | zero =>
    simp only [Nat.zero_mul,List.drop_zero]
    rw [← l1,List.take_left,l1];exact q4
   | succ i =>
    have:=g3 i (by omega)
    rw [List.drop_drop] at this
    have e2:sz+i * sz=(i+1) * sz:=by rw [Nat.add_mul,Nat.one_mul];omega
    have e3:(v1 ++ v2).drop ((i+1) * sz)=v2.drop (i * sz):=by rw [← e2,List.drop_append,List.drop_eq_nil_of_le (by omega),List.nil_append];congr 1;omega
    rw [e2] at this
    show D.owns (G i) _ (((v1 ++ v2).drop ((i+1) * sz)).take sz)
    rw [e3];exact this
theorem P1 {P:Program} {B:BE} {Z:Tg→PH} {sz:Nat}:∀ {ps:List (Nat×SV)} {qs:List (Nat×Value)} {l m:List V} {vs:List Value},(qs.map (·.1)=ps.map (·.1))→SV.rels P B Z (ps.map (·.2)) (qs.map (·.2))→V.rels B Z l vs→bsV sz ps l=some m→∃ ms,Instr.fill (fun i=>some (i * sz,sz)) vs.toArray qs=some ms.toArray∧V.rels B Z m ms
 | [],qs,l,m,vs,hq,_,hl,h=>by
  have:qs=[]:=by simpa using hq
  subst this
  simp [bsV] at h;subst h;exact ⟨vs,rfl,hl⟩
 | (i,x) :: r,[],l,m,vs,hq,hr,hl,h=>by simp at hq
 | (i,x) :: r,(i',y) :: qs,l,m,vs,hq,hr,hl,h=>by
  simp only [List.map_cons,List.cons.injEq] at hq
  obtain ⟨rfl,hq⟩:=hq
  obtain ⟨y',t',e0,hx,hr⟩:=hr
  simp only [List.map_cons,List.cons.injEq] at e0
  obtain ⟨rfl,rfl⟩:=e0
  simp only [bsV] at h
  split at h
  ·rename_i cs e2
   cases e4:nO cs sz with
   | false=>rw [e4] at h;cases h
   | true =>
    rw [e4] at h
    simp only [cond_true] at h
    split at h
    ·rename_i l' e5
     have hc:=wQ e2 hx
     have hlen:=oZ _ _ e4
     have hsz:y.cells.size=sz:=by rw [← Array.length_toList,V.rels_length hc];exact hlen
     obtain ⟨ms,g1,g2⟩:=xW hl hc e5
     obtain ⟨p1,p2,_,_⟩:=nH _ _ _ _ g1
     have hA:y.cells=y.cells.toList.toArray:=by simp
     simp only [Instr.fill]
     rw [if_neg (by
      simp only [hsz,ne_eq,not_true_eq_false,decide_false,Bool.false_or,decide_eq_true_eq,List.size_toArray]
      have h9:y.cells.toList.length=sz:=by rw [Array.length_toList];exact hsz
      omega)]
     rw [hA,HW g1]
     exact P1 hq hr g2 h
    ·cases h
  ·cases h
theorem CJ {sz:Nat}:∀ {ps:List (Nat×SV)} {l m:List V},bsV sz ps l=some m→m.length=l.length
 | [],l,m,h=>by simp [bsV] at h;rw [h]
 | (i,x) :: r,l,m,h=>by
  simp only [bsV] at h
  split at h
  ·rename_i cs e2
   cases e4:nO cs sz with
   | false=>rw [e4] at h;cases h
   | true =>
    rw [e4] at h
    simp only [cond_true] at h
    split at h
    ·rename_i l' e5
     obtain ⟨p1,p2,_,_⟩:=nH _ _ _ _ e5
     rw [CJ h,p1]
    ·cases h
  ·cases h
theorem AH {mu:Mu}:∀ {l:List V} {ds:List D} {ks:List Nat},oY mu l=some (ds,ks)→ds.length=l.length
 | [],ds,ks,h=>by simp [oY] at h;rw [h.1];rfl
 | x :: l,ds,ks,h=>by
  cases x with
  | v x =>
   simp only [oY] at h
   split at h
   ·rename_i l' ks' c
    cases c2:eQ x with
    | false=>rw [c2] at h;cases h
    | true=>rw [c2] at h;simp at h;obtain ⟨rfl,rfl⟩:=h;simp [AH c]
   ·cases h
  | g k =>
   simp only [oY] at h
   split at h
   ·rename_i sz n f l' ks' c1 c
    cases c2:bF k ks' with
    | true=>rw [c2] at h;cases h
    | false=>rw [c2] at h;simp at h;obtain ⟨rfl,rfl⟩:=h;simp [AH c]
   ·cases h
  | _=>simp [oY] at h
theorem wY (zs:List Value):∀ n,(wI zs n).length=n * zs.length
 | 0=>by simp [wI]
 | n+1=>by rw [wI,List.length_append,List.length_map,wY zs n,Nat.add_mul,Nat.one_mul,Nat.add_comm]
def pV (zs:List Value):Nat→List Value
 | 0=>[]
 | n+1=>zs ++ pV zs n
theorem yO (zs:List Value):∀ n,(pV zs n).length=n * zs.length
 | 0=>by simp [pV]
 | n+1=>by rw [pV,List.length_append,yO zs n,Nat.add_mul,Nat.one_mul,Nat.add_comm]
theorem DA {zs:List Value}:∀ {n i:Nat},i<n * zs.length→(pV zs n)[i]? = zs[i % zs.length]?
 | 0,i,h=>by omega
 | n+1,i,h=>by
  rw [pV]
  by_cases c:i<zs.length
  ·rw [List.getElem?_append_left c,Nat.mod_eq_of_lt c]
  ·rw [Nat.add_mul,Nat.one_mul] at h
   rw [List.getElem?_append_right (by omega),DA (by omega)]
   congr 1
   exact (Nat.mod_eq_sub_mod (by omega)).symm
theorem GH {B:BE} {Z:Tg→PH} (zs:List Value):∀ n,V.rels B Z (wI zs n) (pV zs n)
 | 0=>rfl
 | n+1=>V.rels_append (yX zs) (GH zs n)
theorem M8 {zs:List Value} {n sz:Nat} (hz:zs.length=sz) (hpos:0<sz):(Array.range (n * sz)).map ((if n * sz=0 then (#[]:Array Value) else zs.toArray)[· % (if n * sz=0 then (#[]:Array Value) else zs.toArray).size]!)=(pV zs n).toArray:=by
 apply Array.ext_getElem?
 intro j
 rw [Array.getElem?_map]
 by_cases hj:j<n * sz
 ·have hne:n * sz≠0:=by omega
  rw [Array.getElem?_range,if_pos hj]
  simp only [hne,if_false,Option.map_some,List.getElem?_toArray]
  rw [DA (by rw [hz];exact hj)]
  have hm:j % zs.length<zs.length:=Nat.mod_lt _ (by omega)
  simp [hm]
 ·rw [Array.getElem?_range,if_neg hj]
  simp only [Option.map_none,List.getElem?_toArray]
  rw [List.getElem?_eq_none (by rw [yO,hz];omega)]
section
variable {E:Env} {B:BE} {mu mu':Mu} {w:World} {H:Nat→PH} {TT:List TI} {fr fr':Fr} {gf gf':GF} {a:Act} {all rest:List Oper} {Q:Exit→Act→World→Prop} {o:Oper} {J:Act→World→Prop} {G:AG} {R:Exit→Act→World→Prop} {K:List KF}
theorem F2 (f:FitsE E B H fr gf a) {g:Gd} (hg:∀ d w,(d,w) ∈ g→a.tmps.getD d undef = .bool w):∀ {l:List (Nat×Operand)} {ps:List (Nat×SV)},mV g fr gf l=some ps→((l.map fun p=>(p.1,a.eval p.2)).map (·.1)=ps.map (·.1))∧SV.rels E.P B (Zf E.r H) (ps.map (·.2)) ((l.map fun p=>(p.1,a.eval p.2)).map (·.2))
 | [],ps,h=>by simp [mV] at h;subst h;exact ⟨rfl,rfl⟩
 | (i,x) :: l,ps,h=>by
  simp only [mV] at h
  split at h
  ·rename_i y l' e1 e2
   injection h with h;subst h
   obtain ⟨h1,h2⟩:=F2 f hg e2
   simp only [List.map_cons]
   exact ⟨by rw [h1],_,_,rfl,f.ev hg e1,h2⟩
  ·cases h
theorem aBR (hT:TOk E.P TT) {t0 ty:Nat} {x y:Operand} {yt:TypeId} {op:BinOp} (ne:Bool) {sx:V} {q:Tg} {sz n:Nat} {f:Nat→List D} {ob:Ob} {n0 c0:Nat} {id sz1 by1 e:Nat} {z:Value} {ef:Bool}
  (hop:o.op = .binOp op ty x y yt) (hx:ev [] fr gf x=some (.a sx)) (hy:ev [] fr gf y=some (.a (.v (.slice none n0 c0)))) (h1:tlk ty TT=some ⟨id,sz1,by1, .slc e,z,ef⟩) (hs:slR mu sx=some (q,sz,n,f,ob)) (hgd:dD t0 gf=some gf')
  (k:∀ b:Bool,(b=true→n=0)→SJ G J E ((t0, .a (.v (.bool (bif ne then !b else b)))) :: fr) gf' mu) (hne:op=(bif ne then .neq else .eql):=by exact rfl) (hob:kU ob:=by repeat (first | exact trivial | refine And.intro rfl ?_)) (hg:o.guard=none:=by exact rfl) (hd:o.dst=some t0:=by exact rfl) (ht:Nat.blt t0 E.N=true:=by exact rfl):OJ G E all Q J o fr gf mu:=fun B a w H ff mm gg=>by
 obtain ⟨t1,t2⟩:=hT.get h1
 obtain ⟨d,d1,d2⟩:=t2.desc
 simp only at t1 d1 d2
 subst t1
 obtain rfl:=iT d2
 have hr:=vT mm.mr.ms hs hob (show sx.rel B (Zf E.r H) (a.eval x) from ff.ev (g:=[]) (fun _ _ hm=>by cases hm) hx)
 have ey:a.eval y=_:=ff.ev (g:=[]) (fun _ _ hm=>by cases hm) hy
 obtain ⟨A,c,ex,e0⟩:=wN hr
 refine qZ (fM hg) (v := .bool (bif ne then !A.isNone else A.isNone)) (w':=w) ?_ ?_
 ·obtain ⟨dst,op',type,pos,after,guard⟩:=o
  simp only at hop
  subst hop
  simp only [execOp,ex,ey]
  refine eL ?_
  subst hne
  cases ne with
  | true =>
   show (do eqGuard .neq _ x y _ _;binOp .neq _ _ _:Sem Value).run E.P w=_
   rw [Sem.run_bind,gB rfl,Result.andThen_ok]
   simp only [binOp,Sem.run_bind,rH d1,Result.andThen_ok,Sem.run_pure,cond_true]
  | false =>
   show (do eqGuard .eql _ x y _ _;binOp .eql _ _ _:Sem Value).run E.P w=_
   rw [Sem.run_bind,gB rfl,Result.andThen_ok]
   simp only [binOp,Sem.run_bind,rH d1,Result.andThen_ok,Sem.run_pure,cond_false]
 ·rw [hd]
  exact k A.isNone (fun h=>by
   rcases Nat.eq_zero_or_pos n with h2 | h2
   ·exact h2
   ·rw [e0 h2] at h;cases h) B _ w H (Fits.put ff (by simpa [Nat.blt_eq] using ht) (show SV.rel _ _ _ (.a (.v _)) _ from rfl) hgd) mm gg
theorem V6 (m:Mem E B mu w H) (q:Tg):Fit (Zf E.r H q) w:=by
 cases q with
 | k j=>exact (m.mm.fit j).fit
 | _=>exact m.mm.fitr
def rX (g:Nat→List D) (i:Nat):List Value:=(jR (g i)).getD []
theorem qJ (hT:TOk E.P TT) (k k':Nat) {t0 ts tx:Nat} {s x:Operand} {n m:Nat} {f g:Nat→List D} {id sz1 by1 e:Nat} {z:Value} {ef:Bool} {te ti2:TI} {md:Mu} {fr':Fr} {gf2:GF} {vx:V} {q:Tg} {ob:Ob}
  (hop:o.op = .call { callee := .builtin .append,args := #[s,x],argTypes := #[ts,tx] }) (hs:(ev [] fr gf s).bind gK=some k) (hx:ev [] fr gf x=some (.a vx)) (h1:tlk ts TT=some ⟨id,sz1,by1, .slc e,z,ef⟩) (h2:tlk e TT=some te) (h3:tlk tx TT=some ti2) (h4:ti2.kind = .slc e) (hk:mlk k mu=some (.arr te.sz n f)) (hkx:slR mu vx=some (q,te.sz,m,g,ob)) (hgd:dD t0 gf=some gf')
  (hmd:d7 [k,k'] mu=some md) (hcut:iK [k] fr gf'=some (fr',gf2)) (hb:(n+m) * te.by_≤140737488355328∧n+m≤maxL)
  (kk:SJ G J E ((t0, .a (.g k')) :: fr') gf2 ((k', .arr te.sz (n+m) (kY n f g)) :: md)) (hone:∀ i,i<m→∃ l,jR (g i)=some l:=by exact fun _ _=>⟨_,rfl⟩) (hz:(kH te.zero).map (·.length)=some te.sz:=by exact rfl) (hpos:0<te.sz:=by exact Nat.lt_of_sub_eq_succ rfl) (hkeys:iF [k] [k'] [(k, .arr te.sz n f)] fr gf mu E.A.ks G.ks=true:=by exact rfl) (hne:bF k' [k] = false:=by exact rfl) (hob:kU ob:=by repeat (first | exact trivial | refine And.intro rfl ?_))
  (hg:o.guard=none:=by exact rfl) (hd:o.dst=some t0:=by exact rfl) (ht:Nat.blt t0 E.N=true:=by exact rfl):OJ G E all Q J o fr gf mu:=by
 refine GY (ι:=Unit) (ks:=[k]) (nk:=[k']) (mu1:=[(k, .arr te.sz n f)]) (φ:=fun _=>True) (res:=fun _ => .a (.g k')) (mu1':=fun _=>[(k', .arr te.sz (n+m) (kY n f g))]) (fun B a w H ff mm=>?_) hg hd ht hgd (fun _=>rfl) hkeys (fun _=>?_) hmd hcut fun _ _=>kk
 ·obtain ⟨d1,u2⟩:=wJ hT h1 h2
  obtain ⟨v1,v2⟩:=hT.get h3
  obtain ⟨dx,dx1,dx2⟩:=v2.desc
  rw [h4] at dx2
  obtain rfl:=iT dx2
  rw [v1] at dx1
  have e1:a.eval s=B k:=aAn ff hs
  have sk:D.own (H k) (.sl te.sz n f) (B k):=mm.mm.sat k _ hk
  have hr:=vT mm.mr.ms hkx hob (show vx.rel B (Zf E.r H) (a.eval x) from ff.ev (g:=[]) (fun _ _ hm=>by cases hm) hx)
  obtain ⟨A,c,ex,_,_,hcells⟩:=(show D.rd _ (.sl te.sz m g) _ from hr)
  have hrow:∀ i,i<m→g i=(rX g i).map D.v∧∀ u ∈ rX g i,eQ u=true:=fun i hi=>by
   obtain ⟨l,hl⟩:=hone i hi
   have:=AA hl
   unfold rX
   rw [hl];exact this
  have hlies:0<m→∃ b o,A=some ⟨b,o,none⟩∧∀ i,i<m→(rX g i).length=te.sz∧∀ j,j<te.sz→Zf E.r H q b (o+i * te.sz+j)=(rX g i)[j]? := fun h0=>by
   rcases hcells with h | ⟨b,o,rfl,hr⟩
   ·omega
   ·refine ⟨b,o,rfl,fun i hi=>?_⟩
    obtain ⟨row,r1,r2,r3⟩:=hr i hi
    rw [(hrow i hi).1] at r1
    rw [uQ r1] at r2 r3
    exact ⟨r2,r3⟩
  have src:Src E.P te.sz tx (a.eval x) m (fK (rX g) m) w:=by
   rw [ex]
   exact VD dx1 hlies (V6 mm q) hpos fun i hi=>(hrow i hi).2
  obtain ⟨v,w',h',r1,r2,r3,r4,r5,r6⟩:=QP (P:=E.P) (w:=w) (ty:=o.type) d1 u2 hpos (AY hz) sk (mm.mm.fit k) src (G:=fun _=>PH.emp) (hx:=PH.emp) (g:=g) (fun i hi=>⟨by rw [(hrow i hi).1];exact jL,(hlies (by omega)).elim fun b h=>h.elim fun o h=>(h.2 i hi).1⟩) (fun i _=>PH.emp_le _) (fun _ _ _=>PH.emp_dj _) (FitO.emp _) (PH.dj_emp _) hb.1 hb.2
  refine ⟨(),v,w',_,_,?_,Ret1.new (lP mm.mm) hne (mO mm _) r2 r3 r4 (r5.mono fun b _ o h=>⟨k,by simp [bU,Ch.own?,bF,Nat.beq_refl],by unfold gI;simp only [bU,Ch.own?,cond_true,bF,Nat.beq_refl];exact h⟩) fun b o h=>?_⟩
  ·obtain ⟨dst,op,type,pos,after,guard⟩:=o
   simp only at hop r1
   subst hop
   simp only [execOp,resolve,Sem.run_bind,Sem.run_pure,Result.andThen_ok,invoke,builtin,List.map_toArray,List.map_cons,List.map_nil,e1,r1]
  ·rcases r6 b o h with h | h | h
   ·exact .inl ⟨k,by simp [bU,Ch.own?,bF,Nat.beq_refl],by unfold gI;simp only [bU,Ch.own?,cond_true,bF,Nat.beq_refl];exact h⟩
   ·exact absurd rfl h
   ·exact .inr h
 ·simp [SV.inK,V.inK,lR,Ch.own?,Ch.rowL,jP,fB,bF,Nat.beq_refl]
theorem dV (hT:TOk E.P TT) (k':Nat) {t0 ts n:Nat} {parts:Array (Nat×Operand)} {ps:List (Nat×SV)} {id sz1 by1 e:Nat} {z:Value} {ef:Bool} {te:TI} {F0:List V} {F:List D} {ks:List Nat} {mu1 md:Mu} {fr':Fr} {gf2:GF} (f:Nat→List D)
  (hop:o.op = .buildSlice ts n parts) (hp:mV [] fr gf parts.toList=some ps)
  (h1:tlk ts TT=some ⟨id,sz1,by1, .slc e,z,ef⟩) (h2:tlk e TT=some te) (hgd:dD t0 gf=some gf') (hF:bsV te.sz ps (wI te.zero.cells.toList n)=some F0) (hA:oY mu F0=some (F,ks)) (hf:∀ i,i<n→(F.drop (i * te.sz)).take te.sz=f i)
  (hm1:bU mu1=ks) (hmd:d7 (fB ks [k']) mu=some md) (hcut:iK ks fr gf'=some (fr',gf2))
  (kk:SJ G J E ((t0, .a (.g k')) :: fr') gf2 ((k', .arr te.sz n f) :: md)) (hz:(kH te.zero).map (·.length)=some te.sz:=by exact rfl) (hpos:0<te.sz:=by exact Nat.lt_of_sub_eq_succ rfl) (hn:Nat.ble (n * te.sz) 16777216=true:=by exact rfl) (hkeys:iF ks [k'] mu1 fr gf mu E.A.ks G.ks=true:=by exact rfl) (hne:bF k' ks=false:=by exact rfl)
  (hg:o.guard=none:=by exact rfl) (hd:o.dst=some t0:=by exact rfl) (ht:Nat.blt t0 E.N=true:=by exact rfl):OJ G E all Q J o fr gf mu:=by
 subst hm1
 refine GY (ι:=Unit) (ks:=bU mu1) (nk:=[k']) (mu1:=mu1) (φ:=fun _=>True) (res:=fun _ => .a (.g k')) (mu1':=fun _=>[(k', .arr te.sz n f)]) (fun B a w H ff mm=>?_) hg hd ht hgd (fun _=>rfl) hkeys (fun _=>?_) hmd hcut fun _ _=>kk
 ·obtain ⟨d1,u2⟩:=wJ hT h1 h2
  obtain ⟨i,i1,i2,i3,i4⟩:=u2.info
  have hzs:te.zero.cells.toList.length=te.sz:=by rw [Array.length_toList];exact AY hz
  have hzv:te.zero.cells=te.zero.cells.toList.toArray:=by simp
  obtain ⟨p1,p2⟩:=F2 ff (g:=[]) (fun _ _ hm=>by cases hm) hp
  obtain ⟨ms,g1,g2⟩:=P1 (P:=E.P) (B:=B) (Z:=Zf E.r H) p1 p2 (GH te.zero.cells.toList n) hF
  have hml:ms.length=n * te.sz:=by rw [V.rels_length g2,CJ hF,wY,hzs]
  have hown:=KU mm.mm hA g2
  have hone:=HI hA g2
  obtain ⟨Gr,r1,r2,r3⟩:=L6 te.sz n hown (by rw [AH hA,CJ hF,wY,hzs])
  have hn':n * te.sz≤16777216:=Nat.le_of_ble_eq_true hn
  have hfit:FitO (PH.row w.heap.size 0 ms) (w.alloc (.cells ms.toArray te.id)):=FitO.alloc w ms te.id
  have hfo:FitO (unK H (bU mu1)) w:=SR mm.mm.fit _
  have hdd:(PH.row w.heap.size 0 ms).dj (unK H (bU mu1)):=fun b o=>by
   cases c:unK H (bU mu1) b o with
   | none=>exact .inr rfl
   | some u =>
    left
    have:=hfo.lt (b:=b) (o:=o) (by rw [c];simp)
    cases c2:PH.row w.heap.size 0 ms b o with
    | none=>rfl
    | some u2=>have:=PH.row_ne (x:=b) (y:=o) (by rw [c2];simp);omega
  have hfin:FitO ((PH.row w.heap.size 0 ms).un (unK H (bU mu1))) (w.alloc (.cells ms.toArray te.id)):=hfit.un (hfo.ext (Below.ofAlloc w _))
  refine ⟨(), .slice (some ⟨w.heap.size,0,none⟩) n n,w.alloc (.cells ms.toArray te.id),_,_,?_,Ret1.new (lP mm.mm) hne (mO mm _) rfl (h':=(PH.row w.heap.size 0 ms).un (unK H (bU mu1))) (lX (hc:=PH.row w.heap.size 0 ms) (hp:=unK H (bU mu1)) (G:=Gr) (row:=fun i=>(ms.drop (i * te.sz)).take te.sz) ⟨Nat.le_refl _,fun i hi=>⟨_,_,rfl,?_,fun j hj=>?_⟩,fun i q1 q2=>by omega⟩ ?_ (PH.le_un_left _ _) (PH.le_un_right hdd) hdd (fun i hi=>by rw [← hf i hi];exact r3 i hi) (fun i _=>r1 i) fun i j _ _ hij=>r2 i j hij) hfin ((Keep.alloc w _).mono fun _ _ _ h=>h.elim) fun b o h=>?_⟩
  ·obtain ⟨dst,op,type,pos,after,guard⟩:=o
   simp only at hop
   subst hop
   have e2:(parts.map fun p=>(p.1,a.eval p.2)).toList=parts.toList.map fun p=>(p.1,a.eval p.2):=Array.toList_map
   have hinit:=M8 (n:=n) hzs hpos
   simp only [execOp]
   have run2:∀ {s:Sem Value} {x:Value} {w':World},s.run E.P w = .ok x w'→(do pure (.value (← s)):Sem Next).run E.P w = .ok (.value x) w':=fun h=>by simp only [Sem.run_bind,h,Result.andThen_ok,Sem.run_pure]
   refine run2 ?_
   simp only [Instr.buildSlice,Sem.run_bind,cH d1,Result.andThen_ok,kI i1,i2]
   rw [if_neg (by omega)]
   by_cases c:n * te.sz=0
   ·rw [if_pos c] at hinit
    rw [if_pos c]
    simp only [Sem.run_bind,Sem.run_pure,Result.andThen_ok]
    rw [hinit,e2,g1]
    simp only [Sem.run_bind,newRow,run_newObj,Result.andThen_ok,Sem.run_pure]
    rfl
   ·rw [if_neg c] at hinit
    rw [if_neg c]
    simp only [Sem.run_bind,zeroValue,uO i1,i4,Sem.run_pure,Result.andThen_ok]
    rw [hzv,hinit,e2,g1]
    simp only [Sem.run_bind,newRow,run_newObj,Result.andThen_ok,Sem.run_pure]
    rfl
  ·have h1:(i+1) * te.sz≤n * te.sz:=Nat.mul_le_mul_right _ hi
   rw [Nat.add_mul,Nat.one_mul] at h1
   simp only [List.length_take,List.length_drop];omega
  ·have:=PH.row_at (b:=w.heap.size) (off:=0) (l:=ms) (i * te.sz+j)
   rw [show (0:Nat)+i * te.sz+j=0+(i * te.sz+j) from by omega,this]
   rw [List.getElem?_take_of_lt hj,List.getElem?_drop]
  ·have:n≤n * te.sz:=Nat.le_mul_of_pos_right _ hpos
   unfold maxL;omega
  ·rcases PH.un_ne h with h | h
   ·exact .inr (by rw [PH.row_ne h];exact Nat.le_refl _)
   ·obtain ⟨j,j1,j2⟩:=WL h
    exact .inl ⟨j,j1,by unfold gI;rw [j1];exact j2⟩
 ·have:bF k' (fB (bU mu1) [k'])=true:=uM.2 (.inr (by simp [bF,Nat.beq_refl]))
  simp [SV.inK,V.inK,lR,Ch.own?,Ch.rowL,jP,this]
end
end
section
section
variable {E:Env} {B:BE} {mu mu':Mu} {w:World} {H:Nat→PH} {TT:List TI} {fr fr':Fr} {gf gf':GF} {a:Act} {all rest:List Oper} {Q:Exit→Act→World→Prop} {o:Oper} {J:Act→World→Prop} {G:AG} {R:Exit→Act→World→Prop} {K:List KF}
theorem vN (hT:TOk E.P TT) (k':Nat) {t0 ts:Nat} {l c:Operand} (n:Nat) {id sz1 by1 e:Nat} {z:Value} {ef:Bool} {te:TI} {md:Mu}
  (hop:o.op = .makeSlice ts l c) (hl:ev [] fr gf l=some (.a (.v (.int .i64 n)))) (hc:ev [] fr gf c=some (.a (.v (.int .i64 n)))) (h1:tlk ts TT=some ⟨id,sz1,by1, .slc e,z,ef⟩) (h2:tlk e TT=some te) (hgd:dD t0 gf=some gf') (hmd:d7 [k'] mu=some md) (hn:n * te.by_≤140737488355328∧n≤maxL)
  (kk:SJ G J E ((t0, .a (.g k')) :: fr) gf' ((k', .arr te.sz n fun _=>zsD te.zero) :: md)) (hz:(kH te.zero).map (·.length)=some te.sz:=by exact rfl) (hpos:0<te.sz:=by exact Nat.lt_of_sub_eq_succ rfl) (hkeys:iF [] [k'] [] fr gf mu E.A.ks G.ks=true:=by exact rfl)
  (hg:o.guard=none:=by exact rfl) (hd:o.dst=some t0:=by exact rfl) (ht:Nat.blt t0 E.N=true:=by exact rfl):OJ G E all Q J o fr gf mu:=by
 refine GY (ι:=Unit) (ks:=[]) (nk:=[k']) (mu1:=[]) (φ:=fun _=>True) (res:=fun _ => .a (.g k')) (mu1':=fun _=>[(k', .arr te.sz n fun _=>zsD te.zero)]) (fun B a w H ff mm=>?_) hg hd ht hgd (fun _=>rfl) hkeys (fun _=>?_) hmd rfl fun _ _=>kk
 ·obtain ⟨d1,u2⟩:=wJ hT h1 h2
  obtain ⟨i,i1,i2,i3,i4⟩:=u2.info
  have hzz:=AY hz
  have hw:IntKind.i64.wrap (n:Int)=n:=IntWalk.i64_in _ (by unfold maxL at hn;omega)
  have hzr:(zeroValue te.id).run E.P w = .ok te.zero w:=by simp only [zeroValue,Sem.run_bind,uO i1,Result.andThen_ok,i4,Sem.run_pure]
  have hcs:=M8 (n:=n) (zs:=te.zero.cells.toList) (by rw [Array.length_toList];exact hzz) hpos
  have e1:a.eval l=_:=ff.ev (g:=[]) (fun _ _ hm=>by cases hm) hl
  have e2:a.eval c=_:=ff.ev (g:=[]) (fun _ _ hm=>by cases hm) hc
  have hrun:(Instr.makeSlice ts (.int .i64 n) (.int .i64 n)).run E.P w = .ok (.slice (some ⟨w.heap.size,0,none⟩) n n) (w.alloc (.cells (pV te.zero.cells.toList n).toArray te.id)):=by
   simp only [Instr.makeSlice,asInt,asIntOf,Sem.run_bind,Sem.run_pure,cH d1,Result.andThen_ok,uO i1,hw,i3]
   have c1:(decide ((n:Int)<0) || decide (((te.by_:Int) * (n:Int)) > 2 ^ 48))=false:=by
    simp only [Bool.or_eq_false_iff,decide_eq_false_iff_not]
    refine ⟨by omega,?_⟩
    have:((te.by_:Int) * (n:Int))=((n * te.by_:Nat):Int):=by push_cast;rw [Int.mul_comm]
    rw [this]
    have:(2:Int) ^ 48=281474976710656:=by decide
    omega
   have c2:decide ((n:Int)<0)=false:=by simp
   have c3:decide ((n:Int) > (n:Int))=false:=by simp
   rw [if_neg (by rw [c1];simp)]
   simp only [Sem.run_bind,run_askRoom,Result.andThen_ok,kI i1,i2,Int.toNat_natCast]
   by_cases h0:n * te.sz=0
   ·rw [if_pos h0] at hcs
    simp only [h0,if_true,Sem.run_pure,Result.andThen_ok,newRow,Sem.run_bind,run_newObj]
    rw [← hcs]
    simp only [h0]
    rfl
   ·rw [if_neg h0] at hcs
    simp only [h0,if_false,Sem.run_bind,hzr,Sem.run_pure,Result.andThen_ok,newRow,run_newObj]
    rw [← hcs]
    rfl
  have hzl:(pV te.zero.cells.toList n).length=n * te.sz:=by rw [yO,Array.length_toList,hzz]
  refine ⟨(), .slice (some ⟨w.heap.size,0,none⟩) n n,w.alloc (.cells (pV te.zero.cells.toList n).toArray te.id),_,_,?_,Ret1.new (lP mm.mm) rfl (mO mm _) rfl (h':=PH.row w.heap.size 0 (pV te.zero.cells.toList n)) (lX (hc:=PH.row w.heap.size 0 (pV te.zero.cells.toList n)) (hp:=PH.emp) (G:=fun _=>PH.emp) (row:=fun _=>te.zero.cells.toList) ⟨Nat.le_refl _,fun i hi=>⟨_,_,rfl,by rw [Array.length_toList];exact hzz,fun j hj=>?_⟩,fun i q1 q2=>by omega⟩ hn.2 (PH.le_refl _) (PH.emp_le _) (PH.dj_emp _) (fun i hi=>jL) (fun i _=>PH.emp_le _) fun i j _ _ hij=>PH.emp_dj _) (FitO.alloc w _ te.id) ((Keep.alloc w _).mono fun _ _ _ h=>h.elim) fun b o h => .inr (by rw [PH.row_ne h];exact Nat.le_refl _)⟩
  ·obtain ⟨dst,op,type,pos,after,guard⟩:=o
   simp only at hop
   subst hop
   simp only [execOp,e1,e2]
   simp only [Sem.run_bind,hrun,Result.andThen_ok,Sem.run_pure]
  ·have:=PH.row_at (b:=w.heap.size) (off:=0) (l:=pV te.zero.cells.toList n) (i * te.sz+j)
   have h1:(i+1) * te.sz≤n * te.sz:=Nat.mul_le_mul_right _ hi
   rw [Nat.add_mul,Nat.one_mul] at h1
   rw [show (0:Nat)+i * te.sz+j=0+(i * te.sz+j) from by omega,this,DA (by rw [Array.length_toList,hzz];omega)]
   congr 1
   rw [Array.length_toList,hzz,Nat.mul_comm,Nat.mul_add_mod];exact Nat.mod_eq_of_lt hj
 ·simp [SV.inK,V.inK,lR,Ch.own?,Ch.rowL,jP,fB,bF,Nat.beq_refl]
theorem cU (hT:TOk E.P TT) (k kb k':Nat) {t0 ts tx:Nat} {s x:Operand} {n m:Nat} {f g:Nat→List D} {id sz1 by1 e:Nat} {z:Value} {ef:Bool} {te ti2:TI} {md:Mu} {fr':Fr} {gf2:GF}
  (hop:o.op = .call { callee := .builtin .append,args := #[s,x],argTypes := #[ts,tx] }) (hs:(ev [] fr gf s).bind gK=some k) (hx:ev [] fr gf x=some (.a (.g kb))) (h1:tlk ts TT=some ⟨id,sz1,by1, .slc e,z,ef⟩) (h2:tlk e TT=some te) (h3:tlk tx TT=some ti2) (h4:ti2.kind = .slc e) (hk:mlk k mu=some (.arr te.sz n f)) (hkb:mlk kb mu=some (.arr te.sz m g)) (hgd:dD t0 gf=some gf')
  (hmd:d7 [k,kb,k'] mu=some md) (hcut:iK [k,kb] fr gf'=some (fr',gf2)) (hb:(n+m) * te.by_≤140737488355328∧n+m≤maxL)
  (kk:RJ E all (KQ E.P R K) rest ((t0, .a (.g k')) :: fr') gf2 ((k', .arr te.sz (n+m) (kY n f g)) :: md)) (hone:∀ i,i<m→tO (g i)=true:=by exact fun _ _=>rfl) (hz:(kH te.zero).map (·.length)=some te.sz:=by exact rfl) (hpos:0<te.sz:=by exact Nat.lt_of_sub_eq_succ rfl) (hkeys:iF [k,kb] [k'] [(k, .arr te.sz n f),(kb, .arr te.sz m g)] fr gf mu E.A.ks [] = true:=by exact rfl) (hne:(Nat.beq k kb || bF k' [k,kb])=false:=by exact rfl)
  (hg:o.guard=none:=by exact rfl) (hd:o.dst=some t0:=by exact rfl) (ht:Nat.blt t0 E.N=true:=by exact rfl):RJ E all (KQ E.P R K) (o :: rest) fr gf mu :=
 gY (dM (G:=AG.nil) hT k kb k' hop hs hx h1 h2 h3 h4 hk hkb hgd hmd hcut hb (iZ kk) hone hz hpos hkeys hne hg hd ht)
theorem oG (hT:TOk E.P TT) (k k':Nat) {t0 ts tx:Nat} {s x:Operand} {n m:Nat} {f g:Nat→List D} {id sz1 by1 e:Nat} {z:Value} {ef:Bool} {te ti2:TI} {md:Mu} {fr':Fr} {gf2:GF} {vx:V} {q:Tg} {ob:Ob}
  (hop:o.op = .call { callee := .builtin .append,args := #[s,x],argTypes := #[ts,tx] }) (hs:(ev [] fr gf s).bind gK=some k) (hx:ev [] fr gf x=some (.a vx)) (h1:tlk ts TT=some ⟨id,sz1,by1, .slc e,z,ef⟩) (h2:tlk e TT=some te) (h3:tlk tx TT=some ti2) (h4:ti2.kind = .slc e) (hk:mlk k mu=some (.arr te.sz n f)) (hkx:slR mu vx=some (q,te.sz,m,g,ob)) (hgd:dD t0 gf=some gf')
  (hmd:d7 [k,k'] mu=some md) (hcut:iK [k] fr gf'=some (fr',gf2)) (hb:(n+m) * te.by_≤140737488355328∧n+m≤maxL)
  (kk:RJ E all (KQ E.P R K) rest ((t0, .a (.g k')) :: fr') gf2 ((k', .arr te.sz (n+m) (kY n f g)) :: md)) (hone:∀ i,i<m→∃ l,jR (g i)=some l:=by exact fun _ _=>⟨_,rfl⟩) (hz:(kH te.zero).map (·.length)=some te.sz:=by exact rfl) (hpos:0<te.sz:=by exact Nat.lt_of_sub_eq_succ rfl) (hkeys:iF [k] [k'] [(k, .arr te.sz n f)] fr gf mu E.A.ks [] = true:=by exact rfl) (hne:bF k' [k] = false:=by exact rfl) (hob:kU ob:=by repeat (first | exact trivial | refine And.intro rfl ?_))
  (hg:o.guard=none:=by exact rfl) (hd:o.dst=some t0:=by exact rfl) (ht:Nat.blt t0 E.N=true:=by exact rfl):RJ E all (KQ E.P R K) (o :: rest) fr gf mu :=
 gY (qJ (G:=AG.nil) hT k k' hop hs hx h1 h2 h3 h4 hk hkx hgd hmd hcut hb (iZ kk) hone hz hpos hkeys hne hob hg hd ht)
theorem cV (hT:TOk E.P TT) (k':Nat) {t0 ts n:Nat} {parts:Array (Nat×Operand)} {ps:List (Nat×SV)} {id sz1 by1 e:Nat} {z:Value} {ef:Bool} {te:TI} {F0:List V} {F:List D} {ks:List Nat} {mu1 md:Mu} {fr':Fr} {gf2:GF} (f:Nat→List D)
  (hop:o.op = .buildSlice ts n parts) (hp:mV [] fr gf parts.toList=some ps)
  (h1:tlk ts TT=some ⟨id,sz1,by1, .slc e,z,ef⟩) (h2:tlk e TT=some te) (hgd:dD t0 gf=some gf') (hF:bsV te.sz ps (wI te.zero.cells.toList n)=some F0) (hA:oY mu F0=some (F,ks)) (hf:∀ i,i<n→(F.drop (i * te.sz)).take te.sz=f i)
  (hm1:bU mu1=ks) (hmd:d7 (fB ks [k']) mu=some md) (hcut:iK ks fr gf'=some (fr',gf2))
  (kk:RJ E all (KQ E.P R K) rest ((t0, .a (.g k')) :: fr') gf2 ((k', .arr te.sz n f) :: md)) (hz:(kH te.zero).map (·.length)=some te.sz:=by exact rfl) (hpos:0<te.sz:=by exact Nat.lt_of_sub_eq_succ rfl) (hn:Nat.ble (n * te.sz) 16777216=true:=by exact rfl) (hkeys:iF ks [k'] mu1 fr gf mu E.A.ks [] = true:=by exact rfl) (hne:bF k' ks=false:=by exact rfl)
  (hg:o.guard=none:=by exact rfl) (hd:o.dst=some t0:=by exact rfl) (ht:Nat.blt t0 E.N=true:=by exact rfl):RJ E all (KQ E.P R K) (o :: rest) fr gf mu :=
 gY (dV (G:=AG.nil) hT k' f hop hp h1 h2 hgd hF hA hf hm1 hmd hcut (iZ kk) hz hpos hn hkeys hne hg hd ht)
theorem aM (k':Nat) {t0 ts n:Nat} {parts:Array (Nat×Operand)} {ps:List (Nat×SV)} {id sz1 by1 e:Nat} {z:Value} {ef:Bool} {te:TI} {F0:List V} {F:List D} {ks:List Nat} {mu1 md:Mu} {fr':Fr} {gf2:GF} (f:Nat→List D) (hf:∀ i,i<n→(F.drop (i * te.sz)).take te.sz=f i) (kk:RJ E all (KQ E.P R K) rest ((t0, .a (.g k')) :: fr') gf2 ((k', .arr te.sz n f) :: md)) (hT:TOk E.P TT:=by exact TT_ok) (hop:o.op = .buildSlice ts n parts:=by exact rfl) (hp:mV [] fr gf parts.toList=some ps:=by exact rfl) (h1:tlk ts TT=some ⟨id,sz1,by1, .slc e,z,ef⟩:=by exact rfl) (h2:tlk e TT=some te:=by exact rfl) (hgd:dD t0 gf=some gf':=by exact rfl) (hF:bsV te.sz ps (wI te.zero.cells.toList n)=some F0:=by exact rfl) (hA:oY mu F0=some (F,ks):=by exact rfl) (hm1:bU mu1=ks:=by exact rfl) (hmd:d7 (fB ks [k']) mu=some md:=by exact rfl) (hcut:iK ks fr gf'=some (fr',gf2):=by exact rfl) (hz:(kH te.zero).map (·.length)=some te.sz:=by exact rfl) (hpos:0<te.sz:=by exact Nat.lt_of_sub_eq_succ rfl) (hn:Nat.ble (n * te.sz) 16777216=true:=by exact rfl) (hkeys:iF ks [k'] mu1 fr gf mu E.A.ks [] = true:=by exact rfl) (hne:bF k' ks=false:=by exact rfl) (hg:o.guard=none:=by exact rfl) (hd:o.dst=some t0:=by exact rfl) (ht:Nat.blt t0 E.N=true:=by exact rfl):RJ E all (KQ E.P R K) (o :: rest) fr gf mu:=cV hT k' f hop hp h1 h2 hgd hF hA hf hm1 hmd hcut kk hz hpos hn hkeys hne hg hd ht
theorem B7 (hT:TOk E.P TT) (t k:Nat) {ts:Nat} {n:Nat} {f:Nat→List D} {lo hi:Int} {id sz1 by1 e:Nat} {z:Value} {ef:Bool} {te:TI} {md:Mu} {fr':Fr} {gf2:GF} {l:List V}
  (hop:o.op = .call { callee := .builtin .clear,args := #[.tmp t],argTypes := #[ts] }) (hx:mlk t fr=some (.a (.sb k te.sz lo hi))) (hgt:glk t gf=none) (h1:tlk ts TT=some ⟨id,sz1,by1, .slc e,z,ef⟩) (h2:tlk e TT=some te) (hk:mlk k mu=some (.arr te.sz n f)) (hb:0≤lo∧lo≤hi∧hi≤n) (hgd:dD t gf=some gf')
  (hmd:d7 [k,k] mu=some md) (hcut:iK [k] fr gf'=some (fr',gf2)) (hz:kH te.zero=some l)
  (kk:RJ E all (KQ E.P R K) rest ((t, .a .any) :: fr') gf2 ((k, .arr te.sz n fun i=>if lo≤(i:Int)∧(i:Int)<hi then zsD te.zero else f i) :: md)) (hzl:nO l te.sz=true:=by exact rfl) (hone:oK l=true:=by exact rfl) (hpos:0<te.sz:=by exact Nat.lt_of_sub_eq_succ rfl) (hkeys:iF [k] [k] [(k, .arr te.sz n f)] fr gf mu E.A.ks [] = true:=by exact rfl)
  (hg:o.guard=none:=by exact rfl) (hd:o.dst=none:=by exact rfl) (ht:Nat.blt t E.N=true:=by exact rfl):RJ E all (KQ E.P R K) (o :: rest) fr gf mu :=
 gY (YO (G:=AG.nil) hT t k hop hx hgt h1 h2 hk hb hgd hmd hcut hz (iZ kk) hzl hone hpos hkeys hg hd ht)
theorem aBC (hT:TOk E.P TT) (k':Nat) {t0 ts:Nat} {l c:Operand} (n:Nat) {id sz1 by1 e:Nat} {z:Value} {ef:Bool} {te:TI} {md:Mu}
  (hop:o.op = .makeSlice ts l c) (hl:ev [] fr gf l=some (.a (.v (.int .i64 n)))) (hc:ev [] fr gf c=some (.a (.v (.int .i64 n)))) (h1:tlk ts TT=some ⟨id,sz1,by1, .slc e,z,ef⟩) (h2:tlk e TT=some te) (hgd:dD t0 gf=some gf') (hmd:d7 [k'] mu=some md) (hn:n * te.by_≤140737488355328∧n≤maxL)
  (kk:RJ E all (KQ E.P R K) rest ((t0, .a (.g k')) :: fr) gf' ((k', .arr te.sz n fun _=>zsD te.zero) :: md)) (hz:(kH te.zero).map (·.length)=some te.sz:=by exact rfl) (hpos:0<te.sz:=by exact Nat.lt_of_sub_eq_succ rfl) (hkeys:iF [] [k'] [] fr gf mu E.A.ks [] = true:=by exact rfl)
  (hg:o.guard=none:=by exact rfl) (hd:o.dst=some t0:=by exact rfl) (ht:Nat.blt t0 E.N=true:=by exact rfl):RJ E all (KQ E.P R K) (o :: rest) fr gf mu :=
 gY (vN (G:=AG.nil) hT k' n hop hl hc h1 h2 hgd hmd hn (iZ kk) hz hpos hkeys hg hd ht)
theorem HY (hT:TOk E.P TT) {t0 ty:Nat} {x y:Operand} {yt:TypeId} {op:BinOp} (ne:Bool) {sx:V} {q:Tg} {sz n:Nat} {f:Nat→List D} {ob:Ob} {n0 c0:Nat} {id sz1 by1 e:Nat} {z:Value} {ef:Bool}
  (hop:o.op = .binOp op ty x y yt) (hx:ev [] fr gf x=some (.a sx)) (hy:ev [] fr gf y=some (.a (.v (.slice none n0 c0)))) (h1:tlk ty TT=some ⟨id,sz1,by1, .slc e,z,ef⟩) (hs:slR mu sx=some (q,sz,n,f,ob)) (hgd:dD t0 gf=some gf')
  (k:∀ b:Bool,(b=true→n=0)→RJ E all (KQ E.P R K) rest ((t0, .a (.v (.bool (bif ne then !b else b)))) :: fr) gf' mu) (hne:op=(bif ne then .neq else .eql):=by exact rfl) (hob:kU ob:=by repeat (first | exact trivial | refine And.intro rfl ?_)) (hg:o.guard=none:=by exact rfl) (hd:o.dst=some t0:=by exact rfl) (ht:Nat.blt t0 E.N=true:=by exact rfl):RJ E all (KQ E.P R K) (o :: rest) fr gf mu :=
 gY (aBR (G:=AG.nil) hT ne hop hx hy h1 hs hgd (fun b hb=>iZ (k b hb)) hne hob hg hd ht)
end
end
section
section
variable {P:Program} {ops:Array Oper} {Q:Exit→Act→World→Prop} {S:World→Prop}
def afB (ops:Array Oper) (k j:Nat):Bool:=match ops[k]? with
 | some o=>o.after.any fun e=>Region.binds .any e && Nat.beq e.on j
 | none=>false
def afT (ops:Array Oper):Nat→Nat→Nat→Bool
 | 0,k,j=>afB ops k j
 | n+1,k,j=>afB ops k j || (List.range ops.size).any fun m=>afB ops k m && afT ops n m j
def BX (ops:Array Oper) (i:Nat):Bool:=(List.range ops.size).all fun k=>Nat.beq k i || afB ops i k || afB ops k i || afT ops 3 i k || afT ops 3 k i
def Lw (P:Program) (ops:Array Oper) (Q:Exit→Act→World→Prop) (S:World→Prop):Nat→Array Bool→Act→World→Prop
 | 0,l,a,w => ∀ w',Below w.heap.size w w'→Region.ready .any ops l=[] ∧ Q .normal a w'
 | n+1,l,a,w => ∀ w',Below w.heap.size w w'→(Region.ready .any ops l=[] → Q .normal a w') ∧
  ∀ i ∈ Region.ready .any ops l,wpOp P ops Q i (fun a' w' => ∃ S',(S'=S∨BX ops i=true)∧S' w'∧Lw P ops Q S' n (l.setIfInBounds i true) a' w') a w'
theorem Below.later {a b c:World} (h:Below a.heap.size a b) (k:Below b.heap.size b c):Below a.heap.size a c:=h.trans (k.mono h.size)
theorem Lw.up {w w':World} (hb:Below w.heap.size w w'):∀ {n:Nat} {l:Array Bool} {a:Act},Lw P ops Q S n l a w→Lw P ops Q S n l a w'
 | 0,_,_,h=>fun w2 hb2=>h w2 (Below.later hb hb2)
 | _+1,_,_,h=>fun w2 hb2=>h w2 (Below.later hb hb2)
theorem Lw.any:∀ {S:World→Prop} {n:Nat} {l:Array Bool} {a:Act} {w:World},Lw P ops Q S n l a w→wpAny P .any ops Q n l a w
 | _,0,_,_,w,h=>h w (Below.refl _ _)
 | _,n+1,l,a,w,h=>⟨(h w (Below.refl _ _)).1,fun i hi=>wpOp_mono (fun a' w' ⟨_,_,_,h'⟩=>Lw.any h') ((h w (Below.refl _ _)).2 i hi)⟩
def Qu (P:Program) (s:Sem Next) (v:Value) (w:World):Prop :=
 s.run P w = .ok (.value v) w∨∃ f args,s.run P w = .ok (.enter f args) w∧Calls P f args w fun e w'=>e = .returned v∧Below w.heap.size w w'
def Yi (P:Program) (ops:Array Oper) (S:World→Prop) (o:Oper) (v:Value) (a:Act):Prop :=
 (Region.wanted o (yielded ops a.tmps)=true∧∀ w,S w→Qu P (execOp a.eval o) v w)∨(Region.wanted o (yielded ops a.tmps)=false∧v=undef)
theorem Yi.wpOp {i:Nat} {o:Oper} {v:Value} {a:Act} (hi:ops[i]? = some o) (hy:Yi P ops S o v a) {K:Act→World→Prop} {w:World} (hw:S w) (h:∀ w',Below w.heap.size w w'→K (a.put o.dst v) w'):wpOp P ops Q i K a w:=by
 unfold Go.wpOp
 simp only [hi]
 rcases hy with ⟨h1,h2⟩ | ⟨h1,rfl⟩
 ·rw [if_pos h1]
  refine .inl ?_
  unfold Oper.wp
  rcases h2 w hw with h3 | ⟨f,args,h3,h4⟩
  ·rw [h3];exact h w (Below.refl _ _)
  ·rw [h3]
   exact h4.mono fun e w' ⟨e1,e2⟩=>by subst e1;exact h w' e2
 ·simp only [h1,Bool.false_eq_true,if_false];exact h w (Below.refl _ _)
theorem Yi.of_same {o:Oper} {v:Value} {a a':Act} (hy:Yi P ops S o v a) (he:execOp a'.eval o=execOp a.eval o) (hw:Region.wanted o (yielded ops a'.tmps)=Region.wanted o (yielded ops a.tmps)):Yi P ops S o v a':=by
 unfold Yi at *
 rw [he,hw]
 exact hy
theorem WA {j:Nat} {oi oj:Oper} {v:Value} (hj:ops[j]? = some oj) (hap:oi.apart ops oj=true) (hsi:∀ cs b,oi.op ≠ .select cs b) (hsj:∀ cs b,oj.op ≠ .select cs b)
  (hQ:∀ c a w,Q (.panic c) (a.put oi.dst v) w→Q (.panic c) a w) {K:Act→World→Prop} {a:Act} {w:World} (hy:Yi P ops S oi v a) (h:wpOp P ops Q j K (a.put oi.dst v) w) :
  wpOp P ops Q j (fun a' w'=>Yi P ops S oi v a'∧K (a'.put oi.dst v) w') a w:=by
 obtain ⟨h1,h2,h3⟩:=Oper.apart_spec hap
 have keep:∀ (a:Act),Yi P ops S oi v a→∀ u,Yi P ops S oi v (a.put oj.dst u):=fun a hy u=>hy.of_same (execOp_put oi hsi a oj.dst u h3) (wanted_put oi a oj.dst u h3)
 have keepD:∀ d,Yi P ops S oi v { a with defers:=d :: a.defers }:=fun d=>hy.of_same rfl rfl
 unfold wpOp at *
 simp only [hj] at *
 rw [wanted_put oj a oi.dst v h1] at h
 split
 ·rename_i hw
  simp only [hw,if_true] at h
  rcases h with h | ⟨hasks,hlets⟩
  case inr=>exact .inr ⟨by unfold Oper.asks at *;rw [execOp_put oj hsj a oi.dst v h1] at hasks;exact hasks,hlets⟩
  refine .inl ?_
  unfold Oper.wp at *
  rw [execOp_put oj hsj a oi.dst v h1] at h
  generalize (execOp a.eval oj).run P w=r at *
  cases r with
  | ok n w' =>
   cases n <;>simp only [Oper.upon] at h ⊢
   case value u=>exact ⟨keep a hy u,by rw [← Act.put_comm a v u h2];exact h⟩
   case skip=>exact ⟨keep a hy _,by rw [← Act.put_comm a v undef h2];exact h⟩
   case defer d =>
    refine ⟨keep _ (keepD d) _,?_⟩
    rw [← Act.put_comm _ v undef h2, ← Act.put_defers]
    exact h
   case enter f args =>
    refine Calls.mono h fun e w'' he=>?_
    cases e with
    | returned u=>exact ⟨keep a hy u,by rw [← Act.put_comm a v u h2];exact he⟩
    | panicked c=>exact hQ _ _ _ he
    | outgrown=>exact he
   case row row args=>exact Rows.mono h fun u w'' he=>⟨keep a hy u,by rw [← Act.put_comm a v u h2];exact he⟩
  | halt x w' =>
   cases x <;>simp only [Oper.upon] at h ⊢
   case panic u=>exact hQ _ _ _ h
 ·rename_i hw
  simp only [hw] at h
  exact ⟨keep a hy _,by rw [← Act.put_comm a v undef h2];exact h⟩
def Closed (ops:Array Oper) (l:Array Bool):Prop := ∀ j oj,ops[j]? = some oj→l.getD j false=true→∀ e ∈ oj.after,Region.binds .any e=true→l.getD e.on false=true
theorem Closed.set {l:Array Bool} {i:Nat} (h:Closed ops l) (hi:i ∈ Region.ready .any ops l):Closed ops (l.setIfInBounds i true):=by
 obtain ⟨_,oi,hoi,hall⟩:=mem_ready.1 hi
 intro j oj hj hl e he hb
 by_cases hij:i=j
 ·subst hij
  rw [hj] at hoi
  injection hoi with hoi
  subst hoi
  exact getD_set_true (hall e he hb)
 ·rw [getD_set_ne false hij] at hl
  exact getD_set_true (h j oj hj hl e he hb)
def S3 (ops:Array Oper) (l:Array Bool):Bool:=(List.range ops.size).all fun j => !(l.getD j false) || match ops[j]? with
 | some o=>o.after.all fun e => !Region.binds .any e || l.getD e.on false
 | none=>true
theorem QG {l:Array Bool} (h:S3 ops l=true):Closed ops l:=fun j oj hj hl e he hb=>by
 have h1:=List.all_eq_true.1 h j (List.mem_range.2 (Array.getElem?_eq_some_iff.1 hj).1)
 rw [hl,hj] at h1
 simp only [Bool.not_true,Bool.false_or] at h1
 have h2:=Array.all_eq_true'.1 h1 e he
 rw [hb] at h2
 simpa using h2
theorem Closed.un {l:Array Bool} {m i:Nat} (h:Closed ops l) (hm:l.getD m false=true) (ha:afB ops m i=true):l.getD i false=true:=by
 unfold afB at ha
 split at ha
 ·rename_i o ho
  obtain ⟨e,he,hb⟩:=Array.any_eq_true'.1 ha
  simp only [Bool.and_eq_true] at hb
  have:=h m o ho hm e he hb.1
  rwa [Nat.eq_of_beq_eq_true hb.2] at this
 ·cases ha
theorem Closed.chain {l:Array Bool} (h:Closed ops l):∀ {n m i:Nat},l.getD m false=true→afT ops n m i=true→l.getD i false=true
 | 0,_,_,hm,ha=>h.un hm ha
 | n+1,_,_,hm,ha=>by
  simp only [afT,Bool.or_eq_true] at ha
  rcases ha with ha | ha
  ·exact h.un hm ha
  ·obtain ⟨x,_,hx⟩:=List.any_eq_true.1 ha
   simp only [Bool.and_eq_true] at hx
   exact h.chain (h.un hm hx.1) hx.2
theorem G4 {l:Array Bool} {j m:Nat} (hj:j ∈ Region.ready .any ops l) (ha:afB ops j m=true):l.getD m false=true:=by
 obtain ⟨_,oj,hoj,hall⟩:=mem_ready.1 hj
 unfold afB at ha
 rw [hoj] at ha
 obtain ⟨e,he,hb⟩:=Array.any_eq_true'.1 ha
 simp only [Bool.and_eq_true] at hb
 have:=hall e he hb.1
 rw [Nat.eq_of_beq_eq_true hb.2] at this
 rw [Array.getD_eq_getD_getElem?]
 first
  | exact this
  | (rw [Array.getD_eq_getD_getElem?] at this;cases x:l[m]? <;>simp_all)
theorem GB {l:Array Bool} {j:Nat} (hcl:Closed ops l) (hj:j ∈ Region.ready .any ops l):∀ {n i:Nat},afT ops n j i=true→l.getD i false=true
 | 0,_,ha=>G4 hj ha
 | n+1,_,ha=>by
  simp only [afT,Bool.or_eq_true] at ha
  rcases ha with ha | ha
  ·exact G4 hj ha
  ·obtain ⟨x,_,hx⟩:=List.any_eq_true.1 ha
   simp only [Bool.and_eq_true] at hx
   exact hcl.chain (G4 hj hx.1) hx.2
theorem ZZ (hup:∀ w w',Below w.heap.size w w'→S w→S w') {i:Nat} {oi:Oper} {v:Value} (hi:ops[i]? = some oi) (hsel:∀ (j:Nat) (o:Oper) cs b,ops[j]? = some o→o.op ≠ .select cs b) (hQ:∀ c a w,Q (.panic c) (a.put oi.dst v) w→Q (.panic c) a w) :
  ∀ (n:Nat) (l:Array Bool) (a:Act) (w:World),(∀ j oj,ops[j]? = some oj→j≠i→l.getD j true=false→(∀ e ∈ oj.after,Region.binds .any e=true→e.on≠i)→oi.apart ops oj=true) →
   i ∈ Region.ready .any ops l→Closed ops l→Yi P ops S oi v a→S w→Lw P ops Q S n (l.setIfInBounds i true) (a.put oi.dst v) w→Lw P ops Q S (n+1) l a w:=by
 intro n
 induction n with
 | zero =>
  intro l a w _ hr _ hy hS H w2 hb
  have hS2:=hup w w2 hb hS
  refine ⟨fun h=>(by rw [h] at hr;cases hr),fun j hj=>?_⟩
  by_cases hji:j=i
  ·subst hji;exact hy.wpOp hi hS2 fun w3 hb3=>⟨S, .inl rfl,hup w2 w3 hb3 hS2,Lw.up (Below.later hb hb3) H⟩
  ·have:=ready_mono hj hji
   rw [(H w2 hb).1] at this
   cases this
 | succ n ih =>
  intro l a w hfree hr hcl hy hS H w2 hb
  have hS2:=hup w w2 hb hS
  refine ⟨fun h=>(by rw [h] at hr;cases hr),fun j hj=>?_⟩
  by_cases hji:j=i
  ·subst hji;exact hy.wpOp hi hS2 fun w3 hb3=>⟨S, .inl rfl,hup w2 w3 hb3 hS2,Lw.up (Below.later hb hb3) H⟩
  ·have h1:=(H w2 hb).2 j (ready_mono hj hji)
   obtain ⟨hjun,oj,hoj,hall⟩:=mem_ready.1 hj
   have hiun:=(mem_ready.1 hr).1
   have hnot:∀ e ∈ oj.after,Region.binds .any e=true→e.on≠i:=fun e he hb heq=>by
    have h1:=hall e he hb
    rw [heq] at h1
    rcases Nat.lt_or_ge i l.size with h' | h'
    ·simp [h'] at hiun h1;rw [hiun] at h1;cases h1
    ·simp [Array.getElem?_eq_none h'] at h1
   have h2:=WA (S:=S) hoj (hfree j oj hoj hji hjun hnot) (fun cs b=>hsel i oi cs b hi) (fun cs b=>hsel j oj cs b hoj) hQ hy h1
   have hfree':∀ k ok,ops[k]? = some ok→k≠i→(l.setIfInBounds j true).getD k true=false→(∀ e ∈ ok.after,Region.binds .any e=true→e.on≠i)→oi.apart ops ok=true:=fun k ok hk hki hun hno=>by
    refine hfree k ok hk hki ?_ hno
    by_cases hjk:j=k
    ·subst hjk;exact hjun
    ·rw [getD_set_ne true hjk] at hun;exact hun
   have hno:¬ BX ops j=true:=fun hc=>by
    have hin:i<ops.size:=(Array.getElem?_eq_some_iff.1 hi).1
    have hc:=List.all_eq_true.1 hc i (List.mem_range.2 hin)
    simp only [Bool.or_eq_true] at hc
    rcases hc with (((hc | hc) | hc) | hc) | hc
    ·exact hji (Nat.eq_of_beq_eq_true hc).symm
    ·unfold afB at hc
     rw [hoj] at hc
     obtain ⟨e,he,hb2⟩:=Array.any_eq_true'.1 hc
     simp only [Bool.and_eq_true] at hb2
     exact hnot e he hb2.1 (Nat.eq_of_beq_eq_true hb2.2)
    ·unfold afB at hc
     rw [hi] at hc
     obtain ⟨e,he,hb2⟩:=Array.any_eq_true'.1 hc
     simp only [Bool.and_eq_true] at hb2
     obtain ⟨_,oi',hoi',hall'⟩:=mem_ready.1 hr
     rw [hi] at hoi'
     injection hoi' with hoi'
     subst hoi'
     have h5:=hall' e he hb2.1
     rw [Nat.eq_of_beq_eq_true hb2.2] at h5
     rcases Nat.lt_or_ge j l.size with h' | h'
     ·simp [h'] at hjun h5;rw [hjun] at h5;cases h5
     ·simp [Array.getElem?_eq_none h'] at h5
    ·have:=GB hcl hj hc
     rcases Nat.lt_or_ge i l.size with h' | h'
     ·simp [h'] at hiun this;rw [hiun] at this;cases this
     ·simp [Array.getElem?_eq_none h'] at this
    ·have:=GB hcl hr hc
     rcases Nat.lt_or_ge j l.size with h' | h'
     ·simp [h'] at hjun this;rw [hjun] at this;cases this
     ·simp [Array.getElem?_eq_none h'] at this
   refine wpOp_mono (fun a' w' ⟨h30,S',hS',h31,h32⟩=>?_) h2
   obtain rfl:S'=S:=hS'.resolve_right hno
   refine ⟨S', .inl rfl,h31,ih (l.setIfInBounds j true) a' w' hfree' (ready_mono hr (Ne.symm hji)) (hcl.set hj) h30 h31 ?_⟩
   rw [Array.setIfInBounds_comm _ _ hji]
   exact h32
def mk (n:Nat) (tk:List Nat):Array Bool:=(Array.range n).map fun i=>tk.any (Nat.beq · i)
theorem yL (n i:Nat) (tk:List Nat):(mk n tk).setIfInBounds i true=mk n (i :: tk):=by
 apply Array.ext_getElem?
 intro j
 by_cases hij:i=j
 ·subst hij
  by_cases hn:i<n
  ·simp [mk,hn,Nat.beq_refl]
  ·simp [mk,hn]
 ·rw [Array.getElem?_setIfInBounds_ne hij]
  unfold mk
  rw [Array.getElem?_map,Array.getElem?_map]
  by_cases hn:j<n
  ·rw [Array.getElem?_range,if_pos hn]
   simp [hij,Nat.beq_eq]
  ·rw [Array.getElem?_range,if_neg hn];rfl
theorem aCa (n:Nat):Array.replicate n false=mk n []:=by
 apply Array.ext_getElem?
 intro j
 by_cases hn:j<n <;>simp [mk,hn]
def tP (ops:Array Oper) (tk:List Nat) (i:Nat):Bool :=
 (Region.ready .any ops (mk ops.size tk)).contains i && Region.free .any ops (mk ops.size tk) i && Region.noSelect ops && S3 ops (mk ops.size tk)
def EB (ops:Array Oper) (tk:List Nat) (i:Nat):Bool:=match Region.ready .any ops (mk ops.size tk) with
 | [j]=>Nat.beq j i
 | _=>false
end
section
variable {E:Env} {B:BE} {mu mu':Mu} {w:World} {H:Nat→PH} {TT:List TI} {fr fr':Fr} {gf gf':GF} {a:Act} {all rest:List Oper} {o:Oper} {J:Act→World→Prop} {G:AG} {R:Exit→Act→World→Prop} {K:List KF}
def PQ (R:Exit→Act→World→Prop):Prop := ∀ c a d v w,R (.panic c) (a.put d v) w→R (.panic c) a w
theorem oN {P:Program} (fn:Func) (Rp:Ending→World→Prop):PQ (bodyPost P fn Rp):=fun c a d v w h=>by
 cases d <;>exact h
theorem TO {P:Program} (hR:PQ R):∀ K:List KF,PQ (KQ P R K)
 | []=>hR
 | .seq c :: K=>fun c a d v w h=>TO hR K c a d v w h
 | .blk id :: K=>fun c a d v w h=>TO hR K c a d v w h
 | .loop I :: K=>fun c a d v w h=>TO hR K c a d v w h
def muR (ks:List Nat):Mu→Mu
 | []=>[]
 | (k,c) :: r=>bif bF k ks then (k,c) :: muR ks r else muR ks r
theorem AX {ks:List Nat}:∀ {mu:Mu} {k:Nat} {c:Ch},mlk k (muR ks mu)=some c→bF k ks=true∧mlk k mu=some c
 | [],_,_,h=>by cases h
 | (j,d) :: r,k,c,h=>by
  simp only [muR] at h
  cases e:bF j ks with
  | true =>
   rw [e] at h
   simp only [cond_true] at h
   rw [bV] at h ⊢
   by_cases hj:j=k
   ·subst hj;rw [if_pos rfl] at h ⊢;exact ⟨e,h⟩
   ·rw [if_neg hj] at h ⊢;exact AX h
  | false =>
   rw [e] at h
   simp only [cond_false] at h
   obtain ⟨h1,h2⟩:=AX h
   rw [bV]
   by_cases hj:j=k
   ·subst hj;rw [e] at h1;cases h1
   ·rw [if_neg hj];exact ⟨h1,h2⟩
def BB (ex:List Nat):Mu→List Nat
 | []=>[]
 | (k,_) :: r=>bif bF k ex then BB ex r else k :: BB ex r
def Sr (G:AG) (r:PH) (w:World):Prop:=Fit r w∧∀ k,bF k G.ks=true→Fit (G.H k) w
theorem Sr.up {r:PH} {w w':World} (hb:Below w.heap.size w w') (h:Sr G r w):Sr G r w':=⟨h.1.ext hb,fun k hk=>(h.2 k hk).ext hb⟩
theorem Mem.sr (m:Mem E B mu w H) (g:G.ok B H):Sr G E.r w:=⟨m.mm.fitr,fun k hk=>by rw [← (g k hk).2];exact (m.mm.fit k).fit⟩
theorem Mem.msR (m:Mem E B mu w H) (ks:List Nat):Ms B E.r (muR ks mu) H:=⟨fun k c e=>m.mm.sat k c (AX e).2,m.mm.dj,m.mm.djr⟩
theorem Sr.fw {w':World} {r:PH} (g:G.ok B H) (h:Sr G r w'):Fw r (muR G.ks mu) H w':=⟨fun k c e=>by rw [(g k (AX e).1).2];exact h.2 k (AX e).1,h.1⟩
def DJ (G:AG) (E:Env) (all:List Oper) (Q:Exit→Act→World→Prop) (n:Nat) (tk:List Nat) (fr:Fr) (gf:GF) (mu:Mu):Prop :=
 SJ G (Lw E.P all.toArray Q (Sr G E.r) n (mk all.toArray.size tk)) E fr gf mu
theorem V9 {id:Nat} {l:List Oper} (ex:List Nat) (n:Nat) (hm:E.P.follows .mixedOrders=true) (hn:l.toArray.size=n) {ks:List Nat} (hks:BB ex mu=ks) (h:∀ B0 H0,DJ ⟨ks,B0,H0⟩ E l (KQ E.P R K) n [] fr [] mu):T E R (.region id l.toArray true) fr mu K:=fun B a w H f m=>by
 subst hn
 refine wp_region_any hm ?_
 rw [aCa]
 exact (h B H B a _ H f (m.below (Keep.drew w).below) fun _ _=>⟨rfl,rfl⟩).any
theorem yH (hR:PQ R) (i:Nat) {n:Nat} {tk:List Nat} {o:Oper} (hi:nth all i=some o) (hB:tP all.toArray tk i=true)
  (h:∀ B a w H,FitsE E B H fr gf a→Mem E B mu w H→G.ok B H→∃ v,Yi E.P all.toArray (Sr G E.r) o v a∧FitsE E B H fr' gf' (a.put o.dst v))
  (k:DJ G E all (KQ E.P R K) n (i :: tk) fr' gf' mu):DJ G E all (KQ E.P R K) (n+1) tk fr gf mu:=fun B a w H f m gg=>by
 simp only [tP,Bool.and_eq_true] at hB
 obtain ⟨⟨⟨b1,b2⟩,b3⟩,b4⟩:=hB
 have hi':all.toArray[i]? = some o:=by rw [pB] at hi;simpa using hi
 obtain ⟨v,hy,hf⟩:=h B a w H f m gg
 refine ZZ (fun w w' hb m=>m.up hb) hi' (Region.noSelect_spec b3) (fun c a w h=>TO hR K c a _ _ w h) n _ a w (Region.free_spec hi' b2) (by simpa using b1) (QG b4) hy (m.sr gg) ?_
 rw [yL]
 exact k B _ w H hf m gg
theorem aBd (hT:TOk E.P TT) (hR:PQ R) (i:Nat) {n:Nat} {tk:List Nat} {o:Oper} {t:Nat} {x:SV} {q:Ob} (hi:nth all i=some o) (hB:tP all.toArray tk i=true) (hg:o.guard=none) (hd:o.dst=some t) (ht:Nat.blt t E.N=true)
  (hp:pst TT fr gf (muR G.ks mu) [] o.op=some (x,q)) {es es':List Prop} {gs gs':List GO} (hs:dQ fr gf [] q es gs=some (es',gs')) (he:cS es') (ho:cQ gs') (hgd:dD t gf=some gf')
  (k:DJ G E all (KQ E.P R K) n (i :: tk) ((t,x) :: fr) gf' mu):DJ G E all (KQ E.P R K) (n+1) tk fr gf mu :=
 yH hR i hi hB (fun B a w H f m gg=>by
  obtain ⟨v,r1,r2⟩:=zA hT f (m.msR G.ks) (g:=[]) (fun _ _ hm=>by cases hm) hp (gE f (fun _ _ hm=>by cases hm) hs he ho)
  exact ⟨v, .inl ⟨fM hg,fun w' s' => .inl (r1 w' (s'.fw gg))⟩,by rw [hd];exact Fits.put f (by simpa [Nat.blt_eq] using ht) r2 hgd⟩) k
theorem YN (hT:TOk E.P TT) (hR:PQ R) (i:Nat) {n:Nat} {tk:List Nat} {o:Oper} {t j d:Nat} {b:Bool} {x:SV} {q:Ob} (hi:nth all i=some o) (hB:tP all.toArray tk i=true) (hg:o.guard=some (j,b)) (hsl:qL all j=some d) (hd:o.dst=some t) (ht:(Nat.blt t E.N && !(Nat.beq t d))=true) (hn:mlk t fr=none)
  (hp:pst TT fr gf (muR G.ks mu) (kV 6 gf d b) o.op=some (x,q)) {es es':List Prop} {gs gs':List GO} (hs:dQ fr gf (kV 6 gf d b) q es gs=some (es',gs')) (he:cS es') (ho:cQ gs') (hgd:dD t gf=some gf')
  (k:DJ G E all (KQ E.P R K) n (i :: tk) fr ((t,d,b,x) :: gf') mu):DJ G E all (KQ E.P R K) (n+1) tk fr gf mu :=
 yH hR i hi hB (fun B a w H f m gg=>by
  simp only [Bool.and_eq_true,Bool.not_eq_true'] at ht
  have htd:t≠d:=Nat.ne_of_beq_eq_false ht.2
  have htN:t<E.N:=by simpa [Nat.blt_eq] using ht.1
  have hw:=iS (ops:=all.toArray) (a:=a) hg (kS hsl)
  by_cases hyes:a.tmps.getD d undef = .bool b
  ·have hacts:=qV f 6 d b hyes
   obtain ⟨v,r1,r2⟩:=zA hT f (m.msR G.ks) hacts hp (gE f hacts hs he ho)
   refine ⟨v, .inl ⟨hw.2 hyes,fun w' s' => .inl (r1 w' (s'.fw gg))⟩,?_⟩
   rw [hd];exact Fits.putG f htN htd hn hgd (.inl ⟨hyes,r2⟩)
  ·refine ⟨undef, .inr ⟨?_,rfl⟩,?_⟩
   ·cases e:Region.wanted o (yielded all.toArray a.tmps) with
    | false=>rfl
    | true=>exact absurd (hw.1 e) hyes
   ·rw [hd];exact Fits.putG f htN htd hn hgd (.inr ⟨hyes,rfl⟩)) k
def exL:List V→Option (List Value)
 | []=>some []
 | .v x :: r=>match exL r with
  | some l=>some (x :: l)
  | none=>none
 | _ :: _=>none
mutual
def exV:SV→Option Value
 | .a (.v x)=>some x
 | .ag l=>match exL l with
  | some m=>some (.agg m.toArray)
  | none=>none
 | .tu l=>match exVs l with
  | some m=>some (.tuple m.toArray)
  | none=>none
 | _=>none
def exVs:List SV→Option (List Value)
 | []=>some []
 | x :: r=>match exV x,exVs r with
  | some y,some l=>some (y :: l)
  | _,_=>none
end
theorem VU {Z:Tg→PH}:∀ {l:List V} {m:List Value},exL l=some m→∀ {vs:List Value},V.rels B Z l vs→vs=m
 | [],m,h,vs,e=>by simp [exL] at h;subst h;exact e
 | .v x :: r,m,h,vs,e=>by
  simp only [exL] at h
  cases c:exL r with
  | none=>rw [c] at h;cases h
  | some l =>
   rw [c] at h;injection h with h;subst h
   obtain ⟨a,t,rfl,e2,e3⟩:=e
   have e2:a=x:=e2
   rw [e2,VU c e3]
 | .s .. :: _,_,h,_,_=>by simp [exL] at h
 | .g .. :: _,_,h,_,_=>by simp [exL] at h
 | .p .. :: _,_,h,_,_=>by simp [exL] at h
 | .pe .. :: _,_,h,_,_=>by simp [exL] at h
 | .sb .. :: _,_,h,_,_=>by simp [exL] at h
 | .gl .. :: _,_,h,_,_=>by simp [exL] at h
 | .rp .. :: _,_,h,_,_=>by simp [exL] at h
 | .any :: _,_,h,_,_=>by simp [exL] at h
mutual
theorem exV_ok {P:Program} {Z:Tg→PH}:∀ {x:SV} {y:Value},exV x=some y→∀ {v:Value},SV.rel P B Z x v→v=y
 | .a (.v x),y,h,v,e=>by simp [exV] at h;subst h;exact e
 | .ag l,y,h,v,e=>by
  simp only [exV] at h
  cases c:exL l with
  | none=>rw [c] at h;cases h
  | some m =>
   rw [c] at h;injection h with h;subst h
   obtain ⟨vs,rfl,e2⟩:=e
   rw [VU c e2]
 | .tu l,y,h,v,e=>by
  simp only [exV] at h
  cases c:exVs l with
  | none=>rw [c] at h;cases h
  | some m =>
   rw [c] at h;injection h with h;subst h
   obtain ⟨vs,rfl,e2⟩:=e
   rw [exVs_ok c e2]
 | .a (.s ..),_,h,_,_=>by simp [exV] at h
 | .a (.g ..),_,h,_,_=>by simp [exV] at h
 | .a (.p ..),_,h,_,_=>by simp [exV] at h
 | .a (.pe ..),_,h,_,_=>by simp [exV] at h
 | .a (.sb ..),_,h,_,_=>by simp [exV] at h
 | .a (.gl ..),_,h,_,_=>by simp [exV] at h
 | .a (.rp ..),_,h,_,_=>by simp [exV] at h
 | .a .any,_,h,_,_=>by simp [exV] at h
 | .fn ..,_,h,_,_=>by simp [exV] at h
 | .fb ..,_,h,_,_=>by simp [exV] at h
 | .un,_,h,_,_=>by simp [exV] at h
theorem exVs_ok {P:Program} {Z:Tg→PH}:∀ {x:List SV} {y:List Value},exVs x=some y→∀ {v:List Value},SV.rels P B Z x v→v=y
 | [],y,h,v,e=>by simp [exVs] at h;subst h;exact e
 | x :: r,y,h,v,e=>by
  simp only [exVs] at h
  split at h
  ·rename_i y' l c1 c2
   injection h with h;subst h
   obtain ⟨a,t,rfl,e2,e3⟩:=e
   rw [exV_ok c1 e2,exVs_ok c2 e3]
  ·cases h
end
theorem ZO (hR:PQ R) (i:Nat) {n:Nat} {tk:List Nat} {o:Oper} {f:Nat} {ks:List Nat} {args:List SV} {mu1:Mu} {res:SV} (C:Ans E.P f ks args mu1 res) {x:Value} (hx:exV res=some x) {svs args':List SV} {g:Option (Nat×Nat×Bool)} {t:Nat} {q:Ob} {gd:Gd} {es:List Prop} {gs:List GO} (hi:nth all i=some o) (hB:tP all.toArray tk i=true)
  (hc:kN E.N all fr gf o=some (f,svs,g,t,gf')) (hgd:gd=match g with | none=>[] | some (_,d,b)=>kV 6 gf d b) (hen:iE E.P f) (hko:bU mu1=[]) (hres:res.inK ks=true)
  (hw:lS (muR G.ks mu) [] ks svs=some (args',q)) (ha:SVs.imp E.P args' args) (hs:dQ fr gf gd q [] [] = some (es,gs)) (he:cS es) (ho:cQ gs) (hin:mN (muR G.ks mu) mu1)
  (k:DJ G E all (KQ E.P R K) n (i :: tk) (frQ fr g t res) (gfQ gf' g t res) mu):DJ G E all (KQ E.P R K) (n+1) tk fr gf mu:=by
 have go:∀ {B a w H},FitsE E B H fr gf a→Mem E B mu w H→G.ok B H→(∀ d w,(d,w) ∈ gd→a.tmps.getD d undef = .bool w)→sV gd fr gf o.op=some (f,svs)→SV.rel E.P B (Zf E.r H) res x∧∀ w',Sr G E.r w'→Qu E.P (execOp a.eval o) x w':=fun {B a w H} ff m gg hgd0 hcall=>by
  have main:∀ w',Sr G E.r w'→∃ vals:List Value,(execOp a.eval o).run E.P w' = .ok (.enter f vals.toArray) w'∧Calls E.P f vals.toArray w' fun e w2 => ∃ v,e = .returned v∧(∀ Z,SV.rel E.P B Z res v)∧Below w'.heap.size w' w2:=fun w' s'=>by
   obtain ⟨vals,r1,r2⟩:=pE (w:=w') ff hgd0 hcall hen
   have ms:=m.msR G.ks
   have fw:=s'.fw (mu:=mu) gg
   exact ⟨vals,r1,J7 C hko hres ⟨ms.sat,fw.fit,fw.fitr,ms.dj,ms.djr⟩ hw ha (gE ff hgd0 hs he ho) hin r2⟩
  refine ⟨?_,fun w' s'=>?_⟩
  ·have:∀ (r:SV) (x:Value),exV r=some x→SV.rel E.P B (Zf E.r H) r x:=by
    intro r
    have hl:∀ {l:List V} {m:List Value},exL l=some m→V.rels B (Zf E.r H) l m:=fun {l}=>by
     induction l with
     | nil=>intro m h;simp [exL] at h;subst h;rfl
     | cons y r ih =>
      intro m h
      cases y <;>simp only [exL] at h <;>first | (cases h;done) | skip
      cases c:exL r with
      | none=>rw [c] at h;cases h
      | some l=>rw [c] at h;injection h with h;subst h;exact ⟨_,_,rfl,rfl,ih c⟩
    refine SV.rec (motive_1:=fun r => ∀ (x:Value),exV r=some x→SV.rel E.P B (Zf E.r H) r x) (motive_2:=fun l => ∀ (m:List Value),exVs l=some m→SV.rels E.P B (Zf E.r H) l m) ?_ ?_ ?_ ?_ ?_ ?_ ?_ ?_ r
    ·intro y x h
     cases y <;>simp [exV] at h
     subst h;rfl
    ·intro l x h
     simp only [exV] at h
     cases c:exL l with
     | none=>rw [c] at h;cases h
     | some m=>rw [c] at h;injection h with h;subst h;exact ⟨m,rfl,hl c⟩
    ·intro f l x h;simp [exV] at h
    ·intro φ x h;simp [exV] at h
    ·intro l ih x h
     simp only [exV] at h
     cases c:exVs l with
     | none=>rw [c] at h;cases h
     | some m=>rw [c] at h;injection h with h;subst h;exact ⟨m,rfl,ih m c⟩
    ·intro x h;simp [exV] at h
    ·intro m h;simp [exVs] at h;subst h;rfl
    ·intro y l h1 h2 m h
     simp only [exVs] at h
     split at h
     ·rename_i y' l' c1 c2
      injection h with h;subst h
      exact ⟨_,_,rfl,h1 _ c1,h2 _ c2⟩
     ·cases h
   exact this _ _ hx
  ·obtain ⟨vals,r1,r2⟩:=main w' s'
   exact .inr ⟨f,_,r1,r2.mono fun e w2 ⟨v,c1,c2,c3⟩=>⟨by rw [c1,exV_ok hx (c2 (Zf E.r H))],c3⟩⟩
 match g,hc,hgd,k with
 | none,hc,hgd,k =>
  subst hgd
  obtain ⟨h1,h2,h3,h4,h5⟩:=xG hc
  refine yH hR i hi hB (fun B a w H ff m gg=>?_) k
  obtain ⟨g1,g2⟩:=go ff m gg (fun _ _ hm=>by cases hm) h4
  exact ⟨x, .inl ⟨fM h1,g2⟩,by rw [h2];exact Fits.put ff (by simpa [Nat.blt_eq] using h3) g1 h5⟩
 | some (j,d,b),hc,hgd,k =>
  subst hgd
  obtain ⟨h1,h2,h3,h4,h5,h6,h7⟩:=xJ hc
  simp only [Bool.and_eq_true,Bool.not_eq_true'] at h4
  have htd:t≠d:=Nat.ne_of_beq_eq_false h4.2
  have htN:t<E.N:=by simpa [Nat.blt_eq] using h4.1
  refine yH hR i hi hB (fun B a w H ff m gg=>?_) k
  have hwt:=iS (ops:=all.toArray) (a:=a) h1 (kS h2)
  by_cases hyes:a.tmps.getD d undef = .bool b
  ·have hacts:=qV ff 6 d b hyes
   obtain ⟨g1,g2⟩:=go ff m gg hacts h6
   refine ⟨x, .inl ⟨hwt.2 hyes,g2⟩,?_⟩
   rw [h3];exact Fits.putG ff htN htd h5 h7 (.inl ⟨hyes,g1⟩)
  ·refine ⟨undef, .inr ⟨?_,rfl⟩,?_⟩
   ·cases e:Region.wanted o (yielded all.toArray a.tmps) with
    | false=>rfl
    | true=>exact absurd (hwt.1 e) hyes
   ·rw [h3];exact Fits.putG ff htN htd h5 h7 (.inr ⟨hyes,rfl⟩)
def sC (TT:List TI) (N:Nat) (all:List Oper) (mu:Mu):List Nat→Fr→GF→List Nat→List Prop→List GO→Option (List Nat×Fr×GF×List Nat×List Prop×List GO)
 | [],fr,gf,tk,es,gs=>some ([],fr,gf,tk,es,gs)
 | i :: r,fr,gf,tk,es,gs=>match nth all i with
  | none=>none
  | some o=>match o.guard with
   | none=>match pst TT fr gf mu [] o.op,o.dst with
    | some (x,q),some t=>match dQ fr gf [] q es gs,dD t gf with
     | some (es',gs'),some gf'=>bif Nat.blt t N then sC TT N all mu r ((t,x) :: fr) gf' (i :: tk) es' gs' else none
     | _,_=>none
    | _,_=>some (i :: r,fr,gf,tk,es,gs)
   | some (j,w)=>match qL all j with
    | some d=>match pst TT fr gf mu (kV 6 gf d w) o.op,o.dst with
     | some (x,q),some t=>match mlk t fr with
      | none=>match dQ fr gf (kV 6 gf d w) q es gs,dD t gf with
       | some (es',gs'),some gf'=>bif (Nat.blt t N && !(Nat.beq t d)) then sC TT N all mu r fr ((t,d,w,x) :: gf') (i :: tk) es' gs' else none
       | _,_=>none
      | some _=>none
     | _,_=>some (i :: r,fr,gf,tk,es,gs)
    | none=>none
def uU:Nat→Nat→List Nat
 | _,0=>[]
 | i,n+1=>i :: uU (i+1) n
def pS (ops:Array Oper):List Nat→List Nat→List Nat→Bool
 | [],_,_=>true
 | i :: is,is',tk=>bif Nat.beq is.length.succ is'.length then true else (tP ops tk i && pS ops is is' (i :: tk))
theorem qD (hT:TOk E.P TT) (hR:PQ R):∀ (is:List Nat) (fr:Fr) (gf:GF) (tk:List Nat) (es:List Prop) (gs:List GO) {is':List Nat} {fr':Fr} {gf':GF} {tk':List Nat} {es':List Prop} {gs':List GO},sC TT E.N all (muR G.ks mu) is fr gf tk es gs=some (is',fr',gf',tk',es',gs')→is'.length≤is.length∧(pS all.toArray is is' tk=true→cS es'∧cQ gs' →
  (cS es∧cQ gs)∧(DJ G E all (KQ E.P R K) is'.length tk' fr' gf' mu→DJ G E all (KQ E.P R K) is.length tk fr gf mu))
 | [],fr,gf,tk,es,gs,is',fr',gf',tk',es',gs',h=>by
  simp only [sC,Option.some.injEq,Prod.mk.injEq] at h
  obtain ⟨rfl,rfl,rfl,rfl,rfl,rfl⟩:=h
  exact ⟨Nat.le_refl _,fun _ ho=>⟨ho,id⟩⟩
 | i :: is,fr,gf,tk,es,gs,is',fr',gf',tk',es',gs',h=>by
  have stop:some (i :: is,fr,gf,tk,es,gs)=some (is',fr',gf',tk',es',gs')→is'.length≤(i :: is).length∧(pS all.toArray (i :: is) is' tk=true→cS es'∧cQ gs'→(cS es∧cQ gs)∧(DJ G E all (KQ E.P R K) is'.length tk' fr' gf' mu→DJ G E all (KQ E.P R K) (i :: is).length tk fr gf mu)):=fun h=>by
   simp only [Option.some.injEq,Prod.mk.injEq] at h
   obtain ⟨rfl,rfl,rfl,rfl,rfl,rfl⟩:=h
   exact ⟨Nat.le_refl _,fun _ ho=>⟨ho,id⟩⟩
  have go:∀ {fr2 gf2 es2 gs2},sC TT E.N all (muR G.ks mu) is fr2 gf2 (i :: tk) es2 gs2=some (is',fr',gf',tk',es',gs')→(tP all.toArray tk i=true→cS es2∧cQ gs2→(cS es∧cQ gs)∧(DJ G E all (KQ E.P R K) is.length (i :: tk) fr2 gf2 mu→DJ G E all (KQ E.P R K) (is.length+1) tk fr gf mu)) →
    is'.length≤(i :: is).length∧(pS all.toArray (i :: is) is' tk=true→cS es'∧cQ gs'→(cS es∧cQ gs)∧(DJ G E all (KQ E.P R K) is'.length tk' fr' gf' mu→DJ G E all (KQ E.P R K) (i :: is).length tk fr gf mu)):=fun h2 hk=>by
   obtain ⟨h3,h4⟩:=qD hT hR is _ _ _ _ _ h2
   refine ⟨Nat.le_trans h3 (by simp),fun hb ho=>?_⟩
   simp only [pS] at hb
   have:Nat.beq is.length.succ is'.length=false:=by
    cases e:Nat.beq is.length.succ is'.length with
    | false=>rfl
    | true=>have:=Nat.eq_of_beq_eq_true e;omega
   rw [this] at hb
   simp only [cond_false,Bool.and_eq_true] at hb
   obtain ⟨h5,h6⟩:=h4 hb.2 ho
   obtain ⟨h7,h8⟩:=hk hb.1 h5
   exact ⟨h7,fun k=>h8 (h6 k)⟩
  simp only [sC] at h
  split at h
  ·cases h
  ·rename_i o hi
   split at h
   ·rename_i hg
    split at h
    ·rename_i x q t hp hd
     split at h
     ·rename_i es2 gs2 gf2 hs hgd
      cases hbt:Nat.blt t E.N with
      | false=>rw [hbt] at h;cases h
      | true =>
       rw [hbt] at h
       simp only [cond_true] at h
       exact go h fun hb h1=>⟨kB hs h1,fun k=>aBd hT hR i hi hb hg hd hbt hp hs h1.1 h1.2 hgd k⟩
     ·cases h
    ·exact stop h
   ·rename_i j w hg
    split at h
    ·rename_i d hsl
     split at h
     ·rename_i x q t hp hd
      split at h
      ·rename_i hn
       split at h
       ·rename_i es2 gs2 gf2 hs hgd
        cases hbt:(Nat.blt t E.N && !(Nat.beq t d)) with
        | false=>rw [hbt] at h;cases h
        | true =>
         rw [hbt] at h
         simp only [cond_true] at h
         exact go h fun hb h1=>⟨kB hs h1,fun k=>YN hT hR i hi hb hg hsl hd hbt hn hp hs h1.1 h1.2 hgd k⟩
       ·cases h
      ·cases h
     ·exact stop h
    ·cases h
theorem rL:∀ i n,(uU i n).length=n
 | _,0=>rfl
 | i,n+1=>by rw [uU,List.length_cons,rL]
theorem DZ {tk:List Nat} {i:Nat} (h:EB all.toArray tk i=true):Region.ready .any all.toArray (mk all.toArray.size tk)=[i]:=by
 unfold EB at h
 split at h
 ·rename_i j e;rw [e,Nat.eq_of_beq_eq_true h]
 ·cases h
theorem One.mono {P:Program} {ops:Array Oper} {Q:Exit→Act→World→Prop} {o:Oper} {J J':Act→World→Prop} {a:Act} {w:World} (hJ:∀ a w,J a w→J' a w) (h:One P ops Q o J a w):One P ops Q o J' a w:=by
 unfold One at *
 split
 ·rename_i hw
  rw [if_pos hw] at h
  exact h.imp (fun h=>Oper.wp_mono hJ h) id
 ·rename_i hw
  rw [if_neg hw] at h
  exact hJ _ _ h
theorem bG (i:Nat) {n:Nat} {tk:List Nat} {o:Oper} {Q:Exit→Act→World→Prop} (hi:nth all i=some o) (hB:EB all.toArray tk i=true) (h:OJ G E all Q (fun a' w'=>Sr G E.r w'∧Lw E.P all.toArray Q (Sr G E.r) n (mk all.toArray.size (i :: tk)) a' w') o fr gf mu):DJ G E all Q (n+1) tk fr gf mu:=fun B a w H f m gg w2 hb=>by
 have hr:=DZ hB
 have hi':all.toArray[i]? = some o:=by rw [pB] at hi;simpa using hi
 refine ⟨fun h0=>(by rw [hr] at h0;cases h0),fun j hj=>?_⟩
 rw [hr] at hj
 obtain rfl:=List.mem_singleton.1 hj
 have h1:=One.mono (fun a' w' (h:Sr G E.r w'∧Lw E.P all.toArray Q (Sr G E.r) n (mk all.toArray.size (j :: tk)) a' w')=>(⟨_, .inl rfl,h.1,h.2⟩:∃ S',(S'=Sr G E.r∨BX all.toArray j=true)∧S' w'∧Lw E.P all.toArray Q S' n (mk all.toArray.size (j :: tk)) a' w')) (h B a w2 H f (m.below hb) gg)
 unfold One at h1
 unfold wpOp
 rw [hi',yL]
 exact h1
theorem eU (i j:Nat) {n:Nat} {tk:List Nat} {o p:Oper} {Q:Exit→Act→World→Prop} (hi:nth all i=some o) (hj:nth all j=some p) (hB:Region.ready .any all.toArray (mk all.toArray.size tk)=[i,j])
  (h:OJ G E all Q (fun a' w'=>Sr G E.r w'∧Lw E.P all.toArray Q (Sr G E.r) n (mk all.toArray.size (i :: tk)) a' w') o fr gf mu)
  (h2:OJ G E all Q (fun a' w'=>Sr G E.r w'∧Lw E.P all.toArray Q (Sr G E.r) n (mk all.toArray.size (j :: tk)) a' w') p fr gf mu):DJ G E all Q (n+1) tk fr gf mu:=fun B a w H f m gg w2 hb=>by
 have hi':all.toArray[i]? = some o:=by rw [pB] at hi;simpa using hi
 have hj':all.toArray[j]? = some p:=by rw [pB] at hj;simpa using hj
 refine ⟨fun h0=>(by rw [hB] at h0;cases h0),fun k hk=>?_⟩
 rw [hB] at hk
 rcases List.mem_cons.1 hk with rfl | hk
 ·have h1:=One.mono (fun a' w' (h:Sr G E.r w'∧Lw E.P all.toArray Q (Sr G E.r) n (mk all.toArray.size (k :: tk)) a' w')=>(⟨_, .inl rfl,h.1,h.2⟩:∃ S',(S'=Sr G E.r∨BX all.toArray k=true)∧S' w'∧Lw E.P all.toArray Q S' n (mk all.toArray.size (k :: tk)) a' w')) (h B a w2 H f (m.below hb) gg)
  unfold One at h1
  unfold wpOp
  rw [hi',yL]
  exact h1
 ·obtain rfl:=List.mem_singleton.1 hk
  have h1:=One.mono (fun a' w' (h:Sr G E.r w'∧Lw E.P all.toArray Q (Sr G E.r) n (mk all.toArray.size (k :: tk)) a' w')=>(⟨_, .inl rfl,h.1,h.2⟩:∃ S',(S'=Sr G E.r∨BX all.toArray k=true)∧S' w'∧Lw E.P all.toArray Q S' n (mk all.toArray.size (k :: tk)) a' w')) (h2 B a w2 H f (m.below hb) gg)
  unfold One at h1
  unfold wpOp
  rw [hj',yL]
  exact h1
theorem bD {n:Nat} {tk:List Nat} {Q:Exit→Act→World→Prop} (h:DJ G E all Q n tk fr gf mu):SJ G (fun a' w'=>Sr G E.r w'∧Lw E.P all.toArray Q (Sr G E.r) n (mk all.toArray.size tk) a' w') E fr gf mu:=fun B a w H f m gg=>⟨m.sr gg,h B a w H f m gg⟩
theorem tX {n:Nat} {tk:List Nat} (hr:(Region.ready .any all.toArray (mk all.toArray.size tk)).isEmpty=true) (h:X E R (nxN K) fr mu):DJ G E all (KQ E.P R K) n tk fr gf mu:=fun B a w H f m gg=>by
 have hr':Region.ready .any all.toArray (mk all.toArray.size tk)=[]:=by simpa using hr
 have hq:=fun w' hb=>wH (h B a w' H (Fits.ungf f) (m.below hb))
 cases n with
 | zero=>exact fun w' hb=>⟨hr',hq w' hb⟩
 | succ n=>exact fun w' hb=>⟨fun _=>hq w' hb,fun i hi=>by rw [hr'] at hi;cases hi⟩
theorem aAQ (hT:TOk E.P TT) (ex:List Nat) {id:Nat} {l:List Oper} {ks is' tk':List Nat} {es:List Prop} {gs:List GO} (hks:BB ex mu=ks) (ha:sC TT E.N l (muR ks mu) (uU 0 l.length) fr [] [] [] [] = some (is',fr',gf',tk',es,gs))
  (k:∀ B0 H0,DJ ⟨ks,B0,H0⟩ E l (KQ E.P R K) is'.length tk' fr' gf' mu) (hR:PQ R:=by exact oN _ _) (hm:E.P.follows .mixedOrders=true:=by kernel_rfl) (hb:pS l.toArray (uU 0 l.length) is' [] = true:=by kernel_rfl)
  (he:cS es:=by exact eD) (ho:cQ gs:=by exact gD):T E R (.region id l.toArray true) fr mu K :=
 V9 ex l.length hm (by simp) hks fun B0 H0=>by
  have:=(qD (G:=⟨ks,B0,H0⟩) (K:=K) hT hR _ _ _ _ _ _ ha).2 hb ⟨he,ho⟩
  rw [rL] at this
  exact this.2 (k B0 H0)
theorem aO (ex:List Nat) {id:Nat} {l:List Oper} {ks is' tk':List Nat} {es:List Prop} {gs:List GO} (k:∀ B0 H0,DJ ⟨ks,B0,H0⟩ E l (KQ E.P R K) is'.length tk' fr' gf' mu) (hT:TOk E.P TT:=by exact TT_ok) (hks:BB ex mu=ks:=by exact rfl) (ha:sC TT E.N l (muR ks mu) (uU 0 l.length) fr [] [] [] [] = some (is',fr',gf',tk',es,gs):=by exact rfl) (hR:PQ R:=by exact oN _ _) (hm:E.P.follows .mixedOrders=true:=by kernel_rfl) (hb:pS l.toArray (uU 0 l.length) is' [] = true:=by kernel_rfl) (he:cS es:=by exact eD) (ho:cQ gs:=by exact gD):T E R (.region id l.toArray true) fr mu K:=aAQ hT ex hks ha k hR hm hb he ho
theorem jB (hT:TOk E.P TT) {n:Nat} {tk is' tk':List Nat} {f:Nat} {ks:List Nat} {args:List SV} {mu1:Mu} {res:SV} (C:Ans E.P f ks args mu1 res) {svs args':List SV} {g:Option (Nat×Nat×Bool)} {t:Nat} {q:Ob} {es0 es:List Prop} {gs0 gs:List GO} (hi:nth all tk.length=some o)
  (hc:kN E.N all fr gf o=some (f,svs,g,t,gf')) (hw:lS (muR G.ks mu) [] ks svs=some (args',q)) (hae:args'=args) (hs:dQ fr gf (match g with | none=>[] | some (_,d,b)=>kV 6 gf d b) q [] [] = some (es0,gs0)) {gf3:GF}
  (ha:sC TT E.N all (muR G.ks mu) (uU (tk.length+1) n) (frQ fr g t res) (gfQ gf' g t res) (tk.length :: tk) es0 gs0=some (is',fr',gf3,tk',es,gs)) (k:DJ G E all (KQ E.P R K) is'.length tk' fr' gf3 mu)
  {x:Value} (hx:exV res=some x:=by exact rfl) (hR:PQ R:=by exact oN _ _) (hb:(tP all.toArray tk tk.length && pS all.toArray (uU (tk.length+1) n) is' (tk.length :: tk))=true:=by kernel_rfl)
  (hko:bU mu1=[]:=by exact rfl) (hres:res.inK ks=true:=by exact rfl) (hin:mN (muR G.ks mu) mu1:=by repeat (first | exact trivial | refine And.intro ⟨_,rfl,gS⟩ ?_ | refine And.intro ⟨_,rfl,fS⟩ ?_ | refine And.intro ⟨_,rfl,gR⟩ ?_ | refine And.intro ⟨_,rfl,aCt _⟩ ?_)) (hen:iE E.P f:=by exact aB) (he:cS es:=by exact eD) (ho:cQ gs:=by exact gD):DJ G E all (KQ E.P R K) (n+1) tk fr gf mu:=by
 simp only [Bool.and_eq_true] at hb
 subst hae
 obtain ⟨h3,h2⟩:=(qD (G:=G) (K:=K) hT hR _ _ _ _ _ _ ha).2 hb.2 ⟨he,ho⟩
 have h2:=h2 k
 rw [rL] at h2
 exact ZO hR _ C hx hi hb.1 hc rfl hen hko hres hw (aCu _) hs h3.1 h3.2 hin h2
theorem tZ (hT:TOk E.P TT) {n:Nat} {tk is' tk':List Nat} {es:List Prop} {gs:List GO} (ha:sC TT E.N all (muR G.ks mu) (uU tk.length n) fr gf tk [] [] = some (is',fr',gf',tk',es,gs)) (k:DJ G E all (KQ E.P R K) is'.length tk' fr' gf' mu) (hR:PQ R:=by exact oN _ _) (hb:pS all.toArray (uU tk.length n) is' tk=true:=by kernel_rfl)
  (he:cS es:=by exact eD) (ho:cQ gs:=by exact gD):DJ G E all (KQ E.P R K) n tk fr gf mu:=by
 have h2:=((qD (G:=G) (K:=K) hT hR _ _ _ _ _ _ ha).2 hb ⟨he,ho⟩).2 k
 rw [rL] at h2
 exact h2
theorem aA2 (hT:TOk E.P TT) {n:Nat} {tk:List Nat} {js:JS} {es:List Prop} {gs:List GO} (ha:x8 (k9 TT E.N E.A.ks 400) (nxN K) fr mu [] [] = some (js,es,gs)) (k:js.ok E R) (hr:(Region.ready .any all.toArray (mk all.toArray.size tk)).isEmpty=true:=by kernel_rfl)
  (he:cS es:=by exact eD) (ho:cQ gs:=by exact gD):DJ G E all (KQ E.P R K) n tk fr gf mu:=tX hr ((uY (mD hT 400) ha ⟨he,ho⟩).2 k)
theorem aP {n:Nat} {tk:List Nat} {js:JS} {es:List Prop} {gs:List GO} (k:js.ok E R) (hT:TOk E.P TT:=by exact TT_ok) (ha:x8 (k9 TT E.N E.A.ks 400) (nxN K) fr mu [] [] = some (js,es,gs):=by exact rfl) (hr:(Region.ready .any all.toArray (mk all.toArray.size tk)).isEmpty=true:=by kernel_rfl) (he:cS es:=by exact eD) (ho:cQ gs:=by exact gD):DJ G E all (KQ E.P R K) n tk fr gf mu:=aA2 hT ha k hr he ho
end
end
end
section
set_option maxRecDepth 100000
def TT:List TI:=[
 ⟨2,1,8, .it .i64, .int .i64 0,false⟩,
 ⟨3,1,8, .it .i64, .int .i64 0,false⟩,
 ⟨4,1,1, .bo, .bool false,false⟩,
 ⟨5,1,1, .it .u8, .int .u8 0,false⟩,
 ⟨22,1,24, .slc 5, .slice none 0 0,false⟩,
 ⟨24,1,24, .slc 68, .slice none 0 0,false⟩,
 ⟨25,1,24, .slc 39, .slice none 0 0,false⟩,
 ⟨26,1,24, .slc 48, .slice none 0 0,false⟩,
 ⟨28,6,96, .st [(0,2),(1,2),(2,24),(3,25),(4,26),(5,4)], .agg #[.int .i64 0, .int .i64 0, .slice none 0 0, .slice none 0 0, .slice none 0 0, .bool false],false⟩,
 ⟨35,1,24, .slc 80, .slice none 0 0,false⟩,
 ⟨36,1,24, .slc 83, .slice none 0 0,false⟩,
 ⟨37,1,24, .slc 2, .slice none 0 0,false⟩,
 ⟨39,4,80, .st [(0,4),(1,35),(2,36),(3,37)], .agg #[.bool false, .slice none 0 0, .slice none 0 0, .slice none 0 0],false⟩,
 ⟨45,1,24, .slc 106, .slice none 0 0,false⟩,
 ⟨46,1,24, .slc 108, .slice none 0 0,false⟩,
 ⟨48,7,88, .st [(0,2),(1,2),(2,2),(3,2),(4,45),(5,46),(6,2)], .agg #[.int .i64 0, .int .i64 0, .int .i64 0, .int .i64 0, .slice none 0 0, .slice none 0 0, .int .i64 0],false⟩,
 ⟨61,1,24, .slc 117, .slice none 0 0,false⟩,
 ⟨68,1,24, .st [(0,37)], .agg #[.slice none 0 0],false⟩,
 ⟨80,2,32, .st [(0,2),(1,61)], .agg #[.int .i64 0, .slice none 0 0],false⟩,
 ⟨83,4,48, .st [(0,2),(1,2),(2,2),(3,46)], .agg #[.int .i64 0, .int .i64 0, .int .i64 0, .slice none 0 0],false⟩,
 ⟨88,1,8, .ptr, .pointer none,false⟩,
 ⟨106,5,40, .st [(0,2),(1,2),(2,2),(3,2),(4,4)], .agg #[.int .i64 0, .int .i64 0, .int .i64 0, .int .i64 0, .bool false],true⟩,
 ⟨108,5,40, .st [(0,2),(1,2),(2,2),(3,4),(4,2)], .agg #[.int .i64 0, .int .i64 0, .int .i64 0, .bool false, .int .i64 0],true⟩,
 ⟨117,2,16, .st [(0,2),(1,2)], .agg #[.int .i64 0, .int .i64 0],true⟩,
 ⟨119,1,24, .slc 4, .slice none 0 0,false⟩,
 ⟨123,1,8, .ptr, .pointer none,false⟩,
 ⟨134,3,40, .st [(0,22),(1,3),(2,2)], .agg #[.slice none 0 0, .int .i64 0, .int .i64 0],false⟩,
 ⟨177,1,24, .slc 226, .slice none 0 0,false⟩,
 ⟨194,1,8, .it .u64, .int .u64 0,false⟩,
 ⟨208,1,24, .slc 211, .slice none 0 0,false⟩,
 ⟨211,3,24, .st [(0,2),(1,2),(2,4)], .agg #[.int .i64 0, .int .i64 0, .bool false],true⟩,
 ⟨226,5,40, .st [(0,2),(1,2),(2,2),(3,2),(4,2)], .agg #[.int .i64 0, .int .i64 0, .int .i64 0, .int .i64 0, .int .i64 0],true⟩,
 ⟨238,1,24, .slc 3, .slice none 0 0,false⟩]
theorem tiOk {ti:TI} (h1:(Tryz.prog.underlying ti.id).map lW=some ti.kind) (h2:(Tryz.prog.info? ti.id).map (fun i=>(i.size,i.bytes))=some (ti.sz,ti.by_)) (h3:(Tryz.prog.info? ti.id).bind (·.zero)=some ti.zero) (h4:(!ti.eqf || K1 Tryz.prog ti.id)=true):ti.ok Tryz.prog:=⟨h1,h2,h3,fun e=>by rw [e] at h4;exact h4⟩
theorem TT_ok:TOk Tryz.prog TT:=by
 unfold TT
 repeat' first
  | exact trivial
  | refine ⟨tiOk (by kernel_rfl) (by kernel_rfl) (by kernel_rfl) (by kernel_rfl),?_⟩
end
section
section
abbrev vI (n:Int):SV := .a (.v (.int .i64 n))
abbrev vB (b:Bool):SV := .a (.v (.bool b))
abbrev vR (l:List D):SV := .ag (l.map (D.toV .r))
abbrev vL {α:Type} (sz:Nat) (enc:α→List D) (z:α) (xs:List α):SV := .a (.s .r sz xs.length fun i=>enc (xs.getD i z))
abbrev dL {α:Type} (sz:Nat) (enc:α→List D) (z:α) (xs:List α):D := .sl sz xs.length fun i=>enc (xs.getD i z)
abbrev vP (l:List D):SV := .a (.rp .r l 0)
section
variable {E:Env} {mu:Mu} {TT:List TI} {fr:Fr} {K:List KF}
theorem BV {fn:Func} {res:SV} (hT:TOk E.P TT) (ts:List (Nat×Option Nat)) (hr:fn.results=(ts.map wZ).toArray) {x:SV} (hl:lB TT fr mu ts=some [x]) (hx:x=res) :
  T E (bodyPost E.P fn (RetP E (fun _:Unit=>True) (fun _=>[res]) fun _=>[])) .ret fr mu K :=
 aAr hT () ts hr hl ⟨_,_,rfl,aCw hx,rfl⟩ trivial trivial
theorem b9 {fn:Func} {b b':Bool} (hT:TOk E.P TT) (ts:List (Nat×Option Nat)) (hr:fn.results=(ts.map wZ).toArray) (hl:lB TT fr mu ts=some [vB b]) (hx:b=b') :
  T E (bodyPost E.P fn (RetP E (fun _:Unit=>True) (fun _=>[vB b']) fun _=>[])) .ret fr mu K:=BV hT ts hr hl (by rw [hx])
theorem aG {fn:Func} {b b':Bool} (ts:List (Nat×Option Nat)) (hx:b=b') (hT:TOk E.P TT:=by exact TT_ok) (hr:fn.results=(ts.map wZ).toArray:=by exact rfl) (hl:lB TT fr mu ts=some [vB b]:=by exact rfl):T E (bodyPost E.P fn (RetP E (fun _:Unit=>True) (fun _=>[vB b']) fun _=>[])) .ret fr mu K:=b9 hT ts hr hl hx
theorem dK {fn:Func} {b b':Int} (hT:TOk E.P TT) (ts:List (Nat×Option Nat)) (hr:fn.results=(ts.map wZ).toArray) (hl:lB TT fr mu ts=some [vI b]) (hx:b=b') :
  T E (bodyPost E.P fn (RetP E (fun _:Unit=>True) (fun _=>[vI b']) fun _=>[])) .ret fr mu K:=BV hT ts hr hl (by rw [hx])
theorem aJ {fn:Func} {b b':Int} (ts:List (Nat×Option Nat)) (hx:b=b') (hT:TOk E.P TT:=by exact TT_ok) (hr:fn.results=(ts.map wZ).toArray:=by exact rfl) (hl:lB TT fr mu ts=some [vI b]:=by exact rfl):T E (bodyPost E.P fn (RetP E (fun _:Unit=>True) (fun _=>[vI b']) fun _=>[])) .ret fr mu K:=dK hT ts hr hl hx
end
end
section
abbrev bE {α:Type} (sz:Nat) (enc:α→List D) (z:α) (xs:List α):Ch := .arr sz xs.length fun i=>enc (xs.getD i z)
abbrev MkL {α:Type} (P:Program) (f:Nat) (args:List SV) (sz:Nat) (enc:α→List D) (z:α) (xs:List α):Prop:=Con P f [] args [] (fun _:Unit=>True) (fun _=>[.a (.g 900)]) fun _=>[(900,bE sz enc z xs)]
theorem Ch.imp_len {sz n m:Nat} {f g:Nat→List D} (h:n=m) (e:∀ i,i<n→f i=g i):(Ch.arr sz n f).imp (.arr sz m g):=by subst h;exact Ch.imp_arr e
theorem bP {α:Type} {sz:Nat} {enc:α→List D} {z:α} {xs ys:List α} (h:xs=ys):(bE sz enc z xs).imp (bE sz enc z ys):=by subst h;exact aCt _
theorem mX {α:Type} {sz:Nat} {enc:α→List D} {z:α} {ys zs rs:List α} (h:rs=ys ++ zs):(Ch.arr sz (ys.length+zs.length) (kY ys.length (fun i=>enc (ys.getD i z)) fun i=>enc (zs.getD i z))).imp (bE sz enc z rs):=by
 subst h
 refine Ch.imp_len (by simp) fun i hi=>?_
 by_cases c:i<ys.length
 ·rw [jA c];congr 1;simp [List.getElem?_append_left c]
 ·rw [mU (by omega)];congr 1;simp [List.getElem?_append_right (Nat.le_of_not_lt c)]
theorem fJ {α:Type} {sz:Nat} {enc:α→List D} {z x:α} {ys rs:List α} {g:Nat→List D} (h:rs=ys ++ [x]) (hg:g 0=enc x):(Ch.arr sz (ys.length+1) (kY ys.length (fun i=>enc (ys.getD i z)) g)).imp (bE sz enc z rs):=by
 subst h
 refine Ch.imp_len (by simp) fun i hi=>?_
 by_cases c:i<ys.length
 ·rw [jA c];congr 1;simp [List.getElem?_append_left c]
 ·have:i=ys.length:=by omega
  subst this
  rw [mU (by omega),Nat.sub_self,hg];congr 1;simp
theorem aS {α:Type} {sz:Nat} {enc:α→List D} {z x:α} {ys rs:List α} {g:Nat→List D} (h:rs=ys ++ [x]) (hg:g 0=enc x:=by exact rfl):(Ch.arr sz (ys.length+1) (kY ys.length (fun i=>enc (ys.getD i z)) g)).imp (bE sz enc z rs):=fJ h hg
theorem cC {α:Type} {z:α} {xs:List α} {i:Nat} (h:i<xs.length):xs.take (i+1)=xs.take i ++ [xs.getD i z]:=by
 rw [List.take_add_one];simp [h]
theorem AE {α:Type} {z:α} {xs:List α} {i:Nat} (h:i<xs.length) (p:α→Bool):(xs.take (i+1)).filter p=if p (xs.getD i z) then (xs.take i).filter p ++ [xs.getD i z] else (xs.take i).filter p:=by
 rw [cC (z:=z) h,List.filter_append,List.filter_cons]
 split <;>simp
theorem jM {α:Type} {z:α} {xs:List α} {i:Nat} (h:i<xs.length) {p:α→Bool} (e:p (xs.getD i z)=true):(xs.take (i+1)).filter p=(xs.take i).filter p ++ [xs.getD i z]:=by rw [AE (z:=z) h,if_pos e]
theorem j4 {α:Type} {z:α} {xs:List α} {i:Nat} (h:i<xs.length) {p:α→Bool} (e:p (xs.getD i z)=false):(xs.take i).filter p=(xs.take (i+1)).filter p:=by rw [AE (z:=z) h,if_neg (by rw [e];simp)]
theorem zP {α:Type} (xs:List α) (p:α→Bool) (i:Nat):((xs.take i).filter p).length≤xs.length:=Nat.le_trans (List.length_filter_le _ _) (by rw [List.length_take];exact Nat.min_le_right _ _)
abbrev fbO {α:Type} (rd:α→List RD) (q:α→Value):SV := .fb fun args v => ∃ x,args=rd x∧v=q x
def cI {α:Type} (p:α→Bool):List α→Int
 | [] => -1
 | x :: r=>if p x then 0 else if cI p r = -1 then -1 else cI p r+1
theorem gT {α:Type} {p:α→Bool} {z:α}:∀ {xs:List α},(∀ j,j<xs.length→p (xs.getD j z)=false)→cI p xs = -1
 | [],_=>rfl
 | x :: r,h=>by
  have h0:p x=false:=by simpa using h 0 (by simp)
  have:=gT (p:=p) (z:=z) (xs:=r) fun j hj=>by simpa using h (j+1) (by simpa using hj)
  simp [cI,h0,this]
theorem gA {α:Type} {p:α→Bool} {z:α}:∀ {xs:List α} {i:Nat},i<xs.length→(∀ j,j<i→p (xs.getD j z)=false)→p (xs.getD i z)=true→cI p xs=i
 | x :: r,0,_,_,h=>by simp at h;simp [cI,h]
 | x :: r,i+1,hi,h0,h=>by
  have hx:p x=false:=by simpa using h0 0 (by omega)
  have:=gA (p:=p) (z:=z) (xs:=r) (i:=i) (by simpa using hi) (fun j hj=>by simpa using h0 (j+1) (by omega)) (by simpa using h)
  simp only [cI,hx,this]
  simp
theorem gH {α:Type} (p:α→Bool) (z:α) (xs:List α):(cI p xs = -1∧∀ j,j<xs.length→p (xs.getD j z)=false)∨∃ i:Nat,i<xs.length∧cI p xs=i∧(∀ j,j<i→p (xs.getD j z)=false)∧p (xs.getD i z)=true:=by
 by_cases h:∃ i,i<xs.length∧p (xs.getD i z)=true
 ·right
  have hw:∃ i,(i<xs.length∧p (xs.getD i z)=true)∧∀ j,j<i→¬ (j<xs.length∧p (xs.getD j z)=true):=by
   obtain ⟨n,hn⟩:=h
   have:∀ n,(n<xs.length∧p (xs.getD n z)=true)→∃ i,(i<xs.length∧p (xs.getD i z)=true)∧∀ j,j<i→¬ (j<xs.length∧p (xs.getD j z)=true):=fun n=>by
    induction n using Nat.strongRecOn with
    | ind n ih =>
     intro hn
     by_cases h:∃ j,j<n∧(j<xs.length∧p (xs.getD j z)=true)
     ·obtain ⟨j,h1,h2⟩:=h;exact ih j h1 h2
     ·exact ⟨n,hn,fun j hj hc=>h ⟨j,hj,hc⟩⟩
   exact this n hn
  obtain ⟨i,⟨h1,h2⟩,h3⟩:=hw
  have h4:∀ j,j<i→p (xs.getD j z)=false:=fun j hj=>by
   cases c:p (xs.getD j z) with
   | false=>rfl
   | true=>exact absurd ⟨by omega,c⟩ (h3 j hj)
  exact ⟨i,h1,gA h1 h4 h2,h4,h2⟩
 ·left
  have h4:∀ j,j<xs.length→p (xs.getD j z)=false:=fun j hj=>by
   cases c:p (xs.getD j z) with
   | false=>rfl
   | true=>exact absurd ⟨j,hj,c⟩ h
  exact ⟨gT h4,h4⟩
theorem mE {α:Type} (xs:List α) (p:α→Bool) (i:Nat):((xs.take i).filter p).length≤i:=Nat.le_trans (List.length_filter_le _ _) (by rw [List.length_take];exact Nat.min_le_left _ _)
theorem m5 {α:Type} {z:α} {xs:List α} {i k:Nat} (h:k<(xs.take i).length):(xs.take i).getD k z=xs.getD k z:=by
 rw [List.length_take] at h
 simp only [List.getD_eq_getElem?_getD]
 rw [List.getElem?_take_of_lt (by omega)]
theorem rM {α:Type} {z:α} {ys zs:List α} {k:Nat} (h:k<ys.length):(ys ++ zs).getD k z=ys.getD k z:=by simp [List.getElem?_append_left h]
theorem rS {α:Type} {z x:α} {ys:List α}:(ys ++ [x]).getD ys.length z=x:=by simp
theorem fL {a b:Int} (h:a=b):vI a=vI b:=by rw [h]
section
variable {E:Env} {mu mu':Mu} {TT:List TI} {fr fr':Fr} {gf gf':GF} {all rest:List Oper} {Q:Exit→Act→World→Prop} {o:Oper} {G:AG}
theorem iH {ι:Type} (i:Nat) {n:Nat} {tk:List Nat} {f:Nat} {ks nk:List Nat} {args:List SV} {mu1:Mu} {φ:ι→Prop} {res:ι→List SV} {mu1':ι→Mu} (C:Con E.P f ks args mu1 φ res mu1') {svs args':List SV} {g:Option (Nat×Nat×Bool)} {t:Nat} {q:Ob} {es:List Prop} {gs:List GO} {md:Mu}
  (hi:nth all i=some o) (hc:kN E.N all fr gf o=some (f,svs,g,t,gf')) (hw:lS mu (bU mu1) ks svs=some (args',q)) (ha:SVs.imp E.P args' args) (hnk:∀ y,nP (mu1' y)=nk) (hs:dQ fr gf [] q [] [] = some (es,gs)) (hmd:d7 (fB (bU mu1) nk) mu=some md) {fr':Fr} {gf2:GF} (hcut:iK (bU mu1) fr gf'=some (fr',gf2))
  (k:∀ y,φ y→DJ G E all Q n (i :: tk) ((t,EE (res y)) :: fr') gf2 (lI (mu1' y) md)) (hB:EB all.toArray tk i=true:=by kernel_rfl)
  (hin:mN mu mu1:=by exact iD) (hg:KE fr gf g:=by first | exact trivial | exact ⟨rfl,rfl⟩) (hkeys:iF ks nk mu1 fr gf mu E.A.ks G.ks=true:=by exact rfl) (hout:∀ y,(SV.inKL (fB ks nk) (res y) && lR (fB ks nk) (mu1' y))=true:=by exact fun _=>rfl) (hen:iE E.P f:=by exact aB) (he:cS es:=by exact eD) (ho:cQ gs:=by exact gD) :
  DJ G E all Q (n+1) tk fr gf mu :=
 bG i hi hB (YZ C hc hg hen hw ha hs he ho hin hnk hkeys hout hmd hcut fun y hy=>bD (k y hy))
theorem aX {ι:Type} (i:Nat) {n:Nat} {tk:List Nat} {f:Nat} {ks nk:List Nat} {args:List SV} {mu1:Mu} {φ:ι→Prop} {res:ι→List SV} {mu1':ι→Mu} (C:Con E.P f ks args mu1 φ res mu1') {svs args':List SV} {g:Option (Nat×Nat×Bool)} {t:Nat} {q:Ob} {es:List Prop} {gs:List GO} {md:Mu} {fr':Fr} {gf2:GF} (k:∀ y,φ y→DJ G E all Q n (i :: tk) ((t,EE (res y)) :: fr') gf2 (lI (mu1' y) md)) (hi:nth all i=some o:=by exact rfl) (hc:kN E.N all fr gf o=some (f,svs,g,t,gf'):=by exact rfl) (hw:lS mu (bU mu1) ks svs=some (args',q):=by exact rfl) (ha:SVs.imp E.P args' args:=by exact aCu _) (hnk:∀ y,nP (mu1' y)=nk:=by exact fun _=>rfl) (hs:dQ fr gf [] q [] [] = some (es,gs):=by exact rfl) (hmd:d7 (fB (bU mu1) nk) mu=some md:=by exact rfl) (hcut:iK (bU mu1) fr gf'=some (fr',gf2):=by exact rfl) (hB:EB all.toArray tk i=true:=by kernel_rfl) (hin:mN mu mu1:=by exact iD) (hg:KE fr gf g:=by first | exact trivial | exact ⟨rfl,rfl⟩) (hkeys:iF ks nk mu1 fr gf mu E.A.ks G.ks=true:=by exact rfl) (hout:∀ y,(SV.inKL (fB ks nk) (res y) && lR (fB ks nk) (mu1' y))=true:=by exact fun _=>rfl) (hen:iE E.P f:=by exact BU (by kernel_rfl)) (he:cS es:=by exact eD) (ho:cQ gs:=by exact gD):DJ G E all Q (n+1) tk fr gf mu:=iH i C hi hc hw ha hnk hs hmd hcut k hB hin hg hkeys hout hen he ho
theorem z5 (i:Nat) {n:Nat} {tk:List Nat} {f:Nat} {ks:List Nat} {args:List SV} {mu1:Mu} {res:SV} (C:Ans E.P f ks args mu1 res) {svs args':List SV} {g:Option (Nat×Nat×Bool)} {t:Nat} {q:Ob} {es:List Prop} {gs:List GO}
  (hi:nth all i=some o) (hc:kN E.N all fr gf o=some (f,svs,g,t,gf')) (hw:lS mu [] ks svs=some (args',q)) (hae:args'=args) (hs:dQ fr gf (match g with | none=>[] | some (_,d,b)=>kV 6 gf d b) q [] [] = some (es,gs))
  (k:DJ G E all Q n (i :: tk) (frQ fr g t res) (gfQ gf' g t res) mu) (hB:EB all.toArray tk i=true:=by kernel_rfl) (hko:bU mu1=[]:=by exact rfl) (hres:res.inK ks=true:=by exact rfl) (hin:mN mu mu1:=by exact iD) (hen:iE E.P f:=by exact aB) (he:cS es:=by exact eD) (ho:cQ gs:=by exact gD) :
  DJ G E all Q (n+1) tk fr gf mu:=by
 subst hae
 exact bG i hi hB (TW C hc rfl hen hko hres hw (aCu _) hs he ho hin (bD k))
end
end
section
section
variable {E:Env} {mu mu':Mu} {TT:List TI} {fr fr':Fr} {gf gf':GF} {all rest:List Oper} {Q:Exit→Act→World→Prop} {o:Oper} {J:Act→World→Prop} {G:AG}
def V.isNil:V→Bool
 | .v (.slice none 0 0)=>true
 | _=>false
theorem V.isNil_eq {x:V} (h:x.isNil=true):x = .v (.slice none 0 0):=by
 unfold V.isNil at h
 split at h
 ·rfl
 ·cases h
def HN (sz:Nat) (f:Nat→List D):List V→Nat→Option (List V)
 | [],_=>none
 | x :: r,0=>bif x.isNil then some (.s .o sz 0 f :: r) else none
 | x :: r,j+1=>match HN sz f r j with
  | some l=>some (x :: l)
  | none=>none
theorem KK {B:BE} {r:PH} {sz:Nat} {f:Nat→List D}:∀ {l:List V} {j:Nat} {l':List V},HN sz f l j=some l'→l'.length=l.length∧∀ {h:PH} {vs:List Value},V.owns B r h l vs→V.owns B r h l' vs
 | [],j,_,e=>by simp [HN] at e
 | x :: l,0,l',e=>by
  simp only [HN] at e
  cases c:x.isNil with
  | false=>rw [c] at e;cases e
  | true =>
   rw [c] at e
   injection e with e
   subst e
   refine ⟨rfl,fun {h vs} o=>?_⟩
   obtain ⟨v,t,h1,h2,rfl,e2,e3,e4,e5,e6⟩:=o
   rw [V.isNil_eq c] at e5
   have e5:v = .slice none 0 0:=e5
   subst e5
   exact ⟨_,t,h1,h2,rfl,e2,e3,e4, .inl ⟨rfl,none,0,rfl,Nat.le_refl _,Nat.zero_le _, .inl rfl⟩,e6⟩
 | x :: l,j+1,l',e=>by
  simp only [HN] at e
  split at e
  ·rename_i l2 e1
   injection e with e
   subst e
   obtain ⟨k1,k2⟩:=KK (B:=B) (r:=r) e1
   refine ⟨by rw [List.length_cons,List.length_cons,k1],fun {h vs} o=>?_⟩
   obtain ⟨v,t,h1,h2,rfl,e2,e3,e4,e5,e6⟩:=o
   exact ⟨v,t,h1,h2,rfl,e2,e3,e4,e5,k2 e6⟩
  ·cases e
theorem aCg (k j sz:Nat) (f:Nat→List D) {l l':List V} (hk:mlk k mu=some (.row l)) (hn:HN sz f l j=some l') (hmu:jF k (.row l') mu=some mu'):kO E fr gf mu fr gf mu' :=
 t5 k hk (fun B r h k s=>by
  obtain ⟨b,o,vs,h',e1,e2,e3,e4⟩:=s
  exact ⟨b,o,vs,h',e1,(KK hn).2 e2,e3,fun j hj=>e4 j (by rw [← (KK (B:=B) (r:=r) hn).1];exact hj)⟩) hmu
theorem a5 (k j sz:Nat) (f:Nat→List D) {l l':List V} (hk:mlk k mu=some (.row l):=by exact rfl) (hn:HN sz f l j=some l':=by exact rfl) (hmu:jF k (.row l') mu=some mu':=by exact rfl):kO E fr gf mu fr gf mu':=aCg k j sz f hk hn hmu
theorem X1 (t k:Nat) {sz n:Nat} {f:Nat→List D} (hx:mlk t fr=some (.a (.g k))) (hg:glk t gf=none) (hk:mlk k mu=some (.arr sz n f)) {B:BE} {a:Act} {w:World} {H:Nat→PH} (ff:FitsE E B H fr gf a) (m:Mem E B mu w H):∃ cp,n≤cp∧FitsE E B H ((t, .a (.gl k n cp)) :: fr) gf a:=by
 have e1:a.tmps.getD t undef=B k∧eQ (a.tmps.getD t undef)=true:=ff.vfr t _ hx hg
 obtain ⟨A,c,e2,e4⟩:=(show D.own (H k) (.sl sz n f) (B k) from m.mm.sat k _ hk)
 refine ⟨c,e4.1,⟨ff.size,ff.defers,fun t' x e3 e4=>?_,ff.vgf,ff.vgu,fun t' d w x e3=>?_⟩⟩
 ·rw [bV] at e3
  by_cases h:t=t'
  ·subst h
   rw [if_pos rfl] at e3
   injection e3 with e3
   subst e3
   exact ⟨e1.1,e1.2,A,e1.1.trans e2⟩
  ·rw [if_neg h] at e3;exact ff.vfr t' x e3 e4
 ·rw [bV]
  have h1:=ff.vno t' d w x e3
  have h2:t≠t':=fun h=>by subst h;rw [hx] at h1;cases h1
  rw [if_neg h2];exact h1
theorem zM (t k:Nat) {c:Code} {K:List KF} {R:Exit→Act→World→Prop} {sz n:Nat} {f:Nat→List D} (hx:mlk t fr=some (.a (.g k))) (hk:mlk k mu=some (.arr sz n f)) (h:∀ cp,n≤cp→T E R c ((t, .a (.gl k n cp)) :: fr) mu K):T E R c fr mu K:=fun B a w H ff m=>by
 obtain ⟨cp,h1,f'⟩:=X1 t k hx rfl hk ff m
 exact h cp h1 B a w H f' m
end
end
section
theorem Con.wkA {ι:Type} {P:Program} {f:Nat} {ks:List Nat} {args args':List SV} {mu:Mu} {φ:ι→Prop} {res:ι→List SV} {mu':ι→Mu} (C:Con P f ks args mu φ res mu') (h:SVs.imp P args' args):Con P f ks args' mu φ res mu' :=
 fun B r w H vals m he ha=>C B r w H vals m he (SVs.imp_ok h ha)
theorem Mm.wk {B:BE} {r:PH} {mu mu':Mu} {w:World} {H:Nat→PH} (m:Mm B r mu w H) (h:WkMu mu mu'):Mm B r mu' w H:=⟨fun k c e=>by
 obtain ⟨d,h1,h2⟩:=h.get k c e
 exact h2 _ _ _ _ (m.sat k d h1),m.fit,m.dj,m.djr,m.fitr⟩
theorem Con.wkM {ι:Type} {P:Program} {f:Nat} {ks:List Nat} {args:List SV} {mu:Mu} {φ:ι→Prop} {res:ι→List SV} {mu' mu'':ι→Mu} (C:Con P f ks args mu φ res mu') (h:∀ y,φ y→WkMu (mu' y) (mu'' y)):Con P f ks args mu φ res mu'' :=
 fun B r w H vals m he ha=>(C B r w H vals m he ha).mono fun e w' ⟨y,B',H',out,h1,h2,h3,h4,h5⟩=>⟨y,B',H',out,h1,h2,h3,h4.wk (h y h1),h5⟩
def OwnI (l m:List D):Prop := ∀ h vs,D.owns h l vs→D.owns h m vs
theorem OwnI.e:OwnI [] []:=fun _ _ e=>e
theorem OwnI.refl (l:List D):OwnI l l:=fun _ _ e=>e
theorem OwnI.c {x:D} {l m:List D} (k:OwnI l m):OwnI (x :: l) (x :: m):=fun h vs ⟨y,t,h1,h2,e1,e2,e3,e4,e5,e6⟩=>⟨y,t,h1,h2,e1,e2,e3,e4,e5,k _ _ e6⟩
theorem aAZ {h:PH} {sz:Nat} {f:Nat→List D}:D.own h (.sl sz 0 f) (.slice none 0 0):=⟨none,0,rfl,Nat.le_refl _,Nat.zero_le _, .inl rfl⟩
theorem OwnI.n {sz:Nat} {f:Nat→List D} {l m:List D} (k:OwnI l m):OwnI (.v (.slice none 0 0) :: l) (.sl sz 0 f :: m):=fun h vs ⟨y,t,h1,h2,e1,e2,e3,e4,e5,e6⟩=>⟨y,t,h1,h2,e1,e2,e3,e4,by
 have e5:y = .slice none 0 0:=e5
 subst e5;exact aAZ,k _ _ e6⟩
theorem OwnI.of {l m:List D} (e:l=m):OwnI l m:=by subst e;exact OwnI.refl l
theorem Ch.imp_own {sz n m:Nat} {f g:Nat→List D} (hn:n=m) (k:∀ i,i<n→OwnI (f i) (g i)):(Ch.arr sz n f).imp (.arr sz m g):=by
 subst hn
 intro B r h j s
 obtain ⟨A,c,e1,e2,e3,e4⟩:=(show D.own _ _ _ from s)
 refine ⟨A,c,e1,e2,e3,e4.imp id fun ⟨b,o,rw0,H,e5,e6,e7,e8⟩=>⟨b,o,rw0,H,e5,fun i hi=>?_,e7,e8⟩⟩
 obtain ⟨r1,r2,r3⟩:=e6 i hi
 exact ⟨k i hi _ _ r1,r2,r3⟩
abbrev fbP {α:Type} (S:α→Prop) (rd:α→List RD) (q:α→Value):SV := .fb fun args v => ∃ x,S x∧args=rd x∧v=q x
section
variable {E:Env} {B:BE} {mu mu':Mu} {w:World} {H:Nat→PH} {TT:List TI} {fr fr':Fr} {gf gf':GF} {a:Act} {all rest:List Oper} {Q:Exit→Act→World→Prop} {o:Oper} {J:Act→World→Prop} {G:AG} {R:Exit→Act→World→Prop} {K:List KF}
def V.rO:V→Bool
 | .v _=>true
 | .s .r _ _ _=>true
 | .rp .r _ _=>true
 | _=>false
def SV.rO:SV→Bool
 | .a x=>x.rO
 | .ag l=>jP V.rO l
 | .tu l=>go l
 | _=>false
where go:List SV→Bool
 | []=>true
 | x :: r=>SV.rO x && go r
theorem V.rO_rel {B B':BE} {s:PH} {H H':Nat→PH}:∀ {x:V} {y:Value},x.rO=true→x.rel B (Zf s H) y→x.rel B' (Zf s H') y
 | .v _,_,_,e=>e
 | .s .r _ _ _,_,_,e=>e
 | .rp .r _ _,_,_,e=>e
theorem V.rO_rels {B B':BE} {s:PH} {H H':Nat→PH}:∀ {l:List V} {y:List Value},jP V.rO l=true→V.rels B (Zf s H) l y→V.rels B' (Zf s H') l y
 | [],_,_,e=>e
 | x :: r,y,h,e=>by
  obtain ⟨h1,h2⟩:=sZ h
  obtain ⟨a,t,e1,e2,e3⟩:=e
  exact ⟨a,t,e1,V.rO_rel h1 e2,V.rO_rels h2 e3⟩
mutual
theorem SV.rO_rel {P:Program} {B B':BE} {s:PH} {H H':Nat→PH}:∀ (x:SV) {y:Value},x.rO=true→SV.rel P B (Zf s H) x y→SV.rel P B' (Zf s H') x y
 | .a x,_,h,e=>V.rO_rel h e
 | .ag l,_,h,e=>by obtain ⟨vs,e1,e2⟩:=e;exact ⟨vs,e1,V.rO_rels h e2⟩
 | .tu l,_,h,e=>by obtain ⟨vs,e1,e2⟩:=e;exact ⟨vs,e1,SV.rO_rels l h e2⟩
 | .fn _ _,_,h,_=>by cases h
 | .fb _,_,h,_=>by cases h
 | .un,_,h,_=>by cases h
theorem SV.rO_rels {P:Program} {B B':BE} {s:PH} {H H':Nat→PH}:∀ (l:List SV) {y:List Value},SV.rO.go l=true→SV.rels P B (Zf s H) l y→SV.rels P B' (Zf s H') l y
 | [],_,_,e=>e
 | x :: r,y,h,e=>by
  simp only [SV.rO.go,Bool.and_eq_true] at h
  obtain ⟨a,t,e1,e2,e3⟩:=e
  exact ⟨a,t,e1,SV.rO_rel x h.1 e2,SV.rO_rels r h.2 e3⟩
end
theorem Con.askR {P:Program} {f:Nat} {args:List SV} {res:SV} (C:Ans P f [] args [] res) (hres:res.rO=true) {B:BE} {s:PH} {w:World} {vals:List Value} (hf:Fit s w) (ha:SV.rels P B (Zf s fun _=>PH.emp) args vals) :
  Calls P f vals.toArray w fun e w' => ∃ v,e = .returned v∧(∀ B' H',SV.rel P B' (Zf s H') res v)∧Below w.heap.size w w':=by
 refine (C B s w (fun _=>PH.emp) vals ⟨(fun k c e=>by cases e),fun _=>FitO.emp w,fun _ _ _=>PH.emp_dj _,fun _=>PH.emp_dj _,hf⟩ (fun _ _=>rfl) ha).mono ?_
 rintro e w' ⟨y,B1,H1,out,_,h2,h3,_,h5,h6,_⟩
 obtain ⟨v,t,rfl,h7,h8⟩:=h3
 have h8:t=[]:=h8
 subst h8
 exact ⟨v,h2,fun B' H'=>SV.rO_rel res hres h7,Keep.none h6 fun b o ⟨k,h,_⟩=>by cases h⟩
theorem P6 {P:Program} {r:PH} {f:Nat} {args:List SV} {res:SV} (C:Ans P f [] args [] res) (hres:res.rO=true) (hf:Fit r w) {svs args':List SV} {q:Ob} (hw:lS [] [] [] svs=some (args',q)) (ha:SVs.imp P args' args) (hq:kU q) {vals:List Value} (hv:SV.rels P B (Zf r H) svs vals) :
  Calls P f vals.toArray w fun e w' => ∃ v,e = .returned v∧(∀ B' H',SV.rel P B' (Zf r H') res v)∧Below w.heap.size w w':=by
 have W:Wk B r [] H [] r:=⟨(fun k c e=>by cases e),PH.le_refl _,(fun k c e=>by cases e)⟩
 exact C.askR hres hf (SVs.imp_ok ha (EX (Z:=Zf r fun _=>PH.emp) W rfl hw hq hv))
theorem aAq {f:Nat} {args:List SV} {res:SV} (C:Ans E.P f [] args [] res) {svs args':List SV} {g:Option (Nat×Nat×Bool)} {t:Nat} {q:Ob} {gd:Gd} {es:List Prop} {gs:List GO}
  (hc:kN E.N all fr gf o=some (f,svs,g,t,gf')) (hgd:gd=match g with | none=>[] | some (_,d,b)=>kV 6 gf d b) (hen:iE E.P f) (hres:res.rO=true)
  (hw:lS [] [] [] svs=some (args',q)) (ha:SVs.imp E.P args' args) (hs:dQ fr gf gd q [] [] = some (es,gs)) (he:cS es) (ho:cQ gs)
  (k:SJ G J E (frQ fr g t res) (gfQ gf' g t res) mu):OJ G E all Q J o fr gf mu:=fun B a w H f m gg=>by
 match g,hc,hgd with
 | none,hc,hgd =>
  subst hgd
  obtain ⟨h1,h2,h3,h4,h5⟩:=xG hc
  obtain ⟨vals,r1,r2⟩:=pE (w:=w) f (fun _ _ hm=>by cases hm) h4 hen
  refine sJ (fM h1) r1 ((P6 C hres m.mr.fitr hw ha (gE f (fun _ _ hm=>by cases hm) hs he ho) r2).mono fun e w' ⟨v,c1,c2,c3⟩=>⟨v,c1,?_⟩)
  rw [h2]
  exact k B _ w' H (Fits.put f (by simpa [Nat.blt_eq] using h3) (c2 _ _) h5) (m.below c3) gg
 | some (j,d,b),hc,hgd =>
  subst hgd
  obtain ⟨h1,h2,h3,h4,h5,h6,h7⟩:=xJ hc
  simp only [Bool.and_eq_true,Bool.not_eq_true'] at h4
  have htd:t≠d:=Nat.ne_of_beq_eq_false h4.2
  have htN:t<E.N:=by simpa [Nat.blt_eq] using h4.1
  have hwt:=iS (ops:=all.toArray) (a:=a) h1 (kS h2)
  by_cases hyes:a.tmps.getD d undef = .bool b
  ·have hacts:=qV f 6 d b hyes
   obtain ⟨vals,r1,r2⟩:=pE (w:=w) f hacts h6 hen
   refine sJ (hwt.2 hyes) r1 ((P6 C hres m.mr.fitr hw ha (gE f hacts hs he ho) r2).mono fun e w' ⟨v,c1,c2,c3⟩=>⟨v,c1,?_⟩)
   rw [h3]
   exact k B _ w' H (Fits.putG f htN htd h5 h7 (.inl ⟨hyes,c2 _ _⟩)) (m.below c3) gg
  ·refine xX (by
    cases e:Region.wanted o (yielded all.toArray a.tmps) with
    | false=>rfl
    | true=>exact absurd (hwt.1 e) hyes) ?_
   rw [h3]
   exact k B _ w H (Fits.putG f htN htd h5 h7 (.inr ⟨hyes,rfl⟩)) m gg
theorem rB (hT:TOk E.P TT) {f:Nat} {args:List SV} {res:SV} (C:Ans E.P f [] args [] res) {svs args':List SV} {g:Option (Nat×Nat×Bool)} {t:Nat} {q:Ob} {es0:List Prop} {gs0:List GO} {js:JS} {es:List Prop} {gs:List GO}
  (hc:kN E.N all fr gf o=some (f,svs,g,t,gf')) (hw:lS [] [] [] svs=some (args',q)) (ha:SVs.imp E.P args' args) (hs:dQ fr gf (match g with | none=>[] | some (_,d,b)=>kV 6 gf d b) q [] [] = some (es0,gs0))
  (hau:goR TT E.N E.A.ks (k9 TT E.N E.A.ks 400) all rest (frQ fr g t res) (gfQ gf' g t res) mu K es0 gs0=some (js,es,gs)) (k:js.ok E R)
  (hres:res.rO=true:=by exact rfl) (hen:iE E.P f:=by exact aB) (he:cS es:=by exact eD) (ho:cQ gs:=by exact gD) :
  RJ E all (KQ E.P R K) (o :: rest) fr gf mu:=by
 obtain ⟨h1,h2⟩:=x9 hT (mD hT 400) hau ⟨he,ho⟩
 exact gY (aAq C hc rfl hen hres hw ha hs h1.1 h1.2 (iZ (h2 k)))
theorem aAs (hT:TOk E.P TT) {n:Nat} {tk is' tk':List Nat} {f:Nat} {ks:List Nat} {args:List SV} {mu1:Mu} {res:SV} (C:Ans E.P f ks args mu1 res) {svs args':List SV} {g:Option (Nat×Nat×Bool)} {t:Nat} {q:Ob} {es0 es:List Prop} {gs0 gs:List GO} (hi:nth all tk.length=some o)
  (hc:kN E.N all fr gf o=some (f,svs,g,t,gf')) (hw:lS (muR G.ks mu) [] ks svs=some (args',q)) (hae:SVs.imp E.P args' args) (hs:dQ fr gf (match g with | none=>[] | some (_,d,b)=>kV 6 gf d b) q [] [] = some (es0,gs0)) {gf3:GF}
  (ha:sC TT E.N all (muR G.ks mu) (uU (tk.length+1) n) (frQ fr g t res) (gfQ gf' g t res) (tk.length :: tk) es0 gs0=some (is',fr',gf3,tk',es,gs)) (k:DJ G E all (KQ E.P R K) is'.length tk' fr' gf3 mu)
  {x:Value} (hx:exV res=some x:=by exact rfl) (hR:PQ R:=by exact oN _ _) (hb:(tP all.toArray tk tk.length && pS all.toArray (uU (tk.length+1) n) is' (tk.length :: tk))=true:=by kernel_rfl)
  (hko:bU mu1=[]:=by exact rfl) (hres:res.inK ks=true:=by exact rfl) (hin:mN (muR G.ks mu) mu1:=by repeat (first | exact trivial | refine And.intro ⟨_,rfl,gS⟩ ?_ | refine And.intro ⟨_,rfl,fS⟩ ?_ | refine And.intro ⟨_,rfl,gR⟩ ?_ | refine And.intro ⟨_,rfl,aCt _⟩ ?_)) (hen:iE E.P f:=by exact aB) (he:cS es:=by exact eD) (ho:cQ gs:=by exact gD):DJ G E all (KQ E.P R K) (n+1) tk fr gf mu:=by
 simp only [Bool.and_eq_true] at hb
 obtain ⟨h3,h2⟩:=(qD (G:=G) (K:=K) hT hR _ _ _ _ _ _ ha).2 hb.2 ⟨he,ho⟩
 have h2:=h2 k
 rw [rL] at h2
 exact ZO hR _ C hx hi hb.1 hc rfl hen hko hres hw hae hs h3.1 h3.2 hin h2
theorem aBs (hT:TOk E.P TT) {t0 ty:Nat} {x y:Operand} {yt:TypeId} {j d:Nat} {b:Bool} {sx:V} {q:Tg} {sz n:Nat} {f:Nat→List D} {ob:Ob} {n0 c0:Nat} {id sz1 by1 e:Nat} {z:Value} {ef:Bool}
  (hop:o.op = .binOp .eql ty x y yt) (hg:o.guard=some (j,b)) (hsl:qL all j=some d) (hx:ev (kV 6 gf d b) fr gf x=some (.a sx)) (hy:ev (kV 6 gf d b) fr gf y=some (.a (.v (.slice none n0 c0)))) (h1:tlk ty TT=some ⟨id,sz1,by1, .slc e,z,ef⟩) (hs:slR mu sx=some (q,sz,n,f,ob)) (hn:mlk t0 fr=none) (hgd:dD t0 gf=some gf') (hpos:0<n)
  (k:RJ E all (KQ E.P R K) rest fr ((t0,d,b, .a (.v (.bool false))) :: gf') mu) (hob:kU ob:=by repeat (first | exact trivial | refine And.intro rfl ?_)) (hd:o.dst=some t0:=by exact rfl) (ht:(Nat.blt t0 E.N && !(Nat.beq t0 d))=true:=by exact rfl):RJ E all (KQ E.P R K) (o :: rest) fr gf mu:=by
 refine gY fun B a w H ff mm _=>?_
 obtain ⟨t1,t2⟩:=hT.get h1
 obtain ⟨dd,d1,d2⟩:=t2.desc
 simp only at t1 d1 d2
 subst t1
 obtain rfl:=iT d2
 simp only [Bool.and_eq_true,Bool.not_eq_true'] at ht
 have htd:t0≠d:=Nat.ne_of_beq_eq_false ht.2
 have htN:t0<E.N:=by simpa [Nat.blt_eq] using ht.1
 have hw:=iS (ops:=all.toArray) (a:=a) hg (kS hsl)
 by_cases hyes:a.tmps.getD d undef = .bool b
 ·have hacts:=qV ff 6 d b hyes
  have hr:=vT mm.mr.ms hs hob (show sx.rel B (Zf E.r H) (a.eval x) from ff.ev hacts hx)
  have ey:a.eval y=_:=ff.ev hacts hy
  obtain ⟨A,c,ex,e0⟩:=wN hr
  refine qZ (hw.2 hyes) (v := .bool false) (w':=w) ?_ ?_
  ·obtain ⟨dst,op',type,pos,after,guard⟩:=o
   simp only at hop
   subst hop
   simp only [execOp,ex,ey]
   refine eL ?_
   show (do eqGuard .eql _ x y _ _;binOp .eql _ _ _:Sem Value).run E.P w=_
   rw [Sem.run_bind,gB rfl,Result.andThen_ok]
   have hA:A.isNone=false:=e0 hpos
   simp only [binOp,Sem.run_bind,rH d1,Result.andThen_ok,Sem.run_pure,hA]
  ·rw [hd]
   exact k B _ w H (Fits.putG ff htN htd hn hgd (.inl ⟨hyes,(show SV.rel _ _ _ (.a (.v _)) _ from rfl)⟩)) mm
 ·refine xX (by
   cases e:Region.wanted o (yielded all.toArray a.tmps) with
   | false=>rfl
   | true=>exact absurd (hw.1 e) hyes) ?_
  rw [hd]
  exact k B _ w H (Fits.putG ff htN htd hn hgd (.inr ⟨hyes,rfl⟩)) mm
end
end
section
def V.noR:V→Bool
 | .s (.k _) _ _ _=>true
 | .s _ _ _ _=>false
 | .rp (.k _) _ _=>true
 | .rp _ _ _=>false
 | _=>true
def V.noRo:V→Bool
 | .s .r _ _ _=>false
 | .rp _ _ _=>false
 | _=>true
def SV.noR:SV→Bool
 | .a x=>x.noR
 | .ag l=>jP V.noR l
 | .fn _ l=>jP V.noR l
 | .tu l=>go l
 | .un=>true
 | .fb _=>false
where go:List SV→Bool
 | []=>true
 | x :: r=>bif SV.noR x then go r else false
def Ch.noR:Ch→Bool
 | .row l=>jP V.noRo l
 | .arr .. => true
 | .hole .. => true
 | .rd .. => true
 | .rw _=>true
 | _=>false
def FG:Mu→Bool
 | []=>true
 | (_,c) :: r=>bif c.noR then FG r else false
theorem L5:∀ {mu:Mu},FG mu=true→∀ k c,mlk k mu=some c→c.noR=true
 | [],_,_,_,h=>by cases h
 | (j,d) :: r,h,k,c,e=>by
  simp only [FG] at h
  cases hd:d.noR with
  | false=>rw [hd] at h;cases h
  | true =>
   rw [hd] at h
   rw [bV] at e
   by_cases hj:j=k
   ·rw [if_pos hj] at e;injection e with e;subst e;exact hd
   ·rw [if_neg hj] at e;exact L5 h k c e
section
variable {B:BE} {r s:PH} {H:Nat→PH}
theorem V.noR_rel:∀ {x:V} {y:Value},x.noR=true→x.rel B (Zf r H) y→x.rel B (Zf s H) y
 | .v _,_,_,e=>e
 | .s (.k _) _ _ _,_,_,e=>e
 | .g _,_,_,e=>e
 | .p _ _,_,_,e=>e
 | .pe _ _ _ _,_,_,e=>e
 | .sb _ _ _ _,_,_,e=>e
 | .gl _ _ _,_,_,e=>e
 | .rp (.k _) _ _,_,_,e=>e
 | .any,_,_,_=>trivial
theorem V.noR_rels:∀ {l:List V} {y:List Value},jP V.noR l=true→V.rels B (Zf r H) l y→V.rels B (Zf s H) l y
 | [],_,_,e=>e
 | x :: l,y,h,e=>by
  obtain ⟨h1,h2⟩:=sZ h
  obtain ⟨a,t,e1,e2,e3⟩:=e
  exact ⟨a,t,e1,V.noR_rel h1 e2,V.noR_rels h2 e3⟩
theorem V.noRo_own {h:PH}:∀ {x:V} {y:Value},x.noRo=true→x.own B r h y→x.own B s h y
 | .v _,_,_,e=>e
 | .s .o _ _ _,_,_,e=>by
  rcases e with e | ⟨e,_⟩
  ·exact .inl e
  ·cases e
 | .s (.k _) _ _ _,_,_,e=>by rcases e with ⟨e,_⟩ | ⟨e,_⟩ <;>cases e
 | .g _,_,_,e=>e
 | .p _ _,_,_,e=>e
 | .pe _ _ _ _,_,_,e=>e
 | .sb _ _ _ _,_,_,e=>e
 | .gl _ _ _,_,_,e=>e
 | .any,_,_,_=>trivial
theorem V.noRo_owns:∀ {l:List V} {y:List Value} {h:PH},jP V.noRo l=true→V.owns B r h l y→V.owns B s h l y
 | [],_,_,_,e=>e
 | x :: l,y,_,h,e=>by
  obtain ⟨h1,h2⟩:=sZ h
  obtain ⟨a,t,g1,g2,e1,e2,e3,e4,e5,e6⟩:=e
  exact ⟨a,t,g1,g2,e1,e2,e3,e4,V.noRo_own h1 e5,V.noRo_owns h2 e6⟩
mutual
theorem SV.noR_rel {P:Program}:∀ (x:SV) {y:Value},x.noR=true→SV.rel P B (Zf r H) x y→SV.rel P B (Zf s H) x y
 | .a x,_,h,e=>V.noR_rel h e
 | .ag l,_,h,e=>by obtain ⟨vs,e1,e2⟩:=e;exact ⟨vs,e1,V.noR_rels h e2⟩
 | .fn f l,_,h,e=>by obtain ⟨vs,e1,e2⟩:=e;exact ⟨vs,e1,V.noR_rels h e2⟩
 | .tu l,_,h,e=>by obtain ⟨vs,e1,e2⟩:=e;exact ⟨vs,e1,SV.noR_rels l h e2⟩
 | .un,_,_,e=>e
 | .fb _,_,h,_=>by cases h
theorem SV.noR_rels {P:Program}:∀ (l:List SV) {y:List Value},SV.noR.go l=true→SV.rels P B (Zf r H) l y→SV.rels P B (Zf s H) l y
 | [],_,_,e=>e
 | x :: l,y,h,e=>by
  simp only [SV.noR.go] at h
  cases hx:x.noR with
  | false=>rw [hx] at h;cases h
  | true =>
   rw [hx] at h
   obtain ⟨a,t,e1,e2,e3⟩:=e
   exact ⟨a,t,e1,SV.noR_rel x hx e2,SV.noR_rels l h e3⟩
end
theorem Ch.noR_sat {h:PH} {k:Nat}:∀ {c:Ch},c.noR=true→c.sat B r h k→c.sat B s h k
 | .row l,hc,⟨b,o,vs,h',e1,e2,e3,e4⟩=>⟨b,o,vs,h',e1,V.noRo_owns hc e2,e3,e4⟩
 | .arr ..,_,e=>e
 | .hole ..,_,e=>e
 | .rd ..,_,e=>e
 | .rw _,_,e=>e
 | .ro ..,h,_=>by cases h
 | .rrow _,h,_=>by cases h
theorem Ch.sat_monoR (l:r.le s) {h:PH} {k:Nat}:∀ {c:Ch},c.sat B r h k→c.sat B s h k
 | .row _,⟨b,o,vs,h',e1,e2,e3,e4⟩=>⟨b,o,vs,h',e1,V.owns_mono l (PH.le_refl _) e2,e3,e4⟩
 | .arr ..,e=>e
 | .hole ..,e=>e
 | .rd ..,e=>e
 | .rw _,e=>e
 | .ro sz n f,e=>D.rd_mono l (.sl sz n f) e
 | .rrow m,⟨b,o,vs,e1,e2,e3⟩=>⟨b,o,vs,e1,V.rels_mono (AQ l fun _=>PH.le_refl _) e2,fun j hj=>k7 l (V.rels_length e2) hj (e3 j hj)⟩
end
theorem iV {P:Program} {R R':Exit→Act→World→Prop} (h:∀ e a w,R' e a w→R e a w):∀ {K:List KF} {e:Exit} {a:Act} {w:World},KQ P R' K e a w→KQ P R K e a w
 | [],_,_,_,q=>h _ _ _ q
 | .seq c :: K,e,a,w,q=>by
  cases e with
  | normal=>exact wp_mono (show c.wp P (KQ P R' K) a w from q) fun _ _ _ q=>iV h q
  | exit id=>exact iV (K:=K) h (show KQ P R' K (.exit id) a w from q)
  | goto l=>exact iV (K:=K) h (show KQ P R' K (.goto l) a w from q)
  | ret=>exact iV (K:=K) h (show KQ P R' K .ret a w from q)
  | panic ch=>exact iV (K:=K) h (show KQ P R' K (.panic ch) a w from q)
  | outgrown=>exact iV (K:=K) h (show KQ P R' K .outgrown a w from q)
 | .blk id :: K,e,a,w,q=>by
  cases e with
  | exit j =>
   simp only [KQ,Exit.inBlock] at q ⊢
   split
   ·rename_i hj;rw [if_pos hj] at q;exact iV (K:=K) h q
   ·rename_i hj;rw [if_neg hj] at q;exact iV (K:=K) h q
  | normal=>exact iV (K:=K) h q
  | goto l=>exact iV (K:=K) h q
  | ret=>exact iV (K:=K) h q
  | panic ch=>exact iV (K:=K) h q
  | outgrown=>exact iV (K:=K) h q
 | .loop I :: K,e,a,w,q=>by
  cases e with
  | normal=>exact q
  | exit id=>exact iV (K:=K) h (show KQ P R' K (.exit id) a w from q)
  | goto l=>exact iV (K:=K) h (show KQ P R' K (.goto l) a w from q)
  | ret=>exact iV (K:=K) h (show KQ P R' K .ret a w from q)
  | panic ch=>exact iV (K:=K) h (show KQ P R' K (.panic ch) a w from q)
  | outgrown=>exact iV (K:=K) h (show KQ P R' K .outgrown a w from q)
theorem NE {P:Program} {fn:Func} {R R':Ending→World→Prop} (h:∀ e w,R' e w→R e w):∀ e a w,bodyPost P fn R' e a w→bodyPost P fn R e a w:=fun e a w q=>by
 cases e with
 | ret =>
  simp only [bodyPost] at q ⊢
  obtain ⟨h1,v,h2,h3⟩:=q
  exact ⟨h1,v,h2,h _ _ h3⟩
 | _=>first | exact q | exact h _ _ q | (simp only [bodyPost] at q ⊢;first | exact q | exact h _ _ q | (obtain ⟨h1,h2⟩:=q;exact ⟨h1,h _ _ h2⟩) | (obtain ⟨h1,v,h2,h3⟩:=q;exact ⟨h1,v,h2,h _ _ h3⟩))
theorem RetP.noR {ι:Type} {E:Env} {r:PH} (hr:E.r.le r) {φ:ι→Prop} {res:ι→List SV} {mu':ι→Mu} (h1:∀ y,SV.noR.go (res y)=true) (h2:∀ y,FG (mu' y)=true) {e:Ending} {w':World} (q:RetP { E with r:=r } φ res mu' e w'):RetP E φ res mu' e w':=by
 obtain ⟨y,B',H',out,q1,q2,q3,q4⟩:=q
 refine ⟨y,B',H',out,q1,q2,SV.noR_rels _ (h1 y) q3,⟨⟨fun k c hc=>Ch.noR_sat (L5 (h2 y) k c hc) (q4.mm.sat k c hc),q4.mm.fit,q4.mm.dj,fun k=>PH.dj_le (q4.mm.djr k) (PH.le_refl _) hr,q4.mm.fitr.le hr⟩,q4.keep,q4.dom,q4.anch⟩⟩
def zV (k:Nat) (m:List D):SV→SV
 | .a (.p j o)=>bif Nat.beq j k then .a (.rp .r m o) else .a (.p j o)
 | x=>x
def frZ (k:Nat) (m:List D):Fr→Fr
 | []=>[]
 | (t,x) :: r=>(t,zV k m x) :: frZ k m r
theorem S7 {k:Nat} {m:List D} (t:Nat):∀ fr:Fr,mlk t (frZ k m fr)=(mlk t fr).map (zV k m)
 | []=>rfl
 | (j,x) :: r=>by
  simp only [frZ]
  rw [bV,bV]
  by_cases h:j=t
  ·rw [if_pos h,if_pos h];rfl
  ·rw [if_neg h,if_neg h];exact S7 t r
theorem PC {B:BE} {r:PH} {H:Nat→PH}:∀ {l:List V} {m:List D},rdL l=some m→∀ {vs:List Value} {h:PH},V.owns B r h l vs→V.rels B (Zf r H) l vs
 | [],_,_,_,_,e=>e
 | x :: l,m,hm,vs,h,e=>by
  obtain ⟨a,t,g1,g2,e1,e2,e3,e4,e5,e6⟩:=e
  simp only [rdL] at hm
  split at hm
  ·rename_i y l' h1 h2
   refine ⟨a,t,e1,?_,PC h2 e6⟩
   cases x with
   | v x=>exact e5
   | s q sz n f =>
    cases q with
    | r => rcases e5 with ⟨c, _⟩ | ⟨_, e⟩
           ·cases c
           ·exact e
    | _=>simp [rdV] at h1
   | rp q l o =>
    cases q with
    | r=>exact e5.2
    | _=>simp [rdV] at h1
   | _=>simp [rdV] at h1
  ·cases hm
theorem Z1 (k:Nat) {ι:Type} {E:Env} {fn:Func} {φ:ι→Prop} {res:ι→List SV} {mu1:ι→Mu} {c:Code} {fr fr0:Fr} {mu mu':Mu} {K:List KF} {l:List V} {m:List D}
  (hk:mlk k mu=some (.row l)) (hm:rdL l=some m) (hmd:pT k mu=some mu') (hc:iJ (V.usesT k) fr=some fr0) (h1:∀ y,SV.noR.go (res y)=true) (h2:∀ y,FG (mu1 y)=true)
  (h:∀ r',T { E with r:=r' } (bodyPost E.P fn (RetP { E with r:=r' } φ res mu1)) c (frZ k m fr0) mu' K):T E (bodyPost E.P fn (RetP E φ res mu1)) c fr mu K:=fun B a w H f me=>by
 obtain ⟨b,off,vs,h',e1,e2,e3,e4⟩:=me.mm.sat k _ hk
 have hvl:=V.owns_length e2
 have hdj:E.r.dj (H k):=PH.dj_symm (me.mm.djr k)
 have hr:E.r.le (E.r.un (H k)):=PH.le_un_left _ _
 have hkr:(H k).le (E.r.un (H k)):=PH.le_un_right hdj
 refine wp_mono (h (E.r.un (H k)) B a w (HF.set H k PH.emp) ?_ ?_) fun e a w q=>iV (NE fun e w q=>RetP.noR hr h1 h2 q) q
 ·have f1:=FitsE.anew f (k:=k) PH.emp hc (by rfl:iY (V.usesT k) [] = some [])
  rw [BE.set_self] at f1
  have hz:∀ q,(Zf E.r (HF.set H k PH.emp) q).le (Zf (E.r.un (H k)) (HF.set H k PH.emp) q):=AQ hr fun _=>PH.le_refl _
  refine ⟨f1.size,f1.defers,fun t x ex _=>?_,fun _ _ _ _ h=>(by cases h),fun _ _ _ _ h=>(by cases h),fun _ _ _ _ h=>(by cases h)⟩
  rw [S7] at ex
  cases hx:mlk t fr0 with
  | none=>rw [hx] at ex;cases ex
  | some x0 =>
   rw [hx] at ex
   simp only [Option.map_some,Option.some.injEq] at ex
   subst ex
   have g:=SV.rel_mono hz x0 (f1.vfr t x0 hx rfl)
   unfold zV
   split
   ·rename_i j o
    cases hj:Nat.beq j k with
    | false=>exact g
    | true =>
     have hj:=Nat.eq_of_beq_eq_true hj
     subst hj
     obtain ⟨g1,_⟩:=(show _=mI (B j) o∧_ from g)
     simp only [cond_true]
     refine ⟨b,off,vs,?_,D.rds_mono hr m (N7 (Z:=Zf E.r H) hm (PC hm e2)),fun i hi=>?_⟩
     ·rw [g1,e1];simp [mI,jQ]
     ·have hil:i<l.length:=by omega
      exact k7 hkr rfl hi (e4 i hil).1
   ·exact g
 ·refine ⟨⟨fun j cc hcc=>?_,fun j=>?_,fun i j hij=>?_,fun j=>?_,?_⟩,me.keep,fun j b o hne=>?_,me.anch⟩
  ·have hs:=uD hmd j
   by_cases hj:j=k
   ·rw [if_pos hj] at hs;rw [hs] at hcc;cases hcc
   ·rw [if_neg hj] at hs;rw [hs] at hcc
    rw [HF.set_ne _ _ hj]
    exact Ch.sat_monoR hr (me.mm.sat j cc hcc)
  ·by_cases hj:j=k
   ·subst hj;rw [HF.set_eq];exact FitO.emp w
   ·rw [HF.set_ne _ _ hj];exact me.mm.fit j
  ·by_cases hi:i=k
   ·subst hi;rw [HF.set_eq];exact PH.emp_dj _
   ·rw [HF.set_ne _ _ hi]
    by_cases hj:j=k
    ·subst hj;rw [HF.set_eq];exact PH.dj_emp _
    ·rw [HF.set_ne _ _ hj];exact me.mm.dj i j hij
  ·by_cases hj:j=k
   ·subst hj;rw [HF.set_eq];exact PH.emp_dj _
   ·rw [HF.set_ne _ _ hj];exact PH.dj_un (me.mm.djr j) (me.mm.dj j k hj)
  ·exact me.mm.fitr.un (me.mm.fit k)
  ·by_cases hj:j=k
   ·subst hj;rw [HF.set_eq] at hne;exact absurd rfl hne
   ·rw [HF.set_ne _ _ hj] at hne;exact me.dom j b o hne
theorem aU (k:Nat) {ι:Type} {E:Env} {fn:Func} {φ:ι→Prop} {res:ι→List SV} {mu1:ι→Mu} {c:Code} {fr fr0:Fr} {mu mu':Mu} {K:List KF} {l:List V} {m:List D} (h:∀ r',T { E with r:=r' } (bodyPost E.P fn (RetP { E with r:=r' } φ res mu1)) c (frZ k m fr0) mu' K) (hk:mlk k mu=some (.row l):=by exact rfl) (hm:rdL l=some m:=by exact rfl) (hmd:pT k mu=some mu':=by exact rfl) (hc:iJ (V.usesT k) fr=some fr0:=by exact rfl) (h1:∀ y,SV.noR.go (res y)=true:=by exact fun _=>rfl) (h2:∀ y,FG (mu1 y)=true:=by exact fun _=>rfl):T E (bodyPost E.P fn (RetP E φ res mu1)) c fr mu K:=Z1 k hk hm hmd hc h1 h2 h
end
section
def IU:Code→Nat
 | .seq a _=>IU a+1
 | .block _ a=>IU a+1
 | _=>1
theorem aBw {E:Env} {TT:List TI} {fr:Fr} {mu:Mu} {K:List KF} {R:Exit→Act→World→Prop} (hT:TOk E.P TT) {c:Code} {js:JS} {es:List Prop} {gs:List GO} (h:k9 TT E.N E.A.ks (IU c) c fr mu K [] [] = some (js,es,gs)) (k:js.ok E R) (he:cS es:=by exact eD) (ho:cQ gs:=by exact gD):T E R c fr mu K :=
 (mD hT _ _ _ _ _ _ _ _ _ _ h ⟨he,ho⟩).2 k
theorem aT {E:Env} {TT:List TI} {fr:Fr} {mu:Mu} {K:List KF} {R:Exit→Act→World→Prop} {c:Code} {js:JS} {es:List Prop} {gs:List GO} (k:js.ok E R) (hT:TOk E.P TT:=by exact TT_ok) (h:k9 TT E.N E.A.ks (IU c) c fr mu K [] [] = some (js,es,gs):=by exact rfl) (he:cS es:=by exact eD) (ho:cQ gs:=by exact gD):T E R c fr mu K:=aBw hT h k he ho
end
end
section
section
structure GSet where
 region:Int
 slot:Int
 value:Int
 used:Bool
 version:Int
def aCm:GSet:=⟨0,0,0,false,0⟩
structure GNote where
 region:Int
 slot:Int
 version:Int
 value:Int
 used:Bool
def aCn:GNote:=⟨0,0,0,0,false⟩
structure GCell where
 head:Int
 value:Int
def aCo:GCell:=⟨0,0⟩
structure GOp where
 kind:Int
 id:Int
 a:Int
 b:Int
 c:Int
def aCr:GOp:=⟨0,0,0,0,0⟩
structure GTx where
 id:Int
 home:Int
 phase:Int
 done:Int
 reads:List GNote
 sets:List GSet
 stamp:Int
def aCk:GTx:=⟨0,0,0,0,[],[],0⟩
abbrev dI (x:Int):D := .v (.int .i64 x)
abbrev dB (x:Bool):D := .v (.bool x)
def bS (n:Int):List D:=[dI n]
def qT (n:Bool):List D:=[dB n]
def cP (n:GSet):List D:=[dI n.region,dI n.slot,dI n.value,dB n.used,dI n.version]
def cT (n:GNote):List D:=[dI n.region,dI n.slot,dI n.version,dI n.value,dB n.used]
def cX (n:GCell):List D:=[dI n.head,dI n.value]
def cOp (n:GOp):List D:=[dI n.kind,dI n.id,dI n.a,dI n.b,dI n.c]
def cTx (t:GTx):List D:=[dI t.id,dI t.home,dI t.phase,dI t.done,dL 5 cT aCn t.reads,dL 5 cP aCm t.sets,dI t.stamp]
def inB (x lo hi:Int):Bool:=bif decide (x ≥ lo) then decide (x≤hi) else false
theorem b6 {x lo hi:Int}:inB x lo hi=true ↔ lo≤x∧x≤hi:=by
 unfold inB
 by_cases h:x ≥ lo <;>simp [h]
theorem aAJ {x lo hi:Int}:inB x lo hi=false ↔ ¬ (lo≤x∧x≤hi):=by rw [← b6];simp
theorem eA (x lo hi:Int):Ans Tryz.prog 69 [] [vI x,vI lo,vI hi] [] (vB (inB x lo hi)):=by
 refine aE Tryz.func69 fun B0 r_ D_ w0=>?_
 refine aF ?_
 exact aG [(6,none)] (rfl)
theorem dC (x lo hi:Int):Ans Tryz.prog 75 [] [vI x,vI lo,vI hi] [] (vB (inB x lo hi)):=by
 refine aE Tryz.func75 fun B0 r_ D_ w0=>?_
 refine aF ?_
 exact aG [(6,none)] (rfl)
theorem pH (x:Int):Ans Tryz.prog 78 [] [vI x] [] (vB (inB x (1) 1000000)):=by
 refine aE Tryz.func78 fun B0 r_ D_ w0=>?_
 refine aF ?_
 refine aH (eA _ _ _) ?_
 exact aG [(2,none)] (rfl)
theorem sE (x:Int):Ans Tryz.prog 143 [] [vI x] [] (vB (inB x (0) 7)):=by
 refine aE Tryz.func143 fun B0 r_ D_ w0=>?_
 refine aF ?_
 refine aH (eA _ _ _) ?_
 exact aG [(2,none)] (rfl)
theorem pM (x:Int):Ans Tryz.prog 163 [] [vI x] [] (vB (inB x (0) 5)):=by
 refine aE Tryz.func163 fun B0 r_ D_ w0=>?_
 refine aF ?_
 refine aH (eA _ _ _) ?_
 exact aG [(2,none)] (rfl)
theorem r7 (x:Int):Ans Tryz.prog 231 [] [vI x] [] (vB (inB x (0) 5)):=by
 refine aE Tryz.func231 fun B0 r_ D_ w0=>?_
 refine aF ?_
 refine aH (eA _ _ _) ?_
 exact aG [(2,none)] (rfl)
theorem rC (x:Int):Ans Tryz.prog 228 [] [vI x] [] (vB (inB x (-1000000000) 1000000000)):=by
 refine aE Tryz.func228 fun B0 r_ D_ w0=>?_
 refine aF ?_
 refine aH (eA _ _ _) ?_
 exact aG [(2,none)] (rfl)
theorem G8 (x:Int):Ans Tryz.prog 232 [] [vI x] [] (vB (inB x (0) 1000000)):=by
 refine aE Tryz.func232 fun B0 r_ D_ w0=>?_
 refine aF ?_
 refine aH (eA _ _ _) ?_
 exact aG [(2,none)] (rfl)
theorem rW (x:Int):Ans Tryz.prog 181 [] [vI x] [] (vB (inB x (0) 4000003)):=by
 refine aE Tryz.func181 fun B0 r_ D_ w0=>?_
 refine aF ?_
 refine aH (eA _ _ _) ?_
 exact aG [(2,none)] (rfl)
theorem rQ (x:Int):Ans Tryz.prog 74 [] [vI x] [] (vB (inB x (1) 1000000)):=by
 refine aE Tryz.func74 fun B0 r_ D_ w0=>?_
 refine aF ?_
 refine aH (dC _ _ _) ?_
 exact aG [(2,none)] (rfl)
theorem yD (x:Int):Ans Tryz.prog 191 [] [vI x] [] (vB (inB x (0) 7)):=by
 refine aE Tryz.func191 fun B0 r_ D_ w0=>?_
 refine aF ?_
 refine aH (dC _ _ _) ?_
 exact aG [(2,none)] (rfl)
theorem pX (x:Int):Ans Tryz.prog 209 [] [vI x] [] (vB (inB x (0) 5)):=by
 refine aE Tryz.func209 fun B0 r_ D_ w0=>?_
 refine aF ?_
 refine aH (dC _ _ _) ?_
 exact aG [(2,none)] (rfl)
theorem CT (x:Int):Ans Tryz.prog 251 [] [vI x] [] (vB (inB x (0) 5)):=by
 refine aE Tryz.func251 fun B0 r_ D_ w0=>?_
 refine aF ?_
 refine aH (dC _ _ _) ?_
 exact aG [(2,none)] (rfl)
theorem u9 (x:Int):Ans Tryz.prog 252 [] [vI x] [] (vB (inB x (-1000000000) 1000000000)):=by
 refine aE Tryz.func252 fun B0 r_ D_ w0=>?_
 refine aF ?_
 refine aH (dC _ _ _) ?_
 exact aG [(2,none)] (rfl)
theorem NC (x:Int):Ans Tryz.prog 261 [] [vI x] [] (vB (inB x (0) 4000003)):=by
 refine aE Tryz.func261 fun B0 r_ D_ w0=>?_
 refine aF ?_
 refine aH (dC _ _ _) ?_
 exact aG [(2,none)] (rfl)
def iX (n:GNote):Bool:=bif (bif (bif inB n.region 0 5 then inB n.slot 0 5 else false) then inB n.version 0 1000000 else false) then inB n.value (-1000000000) 1000000000 else false
def eO (s:GSet):Bool:=bif (bif (bif inB s.region 0 5 then inB s.slot 0 5 else false) then inB s.value (-1000000000) 1000000000 else false) then inB s.version 0 999999 else false
theorem C0 (n:GNote):Ans Tryz.prog 166 [] [vR (cT n)] [] (vB (iX n)):=by
 refine aE Tryz.func166 fun B0 r_ D_ w0=>?_
 refine aF ?_
 refine aH (pM _) ?_
 refine aH (r7 _) ?_
 refine aH (G8 _) ?_
 refine aH (rC _) ?_
 exact aG [(2,none)] (rfl)
theorem ND (n:GNote):Ans Tryz.prog 192 [] [vR (cT n)] [] (vB (iX n)):=by
 refine aE Tryz.func192 fun B0 r_ D_ w0=>?_
 refine aF ?_
 refine aH (pX _) ?_
 refine aH (CT _) ?_
 refine aH (dC _ _ _) ?_
 refine aH (u9 _) ?_
 exact aG [(2,none)] (rfl)
theorem yC (n:GSet):Ans Tryz.prog 168 [] [vR (cP n)] [] (vB (eO n)):=by
 refine aE Tryz.func168 fun B0 r_ D_ w0=>?_
 refine aF ?_
 refine aH (pM _) ?_
 refine aH (r7 _) ?_
 refine aH (rC _) ?_
 refine aH (eA _ _ _) ?_
 exact aG [(2,none)] (rfl)
theorem C7 (n:GSet):Ans Tryz.prog 194 [] [vR (cP n)] [] (vB (eO n)):=by
 refine aE Tryz.func194 fun B0 r_ D_ w0=>?_
 refine aF ?_
 refine aH (pX _) ?_
 refine aH (CT _) ?_
 refine aH (u9 _) ?_
 refine aH (dC _ _ _) ?_
 exact aG [(2,none)] (rfl)
def xU (r s q t:Int):Bool:=bif decide (r<q) then true else bif r == q then decide (s<t) else false
theorem mA {r s q t:Int}:xU r s q t=true ↔ r<q∨r=q∧s<t:=by
 unfold xU
 by_cases h:r<q <;>by_cases h2:r=q <;>simp [h,h2]
theorem rZ (a b c d:Int):Ans Tryz.prog 167 [] [vI a,vI b,vI c,vI d] [] (vB (xU a b c d)):=by
 refine aE Tryz.func167 fun B0 r_ D_ w0=>?_
 refine aF ?_
 exact aG [(8,none)] (rfl)
def lN (a b:Int):Int:=if a<b then -1 else if a > b then 1 else 0
theorem EW (a:Int):Ans Tryz.prog 264 [] [vI a] [] (vB false):=by
 refine aE Tryz.func264 fun B0 r_ D_ w0=>?_
 refine aF ?_
 exact b9 TT_ok [(2,none)] rfl rfl (by simp)
theorem DM (a b:Int):Ans Tryz.prog 226 [] [vI a,vI b] [] (vI (lN a b)):=by
 refine aE Tryz.func226 fun B0 r_ D_ w0=>?_
 refine aF ?_
 refine aH (EW _) ?_
 refine aH (EW _) ?_
 refine bX rfl (fun e=>by cases e) (fun _=>?_)
 refine aF ?_
 refine bX rfl (fun e=>by cases e) (fun _=>?_)
 refine aF ?_
 refine aI (fun e=>?_) (fun e=>?_)
 ·refine aF ?_
  exact dK TT_ok [(4,none)] rfl rfl (by rw [lN,if_pos e])
 refine aF ?_
 refine aI (fun e2=>?_) (fun e2=>?_)
 ·refine aF ?_
  exact dK TT_ok [(4,none)] rfl rfl (by rw [lN,if_neg e,if_pos e2])
 refine aF ?_
 exact dK TT_ok [(4,none)] rfl rfl (by rw [lN,if_neg e,if_neg e2])
def orL:List Int→Int
 | []=>0
 | x :: r=>if x≠0 then x else orL r
theorem WT:∀ {xs:List Int} {i:Nat},i<xs.length→(∀ j,j<i→xs.getD j 0=0)→xs.getD i 0≠0→orL xs=xs.getD i 0
 | x :: r,0,_,_,h=>by simp at h;simp [orL,h]
 | x :: r,i+1,hi,h0,h=>by
  have hx:x=0:=by simpa using h0 0 (by omega)
  simp only [orL,hx]
  simp only [ne_eq,not_true_eq_false,if_false]
  rw [WT (by simpa using hi) (fun j hj=>by simpa using h0 (j+1) (by omega)) (by simpa using h)]
  simp
theorem XO:∀ {xs:List Int},(∀ j,j<xs.length→xs.getD j 0=0)→orL xs=0
 | [],_=>rfl
 | x :: r,h=>by
  have hx:x=0:=by simpa using h 0 (by simp)
  simp only [orL,hx,ne_eq,not_true_eq_false,if_false]
  exact XO fun j hj=>by simpa using h (j+1) (by simpa using hj)
theorem b5 {P:Nat→Prop} {i:Nat} (h:∀ j,j<i→P j) (k:P i):∀ j,j<i+1→P j:=fun j hj=>by
 by_cases e:j=i
 ·subst e;exact k
 ·exact h j (by omega)
theorem aBq (xs:List Int) (hl:xs.length≤maxL):Ans Tryz.prog 253 [] [vL 1 bS 0 xs] [] (vI (orL xs)):=by
 unfold maxL at hl
 refine aE Tryz.func253 fun B0 r_ D_ w0=>?_
 refine aF ?_
 refine aK (ι:=Nat) (fun i=>[(8,vI i)]) (fun _=>[]) (fun i=>i≤xs.length∧∀ j,j<i→xs.getD j 0=0) (fun i=>xs.length - i) 0 [] [] ⟨Nat.zero_le _,fun j hj=>absurd hj (Nat.not_lt_zero _)⟩ ?_
 intro i ⟨h1,h2⟩
 refine aF ?_
 refine aI (fun e=>?_) (fun e=>?_)
 ·refine aF ?_
  refine fO rfl (fun e2=>?_) (fun e2=>?_)
  ·refine aF ?_
   exact dK TT_ok [(2,none)] rfl rfl ((WT (by omega) h2 (by simpa using e2)).symm)
  ·refine aF ?_
   exact aL (i+1) ⟨by omega,b5 h2 (by simpa using e2)⟩ (by omega)
 ·refine aF ?_
  exact dK TT_ok [(2,none)] rfl rfl ((XO fun j hj=>h2 j (by omega)).symm)
def vS (r s q t:Int):Int:=orL [lN r q,lN s t]
theorem MW {r s q t:Int}:decide (vS r s q t<0)=xU r s q t:=by
 unfold vS xU orL orL lN
 by_cases h:r<q
 ·simp [h]
 ·by_cases h2:r=q
  ·subst h2;by_cases h3:s<t <;>by_cases h4:s > t <;>simp [h3,h4,orL]
  ·have:r > q:=by omega
   simp [h,h2,this,orL]
theorem E5 {r s q t:Int}:decide (vS r s q t ≥ 0) = !xU r s q t:=by
 rw [← MW]
 by_cases h:vS r s q t<0
 ·rw [decide_eq_true h,decide_eq_false (by omega)];rfl
 ·rw [decide_eq_false h,decide_eq_true (by omega)];rfl
theorem uV (a b c d:Int):Ans Tryz.prog 193 [] [vI a,vI b,vI c,vI d] [] (vI (vS a b c d)):=by
 refine aE Tryz.func193 fun B0 r_ D_ w0=>?_
 refine aF ?_
 refine aH (DM _ _) ?_
 refine aH (DM _ _) ?_
 refine cV TT_ok 900 (fun i=>bS ([lN a c,lN b d].getD i 0)) rfl rfl rfl rfl rfl rfl rfl (fun i hi=>by rcases i with _ | _ | i <;>first | rfl | omega) (mu1:=[]) rfl rfl rfl ?_
 refine aN ?_
 refine aH (aBq [lN a c,lN b d] (Nat.le_of_ble_eq_true rfl)) ?_
 exact aJ [(8,none)] (rfl)
end
section
open Classical in
noncomputable def dec (p:Prop):Bool:=if p then true else false
theorem cN {p:Prop} (h:p):dec p=true:=by simp [dec,h]
theorem b7 {p:Prop} (h:¬ p):dec p=false:=by simp [dec,h]
theorem c9 {p:Prop}:dec p=true ↔ p:=by simp [dec]
theorem jN {p:Prop}:dec p=false ↔ ¬ p:=by simp [dec]
def lessN (a b:GNote):Prop:=a.region<b.region∨a.region=b.region∧a.slot<b.slot
def lessS (a b:GSet):Prop:=a.region<b.region∨a.region=b.region∧a.slot<b.slot
def readsOk (xs:List GNote) (n:Nat):Prop := ∀ j,j<n→iX (xs.getD j aCn)=true∧(0<j→lessN (xs.getD (j - 1) aCn) (xs.getD j aCn))
def setsOk (xs:List GSet) (n:Nat):Prop := ∀ j,j<n→eO (xs.getD j aCm)=true∧(0<j→lessS (xs.getD (j - 1) aCm) (xs.getD j aCm))
def nK (t:GTx):Prop:=(1≤t.id∧t.id≤1000000)∧(0≤t.home∧t.home≤7)∧(1≤t.phase∧t.phase≤9)∧(0≤t.done∧t.done≤1000)∧(0≤t.stamp∧t.stamp≤1000000)∧t.reads.length≤12∧t.sets.length≤12
def eN (t:GTx):Prop:=nK t∧readsOk t.reads t.reads.length∧setsOk t.sets t.sets.length
theorem readsOk.succ {xs:List GNote} {i:Nat} (h:readsOk xs i) (h1:iX (xs.getD i aCn)=true) (h2:0<i→lessN (xs.getD (i - 1) aCn) (xs.getD i aCn)):readsOk xs (i+1):=fun j hj=>by
 rcases Nat.lt_succ_iff_lt_or_eq.1 hj with h3 | h3
 ·exact h j h3
 ·subst h3;exact ⟨h1,h2⟩
theorem setsOk.succ {xs:List GSet} {i:Nat} (h:setsOk xs i) (h1:eO (xs.getD i aCm)=true) (h2:0<i→lessS (xs.getD (i - 1) aCm) (xs.getD i aCm)):setsOk xs (i+1):=fun j hj=>by
 rcases Nat.lt_succ_iff_lt_or_eq.1 hj with h3 | h3
 ·exact h j h3
 ·subst h3;exact ⟨h1,h2⟩
theorem mZ {i:Nat} (h:0<i):((i:Int) - 1).toNat=i - 1:=by omega
theorem wE (t:GTx):Ans Tryz.prog 99 [] [vR (cTx t)] [] (vB (dec (eN t))):=by
 refine aE Tryz.func99 fun B0 r_ D_ w0=>?_
 refine aF ?_
 refine aH (pH _) ?_
 refine aH (sE _) ?_
 refine aH (eA _ _ _) ?_
 refine aH (eA _ _ _) ?_
 refine aH (eA _ _ _) ?_
 refine aA (fun e=>?_) (fun e=>?_)
 ·refine aF ?_
  refine (?_:¬ eN t→_) ?_
  ·intro hf
   exact aG [(2,none)] ((b7 hf).symm)
  intro h
  obtain ⟨⟨h1,h2,h3,h4,h5,h6,h7⟩,_⟩:=h
  simp only [b6.2 h1,b6.2 h2,b6.2 h3,b6.2 h4,b6.2 h5] at e
  simp at e
  omega
 have hH:nK t:=by
  simp only [Bool.cond_true_left,Bool.or_eq_false_iff,Bool.not_eq_false',b6,decide_eq_false_iff_not] at e
  unfold nK
  omega
 clear e
 have hr1:t.reads.length≤12:=hH.2.2.2.2.2.1
 have hr2:t.sets.length≤12:=hH.2.2.2.2.2.2
 refine aF ?_
 refine aK (ι:=Nat) (fun i=>[(3,vI i)]) (fun _=>[]) (fun i=>i≤t.reads.length∧readsOk t.reads i) (fun i=>t.reads.length - i) 0 [] [] ⟨Nat.zero_le _,fun j hj=>absurd hj (Nat.not_lt_zero _)⟩ ?_
 intro i ⟨h1,h2⟩
 refine aF ?_
 refine aI (fun e=>?_) (fun e=>?_)
 ·have hi:i<t.reads.length:=by omega
  refine aF ?_
  refine aO [] fun B0 H0=>?_
  refine jB TT_ok (C0 _) rfl rfl rfl rfl rfl rfl ?_
  refine jB TT_ok (rZ _ _ _ _) rfl rfl rfl rfl rfl rfl ?_
  refine aP ?_
  refine aA (fun e1=>?_) (fun e1=>?_) <;>simp only [Int.toNat_natCast] at e1
  ·refine aF ?_
   refine (?_:¬ eN t→_) ?_
   ·intro hf
    exact aG [(2,none)] ((b7 hf).symm)
   intro h
   obtain ⟨g1,g2⟩:=h.2.1 i hi
   simp only [g1] at e1
   by_cases hp:0<i
   ·rw [mZ hp,mA.2 (g2 hp)] at e1
    simp at e1
   ·simp [show i=0 from by omega] at e1
  ·have g1:iX (t.reads.getD i aCn)=true:=by
    cases hb:iX (t.reads.getD i aCn) with
    | true=>rfl
    | false=>rw [hb] at e1;simp at e1
   have g2:0<i→lessN (t.reads.getD (i - 1) aCn) (t.reads.getD i aCn):=fun hp=>by
    rw [mZ hp] at e1
    simp only [g1] at e1
    refine mA.1 ?_
    simpa [hp] using e1
   refine aF ?_
   exact aL (i+1) ⟨hi,readsOk.succ h2 g1 g2⟩ (by omega)
 have hi:i=t.reads.length:=by omega
 subst hi
 have h3:readsOk t.reads t.reads.length:=h2
 clear h2 h1 e
 refine aF ?_
 refine aK (ι:=Nat) (fun i=>[(5,vI i)]) (fun _=>[]) (fun i=>i≤t.sets.length∧setsOk t.sets i) (fun i=>t.sets.length - i) 0 [] [] ⟨Nat.zero_le _,fun j hj=>absurd hj (Nat.not_lt_zero _)⟩ ?_
 intro i ⟨h1,h4⟩
 refine aF ?_
 refine aI (fun e=>?_) (fun e=>?_)
 ·have hi:i<t.sets.length:=by omega
  refine aF ?_
  refine aO [] fun B0 H0=>?_
  refine jB TT_ok (yC _) rfl rfl rfl rfl rfl rfl ?_
  refine jB TT_ok (rZ _ _ _ _) rfl rfl rfl rfl rfl rfl ?_
  refine aP ?_
  refine aA (fun e1=>?_) (fun e1=>?_) <;>simp only [Int.toNat_natCast] at e1
  ·refine aF ?_
   refine (?_:¬ eN t→_) ?_
   ·intro hf
    exact aG [(2,none)] ((b7 hf).symm)
   intro h
   obtain ⟨g1,g2⟩:=h.2.2 i hi
   simp only [g1] at e1
   by_cases hp:0<i
   ·rw [mZ hp,mA.2 (g2 hp)] at e1
    simp at e1
   ·simp [show i=0 from by omega] at e1
  ·have g1:eO (t.sets.getD i aCm)=true:=by
    cases hb:eO (t.sets.getD i aCm) with
    | true=>rfl
    | false=>rw [hb] at e1;simp at e1
   have g2:0<i→lessS (t.sets.getD (i - 1) aCm) (t.sets.getD i aCm):=fun hp=>by
    rw [mZ hp] at e1
    simp only [g1] at e1
    refine mA.1 ?_
    simpa [hp] using e1
   refine aF ?_
   exact aL (i+1) ⟨hi,setsOk.succ h4 g1 g2⟩ (by omega)
 have hi:i=t.sets.length:=by omega
 subst hi
 have h5:setsOk t.sets t.sets.length:=h4
 clear h4 h1 e
 refine aF ?_
 exact aG [(2,none)] ((cN ⟨hH,h3,h5⟩).symm)
theorem F3 (t:GTx):Ans Tryz.prog 124 [] [vR (cTx t)] [] (vB (dec (eN t))):=by
 refine aE Tryz.func124 fun B0 r_ D_ w0=>?_
 refine aF ?_
 refine aH (rQ _) ?_
 refine aH (yD _) ?_
 refine aH (dC _ _ _) ?_
 refine aH (dC _ _ _) ?_
 refine aH (dC _ _ _) ?_
 refine aA (fun e=>?_) (fun e=>?_)
 ·refine aF ?_
  refine (?_:¬ eN t→_) ?_
  ·intro hf
   exact aG [(2,none)] ((b7 hf).symm)
  intro h
  obtain ⟨⟨h1,h2,h3,h4,h5,h6,h7⟩,_⟩:=h
  simp only [b6.2 h1,b6.2 h2,b6.2 h3,b6.2 h4,b6.2 h5] at e
  simp at e
  omega
 have hH:nK t:=by
  simp only [Bool.cond_true_left,Bool.or_eq_false_iff,Bool.not_eq_false',b6,decide_eq_false_iff_not] at e
  unfold nK
  omega
 clear e
 have hr1:t.reads.length≤12:=hH.2.2.2.2.2.1
 have hr2:t.sets.length≤12:=hH.2.2.2.2.2.2
 refine aF ?_
 refine aK (ι:=Nat) (fun i=>[(50,vI i)]) (fun _=>[]) (fun i=>i≤t.reads.length∧readsOk t.reads i) (fun i=>t.reads.length - i) 0 [] [] ⟨Nat.zero_le _,fun j hj=>absurd hj (Nat.not_lt_zero _)⟩ ?_
 intro i ⟨h1,h2⟩
 refine aF ?_
 refine aI (fun e=>?_) (fun e=>?_)
 ·have hi:i<t.reads.length:=by omega
  refine aF ?_
  refine aO [] fun B0 H0=>?_
  refine jB TT_ok (ND _) rfl rfl rfl rfl rfl rfl ?_
  refine jB TT_ok (uV _ _ _ _) rfl rfl rfl rfl rfl rfl ?_
  refine aP ?_
  refine aA (fun e1=>?_) (fun e1=>?_) <;>simp only [Int.toNat_natCast] at e1
  ·refine aF ?_
   refine (?_:¬ eN t→_) ?_
   ·intro hf
    exact aG [(2,none)] ((b7 hf).symm)
   intro h
   obtain ⟨g1,g2⟩:=h.2.1 i hi
   simp only [E5,g1] at e1
   by_cases hp:0<i
   ·rw [mZ hp,mA.2 (g2 hp)] at e1
    simp at e1
   ·simp [show i=0 from by omega] at e1
  ·have g1:iX (t.reads.getD i aCn)=true:=by
    cases hb:iX (t.reads.getD i aCn) with
    | true=>rfl
    | false=>rw [hb] at e1;simp at e1
   have g2:0<i→lessN (t.reads.getD (i - 1) aCn) (t.reads.getD i aCn):=fun hp=>by
    rw [mZ hp] at e1
    simp only [E5,g1] at e1
    refine mA.1 ?_
    simpa [hp] using e1
   refine aF ?_
   exact aL (i+1) ⟨hi,readsOk.succ h2 g1 g2⟩ (by omega)
 have hi:i=t.reads.length:=by omega
 subst hi
 have h3:readsOk t.reads t.reads.length:=h2
 clear h2 h1 e
 refine aF ?_
 refine aK (ι:=Nat) (fun i=>[(88,vI i)]) (fun _=>[]) (fun i=>i≤t.sets.length∧setsOk t.sets i) (fun i=>t.sets.length - i) 0 [] [] ⟨Nat.zero_le _,fun j hj=>absurd hj (Nat.not_lt_zero _)⟩ ?_
 intro i ⟨h1,h4⟩
 refine aF ?_
 refine aI (fun e=>?_) (fun e=>?_)
 ·have hi:i<t.sets.length:=by omega
  refine aF ?_
  refine aO [] fun B0 H0=>?_
  refine jB TT_ok (C7 _) rfl rfl rfl rfl rfl rfl ?_
  refine jB TT_ok (uV _ _ _ _) rfl rfl rfl rfl rfl rfl ?_
  refine aP ?_
  refine aA (fun e1=>?_) (fun e1=>?_) <;>simp only [Int.toNat_natCast] at e1
  ·refine aF ?_
   refine (?_:¬ eN t→_) ?_
   ·intro hf
    exact aG [(2,none)] ((b7 hf).symm)
   intro h
   obtain ⟨g1,g2⟩:=h.2.2 i hi
   simp only [E5,g1] at e1
   by_cases hp:0<i
   ·rw [mZ hp,mA.2 (g2 hp)] at e1
    simp at e1
   ·simp [show i=0 from by omega] at e1
  ·have g1:eO (t.sets.getD i aCm)=true:=by
    cases hb:eO (t.sets.getD i aCm) with
    | true=>rfl
    | false=>rw [hb] at e1;simp at e1
   have g2:0<i→lessS (t.sets.getD (i - 1) aCm) (t.sets.getD i aCm):=fun hp=>by
    rw [mZ hp] at e1
    simp only [E5,g1] at e1
    refine mA.1 ?_
    simpa [hp] using e1
   refine aF ?_
   exact aL (i+1) ⟨hi,setsOk.succ h4 g1 g2⟩ (by omega)
 have hi:i=t.sets.length:=by omega
 subst hi
 have h5:setsOk t.sets t.sets.length:=h4
 clear h4 h1 e
 refine aF ?_
 exact aG [(2,none)] ((cN ⟨hH,h3,h5⟩).symm)
end
end
section
theorem CB (x y:Int) (h1:0≤y) (h2:y<9223372036854775808):0≤rE x y∧rE x y≤y:=by
 unfold rE
 have h3:(BitVec.ofInt 64 x &&& BitVec.ofInt 64 y).toNat≤(BitVec.ofInt 64 y).toNat:=by rw [BitVec.toNat_and];exact Nat.and_le_right
 have e64:((2 ^ 64:Nat):Int)=18446744073709551616:=by decide
 have h4:((BitVec.ofInt 64 y).toNat:Int)=y:=by
  rw [BitVec.toNat_ofInt,e64,Int.emod_eq_of_lt h1 (by omega)];omega
 have h5:IntKind.i64.wrap (((BitVec.ofInt 64 x &&& BitVec.ofInt 64 y).toNat:Nat):Int)=(((BitVec.ofInt 64 x &&& BitVec.ofInt 64 y).toNat:Nat):Int):=IntWalk.i64_in _ (by omega)
 rw [h5]
 omega
abbrev xB (n:Nat) (β:Nat→Int) (i h:Int):Mu:=[(700, .row [.g 701, .v (.int .i64 i), .v (.int .i64 h)]),(701, .ro 1 n fun k=>[.v (.int .u8 (β k))])]
abbrev curO (i h:Int):Mu:=[(700, .row [.g 701, .v (.int .i64 i), .v (.int .i64 h)])]
def eS (β:Nat→Int):Prop := ∀ k,0≤β k∧β k≤255
abbrev zE {α:Type} (P:Program) (f:Nat) (args:List SV) (n:Nat) (β:Nat→Int) (i h:Int) (ψ:α→Prop) (res:α→SV):Prop :=
 Con P f [700,701] (.a (.p 700 0) :: args) (xB n β i h) (fun y:α×Int×Int=>ψ y.1∧0≤y.2.1∧y.2.1≤n) (fun y=>[res y.1]) fun y=>curO y.2.1 y.2.2
theorem y8 {n:Nat} {β:Nat→Int} (hn:n≤1048576) (hβ:eS β) (i h:Int) (h1:0≤i) (h2:i≤n):zE Tryz.prog 142 [] n β i h (fun x:Int=>0≤x∧x≤255) vI:=by
 have hb:=hβ i.toNat
 refine aE Tryz.func142 fun B0 r_ D_ w0=>?_
 refine aF ?_
 refine aO [] fun B0 H0=>?_
 refine aP ?_
 obtain ⟨X,hX,hx⟩:∃ X,rE (xorI ((w8 (w8 (h * 6364136223846793005)+1442695040888963407)).fdiv (2 ^ min 33 IntKind.i64.bits)) ((w8 (w8 (h * 6364136223846793005)+1442695040888963407)).fdiv (2 ^ min 45 IntKind.i64.bits))) 255=X∧0≤X∧X≤255:=⟨_,rfl,CB _ _ (by decide) (by decide)⟩
 rw [hX]
 refine aO [] fun B0 H0=>?_
 refine aP ?_
 refine aI (fun e=>?_) (fun e=>?_)
 ·refine aF ?_
  refine aO [] fun B0 H0=>?_
  refine aP ?_
  have hy:=CB (X+β i.toNat) 255 (by decide) (by decide)
  refine aC ((rE (X+β i.toNat) 255,i+1,w8 (w8 (h * 6364136223846793005)+1442695040888963407))) [(2,none)] ?_ ?_ ?_
  ·exact aCu _
  ·exact wM
  ·exact ⟨hy,by dsimp only;omega,by dsimp only;omega⟩
 ·refine aF ?_
  refine aC ((X,i,w8 (w8 (h * 6364136223846793005)+1442695040888963407))) [(2,none)] ?_ ?_ ?_
  ·exact aCu _
  ·exact wM
  ·exact ⟨hx,h1,h2⟩
theorem bR {n:Nat} {β:Nat→Int} (hn:n≤1048576) (hβ:eS β) (i h:Int) (h1:0≤i) (h2:i≤n) (m:Int):zE Tryz.prog 72 [vI m] n β i h (fun x:Int=>0≤x∧(x<m∨m≤0∧x=0)) vI:=by
 refine aE Tryz.func72 fun B0 r_ D_ w0=>?_
 refine aF ?_
 refine aI (fun e=>?_) (fun e=>?_)
 ·refine aF ?_
  refine aC ((0,i,h)) [(4,none)] ?_ ?_ ?_
  ·exact aCu _
  ·exact wM
  ·exact ⟨⟨Int.le_refl _, .inr ⟨e,rfl⟩⟩,h1,h2⟩
 refine aF ?_
 refine aI (fun e2=>?_) (fun e2=>?_)
 ·refine aF ?_
  refine aR (y8 hn hβ i h h1 h2) fun y hy=>?_
  refine aN ?_
  refine aC ((y.1.tmod m,y.2.1,y.2.2)) [(4,none)] ?_ ?_ ?_
  ·exact aCu _
  ·exact wM
  ·exact ⟨⟨Int.tmod_nonneg _ hy.1.1, .inl (Int.tmod_lt_of_pos _ (by omega))⟩,hy.2⟩
 refine aF ?_
 refine aR (y8 hn hβ i h h1 h2) fun a ha=>?_
 refine aN ?_
 refine aR (y8 hn hβ a.2.1 a.2.2 ha.2.1 ha.2.2) fun b hb=>?_
 refine aN ?_
 refine aR (y8 hn hβ b.2.1 b.2.2 hb.2.1 hb.2.2) fun c hc=>?_
 refine aN ?_
 refine aR (y8 hn hβ c.2.1 c.2.2 hc.2.1 hc.2.2) fun d hd=>?_
 have ha1:=ha.1
 have hb1:=hb.1
 have hc1:=hc.1
 have hd1:=hd.1
 refine aN ?_
 refine aC (((a.1 * 16777216+b.1 * 65536+c.1 * 256+d.1).tmod m,d.2.1,d.2.2)) [(4,none)] ?_ ?_ ?_
 ·exact aCu _
 ·exact wM
 ·exact ⟨⟨Int.tmod_nonneg _ (by omega), .inl (Int.tmod_lt_of_pos _ (by omega))⟩,hd.2⟩
theorem d9 {n:Nat} {β:Nat→Int} (hn:n≤1048576) (hβ:eS β) (i h:Int) (h1:0≤i) (h2:i≤n) (m:Int):zE Tryz.prog 73 [vI m] n β i h (fun _:Bool=>True) vB:=by
 refine aE Tryz.func73 fun B0 r_ D_ w0=>?_
 refine aF ?_
 refine aR (bR hn hβ i h h1 h2 m) fun y hy=>?_
 refine aN ?_
 refine aC ((y.1 == 0,y.2.1,y.2.2)) [(4,none)] ?_ ?_ ?_
 ·exact aCu _
 ·exact wM
 ·exact ⟨trivial,hy.2⟩
theorem o0 {n:Nat} {β:Nat→Int} (hn:n≤1048576) (hβ:eS β) (i h:Int) (h1:0≤i) (h2:i≤n) (lo hi:Int) (h3 : -1000000000000≤lo) (h4:lo≤hi) (h5:hi≤1000000000000):zE Tryz.prog 64 [vI lo,vI hi] n β i h (fun x:Int=>lo≤x∧x≤hi) vI:=by
 refine aE Tryz.func64 fun B0 r_ D_ w0=>?_
 refine aF ?_
 refine aR (bR hn hβ i h h1 h2 (hi - lo+1)) fun y hy=>?_
 have hy1:=hy.1
 refine aN ?_
 refine aC ((lo+y.1,y.2.1,y.2.2)) [(6,none)] ?_ ?_ ?_
 ·exact aCu _
 ·exact wM
 ·exact ⟨by dsimp only;omega,hy.2⟩
theorem mG {n:Nat} {β:Nat→Int} (hn:n≤1048576) (hβ:eS β):Con Tryz.prog 62 [701] [.a (.g 701)] [(701, .ro 1 n fun k=>[.v (.int .u8 (β k))])] (fun _:Int=>True) (fun _=>[.a (.p 700 0)]) fun h=>curO 0 h:=by
 refine aE Tryz.func62 fun B0 r_ D_ w0=>?_
 refine aF ?_
 refine cY (ι:=Nat×Int) (fun y=>[(4,vI y.1),(3,vI y.2)]) (fun _=>[]) (fun y=>y.1≤n∧0≤y.2∧y.2≤1073741823) (fun y=>n - y.1) (0,101027+n) [] [] rfl rfl ⟨Nat.zero_le _,by dsimp only;omega,by dsimp only;omega⟩ wF wM ?_
 rintro ⟨i,x⟩ ⟨h1,h2,h3⟩
 dsimp only at h1 h2 h3 ⊢
 have hb:=hβ i
 refine aF ?_
 refine aI (fun e=>?_) (fun e=>?_)
 ·have hb2:0≤β ((i:Int)).toNat∧β ((i:Int)).toNat≤255:=hβ _
  refine aF ?_
  exact aL (i+1,_) ⟨by dsimp only;omega,CB _ _ (by decide) (by decide)⟩ (by dsimp only;omega)
 ·refine aF ?_
  refine bB (bL 27 700) ?_
  refine aC (x) [(2,none)] ?_ ?_ ?_
  ·exact aCu _
  ·exact wM
  ·trivial
end
section
def YA (N:Nat) (xo:Option SV) (d:Option Nat) (fr:Fr) (gf:GF):Option (Fr×GF):=match xo,d with
 | some x,some t=>match dD t gf with
  | some gf'=>bif Nat.blt t N then some ((t,x) :: fr,gf') else none
  | none=>none
 | none,none=>some (fr,gf)
 | _,_=>none
section
variable {E:Env} {B:BE} {mu mu':Mu} {w:World} {H:Nat→PH} {TT:List TI} {fr fr':Fr} {gf gf':GF} {a:Act} {all rest:List Oper} {Q:Exit→Act→World→Prop} {o:Oper} {J:Act→World→Prop} {G:AG}
theorem OJ_M (hT:TOk E.P TT) {xo:Option SV} {nw:Bool} {k:Nat} {c:Ch} {q:Ob} {es:List Prop} {gs:List GO} {fr0:Fr} {gf0:GF} (h:mst TT E.A.ks fr gf mu o.dst o.op=some (xo,nw,k,c,q)) (hs:dQ fr gf [] q [] [] = some (es,gs)) (hmu:jF k c mu=some mu') (hcut:DC nw k fr gf=some (fr0,gf0))
  (hput:YA E.N xo o.dst fr0 gf0=some (fr',gf')) (hG:bF k G.ks=false) (kk:SJ G J E fr' gf' mu') (hg:o.guard=none:=by exact rfl) (he:cS es:=by exact eD) (ho:cQ gs:=by exact gD):OJ G E all Q J o fr gf mu:=fun B a w H f m gg=>by
 obtain ⟨nx,w',B',H',r1,r2,r3,r4,r5,r6⟩:=QR hT f m h (gE f (fun _ _ hm=>by cases hm) hs he ho) hmu hcut
 have gg':G.ok B' H':=fun j hj=>by
  have hjk:j≠k:=fun e=>by subst e;rw [hG] at hj;cases hj
  obtain ⟨e1,e2⟩:=r6 j hjk
  obtain ⟨e3,e4⟩:=gg j hj
  exact ⟨e1.trans e3,e2.trans e4⟩
 unfold YA at hput
 split at hput
 ·rename_i x t hd
  split at hput
  ·rename_i gf2 hgd
   cases hbt:Nat.blt t E.N with
   | false=>rw [hbt] at hput;cases hput
   | true =>
    rw [hbt] at hput
    simp only [cond_true,Option.some.injEq,Prod.mk.injEq] at hput
    obtain ⟨rfl,rfl⟩:=hput
    obtain ⟨v,e1,e2⟩:=r2 _ rfl
    subst e1
    refine qZ (fM hg) r1 ?_
    rw [hd]
    exact kk B' _ w' H' (Fits.put r5 (by simpa [Nat.blt_eq] using hbt) e2 hgd) r4 gg'
  ·cases hput
 ·rename_i hd
  simp only [Option.some.injEq,Prod.mk.injEq] at hput
  obtain ⟨rfl,rfl⟩:=hput
  have:=r3 rfl
  subst this
  refine Y2 (fM hg) r1 ?_
  rw [hd]
  exact kk B' _ w' H' r5 r4 gg'
 ·cases hput
theorem aV {xo:Option SV} {nw:Bool} {k:Nat} {c:Ch} {q:Ob} {es:List Prop} {gs:List GO} {fr0:Fr} {gf0:GF} (kk:SJ G J E fr' gf' mu') (hT:TOk E.P TT:=by exact TT_ok) (h:mst TT E.A.ks fr gf mu o.dst o.op=some (xo,nw,k,c,q):=by exact rfl) (hs:dQ fr gf [] q [] [] = some (es,gs):=by exact rfl) (hmu:jF k c mu=some mu':=by exact rfl) (hcut:DC nw k fr gf=some (fr0,gf0):=by exact rfl) (hput:YA E.N xo o.dst fr0 gf0=some (fr',gf'):=by exact rfl) (hG:bF k G.ks=false:=by exact rfl) (hg:o.guard=none:=by exact rfl) (he:cS es:=by exact eD) (ho:cQ gs:=by exact gD):OJ G E all Q J o fr gf mu:=OJ_M hT h hs hmu hcut hput hG kk hg he ho
end
section
variable {E:Env} {mu:Mu} {TT:List TI} {fr:Fr} {gf gf':GF} {all rest:List Oper} {Q:Exit→Act→World→Prop} {o:Oper}
theorem lK {t j d:Nat} {b x:Bool} (v:SV) (hg:o.guard=some (j,b)) (hsl:qL all j=some d) (hx:mlk d fr=some (.a (.v (.bool x)))) (hgx:glk d gf=none) (hne:x = !b) (hn:mlk t fr=none) (hgd:dD t gf=some gf')
  (k:RJ E all Q rest fr ((t,d,b,v) :: gf') mu) (hd:o.dst=some t:=by exact rfl) (ht:(Nat.blt t E.N && !(Nat.beq t d))=true:=by exact rfl):RJ E all Q (o :: rest) fr gf mu:=by
 refine gY fun B a w H ff mm _=>?_
 simp only [Bool.and_eq_true,Bool.not_eq_true'] at ht
 have htd:t≠d:=Nat.ne_of_beq_eq_false ht.2
 have htN:t<E.N:=by simpa [Nat.blt_eq] using ht.1
 have hv:a.tmps.getD d undef = .bool x:=ff.vfr d _ hx hgx
 have hyes:a.tmps.getD d undef ≠ .bool b:=by rw [hv,hne];cases b <;>simp
 have hw:=iS (ops:=all.toArray) (a:=a) hg (kS hsl)
 refine xX (by
  cases e:Region.wanted o (yielded all.toArray a.tmps) with
  | false=>rfl
  | true=>exact absurd (hw.1 e) hyes) ?_
 rw [hd]
 exact k B _ w H (Fits.putG ff htN htd hn hgd (.inr ⟨hyes,rfl⟩)) mm
end
section
variable {E:Env} {mu mu0:Mu} {TT:List TI} {fr fr0:Fr} {gf:GF} {all:List Oper} {R:Exit→Act→World→Prop} {K:List KF} {G:AG}
theorem T6 (fr0:Fr) (mu0:Mu) {c:Code} (h:X E R (nxN K) fr0 mu0) (k:X E R (nxN K) fr0 mu0→T E R c fr mu K):T E R c fr mu K:=k h
theorem X_go (hT:TOk E.P TT) {x:Nx} {js:JS} {es:List Prop} {gs:List GO} (ha:x8 (k9 TT E.N E.A.ks 400) x fr mu [] [] = some (js,es,gs)) (k:js.ok E R) (he:cS es:=by exact eD) (ho:cQ gs:=by exact gD):X E R x fr mu :=
 (uY (mD hT 400) ha ⟨he,ho⟩).2 k
theorem aZ {x:Nx} {js:JS} {es:List Prop} {gs:List GO} (k:js.ok E R) (hT:TOk E.P TT:=by exact TT_ok) (ha:x8 (k9 TT E.N E.A.ks 400) x fr mu [] [] = some (js,es,gs):=by exact rfl) (he:cS es:=by exact eD) (ho:cQ gs:=by exact gD):X E R x fr mu:=X_go hT ha k he ho
theorem oF {n:Nat} {tk:List Nat} (key:X E R (nxN K) fr0 mu0) (hf:WkFr E.P fr fr0) (hm:WkMu mu mu0) (hr:(Region.ready .any all.toArray (mk all.toArray.size tk)).isEmpty=true:=by kernel_rfl):DJ G E all (KQ E.P R K) n tk fr gf mu :=
 tX hr fun B a w H f m=>key B a w H (f.wk hf) (m.wk hm)
end
section
variable {E:Env} {B:BE} {mu mu':Mu} {w:World} {H:Nat→PH} {TT:List TI} {fr fr':Fr} {gf gf':GF} {a:Act} {all rest:List Oper} {Q:Exit→Act→World→Prop} {o:Oper} {J:Act→World→Prop} {G:AG} {R:Exit→Act→World→Prop} {K:List KF}
theorem aBo (hT:TOk E.P TT) (ex:List Nat) (is:List Nat) {id:Nat} {l:List Oper} {ks is' tk':List Nat} {es:List Prop} {gs:List GO} (hks:BB ex mu=ks) (ha:sC TT E.N l (muR ks mu) is fr [] [] [] [] = some (is',fr',gf',tk',es,gs))
  (k:∀ B0 H0,DJ ⟨ks,B0,H0⟩ E l (KQ E.P R K) is'.length tk' fr' gf' mu) (hlen:is.length=l.length:=by exact rfl) (hR:PQ R:=by exact oN _ _) (hm:E.P.follows .mixedOrders=true:=by kernel_rfl) (hb:pS l.toArray is is' [] = true:=by kernel_rfl)
  (he:cS es:=by exact eD) (ho:cQ gs:=by exact gD):T E R (.region id l.toArray true) fr mu K :=
 V9 ex l.length hm (by simp) hks fun B0 H0=>by
  have:=(qD (G:=⟨ks,B0,H0⟩) (K:=K) hT hR _ _ _ _ _ _ ha).2 hb ⟨he,ho⟩
  rw [← hlen]
  exact this.2 (k B0 H0)
theorem aW (ex:List Nat) (is:List Nat) {id:Nat} {l:List Oper} {ks is' tk':List Nat} {es:List Prop} {gs:List GO} (k:∀ B0 H0,DJ ⟨ks,B0,H0⟩ E l (KQ E.P R K) is'.length tk' fr' gf' mu) (hT:TOk E.P TT:=by exact TT_ok) (hks:BB ex mu=ks:=by exact rfl) (ha:sC TT E.N l (muR ks mu) is fr [] [] [] [] = some (is',fr',gf',tk',es,gs):=by exact rfl) (hlen:is.length=l.length:=by exact rfl) (hR:PQ R:=by exact oN _ _) (hm:E.P.follows .mixedOrders=true:=by kernel_rfl) (hb:pS l.toArray is is' [] = true:=by kernel_rfl) (he:cS es:=by exact eD) (ho:cQ gs:=by exact gD):T E R (.region id l.toArray true) fr mu K:=aBo hT ex is hks ha k hlen hR hm hb he ho
theorem aB8 (hT:TOk E.P TT) (is:List Nat) {tk is' tk':List Nat} {es:List Prop} {gs:List GO} (ha:sC TT E.N all (muR G.ks mu) is fr gf tk [] [] = some (is',fr',gf',tk',es,gs)) (k:DJ G E all (KQ E.P R K) is'.length tk' fr' gf' mu) (hR:PQ R:=by exact oN _ _) (hb:pS all.toArray is is' tk=true:=by kernel_rfl)
  (he:cS es:=by exact eD) (ho:cQ gs:=by exact gD):DJ G E all (KQ E.P R K) is.length tk fr gf mu :=
 ((qD (G:=G) (K:=K) hT hR _ _ _ _ _ _ ha).2 hb ⟨he,ho⟩).2 k
theorem aY (is:List Nat) {tk is' tk':List Nat} {es:List Prop} {gs:List GO} (k:DJ G E all (KQ E.P R K) is'.length tk' fr' gf' mu) (hT:TOk E.P TT:=by exact TT_ok) (ha:sC TT E.N all (muR G.ks mu) is fr gf tk [] [] = some (is',fr',gf',tk',es,gs):=by exact rfl) (hR:PQ R:=by exact oN _ _) (hb:pS all.toArray is is' tk=true:=by kernel_rfl) (he:cS es:=by exact eD) (ho:cQ gs:=by exact gD):DJ G E all (KQ E.P R K) is.length tk fr gf mu:=aB8 hT is ha k hR hb he ho
theorem fU (i:Nat) {n:Nat} {tk:List Nat} {f:Nat} {ks:List Nat} {args:List SV} {mu1:Mu} {res:SV} (C:Ans E.P f ks args mu1 res) {svs args':List SV} {g:Option (Nat×Nat×Bool)} {t:Nat} {q:Ob} {es:List Prop} {gs:List GO} (hi:nth all i=some o)
  (hc:kN E.N all fr gf o=some (f,svs,g,t,gf')) (hw:lS (muR G.ks mu) [] ks svs=some (args',q)) (hae:SVs.imp E.P args' args) (hs:dQ fr gf (match g with | none=>[] | some (_,d,b)=>kV 6 gf d b) q [] [] = some (es,gs))
  (k:DJ G E all (KQ E.P R K) n (i :: tk) (frQ fr g t res) (gfQ gf' g t res) mu)
  {x:Value} (hx:exV res=some x:=by exact rfl) (hR:PQ R:=by exact oN _ _) (hb:tP all.toArray tk i=true:=by kernel_rfl)
  (hko:bU mu1=[]:=by exact rfl) (hres:res.inK ks=true:=by exact rfl) (hin:mN (muR G.ks mu) mu1:=by repeat (first | exact trivial | refine And.intro ⟨_,rfl,gS⟩ ?_ | refine And.intro ⟨_,rfl,fS⟩ ?_ | refine And.intro ⟨_,rfl,gR⟩ ?_ | refine And.intro ⟨_,rfl,aCt _⟩ ?_)) (hen:iE E.P f:=by exact aB) (he:cS es:=by exact eD) (ho:cQ gs:=by exact gD):DJ G E all (KQ E.P R K) (n+1) tk fr gf mu :=
 ZO hR i C hx hi hb hc rfl hen hko hres hw hae hs he ho hin k
end
section
variable {E:Env} {mu:Mu} {fr:Fr} {gf:GF} {all:List Oper} {G:AG}
theorem dR (i:Nat) {n:Nat} {tk:List Nat} {o:Oper} {Q:Exit→Act→World→Prop} (hi:nth all i=some o) (hB:EB all.toArray tk i=true) (hC:BX all.toArray i=true) (h:OJ AG.nil E all Q (fun a' w' => ∃ G':AG,Sr G' E.r w'∧Lw E.P all.toArray Q (Sr G' E.r) n (mk all.toArray.size (i :: tk)) a' w') o fr gf mu):DJ G E all Q (n+1) tk fr gf mu:=fun B a w H f m gg w2 hb=>by
 have hr:=DZ hB
 have hi':all.toArray[i]? = some o:=by rw [pB] at hi;simpa using hi
 refine ⟨fun h0=>(by rw [hr] at h0;cases h0),fun j hj=>?_⟩
 rw [hr] at hj
 obtain rfl:=List.mem_singleton.1 hj
 have h1:=One.mono (fun a' w' (h:∃ G':AG,Sr G' E.r w'∧Lw E.P all.toArray Q (Sr G' E.r) n (mk all.toArray.size (j :: tk)) a' w')=>(let ⟨_,h1,h2⟩:=h; ⟨_, .inr hC,h1,h2⟩:∃ S',(S'=Sr G E.r∨BX all.toArray j=true)∧S' w'∧Lw E.P all.toArray Q S' n (mk all.toArray.size (j :: tk)) a' w')) (h B a w2 H f (m.below hb) (AG.nil_ok B H))
 unfold One at h1
 unfold wpOp
 rw [hi',yL]
 exact h1
theorem eJ (ks':List Nat) {n:Nat} {tk:List Nat} {Q:Exit→Act→World→Prop} (h:∀ B0 H0,DJ ⟨ks',B0,H0⟩ E all Q n tk fr gf mu):SJ AG.nil (fun a' w' => ∃ G':AG,Sr G' E.r w'∧Lw E.P all.toArray Q (Sr G' E.r) n (mk all.toArray.size tk) a' w') E fr gf mu:=fun B a w H f m _ =>
 ⟨⟨ks',B,H⟩,m.sr fun _ _=>⟨rfl,rfl⟩,h B H B a w H f m fun _ _=>⟨rfl,rfl⟩⟩
end
end
section
section
variable {E:Env} {mu:Mu} {fr:Fr} {R:Exit→Act→World→Prop} {K:List KF}
theorem aBr {ι:Type} {c:Code} (u:ι→Fr) (um:ι→Mu) (φ:ι→Prop) (kc kd:List Nat) {fk:Fr} {mk:Mu} (hkf:v9 (yV c []) kc kd fr [] = some fk) (hkm:d7 kc mu=some mk)
  (body:T E R c fr mu (.loop (Inv E (fun y=>u0 (u y) fk) (fun y=>lI (um y) mk) φ (fun _=>0) 1) :: K)) (h:∀ y,φ y→X E R (nxN K) (u0 (u y) fk) (lI (um y) mk)):T E R c fr mu K:=fun B a w H f me=>by
 refine wp_mono (body B a w H f me) ?_
 intro e a' w' q
 cases e with
 | normal =>
  obtain ⟨z,z1,z2,B',H',z3,z4⟩:=q
  exact wH (h z z1 B' a' w' H' z3 z4)
 | exit id=>exact q
 | goto l=>exact q
 | ret=>exact q
 | panic ch=>exact q
 | outgrown=>exact q
theorem a7 {ι:Type} {c:Code} (u:ι→Fr) (um:ι→Mu) (φ:ι→Prop) (kc kd:List Nat) {fk:Fr} {mk:Mu} (body:T E R c fr mu (.loop (Inv E (fun y=>u0 (u y) fk) (fun y=>lI (um y) mk) φ (fun _=>0) 1) :: K)) (h:∀ y,φ y→X E R (nxN K) (u0 (u y) fk) (lI (um y) mk)) (hkf:v9 (yV c []) kc kd fr [] = some fk:=by exact rfl) (hkm:d7 kc mu=some mk:=by exact rfl):T E R c fr mu K:=aBr u um φ kc kd hkf hkm body h
end
section
variable {E:Env} {mu mu':Mu} {fr fr':Fr} {gf gf':GF} {all:List Oper} {G:AG} {Q:Exit→Act→World→Prop}
def aAm (E:Env) (fr:Fr) (gf:GF) (mu:Mu) (fr':Fr) (gf':GF):Prop := ∀ B w H a,FitsE E B H fr gf a→Mem E B mu w H→FitsE E B H fr' gf' a
theorem AB {n:Nat} {tk:List Nat} (v:aAm E fr gf mu fr' gf') (h:DJ G E all Q n tk fr' gf' mu):DJ G E all Q n tk fr gf mu:=fun B a w H f m gg=>h B a w H (v B w H a f m) m gg
theorem z8 (t:Nat) {k k2 sz n:Nat} {f:Nat→List D} {i:Int} {o:Nat} (ht:mlk t fr=some (.a (.pe k sz i o))) (hg:glk t gf=none) (hk:mlk k mu=some (.hole sz n f i k2)):aAm E fr gf mu ((t, .a (.p k2 o)) :: fr) gf:=fun B w H a ff m=>by
 refine ⟨ff.size,ff.defers,fun t' x e1 e2=>?_,ff.vgf,ff.vgu,fun t' d w x e1=>?_⟩
 ·rw [bV] at e1
  by_cases h:t=t'
  ·subst h
   rw [if_pos rfl] at e1
   injection e1 with e1
   subst e1
   obtain ⟨h1,h2⟩:=(show _=elP (B k) sz i o∧_ from ff.vfr t _ ht e2)
   obtain ⟨A,c,g1,_,_,_,g5,_⟩:=m.mm.sat k _ hk
   refine ⟨?_,h2⟩
   rw [h1,g5,g1];exact N1
  ·rw [if_neg h] at e1;exact ff.vfr t' x e1 e2
 ·rw [bV]
  by_cases h:t=t'
  ·subst h
   have:=ff.vno t d w x e1
   rw [ht] at this;cases this
  ·rw [if_neg h];exact ff.vno t' d w x e1
end
end
section
section
def bY (r:Int) (xs:List GSet):List GSet:=xs.filter fun s=>s.region == r
theorem BP (t:GTx) (r0:Int) (hl:t.sets.length≤1048576):MkL Tryz.prog 89 [vR (cTx t),vI r0] 5 cP aCm (bY r0 t.sets):=by
 refine aE Tryz.func89 fun B0 r_ D_ w0=>?_
 refine aF ?_
 refine aM 7 (fun i=>cP (([]:List GSet).getD i aCm)) (fun i hi=>absurd hi (Nat.not_lt_zero _)) (mu1:=[]) ?_
 refine aN ?_
 refine aK (ι:=Nat) (fun i=>[(6,vI i),(5, .a (.g 7))]) (fun i=>[(7,bE 5 cP aCm ((t.sets.take i).filter fun s=>s.region == r0))]) (fun i=>i≤t.sets.length) (fun i=>t.sets.length - i) 0 [7] [7] (Nat.zero_le _) ?_
 intro i h1
 refine aF ?_
 refine aI (fun e=>?_) (fun e=>?_)
 ·have hi:i<t.sets.length:=by omega
  have hle:=zP t.sets (fun s=>s.region == r0) i
  refine aF ?_
  refine aQ (fun e2=>?_) (fun e2=>?_)
  ·refine aF ?_
   refine cV TT_ok 29 (fun _=>cP (t.sets.getD i aCm)) rfl rfl rfl rfl rfl rfl rfl (fun i hi=>by rcases i with _ | i <;>first | rfl | omega) (mu1:=[]) rfl rfl rfl ?_
   refine aN ?_
   refine cU TT_ok 7 29 30 rfl rfl rfl rfl rfl rfl rfl rfl rfl rfl rfl rfl ⟨by simp;omega,by unfold maxL;omega⟩ ?_
   refine aN ?_
   refine bC (bL 7 30) ?_
   exact bN (i+1) hi (by omega) wF ⟨⟨_,rfl,fJ (jM hi (by simpa using e2)) rfl⟩,wM⟩
  ·refine aF ?_
   exact bN (i+1) hi (by omega) wF ⟨⟨_,rfl,bP (j4 hi (by simpa using e2))⟩,wM⟩
 ·have hi:i=t.sets.length:=by omega
  subst hi
  refine aF ?_
  refine bB (bL 7 900) ?_
  refine aC (()) [(4,none)] ?_ ?_ ?_
  ·exact aCu _
  ·exact ⟨⟨_,rfl,bP (by rw [List.take_length];rfl)⟩,trivial⟩
  ·trivial
end
section
theorem CQ (xs:List GSet) (hl:xs.length≤1048576):MkL Tryz.prog 147 [vL 5 cP aCm xs] 5 cP aCm xs:=by
 refine aE Tryz.func147 fun B0 r_ D_ w0=>?_
 refine aF ?_
 refine HY TT_ok false rfl rfl rfl rfl rfl rfl fun b hb=>?_
 refine aN ?_
 refine aA (fun e=>?_) (fun e=>?_)
 ·have h0:=hb e
  refine aF ?_
  refine bB (oX 2 900 5 (fun i=>cP (([]:List GSet).getD i aCm)) rfl rfl rfl rfl) ?_
  refine aC (()) [(2,none)] ?_ ?_ ?_
  ·exact aCu _
  ·exact ⟨⟨_,rfl,bP (List.length_eq_zero_iff.1 h0).symm⟩,trivial⟩
  ·trivial
 ·refine aF ?_
  refine aM 5 (fun i=>cP (([]:List GSet).getD i aCm)) (fun i hi=>absurd hi (Nat.not_lt_zero _)) (mu1:=[]) ?_
  refine aN ?_
  refine oG TT_ok 5 900 rfl rfl rfl rfl rfl rfl rfl rfl rfl rfl rfl rfl ⟨by simp;omega,by unfold maxL;omega⟩ ?_
  refine aN ?_
  refine aC (()) [(2,none)] ?_ ?_ ?_
  ·exact aCu _
  ·exact ⟨⟨_,rfl,mX (ys:=([]:List GSet)) (by simp)⟩,trivial⟩
  ·trivial
theorem GC (xs:List GNote) (hl:xs.length≤1048576):MkL Tryz.prog 146 [vL 5 cT aCn xs] 5 cT aCn xs:=by
 refine aE Tryz.func146 fun B0 r_ D_ w0=>?_
 refine aF ?_
 refine HY TT_ok false rfl rfl rfl rfl rfl rfl fun b hb=>?_
 refine aN ?_
 refine aA (fun e=>?_) (fun e=>?_)
 ·have h0:=hb e
  refine aF ?_
  refine bB (oX 2 900 5 (fun i=>cT (([]:List GNote).getD i aCn)) rfl rfl rfl rfl) ?_
  refine aC (()) [(2,none)] ?_ ?_ ?_
  ·exact aCu _
  ·exact ⟨⟨_,rfl,bP (List.length_eq_zero_iff.1 h0).symm⟩,trivial⟩
  ·trivial
 ·refine aF ?_
  refine aM 5 (fun i=>cT (([]:List GNote).getD i aCn)) (fun i hi=>absurd hi (Nat.not_lt_zero _)) (mu1:=[]) ?_
  refine aN ?_
  refine oG TT_ok 5 900 rfl rfl rfl rfl rfl rfl rfl rfl rfl rfl rfl rfl ⟨by simp;omega,by unfold maxL;omega⟩ ?_
  refine aN ?_
  refine aC (()) [(2,none)] ?_ ?_ ?_
  ·exact aCu _
  ·exact ⟨⟨_,rfl,mX (ys:=([]:List GNote)) (by simp)⟩,trivial⟩
  ·trivial
end
end
section
section
def cmI (xs:List Int):Nat→List Int
 | 0=>[]
 | i+1=>if i=0∨xs.getD i 0≠xs.getD (i - 1) 0 then cmI xs i ++ [xs.getD i 0] else cmI xs i
theorem E0 {xs:List Int} {i:Nat} (h:i=0∨xs.getD i 0≠xs.getD (i - 1) 0):cmI xs (i+1)=cmI xs i ++ [xs.getD i 0]:=by rw [cmI,if_pos h]
theorem ID {xs:List Int} {i:Nat} (h:0<i) (e:xs.getD i 0=xs.getD (i - 1) 0):cmI xs (i+1)=cmI xs i:=by
 rw [cmI,if_neg]
 rintro (h1 | h1)
 ·omega
 ·exact h1 e
theorem BD {xs:List Int}:∀ {k:Nat},k≤xs.length→(∀ j,1≤j→j<k→xs.getD j 0≠xs.getD (j - 1) 0)→cmI xs k=xs.take k
 | 0,_,_=>by simp [cmI]
 | k+1,hk,h=>by
  rw [E0,BD (by omega) fun j h1 h2=>h j h1 (by omega),cC (z:=0) (by omega)]
  by_cases c:k=0
  ·exact .inl c
  ·exact .inr (h k (by omega) (by omega))
theorem QH {xs:List Int}:∀ {k:Nat},(cmI xs k).length≤k
 | 0=>Nat.le_refl _
 | k+1=>by
  have:=QH (xs:=xs) (k:=k)
  rw [cmI];split
  ·simp;omega
  ·omega
theorem VE (xs:List Int) (hl:xs.length≤1048576):Con Tryz.prog 219 [900] [.a (.g 900)] [(900,bE 1 bS 0 xs)] (fun _:Unit=>True) (fun _=>[.a (.g 901)]) fun _=>[(901,bE 1 bS 0 (cmI xs xs.length))]:=by
 refine aE Tryz.func219 fun B0 r_ D_ w0=>?_
 refine aF ?_
 refine aI (fun e=>?_) (fun e=>?_)
 ·have hq:cmI xs xs.length=xs:=by
   rw [BD (Nat.le_refl _) fun j h1 h2=>by omega,List.take_length]
  refine aF ?_
  refine bB (FC 2 900 901 rfl rfl rfl rfl rfl rfl) ?_
  refine aC (()) [(2,none)] ?_ ?_ ?_
  ·exact aCu _
  ·exact ⟨⟨_,rfl,bP hq.symm⟩,trivial⟩
  ·trivial
 refine aF ?_
 refine cY (ι:=Nat) (fun k=>[(3,vI k)]) (fun _=>[]) (fun k=>1≤k∧k≤xs.length∧∀ j,1≤j→j<k→xs.getD j 0≠xs.getD (j - 1) 0) (fun k=>xs.length - k) 1 [] [] rfl rfl ⟨Nat.le_refl _,by omega,fun j h1 h2=>by omega⟩ wF wM ?_
 intro k ⟨h1,h2,h3⟩
 have hpred:((k:Int) - 1).toNat=k - 1:=by omega
 refine aF ?_
 refine aI (fun e=>?_) (fun e=>?_)
 ·have hk:k<xs.length:=by omega
  refine aF ?_
  refine aO [] fun B0 H0=>?_
  refine aP ?_
  refine aQ (fun e2=>?_) (fun e2=>?_)
  ·rw [hpred] at e2
   have e2:xs.getD k 0=xs.getD (k - 1) 0:=e2
   have hC:cmI xs (k+1)=xs.take k:=by rw [ID h1 e2,BD h2 h3]
   refine aF ?_
   refine cY (ι:=Nat×(Nat→Int)) (fun y=>[(5,vI y.1),(3,vI (cmI xs (k+y.1)).length)]) (fun y=>[(900, .arr 1 xs.length fun i=>bS (y.2 i))])
    (fun y=>1≤y.1∧k+y.1≤xs.length∧(cmI xs (k+y.1)).length<k+y.1∧(∀ i,i<(cmI xs (k+y.1)).length→y.2 i=(cmI xs (k+y.1)).getD i 0)∧∀ i,(cmI xs (k+y.1)).length≤i→i<xs.length→y.2 i=xs.getD i 0)
    (fun y=>xs.length - y.1) (1,fun i=>xs.getD i 0) [900] [] rfl rfl ⟨Nat.le_refl _,hk,by dsimp only;rw [hC,List.length_take];omega,fun i hi=>?_,fun _ _ _=>rfl⟩ ⟨⟨_,rfl,aCs _⟩,⟨_,rfl,aCw (fL ?_)⟩,trivial⟩ wM ?_
   ·dsimp only at hi ⊢
    rw [hC] at hi ⊢
    exact (m5 hi).symm
   ·dsimp only
    rw [hC,List.length_take,Nat.min_eq_left h2]
   rintro ⟨j,h⟩ ⟨g1,g2,g3,g4,g5⟩
   dsimp only at g1 g2 g3 g4 g5 ⊢
   refine aF ?_
   refine aI (fun e3=>?_) (fun e3=>?_)
   ·have hj:k+j<xs.length:=by omega
    have hpj:((k:Int)+((j:Int) - 1)).toNat=k+j - 1:=by omega
    refine aF ?_
    refine aO [] fun B0 H0=>?_
    refine aP ?_
    refine fO rfl (fun e4=>?_) (fun e4=>?_)
    ·rw [hpj] at e4
     have e4:h (k+j)≠h (k+j - 1):=e4
     rw [g5 _ (by omega) hj,g5 _ (by omega) (by omega)] at e4
     have hF:=E0 (.inr e4)
     refine aF ?_
     refine bN (j+1,fun i=>if i=(cmI xs (k+j)).length then h (k+j) else h i) ⟨by omega,hj,?_,fun i hi=>?_,fun i i1 i2=>?_⟩ (by show xs.length - (j+1)<xs.length - j;omega) ?_ ⟨⟨_,rfl,Ch.imp_arr fun i hi=>?_⟩,wM⟩
     ·show (cmI xs (k+j+1)).length<_
      rw [hF,List.length_append,List.length_singleton];omega
     ·have hi:i<(cmI xs (k+j+1)).length:=hi
      show (if _ then _ else _)=(cmI xs (k+j+1)).getD i 0
      rw [hF,List.length_append,List.length_singleton] at hi
      rw [hF]
      by_cases c:i=(cmI xs (k+j)).length
      ·rw [if_pos c,c,rS,g5 _ (by omega) hj]
      ·rw [if_neg c,rM (by omega)];exact g4 i (by omega)
     ·have i1:(cmI xs (k+j+1)).length≤i:=i1
      rw [hF,List.length_append,List.length_singleton] at i1
      show (if _ then _ else _)=_
      rw [if_neg (by omega)];exact g5 i (by omega) i2
     ·refine And.intro ⟨_,rfl,aCs _⟩ (And.intro ⟨_,rfl,aCw (fL ?_)⟩ wF)
      show _=(((cmI xs (k+j+1)).length:Nat):Int)
      rw [hF,List.length_append,List.length_singleton];simp
     ·dsimp only
      by_cases c:i=(cmI xs (k+j)).length
      ·subst c
       simp only [Int.toNat_natCast,Nat.beq_refl,cond_true,if_true]
       rfl
      ·rw [if_neg c]
       have:Nat.beq i (((cmI xs (k+j)).length:Nat):Int).toNat=false:=by
        simp only [Int.toNat_natCast]
        cases e:Nat.beq i (cmI xs (k+j)).length with
        | false=>rfl
        | true=>exact absurd (Nat.eq_of_beq_eq_true e) c
       rw [this];rfl
    ·rw [hpj] at e4
     have e4:h (k+j)=h (k+j - 1):=e4
     rw [g5 _ (by omega) hj,g5 _ (by omega) (by omega)] at e4
     have hF:=ID (by omega) e4
     refine aF ?_
     refine bN (j+1,h) ⟨by omega,hj,by show (cmI xs (k+j+1)).length<_;rw [hF];omega,fun i hi=>?_,fun i i1 i2=>?_⟩ (by show xs.length - (j+1)<xs.length - j;omega) ?_ wM
     ·have hi:i<(cmI xs (k+j+1)).length:=hi
      show _=(cmI xs (k+j+1)).getD i 0
      rw [hF] at hi ⊢;exact g4 i hi
     ·have i1:(cmI xs (k+j+1)).length≤i:=i1
      rw [hF] at i1;exact g5 i i1 i2
     ·refine And.intro ⟨_,rfl,aCs _⟩ (And.intro ⟨_,rfl,aCw (fL ?_)⟩ wF)
      show _=(((cmI xs (k+j+1)).length:Nat):Int)
      rw [hF]
   ·have hj:k+j=xs.length:=by omega
    rw [hj] at g3 g4 g5 ⊢
    refine aF ?_
    refine B7 TT_ok 56 900 rfl rfl rfl rfl rfl rfl ⟨by omega,by omega,by omega⟩ rfl rfl rfl rfl ?_
    refine aN ?_
    refine bB (FS 2 900 901 rfl rfl rfl ⟨by omega,by omega,by omega⟩ rfl rfl rfl) ?_
    refine aC (()) [(2,none)] ?_ ?_ ?_
    ·exact aCu _
    ·refine ⟨⟨_,rfl,Ch.imp_len (by omega) fun i hi=>?_⟩,trivial⟩
     dsimp only
     rw [if_neg (by omega),g4 _ (by omega)]
     congr 2;omega
    ·trivial
  ·rw [hpred] at e2
   refine aF ?_
   refine aL (k+1) ⟨by omega,hk,fun j j1 j2=>?_⟩ (by omega)
   by_cases c:j=k
   ·subst c;exact e2
   ·exact h3 j j1 (by omega)
 ·have hk:k=xs.length:=by omega
  subst hk
  refine aF ?_
  refine bB (FC 2 900 901 rfl rfl rfl rfl rfl rfl) ?_
  refine aC (()) [(2,none)] ?_ ?_ ?_
  ·exact aCu _
  ·exact ⟨⟨_,rfl,bP (by rw [BD h2 h3,List.take_length])⟩,trivial⟩
  ·trivial
def j7 (l:List Int):Nat→List Int
 | 0=>[]
 | i+1=>if l.getD i 0 ∈ j7 l i then j7 l i else j7 l i ++ [l.getD i 0]
theorem MX {xs:List Int}:∀ {k:Nat},(j7 xs k).length≤k
 | 0=>Nat.le_refl _
 | k+1=>by
  have:=MX (xs:=xs) (k:=k)
  rw [j7];split
  ·omega
  ·simp;omega
theorem LS {l:List Int}:∀ {k:Nat},k≤l.length→(∀ j,0<j→j<k→l.getD (j - 1) 0≤l.getD j 0)→j7 l k=cmI l k∧(0<k→l.getD (k - 1) 0 ∈ j7 l k∧∀ x ∈ j7 l k,x≤l.getD (k - 1) 0)
 | 0,_,_=>⟨rfl,fun h=>absurd h (Nat.lt_irrefl _)⟩
 | k+1,hk,h=>by
  obtain ⟨h1,h2⟩:=LS (l:=l) (k:=k) (by omega) fun j j1 j2=>h j j1 (by omega)
  by_cases c:l.getD k 0 ∈ j7 l k
  ·have hk0:0<k:=by
    rcases Nat.eq_zero_or_pos k with e | e
    ·subst e;cases c
    ·exact e
   have e:l.getD k 0=l.getD (k - 1) 0:=Int.le_antisymm ((h2 hk0).2 _ c) (h k hk0 (by omega))
   refine ⟨by rw [j7,if_pos c,h1,ID hk0 e],fun _=>?_⟩
   rw [j7,if_pos c,Nat.add_sub_cancel,e]
   exact h2 hk0
  ·refine ⟨?_,fun _=>?_⟩
   ·rw [j7,if_neg c,h1,E0]
    rcases Nat.eq_zero_or_pos k with e | e
    ·exact .inl e
    ·right;intro e2;rw [e2] at c;exact c (h2 e).1
   ·rw [j7,if_neg c,Nat.add_sub_cancel]
    refine ⟨by simp,fun x hx=>?_⟩
    rw [List.mem_append] at hx
    rcases hx with hx | hx
    ·rcases Nat.eq_zero_or_pos k with e | e
     ·subst e;cases hx
     ·exact Int.le_trans ((h2 e).2 x hx) (h k e (by omega))
    ·simp at hx;rw [hx];exact Int.le_refl _
end
section
theorem yI {xs:List Int} {i:Nat} (h:i<xs.length):xs.getD i 0 ∈ xs:=by simp [h]
theorem gW {xs:List Int} {n:Int}:n ∈ xs ↔ ∃ i,i<xs.length∧xs.getD i 0=n:=by
 rw [List.mem_iff_getElem]
 constructor
 ·rintro ⟨i,h,e⟩;exact ⟨i,h,by simp [h,e]⟩
 ·rintro ⟨i,h,e⟩;exact ⟨i,h,by simpa [h] using e⟩
theorem mW (xs:List Int) (hl:xs.length≤1048576) (n:Int):Ans Tryz.prog 85 [] [vL 1 bS 0 xs,vI n] [] (vB (decide (n ∈ xs))):=by
 refine aE Tryz.func85 fun B0 r_ D_ w0=>?_
 refine aF ?_
 refine aK (ι:=Nat) (fun i=>[(5,vI i)]) (fun _=>[]) (fun i=>i≤xs.length∧∀ j,j<i→xs.getD j 0≠n) (fun i=>xs.length - i) 0 [] [] ⟨Nat.zero_le _,fun j hj=>absurd hj (Nat.not_lt_zero _)⟩ ?_
 intro i ⟨h1,h2⟩
 refine aF ?_
 refine aI (fun e=>?_) (fun e=>?_)
 ·have hi:i<xs.length:=by omega
  refine aF ?_
  refine aQ (fun e2=>?_) (fun e2=>?_)
  ·refine aF ?_
   exact aG [(4,none)] ((decide_eq_true (gW.2 ⟨i,hi,e2⟩)).symm)
  ·refine aF ?_
   exact aL (i+1) ⟨hi,b5 h2 e2⟩ (by omega)
 ·refine aF ?_
  exact b9 TT_ok [(4,none)] rfl rfl ((decide_eq_false fun h=>by obtain ⟨j,j1,j2⟩:=gW.1 h;exact h2 j (by omega) j2).symm)
abbrev fC (t:GTx):List Int:=t.sets.map GSet.region
theorem nM (t:GTx) (i:Nat):(fC t).getD i 0=(t.sets.getD i aCm).region:=by
 simp only [fC,List.getD_eq_getElem?_getD,List.getElem?_map]
 cases t.sets[i]? <;>rfl
theorem m6 (t:GTx):(fC t).length=t.sets.length:=List.length_map _
theorem XR (t:GTx) (hl:t.sets.length≤1048576):MkL Tryz.prog 173 [vR (cTx t)] 1 bS 0 (j7 (fC t) t.sets.length):=by
 refine aE Tryz.func173 fun B0 r_ D_ w0=>?_
 refine aF ?_
 refine aM 5 (fun i=>bS (([]:List Int).getD i 0)) (fun i hi=>absurd hi (Nat.not_lt_zero _)) (mu1:=[]) ?_
 refine aN ?_
 refine aK (ι:=Nat) (fun i=>[(4,vI i),(3, .a (.g 5))]) (fun i=>[(5,bE 1 bS 0 (j7 (fC t) i))]) (fun i=>i≤t.sets.length) (fun i=>t.sets.length - i) 0 [5] [5] (Nat.zero_le _) ?_
 intro i h1
 refine aF ?_
 refine aI (fun e=>?_) (fun e=>?_)
 ·have hi:i<t.sets.length:=by omega
  have hle:=MX (xs:=fC t) (k:=i)
  refine aF ?_
  refine l4 TT_ok (mW _ (by omega) _) rfl rfl rfl rfl rfl ?_
  refine eF rfl (fun e2=>?_) (fun e2=>?_)
  ·have e3:¬ (fC t).getD i 0 ∈ j7 (fC t) i:=by rw [nM];exact of_decide_eq_false e2
   refine aF ?_
   refine cV TT_ok 29 (fun _=>bS (t.sets.getD i aCm).region) rfl rfl rfl rfl rfl rfl rfl (fun i hi=>by rcases i with _ | i <;>first | rfl | omega) (mu1:=[]) rfl rfl rfl ?_
   refine aN ?_
   refine cU TT_ok 5 29 30 rfl rfl rfl rfl rfl rfl rfl rfl rfl rfl rfl rfl ⟨by simp;omega,by unfold maxL;omega⟩ ?_
   refine aN ?_
   refine bC (bL 5 30) ?_
   exact bN (i+1) hi (by omega) wF ⟨⟨_,rfl,fJ (x:=(t.sets.getD i aCm).region) (by rw [j7,if_neg e3,nM]) rfl⟩,wM⟩
  ·have e3:(fC t).getD i 0 ∈ j7 (fC t) i:=by rw [nM];exact of_decide_eq_true e2
   refine aF ?_
   exact bN (i+1) hi (by omega) wF ⟨⟨_,rfl,bP (by rw [j7,if_pos e3])⟩,wM⟩
 ·have hi:i=t.sets.length:=by omega
  subst hi
  refine aF ?_
  refine bB (bL 5 900) ?_
  refine aC (()) [(2,none)] ?_ ?_ ?_
  ·exact aCu _
  ·exact wM
  ·trivial
theorem X5 {t:GTx} (h:eN t):j7 (fC t) t.sets.length=cmI (fC t) (fC t).length:=by
 rw [m6]
 refine (LS (by rw [m6];exact Nat.le_refl _) fun j h1 h2=>?_).1
 rw [nM,nM]
 have:=(h.2.2 j h2).2 h1
 unfold lessS at this
 omega
end
end
section
structure GPlace where
 machines:List Int
def aCi:GPlace:=⟨[]⟩
structure GRecord where
 kind:Int
 tx:Int
 region:Int
 sets:List GSet
def aCq:GRecord:=⟨0,0,0,[]⟩
structure GCopy where
 region:Int
 cells:List GCell
def aCp:GCopy:=⟨0,[]⟩
structure GMachine where
 alive:Bool
 copies:List GCopy
 log:List GRecord
 cleared:List Int
def aCj:GMachine:=⟨false,[],[],[]⟩
structure GCluster where
 config:Int
 clock:Int
 places:List GPlace
 machines:List GMachine
 txs:List GTx
 lost:Bool
def aCl:GCluster:=⟨0,0,[],[],[],false⟩
def cE (p:GPlace):List D:=[dL 1 bS 0 p.machines]
def cK (r:GRecord):List D:=[dI r.kind,dI r.tx,dI r.region,dL 5 cP aCm r.sets]
def dA (c:GCopy):List D:=[dI c.region,dL 2 cX aCo c.cells]
def bJ (m:GMachine):List D:=[dB m.alive,dL 2 dA aCp m.copies,dL 4 cK aCq m.log,dL 1 bS 0 m.cleared]
def bO (c:GCluster):List D:=[dI c.config,dI c.clock,dL 1 cE aCi c.places,dL 4 bJ aCj c.machines,dL 7 cTx aCk c.txs,dB c.lost]
mutual
def D.bd (N:Nat):D→Prop
 | .v _=>True
 | .sl _ n f=>n≤N∧∀ i,i<n→D.bds N (f i)
 | .pt l _=>D.bds N l
def D.bds (N:Nat):List D→Prop
 | []=>True
 | x :: r=>D.bd N x∧D.bds N r
end
mutual
theorem D.rd_bd {h:PH}:∀ (x:D) {y:Value},D.rd h x y→D.bd maxL x
 | .v _,_,_=>trivial
 | .sl sz n f,y,e=>by
  obtain ⟨A,c,e1,e2,e3,e4⟩:=e
  refine ⟨e3,fun i hi=>?_⟩
  rcases e4 with e4 | ⟨b,o,_,e6⟩
  ·omega
  ·obtain ⟨row,r1,_⟩:=e6 i hi
   exact D.rds_bd (f i) r1
 | .pt l o,y,e=>by
  obtain ⟨b,x,vs,e1,e2,e3⟩:=e
  exact D.rds_bd l e2
theorem D.rds_bd {h:PH}:∀ (x:List D) {y:List Value},D.rds h x y→D.bds maxL x
 | [],_,_=>trivial
 | x :: r,y,e=>by
  obtain ⟨a,t,e1,e2,e3⟩:=e
  exact ⟨D.rd_bd x e2,D.rds_bd r e3⟩
end
def gL {α:Type} (w:α→Nat):List α→Nat
 | []=>0
 | x :: r=>w x+gL w r
section
variable {α:Type} {w:α→Nat} {z:α}
theorem vX:∀ (l m:List α),gL w (l ++ m)=gL w l+gL w m
 | [],m=>by simp [gL]
 | x :: r,m=>by simp [gL,vX r m];omega
theorem XM {xs:List α} {i:Nat} (h:i<xs.length):gL w (xs.take (i+1))=gL w (xs.take i)+w (xs.getD i z):=by
 rw [cC (z:=z) h,vX];simp [gL]
theorem PG (xs:List α) (i:Nat):gL w (xs.take i)≤gL w xs:=by
 conv=>rhs;rw [← List.take_append_drop i xs]
 rw [vX];omega
theorem Y9 {xs:List α} {i:Nat} (h:i<xs.length):w (xs.getD i z)≤gL w xs:=by
 have h1:=XM (w:=w) (z:=z) h
 have h2:=PG (w:=w) xs (i+1)
 omega
end
def wL {α:Type} (w:α→Nat) (xs:List α):Nat:=xs.length+gL w xs
def mL (p:GPlace):Nat:=p.machines.length
def AW (r:GRecord):Nat:=r.sets.length
def I8 (c:GCopy):Nat:=c.cells.length
def gM (m:GMachine):Nat:=wL I8 m.copies+wL AW m.log+m.cleared.length
def wTx (t:GTx):Nat:=t.reads.length+t.sets.length
def iL (c:GCluster):Nat:=wL mL c.places+wL gM c.machines+wL wTx c.txs
abbrev dJ:Nat:=1048576
theorem x6 {α:Type} {N sz:Nat} {enc:α→List D} {z:α} {xs:List α} (h:xs.length≤N) (hf:∀ x,D.bds N (enc x)):D.bd N (dL sz enc z xs):=⟨h,fun _ _=>hf _⟩
theorem A6 {α:Type} {N sz:Nat} {enc:α→List D} {z:α} {w:α→Nat} {xs:List α} (h:wL w xs≤N) (hf:∀ x,w x≤N→D.bds N (enc x)):D.bd N (dL sz enc z xs):=by
 unfold wL at h
 exact ⟨by omega,fun i hi=>hf _ (by have:=Y9 (w:=w) (z:=z) hi;omega)⟩
theorem XY {N:Nat} (x:Int):D.bds N (bS x):=⟨trivial,trivial⟩
theorem XJ {N:Nat} (x:GSet):D.bds N (cP x):=⟨trivial,trivial,trivial,trivial,trivial,trivial⟩
theorem aA5 {N:Nat} (x:GNote):D.bds N (cT x):=⟨trivial,trivial,trivial,trivial,trivial,trivial⟩
theorem aBx {N:Nat} (x:GCell):D.bds N (cX x):=⟨trivial,trivial,trivial⟩
theorem ZP {N:Nat} (x:GPlace) (h:mL x≤N):D.bds N (cE x):=⟨x6 h XY,trivial⟩
theorem WW {N:Nat} (x:GRecord) (h:AW x≤N):D.bds N (cK x):=⟨trivial,trivial,trivial,x6 h XJ,trivial⟩
theorem aBA {N:Nat} (x:GCopy) (h:I8 x≤N):D.bds N (dA x):=⟨trivial,x6 h aBx,trivial⟩
theorem UR {N:Nat} (x:GMachine) (h:gM x≤N):D.bds N (bJ x):=by
 unfold gM at h
 exact ⟨trivial,A6 (w:=I8) (by omega) fun x h=>aBA x h,A6 (w:=AW) (by omega) fun x h=>WW x h,x6 (by omega) XY,trivial⟩
theorem FH {N:Nat} (x:GTx) (h:wTx x≤N):D.bds N (cTx x):=by
 unfold wTx at h
 exact ⟨trivial,trivial,trivial,trivial,x6 (by omega) aA5,x6 (by omega) XJ,trivial,trivial⟩
theorem rA {N:Nat} (x:GCluster) (h:iL x≤N):D.bds N (bO x):=by
 unfold iL at h
 exact ⟨trivial,trivial,A6 (w:=mL) (by omega) fun x h=>ZP x h,A6 (w:=gM) (by omega) fun x h=>UR x h,A6 (w:=wTx) (by omega) fun x h=>FH x h,trivial,trivial⟩
end
section
theorem uL {α:Type} {p:α→Bool} {z:α} {xs:List α} {i:Nat} (hi:i<xs.length) (h:p (xs.getD i z)=true):xs.any p=true:=List.any_eq_true.2 ⟨xs.getD i z,by simp [hi],h⟩
theorem j0 {α:Type} {p:α→Bool} {z:α} {xs:List α} (h:∀ j,j<xs.length→p (xs.getD j z)=false):xs.any p=false:=by
 rw [List.any_eq_false]
 intro x hx
 obtain ⟨a,ha,rfl⟩:=List.mem_iff_getElem.1 hx
 have:=h a ha
 simp [ha] at this
 simp [this]
theorem sY {α:Type} {p:α→Bool} {z:α} {xs:List α} (h:xs.any p=false):∀ j,j<xs.length→p (xs.getD j z)=false:=fun j hj=>by
 rw [List.any_eq_false] at h
 have:=h (xs.getD j z) (by simp [hj])
 simpa using this
theorem sF {α:Type} (p:α→Bool) (z:α) (xs:List α):decide (cI p xs ≥ 0)=xs.any p:=by
 rcases gH p z xs with ⟨h1,h2⟩ | ⟨i,h1,h2,h3,h4⟩
 ·rw [j0 h2,h1];rfl
 ·rw [uL h1 h4,h2];simp
theorem EV {P:Program} {α:Type} {rd:α→List RD} (p:α→Bool):(fbO rd fun x => .bool (p x)).imp P (fbP (fun _=>True) rd fun x => .bool (p x)):=by
 intro B Z y ⟨f,vs,h1,h2⟩
 refine ⟨f,vs,h1,h2.1,fun args x ⟨a,_,e1,e2⟩=>h2.2 args x ⟨a,e1,e2⟩⟩
theorem K8 (xs:List GSet) (hl:xs.length≤1048576) (S:GSet→Prop) (hS:∀ i,i<xs.length→S (xs.getD i aCm)) (p:GSet→Bool):Ans Tryz.prog 212 [] [vL 5 cP aCm xs,fbP S (fun x=>[RD.ag (cP x)]) fun x => .bool (p x)] [] (vI (cI p xs)):=by
 refine aE Tryz.func212 fun B0 r_ D_ w0=>?_
 refine aF ?_
 refine aK (ι:=Nat) (fun i=>[(8,vI i)]) (fun _=>[]) (fun i=>i≤xs.length∧∀ j,j<i→p (xs.getD j aCm)=false) (fun i=>xs.length - i) 0 [] [] ⟨Nat.zero_le _,fun j hj=>absurd hj (Nat.not_lt_zero _)⟩ ?_
 intro i ⟨h1,h2⟩
 refine aF ?_
 refine aI (fun e=>?_) (fun e=>?_)
 ·have hi:i<xs.length:=by omega
  refine aF ?_
  refine vE rfl rfl rfl ⟨xs.getD i aCm,hS i hi,rfl,rfl⟩ ?_
  refine aN ?_
  refine aA (fun e2=>?_) (fun e2=>?_)
  ·refine aF ?_
   exact aJ [(4,none)] ((gA hi h2 e2).symm)
  ·refine aF ?_
   exact aL (i+1) ⟨hi,b5 h2 e2⟩ (by omega)
 ·refine aF ?_
  exact dK TT_ok [(4,none)] rfl rfl ((gT fun j hj=>h2 j (by omega)).symm)
theorem FT (xs:List GSet) (hl:xs.length≤1048576) (S:GSet→Prop) (hS:∀ i,i<xs.length→S (xs.getD i aCm)) (p:GSet→Bool):Ans Tryz.prog 137 [] [vL 5 cP aCm xs,fbP S (fun x=>[RD.ag (cP x)]) fun x => .bool (p x)] [] (vB (xs.any p)):=by
 refine aE Tryz.func137 fun B0 r_ D_ w0=>?_
 refine aF ?_
 refine aH (K8 xs hl S hS p) ?_
 exact aG [(4,none)] (sF p aCm xs)
theorem xC (xs:List GSet) (hl:xs.length≤1048576) (p:GSet→Bool):Ans Tryz.prog 137 [] [vL 5 cP aCm xs,fbO (fun x=>[RD.ag (cP x)]) fun x => .bool (p x)] [] (vB (xs.any p)) :=
 (FT xs hl (fun _=>True) (fun _ _=>trivial) p).wkA ⟨_,_,rfl,aCs _,_,_,rfl,EV p,rfl⟩
theorem JV (xs:List GNote) (hl:xs.length≤1048576) (S:GNote→Prop) (hS:∀ i,i<xs.length→S (xs.getD i aCn)) (p:GNote→Bool):Ans Tryz.prog 211 [] [vL 5 cT aCn xs,fbP S (fun x=>[RD.ag (cT x)]) fun x => .bool (p x)] [] (vI (cI p xs)):=by
 refine aE Tryz.func211 fun B0 r_ D_ w0=>?_
 refine aF ?_
 refine aK (ι:=Nat) (fun i=>[(8,vI i)]) (fun _=>[]) (fun i=>i≤xs.length∧∀ j,j<i→p (xs.getD j aCn)=false) (fun i=>xs.length - i) 0 [] [] ⟨Nat.zero_le _,fun j hj=>absurd hj (Nat.not_lt_zero _)⟩ ?_
 intro i ⟨h1,h2⟩
 refine aF ?_
 refine aI (fun e=>?_) (fun e=>?_)
 ·have hi:i<xs.length:=by omega
  refine aF ?_
  refine vE rfl rfl rfl ⟨xs.getD i aCn,hS i hi,rfl,rfl⟩ ?_
  refine aN ?_
  refine aA (fun e2=>?_) (fun e2=>?_)
  ·refine aF ?_
   exact aJ [(4,none)] ((gA hi h2 e2).symm)
  ·refine aF ?_
   exact aL (i+1) ⟨hi,b5 h2 e2⟩ (by omega)
 ·refine aF ?_
  exact dK TT_ok [(4,none)] rfl rfl ((gT fun j hj=>h2 j (by omega)).symm)
theorem D6 (xs:List GNote) (hl:xs.length≤1048576) (S:GNote→Prop) (hS:∀ i,i<xs.length→S (xs.getD i aCn)) (p:GNote→Bool):Ans Tryz.prog 135 [] [vL 5 cT aCn xs,fbP S (fun x=>[RD.ag (cT x)]) fun x => .bool (p x)] [] (vB (xs.any p)):=by
 refine aE Tryz.func135 fun B0 r_ D_ w0=>?_
 refine aF ?_
 refine aH (JV xs hl S hS p) ?_
 exact aG [(4,none)] (sF p aCn xs)
theorem EL (xs:List GNote) (hl:xs.length≤1048576) (p:GNote→Bool):Ans Tryz.prog 135 [] [vL 5 cT aCn xs,fbO (fun x=>[RD.ag (cT x)]) fun x => .bool (p x)] [] (vB (xs.any p)) :=
 (D6 xs hl (fun _=>True) (fun _ _=>trivial) p).wkA ⟨_,_,rfl,aCs _,_,_,rfl,EV p,rfl⟩
theorem JC (xs:List GCell) (hl:xs.length≤1048576) (S:GCell→Prop) (hS:∀ i,i<xs.length→S (xs.getD i aCo)) (p:GCell→Bool):Ans Tryz.prog 241 [] [vL 2 cX aCo xs,fbP S (fun x=>[RD.ag (cX x)]) fun x => .bool (p x)] [] (vI (cI p xs)):=by
 refine aE Tryz.func241 fun B0 r_ D_ w0=>?_
 refine aF ?_
 refine aK (ι:=Nat) (fun i=>[(8,vI i)]) (fun _=>[]) (fun i=>i≤xs.length∧∀ j,j<i→p (xs.getD j aCo)=false) (fun i=>xs.length - i) 0 [] [] ⟨Nat.zero_le _,fun j hj=>absurd hj (Nat.not_lt_zero _)⟩ ?_
 intro i ⟨h1,h2⟩
 refine aF ?_
 refine aI (fun e=>?_) (fun e=>?_)
 ·have hi:i<xs.length:=by omega
  refine aF ?_
  refine vE rfl rfl rfl ⟨xs.getD i aCo,hS i hi,rfl,rfl⟩ ?_
  refine aN ?_
  refine aA (fun e2=>?_) (fun e2=>?_)
  ·refine aF ?_
   exact aJ [(4,none)] ((gA hi h2 e2).symm)
  ·refine aF ?_
   exact aL (i+1) ⟨hi,b5 h2 e2⟩ (by omega)
 ·refine aF ?_
  exact dK TT_ok [(4,none)] rfl rfl ((gT fun j hj=>h2 j (by omega)).symm)
theorem EK (xs:List GCell) (hl:xs.length≤1048576) (S:GCell→Prop) (hS:∀ i,i<xs.length→S (xs.getD i aCo)) (p:GCell→Bool):Ans Tryz.prog 178 [] [vL 2 cX aCo xs,fbP S (fun x=>[RD.ag (cX x)]) fun x => .bool (p x)] [] (vB (xs.any p)):=by
 refine aE Tryz.func178 fun B0 r_ D_ w0=>?_
 refine aF ?_
 refine aH (JC xs hl S hS p) ?_
 exact aG [(4,none)] (sF p aCo xs)
theorem wR (xs:List GCell) (hl:xs.length≤1048576) (p:GCell→Bool):Ans Tryz.prog 178 [] [vL 2 cX aCo xs,fbO (fun x=>[RD.ag (cX x)]) fun x => .bool (p x)] [] (vB (xs.any p)) :=
 (EK xs hl (fun _=>True) (fun _ _=>trivial) p).wkA ⟨_,_,rfl,aCs _,_,_,rfl,EV p,rfl⟩
theorem HM (xs:List Int) (hl:xs.length≤1048576) (S:Int→Prop) (hS:∀ i,i<xs.length→S (xs.getD i 0)) (p:Int→Bool):Ans Tryz.prog 216 [] [vL 1 bS 0 xs,fbP S (fun x=>[RD.a (dI x)]) fun x => .bool (p x)] [] (vI (cI p xs)):=by
 refine aE Tryz.func216 fun B0 r_ D_ w0=>?_
 refine aF ?_
 refine aK (ι:=Nat) (fun i=>[(8,vI i)]) (fun _=>[]) (fun i=>i≤xs.length∧∀ j,j<i→p (xs.getD j 0)=false) (fun i=>xs.length - i) 0 [] [] ⟨Nat.zero_le _,fun j hj=>absurd hj (Nat.not_lt_zero _)⟩ ?_
 intro i ⟨h1,h2⟩
 refine aF ?_
 refine aI (fun e=>?_) (fun e=>?_)
 ·have hi:i<xs.length:=by omega
  refine aF ?_
  refine vE rfl rfl rfl ⟨xs.getD i 0,hS i hi,rfl,rfl⟩ ?_
  refine aN ?_
  refine aA (fun e2=>?_) (fun e2=>?_)
  ·refine aF ?_
   exact aJ [(4,none)] ((gA hi h2 e2).symm)
  ·refine aF ?_
   exact aL (i+1) ⟨hi,b5 h2 e2⟩ (by omega)
 ·refine aF ?_
  exact dK TT_ok [(4,none)] rfl rfl ((gT fun j hj=>h2 j (by omega)).symm)
theorem DX (xs:List GMachine) (hl:xs.length≤1048576) (S:GMachine→Prop) (hS:∀ i,i<xs.length→S (xs.getD i aCj)) (p:GMachine→Bool):Ans Tryz.prog 205 [] [vL 4 bJ aCj xs,fbP S (fun x=>[RD.ag (bJ x)]) fun x => .bool (p x)] [] (vI (cI p xs)):=by
 refine aE Tryz.func205 fun B0 r_ D_ w0=>?_
 refine aF ?_
 refine aK (ι:=Nat) (fun i=>[(8,vI i)]) (fun _=>[]) (fun i=>i≤xs.length∧∀ j,j<i→p (xs.getD j aCj)=false) (fun i=>xs.length - i) 0 [] [] ⟨Nat.zero_le _,fun j hj=>absurd hj (Nat.not_lt_zero _)⟩ ?_
 intro i ⟨h1,h2⟩
 refine aF ?_
 refine aI (fun e=>?_) (fun e=>?_)
 ·have hi:i<xs.length:=by omega
  refine aF ?_
  refine vE rfl rfl rfl ⟨xs.getD i aCj,hS i hi,rfl,rfl⟩ ?_
  refine aN ?_
  refine aA (fun e2=>?_) (fun e2=>?_)
  ·refine aF ?_
   exact aJ [(4,none)] ((gA hi h2 e2).symm)
  ·refine aF ?_
   exact aL (i+1) ⟨hi,b5 h2 e2⟩ (by omega)
 ·refine aF ?_
  exact dK TT_ok [(4,none)] rfl rfl ((gT fun j hj=>h2 j (by omega)).symm)
theorem s8 (xs:List GMachine) (hl:xs.length≤1048576) (S:GMachine→Prop) (hS:∀ i,i<xs.length→S (xs.getD i aCj)) (p:GMachine→Bool):Ans Tryz.prog 132 [] [vL 4 bJ aCj xs,fbP S (fun x=>[RD.ag (bJ x)]) fun x => .bool (p x)] [] (vB (xs.any p)):=by
 refine aE Tryz.func132 fun B0 r_ D_ w0=>?_
 refine aF ?_
 refine aH (DX xs hl S hS p) ?_
 exact aG [(4,none)] (sF p aCj xs)
theorem rF (xs:List GRecord) (hl:xs.length≤1048576) (S:GRecord→Prop) (hS:∀ i,i<xs.length→S (xs.getD i aCq)) (p:GRecord→Bool):Ans Tryz.prog 217 [] [vL 4 cK aCq xs,fbP S (fun x=>[RD.ag (cK x)]) fun x => .bool (p x)] [] (vI (cI p xs)):=by
 refine aE Tryz.func217 fun B0 r_ D_ w0=>?_
 refine aF ?_
 refine aK (ι:=Nat) (fun i=>[(8,vI i)]) (fun _=>[]) (fun i=>i≤xs.length∧∀ j,j<i→p (xs.getD j aCq)=false) (fun i=>xs.length - i) 0 [] [] ⟨Nat.zero_le _,fun j hj=>absurd hj (Nat.not_lt_zero _)⟩ ?_
 intro i ⟨h1,h2⟩
 refine aF ?_
 refine aI (fun e=>?_) (fun e=>?_)
 ·have hi:i<xs.length:=by omega
  refine aF ?_
  refine vE rfl rfl rfl ⟨xs.getD i aCq,hS i hi,rfl,rfl⟩ ?_
  refine aN ?_
  refine aA (fun e2=>?_) (fun e2=>?_)
  ·refine aF ?_
   exact aJ [(4,none)] ((gA hi h2 e2).symm)
  ·refine aF ?_
   exact aL (i+1) ⟨hi,b5 h2 e2⟩ (by omega)
 ·refine aF ?_
  exact dK TT_ok [(4,none)] rfl rfl ((gT fun j hj=>h2 j (by omega)).symm)
theorem CO (xs:List GRecord) (hl:xs.length≤1048576) (S:GRecord→Prop) (hS:∀ i,i<xs.length→S (xs.getD i aCq)) (p:GRecord→Bool):Ans Tryz.prog 206 [] [vL 4 cK aCq xs,fbP S (fun x=>[RD.ag (cK x)]) fun x => .bool (p x)] [] (vB (xs.any p)):=by
 refine aE Tryz.func206 fun B0 r_ D_ w0=>?_
 refine aF ?_
 refine aH (rF xs hl S hS p) ?_
 exact aG [(4,none)] (sF p aCq xs)
theorem SC (xs:List Int) (hl:xs.length≤1048576) (v:Int):Ans Tryz.prog 215 [] [vL 1 bS 0 xs,vI v] [] (vI (cI (fun x=>v == x) xs)):=by
 refine aE Tryz.func215 fun B0 r_ D_ w0=>?_
 refine aF ?_
 refine aK (ι:=Nat) (fun i=>[(8,vI i)]) (fun _=>[]) (fun i=>i≤xs.length∧∀ j,j<i→(v == xs.getD j 0)=false) (fun i=>xs.length - i) 0 [] [] ⟨Nat.zero_le _,fun j hj=>absurd hj (Nat.not_lt_zero _)⟩ ?_
 intro i ⟨h1,h2⟩
 refine aF ?_
 refine aI (fun e=>?_) (fun e=>?_)
 ·have hi:i<xs.length:=by omega
  refine aF ?_
  refine aA (fun e2=>?_) (fun e2=>?_)
  ·refine aF ?_
   exact aJ [(4,none)] ((gA (p:=fun x=>v == x) hi h2 e2).symm)
  ·refine aF ?_
   exact aL (i+1) ⟨hi,b5 h2 e2⟩ (by omega)
 ·refine aF ?_
  exact dK TT_ok [(4,none)] rfl rfl ((gT (p:=fun x=>v == x) fun j hj=>h2 j (by omega)).symm)
theorem j8 (xs:List Int) (hl:xs.length≤1048576) (v:Int):Ans Tryz.prog 148 [] [vL 1 bS 0 xs,vI v] [] (vB (decide (v ∈ xs))):=by
 refine aE Tryz.func148 fun B0 r_ D_ w0=>?_
 refine aF ?_
 refine aH (SC xs hl v) ?_
 exact b9 TT_ok [(4,none)] rfl rfl ((by rw [sF _ 0,Bool.eq_iff_iff,List.any_eq_true];simp))
theorem wC (xs:List GCell) (hl:xs.length≤1048576):MkL Tryz.prog 106 [vL 2 cX aCo xs] 2 cX aCo xs:=by
 refine aE Tryz.func106 fun B0 r_ D_ w0=>?_
 refine aF ?_
 refine HY TT_ok false rfl rfl rfl rfl rfl rfl fun b hb=>?_
 refine aN ?_
 refine aA (fun e=>?_) (fun e=>?_)
 ·have h0:=hb e
  refine aF ?_
  refine bB (oX 2 900 2 (fun i=>cX (([]:List GCell).getD i aCo)) rfl rfl rfl rfl) ?_
  refine aC (()) [(2,none)] ?_ ?_ ?_
  ·exact aCu _
  ·exact ⟨⟨_,rfl,bP (List.length_eq_zero_iff.1 h0).symm⟩,trivial⟩
  ·trivial
 ·refine aF ?_
  refine aM 5 (fun i=>cX (([]:List GCell).getD i aCo)) (fun i hi=>absurd hi (Nat.not_lt_zero _)) (mu1:=[]) ?_
  refine aN ?_
  refine oG TT_ok 5 900 rfl rfl rfl rfl rfl rfl rfl rfl rfl rfl rfl rfl ⟨by simp;omega,by unfold maxL;omega⟩ ?_
  refine aN ?_
  refine aC (()) [(2,none)] ?_ ?_ ?_
  ·exact aCu _
  ·exact ⟨⟨_,rfl,mX (ys:=([]:List GCell)) (by simp)⟩,trivial⟩
  ·trivial
theorem AD (xs:List GPlace):Ans Tryz.prog 104 [] [vL 1 cE aCi xs] [] (vI xs.length):=by
 refine aE Tryz.func104 fun B0 r_ D_ w0=>?_
 refine aF ?_
 exact aJ [(2,none)] (rfl)
theorem wX (xs:List GMachine):Ans Tryz.prog 76 [] [vL 4 bJ aCj xs] [] (vI xs.length):=by
 refine aE Tryz.func76 fun B0 r_ D_ w0=>?_
 refine aF ?_
 exact aJ [(2,none)] (rfl)
theorem WP (xs:List GSet):Ans Tryz.prog 257 [] [vL 5 cP aCm xs] [] (vI xs.length):=by
 refine aE Tryz.func257 fun B0 r_ D_ w0=>?_
 refine aF ?_
 exact aJ [(2,none)] (rfl)
theorem RM (xs:List Int):Ans Tryz.prog 204 [] [vL 1 bS 0 xs] [] (vI xs.length):=by
 refine aE Tryz.func204 fun B0 r_ D_ w0=>?_
 refine aF ?_
 exact aJ [(2,none)] (rfl)
end
section
def t9 (n:Nat) (p:Nat→Bool):Bool:=(List.range n).any p
theorem x5 {n i:Nat} {p:Nat→Bool} (hi:i<n) (h:p i=true):t9 n p=true:=List.any_eq_true.2 ⟨i,List.mem_range.2 hi,h⟩
theorem oJ {n:Nat} {p:Nat→Bool} (h:∀ j,j<n→p j=false):t9 n p=false:=by
 unfold t9;rw [List.any_eq_false];intro x hx;rw [h x (List.mem_range.1 hx)];simp
theorem uR {n:Nat} {p:Nat→Bool} (h:t9 n p=false):∀ j,j<n→p j=false:=fun j hj=>by
 unfold t9 at h;rw [List.any_eq_false] at h;have:=h j (List.mem_range.2 hj);simpa using this
def jW (h:Int):Bool:=inB h 0 4000003
def US (v:Int):Bool:=inB v (-1000000000) 1000000000
def B4 (h:Int):Bool:=bif jW h then (h.tdiv 2).tmod 2 == 1 else false
def fD (h:Int):Bool:=bif jW h then h.tmod 2 == 1 else false
def yN (h:Int):Int:=if jW h=true then h.tdiv 4 else -1
theorem kR {h:Int}:jW h=true ↔ 0≤h∧h≤4000003:=b6
theorem vC {a b:Int} (h:0≤a):a.tdiv b=a / b:=Int.tdiv_eq_ediv_of_nonneg h
theorem AZ {a b:Int} (h:0≤a):a.tmod b=a % b:=Int.tmod_eq_emod_of_nonneg h
theorem OX {a b:Nat} (h:a<9223372036854775808) (h2:b<9223372036854775808):rE a b=((a &&& b:Nat):Int):=by
 unfold rE
 have e1:(BitVec.ofInt 64 (a:Int))=BitVec.ofNat 64 a:=by simp
 have e2:(BitVec.ofInt 64 (b:Int))=BitVec.ofNat 64 b:=by simp
 have e3:(BitVec.ofNat 64 a &&& BitVec.ofNat 64 b).toNat=a &&& b:=by
  rw [BitVec.toNat_and,BitVec.toNat_ofNat,BitVec.toNat_ofNat,Nat.mod_eq_of_lt (by omega),Nat.mod_eq_of_lt (by omega)]
 have h3:a &&& b≤a:=Nat.and_le_left
 rw [e1,e2,e3]
 exact IntWalk.i64_in _ (by omega)
theorem land1 (a:Nat):a &&& 1=a % 2:=Nat.and_one_is_mod a
theorem land2 (a:Nat):a &&& 2=2 * (a / 2 % 2):=by
 have h1:(a &&& 2) / 2=a / 2 % 2:=by rw [Nat.and_div_two];exact Nat.and_one_is_mod _
 have h2:¬ (a &&& 2) % 2=1:=fun h=>by have:=(Nat.and_mod_two_eq_one.1 h).2;omega
 omega
theorem and1 {h:Int} (k:jW h=true):rE h 1=h % 2:=by
 obtain ⟨h1,h2⟩:=kR.1 k
 obtain ⟨a,rfl⟩:=Int.eq_ofNat_of_zero_le h1
 rw [show (1:Int)=((1:Nat):Int) from rfl,OX (by omega) (by decide),land1];omega
theorem and2 {h:Int} (k:jW h=true):rE h 2=2 * (h / 2 % 2):=by
 obtain ⟨h1,h2⟩:=kR.1 k
 obtain ⟨a,rfl⟩:=Int.eq_ofNat_of_zero_le h1
 rw [show (2:Int)=((2:Nat):Int) from rfl,OX (by omega) (by decide),land2];omega
theorem used2 {h:Int} (k:jW h=true):(rE h 2 == 0) = !B4 h:=by
 obtain ⟨h1,h2⟩:=kR.1 k
 unfold B4
 rw [k,and2 k,vC h1,AZ (by omega),Bool.eq_iff_iff]
 simp;omega
theorem UP {h:Int} (k:jW h=true):yN h=h.tdiv 4:=by rw [yN,if_pos k]
theorem FQ {h d:Int} (h1:0≤h) (h2:h≤4000003) (hd:0<d):InR (h.tdiv d):=by
 rw [vC h1]
 have h3:0≤h / d:=Int.ediv_nonneg h1 (by omega)
 have h4:h / d≤h:=Int.ediv_le_self _ h1
 unfold InR;omega
theorem AL (h:Int):Ans Tryz.prog 229 [] [vI h] [] (vB (B4 h)):=by
 refine aE Tryz.func229 fun B0 r_ D_ w0=>?_
 refine aF ?_
 refine JJ TT_ok (rW _) rfl rfl (aCu _) rfl rfl ?_ ?_
 ·exact ⟨fun _=>(by decide:(2:Int)≠0),fun k=>FQ (b6.1 k).1 (b6.1 k).2 (by decide),fun _=>(by decide:(2:Int)≠0),trivial⟩
 ·exact aG [(2,none)] (rfl)
theorem pC (h:Int):Ans Tryz.prog 116 [] [vI h] [] (vB (fD h)):=by
 refine aE Tryz.func116 fun B0 r_ D_ w0=>?_
 refine aF ?_
 refine aH (rW _) ?_
 exact aG [(2,none)] (rfl)
def hY (x:GCell):Bool:=bif (bif !jW x.head then true else !US x.value) then true else (bif !B4 x.head then x.value != 0 else false)
def dF (xs:List GCell):Bool:=bif ((xs.length:Int) == 6) then !xs.any hY else false
theorem vG (xs:List GCell):Ans Tryz.prog 164 [] [vL 2 cX aCo xs] [] (vB (dF xs)):=by
 refine aE Tryz.func164 fun B0 r_ D_ w0=>?_
 refine aF ?_
 refine fO rfl (fun e=>?_) (fun e=>?_)
 ·refine aF ?_
  exact b9 TT_ok [(2,none)] rfl rfl ((by rw [dF,beq_eq_false_iff_ne.2 e];rfl))
 refine aF ?_
 refine aK (ι:=Nat) (fun i=>[(3,vI i)]) (fun _=>[]) (fun i=>i≤xs.length∧∀ j,j<i→hY (xs.getD j aCo)=false) (fun i=>xs.length - i) 0 [] [] ⟨Nat.zero_le _,fun j hj=>absurd hj (Nat.not_lt_zero _)⟩ ?_
 intro i ⟨h1,h2⟩
 refine aF ?_
 refine aI (fun e2=>?_) (fun e2=>?_)
 ·have hi:i<xs.length:=by omega
  refine aF ?_
  refine aH (rW _) ?_
  refine aH (rC _) ?_
  refine aH (AL _) ?_
  refine aA (fun e1=>?_) (fun e1=>?_)
  ·refine aF ?_
   exact b9 TT_ok [(2,none)] rfl rfl ((by rw [dF,uL hi (p:=hY) e1];simp))
  ·refine aF ?_
   exact aL (i+1) ⟨hi,b5 h2 e1⟩ (by omega)
 ·refine aF ?_
  exact b9 TT_ok [(2,none)] rfl rfl ((by rw [dF,beq_iff_eq.2 e,j0 fun j hj=>h2 j (by omega)];rfl))
theorem P4 (x:GCell):(bif bif !inB x.head 0 4000003 then true else !inB x.value (-1000000000) 1000000000 then true else bif rE x.head 2 == 0 then x.value != 0 else false)=hY x:=by
 unfold hY
 cases c:jW x.head with
 | false=>rw [show inB x.head 0 4000003=false from c];rfl
 | true=>rw [used2 c,show inB x.head 0 4000003=true from c];rfl
theorem RK (x:GCell):Ans Tryz.prog 260 [] [vR (cX x)] [] (vB (hY x)):=by
 refine aE Tryz.func260 fun B0 r_ D_ w0=>?_
 refine aF ?_
 refine aH (NC _) ?_
 refine aH (u9 _) ?_
 exact aG [(2,none)] (P4 x)
theorem JW (xs:List GCell) (hl:xs.length≤1048576):Ans Tryz.prog 210 [] [vL 2 cX aCo xs] [] (vB (dF xs)):=by
 refine aE Tryz.func210 fun B0 r_ D_ w0=>?_
 refine aF ?_
 refine lZ TT_ok (wR xs hl hY) rfl rfl (SVs.cons (aCs _) (SVs.cons (iO (aB) rfl fun args x ⟨n,e1,e2⟩=>by subst e1;subst e2;exact RK n) rfl)) rfl rfl ?_
 exact aG [(2,none)] (rfl)
def tE (xs:List GSet) (i:Nat):Bool:=bif !eO (xs.getD i aCm) then true else bif decide ((i:Int) > 0) then (bif decide ((xs.getD i aCm).slot≤(xs.getD ((i:Int) - 1).toNat aCm).slot) then true else (xs.getD i aCm).region != (xs.getD 0 aCm).region) else false
def n8 (xs:List GSet):Bool := !t9 xs.length (tE xs)
theorem CU (xs:List GSet) (hl:xs.length≤1048576):Ans Tryz.prog 230 [] [vL 5 cP aCm xs] [] (vB (n8 xs)):=by
 refine aE Tryz.func230 fun B0 r_ D_ w0=>?_
 refine aF ?_
 refine aK (ι:=Nat) (fun i=>[(3,vI i)]) (fun _=>[]) (fun i=>i≤xs.length∧∀ j,j<i→tE xs j=false) (fun i=>xs.length - i) 0 [] [] ⟨Nat.zero_le _,fun j hj=>absurd hj (Nat.not_lt_zero _)⟩ ?_
 intro i ⟨h1,h2⟩
 refine aF ?_
 refine aI (fun e2=>?_) (fun e2=>?_)
 ·have hi:i<xs.length:=by omega
  refine aF ?_
  refine aO [] fun B0 H0=>?_
  refine jB TT_ok (yC _) rfl rfl rfl rfl rfl rfl ?_
  refine aP ?_
  refine aA (fun e1=>?_) (fun e1=>?_)
  ·refine aF ?_
   exact b9 TT_ok [(2,none)] rfl rfl ((by rw [n8,x5 hi e1];rfl))
  ·refine aF ?_
   exact aL (i+1) ⟨hi,b5 h2 e1⟩ (by omega)
 ·refine aF ?_
  exact b9 TT_ok [(2,none)] rfl rfl ((by rw [n8,oJ fun j hj=>h2 j (by omega)];rfl))
theorem yS (xs:List GSet) (i:Nat):(bif (bif !eO (xs.getD i aCm) then true else (xs.getD i aCm).region != (xs.getD 0 aCm).region) then true else bif decide ((i:Int) > 0) then decide ((xs.getD ((i:Int) - 1).toNat aCm).slot ≥ (xs.getD i aCm).slot) else false)=tE xs i:=by
 unfold tE
 cases eO (xs.getD i aCm) with
 | false=>rfl
 | true =>
  rcases Nat.eq_zero_or_pos i with h | h
  ·subst h;simp
  ·rw [decide_eq_true (by omega:(i:Int) > 0)]
   simp only [Bool.not_true,Bool.cond_false,Bool.cond_true]
   cases (xs.getD i aCm).region != (xs.getD 0 aCm).region <;>cases c:decide ((xs.getD i aCm).slot≤(xs.getD ((i:Int) - 1).toNat aCm).slot) <;>simp at c ⊢ <;>omega
theorem LC (xs:List GSet) (hl:xs.length≤1048576):Ans Tryz.prog 258 [] [vL 5 cP aCm xs] [] (vB (n8 xs)):=by
 refine aE Tryz.func258 fun B0 r_ D_ w0=>?_
 refine aF ?_
 refine aK (ι:=Nat) (fun i=>[(7,vI i)]) (fun _=>[]) (fun i=>i≤xs.length∧∀ j,j<i→tE xs j=false) (fun i=>xs.length - i) 0 [] [] ⟨Nat.zero_le _,fun j hj=>absurd hj (Nat.not_lt_zero _)⟩ ?_
 intro i ⟨h1,h2⟩
 refine aF ?_
 refine aI (fun e2=>?_) (fun e2=>?_)
 ·have hi:i<xs.length:=by omega
  refine aF ?_
  refine aO [] fun B0 H0=>?_
  refine jB TT_ok (C7 _) rfl rfl rfl rfl rfl rfl ?_
  refine aP ?_
  refine aA (fun e1=>?_) (fun e1=>?_)
  ·refine aF ?_
   exact b9 TT_ok [(2,none)] rfl rfl ((by rw [n8,x5 hi ((yS xs i).symm.trans e1)];rfl))
  ·refine aF ?_
   exact aL (i+1) ⟨hi,b5 h2 ((yS xs i).symm.trans e1)⟩ (by omega)
 ·refine aF ?_
  exact b9 TT_ok [(2,none)] rfl rfl ((by rw [n8,oJ fun j hj=>h2 j (by omega)];rfl))
theorem WQ {xs:List GSet} (h:n8 xs=true) {i:Nat} (hi:i<xs.length):eO (xs.getD i aCm)=true∧(xs.getD i aCm).region=(xs.getD 0 aCm).region:=by
 have h1:=uR (n:=xs.length) (p:=tE xs) (by simpa [n8] using h) i hi
 rw [← yS] at h1
 cases c:eO (xs.getD i aCm) with
 | false=>rw [c] at h1;cases h1
 | true =>
  rw [c] at h1
  refine ⟨rfl,?_⟩
  cases c2:(xs.getD i aCm).region != (xs.getD 0 aCm).region with
  | false=>simpa using c2
  | true=>rw [c2] at h1;cases h1
def nZ (r:GRecord):Bool:=bif (bif (bif (bif (bif (bif inB r.kind 1 3 then inB r.tx 1 1000000 else false) then inB r.region 0 5 else false) then decide ((r.sets.length:Int) ≥ 1) else false) then decide ((r.sets.length:Int)≤12) else false) then n8 r.sets else false) then (r.sets.getD 0 aCm).region == r.region else false
theorem zT (r:GRecord) (hl:r.sets.length≤1048576):Ans Tryz.prog 165 [] [vR (cK r)] [] (vB (nZ r)):=by
 refine aE Tryz.func165 fun B0 r_ D_ w0=>?_
 refine aF ?_
 refine aO [] fun B0 H0=>?_
 refine jB TT_ok (eA _ _ _) rfl rfl rfl rfl rfl rfl ?_
 refine jB TT_ok (pH _) rfl rfl rfl rfl rfl rfl ?_
 refine jB TT_ok (pM _) rfl rfl rfl rfl rfl rfl ?_
 refine jB TT_ok (CU _ hl) rfl rfl rfl rfl rfl rfl ?_
 refine aP ?_
 exact aG [(2,none)] (rfl)
theorem YM (r:GRecord):(bif (bif (bif (bif (bif inB r.kind 1 3 then inB r.tx 1 1000000 else false) then inB r.region 0 5 else false) then inB r.sets.length 1 12 else false) then n8 r.sets else false) then !(r.sets.any fun s=>s.region != r.region) else false)=nZ r:=by
 unfold nZ
 cases (bif (bif inB r.kind 1 3 then inB r.tx 1 1000000 else false) then inB r.region 0 5 else false) with
 | false=>rfl
 | true =>
  simp only [Bool.cond_true]
  unfold inB
  cases c1:decide ((r.sets.length:Int) ≥ 1) with
  | false=>rfl
  | true =>
   simp only [Bool.cond_true]
   cases c2:decide ((r.sets.length:Int)≤12) with
   | false=>rfl
   | true =>
    simp only [Bool.cond_true]
    cases c3:n8 r.sets with
    | false=>rfl
    | true =>
     simp only [Bool.cond_true]
     have hp:0<r.sets.length:=by simp at c1;omega
     cases c4:(r.sets.getD 0 aCm).region == r.region with
     | true =>
      have e:=beq_iff_eq.1 c4
      rw [j0 (z:=aCm) fun j hj=>?_]; · rfl
      have:=(WQ c3 hj).2
      simp only [bne_eq_false_iff_eq];rw [this,e]
     | false =>
      have e:=beq_eq_false_iff_ne.1 c4
      rw [uL (z:=aCm) hp (by simpa using e)];rfl
theorem R8 (s:GSet) (rc:GRecord):Ans Tryz.prog 259 [] [vR (cP s),vP (cK rc)] [] (vB (s.region != rc.region)):=by
 refine aE Tryz.func259 fun B0 r_ D_ w0=>?_
 refine aF ?_
 exact aG [(3,none)] (rfl)
theorem JN (rc:GRecord) (hl:rc.sets.length≤1048576):Ans Tryz.prog 208 [] [vR (cK rc)] [] (vB (nZ rc)):=by
 refine aE Tryz.func208 fun B0 r_ D_ w0=>?_
 refine aF ?_
 refine aH (dC _ _ _) ?_
 refine aH (rQ _) ?_
 refine aH (pX _) ?_
 refine aH (WP _) ?_
 refine aH (dC _ _ _) ?_
 refine aH (LC _ hl) ?_
 refine lZ TT_ok (xC rc.sets hl fun s=>s.region != rc.region) rfl rfl (SVs.cons (aCs _) (SVs.cons (iO (aB) rfl fun args x ⟨n,e1,e2⟩=>by subst e1;subst e2;exact R8 n rc) rfl)) rfl rfl ?_
 exact aG [(2,none)] (YM rc)
def zO (xs:List Int) (i:Nat):Bool:=bif !inB (xs.getD i 0) 1 1000000 then true else bif decide ((i:Int) > 0) then decide (xs.getD i 0≤xs.getD ((i:Int) - 1).toNat 0) else false
def p9 (xs:List Int):Bool := !t9 xs.length (zO xs)
theorem K9 (xs:List Int) (hl:xs.length≤1048576):Ans Tryz.prog 162 [] [vL 1 bS 0 xs] [] (vB (p9 xs)):=by
 refine aE Tryz.func162 fun B0 r_ D_ w0=>?_
 refine aF ?_
 refine aK (ι:=Nat) (fun i=>[(3,vI i)]) (fun _=>[]) (fun i=>i≤xs.length∧∀ j,j<i→zO xs j=false) (fun i=>xs.length - i) 0 [] [] ⟨Nat.zero_le _,fun j hj=>absurd hj (Nat.not_lt_zero _)⟩ ?_
 intro i ⟨h1,h2⟩
 refine aF ?_
 refine aI (fun e2=>?_) (fun e2=>?_)
 ·have hi:i<xs.length:=by omega
  refine aF ?_
  refine aO [] fun B0 H0=>?_
  refine jB TT_ok (pH _) rfl rfl rfl rfl rfl rfl ?_
  refine aP ?_
  refine aA (fun e1=>?_) (fun e1=>?_)
  ·refine aF ?_
   exact b9 TT_ok [(2,none)] rfl rfl ((by rw [p9,x5 (p:=zO xs) hi e1];rfl))
  ·refine aF ?_
   exact aL (i+1) ⟨hi,b5 h2 e1⟩ (by omega)
 ·refine aF ?_
  exact b9 TT_ok [(2,none)] rfl rfl ((by rw [p9,oJ fun j hj=>h2 j (by omega)];rfl))
def sT (xs:List GCopy) (i:Nat):Bool:=bif (bif !inB (xs.getD i aCp).region 0 5 then true else !dF (xs.getD i aCp).cells) then true else bif decide ((i:Int) > 0) then decide ((xs.getD i aCp).region≤(xs.getD ((i:Int) - 1).toNat aCp).region) else false
def dO (m:GMachine):Prop:=(m.copies.length≤6∧m.log.length≤200∧m.cleared.length≤60)∧p9 m.cleared=true∧(∀ j,j<m.copies.length→sT m.copies j=false)∧∀ j,j<m.log.length→nZ (m.log.getD j aCq)=true
theorem GU (m:GMachine) (hb:D.bds dJ (bJ m)):Ans Tryz.prog 97 [] [vR (bJ m)] [] (vB (dec (dO m))):=by
 have b1:m.copies.length≤1048576:=hb.2.1.1
 have b2:m.log.length≤1048576:=hb.2.2.1.1
 have b3:m.cleared.length≤1048576:=hb.2.2.2.1.1
 refine aE Tryz.func97 fun B0 r_ D_ w0=>?_
 refine aF ?_
 refine aH (K9 _ b3) ?_
 refine aA (fun e=>?_) (fun e=>?_)
 ·refine aF ?_
  exact b9 TT_ok [(2,none)] rfl rfl ((b7 fun h=>by have h1:=h.1;simp [h.2.1] at e;omega).symm)
 have hH:(m.copies.length≤6∧m.log.length≤200∧m.cleared.length≤60)∧p9 m.cleared=true:=by
  simp at e;exact ⟨by omega,e.2⟩
 clear e
 refine aF ?_
 refine aK (ι:=Nat) (fun i=>[(3,vI i)]) (fun _=>[]) (fun i=>i≤m.copies.length∧∀ j,j<i→sT m.copies j=false) (fun i=>m.copies.length - i) 0 [] [] ⟨Nat.zero_le _,fun j hj=>absurd hj (Nat.not_lt_zero _)⟩ ?_
 intro i ⟨h1,h2⟩
 refine aF ?_
 refine aI (fun e2=>?_) (fun e2=>?_)
 ·have hi:i<m.copies.length:=by omega
  refine aF ?_
  refine aO [] fun B0 H0=>?_
  refine jB TT_ok (pM _) rfl rfl rfl rfl rfl rfl ?_
  refine jB TT_ok (vG _) rfl rfl rfl rfl rfl rfl ?_
  refine aP ?_
  refine aA (fun e1=>?_) (fun e1=>?_)
  ·refine aF ?_
   exact b9 TT_ok [(2,none)] rfl rfl ((b7 fun h=>by have:=(h.2.2.1 i hi).symm.trans e1;cases this).symm)
  ·refine aF ?_
   exact aL (i+1) ⟨hi,b5 h2 e1⟩ (by omega)
 have hi:i=m.copies.length:=by omega
 subst hi
 refine aF ?_
 refine aK (ι:=Nat) (fun i=>[(4,vI i)]) (fun _=>[]) (fun i=>i≤m.log.length∧∀ j,j<i→nZ (m.log.getD j aCq)=true) (fun i=>m.log.length - i) 0 [] [] ⟨Nat.zero_le _,fun j hj=>absurd hj (Nat.not_lt_zero _)⟩ ?_
 intro i ⟨h3,h4⟩
 refine aF ?_
 refine aI (fun e3=>?_) (fun e3=>?_)
 ·have hi:i<m.log.length:=by omega
  refine aF ?_
  refine aH (zT _ (hb.2.2.1.2 i hi).2.2.2.1.1) ?_
  refine eF rfl (fun e1=>?_) (fun e1=>?_)
  ·refine aF ?_
   exact b9 TT_ok [(2,none)] rfl rfl ((b7 fun h=>by have:=(h.2.2.2 i hi).symm.trans e1;cases this).symm)
  ·refine aF ?_
   exact aL (i+1) ⟨hi,b5 h4 e1⟩ (by omega)
 ·refine aF ?_
  exact b9 TT_ok [(2,none)] rfl rfl ((cN ⟨hH.1,hH.2,h2,fun j hj=>h4 j (by omega)⟩).symm)
theorem LB (r:GRecord) (hl:r.sets.length≤1048576):Ans Tryz.prog 207 [] [vR (cK r)] [] (vB (!nZ r)):=by
 refine aE Tryz.func207 fun B0 r_ D_ w0=>?_
 refine aF ?_
 refine aH (JN _ hl) ?_
 exact aG [(2,none)] (rfl)
theorem EC (m:GMachine) (hb:D.bds dJ (bJ m)):Ans Tryz.prog 134 [] [vR (bJ m)] [] (vB (dec (dO m))):=by
 have b1:m.copies.length≤1048576:=hb.2.1.1
 have b2:m.log.length≤1048576:=hb.2.2.1.1
 have b3:m.cleared.length≤1048576:=hb.2.2.2.1.1
 refine aE Tryz.func134 fun B0 r_ D_ w0=>?_
 refine aF ?_
 refine lZ TT_ok (CO m.log b2 (fun r=>r.sets.length≤1048576) (fun i hi=>(hb.2.2.1.2 i hi).2.2.2.1.1) fun r => !nZ r) rfl rfl (SVs.cons (aCs _) (SVs.cons (iO (aB) rfl fun args x ⟨n,hn,e1,e2⟩=>by subst e1;subst e2;exact LB n hn) rfl)) rfl rfl ?_
 refine aA (fun e=>?_) (fun e=>?_)
 ·refine aF ?_
  exact b9 TT_ok [(2,none)] rfl rfl ((b7 fun h=>by have h1:=h.1;rw [j0 (z:=aCq) fun j hj=>by rw [h.2.2.2 j hj];rfl] at e;simp at e;omega).symm)
 have hH:(m.copies.length≤6∧m.log.length≤200∧m.cleared.length≤60)∧(m.log.any fun r => !nZ r)=false:=by
  cases c:m.log.any fun r => !nZ r with
  | true=>rw [c] at e;simp at e
  | false=>rw [c] at e;simp at e;exact ⟨by omega,rfl⟩
 have hR:∀ j,j<m.log.length→nZ (m.log.getD j aCq)=true:=fun j hj=>by simpa using sY (z:=aCq) hH.2 j hj
 clear e
 refine aF ?_
 refine aK (ι:=Nat) (fun i=>[(31,vI i)]) (fun _=>[]) (fun i=>i≤m.copies.length∧∀ j,j<i→sT m.copies j=false) (fun i=>m.copies.length - i) 0 [] [] ⟨Nat.zero_le _,fun j hj=>absurd hj (Nat.not_lt_zero _)⟩ ?_
 intro i ⟨h1,h2⟩
 refine aF ?_
 refine aI (fun e2=>?_) (fun e2=>?_)
 ·have hi:i<m.copies.length:=by omega
  refine aF ?_
  refine aO [] fun B0 H0=>?_
  refine jB TT_ok (pX _) rfl rfl rfl rfl rfl rfl ?_
  refine jB TT_ok (JW _ (hb.2.1.2 i hi).2.1.1) rfl rfl rfl rfl rfl rfl ?_
  refine aP ?_
  refine aA (fun e1=>?_) (fun e1=>?_)
  ·refine aF ?_
   exact b9 TT_ok [(2,none)] rfl rfl ((b7 fun h=>by have:=(h.2.2.1 i hi).symm.trans e1;cases this).symm)
  ·refine aF ?_
   exact aL (i+1) ⟨hi,b5 h2 e1⟩ (by omega)
 have hi:i=m.copies.length:=by omega
 subst hi
 refine aF ?_
 refine aK (ι:=Nat) (fun i=>[(66,vI i)]) (fun _=>[]) (fun i=>i≤m.cleared.length∧∀ j,j<i→zO m.cleared j=false) (fun i=>m.cleared.length - i) 0 [] [] ⟨Nat.zero_le _,fun j hj=>absurd hj (Nat.not_lt_zero _)⟩ ?_
 intro i ⟨h3,h4⟩
 refine aF ?_
 refine aI (fun e3=>?_) (fun e3=>?_)
 ·have hi:i<m.cleared.length:=by omega
  refine aF ?_
  refine aH (rQ _) ?_
  refine aA (fun e1=>?_) (fun e1=>?_)
  ·refine aF ?_
   exact b9 TT_ok [(2,none)] rfl rfl ((b7 fun h=>by have h1:=h.2.1;rw [p9,x5 (p:=zO m.cleared) hi e1] at h1;cases h1).symm)
  ·refine aF ?_
   exact aL (i+1) ⟨hi,b5 h4 e1⟩ (by omega)
 ·refine aF ?_
  exact b9 TT_ok [(2,none)] rfl rfl ((cN ⟨hH.1,by rw [p9,oJ fun j hj=>h4 j (by omega)];rfl,h2,hR⟩).symm)
def xT (l:List Int) (k:Nat):Bool:=bif !inB (l.getD k 0) 0 7 then true else decide (l.getD k 0 ∈ l.take k)
def QL (p:GPlace):Prop:=(1≤p.machines.length∧p.machines.length≤3)∧∀ k,k<p.machines.length→xT p.machines k=false
def PlOk (ps:List GPlace):Prop:=(1≤ps.length∧ps.length≤6)∧∀ r,r<ps.length→QL (ps.getD r aCi)
theorem O0 {P:Program} {α:Type} {sz k:Nat} {enc:α→List D} {z:α} {xs:List α} (hk:k≤xs.length):(SV.a (.s .r sz k fun i=>enc (xs.getD i z))).imp P (vL sz enc z (xs.take k)):=by
 have h:(SV.a (.s .r sz k fun i=>enc (xs.getD i z))).imp P (.a (.s .r sz k fun i=>enc ((xs.take k).getD i z))):=SV.imp_s fun i hi=>by rw [m5 (by rw [List.length_take];omega)]
 have e:(xs.take k).length=k:=by rw [List.length_take];omega
 show SV.imp P _ (.a (.s .r sz (xs.take k).length _))
 rw [e];exact h
theorem U6 (l:List Int) (k:Nat) (hk:k≤l.length) (hl:l.length≤1048576) (n:Int):Ans Tryz.prog 85 [] [.a (.s .r 1 k fun i=>bS (l.getD i 0)),vI n] [] (vB (decide (n ∈ l.take k))) :=
 (mW (l.take k) (by rw [List.length_take];omega) n).wkA ⟨_,_,rfl,O0 hk,aCu _⟩
theorem NL (l:List Int) (k:Nat) (hk:k≤l.length) (hl:l.length≤1048576) (n:Int):Ans Tryz.prog 148 [] [.a (.s .r 1 k fun i=>bS (l.getD i 0)),vI n] [] (vB (decide (n ∈ l.take k))) :=
 (j8 (l.take k) (by rw [List.length_take];omega) n).wkA ⟨_,_,rfl,O0 hk,aCu _⟩
theorem zZ (ps:List GPlace):Ans Tryz.prog 96 [] [vL 1 cE aCi ps] [] (vB (dec (PlOk ps))):=by
 refine aE Tryz.func96 fun B0 r_ D_ w0=>?_
 refine aF ?_
 refine aA (fun e=>?_) (fun e=>?_)
 ·refine aF ?_
  exact b9 TT_ok [(2,none)] rfl rfl ((b7 fun h=>by have:=h.1;simp at e;omega).symm)
 have hH:1≤ps.length∧ps.length≤6:=by simp at e;omega
 clear e
 refine aF ?_
 refine aK (ι:=Nat) (fun i=>[(3,vI i)]) (fun _=>[]) (fun i=>i≤ps.length∧∀ j,j<i→QL (ps.getD j aCi)) (fun i=>ps.length - i) 0 [] [] ⟨Nat.zero_le _,fun j hj=>absurd hj (Nat.not_lt_zero _)⟩ ?_
 intro i ⟨h1,h2⟩
 refine aF ?_
 refine aI (fun e2=>?_) (fun e2=>?_)
 ·have hi:i<ps.length:=by omega
  refine aF ?_
  refine aA (fun e=>?_) (fun e=>?_)
  ·refine aF ?_
   exact b9 TT_ok [(2,none)] rfl rfl ((b7 fun h=>by have:=(h.2 i hi).1;simp at e this;omega).symm)
  have hp:1≤(ps.getD i aCi).machines.length∧(ps.getD i aCi).machines.length≤3:=by simp at e ⊢;omega
  clear e
  refine aF ?_
  refine aK (ι:=Nat) (fun k=>[(5,vI k)]) (fun _=>[]) (fun k=>k≤(ps.getD i aCi).machines.length∧∀ j,j<k→xT (ps.getD i aCi).machines j=false) (fun k=>(ps.getD i aCi).machines.length - k) 0 [] [] ⟨Nat.zero_le _,fun j hj=>absurd hj (Nat.not_lt_zero _)⟩ ?_
  intro k ⟨h3,h4⟩
  refine aF ?_
  refine aI (fun e3=>?_) (fun e3=>?_)
  ·have hk:k<(ps.getD i aCi).machines.length:=by simp at e3 ⊢;omega
   refine aF ?_
   refine aO [] fun B0 H0=>?_
   refine jB TT_ok (sE _) rfl rfl rfl rfl rfl rfl ?_
   refine jB TT_ok (U6 (ps.getD i aCi).machines k h3 (by omega) _) rfl rfl rfl rfl rfl rfl ?_
   refine aP ?_
   refine aA (fun e1=>?_) (fun e1=>?_)
   ·refine aF ?_
    exact b9 TT_ok [(2,none)] rfl rfl ((b7 fun h=>by have:=((h.2 i hi).2 k hk).symm.trans e1;cases this).symm)
   ·refine aF ?_
    exact aL (k+1) ⟨hk,b5 h4 e1⟩ (by omega)
  ·refine aF ?_
   exact aL (i+1) ⟨hi,b5 h2 ⟨hp,fun j hj=>h4 j (by simp at e3 hj;omega)⟩⟩ (by omega)
 ·refine aF ?_
  exact b9 TT_ok [(2,none)] rfl rfl ((cN ⟨hH,fun j hj=>h2 j (by omega)⟩).symm)
theorem GL (ps:List GPlace) (hl:ps.length≤1048576) (hm:∀ i,i<ps.length→(ps.getD i aCi).machines.length≤1048576):Ans Tryz.prog 131 [] [vL 1 cE aCi ps] [] (vB (dec (PlOk ps))):=by
 refine aE Tryz.func131 fun B0 r_ D_ w0=>?_
 refine aF ?_
 refine aK (ι:=Nat) (fun i=>[(9,vI i)]) (fun _=>[]) (fun i=>i≤ps.length∧∀ j,j<i→QL (ps.getD j aCi)) (fun i=>ps.length - i) 0 [] [] ⟨Nat.zero_le _,fun j hj=>absurd hj (Nat.not_lt_zero _)⟩ ?_
 intro i ⟨h1,h2⟩
 refine aF ?_
 refine aI (fun e2=>?_) (fun e2=>?_)
 ·have hi:i<ps.length:=by omega
  have hml:=hm i hi
  refine aF ?_
  refine aH (RM _) ?_
  refine aH (dC _ _ _) ?_
  refine eF rfl (fun e=>?_) (fun e=>?_)
  ·refine aF ?_
   exact b9 TT_ok [(2,none)] rfl rfl ((b7 fun h=>by have:=(h.2 i hi).1;exact aAJ.1 e ⟨by simp at this ⊢;omega,by simp at this ⊢;omega⟩).symm)
  have hp:1≤(ps.getD i aCi).machines.length∧(ps.getD i aCi).machines.length≤3:=by have:=b6.1 e;simp at this ⊢;omega
  clear e
  refine aF ?_
  refine aK (ι:=Nat) (fun k=>[(21,vI k)]) (fun _=>[]) (fun k=>k≤(ps.getD i aCi).machines.length∧∀ j,j<k→xT (ps.getD i aCi).machines j=false) (fun k=>(ps.getD i aCi).machines.length - k) 0 [] [] ⟨Nat.zero_le _,fun j hj=>absurd hj (Nat.not_lt_zero _)⟩ ?_
  intro k ⟨h3,h4⟩
  refine aF ?_
  refine aI (fun e3=>?_) (fun e3=>?_)
  ·have hk:k<(ps.getD i aCi).machines.length:=by simp at e3 ⊢;omega
   refine aF ?_
   refine aH (yD _) ?_
   refine l4 TT_ok (NL (ps.getD i aCi).machines k h3 (by omega) _) rfl rfl rfl rfl rfl ?_
   refine aA (fun e1=>?_) (fun e1=>?_)
   ·refine aF ?_
    exact b9 TT_ok [(2,none)] rfl rfl ((b7 fun h=>by have:=((h.2 i hi).2 k hk).symm.trans e1;cases this).symm)
   ·refine aF ?_
    exact aL (k+1) ⟨hk,b5 h4 e1⟩ (by omega)
  ·refine aF ?_
   exact aL (i+1) ⟨hi,b5 h2 ⟨hp,fun j hj=>h4 j (by simp at e3 hj;omega)⟩⟩ (by omega)
 ·have hi:i=ps.length:=by omega
  subst hi
  refine aF ?_
  refine aH (AD _) ?_
  refine aH (dC _ _ _) ?_
  exact b9 TT_ok [(2,none)] rfl rfl ((by rw [Bool.eq_iff_iff,b6,c9];exact ⟨fun h=>⟨by omega,h2⟩,fun h=>by have:=h.1;omega⟩))
end
section
section
def qB {α:Type} (c:α→Int) (z:α) (xs:List α):Prop := ∀ a b,a≤b→b<xs.length→c (xs.getD b z)<0→c (xs.getD a z)<0
def jJ {α:Type} (c:α→Int) (z:α) (xs:List α) (i:Nat):Prop:=i≤xs.length∧(∀ a,a<i→c (xs.getD a z)<0)∧∀ a,i≤a→a<xs.length→¬ c (xs.getD a z)<0
end
section
theorem pD {r s q t:Int}:vS r s q t<0 ↔ r<q∨r=q∧s<t:=by
 rw [← mA, ← MW];simp
def qU (xs:List GSet):Prop := ∀ a b,a<b→b<xs.length→lessS (xs.getD a aCm) (xs.getD b aCm)
theorem m4 {xs:List GSet} (h:setsOk xs xs.length):qU xs:=fun a b hab hb=>by
 induction b with
 | zero=>omega
 | succ b ih =>
  have h1:=(h (b+1) hb).2 (by omega)
  rw [Nat.add_sub_cancel] at h1
  by_cases c:a=b
  ·subst c;exact h1
  ·have h2:=ih (by omega) (by omega)
   unfold lessS at h1 h2 ⊢
   omega
def jT (r s:Int) (x:GSet):Int:=vS x.region x.slot r s
theorem tU {xs:List GSet} (h:qU xs) (r s:Int):qB (jT r s) aCm xs:=fun a b hab hb hc=>by
 by_cases c:a=b
 ·subst c;exact hc
 ·have:=h a b (by omega) hb
  unfold jT at hc ⊢
  rw [pD] at hc ⊢
  unfold lessS at this
  omega
def dS (r s:Int) (x:GSet):Bool:=bif x.region == r then x.slot == s else false
theorem nB {r s:Int} {x:GSet}:dS r s x=true ↔ x.region=r∧x.slot=s:=by
 unfold dS
 by_cases h:x.region=r <;>simp [h]
theorem FL (t:GTx) (hl:t.sets.length≤1048576) (r0 s0:Int):Ans Tryz.prog 223 [] [vR (cTx t),vI r0,vI s0] [] (vI (cI (dS r0 s0) t.sets)):=by
 refine aE Tryz.func223 fun B0 r_ D_ w0=>?_
 refine aF ?_
 refine aK (ι:=Nat) (fun i=>[(7,vI i)]) (fun _=>[]) (fun i=>i≤t.sets.length∧∀ j,j<i→dS r0 s0 (t.sets.getD j aCm)=false) (fun i=>t.sets.length - i) 0 [] [] ⟨Nat.zero_le _,fun j hj=>absurd hj (Nat.not_lt_zero _)⟩ ?_
 intro i ⟨h1,h2⟩
 refine aF ?_
 refine aI (fun e=>?_) (fun e=>?_)
 ·have hi:i<t.sets.length:=by omega
  refine aF ?_
  refine aA (fun e2=>?_) (fun e2=>?_)
  ·refine aF ?_
   exact aJ [(6,none)] ((gA hi h2 e2).symm)
  ·refine aF ?_
   exact aL (i+1) ⟨hi,b5 h2 e2⟩ (by omega)
 ·refine aF ?_
  exact dK TT_ok [(6,none)] rfl rfl ((gT fun j hj=>h2 j (by omega)).symm)
def pU (t:GTx) (n:GNote):Bool:=decide (cI (dS n.region n.slot) t.sets<0)
theorem I4 (t:GTx) (h1:t.reads.length≤1048576) (h2:t.sets.length≤1048576):MkL Tryz.prog 159 [vR (cTx t)] 5 cT aCn (t.reads.filter (pU t)):=by
 refine aE Tryz.func159 fun B0 r_ D_ w0=>?_
 refine aF ?_
 refine aM 5 (fun i=>cT (([]:List GNote).getD i aCn)) (fun i hi=>absurd hi (Nat.not_lt_zero _)) (mu1:=[]) ?_
 refine aN ?_
 refine aK (ι:=Nat) (fun i=>[(4,vI i),(3, .a (.g 5))]) (fun i=>[(5,bE 5 cT aCn ((t.reads.take i).filter (pU t)))]) (fun i=>i≤t.reads.length) (fun i=>t.reads.length - i) 0 [5] [5] (Nat.zero_le _) ?_
 intro i h3
 refine aF ?_
 refine aI (fun e=>?_) (fun e=>?_)
 ·have hi:i<t.reads.length:=by omega
  have hle:=zP t.reads (pU t) i
  refine aF ?_
  refine aO [] fun B0 H0=>?_
  refine jB TT_ok (FL t h2 _ _) rfl rfl rfl rfl rfl rfl ?_
  refine aP ?_
  refine aI (fun e2=>?_) (fun e2=>?_)
  ·have e3:pU t (t.reads.getD i aCn)=true:=decide_eq_true e2
   refine aF ?_
   refine cV TT_ok 34 (fun _=>cT (t.reads.getD i aCn)) rfl rfl rfl rfl rfl rfl rfl (fun i hi=>by rcases i with _ | i <;>first | rfl | omega) (mu1:=[]) rfl rfl rfl ?_
   refine aN ?_
   refine cU TT_ok 5 34 35 rfl rfl rfl rfl rfl rfl rfl rfl rfl rfl rfl rfl ⟨by simp;omega,by unfold maxL;omega⟩ ?_
   refine aN ?_
   refine bC (bL 5 35) ?_
   exact bN (i+1) hi (by omega) wF ⟨⟨_,rfl,aS (jM hi e3)⟩,wM⟩
  ·have e3:pU t (t.reads.getD i aCn)=false:=decide_eq_false e2
   refine aF ?_
   exact bN (i+1) hi (by omega) wF ⟨⟨_,rfl,bP (j4 hi e3)⟩,wM⟩
 ·have hi:i=t.reads.length:=by omega
  subst hi
  refine aF ?_
  refine bB (bL 5 900) ?_
  refine aC (()) [(2,none)] ?_ ?_ ?_
  ·exact aCu _
  ·exact ⟨⟨_,rfl,bP (by rw [List.take_length])⟩,trivial⟩
  ·trivial
end
end
section
theorem UK {α:Type} {N sz:Nat} {enc:α→List D} {z:α} {xs:List α} (h:D.bd N (dL sz enc z xs)) (hz:D.bds N (enc z)) (i:Nat):D.bds N (enc (xs.getD i z)):=by
 by_cases c:i<xs.length
 ·exact h.2 i c
 ·rw [List.getD_eq_getElem?_getD,List.getElem?_eq_none (by omega)];exact hz
def atB (r:Int) (x:GCopy):Bool:=x.region == r
def dX (m:GMachine) (r:Int):Bool:=m.copies.any (atB r)
theorem aBZ {α:Type} (p:α→Bool) (z:α) (xs:List α):decide (cI p xs<0) = !xs.any p:=by
 rcases gH p z xs with ⟨h1,h2⟩ | ⟨i,h1,h2,h3,h4⟩
 ·rw [j0 h2,h1];rfl
 ·rw [uL h1 h4,h2];simp
theorem wT (m:GMachine) (hl:m.copies.length≤1048576) (r0:Int):Ans Tryz.prog 98 [] [vR (bJ m),vI r0] [] (vI (cI (atB r0) m.copies)):=by
 refine aE Tryz.func98 fun B0 r_ D_ w0=>?_
 refine aF ?_
 refine aK (ι:=Nat) (fun i=>[(5,vI i)]) (fun _=>[]) (fun i=>i≤m.copies.length∧∀ j,j<i→atB r0 (m.copies.getD j aCp)=false) (fun i=>m.copies.length - i) 0 [] [] ⟨Nat.zero_le _,fun j hj=>absurd hj (Nat.not_lt_zero _)⟩ ?_
 intro i ⟨h1,h2⟩
 refine aF ?_
 refine aI (fun e=>?_) (fun e=>?_)
 ·have hi:i<m.copies.length:=by omega
  refine aF ?_
  refine aA (fun e2=>?_) (fun e2=>?_)
  ·refine aF ?_
   exact aJ [(4,none)] ((gA (p:=atB r0) hi h2 e2).symm)
  ·refine aF ?_
   exact aL (i+1) ⟨hi,b5 h2 e2⟩ (by omega)
 ·refine aF ?_
  exact dK TT_ok [(4,none)] rfl rfl ((gT fun j hj=>h2 j (by omega)).symm)
theorem DO (m:GMachine) (hl:m.copies.length≤1048576) (r0:Int) (hn:dX m r0=false):Ans Tryz.prog 107 [] [vP (bJ m),vI r0] [] (.a (.v (.slice none 0 0))):=by
 refine aE Tryz.func107 fun B0 r_ D_ w0=>?_
 refine aF ?_
 refine aK (ι:=Nat) (fun i=>[(12,vI i)]) (fun _=>[]) (fun i=>i≤m.copies.length) (fun i=>m.copies.length - i) 0 [] [] (Nat.zero_le _) ?_
 intro i h1
 refine aF ?_
 refine aI (fun e=>?_) (fun e=>?_)
 ·have hi:i<m.copies.length:=by omega
  refine aF ?_
  refine aA (fun e2=>?_) (fun e2=>?_)
  ·have:=(sY (z:=aCp) hn i hi).symm.trans e2
   cases this
  ·refine aF ?_
   exact aL (i+1) hi (by omega)
 ·refine aF ?_
  exact BV TT_ok [(4,none)] rfl rfl (rfl)
theorem DG (m:GMachine) (hl:m.copies.length≤1048576) (r0:Int) (i0:Nat) (hi0:i0<m.copies.length) (hb:∀ j,j<i0→atB r0 (m.copies.getD j aCp)=false) (ha:atB r0 (m.copies.getD i0 aCp)=true):Ans Tryz.prog 107 [] [vP (bJ m),vI r0] [] (vL 2 cX aCo (m.copies.getD i0 aCp).cells):=by
 refine aE Tryz.func107 fun B0 r_ D_ w0=>?_
 refine aF ?_
 refine aK (ι:=Nat) (fun i=>[(12,vI i)]) (fun _=>[]) (fun i=>i≤i0) (fun i=>i0 - i) 0 [] [] (Nat.zero_le _) ?_
 intro i h1
 have hi:i<m.copies.length:=by omega
 refine aF ?_
 refine mC rfl (fun e=>?_) (fun e=>absurd (by omega:(i:Int)<m.copies.length) e)
 refine aF ?_
 refine aA (fun e2=>?_) (fun e2=>?_)
 ·have hii:i=i0:=by
   rcases Nat.lt_or_ge i i0 with h | h
   ·have:=(hb i h).symm.trans e2;cases this
   ·omega
  subst hii
  refine aF ?_
  exact BV TT_ok [(4,none)] rfl rfl (rfl)
 ·have hlt:i<i0:=by
   rcases Nat.lt_or_ge i i0 with h | h
   ·exact h
   ·have:i=i0:=by omega
    subst this
    have:=ha.symm.trans e2;cases this
  refine aF ?_
  exact aL (i+1) hlt (by omega)
theorem HJ {m:GMachine} {r0:Int} (h:dX m r0=true):∃ i,i<m.copies.length∧(∀ j,j<i→atB r0 (m.copies.getD j aCp)=false)∧atB r0 (m.copies.getD i aCp)=true:=by
 rcases gH (atB r0) aCp m.copies with ⟨h1,h2⟩ | ⟨i,h1,h2,h3,h4⟩
 ·rw [dX,j0 h2] at h;cases h
 ·exact ⟨i,h1,h3,h4⟩
abbrev mAt (c:GCluster) (r k:Nat):Int:=(c.places.getD r aCi).machines.getD k 0
def o8 (c:GCluster) (r k:Nat):Bool:=bif decide (mAt c r k ≥ (c.machines.length:Int)) then true else bif (c.machines.getD (mAt c r k).toNat aCj).alive then !dX (c.machines.getD (mAt c r k).toNat aCj) r else false
noncomputable def l0 (c:GCluster) (i:Nat):Bool:=bif (bif (bif !dec (eN (c.txs.getD i aCk)) then true else bif decide ((i:Int) > 0) then decide ((c.txs.getD i aCk).id≤(c.txs.getD ((i:Int) - 1).toNat aCk).id) else false) then true else decide ((c.txs.getD i aCk).home ≥ (c.machines.length:Int))) then true else decide ((c.txs.getD i aCk).stamp > c.clock)
def ClusOk (c:GCluster):Prop:=((1≤c.config∧c.config≤1000000)∧(0≤c.clock∧c.clock≤1000000)∧(1≤c.machines.length∧c.machines.length≤8)∧c.txs.length≤60)∧PlOk c.places∧(∀ i,i<c.machines.length→dO (c.machines.getD i aCj)) ∧
 (∀ r,r<c.places.length→∀ k,k<(c.places.getD r aCi).machines.length→o8 c r k=false)∧∀ i,i<c.txs.length→l0 c i=false∧(∀ k,k<(c.txs.getD i aCk).reads.length→((c.txs.getD i aCk).reads.getD k aCn).region<c.places.length)∧∀ k,k<(c.txs.getD i aCk).sets.length→((c.txs.getD i aCk).sets.getD k aCm).region<c.places.length
theorem DQ {p:GPlace} (h:QL p) {k:Nat} (hk:k<p.machines.length):0≤p.machines.getD k 0∧p.machines.getD k 0≤7:=by
 have h1:=h.2 k hk
 unfold xT at h1
 cases c:inB (p.machines.getD k 0) 0 7 with
 | false=>rw [c] at h1;cases h1
 | true=>exact b6.1 c
theorem d5 (c:GCluster) (hb:D.bds dJ (bO c)):Ans Tryz.prog 35 [] [vR (bO c)] [] (vB (dec (ClusOk c))):=by
 have b1:c.places.length≤1048576:=hb.2.2.1.1
 have b2:c.machines.length≤1048576:=hb.2.2.2.1.1
 have b3:c.txs.length≤1048576:=hb.2.2.2.2.1.1
 refine aE Tryz.func35 fun B0 r_ D_ w0=>?_
 refine aF ?_
 refine aH (pH _) ?_
 refine aH (eA _ _ _) ?_
 refine aH (zZ _) ?_
 refine aA (fun e=>?_) (fun e=>?_)
 ·refine aF ?_
  exact b9 TT_ok [(2,none)] rfl rfl ((b7 fun h=>by have h1:=h.1;simp [cN h.2.1,b6.2 h1.1,b6.2 h1.2.1] at e;omega).symm)
 have hH:((1≤c.config∧c.config≤1000000)∧(0≤c.clock∧c.clock≤1000000)∧(1≤c.machines.length∧c.machines.length≤8)∧c.txs.length≤60)∧PlOk c.places:=by
  simp only [Bool.cond_true_left,Bool.or_eq_false_iff,Bool.not_eq_false',b6,decide_eq_false_iff_not,c9] at e
  exact ⟨by omega,e.1.2⟩
 clear e
 refine aF ?_
 refine aK (ι:=Nat) (fun i=>[(4,vI i)]) (fun _=>[]) (fun i=>i≤c.machines.length∧∀ j,j<i→dO (c.machines.getD j aCj)) (fun i=>c.machines.length - i) 0 [] [] ⟨Nat.zero_le _,fun j hj=>absurd hj (Nat.not_lt_zero _)⟩ ?_
 intro i ⟨h1,h2⟩
 refine aF ?_
 refine aI (fun e=>?_) (fun e=>?_)
 ·have hi:i<c.machines.length:=by omega
  refine aF ?_
  refine aH (GU _ (hb.2.2.2.1.2 i hi)) ?_
  refine eF rfl (fun e1=>?_) (fun e1=>?_)
  ·refine aF ?_
   exact aG [(2,none)] ((b7 fun h=>jN.1 e1 (h.2.2.1 i hi)).symm)
  ·refine aF ?_
   exact aL (i+1) ⟨hi,b5 h2 (c9.1 e1)⟩ (by omega)
 have hi:i=c.machines.length:=by omega
 subst hi
 clear e h1
 refine aF ?_
 refine aK (ι:=Nat) (fun i=>[(5,vI i)]) (fun _=>[]) (fun i=>i≤c.places.length∧∀ r,r<i→∀ k,k<(c.places.getD r aCi).machines.length→o8 c r k=false) (fun i=>c.places.length - i) 0 [] [] ⟨Nat.zero_le _,fun j hj=>absurd hj (Nat.not_lt_zero _)⟩ ?_
 intro i ⟨h1,h3⟩
 refine aF ?_
 refine aI (fun e=>?_) (fun e=>?_)
 ·have hi:i<c.places.length:=by omega
  have hp:=hH.2.2 i hi
  have hpl:=hp.1
  refine aF ?_
  refine aK (ι:=Nat) (fun k=>[(7,vI k)]) (fun _=>[]) (fun k=>k≤(c.places.getD i aCi).machines.length∧∀ j,j<k→o8 c i j=false) (fun k=>(c.places.getD i aCi).machines.length - k) 0 [] [] ⟨Nat.zero_le _,fun j hj=>absurd hj (Nat.not_lt_zero _)⟩ ?_
  intro k ⟨g1,g2⟩
  refine aF ?_
  refine aI (fun e1=>?_) (fun e1=>?_)
  ·have hk:k<(c.places.getD i aCi).machines.length:=by simp at e1 ⊢;omega
   have hn:=DQ hp hk
   refine aF ?_
   refine aO [] fun B0 H0=>?_
   refine jB TT_ok (wT _ (UK hb.2.2.2.1 ⟨trivial,⟨Nat.zero_le _,fun i hi=>absurd hi (Nat.not_lt_zero _)⟩,⟨Nat.zero_le _,fun i hi=>absurd hi (Nat.not_lt_zero _)⟩,⟨Nat.zero_le _,fun i hi=>absurd hi (Nat.not_lt_zero _)⟩,trivial⟩ _).2.1.1 _) rfl rfl rfl rfl rfl rfl ?_
   refine aP ?_
   rw [aBZ _ aCp]
   refine aA (fun e2=>?_) (fun e2=>?_)
   ·refine aF ?_
    exact b9 TT_ok [(2,none)] rfl rfl ((b7 fun h=>by have:=(h.2.2.2.1 i hi k hk).symm.trans e2;cases this).symm)
   ·refine aF ?_
    exact aL (k+1) ⟨hk,b5 g2 e2⟩ (by omega)
  ·refine aF ?_
   exact aL (i+1) ⟨hi,b5 h3 fun k hk=>g2 k (by simp at e1 hk;omega)⟩ (by omega)
 have hi:i=c.places.length:=by omega
 subst hi
 clear e h1
 refine aF ?_
 refine aK (ι:=Nat) (fun i=>[(8,vI i)]) (fun _=>[]) (fun i=>i≤c.txs.length∧∀ j,j<i→l0 c j=false∧(∀ k,k<(c.txs.getD j aCk).reads.length→((c.txs.getD j aCk).reads.getD k aCn).region<c.places.length)∧∀ k,k<(c.txs.getD j aCk).sets.length→((c.txs.getD j aCk).sets.getD k aCm).region<c.places.length) (fun i=>c.txs.length - i) 0 [] [] ⟨Nat.zero_le _,fun j hj=>absurd hj (Nat.not_lt_zero _)⟩ ?_
 intro i ⟨h1,h4⟩
 refine aF ?_
 refine aI (fun e=>?_) (fun e=>?_)
 ·have hi:i<c.txs.length:=by omega
  have r1:(c.txs.getD i aCk).reads.length≤1048576:=(hb.2.2.2.2.1.2 i hi).2.2.2.2.1.1
  have r2:(c.txs.getD i aCk).sets.length≤1048576:=(hb.2.2.2.2.1.2 i hi).2.2.2.2.2.1.1
  refine aF ?_
  refine aO [] fun B0 H0=>?_
  refine jB TT_ok (wE _) rfl rfl rfl rfl rfl rfl ?_
  refine aP ?_
  refine aA (fun e1=>?_) (fun e1=>?_)
  ·refine aF ?_
   exact b9 TT_ok [(2,none)] rfl rfl ((b7 fun h=>by have:=(h.2.2.2.2 i hi).1.symm.trans e1;cases this).symm)
  refine aF ?_
  refine aK (ι:=Nat) (fun k=>[(10,vI k)]) (fun _=>[]) (fun k=>k≤(c.txs.getD i aCk).reads.length∧∀ j,j<k→((c.txs.getD i aCk).reads.getD j aCn).region<c.places.length) (fun k=>(c.txs.getD i aCk).reads.length - k) 0 [] [] ⟨Nat.zero_le _,fun j hj=>absurd hj (Nat.not_lt_zero _)⟩ ?_
  intro k ⟨g1,g2⟩
  refine aF ?_
  refine aI (fun e2=>?_) (fun e2=>?_)
  ·have hk:k<(c.txs.getD i aCk).reads.length:=by simp at e2 ⊢;omega
   refine aF ?_
   refine aO [] fun B0 H0=>?_
   refine aP ?_
   refine aI (fun e3=>?_) (fun e3=>?_)
   ·refine aF ?_
    exact b9 TT_ok [(2,none)] rfl rfl ((b7 fun h=>by have:=(h.2.2.2.2 i hi).2.1 k hk;simp at e3 this;omega).symm)
   ·refine aF ?_
    exact aL (k+1) ⟨hk,b5 g2 (by simp at e3 ⊢;omega)⟩ (by omega)
  have hg:∀ j,j<(c.txs.getD i aCk).reads.length→((c.txs.getD i aCk).reads.getD j aCn).region<c.places.length:=fun j hj=>g2 j (by simp at e2 hj;omega)
  clear g1 g2 e2
  refine aF ?_
  refine aK (ι:=Nat) (fun k=>[(11,vI k)]) (fun _=>[]) (fun k=>k≤(c.txs.getD i aCk).sets.length∧∀ j,j<k→((c.txs.getD i aCk).sets.getD j aCm).region<c.places.length) (fun k=>(c.txs.getD i aCk).sets.length - k) 0 [] [] ⟨Nat.zero_le _,fun j hj=>absurd hj (Nat.not_lt_zero _)⟩ ?_
  intro k ⟨g1,g2⟩
  refine aF ?_
  refine aI (fun e2=>?_) (fun e2=>?_)
  ·have hk:k<(c.txs.getD i aCk).sets.length:=by simp at e2 ⊢;omega
   refine aF ?_
   refine aO [] fun B0 H0=>?_
   refine aP ?_
   refine aI (fun e3=>?_) (fun e3=>?_)
   ·refine aF ?_
    exact b9 TT_ok [(2,none)] rfl rfl ((b7 fun h=>by have:=(h.2.2.2.2 i hi).2.2 k hk;simp at e3 this;omega).symm)
   ·refine aF ?_
    exact aL (k+1) ⟨hk,b5 g2 (by simp at e3 ⊢;omega)⟩ (by omega)
  ·refine aF ?_
   exact aL (i+1) ⟨hi,b5 h4 ⟨e1,hg,fun j hj=>g2 j (by simp at e2 hj;omega)⟩⟩ (by omega)
 ·refine aF ?_
  exact b9 TT_ok [(2,none)] rfl rfl ((cN ⟨hH.1,hH.2,h2,h3,fun j hj=>h4 j (by omega)⟩).symm)
theorem PP (m:GMachine) (hb:D.bds dJ (bJ m)):Ans Tryz.prog 133 [] [vR (bJ m)] [] (vB (!dec (dO m))):=by
 refine aE Tryz.func133 fun B0 r_ D_ w0=>?_
 refine aF ?_
 refine aH (EC _ hb) ?_
 exact aG [(2,none)] (rfl)
theorem OO (n:GNote) (x:Int):Ans Tryz.prog 136 [] [vR (cT n),vP [dI x]] [] (vB (decide (n.region ≥ x))):=by
 refine aE Tryz.func136 fun B0 r_ D_ w0=>?_
 refine aF ?_
 exact aG [(3,none)] (rfl)
theorem PT (n:GSet) (x:Int):Ans Tryz.prog 138 [] [vR (cP n),vP [dI x]] [] (vB (decide (n.region ≥ x))):=by
 refine aE Tryz.func138 fun B0 r_ D_ w0=>?_
 refine aF ?_
 exact aG [(3,none)] (rfl)
theorem pF {c:GCluster} (hb:D.bds dJ (bO c)) (i:Nat):D.bds dJ (bJ (c.machines.getD i aCj)):=UK hb.2.2.2.1 ⟨trivial,⟨Nat.zero_le _,fun i hi=>absurd hi (Nat.not_lt_zero _)⟩,⟨Nat.zero_le _,fun i hi=>absurd hi (Nat.not_lt_zero _)⟩,⟨Nat.zero_le _,fun i hi=>absurd hi (Nat.not_lt_zero _)⟩,trivial⟩ _
theorem aBD {c:GCluster} {i:Nat} {r0:Int} (h:dX (c.machines.getD i aCj) r0=true):i<c.machines.length:=by
 rcases Nat.lt_or_ge i c.machines.length with h1 | h1
 ·exact h1
 ·rw [List.getD_eq_getElem?_getD,List.getElem?_eq_none h1] at h;cases h
theorem PX {m:GMachine} (h:dO m) {i:Nat} (hi:i<m.copies.length):dF (m.copies.getD i aCp).cells=true:=by
 have h1:=h.2.2.1 i hi
 unfold sT at h1
 cases c:dF (m.copies.getD i aCp).cells with
 | true=>rfl
 | false=>rw [c] at h1;cases c2:inB (m.copies.getD i aCp).region 0 5 <;>rw [c2] at h1 <;>cases h1
theorem xP {xs:List GCell} (h:dF xs=true):xs.length=6:=by
 unfold dF at h
 cases c:((xs.length:Int) == 6) with
 | false=>rw [c] at h;cases h
 | true=>have:=beq_iff_eq.1 c;omega
theorem TL (c:GCluster) (i:Nat):(bif (bif l0 c i then true else (c.txs.getD i aCk).reads.any fun n=>decide (n.region ≥ (c.places.length:Int))) then true else (c.txs.getD i aCk).sets.any fun n=>decide (n.region ≥ (c.places.length:Int)))=false ↔
  l0 c i=false∧(∀ k,k<(c.txs.getD i aCk).reads.length→((c.txs.getD i aCk).reads.getD k aCn).region<c.places.length)∧∀ k,k<(c.txs.getD i aCk).sets.length→((c.txs.getD i aCk).sets.getD k aCm).region<c.places.length:=by
 constructor
 ·intro h
  cases c1:l0 c i with
  | true=>rw [c1] at h;cases h
  | false =>
   rw [c1] at h
   cases c2:(c.txs.getD i aCk).reads.any fun n=>decide (n.region ≥ (c.places.length:Int)) with
   | true=>rw [c2] at h;cases h
   | false =>
    rw [c2] at h
    refine ⟨rfl,fun k hk=>?_,fun k hk=>?_⟩
    ·have:=sY (z:=aCn) c2 k hk
     have:=of_decide_eq_false this
     omega
    ·have:=sY (z:=aCm) (show ((c.txs.getD i aCk).sets.any fun n=>decide (n.region ≥ (c.places.length:Int)))=false from h) k hk
     have:=of_decide_eq_false this
     omega
 ·rintro ⟨h1,h2,h3⟩
  rw [h1,j0 (z:=aCn) fun k hk=>decide_eq_false (by have:=h2 k hk;omega),j0 (z:=aCm) fun k hk=>decide_eq_false (by have:=h3 k hk;omega)];rfl
theorem eT (c:GCluster) (hb:D.bds dJ (bO c)):Ans Tryz.prog 65 [] [vR (bO c)] [] (vB (dec (ClusOk c))):=by
 have b1:c.places.length≤1048576:=hb.2.2.1.1
 have b2:c.machines.length≤1048576:=hb.2.2.2.1.1
 have b3:c.txs.length≤1048576:=hb.2.2.2.2.1.1
 refine aE Tryz.func65 fun B0 r_ D_ w0=>?_
 refine aF ?_
 refine aH (wX _) ?_
 refine aH (rQ _) ?_
 refine aH (dC _ _ _) ?_
 refine aH (dC _ _ _) ?_
 refine aH (GL _ b1 (fun i hi=>(hb.2.2.1.2 i hi).1.1)) ?_
 refine lZ TT_ok (s8 c.machines b2 (fun m=>D.bds dJ (bJ m)) (fun i hi=>hb.2.2.2.1.2 i hi) fun m => !dec (dO m)) rfl rfl (SVs.cons (aCs _) (SVs.cons (iO (aB) rfl fun args x ⟨n,hn,e1,e2⟩=>by subst e1;subst e2;exact PP n hn) rfl)) rfl rfl ?_
 refine aA (fun e=>?_) (fun e=>?_)
 ·refine aF ?_
  exact b9 TT_ok [(2,none)] rfl rfl ((b7 fun h=>by have h1:=h.1;rw [j0 (z:=aCj) fun j hj=>by rw [cN (h.2.2.1 j hj)];rfl] at e;simp [cN h.2.1,b6.2 h1.1,b6.2 h1.2.1,b6.2 (show (1:Int)≤(c.machines.length:Int)∧(c.machines.length:Int)≤8 from by omega)] at e;omega).symm)
 have hH:(((1≤c.config∧c.config≤1000000)∧(0≤c.clock∧c.clock≤1000000)∧(1≤c.machines.length∧c.machines.length≤8)∧c.txs.length≤60)∧PlOk c.places)∧(c.machines.any fun m => !dec (dO m))=false:=by
  simp only [Bool.cond_true_left,Bool.or_eq_false_iff,Bool.not_eq_false',b6,decide_eq_false_iff_not,c9] at e
  exact ⟨⟨by omega,e.1.2⟩,e.2⟩
 have hM:∀ i,i<c.machines.length→dO (c.machines.getD i aCj):=fun i hi=>by have:=sY (z:=aCj) hH.2 i hi;simpa [c9] using this
 replace hH:=hH.1
 clear e
 refine aF ?_
 refine aK (ι:=Nat) (fun i=>[(49,vI i)]) (fun _=>[]) (fun i=>i≤c.places.length∧∀ r,r<i→∀ k,k<(c.places.getD r aCi).machines.length→o8 c r k=false) (fun i=>c.places.length - i) 0 [] [] ⟨Nat.zero_le _,fun j hj=>absurd hj (Nat.not_lt_zero _)⟩ ?_
 intro i ⟨h1,h3⟩
 refine aF ?_
 refine aI (fun e=>?_) (fun e=>?_)
 ·have hi:i<c.places.length:=by omega
  have hp:=hH.2.2 i hi
  have hpl:=hp.1
  refine aF ?_
  refine aK (ι:=Nat) (fun k=>[(57,vI k)]) (fun _=>[]) (fun k=>k≤(c.places.getD i aCi).machines.length∧∀ j,j<k→o8 c i j=false) (fun k=>(c.places.getD i aCi).machines.length - k) 0 [] [] ⟨Nat.zero_le _,fun j hj=>absurd hj (Nat.not_lt_zero _)⟩ ?_
  intro k ⟨g1,g2⟩
  refine aF ?_
  refine aI (fun e1=>?_) (fun e1=>?_)
  ·have hk:k<(c.places.getD i aCi).machines.length:=by simp at e1 ⊢;omega
   have hn:=DQ hp hk
   refine aF ?_
   cases hh:dX (c.machines.getD (mAt c i k).toNat aCj) i with
   | false =>
    refine aH (DO _ (pF hb _).2.1.1 _ hh) ?_
    refine aA (fun e2=>?_) (fun e2=>?_)
    ·refine aF ?_
     exact b9 TT_ok [(2,none)] rfl rfl ((b7 fun h=>by have h5:=h.2.2.2.1 i hi k hk;unfold o8 at h5;rw [hh] at h5;have:=h5.symm.trans e2;cases this).symm)
    ·refine aF ?_
     exact aL (k+1) ⟨hk,b5 g2 (by unfold o8;rw [hh];exact e2)⟩ (by omega)
   | true =>
    obtain ⟨i0,w1,w2,w3⟩:=HJ hh
    refine rB TT_ok (DG _ (pF hb _).2.1.1 _ i0 w1 w2 w3) rfl rfl (aCu _) rfl rfl ?_
    have h6:=xP (PX (hM _ (aBD hh)) w1)
    refine aBs TT_ok rfl rfl rfl rfl rfl rfl rfl rfl rfl (by omega) ?_
    refine aN ?_
    refine aA (fun e2=>?_) (fun e2=>?_)
    ·refine aF ?_
     exact b9 TT_ok [(2,none)] rfl rfl ((b7 fun h=>by have h5:=h.2.2.2.1 i hi k hk;unfold o8 at h5;rw [hh] at h5;have:=h5.symm.trans e2;cases this).symm)
    ·refine aF ?_
     exact aL (k+1) ⟨hk,b5 g2 (by unfold o8;rw [hh];exact e2)⟩ (by omega)
  ·refine aF ?_
   exact aL (i+1) ⟨hi,b5 h3 fun k hk=>g2 k (by simp at e1 hk;omega)⟩ (by omega)
 have hi:i=c.places.length:=by omega
 subst hi
 clear e h1
 refine aF ?_
 refine aH (AD _) ?_
 refine aK (ι:=Nat) (fun i=>[(89,vI i)]) (fun _=>[]) (fun i=>i≤c.txs.length∧∀ j,j<i→l0 c j=false∧(∀ k,k<(c.txs.getD j aCk).reads.length→((c.txs.getD j aCk).reads.getD k aCn).region<c.places.length)∧∀ k,k<(c.txs.getD j aCk).sets.length→((c.txs.getD j aCk).sets.getD k aCm).region<c.places.length) (fun i=>c.txs.length - i) 0 [] [] ⟨Nat.zero_le _,fun j hj=>absurd hj (Nat.not_lt_zero _)⟩ ?_
 intro i ⟨h1,h4⟩
 refine aF ?_
 refine aI (fun e=>?_) (fun e=>?_)
 ·have hi:i<c.txs.length:=by omega
  have r1:(c.txs.getD i aCk).reads.length≤1048576:=(hb.2.2.2.2.1.2 i hi).2.2.2.2.1.1
  have r2:(c.txs.getD i aCk).sets.length≤1048576:=(hb.2.2.2.2.1.2 i hi).2.2.2.2.2.1.1
  refine aF ?_
  refine aO [] fun B0 H0=>?_
  refine jB TT_ok (F3 _) rfl rfl rfl rfl rfl rfl ?_
  refine aAs TT_ok (EL (c.txs.getD i aCk).reads r1 fun n=>decide (n.region ≥ (c.places.length:Int))) rfl rfl rfl (SVs.cons (aCs _) (SVs.cons (iO (aB) rfl fun args x ⟨n,e1,e2⟩=>by subst e1;subst e2;exact OO n _) rfl)) rfl rfl ?_
  refine aAs TT_ok (xC (c.txs.getD i aCk).sets r2 fun n=>decide (n.region ≥ (c.places.length:Int))) rfl rfl rfl (SVs.cons (aCs _) (SVs.cons (iO (aB) rfl fun args x ⟨n,e1,e2⟩=>by subst e1;subst e2;exact PT n _) rfl)) rfl rfl ?_
  refine aP ?_
  refine aA (fun e1=>?_) (fun e1=>?_)
  ·refine aF ?_
   exact b9 TT_ok [(2,none)] rfl rfl ((b7 fun h=>by have:=((TL c i).2 (h.2.2.2.2 i hi)).symm.trans e1;cases this).symm)
  ·refine aF ?_
   exact aL (i+1) ⟨hi,b5 h4 ((TL c i).1 e1)⟩ (by omega)
 ·refine aF ?_
  exact b9 TT_ok [(2,none)] rfl rfl ((cN ⟨hH.1,hH.2,hM,h3,fun j hj=>h4 j (by omega)⟩).symm)
theorem mM (c:GCluster) (hb:D.bds dJ (bO c)):Ans Tryz.prog 16 [] [vR (bO c)] [] (vB (dec (ClusOk c))):=by
 refine aE Tryz.func16 fun B0 r_ D_ w0=>?_
 refine aF ?_
 refine aH (eT _ hb) ?_
 exact aG [(2,none)] (rfl)
end
section
abbrev bH (c:GCluster) (r k:Nat):GMachine:=c.machines.getD (mAt c r k).toNat aCj
def cellsOf (m:GMachine) (r:Int):List GCell:=if dX m r=true then (m.copies.getD (cI (atB r) m.copies).toNat aCp).cells else []
theorem p7 {m:GMachine} {r:Int} (h:dX m r=true):0≤cI (atB r) m.copies∧cI (atB r) m.copies<m.copies.length:=by
 rcases gH (atB r) aCp m.copies with ⟨h1,h2⟩ | ⟨i,h1,h2,h3,h4⟩
 ·rw [dX,j0 h2] at h;cases h
 ·omega
theorem eW {m:GMachine} {r:Int} (h:dX m r=true):cellsOf m r=(m.copies.getD (cI (atB r) m.copies).toNat aCp).cells:=by rw [cellsOf,if_pos h]
theorem ClusOk.at {c:GCluster} (h:ClusOk c) {r k:Nat} (hr:r<c.places.length) (hk:k<(c.places.getD r aCi).machines.length):(0≤mAt c r k∧mAt c r k<c.machines.length)∧((bH c r k).alive=true→dX (bH c r k) r=true):=by
 have h1:=DQ (h.2.1.2 r hr) hk
 have h2:=h.2.2.2.1 r hr k hk
 unfold o8 at h2
 cases c1:decide (mAt c r k ≥ (c.machines.length:Int)) with
 | true=>rw [c1] at h2;cases h2
 | false =>
  rw [c1] at h2
  have:=of_decide_eq_false c1
  refine ⟨⟨h1.1,by omega⟩,fun ha=>?_⟩
  change (bif (bH c r k).alive then !dX (bH c r k) r else false)=false at h2
  rw [ha] at h2
  simpa using h2
theorem ClusOk.pl {c:GCluster} (h:ClusOk c) {r:Nat} (hr:r<c.places.length):1≤(c.places.getD r aCi).machines.length∧(c.places.getD r aCi).machines.length≤3:=(h.2.1.2 r hr).1
theorem ClusOk.mach {c:GCluster} (h:ClusOk c) {r k:Nat} (hr:r<c.places.length) (hk:k<(c.places.getD r aCi).machines.length):dO (bH c r k):=h.2.2.1 _ (by have:=(h.at hr hk).1;omega)
theorem fH {m:GMachine} (h:dO m) {r:Int} (hh:dX m r=true):(cellsOf m r).length=6∧dF (cellsOf m r)=true:=by
 have h1:=p7 hh
 rw [eW hh]
 have h2:=PX h (i:=(cI (atB r) m.copies).toNat) (by omega)
 exact ⟨xP h2,h2⟩
def gZ (c:GCluster) (r:Nat):Bool:=t9 (c.places.getD r aCi).machines.length fun k => !(bH c r k).alive
theorem L7 (c:GCluster) (b1:c.places.length≤1048576) (hok:ClusOk c) (r0:Nat) (hr:r0<c.places.length):Ans Tryz.prog 114 [] [vR (bO c),vI r0] [] (vB (gZ c r0)):=by
 have hp:=hok.pl hr
 refine aE Tryz.func114 fun B0 r_ D_ w0=>?_
 refine aF ?_
 refine aK (ι:=Nat) (fun k=>[(6,vI k)]) (fun _=>[]) (fun k=>k≤(c.places.getD r0 aCi).machines.length∧∀ j,j<k→(!(bH c r0 j).alive)=false) (fun k=>(c.places.getD r0 aCi).machines.length - k) 0 [] [] ⟨Nat.zero_le _,fun j hj=>absurd hj (Nat.not_lt_zero _)⟩ ?_
 intro k ⟨h1,h2⟩
 refine aF ?_
 refine aI (fun e=>?_) (fun e=>?_)
 ·have hk:k<(c.places.getD r0 aCi).machines.length:=by simp at e ⊢;omega
  have hm:=(hok.at hr hk).1
  refine aF ?_
  refine aO [] fun B0 H0=>?_
  refine aP ?_
  refine aA (fun e2=>?_) (fun e2=>?_)
  ·refine aF ?_
   exact aG [(4,none)] ((x5 (p:=fun k => !(bH c r0 k).alive) hk e2).symm)
  ·refine aF ?_
   exact aL (k+1) ⟨hk,b5 h2 e2⟩ (by omega)
 ·refine aF ?_
  exact b9 TT_ok [(4,none)] rfl rfl ((oJ fun j hj=>h2 j (by simp at e hj;omega)).symm)
end
section
theorem MP (c:GCluster) (r0:Nat) (hr:r0<c.places.length) (hp:0<(c.places.getD r0 aCi).machines.length) (hin:0≤mAt c r0 0∧mAt c r0 0<c.machines.length):Ans Tryz.prog 105 [] [vP (bO c),vI r0] [] (vP (bJ (bH c r0 0))):=by
 refine aE Tryz.func105 fun B0 r_ D_ w0=>?_
 refine aF ?_
 refine aO [] fun B0 H0=>?_
 refine aP ?_
 exact BV TT_ok [(4,none)] rfl rfl (rfl)
def pW (tx r kind:Int) (x:GRecord):Bool:=bif (bif x.tx == tx then x.region == r else false) then x.kind == kind else false
def oD (m:GMachine) (tx r kind:Int):Int:=cI (pW tx r kind) m.log
theorem BF (m:GMachine) (hl:m.log.length≤1048576) (tx r0 kind:Int):Ans Tryz.prog 154 [] [vR (bJ m),vI tx,vI r0,vI kind] [] (vI (oD m tx r0 kind)):=by
 refine aE Tryz.func154 fun B0 r_ D_ w0=>?_
 refine aF ?_
 refine aK (ι:=Nat) (fun i=>[(9,vI i)]) (fun _=>[]) (fun i=>i≤m.log.length∧∀ j,j<i→pW tx r0 kind (m.log.getD j aCq)=false) (fun i=>m.log.length - i) 0 [] [] ⟨Nat.zero_le _,fun j hj=>absurd hj (Nat.not_lt_zero _)⟩ ?_
 intro i ⟨h1,h2⟩
 refine aF ?_
 refine aI (fun e=>?_) (fun e=>?_)
 ·have hi:i<m.log.length:=by omega
  refine aF ?_
  refine aA (fun e2=>?_) (fun e2=>?_)
  ·refine aF ?_
   exact aJ [(8,none)] ((gA (p:=pW tx r0 kind) hi h2 e2).symm)
  ·refine aF ?_
   exact aL (i+1) ⟨hi,b5 h2 e2⟩ (by omega)
 ·refine aF ?_
  exact dK TT_ok [(8,none)] rfl rfl ((gT fun j hj=>h2 j (by omega)).symm)
def B5 (a b:Int):Int:=if a > b then a else b
theorem A4 (a b:Int):Ans Tryz.prog 84 [] [vI a,vI b] [] (vI (B5 a b)):=by
 refine aE Tryz.func84 fun B0 r_ D_ w0=>?_
 refine aF ?_
 refine aI (fun e=>?_) (fun e=>?_)
 ·refine aF ?_
  exact aJ [(4,none)] ((if_pos e).symm)
 ·refine aF ?_
  exact aJ [(4,none)] ((if_neg e).symm)
def tH (c:GCluster) (id r:Int) (k:Nat) (best:Int):Int :=
 let m:=bH c r.toNat k
 if m.alive=false then best else if (bif decide (oD m id r 3 ≥ 0) then true else decide (id ∈ m.cleared))=true then B5 best 4 else if decide (oD m id r 2 ≥ 0)=true then B5 best 3 else if (bif ((k:Int) == 0) then decide (oD m id r 1 ≥ 0) else false)=true then B5 best 2 else best
def rY (c:GCluster) (id r:Int):Nat→Int
 | 0=>1
 | k+1=>tH c id r k (rY c id r k)
theorem MN (c:GCluster) (hb:D.bds dJ (bO c)) (hok:ClusOk c) (id r0:Int) (hr:0≤r0∧r0<c.places.length):Ans Tryz.prog 90 [] [vR (bO c),vI id,vI r0] [] (vI (rY c id r0 (c.places.getD r0.toNat aCi).machines.length)):=by
 have hp:=hok.pl (r:=r0.toNat) (by omega)
 refine aE Tryz.func90 fun B0 r_ D_ w0=>?_
 refine aF ?_
 refine aK (ι:=Nat) (fun k=>[(9,vI k),(8,vI (rY c id r0 k))]) (fun _=>[]) (fun k=>k≤(c.places.getD r0.toNat aCi).machines.length) (fun k=>(c.places.getD r0.toNat aCi).machines.length - k) 0 [] [] (Nat.zero_le _) ?_
 intro k h1
 refine aF ?_
 refine aI (fun e=>?_) (fun e=>?_)
 ·have hk:k<(c.places.getD r0.toNat aCi).machines.length:=by simp at e ⊢;omega
  have hm:=(hok.at (r:=r0.toNat) (by omega) hk).1
  have bm:=pF hb (mAt c r0.toNat k).toNat
  have bl:(bH c r0.toNat k).log.length≤1048576:=bm.2.2.1.1
  have bc:(bH c r0.toNat k).cleared.length≤1048576:=bm.2.2.2.1.1
  refine aF ?_
  refine aO [] fun B0 H0=>?_
  refine bG 8 rfl (by kernel_rfl) (aV (bD ?_))
  refine bG 9 rfl (by kernel_rfl) (aV (bD ?_))
  refine aP ?_
  refine eF rfl (fun e1=>?_) (fun e1=>?_)
  ·refine aF ?_
   exact bN (k+1) hk (by omega) ⟨⟨_,rfl,aCs _⟩,⟨_,rfl,aCw (fL (show _=tH _ _ _ _ _ from (if_pos e1).symm))⟩,wF⟩ wM
  have e1':¬ (bH c r0.toNat k).alive=false:=by rw [show (bH c r0.toNat k).alive=true from e1];simp
  refine aF ?_
  refine aH (BF _ bl _ _ _) ?_
  refine aH (mW _ bc _) ?_
  refine aA (fun e2=>?_) (fun e2=>?_)
  ·refine aF ?_
   refine aH (A4 _ _) ?_
   exact bN (k+1) hk (by omega) ⟨⟨_,rfl,aCs _⟩,⟨_,rfl,aCw (fL (show _=tH _ _ _ _ _ from ((if_neg e1').trans (if_pos e2)).symm))⟩,wF⟩ wM
  have e2':=Bool.eq_false_iff.1 e2
  refine aF ?_
  refine aH (BF _ bl _ _ _) ?_
  refine aA (fun e3=>?_) (fun e3=>?_)
  ·refine aF ?_
   refine aH (A4 _ _) ?_
   exact bN (k+1) hk (by omega) ⟨⟨_,rfl,aCs _⟩,⟨_,rfl,aCw (fL (show _=tH _ _ _ _ _ from ((if_neg e1').trans ((if_neg e2').trans (if_pos e3))).symm))⟩,wF⟩ wM
  have e3':=Bool.eq_false_iff.1 e3
  refine aF ?_
  refine aH (BF _ bl _ _ _) ?_
  refine aA (fun e4=>?_) (fun e4=>?_)
  ·refine aF ?_
   refine aH (A4 _ _) ?_
   exact bN (k+1) hk (by omega) ⟨⟨_,rfl,aCs _⟩,⟨_,rfl,aCw (fL (show _=tH _ _ _ _ _ from ((if_neg e1').trans ((if_neg e2').trans ((if_neg e3').trans (if_pos e4)))).symm))⟩,wF⟩ wM
  ·have e4':=Bool.eq_false_iff.1 e4
   refine aF ?_
   exact bN (k+1) hk (by omega) ⟨⟨_,rfl,aCs _⟩,⟨_,rfl,aCw (fL (show _=tH _ _ _ _ _ from ((if_neg e1').trans ((if_neg e2').trans ((if_neg e3').trans (if_neg e4')))).symm))⟩,wF⟩ wM
 ·have hk:k=(c.places.getD r0.toNat aCi).machines.length:=by simp at e h1 ⊢;omega
  subst hk
  refine aF ?_
  exact aJ [(6,none)] (rfl)
end
section
def bQ (c:GCluster) (id:Int):Int:=cI (fun t:GTx=>t.id == id) c.txs
theorem vO (c:GCluster) (hl:c.txs.length≤1048576) (id:Int):Ans Tryz.prog 88 [] [vR (bO c),vI id] [] (vI (bQ c id)):=by
 refine aE Tryz.func88 fun B0 r_ D_ w0=>?_
 refine aF ?_
 refine aK (ι:=Nat) (fun i=>[(5,vI i)]) (fun _=>[]) (fun i=>i≤c.txs.length∧∀ j,j<i→((c.txs.getD j aCk).id == id)=false) (fun i=>c.txs.length - i) 0 [] [] ⟨Nat.zero_le _,fun j hj=>absurd hj (Nat.not_lt_zero _)⟩ ?_
 intro i ⟨h1,h2⟩
 refine aF ?_
 refine aI (fun e=>?_) (fun e=>?_)
 ·have hi:i<c.txs.length:=by omega
  refine aF ?_
  refine aA (fun e2=>?_) (fun e2=>?_)
  ·refine aF ?_
   exact aJ [(4,none)] ((gA (p:=fun t:GTx=>t.id == id) hi h2 e2).symm)
  ·refine aF ?_
   exact aL (i+1) ⟨hi,b5 h2 e2⟩ (by omega)
 ·refine aF ?_
  exact dK TT_ok [(4,none)] rfl rfl ((gT (p:=fun t:GTx=>t.id == id) (z:=aCk) fun j hj=>h2 j (by omega)).symm)
theorem dW {c:GCluster} {id:Int} (h:0≤bQ c id):(bQ c id).toNat<c.txs.length∧(c.txs.getD (bQ c id).toNat aCk).id=id:=by
 rcases gH (fun t:GTx=>t.id == id) aCk c.txs with ⟨h1,h2⟩ | ⟨i,h1,h2,h3,h4⟩
 ·rw [bQ,h1] at h;omega
 ·rw [bQ,h2];exact ⟨by simpa using h1,by simpa using h4⟩
theorem gO {c:GCluster} {id:Int}:bQ c id<c.txs.length:=by
 rcases gH (fun t:GTx=>t.id == id) aCk c.txs with ⟨h1,h2⟩ | ⟨i,h1,h2,h3,h4⟩
 ·rw [bQ,h1];omega
 ·rw [bQ,h2];omega
theorem ClusOk.tx {c:GCluster} (h:ClusOk c) {i:Nat} (hi:i<c.txs.length):eN (c.txs.getD i aCk):=by
 have h1:=(h.2.2.2.2 i hi).1
 unfold l0 at h1
 cases c1:dec (eN (c.txs.getD i aCk)) with
 | true=>exact c9.1 c1
 | false=>rw [c1] at h1;cases h1
theorem ClusOk.set {c:GCluster} (h:ClusOk c) {i k:Nat} (hi:i<c.txs.length) (hk:k<(c.txs.getD i aCk).sets.length):0≤((c.txs.getD i aCk).sets.getD k aCm).region∧((c.txs.getD i aCk).sets.getD k aCm).region<c.places.length:=by
 have h1:=((h.tx hi).2.2 k hk).1
 refine ⟨?_,(h.2.2.2.2 i hi).2.2 k hk⟩
 unfold eO at h1
 cases c1:inB ((c.txs.getD i aCk).sets.getD k aCm).region 0 5 with
 | true=>exact (b6.1 c1).1
 | false=>rw [c1] at h1;cases h1
theorem ClusOk.note {c:GCluster} (h:ClusOk c) {i k:Nat} (hi:i<c.txs.length) (hk:k<(c.txs.getD i aCk).reads.length):0≤((c.txs.getD i aCk).reads.getD k aCn).region∧((c.txs.getD i aCk).reads.getD k aCn).region<c.places.length:=by
 have h1:=((h.tx hi).2.1 k hk).1
 refine ⟨?_,(h.2.2.2.2 i hi).2.1 k hk⟩
 unfold iX at h1
 cases c1:inB ((c.txs.getD i aCk).reads.getD k aCn).region 0 5 with
 | true=>exact (b6.1 c1).1
 | false=>rw [c1] at h1;cases h1
def upL (c:GCluster):Nat→List Int
 | 0=>[]
 | i+1=>if (c.machines.getD i aCj).alive=true then upL c i ++ [(i:Int)] else upL c i
theorem H2 (c:GCluster):∀ n,(upL c n).length≤n
 | 0=>Nat.le_refl _
 | n+1=>by
  have:=H2 c n
  unfold upL;split
  ·rw [List.length_append,List.length_singleton];omega
  ·omega
open Classical in
noncomputable def iG (c:GCluster):List Int:=if ClusOk c then upL c c.machines.length else []
theorem EM (c:GCluster):(iG c).length≤c.machines.length:=by
 unfold iG;split
 ·exact H2 c _
 ·exact Nat.zero_le _
theorem D3 (c:GCluster) (hb:D.bds dJ (bO c)):MkL Tryz.prog 37 [vR (bO c)] 1 bS 0 (iG c):=by
 have b2:c.machines.length≤1048576:=hb.2.2.2.1.1
 refine aE Tryz.func37 fun B0 r_ D_ w0=>?_
 refine aT ?_
 refine aU 1 fun r_=>?_
 refine aF ?_
 refine aM 5 (fun i=>bS (([]:List Int).getD i 0)) (fun i hi=>absurd hi (Nat.not_lt_zero _)) (mu1:=[]) ?_
 refine aN ?_
 refine aK (ι:=Nat) (fun i=>[(4,vI i),(3, .a (.g 5))]) (fun i=>[(5,bE 1 bS 0 (upL c i))]) (fun i=>i≤c.machines.length∧(0<i→ClusOk c)) (fun i=>c.machines.length - i) 0 [5] [5] ⟨Nat.zero_le _,fun h=>absurd h (Nat.lt_irrefl _)⟩ ?_
 intro i ⟨h3,h4⟩
 have hle:=H2 c i
 refine aF ?_
 refine aH (d5 c hb) ?_
 refine aA (fun e=>?_) (fun e=>?_)
 ·have hi:i<c.machines.length∧ClusOk c:=by
   by_cases h1:(i:Int)<c.machines.length
   ·rw [decide_eq_true h1] at e;exact ⟨by omega,c9.1 e⟩
   ·rw [decide_eq_false h1] at e;cases e
  obtain ⟨hi,hok⟩:=hi
  refine aF ?_
  refine aA (fun e2=>?_) (fun e2=>?_)
  ·refine aF ?_
   refine cV TT_ok 25 (fun _=>bS i) rfl rfl rfl rfl rfl rfl rfl (fun i hi=>by rcases i with _ | i <;>first | rfl | omega) (mu1:=[]) rfl rfl rfl ?_
   refine aN ?_
   refine cU TT_ok 5 25 26 rfl rfl rfl rfl rfl rfl rfl rfl rfl rfl rfl rfl ⟨by simp;omega,by unfold maxL;omega⟩ ?_
   refine aN ?_
   refine bC (bL 5 26) ?_
   exact bN (i+1) ⟨hi,fun _=>hok⟩ (by omega) wF ⟨⟨_,rfl,fJ (x:=(i:Int)) (by rw [upL,if_pos (show (c.machines.getD i aCj).alive=true from e2)]) rfl⟩,wM⟩
  ·refine aF ?_
   exact bN (i+1) ⟨hi,fun _=>hok⟩ (by omega) wF ⟨⟨_,rfl,bP (by rw [upL,if_neg (by rw [show (c.machines.getD i aCj).alive=false from e2];simp)])⟩,wM⟩
 ·refine aF ?_
  refine bB (bL 5 900) ?_
  refine aC (()) [(2,none)] ?_ ?_ ?_
  ·exact aCu _
  ·refine ⟨⟨_,rfl,bP ?_⟩,trivial⟩
   unfold iG
   by_cases h1:(i:Int)<c.machines.length
   ·rw [decide_eq_true h1] at e
    have hn:¬ ClusOk c:=jN.1 e
    rw [if_neg hn]
    have:i=0:=by
     rcases Nat.eq_zero_or_pos i with h | h
     ·exact h
     ·exact absurd (h4 h) hn
    subst this;rfl
   ·have:i=c.machines.length:=by omega
    subst this
    rcases Nat.eq_zero_or_pos c.machines.length with h | h
    ·rw [h];split <;>rfl
    ·rw [if_pos (h4 h)]
  ·trivial
theorem yG (xs:List GCell) (hl:xs.length≤1048576):MkL Tryz.prog 112 [vL 2 cX aCo xs] 2 cX aCo xs:=by
 refine aE Tryz.func112 fun B0 r_ D_ w0=>?_
 refine aF ?_
 refine aM 3 (fun i=>cX (([]:List GCell).getD i aCo)) (fun i hi=>absurd hi (Nat.not_lt_zero _)) (mu1:=[]) ?_
 refine aN ?_
 refine oG TT_ok 3 900 rfl rfl rfl rfl rfl rfl rfl rfl rfl rfl rfl rfl ⟨by simp;omega,by unfold maxL;omega⟩ ?_
 refine aN ?_
 refine aC (()) [(2,none)] ?_ ?_ ?_
 ·exact aCu _
 ·exact ⟨⟨_,rfl,mX (ys:=([]:List GCell)) (by simp)⟩,trivial⟩
 ·trivial
theorem FW (c:GCluster) (hb:D.bds dJ (bO c)) (hok:ClusOk c) (r0:Int) (hr:0≤r0∧r0<c.places.length):Con Tryz.prog 248 [] [vR (bO c),vI r0] [] (fun _:Unit=>True) (fun _=>if (bH c r0.toNat 0).alive=true then [vI (mAt c r0.toNat 0),vI (cI (atB r0) (bH c r0.toNat 0).copies)] else [vI (-1),vI (-1)]) fun _=>[]:=by
 have hpl:=hok.pl (r:=r0.toNat) (by omega)
 have hm:=(hok.at (r:=r0.toNat) (k:=0) (by omega) (by omega)).1
 have bm:=pF hb (mAt c r0.toNat 0).toNat
 refine aE Tryz.func248 fun B0 r_ D_ w0=>?_
 refine aF ?_
 refine eF rfl (fun e=>?_) (fun e=>?_)
 ·rw [if_neg (by rw [show (bH c r0.toNat 0).alive=false from e];simp)]
  refine aF ?_
  refine aC (()) [(4,none),(5,none)] ?_ ?_ ?_
  ·exact aCu _
  ·trivial
  ·trivial
 ·rw [if_pos (show (bH c r0.toNat 0).alive=true from e)]
  refine aF ?_
  refine aH (wT (bH c r0.toNat 0) bm.2.1.1 r0) ?_
  refine aC (()) [(4,none),(5,none)] ?_ ?_ ?_
  ·exact aCu _
  ·trivial
  ·trivial
end
section
theorem AS (c:GCluster) (hok:ClusOk c) (r0:Int) (hr:0≤r0∧r0<c.places.length):Ans Tryz.prog 105 [] [vP (bO c),vI r0] [] (vP (bJ (bH c r0.toNat 0))):=by
 have h:=MP c r0.toNat (by omega) (by have:=hok.pl (r:=r0.toNat) (by omega);omega) (hok.at (r:=r0.toNat) (k:=0) (by omega) (by have:=hok.pl (r:=r0.toNat) (by omega);omega)).1
 rwa [Int.toNat_of_nonneg hr.1] at h
theorem MV (c:GCluster) (b1:c.places.length≤1048576) (hok:ClusOk c) (r0:Int) (hr:0≤r0∧r0<c.places.length):Ans Tryz.prog 114 [] [vR (bO c),vI r0] [] (vB (gZ c r0.toNat)):=by
 have h:=L7 c b1 hok r0.toNat (by omega)
 rwa [Int.toNat_of_nonneg hr.1] at h
def pK (c:GCluster) (t:GTx):Bool:=(c.machines.getD t.home.toNat aCj).alive
def bW (t:GTx):List GNote:=t.reads.filter (pU t)
def kA (c:GCluster) (t:GTx):Bool:=if t.phase=1 then !pK c t else if t.phase=7∨t.phase=9 then false else if pK c t=false then true else (t.sets.any fun s=>gZ c s.region.toNat) || (bW t).any fun n=>gZ c n.region.toNat
structure TxIn (c:GCluster) (t:GTx):Prop where
 ok:eN t
 home:0≤t.home∧t.home<c.machines.length
 note:∀ k,k<t.reads.length→0≤(t.reads.getD k aCn).region∧(t.reads.getD k aCn).region<c.places.length
 set:∀ k,k<t.sets.length→0≤(t.sets.getD k aCm).region∧(t.sets.getD k aCm).region<c.places.length
theorem ClusOk.txIn {c:GCluster} (h:ClusOk c) {i:Nat} (hi:i<c.txs.length):TxIn c (c.txs.getD i aCk):=by
 refine ⟨h.tx hi,⟨(h.tx hi).1.2.1.1,?_⟩,fun k hk=>h.note hi hk,fun k hk=>h.set hi hk⟩
 have h1:=(h.2.2.2.2 i hi).1
 unfold l0 at h1
 simp only [Bool.cond_true_left,Bool.or_eq_false_iff,decide_eq_false_iff_not] at h1
 have:=h1.1.2
 omega
theorem q9 {c:GCluster} {t:GTx} (h:TxIn c t) {k:Nat} (hk:k<(bW t).length):0≤((bW t).getD k aCn).region∧((bW t).getD k aCn).region<c.places.length:=by
 have hm:(bW t).getD k aCn ∈ t.reads:=by
  have:(bW t).getD k aCn=(bW t)[k]:=by rw [List.getD_eq_getElem?_getD,List.getElem?_eq_getElem hk];rfl
  rw [this]
  exact (List.mem_filter.1 (List.getElem_mem hk)).1
 obtain ⟨j,hj,e⟩:=List.mem_iff_getElem.1 hm
 have h2:=h.note j hj
 rwa [show t.reads.getD j aCn=(bW t).getD k aCn from by rw [List.getD_eq_getElem?_getD,List.getElem?_eq_getElem hj];exact e] at h2
theorem wW (c:GCluster) (hb:D.bds dJ (bO c)) (hok:ClusOk c) (t:GTx) (ht:TxIn c t):Ans Tryz.prog 92 [] [vR (bO c),vR (cTx t)] [] (vB (kA c t)):=by
 have b1:c.places.length≤1048576:=hb.2.2.1.1
 have r1:t.reads.length≤1048576:=by have:=ht.ok.1;unfold nK at this;omega
 have r2:t.sets.length≤1048576:=by have:=ht.ok.1;unfold nK at this;omega
 have hh:=ht.home
 have hcl:(bW t).length≤t.reads.length:=List.length_filter_le _ _
 refine aE Tryz.func92 fun B0 r_ D_ w0=>?_
 refine aT ?_
 refine aU 2 fun r_=>?_
 refine aU 3 fun r_=>?_
 refine aF ?_
 refine aQ (fun e1=>?_) (fun e1=>?_)
 ·refine aF ?_
  exact b9 TT_ok [(4,none)] rfl rfl ((by rw [kA,if_pos e1];rfl))
 refine aF ?_
 refine aQ (fun e2=>?_) (fun e2=>?_)
 ·refine aF ?_
  refine bX rfl (fun _=>?_) (fun e=>absurd e2 (by simpa using e))
  refine aF ?_
  exact b9 TT_ok [(4,none)] rfl rfl ((by rw [kA,if_neg e1,if_pos (.inl e2)]))
 refine aF ?_
 refine aQ (fun e3=>?_) (fun e3=>?_)
 ·refine aF ?_
  exact b9 TT_ok [(4,none)] rfl rfl ((by rw [kA,if_neg e1,if_pos (.inr e3)]))
 have hstr:kA c t=if pK c t=false then true else (t.sets.any fun s=>gZ c s.region.toNat) || (bW t).any fun n=>gZ c n.region.toNat:=by
  rw [kA,if_neg e1,if_neg (by omega)]
 rw [hstr]
 clear hstr
 refine aF ?_
 refine eF rfl (fun e4=>?_) (fun e4=>?_)
 ·refine aF ?_
  exact b9 TT_ok [(4,none)] rfl rfl ((by rw [if_pos (show pK c t=false from e4)]))
 rw [if_neg (show ¬ pK c t=false from by rw [show pK c t=true from e4];simp)]
 refine aF ?_
 refine aK (ι:=Nat) (fun i=>[(6,vI i)]) (fun _=>[]) (fun i=>i≤t.sets.length∧∀ j,j<i→gZ c (t.sets.getD j aCm).region.toNat=false) (fun i=>t.sets.length - i) 0 [] [] ⟨Nat.zero_le _,fun j hj=>absurd hj (Nat.not_lt_zero _)⟩ ?_
 intro i ⟨h1,h2⟩
 refine aF ?_
 refine aI (fun e=>?_) (fun e=>?_)
 ·have hi:i<t.sets.length:=by omega
  refine aF ?_
  refine aO [] fun B0 H0=>?_
  refine jB TT_ok (MV c b1 hok _ (ht.set i hi)) rfl rfl rfl rfl rfl rfl ?_
  refine aP ?_
  refine aA (fun e5=>?_) (fun e5=>?_)
  ·refine aF ?_
   exact b9 TT_ok [(4,none)] rfl rfl ((by rw [uL (p:=fun s=>gZ c s.region.toNat) hi e5];rfl))
  ·refine aF ?_
   exact aL (i+1) ⟨hi,b5 h2 e5⟩ (by omega)
 have hs:(t.sets.any fun s=>gZ c s.region.toNat)=false:=j0 (z:=aCm) fun j hj=>h2 j (by omega)
 rw [hs]
 refine aF ?_
 refine aR (aCv 900 42 (I4 t r1 r2)) fun _ _=>?_
 refine aN ?_
 refine aK (ι:=Nat) (fun i=>[(8,vI i)]) (fun _=>[]) (fun i=>i≤(bW t).length∧∀ j,j<i→gZ c ((bW t).getD j aCn).region.toNat=false) (fun i=>(bW t).length - i) 0 [] [] ⟨Nat.zero_le _,fun j hj=>absurd hj (Nat.not_lt_zero _)⟩ ?_
 intro i ⟨h3,h4⟩
 have hcl2:(t.reads.filter (pU t)).length≤t.reads.length:=hcl
 refine aF ?_
 refine aI (fun e6=>?_) (fun e6=>?_)
 ·have hi:i<(bW t).length:=by have:(i:Int)<(bW t).length:=e6;omega
  have hi2:i<(t.reads.filter (pU t)).length:=hi
  refine aF ?_
  refine aO [] fun B0 H0=>?_
  refine jB TT_ok (MV c b1 hok _ (q9 ht hi)) rfl rfl rfl rfl rfl rfl ?_
  refine aP ?_
  refine aA (fun e5=>?_) (fun e5=>?_)
  ·refine aF ?_
   exact b9 TT_ok [(4,none)] rfl rfl ((by rw [uL (p:=fun n=>gZ c n.region.toNat) hi e5];rfl))
  ·refine aF ?_
   exact aL (i+1) ⟨hi,b5 h4 e5⟩ (by omega)
 ·refine aF ?_
  exact b9 TT_ok [(4,none)] rfl rfl ((by rw [j0 (z:=aCn) fun j hj=>h4 j (by have:¬ (i:Int)<(bW t).length:=e6;omega)];rfl))
end
end Go.Proofs.YtnffflcjaipdkaaGreat
