/-
  What the claim leans on, made short by program.
-/
import Derived.Test.YthpjoddhlkcciaaGreatQB
import Derived.Test.YthpjoddhlkcciaaGreatProg
namespace Go.Proofs.YthpjoddhlkcciaaGreat
open Go Go.RowKit
set_option linter.unusedVariables false
set_option linter.unusedSimpArgs false
set_option maxRecDepth 4000
section
section
def bsV (sz:Nat):List (Nat×SV)→List V→Option (List V)
 | [],l=>some l
 | (i,x) :: r,l=>match x.cells with
  | some vs=>bif l8 vs sz then match dU l (i * sz) vs with
    | some l'=>bsV sz r l'
    | none=>none
   else none
  | none=>none
def lV (mu:Mu):List V→Option (List D×List Nat)
 | []=>some ([],[])
 | .v x :: r=>match lV mu r with
  | some (l,ks)=>bif eL x then some (.v x :: l,ks) else none
  | none=>none
 | .g k :: r=>match mlk k mu,lV mu r with
  | some (.arr sz n f),some (l,ks)=>bif bD k ks then none else some (.sl sz n f :: l,k :: ks)
  | _,_=>none
 | _ :: _=>none
def unK (H:Nat→PH):List Nat→PH
 | []=>PH.emp
 | k :: r=>(H k).un (unK H r)
theorem R6 {H:Nat→PH} (d:∀ j k,j≠k→(H j).dj (H k)) {k:Nat}:∀ {ks:List Nat},bD k ks=false→(H k).dj (unK H ks)
 | [],_=>PH.dj_emp _
 | j :: r,h=>by
  simp only [bD] at h
  cases c:Nat.beq j k with
  | true=>rw [c] at h;cases h
  | false =>
   rw [c] at h
   exact PH.dj_un (d k j (fun e=>by rw [e,Nat.beq_refl] at c;cases c)) (R6 d h)
theorem OD {H:Nat→PH} {w:World} (f:∀ k,FitO (H k) w):∀ ks:List Nat,FitO (unK H ks) w
 | []=>FitO.emp w
 | k :: r=>(f k).un (OD f r)
theorem P3 {H:Nat→PH} {b o:Nat}:∀ {ks:List Nat},unK H ks b o≠none→∃ k,bD k ks=true∧H k b o≠none
 | [],h=>absurd rfl h
 | k :: r,h=>by
  rcases PH.un_ne h with h | h
  ·exact ⟨k,by simp [bD,Nat.beq_refl],h⟩
  ·obtain ⟨j,j1,j2⟩:=P3 h
   exact ⟨j,by simp only [bD,j1];cases Nat.beq k j <;>rfl,j2⟩
theorem F4 {B:BE} {r:PH} {mu:Mu} {w:World} {H:Nat→PH} (m:Mm B r mu w H) {Z:Tg→PH}:∀ {l:List V} {ds:List D} {ks:List Nat},lV mu l=some (ds,ks)→∀ {vs:List Value},V.rels B Z l vs→D.owns (unK H ks) ds vs
 | [],ds,ks,h,vs,e=>by simp [lV] at h;obtain ⟨rfl,rfl⟩:=h;exact e
 | x :: l,ds,ks,h,vs,e=>by
  obtain ⟨v,t,rfl,e2,e3⟩:=e
  cases x with
  | v x =>
   simp only [lV] at h
   split at h
   ·rename_i l' ks' c
    cases c2:eL x with
    | false=>rw [c2] at h;cases h
    | true =>
     rw [c2] at h;simp at h;obtain ⟨rfl,rfl⟩:=h
     exact ⟨v,t,PH.emp,_,rfl,PH.emp_le _,PH.le_refl _,PH.emp_dj _,e2,F4 m c e3⟩
   ·cases h
  | g k =>
   simp only [lV] at h
   split at h
   ·rename_i sz n f l' ks' c1 c
    cases c2:bD k ks' with
    | true=>rw [c2] at h;cases h
    | false =>
     rw [c2] at h;simp at h;obtain ⟨rfl,rfl⟩:=h
     have d:=R6 m.dj c2
     have e2:v=B k:=e2.1
     refine ⟨v,t,H k,unK H ks',rfl,PH.le_un_left _ _,PH.le_un_right d,d,?_,F4 m c e3⟩
     rw [e2];exact m.sat k _ c1
   ·cases h
  | _=>simp [lV] at h
theorem DN {B:BE} {mu:Mu} {Z:Tg→PH}:∀ {l:List V} {ds:List D} {ks:List Nat},lV mu l=some (ds,ks)→∀ {vs:List Value},V.rels B Z l vs→∀ v ∈ vs,eL v=true
 | [],ds,ks,h,vs,e,v,hv=>by have e:vs=[]:=e;rw [e] at hv;cases hv
 | x :: l,ds,ks,h,vs,e,u,hu=>by
  obtain ⟨v,t,rfl,e2,e3⟩:=e
  cases x with
  | v x =>
   simp only [lV] at h
   split at h
   ·rename_i l' ks' c
    cases c2:eL x with
    | false=>rw [c2] at h;cases h
    | true =>
     cases hu with
     | head=>have e2:u=x:=e2;rw [e2];exact c2
     | tail _ hu=>exact DN c e3 u hu
   ·cases h
  | g k =>
   simp only [lV] at h
   split at h
   ·rename_i sz n f l' ks' c1 c
    cases hu with
    | head=>exact e2.2
    | tail _ hu=>exact DN c e3 u hu
   ·cases h
  | _=>simp [lV] at h
theorem FD {h:PH}:∀ {l m:List D} {vs:List Value},D.owns h (l ++ m) vs→∃ v1 v2 h1 h2,vs=v1 ++ v2∧h1.le h∧h2.le h∧h1.dj h2∧D.owns h1 l v1∧D.owns h2 m v2
 | [],m,vs,e=>⟨[],vs,PH.emp,h,rfl,PH.emp_le _,PH.le_refl _,PH.emp_dj _,rfl,e⟩
 | x :: l,m,vs,e=>by
  obtain ⟨a,t,g1,g2,rfl,e2,e3,e4,e5,e6⟩:=e
  obtain ⟨v1,v2,h1,h2,rfl,q1,q2,q3,q4,q5⟩:=FD e6
  exact ⟨a :: v1,v2,g1.un h1,h2,rfl,PH.un_le e2 (PH.le_trans q1 e3),PH.le_trans q2 e3,PH.un_dj (PH.dj_le e4 (PH.le_refl _) q2) q3,⟨a,v1,g1,h1,rfl,PH.le_un_left _ _,PH.le_un_right (PH.dj_le e4 (PH.le_refl _) q1),PH.dj_le e4 (PH.le_refl _) q1,e5,q4⟩,q5⟩
theorem IR (sz:Nat):∀ (n:Nat) {h:PH} {F:List D} {vs:List Value},D.owns h F vs→F.length=n * sz→∃ G:Nat→PH,(∀ i,(G i).le h)∧(∀ i j,i≠j→(G i).dj (G j))∧∀ i,i<n→D.owns (G i) ((F.drop (i * sz)).take sz) ((vs.drop (i * sz)).take sz)
 | 0,h,F,vs,e,hl=>⟨fun _=>PH.emp,fun _=>PH.emp_le _,fun _ _ _=>PH.emp_dj _,fun i hi=>absurd hi (Nat.not_lt_zero _)⟩
 | n+1,h,F,vs,e,hl=>by
  rw [← List.take_append_drop sz F] at e
  obtain ⟨v1,v2,h1,h2,rfl,q1,q2,q3,q4,q5⟩:=FD e
  rw [Nat.add_mul,Nat.one_mul] at hl
  have l1:v1.length=sz:=by rw [D.owns_length q4,List.length_take];omega
  obtain ⟨G,g1,g2,g3⟩:=IR sz n q5 (by rw [List.length_drop];omega)
  refine ⟨fun i=>match i with | 0=>h1 | i+1=>G i,fun i=>?_,fun i j hij=>?_,fun i hi=>?_⟩
  ·cases i with
   | zero=>exact q1
   | succ i=>exact PH.le_trans (g1 i) q2
  ·cases i with
   | zero =>
    cases j with
    | zero=>exact absurd rfl hij
    | succ j=>exact PH.dj_le q3 (PH.le_refl _) (g1 j)
   | succ i =>
    cases j with
    | zero=>exact PH.dj_symm (PH.dj_le q3 (PH.le_refl _) (g1 i))
    | succ j=>exact g2 i j (by omega)
  ·cases i with
   | zero =>
    simp only [Nat.zero_mul,List.drop_zero]
    rw [← l1,List.take_left,l1];exact q4
   | succ i =>
    have:=g3 i (by omega)
    rw [List.drop_drop] at this
    have e2:sz+i * sz=(i+1) * sz:=by rw [Nat.add_mul,Nat.one_mul];omega
    have e3:(v1 ++ v2).drop ((i+1) * sz)=v2.drop (i * sz):=by rw [← e2,List.drop_append,List.drop_eq_nil_of_le (by omega),List.nil_append];congr 1;omega
    rw [e2] at this
    show D.owns (G i) _ (((v1 ++ v2).drop ((i+1) * sz)).take sz)
    rw [e3];exact this
theorem LC {P:Program} {B:BE} {Z:Tg→PH} {sz:Nat}:∀ {ps:List (Nat×SV)} {qs:List (Nat×Value)} {l m:List V} {vs:List Value},(qs.map (·.1)=ps.map (·.1))→SV.rels P B Z (ps.map (·.2)) (qs.map (·.2))→V.rels B Z l vs→bsV sz ps l=some m→∃ ms,Instr.fill (fun i=>some (i * sz,sz)) vs.toArray qs=some ms.toArray∧V.rels B Z m ms
 | [],qs,l,m,vs,hq,_,hl,h=>by
  have:qs=[]:=by simpa using hq
  subst this
  simp [bsV] at h;subst h;exact ⟨vs,rfl,hl⟩
 | (i,x) :: r,[],l,m,vs,hq,hr,hl,h=>by simp at hq
 | (i,x) :: r,(i',y) :: qs,l,m,vs,hq,hr,hl,h=>by
  simp only [List.map_cons,List.cons.injEq] at hq
  obtain ⟨rfl,hq⟩:=hq
  obtain ⟨y',t',e0,hx,hr⟩:=hr
  simp only [List.map_cons,List.cons.injEq] at e0
  obtain ⟨rfl,rfl⟩:=e0
  simp only [bsV] at h
  split at h
  ·rename_i cs e2
   cases e4:l8 cs sz with
   | false=>rw [e4] at h;cases h
   | true =>
    rw [e4] at h
    simp only [cond_true] at h
    split at h
    ·rename_i l' e5
     have hc:=rY e2 hx
     have hlen:=nU _ _ e4
     have hsz:y.cells.size=sz:=by rw [← Array.length_toList,V.rels_length hc];exact hlen
     obtain ⟨ms,g1,g2⟩:=sR hl hc e5
     obtain ⟨p1,p2,_,_⟩:=kS _ _ _ _ g1
     have hA:y.cells=y.cells.toList.toArray:=by simp
     simp only [Instr.fill]
     rw [if_neg (by
      simp only [hsz,ne_eq,not_true_eq_false,decide_false,Bool.false_or,decide_eq_true_eq,List.size_toArray]
      have h9:y.cells.toList.length=sz:=by rw [Array.length_toList];exact hsz
      omega)]
     rw [hA,FN g1]
     exact LC hq hr g2 h
    ·cases h
  ·cases h
theorem xT {sz:Nat}:∀ {ps:List (Nat×SV)} {l m:List V},bsV sz ps l=some m→m.length=l.length
 | [],l,m,h=>by simp [bsV] at h;rw [h]
 | (i,x) :: r,l,m,h=>by
  simp only [bsV] at h
  split at h
  ·rename_i cs e2
   cases e4:l8 cs sz with
   | false=>rw [e4] at h;cases h
   | true =>
    rw [e4] at h
    simp only [cond_true] at h
    split at h
    ·rename_i l' e5
     obtain ⟨p1,p2,_,_⟩:=kS _ _ _ _ e5
     rw [xT h,p1]
    ·cases h
  ·cases h
theorem wA {mu:Mu}:∀ {l:List V} {ds:List D} {ks:List Nat},lV mu l=some (ds,ks)→ds.length=l.length
 | [],ds,ks,h=>by simp [lV] at h;rw [h.1];rfl
 | x :: l,ds,ks,h=>by
  cases x with
  | v x =>
   simp only [lV] at h
   split at h
   ·rename_i l' ks' c
    cases c2:eL x with
    | false=>rw [c2] at h;cases h
    | true=>rw [c2] at h;simp at h;obtain ⟨rfl,rfl⟩:=h;simp [wA c]
   ·cases h
  | g k =>
   simp only [lV] at h
   split at h
   ·rename_i sz n f l' ks' c1 c
    cases c2:bD k ks' with
    | true=>rw [c2] at h;cases h
    | false=>rw [c2] at h;simp at h;obtain ⟨rfl,rfl⟩:=h;simp [wA c]
   ·cases h
  | _=>simp [lV] at h
theorem sC (zs:List Value):∀ n,(rJ zs n).length=n * zs.length
 | 0=>by simp [rJ]
 | n+1=>by rw [rJ,List.length_append,List.length_map,sC zs n,Nat.add_mul,Nat.one_mul,Nat.add_comm]
def mR (zs:List Value):Nat→List Value
 | 0=>[]
 | n+1=>zs ++ mR zs n
theorem uI (zs:List Value):∀ n,(mR zs n).length=n * zs.length
 | 0=>by simp [mR]
 | n+1=>by rw [mR,List.length_append,uI zs n,Nat.add_mul,Nat.one_mul,Nat.add_comm]
theorem A5 {zs:List Value}:∀ {n i:Nat},i<n * zs.length→(mR zs n)[i]? = zs[i % zs.length]?
 | 0,i,h=>by omega
 | n+1,i,h=>by
  rw [mR]
  by_cases c:i<zs.length
  ·rw [List.getElem?_append_left c,Nat.mod_eq_of_lt c]
  ·rw [Nat.add_mul,Nat.one_mul] at h
   rw [List.getElem?_append_right (by omega),A5 (by omega)]
   congr 1
   exact (Nat.mod_eq_sub_mod (by omega)).symm
theorem CT {B:BE} {Z:Tg→PH} (zs:List Value):∀ n,V.rels B Z (rJ zs n) (mR zs n)
 | 0=>rfl
 | n+1=>V.rels_append (uP zs) (CT zs n)
theorem HQ {zs:List Value} {n sz:Nat} (hz:zs.length=sz) (hpos:0<sz):(Array.range (n * sz)).map ((if n * sz=0 then (#[]:Array Value) else zs.toArray)[· % (if n * sz=0 then (#[]:Array Value) else zs.toArray).size]!)=(mR zs n).toArray:=by
 apply Array.ext_getElem?
 intro j
 rw [Array.getElem?_map]
 by_cases hj:j<n * sz
 ·have hne:n * sz≠0:=by omega
  rw [Array.getElem?_range,if_pos hj]
  simp only [hne,if_false,Option.map_some,List.getElem?_toArray]
  rw [A5 (by rw [hz];exact hj)]
  have hm:j % zs.length<zs.length:=Nat.mod_lt _ (by omega)
  simp [hm]
 ·rw [Array.getElem?_range,if_neg hj]
  simp only [Option.map_none,List.getElem?_toArray]
  rw [List.getElem?_eq_none (by rw [uI,hz];omega)]
section
variable {E:Env} {B:BE} {mu mu':Mu} {w:World} {H:Nat→PH} {TT:List TI} {fr fr':Fr} {gf gf':GF} {a:Act} {all rest:List Oper} {Q:Exit→Act→World→Prop} {o:Oper} {J:Act→World→Prop} {G:AG} {R:Exit→Act→World→Prop} {K:List KF}
theorem C2 (f:FitsE E B H fr gf a) {g:Gd} (hg:∀ d w,(d,w) ∈ g→a.tmps.getD d undef = .bool w):∀ {l:List (Nat×Operand)} {ps:List (Nat×SV)},kM g fr gf l=some ps→((l.map fun p=>(p.1,a.eval p.2)).map (·.1)=ps.map (·.1))∧SV.rels E.P B (Zf E.r H) (ps.map (·.2)) ((l.map fun p=>(p.1,a.eval p.2)).map (·.2))
 | [],ps,h=>by simp [kM] at h;subst h;exact ⟨rfl,rfl⟩
 | (i,x) :: l,ps,h=>by
  simp only [kM] at h
  split at h
  ·rename_i y l' e1 e2
   injection h with h;subst h
   obtain ⟨h1,h2⟩:=C2 f hg e2
   simp only [List.map_cons]
   exact ⟨by rw [h1],_,_,rfl,f.ev hg e1,h2⟩
  ·cases h
theorem YM (m:Mem E B mu w H) (q:Tg):Fit (Zf E.r H q) w:=by
 cases q with
 | k j=>exact (m.mm.fit j).fit
 | _=>exact m.mm.fitr
def CC (g:Nat→List D) (i:Nat):List Value:=(oH (g i)).getD []
theorem nN (hT:TOk E.P TT) (k k':Nat) {t0 ts tx:Nat} {s x:Operand} {n m:Nat} {f g:Nat→List D} {id sz1 by1 e:Nat} {z:Value} {ef:Bool} {te ti2:TI} {md:Mu} {fr':Fr} {gf2:GF} {vx:V} {q:Tg} {ob:Ob}
  (hop:o.op = .call { callee := .builtin .append,args := #[s,x],argTypes := #[ts,tx] }) (hs:(ev [] fr gf s).bind gK=some k) (hx:ev [] fr gf x=some (.a vx)) (h1:tlk ts TT=some ⟨id,sz1,by1, .slc e,z,ef⟩) (h2:tlk e TT=some te) (h3:tlk tx TT=some ti2) (h4:ti2.kind = .slc e) (hk:mlk k mu=some (.arr te.sz n f)) (hkx:slR mu vx=some (q,te.sz,m,g,ob)) (hgd:cU t0 gf=some gf')
  (hmd:dR [k,k'] mu=some md) (hcut:gP [k] fr gf'=some (fr',gf2)) (hb:(n+m) * te.by_≤140737488355328∧n+m≤maxL)
  (kk:SJ G J E ((t0, .a (.g k')) :: fr') gf2 ((k', .arr te.sz (n+m) (mX n f g)) :: md)) (hone:∀ i,i<m→∃ l,oH (g i)=some l:=by exact fun _ _=>⟨_,rfl⟩) (hz:(kA te.zero).map (·.length)=some te.sz:=by exact rfl) (hpos:0<te.sz:=by exact Nat.lt_of_sub_eq_succ rfl) (hkeys:gE [k] [k'] [(k, .arr te.sz n f)] fr gf mu E.A.ks G.ks=true:=by exact rfl) (hne:bD k' [k] = false:=by exact rfl) (hob:jJ ob:=by repeat (first | exact trivial | refine And.intro rfl ?_))
  (hg:o.guard=none:=by exact rfl) (hd:o.dst=some t0:=by exact rfl) (ht:Nat.blt t0 E.N=true:=by exact rfl):OJ G E all Q J o fr gf mu:=by
 refine PS (ι:=Unit) (ks:=[k]) (nk:=[k']) (mu1:=[(k, .arr te.sz n f)]) (φ:=fun _=>True) (res:=fun _ => .a (.g k')) (mu1':=fun _=>[(k', .arr te.sz (n+m) (mX n f g))]) (fun B a w H ff mm=>?_) hg hd ht hgd (fun _=>rfl) hkeys (fun _=>?_) hmd hcut fun _ _=>kk
 ·obtain ⟨d1,u2⟩:=JL hT h1 h2
  obtain ⟨v1,v2⟩:=hT.get h3
  obtain ⟨dx,dx1,dx2⟩:=v2.desc
  rw [h4] at dx2
  obtain rfl:=gQ dx2
  rw [v1] at dx1
  have e1:a.eval s=B k:=VW ff hs
  have sk:D.own (H k) (.sl te.sz n f) (B k):=mm.mm.sat k _ hk
  have hr:=x8 mm.mr.ms hkx hob (show vx.rel B (Zf E.r H) (a.eval x) from ff.ev (g:=[]) (fun _ _ hm=>by cases hm) hx)
  obtain ⟨A,c,ex,_,_,hcells⟩:=(show D.rd _ (.sl te.sz m g) _ from hr)
  have hrow:∀ i,i<m→g i=(CC g i).map D.v∧∀ u ∈ CC g i,eL u=true:=fun i hi=>by
   obtain ⟨l,hl⟩:=hone i hi
   have:=HD hl
   unfold CC
   rw [hl];exact this
  have hlies:0<m→∃ b o,A=some ⟨b,o,none⟩∧∀ i,i<m→(CC g i).length=te.sz∧∀ j,j<te.sz→Zf E.r H q b (o+i * te.sz+j)=(CC g i)[j]? := fun h0=>by
   rcases hcells with h | ⟨b,o,rfl,hr⟩
   ·omega
   ·refine ⟨b,o,rfl,fun i hi=>?_⟩
    obtain ⟨row,r1,r2,r3⟩:=hr i hi
    rw [(hrow i hi).1] at r1
    rw [C8 r1] at r2 r3
    exact ⟨r2,r3⟩
  have src:Src E.P te.sz tx (a.eval x) m (fM (CC g) m) w:=by
   rw [ex]
   exact R8 dx1 hlies (YM mm q) hpos fun i hi=>(hrow i hi).2
  obtain ⟨v,w',h',r1,r2,r3,r4,r5,r6⟩:=K2 (P:=E.P) (w:=w) (ty:=o.type) d1 u2 hpos (BZ hz) sk (mm.mm.fit k) src (G:=fun _=>PH.emp) (hx:=PH.emp) (g:=g) (fun i hi=>⟨by rw [(hrow i hi).1];exact o5,(hlies (by omega)).elim fun b h=>h.elim fun o h=>(h.2 i hi).1⟩) (fun i _=>PH.emp_le _) (fun _ _ _=>PH.emp_dj _) (FitO.emp _) (PH.dj_emp _) hb.1 hb.2
  refine ⟨(),v,w',_,_,?_,Ret1.new (mZ mm.mm) hne (oU mm _) r2 r3 r4 (r5.mono fun b _ o h=>⟨k,by simp [bJ,Ch.own?,bD,Nat.beq_refl],by unfold fV;simp only [bJ,Ch.own?,cond_true,bD,Nat.beq_refl];exact h⟩) fun b o h=>?_⟩
  ·obtain ⟨dst,op,type,pos,after,guard⟩:=o
   simp only at hop r1
   subst hop
   simp only [execOp,resolve,Sem.run_bind,Sem.run_pure,Result.andThen_ok,invoke,builtin,List.map_toArray,List.map_cons,List.map_nil,e1,r1]
  ·rcases r6 b o h with h | h | h
   ·exact .inl ⟨k,by simp [bJ,Ch.own?,bD,Nat.beq_refl],by unfold fV;simp only [bJ,Ch.own?,cond_true,bD,Nat.beq_refl];exact h⟩
   ·exact absurd rfl h
   ·exact .inr h
 ·simp [SV.inK,V.inK,kI,Ch.own?,Ch.rowL,iO,eC,bD,Nat.beq_refl]
theorem dK (hT:TOk E.P TT) (k':Nat) {t0 ts n:Nat} {parts:Array (Nat×Operand)} {ps:List (Nat×SV)} {id sz1 by1 e:Nat} {z:Value} {ef:Bool} {te:TI} {F0:List V} {F:List D} {ks:List Nat} {mu1 md:Mu} {fr':Fr} {gf2:GF} (f:Nat→List D)
  (hop:o.op = .buildSlice ts n parts) (hp:kM [] fr gf parts.toList=some ps)
  (h1:tlk ts TT=some ⟨id,sz1,by1, .slc e,z,ef⟩) (h2:tlk e TT=some te) (hgd:cU t0 gf=some gf') (hF:bsV te.sz ps (rJ te.zero.cells.toList n)=some F0) (hA:lV mu F0=some (F,ks)) (hf:∀ i,i<n→(F.drop (i * te.sz)).take te.sz=f i)
  (hm1:bJ mu1=ks) (hmd:dR (eC ks [k']) mu=some md) (hcut:gP ks fr gf'=some (fr',gf2))
  (kk:SJ G J E ((t0, .a (.g k')) :: fr') gf2 ((k', .arr te.sz n f) :: md)) (hz:(kA te.zero).map (·.length)=some te.sz:=by exact rfl) (hpos:0<te.sz:=by exact Nat.lt_of_sub_eq_succ rfl) (hn:Nat.ble (n * te.sz) 16777216=true:=by exact rfl) (hkeys:gE ks [k'] mu1 fr gf mu E.A.ks G.ks=true:=by exact rfl) (hne:bD k' ks=false:=by exact rfl)
  (hg:o.guard=none:=by exact rfl) (hd:o.dst=some t0:=by exact rfl) (ht:Nat.blt t0 E.N=true:=by exact rfl):OJ G E all Q J o fr gf mu:=by
 subst hm1
 refine PS (ι:=Unit) (ks:=bJ mu1) (nk:=[k']) (mu1:=mu1) (φ:=fun _=>True) (res:=fun _ => .a (.g k')) (mu1':=fun _=>[(k', .arr te.sz n f)]) (fun B a w H ff mm=>?_) hg hd ht hgd (fun _=>rfl) hkeys (fun _=>?_) hmd hcut fun _ _=>kk
 ·obtain ⟨d1,u2⟩:=JL hT h1 h2
  obtain ⟨i,i1,i2,i3,i4⟩:=u2.info
  have hzs:te.zero.cells.toList.length=te.sz:=by rw [Array.length_toList];exact BZ hz
  have hzv:te.zero.cells=te.zero.cells.toList.toArray:=by simp
  obtain ⟨p1,p2⟩:=C2 ff (g:=[]) (fun _ _ hm=>by cases hm) hp
  obtain ⟨ms,g1,g2⟩:=LC (P:=E.P) (B:=B) (Z:=Zf E.r H) p1 p2 (CT te.zero.cells.toList n) hF
  have hml:ms.length=n * te.sz:=by rw [V.rels_length g2,xT hF,sC,hzs]
  have hown:=F4 mm.mm hA g2
  have hone:=DN hA g2
  obtain ⟨Gr,r1,r2,r3⟩:=IR te.sz n hown (by rw [wA hA,xT hF,sC,hzs])
  have hn':n * te.sz≤16777216:=Nat.le_of_ble_eq_true hn
  have hfit:FitO (PH.row w.heap.size 0 ms) (w.alloc (.cells ms.toArray te.id)):=FitO.alloc w ms te.id
  have hfo:FitO (unK H (bJ mu1)) w:=OD mm.mm.fit _
  have hdd:(PH.row w.heap.size 0 ms).dj (unK H (bJ mu1)):=fun b o=>by
   cases c:unK H (bJ mu1) b o with
   | none=>exact .inr rfl
   | some u =>
    left
    have:=hfo.lt (b:=b) (o:=o) (by rw [c];simp)
    cases c2:PH.row w.heap.size 0 ms b o with
    | none=>rfl
    | some u2=>have:=PH.row_ne (x:=b) (y:=o) (by rw [c2];simp);omega
  have hfin:FitO ((PH.row w.heap.size 0 ms).un (unK H (bJ mu1))) (w.alloc (.cells ms.toArray te.id)):=hfit.un (hfo.ext (Below.ofAlloc w _))
  refine ⟨(), .slice (some ⟨w.heap.size,0,none⟩) n n,w.alloc (.cells ms.toArray te.id),_,_,?_,Ret1.new (mZ mm.mm) hne (oU mm _) rfl (h':=(PH.row w.heap.size 0 ms).un (unK H (bJ mu1))) (rV (hc:=PH.row w.heap.size 0 ms) (hp:=unK H (bJ mu1)) (G:=Gr) (row:=fun i=>(ms.drop (i * te.sz)).take te.sz) ⟨Nat.le_refl _,fun i hi=>⟨_,_,rfl,?_,fun j hj=>?_⟩,fun i q1 q2=>by omega⟩ ?_ (PH.le_un_left _ _) (PH.le_un_right hdd) hdd (fun i hi=>by rw [← hf i hi];exact r3 i hi) (fun i _=>r1 i) fun i j _ _ hij=>r2 i j hij) hfin ((Keep.alloc w _).mono fun _ _ _ h=>h.elim) fun b o h=>?_⟩
  ·obtain ⟨dst,op,type,pos,after,guard⟩:=o
   simp only at hop
   subst hop
   have e2:(parts.map fun p=>(p.1,a.eval p.2)).toList=parts.toList.map fun p=>(p.1,a.eval p.2):=Array.toList_map
   have hinit:=HQ (n:=n) hzs hpos
   simp only [execOp]
   have run2:∀ {s:Sem Value} {x:Value} {w':World},s.run E.P w = .ok x w'→(do pure (.value (← s)):Sem Next).run E.P w = .ok (.value x) w':=fun h=>by simp only [Sem.run_bind,h,Result.andThen_ok,Sem.run_pure]
   refine run2 ?_
   simp only [Instr.buildSlice,Sem.run_bind,b9 d1,Result.andThen_ok,kB i1,i2]
   rw [if_neg (by omega)]
   by_cases c:n * te.sz=0
   ·rw [if_pos c] at hinit
    rw [if_pos c]
    simp only [Sem.run_bind,Sem.run_pure,Result.andThen_ok]
    rw [hinit,e2,g1]
    simp only [Sem.run_bind,newRow,run_newObj,Result.andThen_ok,Sem.run_pure]
    rfl
   ·rw [if_neg c] at hinit
    rw [if_neg c]
    simp only [Sem.run_bind,zeroValue,uE i1,i4,Sem.run_pure,Result.andThen_ok]
    rw [hzv,hinit,e2,g1]
    simp only [Sem.run_bind,newRow,run_newObj,Result.andThen_ok,Sem.run_pure]
    rfl
  ·have h1:(i+1) * te.sz≤n * te.sz:=Nat.mul_le_mul_right _ hi
   rw [Nat.add_mul,Nat.one_mul] at h1
   simp only [List.length_take,List.length_drop];omega
  ·have:=PH.row_at (b:=w.heap.size) (off:=0) (l:=ms) (i * te.sz+j)
   rw [show (0:Nat)+i * te.sz+j=0+(i * te.sz+j) from by omega,this]
   rw [List.getElem?_take_of_lt hj,List.getElem?_drop]
  ·have:n≤n * te.sz:=Nat.le_mul_of_pos_right _ hpos
   unfold maxL;omega
  ·rcases PH.un_ne h with h | h
   ·exact .inr (by rw [PH.row_ne h];exact Nat.le_refl _)
   ·obtain ⟨j,j1,j2⟩:=P3 h
    exact .inl ⟨j,j1,by unfold fV;rw [j1];exact j2⟩
 ·have:bD k' (eC (bJ mu1) [k'])=true:=qR.2 (.inr (by simp [bD,Nat.beq_refl]))
  simp [SV.inK,V.inK,kI,Ch.own?,Ch.rowL,iO,this]
end
end
section
section
variable {E:Env} {B:BE} {mu mu':Mu} {w:World} {H:Nat→PH} {TT:List TI} {fr fr':Fr} {gf gf':GF} {a:Act} {all rest:List Oper} {Q:Exit→Act→World→Prop} {o:Oper} {J:Act→World→Prop} {G:AG} {R:Exit→Act→World→Prop} {K:List KF}
theorem WI (hT:TOk E.P TT) (k':Nat) {t0 ts:Nat} {l c:Operand} (n:Nat) {id sz1 by1 e:Nat} {z:Value} {ef:Bool} {te:TI} {md:Mu}
  (hop:o.op = .makeSlice ts l c) (hl:ev [] fr gf l=some (.a (.v (.int .i64 n)))) (hc:ev [] fr gf c=some (.a (.v (.int .i64 n)))) (h1:tlk ts TT=some ⟨id,sz1,by1, .slc e,z,ef⟩) (h2:tlk e TT=some te) (hgd:cU t0 gf=some gf') (hmd:dR [k'] mu=some md) (hn:n * te.by_≤140737488355328∧n≤maxL)
  (kk:SJ G J E ((t0, .a (.g k')) :: fr) gf' ((k', .arr te.sz n fun _=>zsD te.zero) :: md)) (hz:(kA te.zero).map (·.length)=some te.sz:=by exact rfl) (hpos:0<te.sz:=by exact Nat.lt_of_sub_eq_succ rfl) (hkeys:gE [] [k'] [] fr gf mu E.A.ks G.ks=true:=by exact rfl)
  (hg:o.guard=none:=by exact rfl) (hd:o.dst=some t0:=by exact rfl) (ht:Nat.blt t0 E.N=true:=by exact rfl):OJ G E all Q J o fr gf mu:=by
 refine PS (ι:=Unit) (ks:=[]) (nk:=[k']) (mu1:=[]) (φ:=fun _=>True) (res:=fun _ => .a (.g k')) (mu1':=fun _=>[(k', .arr te.sz n fun _=>zsD te.zero)]) (fun B a w H ff mm=>?_) hg hd ht hgd (fun _=>rfl) hkeys (fun _=>?_) hmd rfl fun _ _=>kk
 ·obtain ⟨d1,u2⟩:=JL hT h1 h2
  obtain ⟨i,i1,i2,i3,i4⟩:=u2.info
  have hzz:=BZ hz
  have hw:IntKind.i64.wrap (n:Int)=n:=IntWalk.i64_in _ (by unfold maxL at hn;omega)
  have hzr:(zeroValue te.id).run E.P w = .ok te.zero w:=by simp only [zeroValue,Sem.run_bind,uE i1,Result.andThen_ok,i4,Sem.run_pure]
  have hcs:=HQ (n:=n) (zs:=te.zero.cells.toList) (by rw [Array.length_toList];exact hzz) hpos
  have e1:a.eval l=_:=ff.ev (g:=[]) (fun _ _ hm=>by cases hm) hl
  have e2:a.eval c=_:=ff.ev (g:=[]) (fun _ _ hm=>by cases hm) hc
  have hrun:(Instr.makeSlice ts (.int .i64 n) (.int .i64 n)).run E.P w = .ok (.slice (some ⟨w.heap.size,0,none⟩) n n) (w.alloc (.cells (mR te.zero.cells.toList n).toArray te.id)):=by
   simp only [Instr.makeSlice,asInt,asIntOf,Sem.run_bind,Sem.run_pure,b9 d1,Result.andThen_ok,uE i1,hw,i3]
   have c1:(decide ((n:Int)<0) || decide (((te.by_:Int) * (n:Int)) > 2 ^ 48))=false:=by
    simp only [Bool.or_eq_false_iff,decide_eq_false_iff_not]
    refine ⟨by omega,?_⟩
    have:((te.by_:Int) * (n:Int))=((n * te.by_:Nat):Int):=by push_cast;rw [Int.mul_comm]
    rw [this]
    have:(2:Int) ^ 48=281474976710656:=by decide
    omega
   have c2:decide ((n:Int)<0)=false:=by simp
   have c3:decide ((n:Int) > (n:Int))=false:=by simp
   rw [if_neg (by rw [c1];simp)]
   simp only [Sem.run_bind,run_askRoom,Result.andThen_ok,kB i1,i2,Int.toNat_natCast]
   by_cases h0:n * te.sz=0
   ·rw [if_pos h0] at hcs
    simp only [h0,if_true,Sem.run_pure,Result.andThen_ok,newRow,Sem.run_bind,run_newObj]
    rw [← hcs]
    simp only [h0]
    rfl
   ·rw [if_neg h0] at hcs
    simp only [h0,if_false,Sem.run_bind,hzr,Sem.run_pure,Result.andThen_ok,newRow,run_newObj]
    rw [← hcs]
    rfl
  have hzl:(mR te.zero.cells.toList n).length=n * te.sz:=by rw [uI,Array.length_toList,hzz]
  refine ⟨(), .slice (some ⟨w.heap.size,0,none⟩) n n,w.alloc (.cells (mR te.zero.cells.toList n).toArray te.id),_,_,?_,Ret1.new (mZ mm.mm) rfl (oU mm _) rfl (h':=PH.row w.heap.size 0 (mR te.zero.cells.toList n)) (rV (hc:=PH.row w.heap.size 0 (mR te.zero.cells.toList n)) (hp:=PH.emp) (G:=fun _=>PH.emp) (row:=fun _=>te.zero.cells.toList) ⟨Nat.le_refl _,fun i hi=>⟨_,_,rfl,by rw [Array.length_toList];exact hzz,fun j hj=>?_⟩,fun i q1 q2=>by omega⟩ hn.2 (PH.le_refl _) (PH.emp_le _) (PH.dj_emp _) (fun i hi=>o5) (fun i _=>PH.emp_le _) fun i j _ _ hij=>PH.emp_dj _) (FitO.alloc w _ te.id) ((Keep.alloc w _).mono fun _ _ _ h=>h.elim) fun b o h => .inr (by rw [PH.row_ne h];exact Nat.le_refl _)⟩
  ·obtain ⟨dst,op,type,pos,after,guard⟩:=o
   simp only at hop
   subst hop
   simp only [execOp,e1,e2]
   simp only [Sem.run_bind,hrun,Result.andThen_ok,Sem.run_pure]
  ·have:=PH.row_at (b:=w.heap.size) (off:=0) (l:=mR te.zero.cells.toList n) (i * te.sz+j)
   have h1:(i+1) * te.sz≤n * te.sz:=Nat.mul_le_mul_right _ hi
   rw [Nat.add_mul,Nat.one_mul] at h1
   rw [show (0:Nat)+i * te.sz+j=0+(i * te.sz+j) from by omega,this,A5 (by rw [Array.length_toList,hzz];omega)]
   congr 1
   rw [Array.length_toList,hzz,Nat.mul_comm,Nat.mul_add_mod];exact Nat.mod_eq_of_lt hj
 ·simp [SV.inK,V.inK,kI,Ch.own?,Ch.rowL,iO,eC,bD,Nat.beq_refl]
theorem cL (hT:TOk E.P TT) (k kb k':Nat) {t0 ts tx:Nat} {s x:Operand} {n m:Nat} {f g:Nat→List D} {id sz1 by1 e:Nat} {z:Value} {ef:Bool} {te ti2:TI} {md:Mu} {fr':Fr} {gf2:GF}
  (hop:o.op = .call { callee := .builtin .append,args := #[s,x],argTypes := #[ts,tx] }) (hs:(ev [] fr gf s).bind gK=some k) (hx:ev [] fr gf x=some (.a (.g kb))) (h1:tlk ts TT=some ⟨id,sz1,by1, .slc e,z,ef⟩) (h2:tlk e TT=some te) (h3:tlk tx TT=some ti2) (h4:ti2.kind = .slc e) (hk:mlk k mu=some (.arr te.sz n f)) (hkb:mlk kb mu=some (.arr te.sz m g)) (hgd:cU t0 gf=some gf')
  (hmd:dR [k,kb,k'] mu=some md) (hcut:gP [k,kb] fr gf'=some (fr',gf2)) (hb:(n+m) * te.by_≤140737488355328∧n+m≤maxL)
  (kk:RJ E all (KQ E.P R K) rest ((t0, .a (.g k')) :: fr') gf2 ((k', .arr te.sz (n+m) (mX n f g)) :: md)) (hone:∀ i,i<m→vC (g i)=true:=by exact fun _ _=>rfl) (hz:(kA te.zero).map (·.length)=some te.sz:=by exact rfl) (hpos:0<te.sz:=by exact Nat.lt_of_sub_eq_succ rfl) (hkeys:gE [k,kb] [k'] [(k, .arr te.sz n f),(kb, .arr te.sz m g)] fr gf mu E.A.ks [] = true:=by exact rfl) (hne:(Nat.beq k kb || bD k' [k,kb])=false:=by exact rfl)
  (hg:o.guard=none:=by exact rfl) (hd:o.dst=some t0:=by exact rfl) (ht:Nat.blt t0 E.N=true:=by exact rfl):RJ E all (KQ E.P R K) (o :: rest) fr gf mu :=
 iX (dE (G:=AG.nil) hT k kb k' hop hs hx h1 h2 h3 h4 hk hkb hgd hmd hcut hb (jS kk) hone hz hpos hkeys hne hg hd ht)
theorem qI (hT:TOk E.P TT) (k k':Nat) {t0 ts tx:Nat} {s x:Operand} {n m:Nat} {f g:Nat→List D} {id sz1 by1 e:Nat} {z:Value} {ef:Bool} {te ti2:TI} {md:Mu} {fr':Fr} {gf2:GF} {vx:V} {q:Tg} {ob:Ob}
  (hop:o.op = .call { callee := .builtin .append,args := #[s,x],argTypes := #[ts,tx] }) (hs:(ev [] fr gf s).bind gK=some k) (hx:ev [] fr gf x=some (.a vx)) (h1:tlk ts TT=some ⟨id,sz1,by1, .slc e,z,ef⟩) (h2:tlk e TT=some te) (h3:tlk tx TT=some ti2) (h4:ti2.kind = .slc e) (hk:mlk k mu=some (.arr te.sz n f)) (hkx:slR mu vx=some (q,te.sz,m,g,ob)) (hgd:cU t0 gf=some gf')
  (hmd:dR [k,k'] mu=some md) (hcut:gP [k] fr gf'=some (fr',gf2)) (hb:(n+m) * te.by_≤140737488355328∧n+m≤maxL)
  (kk:RJ E all (KQ E.P R K) rest ((t0, .a (.g k')) :: fr') gf2 ((k', .arr te.sz (n+m) (mX n f g)) :: md)) (hone:∀ i,i<m→∃ l,oH (g i)=some l:=by exact fun _ _=>⟨_,rfl⟩) (hz:(kA te.zero).map (·.length)=some te.sz:=by exact rfl) (hpos:0<te.sz:=by exact Nat.lt_of_sub_eq_succ rfl) (hkeys:gE [k] [k'] [(k, .arr te.sz n f)] fr gf mu E.A.ks [] = true:=by exact rfl) (hne:bD k' [k] = false:=by exact rfl) (hob:jJ ob:=by repeat (first | exact trivial | refine And.intro rfl ?_))
  (hg:o.guard=none:=by exact rfl) (hd:o.dst=some t0:=by exact rfl) (ht:Nat.blt t0 E.N=true:=by exact rfl):RJ E all (KQ E.P R K) (o :: rest) fr gf mu :=
 iX (nN (G:=AG.nil) hT k k' hop hs hx h1 h2 h3 h4 hk hkx hgd hmd hcut hb (jS kk) hone hz hpos hkeys hne hob hg hd ht)
theorem cJ (hT:TOk E.P TT) (k':Nat) {t0 ts n:Nat} {parts:Array (Nat×Operand)} {ps:List (Nat×SV)} {id sz1 by1 e:Nat} {z:Value} {ef:Bool} {te:TI} {F0:List V} {F:List D} {ks:List Nat} {mu1 md:Mu} {fr':Fr} {gf2:GF} (f:Nat→List D)
  (hop:o.op = .buildSlice ts n parts) (hp:kM [] fr gf parts.toList=some ps)
  (h1:tlk ts TT=some ⟨id,sz1,by1, .slc e,z,ef⟩) (h2:tlk e TT=some te) (hgd:cU t0 gf=some gf') (hF:bsV te.sz ps (rJ te.zero.cells.toList n)=some F0) (hA:lV mu F0=some (F,ks)) (hf:∀ i,i<n→(F.drop (i * te.sz)).take te.sz=f i)
  (hm1:bJ mu1=ks) (hmd:dR (eC ks [k']) mu=some md) (hcut:gP ks fr gf'=some (fr',gf2))
  (kk:RJ E all (KQ E.P R K) rest ((t0, .a (.g k')) :: fr') gf2 ((k', .arr te.sz n f) :: md)) (hz:(kA te.zero).map (·.length)=some te.sz:=by exact rfl) (hpos:0<te.sz:=by exact Nat.lt_of_sub_eq_succ rfl) (hn:Nat.ble (n * te.sz) 16777216=true:=by exact rfl) (hkeys:gE ks [k'] mu1 fr gf mu E.A.ks [] = true:=by exact rfl) (hne:bD k' ks=false:=by exact rfl)
  (hg:o.guard=none:=by exact rfl) (hd:o.dst=some t0:=by exact rfl) (ht:Nat.blt t0 E.N=true:=by exact rfl):RJ E all (KQ E.P R K) (o :: rest) fr gf mu :=
 iX (dK (G:=AG.nil) hT k' f hop hp h1 h2 hgd hF hA hf hm1 hmd hcut (jS kk) hz hpos hn hkeys hne hg hd ht)
theorem aL (k':Nat) {t0 ts n:Nat} {parts:Array (Nat×Operand)} {ps:List (Nat×SV)} {id sz1 by1 e:Nat} {z:Value} {ef:Bool} {te:TI} {F0:List V} {F:List D} {ks:List Nat} {mu1 md:Mu} {fr':Fr} {gf2:GF} (f:Nat→List D) (hf:∀ i,i<n→(F.drop (i * te.sz)).take te.sz=f i) (kk:RJ E all (KQ E.P R K) rest ((t0, .a (.g k')) :: fr') gf2 ((k', .arr te.sz n f) :: md)) (hT:TOk E.P TT:=by exact TT_ok) (hop:o.op = .buildSlice ts n parts:=by exact rfl) (hp:kM [] fr gf parts.toList=some ps:=by exact rfl) (h1:tlk ts TT=some ⟨id,sz1,by1, .slc e,z,ef⟩:=by exact rfl) (h2:tlk e TT=some te:=by exact rfl) (hgd:cU t0 gf=some gf':=by exact rfl) (hF:bsV te.sz ps (rJ te.zero.cells.toList n)=some F0:=by exact rfl) (hA:lV mu F0=some (F,ks):=by exact rfl) (hm1:bJ mu1=ks:=by exact rfl) (hmd:dR (eC ks [k']) mu=some md:=by exact rfl) (hcut:gP ks fr gf'=some (fr',gf2):=by exact rfl) (hz:(kA te.zero).map (·.length)=some te.sz:=by exact rfl) (hpos:0<te.sz:=by exact Nat.lt_of_sub_eq_succ rfl) (hn:Nat.ble (n * te.sz) 16777216=true:=by exact rfl) (hkeys:gE ks [k'] mu1 fr gf mu E.A.ks [] = true:=by exact rfl) (hne:bD k' ks=false:=by exact rfl) (hg:o.guard=none:=by exact rfl) (hd:o.dst=some t0:=by exact rfl) (ht:Nat.blt t0 E.N=true:=by exact rfl):RJ E all (KQ E.P R K) (o :: rest) fr gf mu:=cJ hT k' f hop hp h1 h2 hgd hF hA hf hm1 hmd hcut kk hz hpos hn hkeys hne hg hd ht
theorem FT (hT:TOk E.P TT) (k':Nat) {t0 ts:Nat} {l c:Operand} (n:Nat) {id sz1 by1 e:Nat} {z:Value} {ef:Bool} {te:TI} {md:Mu}
  (hop:o.op = .makeSlice ts l c) (hl:ev [] fr gf l=some (.a (.v (.int .i64 n)))) (hc:ev [] fr gf c=some (.a (.v (.int .i64 n)))) (h1:tlk ts TT=some ⟨id,sz1,by1, .slc e,z,ef⟩) (h2:tlk e TT=some te) (hgd:cU t0 gf=some gf') (hmd:dR [k'] mu=some md) (hn:n * te.by_≤140737488355328∧n≤maxL)
  (kk:RJ E all (KQ E.P R K) rest ((t0, .a (.g k')) :: fr) gf' ((k', .arr te.sz n fun _=>zsD te.zero) :: md)) (hz:(kA te.zero).map (·.length)=some te.sz:=by exact rfl) (hpos:0<te.sz:=by exact Nat.lt_of_sub_eq_succ rfl) (hkeys:gE [] [k'] [] fr gf mu E.A.ks [] = true:=by exact rfl)
  (hg:o.guard=none:=by exact rfl) (hd:o.dst=some t0:=by exact rfl) (ht:Nat.blt t0 E.N=true:=by exact rfl):RJ E all (KQ E.P R K) (o :: rest) fr gf mu :=
 iX (WI (G:=AG.nil) hT k' n hop hl hc h1 h2 hgd hmd hn (jS kk) hz hpos hkeys hg hd ht)
end
end
section
section
variable {P:Program} {ops:Array Oper} {Q:Exit→Act→World→Prop} {S:World→Prop}
def afB (ops:Array Oper) (k j:Nat):Bool:=match ops[k]? with
 | some o=>o.after.any fun e=>Region.binds .any e && Nat.beq e.on j
 | none=>false
def afT (ops:Array Oper):Nat→Nat→Nat→Bool
 | 0,k,j=>afB ops k j
 | n+1,k,j=>afB ops k j || (List.range ops.size).any fun m=>afB ops k m && afT ops n m j
def DL (ops:Array Oper) (i:Nat):Bool:=(List.range ops.size).all fun k=>Nat.beq k i || afB ops i k || afB ops k i || afT ops 3 i k || afT ops 3 k i
def Lw (P:Program) (ops:Array Oper) (Q:Exit→Act→World→Prop) (S:World→Prop):Nat→Array Bool→Act→World→Prop
 | 0,l,a,w => ∀ w',Below w.heap.size w w'→Region.ready .any ops l=[] ∧ Q .normal a w'
 | n+1,l,a,w => ∀ w',Below w.heap.size w w'→(Region.ready .any ops l=[] → Q .normal a w') ∧
  ∀ i ∈ Region.ready .any ops l,wpOp P ops Q i (fun a' w' => ∃ S',(S'=S∨DL ops i=true)∧S' w'∧Lw P ops Q S' n (l.setIfInBounds i true) a' w') a w'
theorem Below.later {a b c:World} (h:Below a.heap.size a b) (k:Below b.heap.size b c):Below a.heap.size a c:=h.trans (k.mono h.size)
theorem Lw.up {w w':World} (hb:Below w.heap.size w w'):∀ {n:Nat} {l:Array Bool} {a:Act},Lw P ops Q S n l a w→Lw P ops Q S n l a w'
 | 0,_,_,h=>fun w2 hb2=>h w2 (Below.later hb hb2)
 | _+1,_,_,h=>fun w2 hb2=>h w2 (Below.later hb hb2)
theorem Lw.any:∀ {S:World→Prop} {n:Nat} {l:Array Bool} {a:Act} {w:World},Lw P ops Q S n l a w→wpAny P .any ops Q n l a w
 | _,0,_,_,w,h=>h w (Below.refl _ _)
 | _,n+1,l,a,w,h=>⟨(h w (Below.refl _ _)).1,fun i hi=>wpOp_mono (fun a' w' ⟨_,_,_,h'⟩=>Lw.any h') ((h w (Below.refl _ _)).2 i hi)⟩
def Qu (P:Program) (s:Sem Next) (v:Value) (w:World):Prop :=
 s.run P w = .ok (.value v) w∨∃ f args,s.run P w = .ok (.enter f args) w∧Calls P f args w fun e w'=>e = .returned v∧Below w.heap.size w w'
def Yi (P:Program) (ops:Array Oper) (S:World→Prop) (o:Oper) (v:Value) (a:Act):Prop :=
 (Region.wanted o (yielded ops a.tmps)=true∧∀ w,S w→Qu P (execOp a.eval o) v w)∨(Region.wanted o (yielded ops a.tmps)=false∧v=undef)
theorem Yi.wpOp {i:Nat} {o:Oper} {v:Value} {a:Act} (hi:ops[i]? = some o) (hy:Yi P ops S o v a) {K:Act→World→Prop} {w:World} (hw:S w) (h:∀ w',Below w.heap.size w w'→K (a.put o.dst v) w'):wpOp P ops Q i K a w:=by
 unfold Go.wpOp
 simp only [hi]
 rcases hy with ⟨h1,h2⟩ | ⟨h1,rfl⟩
 ·rw [if_pos h1]
  refine .inl ?_
  unfold Oper.wp
  rcases h2 w hw with h3 | ⟨f,args,h3,h4⟩
  ·rw [h3];exact h w (Below.refl _ _)
  ·rw [h3]
   exact h4.mono fun e w' ⟨e1,e2⟩=>by subst e1;exact h w' e2
 ·simp only [h1,Bool.false_eq_true,if_false];exact h w (Below.refl _ _)
theorem Yi.of_same {o:Oper} {v:Value} {a a':Act} (hy:Yi P ops S o v a) (he:execOp a'.eval o=execOp a.eval o) (hw:Region.wanted o (yielded ops a'.tmps)=Region.wanted o (yielded ops a.tmps)):Yi P ops S o v a':=by
 unfold Yi at *
 rw [he,hw]
 exact hy
theorem P8 {j:Nat} {oi oj:Oper} {v:Value} (hj:ops[j]? = some oj) (hap:oi.apart ops oj=true) (hsi:∀ cs b,oi.op ≠ .select cs b) (hsj:∀ cs b,oj.op ≠ .select cs b)
  (hQ:∀ c a w,Q (.panic c) (a.put oi.dst v) w→Q (.panic c) a w) {K:Act→World→Prop} {a:Act} {w:World} (hy:Yi P ops S oi v a) (h:wpOp P ops Q j K (a.put oi.dst v) w) :
  wpOp P ops Q j (fun a' w'=>Yi P ops S oi v a'∧K (a'.put oi.dst v) w') a w:=by
 obtain ⟨h1,h2,h3⟩:=Oper.apart_spec hap
 have keep:∀ (a:Act),Yi P ops S oi v a→∀ u,Yi P ops S oi v (a.put oj.dst u):=fun a hy u=>hy.of_same (execOp_put oi hsi a oj.dst u h3) (wanted_put oi a oj.dst u h3)
 have keepD:∀ d,Yi P ops S oi v { a with defers:=d :: a.defers }:=fun d=>hy.of_same rfl rfl
 unfold wpOp at *
 simp only [hj] at *
 rw [wanted_put oj a oi.dst v h1] at h
 split
 ·rename_i hw
  simp only [hw,if_true] at h
  rcases h with h | ⟨hasks,hlets⟩
  case inr=>exact .inr ⟨by unfold Oper.asks at *;rw [execOp_put oj hsj a oi.dst v h1] at hasks;exact hasks,hlets⟩
  refine .inl ?_
  unfold Oper.wp at *
  rw [execOp_put oj hsj a oi.dst v h1] at h
  generalize (execOp a.eval oj).run P w=r at *
  cases r with
  | ok n w' =>
   cases n <;>simp only [Oper.upon] at h ⊢
   case value u=>exact ⟨keep a hy u,by rw [← Act.put_comm a v u h2];exact h⟩
   case skip=>exact ⟨keep a hy _,by rw [← Act.put_comm a v undef h2];exact h⟩
   case defer d =>
    refine ⟨keep _ (keepD d) _,?_⟩
    rw [← Act.put_comm _ v undef h2, ← Act.put_defers]
    exact h
   case enter f args =>
    refine Calls.mono h fun e w'' he=>?_
    cases e with
    | returned u=>exact ⟨keep a hy u,by rw [← Act.put_comm a v u h2];exact he⟩
    | panicked c=>exact hQ _ _ _ he
    | outgrown=>exact he
   case row row args=>exact Rows.mono h fun u w'' he=>⟨keep a hy u,by rw [← Act.put_comm a v u h2];exact he⟩
  | halt x w' =>
   cases x <;>simp only [Oper.upon] at h ⊢
   case panic u=>exact hQ _ _ _ h
 ·rename_i hw
  simp only [hw] at h
  exact ⟨keep a hy _,by rw [← Act.put_comm a v undef h2];exact h⟩
def Closed (ops:Array Oper) (l:Array Bool):Prop := ∀ j oj,ops[j]? = some oj→l.getD j false=true→∀ e ∈ oj.after,Region.binds .any e=true→l.getD e.on false=true
theorem Closed.set {l:Array Bool} {i:Nat} (h:Closed ops l) (hi:i ∈ Region.ready .any ops l):Closed ops (l.setIfInBounds i true):=by
 obtain ⟨_,oi,hoi,hall⟩:=mem_ready.1 hi
 intro j oj hj hl e he hb
 by_cases hij:i=j
 ·subst hij
  rw [hj] at hoi
  injection hoi with hoi
  subst hoi
  exact getD_set_true (hall e he hb)
 ·rw [getD_set_ne false hij] at hl
  exact getD_set_true (h j oj hj hl e he hb)
def N5 (ops:Array Oper) (l:Array Bool):Bool:=(List.range ops.size).all fun j => !(l.getD j false) || match ops[j]? with
 | some o=>o.after.all fun e => !Region.binds .any e || l.getD e.on false
 | none=>true
theorem KY {l:Array Bool} (h:N5 ops l=true):Closed ops l:=fun j oj hj hl e he hb=>by
 have h1:=List.all_eq_true.1 h j (List.mem_range.2 (Array.getElem?_eq_some_iff.1 hj).1)
 rw [hl,hj] at h1
 simp only [Bool.not_true,Bool.false_or] at h1
 have h2:=Array.all_eq_true'.1 h1 e he
 rw [hb] at h2
 simpa using h2
theorem Closed.un {l:Array Bool} {m i:Nat} (h:Closed ops l) (hm:l.getD m false=true) (ha:afB ops m i=true):l.getD i false=true:=by
 unfold afB at ha
 split at ha
 ·rename_i o ho
  obtain ⟨e,he,hb⟩:=Array.any_eq_true'.1 ha
  simp only [Bool.and_eq_true] at hb
  have:=h m o ho hm e he hb.1
  rwa [Nat.eq_of_beq_eq_true hb.2] at this
 ·cases ha
theorem Closed.chain {l:Array Bool} (h:Closed ops l):∀ {n m i:Nat},l.getD m false=true→afT ops n m i=true→l.getD i false=true
 | 0,_,_,hm,ha=>h.un hm ha
 | n+1,_,_,hm,ha=>by
  simp only [afT,Bool.or_eq_true] at ha
  rcases ha with ha | ha
  ·exact h.un hm ha
  ·obtain ⟨x,_,hx⟩:=List.any_eq_true.1 ha
   simp only [Bool.and_eq_true] at hx
   exact h.chain (h.un hm hx.1) hx.2
theorem DU {l:Array Bool} {j m:Nat} (hj:j ∈ Region.ready .any ops l) (ha:afB ops j m=true):l.getD m false=true:=by
 obtain ⟨_,oj,hoj,hall⟩:=mem_ready.1 hj
 unfold afB at ha
 rw [hoj] at ha
 obtain ⟨e,he,hb⟩:=Array.any_eq_true'.1 ha
 simp only [Bool.and_eq_true] at hb
 have:=hall e he hb.1
 rw [Nat.eq_of_beq_eq_true hb.2] at this
 rw [Array.getD_eq_getD_getElem?]
 first
  | exact this
  | (rw [Array.getD_eq_getD_getElem?] at this;cases x:l[m]? <;>simp_all)
theorem CJ {l:Array Bool} {j:Nat} (hcl:Closed ops l) (hj:j ∈ Region.ready .any ops l):∀ {n i:Nat},afT ops n j i=true→l.getD i false=true
 | 0,_,ha=>DU hj ha
 | n+1,_,ha=>by
  simp only [afT,Bool.or_eq_true] at ha
  rcases ha with ha | ha
  ·exact DU hj ha
  ·obtain ⟨x,_,hx⟩:=List.any_eq_true.1 ha
   simp only [Bool.and_eq_true] at hx
   exact hcl.chain (DU hj hx.1) hx.2
theorem UN (hup:∀ w w',Below w.heap.size w w'→S w→S w') {i:Nat} {oi:Oper} {v:Value} (hi:ops[i]? = some oi) (hsel:∀ (j:Nat) (o:Oper) cs b,ops[j]? = some o→o.op ≠ .select cs b) (hQ:∀ c a w,Q (.panic c) (a.put oi.dst v) w→Q (.panic c) a w) :
  ∀ (n:Nat) (l:Array Bool) (a:Act) (w:World),(∀ j oj,ops[j]? = some oj→j≠i→l.getD j true=false→(∀ e ∈ oj.after,Region.binds .any e=true→e.on≠i)→oi.apart ops oj=true) →
   i ∈ Region.ready .any ops l→Closed ops l→Yi P ops S oi v a→S w→Lw P ops Q S n (l.setIfInBounds i true) (a.put oi.dst v) w→Lw P ops Q S (n+1) l a w:=by
 intro n
 induction n with
 | zero =>
  intro l a w _ hr _ hy hS H w2 hb
  have hS2:=hup w w2 hb hS
  refine ⟨fun h=>(by rw [h] at hr;cases hr),fun j hj=>?_⟩
  by_cases hji:j=i
  ·subst hji;exact hy.wpOp hi hS2 fun w3 hb3=>⟨S, .inl rfl,hup w2 w3 hb3 hS2,Lw.up (Below.later hb hb3) H⟩
  ·have:=ready_mono hj hji
   rw [(H w2 hb).1] at this
   cases this
 | succ n ih =>
  intro l a w hfree hr hcl hy hS H w2 hb
  have hS2:=hup w w2 hb hS
  refine ⟨fun h=>(by rw [h] at hr;cases hr),fun j hj=>?_⟩
  by_cases hji:j=i
  ·subst hji;exact hy.wpOp hi hS2 fun w3 hb3=>⟨S, .inl rfl,hup w2 w3 hb3 hS2,Lw.up (Below.later hb hb3) H⟩
  ·have h1:=(H w2 hb).2 j (ready_mono hj hji)
   obtain ⟨hjun,oj,hoj,hall⟩:=mem_ready.1 hj
   have hiun:=(mem_ready.1 hr).1
   have hnot:∀ e ∈ oj.after,Region.binds .any e=true→e.on≠i:=fun e he hb heq=>by
    have h1:=hall e he hb
    rw [heq] at h1
    rcases Nat.lt_or_ge i l.size with h' | h'
    ·simp [h'] at hiun h1;rw [hiun] at h1;cases h1
    ·simp [Array.getElem?_eq_none h'] at h1
   have h2:=P8 (S:=S) hoj (hfree j oj hoj hji hjun hnot) (fun cs b=>hsel i oi cs b hi) (fun cs b=>hsel j oj cs b hoj) hQ hy h1
   have hfree':∀ k ok,ops[k]? = some ok→k≠i→(l.setIfInBounds j true).getD k true=false→(∀ e ∈ ok.after,Region.binds .any e=true→e.on≠i)→oi.apart ops ok=true:=fun k ok hk hki hun hno=>by
    refine hfree k ok hk hki ?_ hno
    by_cases hjk:j=k
    ·subst hjk;exact hjun
    ·rw [getD_set_ne true hjk] at hun;exact hun
   have hno:¬ DL ops j=true:=fun hc=>by
    have hin:i<ops.size:=(Array.getElem?_eq_some_iff.1 hi).1
    have hc:=List.all_eq_true.1 hc i (List.mem_range.2 hin)
    simp only [Bool.or_eq_true] at hc
    rcases hc with (((hc | hc) | hc) | hc) | hc
    ·exact hji (Nat.eq_of_beq_eq_true hc).symm
    ·unfold afB at hc
     rw [hoj] at hc
     obtain ⟨e,he,hb2⟩:=Array.any_eq_true'.1 hc
     simp only [Bool.and_eq_true] at hb2
     exact hnot e he hb2.1 (Nat.eq_of_beq_eq_true hb2.2)
    ·unfold afB at hc
     rw [hi] at hc
     obtain ⟨e,he,hb2⟩:=Array.any_eq_true'.1 hc
     simp only [Bool.and_eq_true] at hb2
     obtain ⟨_,oi',hoi',hall'⟩:=mem_ready.1 hr
     rw [hi] at hoi'
     injection hoi' with hoi'
     subst hoi'
     have h5:=hall' e he hb2.1
     rw [Nat.eq_of_beq_eq_true hb2.2] at h5
     rcases Nat.lt_or_ge j l.size with h' | h'
     ·simp [h'] at hjun h5;rw [hjun] at h5;cases h5
     ·simp [Array.getElem?_eq_none h'] at h5
    ·have:=CJ hcl hj hc
     rcases Nat.lt_or_ge i l.size with h' | h'
     ·simp [h'] at hiun this;rw [hiun] at this;cases this
     ·simp [Array.getElem?_eq_none h'] at this
    ·have:=CJ hcl hr hc
     rcases Nat.lt_or_ge j l.size with h' | h'
     ·simp [h'] at hjun this;rw [hjun] at this;cases this
     ·simp [Array.getElem?_eq_none h'] at this
   refine wpOp_mono (fun a' w' ⟨h30,S',hS',h31,h32⟩=>?_) h2
   obtain rfl:S'=S:=hS'.resolve_right hno
   refine ⟨S', .inl rfl,h31,ih (l.setIfInBounds j true) a' w' hfree' (ready_mono hr (Ne.symm hji)) (hcl.set hj) h30 h31 ?_⟩
   rw [Array.setIfInBounds_comm _ _ hji]
   exact h32
def mk (n:Nat) (tk:List Nat):Array Bool:=(Array.range n).map fun i=>tk.any (Nat.beq · i)
theorem xG (n i:Nat) (tk:List Nat):(mk n tk).setIfInBounds i true=mk n (i :: tk):=by
 apply Array.ext_getElem?
 intro j
 by_cases hij:i=j
 ·subst hij
  by_cases hn:i<n
  ·simp [mk,hn,Nat.beq_refl]
  ·simp [mk,hn]
 ·rw [Array.getElem?_setIfInBounds_ne hij]
  unfold mk
  rw [Array.getElem?_map,Array.getElem?_map]
  by_cases hn:j<n
  ·rw [Array.getElem?_range,if_pos hn]
   simp [hij,Nat.beq_eq]
  ·rw [Array.getElem?_range,if_neg hn];rfl
theorem YI (n:Nat):Array.replicate n false=mk n []:=by
 apply Array.ext_getElem?
 intro j
 by_cases hn:j<n <;>simp [mk,hn]
def rC (ops:Array Oper) (tk:List Nat) (i:Nat):Bool :=
 (Region.ready .any ops (mk ops.size tk)).contains i && Region.free .any ops (mk ops.size tk) i && Region.noSelect ops && N5 ops (mk ops.size tk)
def z5 (ops:Array Oper) (tk:List Nat) (i:Nat):Bool:=match Region.ready .any ops (mk ops.size tk) with
 | [j]=>Nat.beq j i
 | _=>false
end
section
variable {E:Env} {B:BE} {mu mu':Mu} {w:World} {H:Nat→PH} {TT:List TI} {fr fr':Fr} {gf gf':GF} {a:Act} {all rest:List Oper} {o:Oper} {J:Act→World→Prop} {G:AG} {R:Exit→Act→World→Prop} {K:List KF}
def PQ (R:Exit→Act→World→Prop):Prop := ∀ c a d v w,R (.panic c) (a.put d v) w→R (.panic c) a w
theorem nM {P:Program} (fn:Func) (Rp:Ending→World→Prop):PQ (bodyPost P fn Rp):=fun c a d v w h=>by
 cases d <;>exact h
theorem PE {P:Program} (hR:PQ R):∀ K:List KF,PQ (KQ P R K)
 | []=>hR
 | .seq c :: K=>fun c a d v w h=>PE hR K c a d v w h
 | .blk id :: K=>fun c a d v w h=>PE hR K c a d v w h
 | .loop I :: K=>fun c a d v w h=>PE hR K c a d v w h
def muR (ks:List Nat):Mu→Mu
 | []=>[]
 | (k,c) :: r=>bif bD k ks then (k,c) :: muR ks r else muR ks r
theorem xH {ks:List Nat}:∀ {mu:Mu} {k:Nat} {c:Ch},mlk k (muR ks mu)=some c→bD k ks=true∧mlk k mu=some c
 | [],_,_,h=>by cases h
 | (j,d) :: r,k,c,h=>by
  simp only [muR] at h
  cases e:bD j ks with
  | true =>
   rw [e] at h
   simp only [cond_true] at h
   rw [bO] at h ⊢
   by_cases hj:j=k
   ·subst hj;rw [if_pos rfl] at h ⊢;exact ⟨e,h⟩
   ·rw [if_neg hj] at h ⊢;exact xH h
  | false =>
   rw [e] at h
   simp only [cond_false] at h
   obtain ⟨h1,h2⟩:=xH h
   rw [bO]
   by_cases hj:j=k
   ·subst hj;rw [e] at h1;cases h1
   ·rw [if_neg hj];exact ⟨h1,h2⟩
def CA (ex:List Nat):Mu→List Nat
 | []=>[]
 | (k,_) :: r=>bif bD k ex then CA ex r else k :: CA ex r
def Sr (G:AG) (r:PH) (w:World):Prop:=Fit r w∧∀ k,bD k G.ks=true→Fit (G.H k) w
theorem Sr.up {r:PH} {w w':World} (hb:Below w.heap.size w w') (h:Sr G r w):Sr G r w':=⟨h.1.ext hb,fun k hk=>(h.2 k hk).ext hb⟩
theorem Mem.sr (m:Mem E B mu w H) (g:G.ok B H):Sr G E.r w:=⟨m.mm.fitr,fun k hk=>by rw [← (g k hk).2];exact (m.mm.fit k).fit⟩
theorem Mem.msR (m:Mem E B mu w H) (ks:List Nat):Ms B E.r (muR ks mu) H:=⟨fun k c e=>m.mm.sat k c (xH e).2,m.mm.dj,m.mm.djr⟩
theorem Sr.fw {w':World} {r:PH} (g:G.ok B H) (h:Sr G r w'):Fw r (muR G.ks mu) H w':=⟨fun k c e=>by rw [(g k (xH e).1).2];exact h.2 k (xH e).1,h.1⟩
def DJ (G:AG) (E:Env) (all:List Oper) (Q:Exit→Act→World→Prop) (n:Nat) (tk:List Nat) (fr:Fr) (gf:GF) (mu:Mu):Prop :=
 SJ G (Lw E.P all.toArray Q (Sr G E.r) n (mk all.toArray.size tk)) E fr gf mu
theorem Q9 {id:Nat} {l:List Oper} (ex:List Nat) (n:Nat) (hm:E.P.follows .mixedOrders=true) (hn:l.toArray.size=n) {ks:List Nat} (hks:CA ex mu=ks) (h:∀ B0 H0,DJ ⟨ks,B0,H0⟩ E l (KQ E.P R K) n [] fr [] mu):T E R (.region id l.toArray true) fr mu K:=fun B a w H f m=>by
 subst hn
 refine wp_region_any hm ?_
 rw [YI]
 exact (h B H B a _ H f (m.below (Keep.drew w).below) fun _ _=>⟨rfl,rfl⟩).any
theorem yJ (hR:PQ R) (i:Nat) {n:Nat} {tk:List Nat} {o:Oper} (hi:nth all i=some o) (hB:rC all.toArray tk i=true)
  (h:∀ B a w H,FitsE E B H fr gf a→Mem E B mu w H→G.ok B H→∃ v,Yi E.P all.toArray (Sr G E.r) o v a∧FitsE E B H fr' gf' (a.put o.dst v))
  (k:DJ G E all (KQ E.P R K) n (i :: tk) fr' gf' mu):DJ G E all (KQ E.P R K) (n+1) tk fr gf mu:=fun B a w H f m gg=>by
 simp only [rC,Bool.and_eq_true] at hB
 obtain ⟨⟨⟨b1,b2⟩,b3⟩,b4⟩:=hB
 have hi':all.toArray[i]? = some o:=by rw [mY] at hi;simpa using hi
 obtain ⟨v,hy,hf⟩:=h B a w H f m gg
 refine UN (fun w w' hb m=>m.up hb) hi' (Region.noSelect_spec b3) (fun c a w h=>PE hR K c a _ _ w h) n _ a w (Region.free_spec hi' b2) (by simpa using b1) (KY b4) hy (m.sr gg) ?_
 rw [xG]
 exact k B _ w H hf m gg
theorem XL (hT:TOk E.P TT) (hR:PQ R) (i:Nat) {n:Nat} {tk:List Nat} {o:Oper} {t:Nat} {x:SV} {q:Ob} (hi:nth all i=some o) (hB:rC all.toArray tk i=true) (hg:o.guard=none) (hd:o.dst=some t) (ht:Nat.blt t E.N=true)
  (hp:pst TT fr gf (muR G.ks mu) [] o.op=some (x,q)) {es es':List Prop} {gs gs':List GO} (hs:cP fr gf [] q es gs=some (es',gs')) (he:cC es') (ho:cB gs') (hgd:cU t gf=some gf')
  (k:DJ G E all (KQ E.P R K) n (i :: tk) ((t,x) :: fr) gf' mu):DJ G E all (KQ E.P R K) (n+1) tk fr gf mu :=
 yJ hR i hi hB (fun B a w H f m gg=>by
  obtain ⟨v,r1,r2⟩:=wV hT f (m.msR G.ks) (g:=[]) (fun _ _ hm=>by cases hm) hp (eS f (fun _ _ hm=>by cases hm) hs he ho)
  exact ⟨v, .inl ⟨eN hg,fun w' s' => .inl (r1 w' (s'.fw gg))⟩,by rw [hd];exact Fits.put f (by simpa [Nat.blt_eq] using ht) r2 hgd⟩) k
theorem T5 (hT:TOk E.P TT) (hR:PQ R) (i:Nat) {n:Nat} {tk:List Nat} {o:Oper} {t j d:Nat} {b:Bool} {x:SV} {q:Ob} (hi:nth all i=some o) (hB:rC all.toArray tk i=true) (hg:o.guard=some (j,b)) (hsl:rE all j=some d) (hd:o.dst=some t) (ht:(Nat.blt t E.N && !(Nat.beq t d))=true) (hn:mlk t fr=none)
  (hp:pst TT fr gf (muR G.ks mu) (iQ 6 gf d b) o.op=some (x,q)) {es es':List Prop} {gs gs':List GO} (hs:cP fr gf (iQ 6 gf d b) q es gs=some (es',gs')) (he:cC es') (ho:cB gs') (hgd:cU t gf=some gf')
  (k:DJ G E all (KQ E.P R K) n (i :: tk) fr ((t,d,b,x) :: gf') mu):DJ G E all (KQ E.P R K) (n+1) tk fr gf mu :=
 yJ hR i hi hB (fun B a w H f m gg=>by
  simp only [Bool.and_eq_true,Bool.not_eq_true'] at ht
  have htd:t≠d:=Nat.ne_of_beq_eq_false ht.2
  have htN:t<E.N:=by simpa [Nat.blt_eq] using ht.1
  have hw:=hY (ops:=all.toArray) (a:=a) hg (jZ hsl)
  by_cases hyes:a.tmps.getD d undef = .bool b
  ·have hacts:=mE f 6 d b hyes
   obtain ⟨v,r1,r2⟩:=wV hT f (m.msR G.ks) hacts hp (eS f hacts hs he ho)
   refine ⟨v, .inl ⟨hw.2 hyes,fun w' s' => .inl (r1 w' (s'.fw gg))⟩,?_⟩
   rw [hd];exact Fits.putG f htN htd hn hgd (.inl ⟨hyes,r2⟩)
  ·refine ⟨undef, .inr ⟨?_,rfl⟩,?_⟩
   ·cases e:Region.wanted o (yielded all.toArray a.tmps) with
    | false=>rfl
    | true=>exact absurd (hw.1 e) hyes
   ·rw [hd];exact Fits.putG f htN htd hn hgd (.inr ⟨hyes,rfl⟩)) k
def exL:List V→Option (List Value)
 | []=>some []
 | .v x :: r=>match exL r with
  | some l=>some (x :: l)
  | none=>none
 | _ :: _=>none
mutual
def exV:SV→Option Value
 | .a (.v x)=>some x
 | .ag l=>match exL l with
  | some m=>some (.agg m.toArray)
  | none=>none
 | .tu l=>match exVs l with
  | some m=>some (.tuple m.toArray)
  | none=>none
 | _=>none
def exVs:List SV→Option (List Value)
 | []=>some []
 | x :: r=>match exV x,exVs r with
  | some y,some l=>some (y :: l)
  | _,_=>none
end
theorem QV {Z:Tg→PH}:∀ {l:List V} {m:List Value},exL l=some m→∀ {vs:List Value},V.rels B Z l vs→vs=m
 | [],m,h,vs,e=>by simp [exL] at h;subst h;exact e
 | .v x :: r,m,h,vs,e=>by
  simp only [exL] at h
  cases c:exL r with
  | none=>rw [c] at h;cases h
  | some l =>
   rw [c] at h;injection h with h;subst h
   obtain ⟨a,t,rfl,e2,e3⟩:=e
   have e2:a=x:=e2
   rw [e2,QV c e3]
 | .s .. :: _,_,h,_,_=>by simp [exL] at h
 | .g .. :: _,_,h,_,_=>by simp [exL] at h
 | .p .. :: _,_,h,_,_=>by simp [exL] at h
 | .pe .. :: _,_,h,_,_=>by simp [exL] at h
 | .sb .. :: _,_,h,_,_=>by simp [exL] at h
 | .gl .. :: _,_,h,_,_=>by simp [exL] at h
 | .rp .. :: _,_,h,_,_=>by simp [exL] at h
 | .any :: _,_,h,_,_=>by simp [exL] at h
mutual
theorem exV_ok {P:Program} {Z:Tg→PH}:∀ {x:SV} {y:Value},exV x=some y→∀ {v:Value},SV.rel P B Z x v→v=y
 | .a (.v x),y,h,v,e=>by simp [exV] at h;subst h;exact e
 | .ag l,y,h,v,e=>by
  simp only [exV] at h
  cases c:exL l with
  | none=>rw [c] at h;cases h
  | some m =>
   rw [c] at h;injection h with h;subst h
   obtain ⟨vs,rfl,e2⟩:=e
   rw [QV c e2]
 | .tu l,y,h,v,e=>by
  simp only [exV] at h
  cases c:exVs l with
  | none=>rw [c] at h;cases h
  | some m =>
   rw [c] at h;injection h with h;subst h
   obtain ⟨vs,rfl,e2⟩:=e
   rw [exVs_ok c e2]
 | .a (.s ..),_,h,_,_=>by simp [exV] at h
 | .a (.g ..),_,h,_,_=>by simp [exV] at h
 | .a (.p ..),_,h,_,_=>by simp [exV] at h
 | .a (.pe ..),_,h,_,_=>by simp [exV] at h
 | .a (.sb ..),_,h,_,_=>by simp [exV] at h
 | .a (.gl ..),_,h,_,_=>by simp [exV] at h
 | .a (.rp ..),_,h,_,_=>by simp [exV] at h
 | .a .any,_,h,_,_=>by simp [exV] at h
 | .fn ..,_,h,_,_=>by simp [exV] at h
 | .fb ..,_,h,_,_=>by simp [exV] at h
 | .un,_,h,_,_=>by simp [exV] at h
theorem exVs_ok {P:Program} {Z:Tg→PH}:∀ {x:List SV} {y:List Value},exVs x=some y→∀ {v:List Value},SV.rels P B Z x v→v=y
 | [],y,h,v,e=>by simp [exVs] at h;subst h;exact e
 | x :: r,y,h,v,e=>by
  simp only [exVs] at h
  split at h
  ·rename_i y' l c1 c2
   injection h with h;subst h
   obtain ⟨a,t,rfl,e2,e3⟩:=e
   rw [exV_ok c1 e2,exVs_ok c2 e3]
  ·cases h
end
theorem S5 (hR:PQ R) (i:Nat) {n:Nat} {tk:List Nat} {o:Oper} {f:Nat} {ks:List Nat} {args:List SV} {mu1:Mu} {res:SV} (C:Ans E.P f ks args mu1 res) {x:Value} (hx:exV res=some x) {svs args':List SV} {g:Option (Nat×Nat×Bool)} {t:Nat} {q:Ob} {gd:Gd} {es:List Prop} {gs:List GO} (hi:nth all i=some o) (hB:rC all.toArray tk i=true)
  (hc:g8 E.N all fr gf o=some (f,svs,g,t,gf')) (hgd:gd=match g with | none=>[] | some (_,d,b)=>iQ 6 gf d b) (hen:fK E.P f) (hko:bJ mu1=[]) (hres:res.inK ks=true)
  (hw:jC (muR G.ks mu) [] ks svs=some (args',q)) (ha:SVs.imp E.P args' args) (hs:cP fr gf gd q [] [] = some (es,gs)) (he:cC es) (ho:cB gs) (hin:jK (muR G.ks mu) mu1)
  (k:DJ G E all (KQ E.P R K) n (i :: tk) (frQ fr g t res) (gfQ gf' g t res) mu):DJ G E all (KQ E.P R K) (n+1) tk fr gf mu:=by
 have go:∀ {B a w H},FitsE E B H fr gf a→Mem E B mu w H→G.ok B H→(∀ d w,(d,w) ∈ gd→a.tmps.getD d undef = .bool w)→nP gd fr gf o.op=some (f,svs)→SV.rel E.P B (Zf E.r H) res x∧∀ w',Sr G E.r w'→Qu E.P (execOp a.eval o) x w':=fun {B a w H} ff m gg hgd0 hcall=>by
  have main:∀ w',Sr G E.r w'→∃ vals:List Value,(execOp a.eval o).run E.P w' = .ok (.enter f vals.toArray) w'∧Calls E.P f vals.toArray w' fun e w2 => ∃ v,e = .returned v∧(∀ Z,SV.rel E.P B Z res v)∧Below w'.heap.size w' w2:=fun w' s'=>by
   obtain ⟨vals,r1,r2⟩:=kY (w:=w') ff hgd0 hcall hen
   have ms:=m.msR G.ks
   have fw:=s'.fw (mu:=mu) gg
   exact ⟨vals,r1,FX C hko hres ⟨ms.sat,fw.fit,fw.fitr,ms.dj,ms.djr⟩ hw ha (eS ff hgd0 hs he ho) hin r2⟩
  refine ⟨?_,fun w' s'=>?_⟩
  ·have:∀ (r:SV) (x:Value),exV r=some x→SV.rel E.P B (Zf E.r H) r x:=by
    intro r
    have hl:∀ {l:List V} {m:List Value},exL l=some m→V.rels B (Zf E.r H) l m:=fun {l}=>by
     induction l with
     | nil=>intro m h;simp [exL] at h;subst h;rfl
     | cons y r ih =>
      intro m h
      cases y <;>simp only [exL] at h <;>first | (cases h;done) | skip
      cases c:exL r with
      | none=>rw [c] at h;cases h
      | some l=>rw [c] at h;injection h with h;subst h;exact ⟨_,_,rfl,rfl,ih c⟩
    refine SV.rec (motive_1:=fun r => ∀ (x:Value),exV r=some x→SV.rel E.P B (Zf E.r H) r x) (motive_2:=fun l => ∀ (m:List Value),exVs l=some m→SV.rels E.P B (Zf E.r H) l m) ?_ ?_ ?_ ?_ ?_ ?_ ?_ ?_ r
    ·intro y x h
     cases y <;>simp [exV] at h
     subst h;rfl
    ·intro l x h
     simp only [exV] at h
     cases c:exL l with
     | none=>rw [c] at h;cases h
     | some m=>rw [c] at h;injection h with h;subst h;exact ⟨m,rfl,hl c⟩
    ·intro f l x h;simp [exV] at h
    ·intro φ x h;simp [exV] at h
    ·intro l ih x h
     simp only [exV] at h
     cases c:exVs l with
     | none=>rw [c] at h;cases h
     | some m=>rw [c] at h;injection h with h;subst h;exact ⟨m,rfl,ih m c⟩
    ·intro x h;simp [exV] at h
    ·intro m h;simp [exVs] at h;subst h;rfl
    ·intro y l h1 h2 m h
     simp only [exVs] at h
     split at h
     ·rename_i y' l' c1 c2
      injection h with h;subst h
      exact ⟨_,_,rfl,h1 _ c1,h2 _ c2⟩
     ·cases h
   exact this _ _ hx
  ·obtain ⟨vals,r1,r2⟩:=main w' s'
   exact .inr ⟨f,_,r1,r2.mono fun e w2 ⟨v,c1,c2,c3⟩=>⟨by rw [c1,exV_ok hx (c2 (Zf E.r H))],c3⟩⟩
 match g,hc,hgd,k with
 | none,hc,hgd,k =>
  subst hgd
  obtain ⟨h1,h2,h3,h4,h5⟩:=pU hc
  refine yJ hR i hi hB (fun B a w H ff m gg=>?_) k
  obtain ⟨g1,g2⟩:=go ff m gg (fun _ _ hm=>by cases hm) h4
  exact ⟨x, .inl ⟨eN h1,g2⟩,by rw [h2];exact Fits.put ff (by simpa [Nat.blt_eq] using h3) g1 h5⟩
 | some (j,d,b),hc,hgd,k =>
  subst hgd
  obtain ⟨h1,h2,h3,h4,h5,h6,h7⟩:=pB hc
  simp only [Bool.and_eq_true,Bool.not_eq_true'] at h4
  have htd:t≠d:=Nat.ne_of_beq_eq_false h4.2
  have htN:t<E.N:=by simpa [Nat.blt_eq] using h4.1
  refine yJ hR i hi hB (fun B a w H ff m gg=>?_) k
  have hwt:=hY (ops:=all.toArray) (a:=a) h1 (jZ h2)
  by_cases hyes:a.tmps.getD d undef = .bool b
  ·have hacts:=mE ff 6 d b hyes
   obtain ⟨g1,g2⟩:=go ff m gg hacts h6
   refine ⟨x, .inl ⟨hwt.2 hyes,g2⟩,?_⟩
   rw [h3];exact Fits.putG ff htN htd h5 h7 (.inl ⟨hyes,g1⟩)
  ·refine ⟨undef, .inr ⟨?_,rfl⟩,?_⟩
   ·cases e:Region.wanted o (yielded all.toArray a.tmps) with
    | false=>rfl
    | true=>exact absurd (hwt.1 e) hyes
   ·rw [h3];exact Fits.putG ff htN htd h5 h7 (.inr ⟨hyes,rfl⟩)
def pS (TT:List TI) (N:Nat) (all:List Oper) (mu:Mu):List Nat→Fr→GF→List Nat→List Prop→List GO→Option (List Nat×Fr×GF×List Nat×List Prop×List GO)
 | [],fr,gf,tk,es,gs=>some ([],fr,gf,tk,es,gs)
 | i :: r,fr,gf,tk,es,gs=>match nth all i with
  | none=>none
  | some o=>match o.guard with
   | none=>match pst TT fr gf mu [] o.op,o.dst with
    | some (x,q),some t=>match cP fr gf [] q es gs,cU t gf with
     | some (es',gs'),some gf'=>bif Nat.blt t N then pS TT N all mu r ((t,x) :: fr) gf' (i :: tk) es' gs' else none
     | _,_=>none
    | _,_=>some (i :: r,fr,gf,tk,es,gs)
   | some (j,w)=>match rE all j with
    | some d=>match pst TT fr gf mu (iQ 6 gf d w) o.op,o.dst with
     | some (x,q),some t=>match mlk t fr with
      | none=>match cP fr gf (iQ 6 gf d w) q es gs,cU t gf with
       | some (es',gs'),some gf'=>bif (Nat.blt t N && !(Nat.beq t d)) then pS TT N all mu r fr ((t,d,w,x) :: gf') (i :: tk) es' gs' else none
       | _,_=>none
      | some _=>none
     | _,_=>some (i :: r,fr,gf,tk,es,gs)
    | none=>none
def tI:Nat→Nat→List Nat
 | _,0=>[]
 | i,n+1=>i :: tI (i+1) n
def nR (ops:Array Oper):List Nat→List Nat→List Nat→Bool
 | [],_,_=>true
 | i :: is,is',tk=>bif Nat.beq is.length.succ is'.length then true else (rC ops tk i && nR ops is is' (i :: tk))
theorem nB (hT:TOk E.P TT) (hR:PQ R):∀ (is:List Nat) (fr:Fr) (gf:GF) (tk:List Nat) (es:List Prop) (gs:List GO) {is':List Nat} {fr':Fr} {gf':GF} {tk':List Nat} {es':List Prop} {gs':List GO},pS TT E.N all (muR G.ks mu) is fr gf tk es gs=some (is',fr',gf',tk',es',gs')→is'.length≤is.length∧(nR all.toArray is is' tk=true→cC es'∧cB gs' →
  (cC es∧cB gs)∧(DJ G E all (KQ E.P R K) is'.length tk' fr' gf' mu→DJ G E all (KQ E.P R K) is.length tk fr gf mu))
 | [],fr,gf,tk,es,gs,is',fr',gf',tk',es',gs',h=>by
  simp only [pS,Option.some.injEq,Prod.mk.injEq] at h
  obtain ⟨rfl,rfl,rfl,rfl,rfl,rfl⟩:=h
  exact ⟨Nat.le_refl _,fun _ ho=>⟨ho,id⟩⟩
 | i :: is,fr,gf,tk,es,gs,is',fr',gf',tk',es',gs',h=>by
  have stop:some (i :: is,fr,gf,tk,es,gs)=some (is',fr',gf',tk',es',gs')→is'.length≤(i :: is).length∧(nR all.toArray (i :: is) is' tk=true→cC es'∧cB gs'→(cC es∧cB gs)∧(DJ G E all (KQ E.P R K) is'.length tk' fr' gf' mu→DJ G E all (KQ E.P R K) (i :: is).length tk fr gf mu)):=fun h=>by
   simp only [Option.some.injEq,Prod.mk.injEq] at h
   obtain ⟨rfl,rfl,rfl,rfl,rfl,rfl⟩:=h
   exact ⟨Nat.le_refl _,fun _ ho=>⟨ho,id⟩⟩
  have go:∀ {fr2 gf2 es2 gs2},pS TT E.N all (muR G.ks mu) is fr2 gf2 (i :: tk) es2 gs2=some (is',fr',gf',tk',es',gs')→(rC all.toArray tk i=true→cC es2∧cB gs2→(cC es∧cB gs)∧(DJ G E all (KQ E.P R K) is.length (i :: tk) fr2 gf2 mu→DJ G E all (KQ E.P R K) (is.length+1) tk fr gf mu)) →
    is'.length≤(i :: is).length∧(nR all.toArray (i :: is) is' tk=true→cC es'∧cB gs'→(cC es∧cB gs)∧(DJ G E all (KQ E.P R K) is'.length tk' fr' gf' mu→DJ G E all (KQ E.P R K) (i :: is).length tk fr gf mu)):=fun h2 hk=>by
   obtain ⟨h3,h4⟩:=nB hT hR is _ _ _ _ _ h2
   refine ⟨Nat.le_trans h3 (by simp),fun hb ho=>?_⟩
   simp only [nR] at hb
   have:Nat.beq is.length.succ is'.length=false:=by
    cases e:Nat.beq is.length.succ is'.length with
    | false=>rfl
    | true=>have:=Nat.eq_of_beq_eq_true e;omega
   rw [this] at hb
   simp only [cond_false,Bool.and_eq_true] at hb
   obtain ⟨h5,h6⟩:=h4 hb.2 ho
   obtain ⟨h7,h8⟩:=hk hb.1 h5
   exact ⟨h7,fun k=>h8 (h6 k)⟩
  simp only [pS] at h
  split at h
  ·cases h
  ·rename_i o hi
   split at h
   ·rename_i hg
    split at h
    ·rename_i x q t hp hd
     split at h
     ·rename_i es2 gs2 gf2 hs hgd
      cases hbt:Nat.blt t E.N with
      | false=>rw [hbt] at h;cases h
      | true =>
       rw [hbt] at h
       simp only [cond_true] at h
       exact go h fun hb h1=>⟨hO hs h1,fun k=>XL hT hR i hi hb hg hd hbt hp hs h1.1 h1.2 hgd k⟩
     ·cases h
    ·exact stop h
   ·rename_i j w hg
    split at h
    ·rename_i d hsl
     split at h
     ·rename_i x q t hp hd
      split at h
      ·rename_i hn
       split at h
       ·rename_i es2 gs2 gf2 hs hgd
        cases hbt:(Nat.blt t E.N && !(Nat.beq t d)) with
        | false=>rw [hbt] at h;cases h
        | true =>
         rw [hbt] at h
         simp only [cond_true] at h
         exact go h fun hb h1=>⟨hO hs h1,fun k=>T5 hT hR i hi hb hg hsl hd hbt hn hp hs h1.1 h1.2 hgd k⟩
       ·cases h
      ·cases h
     ·exact stop h
    ·cases h
theorem oG:∀ i n,(tI i n).length=n
 | _,0=>rfl
 | i,n+1=>by rw [tI,List.length_cons,oG]
theorem zX {tk:List Nat} {i:Nat} (h:z5 all.toArray tk i=true):Region.ready .any all.toArray (mk all.toArray.size tk)=[i]:=by
 unfold z5 at h
 split at h
 ·rename_i j e;rw [e,Nat.eq_of_beq_eq_true h]
 ·cases h
theorem One.mono {P:Program} {ops:Array Oper} {Q:Exit→Act→World→Prop} {o:Oper} {J J':Act→World→Prop} {a:Act} {w:World} (hJ:∀ a w,J a w→J' a w) (h:One P ops Q o J a w):One P ops Q o J' a w:=by
 unfold One at *
 split
 ·rename_i hw
  rw [if_pos hw] at h
  exact h.imp (fun h=>Oper.wp_mono hJ h) id
 ·rename_i hw
  rw [if_neg hw] at h
  exact hJ _ _ h
theorem bB (i:Nat) {n:Nat} {tk:List Nat} {o:Oper} {Q:Exit→Act→World→Prop} (hi:nth all i=some o) (hB:z5 all.toArray tk i=true) (h:OJ G E all Q (fun a' w'=>Sr G E.r w'∧Lw E.P all.toArray Q (Sr G E.r) n (mk all.toArray.size (i :: tk)) a' w') o fr gf mu):DJ G E all Q (n+1) tk fr gf mu:=fun B a w H f m gg w2 hb=>by
 have hr:=zX hB
 have hi':all.toArray[i]? = some o:=by rw [mY] at hi;simpa using hi
 refine ⟨fun h0=>(by rw [hr] at h0;cases h0),fun j hj=>?_⟩
 rw [hr] at hj
 obtain rfl:=List.mem_singleton.1 hj
 have h1:=One.mono (fun a' w' (h:Sr G E.r w'∧Lw E.P all.toArray Q (Sr G E.r) n (mk all.toArray.size (j :: tk)) a' w')=>(⟨_, .inl rfl,h.1,h.2⟩:∃ S',(S'=Sr G E.r∨DL all.toArray j=true)∧S' w'∧Lw E.P all.toArray Q S' n (mk all.toArray.size (j :: tk)) a' w')) (h B a w2 H f (m.below hb) gg)
 unfold One at h1
 unfold wpOp
 rw [hi',xG]
 exact h1
theorem cZ (i j:Nat) {n:Nat} {tk:List Nat} {o p:Oper} {Q:Exit→Act→World→Prop} (hi:nth all i=some o) (hj:nth all j=some p) (hB:Region.ready .any all.toArray (mk all.toArray.size tk)=[i,j])
  (h:OJ G E all Q (fun a' w'=>Sr G E.r w'∧Lw E.P all.toArray Q (Sr G E.r) n (mk all.toArray.size (i :: tk)) a' w') o fr gf mu)
  (h2:OJ G E all Q (fun a' w'=>Sr G E.r w'∧Lw E.P all.toArray Q (Sr G E.r) n (mk all.toArray.size (j :: tk)) a' w') p fr gf mu):DJ G E all Q (n+1) tk fr gf mu:=fun B a w H f m gg w2 hb=>by
 have hi':all.toArray[i]? = some o:=by rw [mY] at hi;simpa using hi
 have hj':all.toArray[j]? = some p:=by rw [mY] at hj;simpa using hj
 refine ⟨fun h0=>(by rw [hB] at h0;cases h0),fun k hk=>?_⟩
 rw [hB] at hk
 rcases List.mem_cons.1 hk with rfl | hk
 ·have h1:=One.mono (fun a' w' (h:Sr G E.r w'∧Lw E.P all.toArray Q (Sr G E.r) n (mk all.toArray.size (k :: tk)) a' w')=>(⟨_, .inl rfl,h.1,h.2⟩:∃ S',(S'=Sr G E.r∨DL all.toArray k=true)∧S' w'∧Lw E.P all.toArray Q S' n (mk all.toArray.size (k :: tk)) a' w')) (h B a w2 H f (m.below hb) gg)
  unfold One at h1
  unfold wpOp
  rw [hi',xG]
  exact h1
 ·obtain rfl:=List.mem_singleton.1 hk
  have h1:=One.mono (fun a' w' (h:Sr G E.r w'∧Lw E.P all.toArray Q (Sr G E.r) n (mk all.toArray.size (k :: tk)) a' w')=>(⟨_, .inl rfl,h.1,h.2⟩:∃ S',(S'=Sr G E.r∨DL all.toArray k=true)∧S' w'∧Lw E.P all.toArray Q S' n (mk all.toArray.size (k :: tk)) a' w')) (h2 B a w2 H f (m.below hb) gg)
  unfold One at h1
  unfold wpOp
  rw [hj',xG]
  exact h1
theorem bA {n:Nat} {tk:List Nat} {Q:Exit→Act→World→Prop} (h:DJ G E all Q n tk fr gf mu):SJ G (fun a' w'=>Sr G E.r w'∧Lw E.P all.toArray Q (Sr G E.r) n (mk all.toArray.size tk) a' w') E fr gf mu:=fun B a w H f m gg=>⟨m.sr gg,h B a w H f m gg⟩
theorem D0 {n:Nat} {tk:List Nat} (hr:(Region.ready .any all.toArray (mk all.toArray.size tk)).isEmpty=true) (h:X E R (nxN K) fr mu):DJ G E all (KQ E.P R K) n tk fr gf mu:=fun B a w H f m gg=>by
 have hr':Region.ready .any all.toArray (mk all.toArray.size tk)=[]:=by simpa using hr
 have hq:=fun w' hb=>rZ (h B a w' H (Fits.ungf f) (m.below hb))
 cases n with
 | zero=>exact fun w' hb=>⟨hr',hq w' hb⟩
 | succ n=>exact fun w' hb=>⟨fun _=>hq w' hb,fun i hi=>by rw [hr'] at hi;cases hi⟩
theorem dN (hT:TOk E.P TT) (ex:List Nat) {id:Nat} {l:List Oper} {ks is' tk':List Nat} {es:List Prop} {gs:List GO} (hks:CA ex mu=ks) (ha:pS TT E.N l (muR ks mu) (tI 0 l.length) fr [] [] [] [] = some (is',fr',gf',tk',es,gs))
  (k:∀ B0 H0,DJ ⟨ks,B0,H0⟩ E l (KQ E.P R K) is'.length tk' fr' gf' mu) (hR:PQ R:=by exact nM _ _) (hm:E.P.follows .mixedOrders=true:=by kernel_rfl) (hb:nR l.toArray (tI 0 l.length) is' [] = true:=by kernel_rfl)
  (he:cC es:=by exact eD) (ho:cB gs:=by exact gD):T E R (.region id l.toArray true) fr mu K :=
 Q9 ex l.length hm (by simp) hks fun B0 H0=>by
  have:=(nB (G:=⟨ks,B0,H0⟩) (K:=K) hT hR _ _ _ _ _ _ ha).2 hb ⟨he,ho⟩
  rw [oG] at this
  exact this.2 (k B0 H0)
theorem iF (hT:TOk E.P TT) {n:Nat} {tk is' tk':List Nat} {f:Nat} {ks:List Nat} {args:List SV} {mu1:Mu} {res:SV} (C:Ans E.P f ks args mu1 res) {svs args':List SV} {g:Option (Nat×Nat×Bool)} {t:Nat} {q:Ob} {es0 es:List Prop} {gs0 gs:List GO} (hi:nth all tk.length=some o)
  (hc:g8 E.N all fr gf o=some (f,svs,g,t,gf')) (hw:jC (muR G.ks mu) [] ks svs=some (args',q)) (hae:args'=args) (hs:cP fr gf (match g with | none=>[] | some (_,d,b)=>iQ 6 gf d b) q [] [] = some (es0,gs0)) {gf3:GF}
  (ha:pS TT E.N all (muR G.ks mu) (tI (tk.length+1) n) (frQ fr g t res) (gfQ gf' g t res) (tk.length :: tk) es0 gs0=some (is',fr',gf3,tk',es,gs)) (k:DJ G E all (KQ E.P R K) is'.length tk' fr' gf3 mu)
  {x:Value} (hx:exV res=some x:=by exact rfl) (hR:PQ R:=by exact nM _ _) (hb:(rC all.toArray tk tk.length && nR all.toArray (tI (tk.length+1) n) is' (tk.length :: tk))=true:=by kernel_rfl)
  (hko:bJ mu1=[]:=by exact rfl) (hres:res.inK ks=true:=by exact rfl) (hin:jK (muR G.ks mu) mu1:=by repeat (first | exact trivial | refine And.intro ⟨_,rfl,tT⟩ ?_ | refine And.intro ⟨_,rfl,yG⟩ ?_ | refine And.intro ⟨_,rfl,uM⟩ ?_ | refine And.intro ⟨_,rfl,ZE _⟩ ?_)) (hen:fK E.P f:=by exact aB) (he:cC es:=by exact eD) (ho:cB gs:=by exact gD):DJ G E all (KQ E.P R K) (n+1) tk fr gf mu:=by
 simp only [Bool.and_eq_true] at hb
 subst hae
 obtain ⟨h3,h2⟩:=(nB (G:=G) (K:=K) hT hR _ _ _ _ _ _ ha).2 hb.2 ⟨he,ho⟩
 have h2:=h2 k
 rw [oG] at h2
 exact S5 hR _ C hx hi hb.1 hc rfl hen hko hres hw (ZF _) hs h3.1 h3.2 hin h2
theorem JC (hT:TOk E.P TT) {n:Nat} {tk is' tk':List Nat} {es:List Prop} {gs:List GO} (ha:pS TT E.N all (muR G.ks mu) (tI tk.length n) fr gf tk [] [] = some (is',fr',gf',tk',es,gs)) (k:DJ G E all (KQ E.P R K) is'.length tk' fr' gf' mu) (hR:PQ R:=by exact nM _ _) (hb:nR all.toArray (tI tk.length n) is' tk=true:=by kernel_rfl)
  (he:cC es:=by exact eD) (ho:cB gs:=by exact gD):DJ G E all (KQ E.P R K) n tk fr gf mu:=by
 have h2:=((nB (G:=G) (K:=K) hT hR _ _ _ _ _ _ ha).2 hb ⟨he,ho⟩).2 k
 rw [oG] at h2
 exact h2
theorem XT (hT:TOk E.P TT) {n:Nat} {tk:List Nat} {js:JS} {es:List Prop} {gs:List GO} (ha:tH (jB TT E.N E.A.ks 400) (nxN K) fr mu [] [] = some (js,es,gs)) (k:js.ok E R) (hr:(Region.ready .any all.toArray (mk all.toArray.size tk)).isEmpty=true:=by kernel_rfl)
  (he:cC es:=by exact eD) (ho:cB gs:=by exact gD):DJ G E all (KQ E.P R K) n tk fr gf mu:=D0 hr ((qE (j4 hT 400) ha ⟨he,ho⟩).2 k)
theorem aN {n:Nat} {tk:List Nat} {js:JS} {es:List Prop} {gs:List GO} (k:js.ok E R) (hT:TOk E.P TT:=by exact TT_ok) (ha:tH (jB TT E.N E.A.ks 400) (nxN K) fr mu [] [] = some (js,es,gs):=by exact rfl) (hr:(Region.ready .any all.toArray (mk all.toArray.size tk)).isEmpty=true:=by kernel_rfl) (he:cC es:=by exact eD) (ho:cB gs:=by exact gD):DJ G E all (KQ E.P R K) n tk fr gf mu:=XT hT ha k hr he ho
end
end
end
section
set_option maxRecDepth 100000
def TT:List TI:=[
 ⟨2,1,8, .it .i64, .int .i64 0,false⟩,
 ⟨3,1,8, .it .i64, .int .i64 0,false⟩,
 ⟨4,1,1, .bo, .bool false,false⟩,
 ⟨5,1,1, .it .u8, .int .u8 0,false⟩,
 ⟨22,1,24, .slc 116, .slice none 0 0,false⟩,
 ⟨23,1,24, .slc 121, .slice none 0 0,false⟩,
 ⟨24,1,24, .slc 126, .slice none 0 0,false⟩,
 ⟨26,6,96, .st [(0,2),(1,2),(2,22),(3,23),(4,24),(5,4)], .agg #[.int .i64 0, .int .i64 0, .slice none 0 0, .slice none 0 0, .slice none 0 0, .bool false],false⟩,
 ⟨29,1,24, .slc 95, .slice none 0 0,false⟩,
 ⟨30,1,24, .slc 85, .slice none 0 0,false⟩,
 ⟨31,1,24, .slc 57, .slice none 0 0,false⟩,
 ⟨33,6,96, .st [(0,2),(1,2),(2,29),(3,30),(4,31),(5,4)], .agg #[.int .i64 0, .int .i64 0, .slice none 0 0, .slice none 0 0, .slice none 0 0, .bool false],false⟩,
 ⟨37,1,24, .slc 2, .slice none 0 0,false⟩,
 ⟨42,1,24, .slc 88, .slice none 0 0,false⟩,
 ⟨48,1,24, .slc 5, .slice none 0 0,false⟩,
 ⟨54,1,24, .slc 104, .slice none 0 0,false⟩,
 ⟨55,1,24, .slc 112, .slice none 0 0,false⟩,
 ⟨57,7,88, .st [(0,2),(1,2),(2,2),(3,2),(4,54),(5,55),(6,2)], .agg #[.int .i64 0, .int .i64 0, .int .i64 0, .int .i64 0, .slice none 0 0, .slice none 0 0, .int .i64 0],false⟩,
 ⟨63,1,24, .slc 42, .slice none 0 0,false⟩,
 ⟨81,2,32, .st [(0,2),(1,42)], .agg #[.int .i64 0, .slice none 0 0],false⟩,
 ⟨82,1,24, .slc 81, .slice none 0 0,false⟩,
 ⟨83,1,24, .slc 165, .slice none 0 0,false⟩,
 ⟨85,4,80, .st [(0,4),(1,82),(2,83),(3,37)], .agg #[.bool false, .slice none 0 0, .slice none 0 0, .slice none 0 0],false⟩,
 ⟨88,2,16, .st [(0,2),(1,2)], .agg #[.int .i64 0, .int .i64 0],true⟩,
 ⟨95,1,24, .st [(0,37)], .agg #[.slice none 0 0],false⟩,
 ⟨104,5,40, .st [(0,2),(1,2),(2,2),(3,2),(4,4)], .agg #[.int .i64 0, .int .i64 0, .int .i64 0, .int .i64 0, .bool false],true⟩,
 ⟨112,5,40, .st [(0,2),(1,2),(2,2),(3,4),(4,2)], .agg #[.int .i64 0, .int .i64 0, .int .i64 0, .bool false, .int .i64 0],true⟩,
 ⟨116,1,24, .st [(0,37)], .agg #[.slice none 0 0],false⟩,
 ⟨118,1,24, .slc 206, .slice none 0 0,false⟩,
 ⟨119,1,24, .slc 209, .slice none 0 0,false⟩,
 ⟨121,4,80, .st [(0,4),(1,118),(2,119),(3,37)], .agg #[.bool false, .slice none 0 0, .slice none 0 0, .slice none 0 0],false⟩,
 ⟨123,1,24, .slc 213, .slice none 0 0,false⟩,
 ⟨124,1,24, .slc 215, .slice none 0 0,false⟩,
 ⟨126,7,88, .st [(0,2),(1,2),(2,2),(3,2),(4,123),(5,124),(6,2)], .agg #[.int .i64 0, .int .i64 0, .int .i64 0, .int .i64 0, .slice none 0 0, .slice none 0 0, .int .i64 0],false⟩,
 ⟨154,3,40, .st [(0,48),(1,3),(2,2)], .agg #[.slice none 0 0, .int .i64 0, .int .i64 0],false⟩,
 ⟨165,4,48, .st [(0,2),(1,2),(2,2),(3,55)], .agg #[.int .i64 0, .int .i64 0, .int .i64 0, .slice none 0 0],false⟩,
 ⟨190,1,24, .slc 232, .slice none 0 0,false⟩,
 ⟨201,1,8, .it .u64, .int .u64 0,false⟩,
 ⟨204,1,24, .slc 251, .slice none 0 0,false⟩,
 ⟨206,2,32, .st [(0,2),(1,204)], .agg #[.int .i64 0, .slice none 0 0],false⟩,
 ⟨209,4,48, .st [(0,2),(1,2),(2,2),(3,124)], .agg #[.int .i64 0, .int .i64 0, .int .i64 0, .slice none 0 0],false⟩,
 ⟨213,5,40, .st [(0,2),(1,2),(2,2),(3,2),(4,4)], .agg #[.int .i64 0, .int .i64 0, .int .i64 0, .int .i64 0, .bool false],true⟩,
 ⟨215,5,40, .st [(0,2),(1,2),(2,2),(3,4),(4,2)], .agg #[.int .i64 0, .int .i64 0, .int .i64 0, .bool false, .int .i64 0],true⟩,
 ⟨232,5,40, .st [(0,2),(1,2),(2,2),(3,2),(4,2)], .agg #[.int .i64 0, .int .i64 0, .int .i64 0, .int .i64 0, .int .i64 0],true⟩,
 ⟨240,1,24, .slc 3, .slice none 0 0,false⟩,
 ⟨251,2,16, .st [(0,2),(1,2)], .agg #[.int .i64 0, .int .i64 0],true⟩,
 ⟨261,1,24, .slc 4, .slice none 0 0,false⟩]
theorem tiOk {ti:TI} (h1:(Tryz.prog.underlying ti.id).map jP=some ti.kind) (h2:(Tryz.prog.info? ti.id).map (fun i=>(i.size,i.bytes))=some (ti.sz,ti.by_)) (h3:(Tryz.prog.info? ti.id).bind (·.zero)=some ti.zero) (h4:(!ti.eqf || G9 Tryz.prog ti.id)=true):ti.ok Tryz.prog:=⟨h1,h2,h3,fun e=>by rw [e] at h4;exact h4⟩
theorem TT_ok:TOk Tryz.prog TT:=by
 unfold TT
 repeat' first
  | exact trivial
  | refine ⟨tiOk (by kernel_rfl) (by kernel_rfl) (by kernel_rfl) (by kernel_rfl),?_⟩
end
section
section
abbrev vI (n:Int):SV := .a (.v (.int .i64 n))
abbrev vB (b:Bool):SV := .a (.v (.bool b))
abbrev vR (l:List D):SV := .ag (l.map (D.toV .r))
abbrev vL {α:Type} (sz:Nat) (enc:α→List D) (z:α) (xs:List α):SV := .a (.s .r sz xs.length fun i=>enc (xs.getD i z))
abbrev dL {α:Type} (sz:Nat) (enc:α→List D) (z:α) (xs:List α):D := .sl sz xs.length fun i=>enc (xs.getD i z)
abbrev vP (l:List D):SV := .a (.rp .r l 0)
section
variable {E:Env} {mu:Mu} {TT:List TI} {fr:Fr} {K:List KF}
theorem CE {fn:Func} {res:SV} (hT:TOk E.P TT) (ts:List (Nat×Option Nat)) (hr:fn.results=(ts.map tM).toArray) {x:SV} (hl:jH TT fr mu ts=some [x]) (hx:x=res) :
  T E (bodyPost E.P fn (RetP E (fun _:Unit=>True) (fun _=>[res]) fun _=>[])) .ret fr mu K :=
 VN hT () ts hr hl ⟨_,_,rfl,ZH hx,rfl⟩ trivial trivial
theorem cE {fn:Func} {b b':Bool} (hT:TOk E.P TT) (ts:List (Nat×Option Nat)) (hr:fn.results=(ts.map tM).toArray) (hl:jH TT fr mu ts=some [vB b]) (hx:b=b') :
  T E (bodyPost E.P fn (RetP E (fun _:Unit=>True) (fun _=>[vB b']) fun _=>[])) .ret fr mu K:=CE hT ts hr hl (by rw [hx])
theorem aF {fn:Func} {b b':Bool} (ts:List (Nat×Option Nat)) (hx:b=b') (hT:TOk E.P TT:=by exact TT_ok) (hr:fn.results=(ts.map tM).toArray:=by exact rfl) (hl:jH TT fr mu ts=some [vB b]:=by exact rfl):T E (bodyPost E.P fn (RetP E (fun _:Unit=>True) (fun _=>[vB b']) fun _=>[])) .ret fr mu K:=cE hT ts hr hl hx
theorem d8 {fn:Func} {b b':Int} (hT:TOk E.P TT) (ts:List (Nat×Option Nat)) (hr:fn.results=(ts.map tM).toArray) (hl:jH TT fr mu ts=some [vI b]) (hx:b=b') :
  T E (bodyPost E.P fn (RetP E (fun _:Unit=>True) (fun _=>[vI b']) fun _=>[])) .ret fr mu K:=CE hT ts hr hl (by rw [hx])
theorem aI {fn:Func} {b b':Int} (ts:List (Nat×Option Nat)) (hx:b=b') (hT:TOk E.P TT:=by exact TT_ok) (hr:fn.results=(ts.map tM).toArray:=by exact rfl) (hl:jH TT fr mu ts=some [vI b]:=by exact rfl):T E (bodyPost E.P fn (RetP E (fun _:Unit=>True) (fun _=>[vI b']) fun _=>[])) .ret fr mu K:=d8 hT ts hr hl hx
end
end
section
abbrev bE {α:Type} (sz:Nat) (enc:α→List D) (z:α) (xs:List α):Ch := .arr sz xs.length fun i=>enc (xs.getD i z)
abbrev MkL {α:Type} (P:Program) (f:Nat) (args:List SV) (sz:Nat) (enc:α→List D) (z:α) (xs:List α):Prop:=Con P f [] args [] (fun _:Unit=>True) (fun _=>[.a (.g 900)]) fun _=>[(900,bE sz enc z xs)]
theorem Ch.imp_len {sz n m:Nat} {f g:Nat→List D} (h:n=m) (e:∀ i,i<n→f i=g i):(Ch.arr sz n f).imp (.arr sz m g):=by subst h;exact Ch.imp_arr e
theorem bU {α:Type} {sz:Nat} {enc:α→List D} {z:α} {xs ys:List α} (h:xs=ys):(bE sz enc z xs).imp (bE sz enc z ys):=by subst h;exact ZE _
theorem o7 {α:Type} {sz:Nat} {enc:α→List D} {z:α} {ys zs rs:List α} (h:rs=ys ++ zs):(Ch.arr sz (ys.length+zs.length) (mX ys.length (fun i=>enc (ys.getD i z)) fun i=>enc (zs.getD i z))).imp (bE sz enc z rs):=by
 subst h
 refine Ch.imp_len (by simp) fun i hi=>?_
 by_cases c:i<ys.length
 ·rw [kK c];congr 1;simp [List.getElem?_append_left c]
 ·rw [kL (by omega)];congr 1;simp [List.getElem?_append_right (Nat.le_of_not_lt c)]
theorem cX {α:Type} {sz:Nat} {enc:α→List D} {z x:α} {ys rs:List α} {g:Nat→List D} (h:rs=ys ++ [x]) (hg:g 0=enc x):(Ch.arr sz (ys.length+1) (mX ys.length (fun i=>enc (ys.getD i z)) g)).imp (bE sz enc z rs):=by
 subst h
 refine Ch.imp_len (by simp) fun i hi=>?_
 by_cases c:i<ys.length
 ·rw [kK c];congr 1;simp [List.getElem?_append_left c]
 ·have:i=ys.length:=by omega
  subst this
  rw [kL (by omega),Nat.sub_self,hg];congr 1;simp
theorem aQ {α:Type} {sz:Nat} {enc:α→List D} {z x:α} {ys rs:List α} {g:Nat→List D} (h:rs=ys ++ [x]:=by exact rfl) (hg:g 0=enc x:=by exact rfl):(Ch.arr sz (ys.length+1) (mX ys.length (fun i=>enc (ys.getD i z)) g)).imp (bE sz enc z rs):=cX h hg
theorem b7 {α:Type} {z:α} {xs:List α} {i:Nat} (h:i<xs.length):xs.take (i+1)=xs.take i ++ [xs.getD i z]:=by
 rw [List.take_add_one];simp [h]
theorem CK {α:Type} {z:α} {xs:List α} {i:Nat} (h:i<xs.length) (p:α→Bool):(xs.take (i+1)).filter p=if p (xs.getD i z) then (xs.take i).filter p ++ [xs.getD i z] else (xs.take i).filter p:=by
 rw [b7 (z:=z) h,List.filter_append,List.filter_cons]
 split <;>simp
theorem mP {α:Type} {z:α} {xs:List α} {i:Nat} (h:i<xs.length) {p:α→Bool} (e:p (xs.getD i z)=true):(xs.take (i+1)).filter p=(xs.take i).filter p ++ [xs.getD i z]:=by rw [CK (z:=z) h,if_pos e]
theorem nW {α:Type} {z:α} {xs:List α} {i:Nat} (h:i<xs.length) {p:α→Bool} (e:p (xs.getD i z)=false):(xs.take i).filter p=(xs.take (i+1)).filter p:=by rw [CK (z:=z) h,if_neg (by rw [e];simp)]
theorem uU {α:Type} (xs:List α) (p:α→Bool) (i:Nat):((xs.take i).filter p).length≤xs.length:=Nat.le_trans (List.length_filter_le _ _) (by rw [List.length_take];exact Nat.min_le_right _ _)
abbrev fbO {α:Type} (rd:α→List RD) (q:α→Value):SV := .fb fun args v => ∃ x,args=rd x∧v=q x
def b0 {α:Type} (p:α→Bool):List α→Int
 | [] => -1
 | x :: r=>if p x then 0 else if b0 p r = -1 then -1 else b0 p r+1
theorem gI {α:Type} {p:α→Bool} {z:α}:∀ {xs:List α},(∀ j,j<xs.length→p (xs.getD j z)=false)→b0 p xs = -1
 | [],_=>rfl
 | x :: r,h=>by
  have h0:p x=false:=by simpa using h 0 (by simp)
  have:=gI (p:=p) (z:=z) (xs:=r) fun j hj=>by simpa using h (j+1) (by simpa using hj)
  simp [b0,h0,this]
theorem gH {α:Type} {p:α→Bool} {z:α}:∀ {xs:List α} {i:Nat},i<xs.length→(∀ j,j<i→p (xs.getD j z)=false)→p (xs.getD i z)=true→b0 p xs=i
 | x :: r,0,_,_,h=>by simp at h;simp [b0,h]
 | x :: r,i+1,hi,h0,h=>by
  have hx:p x=false:=by simpa using h0 0 (by omega)
  have:=gH (p:=p) (z:=z) (xs:=r) (i:=i) (by simpa using hi) (fun j hj=>by simpa using h0 (j+1) (by omega)) (by simpa using h)
  simp only [b0,hx,this]
  simp
theorem gO {α:Type} (p:α→Bool) (z:α) (xs:List α):(b0 p xs = -1∧∀ j,j<xs.length→p (xs.getD j z)=false)∨∃ i:Nat,i<xs.length∧b0 p xs=i∧(∀ j,j<i→p (xs.getD j z)=false)∧p (xs.getD i z)=true:=by
 by_cases h:∃ i,i<xs.length∧p (xs.getD i z)=true
 ·right
  have hw:∃ i,(i<xs.length∧p (xs.getD i z)=true)∧∀ j,j<i→¬ (j<xs.length∧p (xs.getD j z)=true):=by
   obtain ⟨n,hn⟩:=h
   have:∀ n,(n<xs.length∧p (xs.getD n z)=true)→∃ i,(i<xs.length∧p (xs.getD i z)=true)∧∀ j,j<i→¬ (j<xs.length∧p (xs.getD j z)=true):=fun n=>by
    induction n using Nat.strongRecOn with
    | ind n ih =>
     intro hn
     by_cases h:∃ j,j<n∧(j<xs.length∧p (xs.getD j z)=true)
     ·obtain ⟨j,h1,h2⟩:=h;exact ih j h1 h2
     ·exact ⟨n,hn,fun j hj hc=>h ⟨j,hj,hc⟩⟩
   exact this n hn
  obtain ⟨i,⟨h1,h2⟩,h3⟩:=hw
  have h4:∀ j,j<i→p (xs.getD j z)=false:=fun j hj=>by
   cases c:p (xs.getD j z) with
   | false=>rfl
   | true=>exact absurd ⟨by omega,c⟩ (h3 j hj)
  exact ⟨i,h1,gH h1 h4 h2,h4,h2⟩
 ·left
  have h4:∀ j,j<xs.length→p (xs.getD j z)=false:=fun j hj=>by
   cases c:p (xs.getD j z) with
   | false=>rfl
   | true=>exact absurd ⟨j,hj,c⟩ h
  exact ⟨gI h4,h4⟩
theorem w9 {α:Type} (xs:List α) (p:α→Bool) (i:Nat):((xs.take i).filter p).length≤i:=Nat.le_trans (List.length_filter_le _ _) (by rw [List.length_take];exact Nat.min_le_left _ _)
theorem vH {α:Type} {z:α} {xs:List α} {i k:Nat} (h:k<(xs.take i).length):(xs.take i).getD k z=xs.getD k z:=by
 rw [List.length_take] at h
 simp only [List.getD_eq_getElem?_getD]
 rw [List.getElem?_take_of_lt (by omega)]
theorem MI {α:Type} {z:α} {ys zs:List α} {k:Nat} (h:k<ys.length):(ys ++ zs).getD k z=ys.getD k z:=by simp [List.getElem?_append_left h]
theorem MX {α:Type} {z x:α} {ys:List α}:(ys ++ [x]).getD ys.length z=x:=by simp
theorem cT {a b:Int} (h:a=b):vI a=vI b:=by rw [h]
section
variable {E:Env} {mu mu':Mu} {TT:List TI} {fr fr':Fr} {gf gf':GF} {all rest:List Oper} {Q:Exit→Act→World→Prop} {o:Oper} {G:AG}
theorem qU {ι:Type} (i:Nat) {n:Nat} {tk:List Nat} {f:Nat} {ks nk:List Nat} {args:List SV} {mu1:Mu} {φ:ι→Prop} {res:ι→List SV} {mu1':ι→Mu} (C:Con E.P f ks args mu1 φ res mu1') {svs args':List SV} {g:Option (Nat×Nat×Bool)} {t:Nat} {q:Ob} {es:List Prop} {gs:List GO} {md:Mu}
  (hi:nth all i=some o) (hc:g8 E.N all fr gf o=some (f,svs,g,t,gf')) (hw:jC mu (bJ mu1) ks svs=some (args',q)) (ha:SVs.imp E.P args' args) (hnk:∀ y,j5 (mu1' y)=nk) (hs:cP fr gf [] q [] [] = some (es,gs)) (hmd:dR (eC (bJ mu1) nk) mu=some md) {fr':Fr} {gf2:GF} (hcut:gP (bJ mu1) fr gf'=some (fr',gf2))
  (k:∀ y,φ y→DJ G E all Q n (i :: tk) ((t,vY (res y)) :: fr') gf2 (jL (mu1' y) md)) (hB:z5 all.toArray tk i=true:=by kernel_rfl)
  (hin:jK mu mu1:=by exact iD) (hg:BB fr gf g:=by first | exact trivial | exact ⟨rfl,rfl⟩) (hkeys:gE ks nk mu1 fr gf mu E.A.ks G.ks=true:=by exact rfl) (hout:∀ y,(SV.inKL (eC ks nk) (res y) && kI (eC ks nk) (mu1' y))=true:=by exact fun _=>rfl) (hen:fK E.P f:=by exact aB) (he:cC es:=by exact eD) (ho:cB gs:=by exact gD) :
  DJ G E all Q (n+1) tk fr gf mu :=
 bB i hi hB (US C hc hg hen hw ha hs he ho hin hnk hkeys hout hmd hcut fun y hy=>bA (k y hy))
theorem aX {ι:Type} (i:Nat) {n:Nat} {tk:List Nat} {f:Nat} {ks nk:List Nat} {args:List SV} {mu1:Mu} {φ:ι→Prop} {res:ι→List SV} {mu1':ι→Mu} (C:Con E.P f ks args mu1 φ res mu1') {svs args':List SV} {g:Option (Nat×Nat×Bool)} {t:Nat} {q:Ob} {es:List Prop} {gs:List GO} {md:Mu} {fr':Fr} {gf2:GF} (k:∀ y,φ y→DJ G E all Q n (i :: tk) ((t,vY (res y)) :: fr') gf2 (jL (mu1' y) md)) (hi:nth all i=some o:=by exact rfl) (hc:g8 E.N all fr gf o=some (f,svs,g,t,gf'):=by exact rfl) (hw:jC mu (bJ mu1) ks svs=some (args',q):=by exact rfl) (ha:SVs.imp E.P args' args:=by exact ZF _) (hnk:∀ y,j5 (mu1' y)=nk:=by exact fun _=>rfl) (hs:cP fr gf [] q [] [] = some (es,gs):=by exact rfl) (hmd:dR (eC (bJ mu1) nk) mu=some md:=by exact rfl) (hcut:gP (bJ mu1) fr gf'=some (fr',gf2):=by exact rfl) (hB:z5 all.toArray tk i=true:=by kernel_rfl) (hin:jK mu mu1:=by exact iD) (hg:BB fr gf g:=by first | exact trivial | exact ⟨rfl,rfl⟩) (hkeys:gE ks nk mu1 fr gf mu E.A.ks G.ks=true:=by exact rfl) (hout:∀ y,(SV.inKL (eC ks nk) (res y) && kI (eC ks nk) (mu1' y))=true:=by exact fun _=>rfl) (hen:fK E.P f:=by exact yD (by kernel_rfl)) (he:cC es:=by exact eD) (ho:cB gs:=by exact gD):DJ G E all Q (n+1) tk fr gf mu:=qU i C hi hc hw ha hnk hs hmd hcut k hB hin hg hkeys hout hen he ho
theorem DJ_Q1 (i:Nat) {n:Nat} {tk:List Nat} {f:Nat} {ks:List Nat} {args:List SV} {mu1:Mu} {res:SV} (C:Ans E.P f ks args mu1 res) {svs args':List SV} {g:Option (Nat×Nat×Bool)} {t:Nat} {q:Ob} {es:List Prop} {gs:List GO}
  (hi:nth all i=some o) (hc:g8 E.N all fr gf o=some (f,svs,g,t,gf')) (hw:jC mu [] ks svs=some (args',q)) (hae:args'=args) (hs:cP fr gf (match g with | none=>[] | some (_,d,b)=>iQ 6 gf d b) q [] [] = some (es,gs))
  (k:DJ G E all Q n (i :: tk) (frQ fr g t res) (gfQ gf' g t res) mu) (hB:z5 all.toArray tk i=true:=by kernel_rfl) (hko:bJ mu1=[]:=by exact rfl) (hres:res.inK ks=true:=by exact rfl) (hin:jK mu mu1:=by exact iD) (hen:fK E.P f:=by exact aB) (he:cC es:=by exact eD) (ho:cB gs:=by exact gD) :
  DJ G E all Q (n+1) tk fr gf mu:=by
 subst hae
 exact bB i hi hB (PP C hc rfl hen hko hres hw (ZF _) hs he ho hin (bA k))
end
end
section
section
variable {E:Env} {mu mu':Mu} {TT:List TI} {fr fr':Fr} {gf gf':GF} {all rest:List Oper} {Q:Exit→Act→World→Prop} {o:Oper} {J:Act→World→Prop} {G:AG}
theorem OJ_FG {φ:List RD→Value→Prop} {args:List SV} {rds:List RD} {t j d:Nat} {b:Bool} {x:Value} (hg:o.guard=some (j,b)) (hsl:rE all j=some d) (hc:J8 (iQ 6 gf d b) fr gf o.op=some (φ,args)) (hr:DC args=some rds) (hgd:cU t gf=some gf') (hx:φ rds x)
  (k:SJ G J E fr ((t,d,b, .a (.v x)) :: gf') mu) (hd:o.dst=some t:=by exact rfl) (hn:mlk t fr=none:=by exact rfl) (ht:(Nat.blt t E.N && !(Nat.beq t d))=true:=by exact rfl):OJ G E all Q J o fr gf mu:=fun B a w H f m gg=>by
 simp only [Bool.and_eq_true,Bool.not_eq_true'] at ht
 have htd:t≠d:=Nat.ne_of_beq_eq_false ht.2
 have htN:t<E.N:=by simpa [Nat.blt_eq] using ht.1
 have hwt:=hY (ops:=all.toArray) (a:=a) hg (jZ hsl)
 by_cases hyes:a.tmps.getD d undef = .bool b
 ·have hacts:=mE f 6 d b hyes
  have hw:=hwt.2 hyes
  obtain ⟨dst,op,type,pos,after,guard⟩:=o
  simp only at hc hd
  subst hd
  unfold J8 at hc
  split at hc
  ·rename_i c
   obtain ⟨callee,cargs,ats⟩:=c
   simp only at hc
   split at hc
   ·rename_i y hy
    split at hc
    ·rename_i φ' l e1 e2
     simp only [Option.some.injEq,Prod.mk.injEq] at hc
     obtain ⟨rfl,rfl⟩:=hc
     obtain ⟨fn,cv,h1,h3,h4⟩:=(show ∃ f vs,_ from f.ev hacts e1)
     have h2:=f.evs hacts e2
     have ha:cargs.map a.eval=(cargs.toList.map a.eval).toArray:=Array.ext' (by rw [Array.toList_map])
     refine mU (n:=fn) (args:=(cargs.toList.map a.eval ++ cv).toArray) hw ?_ ((h4 rds x hx w E.r _ (PH.le_refl _) m.mm.fitr (GG hr h2)).mono fun e w' ⟨g1,g2⟩=>⟨x,g1,?_⟩)
     ·simp only [execOp,resolve,h1,Deferred.ofValue,Sem.run_bind,Sem.run_pure,Result.andThen_ok,invoke,ha,Array.empty_append]
      rw [h3]
      congr 2
      simp
     ·exact k B _ w' H (Fits.putG f htN htd hn hgd (.inl ⟨hyes,show SV.rel E.P B (Zf E.r H) (.a (.v x)) x from rfl⟩)) (m.below g2) gg
    ·cases hc
   ·cases hc
  ·cases hc
 ·refine xB (by
   cases e:Region.wanted o (yielded all.toArray a.tmps) with
   | false=>rfl
   | true=>exact absurd (hwt.1 e) hyes) ?_
  rw [hd]
  exact k B _ w H (Fits.putG f htN htd hn hgd (.inr ⟨hyes,rfl⟩)) m gg
def V.isNil:V→Bool
 | .v (.slice none 0 0)=>true
 | _=>false
theorem V.isNil_eq {x:V} (h:x.isNil=true):x = .v (.slice none 0 0):=by
 unfold V.isNil at h
 split at h
 ·rfl
 ·cases h
def DR (sz:Nat) (f:Nat→List D):List V→Nat→Option (List V)
 | [],_=>none
 | x :: r,0=>bif x.isNil then some (.s .o sz 0 f :: r) else none
 | x :: r,j+1=>match DR sz f r j with
  | some l=>some (x :: l)
  | none=>none
theorem GV {B:BE} {r:PH} {sz:Nat} {f:Nat→List D}:∀ {l:List V} {j:Nat} {l':List V},DR sz f l j=some l'→l'.length=l.length∧∀ {h:PH} {vs:List Value},V.owns B r h l vs→V.owns B r h l' vs
 | [],j,_,e=>by simp [DR] at e
 | x :: l,0,l',e=>by
  simp only [DR] at e
  cases c:x.isNil with
  | false=>rw [c] at e;cases e
  | true =>
   rw [c] at e
   injection e with e
   subst e
   refine ⟨rfl,fun {h vs} o=>?_⟩
   obtain ⟨v,t,h1,h2,rfl,e2,e3,e4,e5,e6⟩:=o
   rw [V.isNil_eq c] at e5
   have e5:v = .slice none 0 0:=e5
   subst e5
   exact ⟨_,t,h1,h2,rfl,e2,e3,e4, .inl ⟨rfl,none,0,rfl,Nat.le_refl _,Nat.zero_le _, .inl rfl⟩,e6⟩
 | x :: l,j+1,l',e=>by
  simp only [DR] at e
  split at e
  ·rename_i l2 e1
   injection e with e
   subst e
   obtain ⟨k1,k2⟩:=GV (B:=B) (r:=r) e1
   refine ⟨by rw [List.length_cons,List.length_cons,k1],fun {h vs} o=>?_⟩
   obtain ⟨v,t,h1,h2,rfl,e2,e3,e4,e5,e6⟩:=o
   exact ⟨v,t,h1,h2,rfl,e2,e3,e4,e5,k2 e6⟩
  ·cases e
theorem YC (k j sz:Nat) (f:Nat→List D) {l l':List V} (hk:mlk k mu=some (.row l)) (hn:DR sz f l j=some l') (hmu:gB k (.row l') mu=some mu'):jA E fr gf mu fr gf mu' :=
 fI k hk (fun B r h k s=>by
  obtain ⟨b,o,vs,h',e1,e2,e3,e4⟩:=s
  exact ⟨b,o,vs,h',e1,(GV hn).2 e2,e3,fun j hj=>e4 j (by rw [← (GV (B:=B) (r:=r) hn).1];exact hj)⟩) hmu
theorem aU (k j sz:Nat) (f:Nat→List D) {l l':List V} (hk:mlk k mu=some (.row l):=by exact rfl) (hn:DR sz f l j=some l':=by exact rfl) (hmu:gB k (.row l') mu=some mu':=by exact rfl):jA E fr gf mu fr gf mu':=YC k j sz f hk hn hmu
theorem Y1 (t k:Nat) {sz n:Nat} {f:Nat→List D} (hx:mlk t fr=some (.a (.g k))) (hg:glk t gf=none) (hk:mlk k mu=some (.arr sz n f)) {B:BE} {a:Act} {w:World} {H:Nat→PH} (ff:FitsE E B H fr gf a) (m:Mem E B mu w H):∃ cp,n≤cp∧FitsE E B H ((t, .a (.gl k n cp)) :: fr) gf a:=by
 have e1:a.tmps.getD t undef=B k∧eL (a.tmps.getD t undef)=true:=ff.vfr t _ hx hg
 obtain ⟨A,c,e2,e4⟩:=(show D.own (H k) (.sl sz n f) (B k) from m.mm.sat k _ hk)
 refine ⟨c,e4.1,⟨ff.size,ff.defers,fun t' x e3 e4=>?_,ff.vgf,ff.vgu,fun t' d w x e3=>?_⟩⟩
 ·rw [bO] at e3
  by_cases h:t=t'
  ·subst h
   rw [if_pos rfl] at e3
   injection e3 with e3
   subst e3
   exact ⟨e1.1,e1.2,A,e1.1.trans e2⟩
  ·rw [if_neg h] at e3;exact ff.vfr t' x e3 e4
 ·rw [bO]
  have h1:=ff.vno t' d w x e3
  have h2:t≠t':=fun h=>by subst h;rw [hx] at h1;cases h1
  rw [if_neg h2];exact h1
theorem JD (t k:Nat) {c:Code} {K:List KF} {R:Exit→Act→World→Prop} {sz n:Nat} {f:Nat→List D} (hx:mlk t fr=some (.a (.g k))) (hk:mlk k mu=some (.arr sz n f)) (h:∀ cp,n≤cp→T E R c ((t, .a (.gl k n cp)) :: fr) mu K):T E R c fr mu K:=fun B a w H ff m=>by
 obtain ⟨cp,h1,f'⟩:=Y1 t k hx rfl hk ff m
 exact h cp h1 B a w H f' m
end
end
section
theorem Con.wkA {ι:Type} {P:Program} {f:Nat} {ks:List Nat} {args args':List SV} {mu:Mu} {φ:ι→Prop} {res:ι→List SV} {mu':ι→Mu} (C:Con P f ks args mu φ res mu') (h:SVs.imp P args' args):Con P f ks args' mu φ res mu' :=
 fun B r w H vals m he ha=>C B r w H vals m he (SVs.imp_ok h ha)
theorem Mm.wk {B:BE} {r:PH} {mu mu':Mu} {w:World} {H:Nat→PH} (m:Mm B r mu w H) (h:WkMu mu mu'):Mm B r mu' w H:=⟨fun k c e=>by
 obtain ⟨d,h1,h2⟩:=h.get k c e
 exact h2 _ _ _ _ (m.sat k d h1),m.fit,m.dj,m.djr,m.fitr⟩
theorem Con.wkM {ι:Type} {P:Program} {f:Nat} {ks:List Nat} {args:List SV} {mu:Mu} {φ:ι→Prop} {res:ι→List SV} {mu' mu'':ι→Mu} (C:Con P f ks args mu φ res mu') (h:∀ y,φ y→WkMu (mu' y) (mu'' y)):Con P f ks args mu φ res mu'' :=
 fun B r w H vals m he ha=>(C B r w H vals m he ha).mono fun e w' ⟨y,B',H',out,h1,h2,h3,h4,h5⟩=>⟨y,B',H',out,h1,h2,h3,h4.wk (h y h1),h5⟩
theorem Con.wkR {ι:Type} {P:Program} {f:Nat} {ks:List Nat} {args:List SV} {mu:Mu} {φ:ι→Prop} {res res':ι→List SV} {mu':ι→Mu} (C:Con P f ks args mu φ res mu') (h:∀ y,φ y→SVs.imp P (res y) (res' y)):Con P f ks args mu φ res' mu' :=
 fun B r w H vals m he ha=>(C B r w H vals m he ha).mono fun e w' ⟨y,B',H',out,h1,h2,h3,h4⟩=>⟨y,B',H',out,h1,h2,SVs.imp_ok (h y h1) h3,h4⟩
def OwnI (l m:List D):Prop := ∀ h vs,D.owns h l vs→D.owns h m vs
theorem OwnI.e:OwnI [] []:=fun _ _ e=>e
theorem OwnI.refl (l:List D):OwnI l l:=fun _ _ e=>e
theorem OwnI.c {x:D} {l m:List D} (k:OwnI l m):OwnI (x :: l) (x :: m):=fun h vs ⟨y,t,h1,h2,e1,e2,e3,e4,e5,e6⟩=>⟨y,t,h1,h2,e1,e2,e3,e4,e5,k _ _ e6⟩
theorem V3 {h:PH} {sz:Nat} {f:Nat→List D}:D.own h (.sl sz 0 f) (.slice none 0 0):=⟨none,0,rfl,Nat.le_refl _,Nat.zero_le _, .inl rfl⟩
theorem OwnI.n {sz:Nat} {f:Nat→List D} {l m:List D} (k:OwnI l m):OwnI (.v (.slice none 0 0) :: l) (.sl sz 0 f :: m):=fun h vs ⟨y,t,h1,h2,e1,e2,e3,e4,e5,e6⟩=>⟨y,t,h1,h2,e1,e2,e3,e4,by
 have e5:y = .slice none 0 0:=e5
 subst e5;exact V3,k _ _ e6⟩
theorem OwnI.of {l m:List D} (e:l=m):OwnI l m:=by subst e;exact OwnI.refl l
theorem Ch.imp_own {sz n m:Nat} {f g:Nat→List D} (hn:n=m) (k:∀ i,i<n→OwnI (f i) (g i)):(Ch.arr sz n f).imp (.arr sz m g):=by
 subst hn
 intro B r h j s
 obtain ⟨A,c,e1,e2,e3,e4⟩:=(show D.own _ _ _ from s)
 refine ⟨A,c,e1,e2,e3,e4.imp id fun ⟨b,o,rw0,H,e5,e6,e7,e8⟩=>⟨b,o,rw0,H,e5,fun i hi=>?_,e7,e8⟩⟩
 obtain ⟨r1,r2,r3⟩:=e6 i hi
 exact ⟨k i hi _ _ r1,r2,r3⟩
abbrev fbP {α:Type} (S:α→Prop) (rd:α→List RD) (q:α→Value):SV := .fb fun args v => ∃ x,S x∧args=rd x∧v=q x
section
variable {E:Env} {B:BE} {mu mu':Mu} {w:World} {H:Nat→PH} {TT:List TI} {fr fr':Fr} {gf gf':GF} {a:Act} {all rest:List Oper} {Q:Exit→Act→World→Prop} {o:Oper} {J:Act→World→Prop} {G:AG} {R:Exit→Act→World→Prop} {K:List KF}
def V.rO:V→Bool
 | .v _=>true
 | .s .r _ _ _=>true
 | .rp .r _ _=>true
 | _=>false
def SV.rO:SV→Bool
 | .a x=>x.rO
 | .ag l=>iO V.rO l
 | .tu l=>go l
 | _=>false
where go:List SV→Bool
 | []=>true
 | x :: r=>SV.rO x && go r
theorem V.rO_rel {B B':BE} {s:PH} {H H':Nat→PH}:∀ {x:V} {y:Value},x.rO=true→x.rel B (Zf s H) y→x.rel B' (Zf s H') y
 | .v _,_,_,e=>e
 | .s .r _ _ _,_,_,e=>e
 | .rp .r _ _,_,_,e=>e
theorem V.rO_rels {B B':BE} {s:PH} {H H':Nat→PH}:∀ {l:List V} {y:List Value},iO V.rO l=true→V.rels B (Zf s H) l y→V.rels B' (Zf s H') l y
 | [],_,_,e=>e
 | x :: r,y,h,e=>by
  obtain ⟨h1,h2⟩:=oX h
  obtain ⟨a,t,e1,e2,e3⟩:=e
  exact ⟨a,t,e1,V.rO_rel h1 e2,V.rO_rels h2 e3⟩
mutual
theorem SV.rO_rel {P:Program} {B B':BE} {s:PH} {H H':Nat→PH}:∀ (x:SV) {y:Value},x.rO=true→SV.rel P B (Zf s H) x y→SV.rel P B' (Zf s H') x y
 | .a x,_,h,e=>V.rO_rel h e
 | .ag l,_,h,e=>by obtain ⟨vs,e1,e2⟩:=e;exact ⟨vs,e1,V.rO_rels h e2⟩
 | .tu l,_,h,e=>by obtain ⟨vs,e1,e2⟩:=e;exact ⟨vs,e1,SV.rO_rels l h e2⟩
 | .fn _ _,_,h,_=>by cases h
 | .fb _,_,h,_=>by cases h
 | .un,_,h,_=>by cases h
theorem SV.rO_rels {P:Program} {B B':BE} {s:PH} {H H':Nat→PH}:∀ (l:List SV) {y:List Value},SV.rO.go l=true→SV.rels P B (Zf s H) l y→SV.rels P B' (Zf s H') l y
 | [],_,_,e=>e
 | x :: r,y,h,e=>by
  simp only [SV.rO.go,Bool.and_eq_true] at h
  obtain ⟨a,t,e1,e2,e3⟩:=e
  exact ⟨a,t,e1,SV.rO_rel x h.1 e2,SV.rO_rels r h.2 e3⟩
end
theorem Con.askR {P:Program} {f:Nat} {args:List SV} {res:SV} (C:Ans P f [] args [] res) (hres:res.rO=true) {B:BE} {s:PH} {w:World} {vals:List Value} (hf:Fit s w) (ha:SV.rels P B (Zf s fun _=>PH.emp) args vals) :
  Calls P f vals.toArray w fun e w' => ∃ v,e = .returned v∧(∀ B' H',SV.rel P B' (Zf s H') res v)∧Below w.heap.size w w':=by
 refine (C B s w (fun _=>PH.emp) vals ⟨(fun k c e=>by cases e),fun _=>FitO.emp w,fun _ _ _=>PH.emp_dj _,fun _=>PH.emp_dj _,hf⟩ (fun _ _=>rfl) ha).mono ?_
 rintro e w' ⟨y,B1,H1,out,_,h2,h3,_,h5,h6,_⟩
 obtain ⟨v,t,rfl,h7,h8⟩:=h3
 have h8:t=[]:=h8
 subst h8
 exact ⟨v,h2,fun B' H'=>SV.rO_rel res hres h7,Keep.none h6 fun b o ⟨k,h,_⟩=>by cases h⟩
theorem KV {P:Program} {r:PH} {f:Nat} {args:List SV} {res:SV} (C:Ans P f [] args [] res) (hres:res.rO=true) (hf:Fit r w) {svs args':List SV} {q:Ob} (hw:jC [] [] [] svs=some (args',q)) (ha:SVs.imp P args' args) (hq:jJ q) {vals:List Value} (hv:SV.rels P B (Zf r H) svs vals) :
  Calls P f vals.toArray w fun e w' => ∃ v,e = .returned v∧(∀ B' H',SV.rel P B' (Zf r H') res v)∧Below w.heap.size w w':=by
 have W:Wk B r [] H [] r:=⟨(fun k c e=>by cases e),PH.le_refl _,(fun k c e=>by cases e)⟩
 exact C.askR hres hf (SVs.imp_ok ha (xA (Z:=Zf r fun _=>PH.emp) W rfl hw hq hv))
theorem OJ_QR {f:Nat} {args:List SV} {res:SV} (C:Ans E.P f [] args [] res) {svs args':List SV} {g:Option (Nat×Nat×Bool)} {t:Nat} {q:Ob} {gd:Gd} {es:List Prop} {gs:List GO}
  (hc:g8 E.N all fr gf o=some (f,svs,g,t,gf')) (hgd:gd=match g with | none=>[] | some (_,d,b)=>iQ 6 gf d b) (hen:fK E.P f) (hres:res.rO=true)
  (hw:jC [] [] [] svs=some (args',q)) (ha:SVs.imp E.P args' args) (hs:cP fr gf gd q [] [] = some (es,gs)) (he:cC es) (ho:cB gs)
  (k:SJ G J E (frQ fr g t res) (gfQ gf' g t res) mu):OJ G E all Q J o fr gf mu:=fun B a w H f m gg=>by
 match g,hc,hgd with
 | none,hc,hgd =>
  subst hgd
  obtain ⟨h1,h2,h3,h4,h5⟩:=pU hc
  obtain ⟨vals,r1,r2⟩:=kY (w:=w) f (fun _ _ hm=>by cases hm) h4 hen
  refine mU (eN h1) r1 ((KV C hres m.mr.fitr hw ha (eS f (fun _ _ hm=>by cases hm) hs he ho) r2).mono fun e w' ⟨v,c1,c2,c3⟩=>⟨v,c1,?_⟩)
  rw [h2]
  exact k B _ w' H (Fits.put f (by simpa [Nat.blt_eq] using h3) (c2 _ _) h5) (m.below c3) gg
 | some (j,d,b),hc,hgd =>
  subst hgd
  obtain ⟨h1,h2,h3,h4,h5,h6,h7⟩:=pB hc
  simp only [Bool.and_eq_true,Bool.not_eq_true'] at h4
  have htd:t≠d:=Nat.ne_of_beq_eq_false h4.2
  have htN:t<E.N:=by simpa [Nat.blt_eq] using h4.1
  have hwt:=hY (ops:=all.toArray) (a:=a) h1 (jZ h2)
  by_cases hyes:a.tmps.getD d undef = .bool b
  ·have hacts:=mE f 6 d b hyes
   obtain ⟨vals,r1,r2⟩:=kY (w:=w) f hacts h6 hen
   refine mU (hwt.2 hyes) r1 ((KV C hres m.mr.fitr hw ha (eS f hacts hs he ho) r2).mono fun e w' ⟨v,c1,c2,c3⟩=>⟨v,c1,?_⟩)
   rw [h3]
   exact k B _ w' H (Fits.putG f htN htd h5 h7 (.inl ⟨hyes,c2 _ _⟩)) (m.below c3) gg
  ·refine xB (by
    cases e:Region.wanted o (yielded all.toArray a.tmps) with
    | false=>rfl
    | true=>exact absurd (hwt.1 e) hyes) ?_
   rw [h3]
   exact k B _ w H (Fits.putG f htN htd h5 h7 (.inr ⟨hyes,rfl⟩)) m gg
theorem JB (hT:TOk E.P TT) {f:Nat} {args:List SV} {res:SV} (C:Ans E.P f [] args [] res) {svs args':List SV} {g:Option (Nat×Nat×Bool)} {t:Nat} {q:Ob} {es0:List Prop} {gs0:List GO} {js:JS} {es:List Prop} {gs:List GO}
  (hc:g8 E.N all fr gf o=some (f,svs,g,t,gf')) (hw:jC [] [] [] svs=some (args',q)) (ha:SVs.imp E.P args' args) (hs:cP fr gf (match g with | none=>[] | some (_,d,b)=>iQ 6 gf d b) q [] [] = some (es0,gs0))
  (hau:goR TT E.N E.A.ks (jB TT E.N E.A.ks 400) all rest (frQ fr g t res) (gfQ gf' g t res) mu K es0 gs0=some (js,es,gs)) (k:js.ok E R)
  (hres:res.rO=true:=by exact rfl) (hen:fK E.P f:=by exact aB) (he:cC es:=by exact eD) (ho:cB gs:=by exact gD) :
  RJ E all (KQ E.P R K) (o :: rest) fr gf mu:=by
 obtain ⟨h1,h2⟩:=uK hT (j4 hT 400) hau ⟨he,ho⟩
 exact iX (OJ_QR C hc rfl hen hres hw ha hs h1.1 h1.2 (jS (h2 k)))
theorem VZ (hT:TOk E.P TT) {n:Nat} {tk is' tk':List Nat} {f:Nat} {ks:List Nat} {args:List SV} {mu1:Mu} {res:SV} (C:Ans E.P f ks args mu1 res) {svs args':List SV} {g:Option (Nat×Nat×Bool)} {t:Nat} {q:Ob} {es0 es:List Prop} {gs0 gs:List GO} (hi:nth all tk.length=some o)
  (hc:g8 E.N all fr gf o=some (f,svs,g,t,gf')) (hw:jC (muR G.ks mu) [] ks svs=some (args',q)) (hae:SVs.imp E.P args' args) (hs:cP fr gf (match g with | none=>[] | some (_,d,b)=>iQ 6 gf d b) q [] [] = some (es0,gs0)) {gf3:GF}
  (ha:pS TT E.N all (muR G.ks mu) (tI (tk.length+1) n) (frQ fr g t res) (gfQ gf' g t res) (tk.length :: tk) es0 gs0=some (is',fr',gf3,tk',es,gs)) (k:DJ G E all (KQ E.P R K) is'.length tk' fr' gf3 mu)
  {x:Value} (hx:exV res=some x:=by exact rfl) (hR:PQ R:=by exact nM _ _) (hb:(rC all.toArray tk tk.length && nR all.toArray (tI (tk.length+1) n) is' (tk.length :: tk))=true:=by kernel_rfl)
  (hko:bJ mu1=[]:=by exact rfl) (hres:res.inK ks=true:=by exact rfl) (hin:jK (muR G.ks mu) mu1:=by repeat (first | exact trivial | refine And.intro ⟨_,rfl,tT⟩ ?_ | refine And.intro ⟨_,rfl,yG⟩ ?_ | refine And.intro ⟨_,rfl,uM⟩ ?_ | refine And.intro ⟨_,rfl,ZE _⟩ ?_)) (hen:fK E.P f:=by exact aB) (he:cC es:=by exact eD) (ho:cB gs:=by exact gD):DJ G E all (KQ E.P R K) (n+1) tk fr gf mu:=by
 simp only [Bool.and_eq_true] at hb
 obtain ⟨h3,h2⟩:=(nB (G:=G) (K:=K) hT hR _ _ _ _ _ _ ha).2 hb.2 ⟨he,ho⟩
 have h2:=h2 k
 rw [oG] at h2
 exact S5 hR _ C hx hi hb.1 hc rfl hen hko hres hw hae hs h3.1 h3.2 hin h2
theorem V0 (hT:TOk E.P TT) {t0 ty:Nat} {x y:Operand} {yt:TypeId} {j d:Nat} {b:Bool} {sx:V} {q:Tg} {sz n:Nat} {f:Nat→List D} {ob:Ob} {n0 c0:Nat} {id sz1 by1 e:Nat} {z:Value} {ef:Bool}
  (hop:o.op = .binOp .eql ty x y yt) (hg:o.guard=some (j,b)) (hsl:rE all j=some d) (hx:ev (iQ 6 gf d b) fr gf x=some (.a sx)) (hy:ev (iQ 6 gf d b) fr gf y=some (.a (.v (.slice none n0 c0)))) (h1:tlk ty TT=some ⟨id,sz1,by1, .slc e,z,ef⟩) (hs:slR mu sx=some (q,sz,n,f,ob)) (hn:mlk t0 fr=none) (hgd:cU t0 gf=some gf') (hpos:0<n)
  (k:RJ E all (KQ E.P R K) rest fr ((t0,d,b, .a (.v (.bool false))) :: gf') mu) (hob:jJ ob:=by repeat (first | exact trivial | refine And.intro rfl ?_)) (hd:o.dst=some t0:=by exact rfl) (ht:(Nat.blt t0 E.N && !(Nat.beq t0 d))=true:=by exact rfl):RJ E all (KQ E.P R K) (o :: rest) fr gf mu:=by
 refine iX fun B a w H ff mm _=>?_
 obtain ⟨t1,t2⟩:=hT.get h1
 obtain ⟨dd,d1,d2⟩:=t2.desc
 simp only at t1 d1 d2
 subst t1
 obtain rfl:=gQ d2
 simp only [Bool.and_eq_true,Bool.not_eq_true'] at ht
 have htd:t0≠d:=Nat.ne_of_beq_eq_false ht.2
 have htN:t0<E.N:=by simpa [Nat.blt_eq] using ht.1
 have hw:=hY (ops:=all.toArray) (a:=a) hg (jZ hsl)
 by_cases hyes:a.tmps.getD d undef = .bool b
 ·have hacts:=mE ff 6 d b hyes
  have hr:=x8 mm.mr.ms hs hob (show sx.rel B (Zf E.r H) (a.eval x) from ff.ev hacts hx)
  have ey:a.eval y=_:=ff.ev hacts hy
  obtain ⟨A,c,ex,e0⟩:=uY hr
  refine tC (hw.2 hyes) (v := .bool false) (w':=w) ?_ ?_
  ·obtain ⟨dst,op',type,pos,after,guard⟩:=o
   simp only at hop
   subst hop
   simp only [execOp,ex,ey]
   refine dO ?_
   show (do eqGuard .eql _ x y _ _;binOp .eql _ _ _:Sem Value).run E.P w=_
   rw [Sem.run_bind,fL rfl,Result.andThen_ok]
   have hA:A.isNone=false:=e0 hpos
   simp only [binOp,Sem.run_bind,v7 d1,Result.andThen_ok,Sem.run_pure,hA]
  ·rw [hd]
   exact k B _ w H (Fits.putG ff htN htd hn hgd (.inl ⟨hyes,(show SV.rel _ _ _ (.a (.v _)) _ from rfl)⟩)) mm
 ·refine xB (by
   cases e:Region.wanted o (yielded all.toArray a.tmps) with
   | false=>rfl
   | true=>exact absurd (hw.1 e) hyes) ?_
  rw [hd]
  exact k B _ w H (Fits.putG ff htN htd hn hgd (.inr ⟨hyes,rfl⟩)) mm
end
end
section
def V.noR:V→Bool
 | .s (.k _) _ _ _=>true
 | .s _ _ _ _=>false
 | .rp (.k _) _ _=>true
 | .rp _ _ _=>false
 | _=>true
def V.noRo:V→Bool
 | .s .r _ _ _=>false
 | .rp _ _ _=>false
 | _=>true
def SV.noR:SV→Bool
 | .a x=>x.noR
 | .ag l=>iO V.noR l
 | .fn _ l=>iO V.noR l
 | .tu l=>go l
 | .un=>true
 | .fb _=>false
where go:List SV→Bool
 | []=>true
 | x :: r=>bif SV.noR x then go r else false
def Ch.noR:Ch→Bool
 | .row l=>iO V.noRo l
 | .arr .. => true
 | .hole .. => true
 | .rd .. => true
 | .rw _=>true
 | _=>false
def BN:Mu→Bool
 | []=>true
 | (_,c) :: r=>bif c.noR then BN r else false
theorem HP:∀ {mu:Mu},BN mu=true→∀ k c,mlk k mu=some c→c.noR=true
 | [],_,_,_,h=>by cases h
 | (j,d) :: r,h,k,c,e=>by
  simp only [BN] at h
  cases hd:d.noR with
  | false=>rw [hd] at h;cases h
  | true =>
   rw [hd] at h
   rw [bO] at e
   by_cases hj:j=k
   ·rw [if_pos hj] at e;injection e with e;subst e;exact hd
   ·rw [if_neg hj] at e;exact HP h k c e
section
variable {B:BE} {r s:PH} {H:Nat→PH}
theorem V.noR_rel:∀ {x:V} {y:Value},x.noR=true→x.rel B (Zf r H) y→x.rel B (Zf s H) y
 | .v _,_,_,e=>e
 | .s (.k _) _ _ _,_,_,e=>e
 | .g _,_,_,e=>e
 | .p _ _,_,_,e=>e
 | .pe _ _ _ _,_,_,e=>e
 | .sb _ _ _ _,_,_,e=>e
 | .gl _ _ _,_,_,e=>e
 | .rp (.k _) _ _,_,_,e=>e
 | .any,_,_,_=>trivial
theorem V.noR_rels:∀ {l:List V} {y:List Value},iO V.noR l=true→V.rels B (Zf r H) l y→V.rels B (Zf s H) l y
 | [],_,_,e=>e
 | x :: l,y,h,e=>by
  obtain ⟨h1,h2⟩:=oX h
  obtain ⟨a,t,e1,e2,e3⟩:=e
  exact ⟨a,t,e1,V.noR_rel h1 e2,V.noR_rels h2 e3⟩
theorem V.noRo_own {h:PH}:∀ {x:V} {y:Value},x.noRo=true→x.own B r h y→x.own B s h y
 | .v _,_,_,e=>e
 | .s .o _ _ _,_,_,e=>by
  rcases e with e | ⟨e,_⟩
  ·exact .inl e
  ·cases e
 | .s (.k _) _ _ _,_,_,e=>by rcases e with ⟨e,_⟩ | ⟨e,_⟩ <;>cases e
 | .g _,_,_,e=>e
 | .p _ _,_,_,e=>e
 | .pe _ _ _ _,_,_,e=>e
 | .sb _ _ _ _,_,_,e=>e
 | .gl _ _ _,_,_,e=>e
 | .any,_,_,_=>trivial
theorem V.noRo_owns:∀ {l:List V} {y:List Value} {h:PH},iO V.noRo l=true→V.owns B r h l y→V.owns B s h l y
 | [],_,_,_,e=>e
 | x :: l,y,_,h,e=>by
  obtain ⟨h1,h2⟩:=oX h
  obtain ⟨a,t,g1,g2,e1,e2,e3,e4,e5,e6⟩:=e
  exact ⟨a,t,g1,g2,e1,e2,e3,e4,V.noRo_own h1 e5,V.noRo_owns h2 e6⟩
mutual
theorem SV.noR_rel {P:Program}:∀ (x:SV) {y:Value},x.noR=true→SV.rel P B (Zf r H) x y→SV.rel P B (Zf s H) x y
 | .a x,_,h,e=>V.noR_rel h e
 | .ag l,_,h,e=>by obtain ⟨vs,e1,e2⟩:=e;exact ⟨vs,e1,V.noR_rels h e2⟩
 | .fn f l,_,h,e=>by obtain ⟨vs,e1,e2⟩:=e;exact ⟨vs,e1,V.noR_rels h e2⟩
 | .tu l,_,h,e=>by obtain ⟨vs,e1,e2⟩:=e;exact ⟨vs,e1,SV.noR_rels l h e2⟩
 | .un,_,_,e=>e
 | .fb _,_,h,_=>by cases h
theorem SV.noR_rels {P:Program}:∀ (l:List SV) {y:List Value},SV.noR.go l=true→SV.rels P B (Zf r H) l y→SV.rels P B (Zf s H) l y
 | [],_,_,e=>e
 | x :: l,y,h,e=>by
  simp only [SV.noR.go] at h
  cases hx:x.noR with
  | false=>rw [hx] at h;cases h
  | true =>
   rw [hx] at h
   obtain ⟨a,t,e1,e2,e3⟩:=e
   exact ⟨a,t,e1,SV.noR_rel x hx e2,SV.noR_rels l h e3⟩
end
theorem Ch.noR_sat {h:PH} {k:Nat}:∀ {c:Ch},c.noR=true→c.sat B r h k→c.sat B s h k
 | .row l,hc,⟨b,o,vs,h',e1,e2,e3,e4⟩=>⟨b,o,vs,h',e1,V.noRo_owns hc e2,e3,e4⟩
 | .arr ..,_,e=>e
 | .hole ..,_,e=>e
 | .rd ..,_,e=>e
 | .rw _,_,e=>e
 | .ro ..,h,_=>by cases h
 | .rrow _,h,_=>by cases h
theorem Ch.sat_monoR (l:r.le s) {h:PH} {k:Nat}:∀ {c:Ch},c.sat B r h k→c.sat B s h k
 | .row _,⟨b,o,vs,h',e1,e2,e3,e4⟩=>⟨b,o,vs,h',e1,V.owns_mono l (PH.le_refl _) e2,e3,e4⟩
 | .arr ..,e=>e
 | .hole ..,e=>e
 | .rd ..,e=>e
 | .rw _,e=>e
 | .ro sz n f,e=>D.rd_mono l (.sl sz n f) e
 | .rrow m,⟨b,o,vs,e1,e2,e3⟩=>⟨b,o,vs,e1,V.rels_mono (wZ l fun _=>PH.le_refl _) e2,fun j hj=>iS l (V.rels_length e2) hj (e3 j hj)⟩
end
theorem f4 {P:Program} {R R':Exit→Act→World→Prop} (h:∀ e a w,R' e a w→R e a w):∀ {K:List KF} {e:Exit} {a:Act} {w:World},KQ P R' K e a w→KQ P R K e a w
 | [],_,_,_,q=>h _ _ _ q
 | .seq c :: K,e,a,w,q=>by
  cases e with
  | normal=>exact wp_mono (show c.wp P (KQ P R' K) a w from q) fun _ _ _ q=>f4 h q
  | exit id=>exact f4 (K:=K) h (show KQ P R' K (.exit id) a w from q)
  | goto l=>exact f4 (K:=K) h (show KQ P R' K (.goto l) a w from q)
  | ret=>exact f4 (K:=K) h (show KQ P R' K .ret a w from q)
  | panic ch=>exact f4 (K:=K) h (show KQ P R' K (.panic ch) a w from q)
  | outgrown=>exact f4 (K:=K) h (show KQ P R' K .outgrown a w from q)
 | .blk id :: K,e,a,w,q=>by
  cases e with
  | exit j =>
   simp only [KQ,Exit.inBlock] at q ⊢
   split
   ·rename_i hj;rw [if_pos hj] at q;exact f4 (K:=K) h q
   ·rename_i hj;rw [if_neg hj] at q;exact f4 (K:=K) h q
  | normal=>exact f4 (K:=K) h q
  | goto l=>exact f4 (K:=K) h q
  | ret=>exact f4 (K:=K) h q
  | panic ch=>exact f4 (K:=K) h q
  | outgrown=>exact f4 (K:=K) h q
 | .loop I :: K,e,a,w,q=>by
  cases e with
  | normal=>exact q
  | exit id=>exact f4 (K:=K) h (show KQ P R' K (.exit id) a w from q)
  | goto l=>exact f4 (K:=K) h (show KQ P R' K (.goto l) a w from q)
  | ret=>exact f4 (K:=K) h (show KQ P R' K .ret a w from q)
  | panic ch=>exact f4 (K:=K) h (show KQ P R' K (.panic ch) a w from q)
  | outgrown=>exact f4 (K:=K) h (show KQ P R' K .outgrown a w from q)
theorem I8 {P:Program} {fn:Func} {R R':Ending→World→Prop} (h:∀ e w,R' e w→R e w):∀ e a w,bodyPost P fn R' e a w→bodyPost P fn R e a w:=fun e a w q=>by
 cases e with
 | ret =>
  simp only [bodyPost] at q ⊢
  obtain ⟨h1,v,h2,h3⟩:=q
  exact ⟨h1,v,h2,h _ _ h3⟩
 | _=>first | exact q | exact h _ _ q | (simp only [bodyPost] at q ⊢;first | exact q | exact h _ _ q | (obtain ⟨h1,h2⟩:=q;exact ⟨h1,h _ _ h2⟩) | (obtain ⟨h1,v,h2,h3⟩:=q;exact ⟨h1,v,h2,h _ _ h3⟩))
theorem RetP.noR {ι:Type} {E:Env} {r:PH} (hr:E.r.le r) {φ:ι→Prop} {res:ι→List SV} {mu':ι→Mu} (h1:∀ y,SV.noR.go (res y)=true) (h2:∀ y,BN (mu' y)=true) {e:Ending} {w':World} (q:RetP { E with r:=r } φ res mu' e w'):RetP E φ res mu' e w':=by
 obtain ⟨y,B',H',out,q1,q2,q3,q4⟩:=q
 refine ⟨y,B',H',out,q1,q2,SV.noR_rels _ (h1 y) q3,⟨⟨fun k c hc=>Ch.noR_sat (HP (h2 y) k c hc) (q4.mm.sat k c hc),q4.mm.fit,q4.mm.dj,fun k=>PH.dj_le (q4.mm.djr k) (PH.le_refl _) hr,q4.mm.fitr.le hr⟩,q4.keep,q4.dom,q4.anch⟩⟩
def zV (k:Nat) (m:List D):SV→SV
 | .a (.p j o)=>bif Nat.beq j k then .a (.rp .r m o) else .a (.p j o)
 | x=>x
def frZ (k:Nat) (m:List D):Fr→Fr
 | []=>[]
 | (t,x) :: r=>(t,zV k m x) :: frZ k m r
theorem NX {k:Nat} {m:List D} (t:Nat):∀ fr:Fr,mlk t (frZ k m fr)=(mlk t fr).map (zV k m)
 | []=>rfl
 | (j,x) :: r=>by
  simp only [frZ]
  rw [bO,bO]
  by_cases h:j=t
  ·rw [if_pos h,if_pos h];rfl
  ·rw [if_neg h,if_neg h];exact NX t r
theorem KX {B:BE} {r:PH} {H:Nat→PH}:∀ {l:List V} {m:List D},rdL l=some m→∀ {vs:List Value} {h:PH},V.owns B r h l vs→V.rels B (Zf r H) l vs
 | [],_,_,_,_,e=>e
 | x :: l,m,hm,vs,h,e=>by
  obtain ⟨a,t,g1,g2,e1,e2,e3,e4,e5,e6⟩:=e
  simp only [rdL] at hm
  split at hm
  ·rename_i y l' h1 h2
   refine ⟨a,t,e1,?_,KX h2 e6⟩
   cases x with
   | v x=>exact e5
   | s q sz n f =>
    cases q with
    | r => rcases e5 with ⟨c, _⟩ | ⟨_, e⟩
           ·cases c
           ·exact e
    | _=>simp [rdV] at h1
   | rp q l o =>
    cases q with
    | r=>exact e5.2
    | _=>simp [rdV] at h1
   | _=>simp [rdV] at h1
  ·cases hm
theorem TF (k:Nat) {ι:Type} {E:Env} {fn:Func} {φ:ι→Prop} {res:ι→List SV} {mu1:ι→Mu} {c:Code} {fr fr0:Fr} {mu mu':Mu} {K:List KF} {l:List V} {m:List D}
  (hk:mlk k mu=some (.row l)) (hm:rdL l=some m) (hmd:mS k mu=some mu') (hc:fW (V.usesT k) fr=some fr0) (h1:∀ y,SV.noR.go (res y)=true) (h2:∀ y,BN (mu1 y)=true)
  (h:∀ r',T { E with r:=r' } (bodyPost E.P fn (RetP { E with r:=r' } φ res mu1)) c (frZ k m fr0) mu' K):T E (bodyPost E.P fn (RetP E φ res mu1)) c fr mu K:=fun B a w H f me=>by
 obtain ⟨b,off,vs,h',e1,e2,e3,e4⟩:=me.mm.sat k _ hk
 have hvl:=V.owns_length e2
 have hdj:E.r.dj (H k):=PH.dj_symm (me.mm.djr k)
 have hr:E.r.le (E.r.un (H k)):=PH.le_un_left _ _
 have hkr:(H k).le (E.r.un (H k)):=PH.le_un_right hdj
 refine wp_mono (h (E.r.un (H k)) B a w (HF.set H k PH.emp) ?_ ?_) fun e a w q=>f4 (I8 fun e w q=>RetP.noR hr h1 h2 q) q
 ·have f1:=FitsE.anew f (k:=k) PH.emp hc (by rfl:f0 (V.usesT k) [] = some [])
  rw [BE.set_self] at f1
  have hz:∀ q,(Zf E.r (HF.set H k PH.emp) q).le (Zf (E.r.un (H k)) (HF.set H k PH.emp) q):=wZ hr fun _=>PH.le_refl _
  refine ⟨f1.size,f1.defers,fun t x ex _=>?_,fun _ _ _ _ h=>(by cases h),fun _ _ _ _ h=>(by cases h),fun _ _ _ _ h=>(by cases h)⟩
  rw [NX] at ex
  cases hx:mlk t fr0 with
  | none=>rw [hx] at ex;cases ex
  | some x0 =>
   rw [hx] at ex
   simp only [Option.map_some,Option.some.injEq] at ex
   subst ex
   have g:=SV.rel_mono hz x0 (f1.vfr t x0 hx rfl)
   unfold zV
   split
   ·rename_i j o
    cases hj:Nat.beq j k with
    | false=>exact g
    | true =>
     have hj:=Nat.eq_of_beq_eq_true hj
     subst hj
     obtain ⟨g1,_⟩:=(show _=kC (B j) o∧_ from g)
     simp only [cond_true]
     refine ⟨b,off,vs,?_,D.rds_mono hr m (J0 (Z:=Zf E.r H) hm (KX hm e2)),fun i hi=>?_⟩
     ·rw [g1,e1];simp [kC,jO]
     ·have hil:i<l.length:=by omega
      exact iS hkr rfl hi (e4 i hil).1
   ·exact g
 ·refine ⟨⟨fun j cc hcc=>?_,fun j=>?_,fun i j hij=>?_,fun j=>?_,?_⟩,me.keep,fun j b o hne=>?_,me.anch⟩
  ·have hs:=pM hmd j
   by_cases hj:j=k
   ·rw [if_pos hj] at hs;rw [hs] at hcc;cases hcc
   ·rw [if_neg hj] at hs;rw [hs] at hcc
    rw [HF.set_ne _ _ hj]
    exact Ch.sat_monoR hr (me.mm.sat j cc hcc)
  ·by_cases hj:j=k
   ·subst hj;rw [HF.set_eq];exact FitO.emp w
   ·rw [HF.set_ne _ _ hj];exact me.mm.fit j
  ·by_cases hi:i=k
   ·subst hi;rw [HF.set_eq];exact PH.emp_dj _
   ·rw [HF.set_ne _ _ hi]
    by_cases hj:j=k
    ·subst hj;rw [HF.set_eq];exact PH.dj_emp _
    ·rw [HF.set_ne _ _ hj];exact me.mm.dj i j hij
  ·by_cases hj:j=k
   ·subst hj;rw [HF.set_eq];exact PH.emp_dj _
   ·rw [HF.set_ne _ _ hj];exact PH.dj_un (me.mm.djr j) (me.mm.dj j k hj)
  ·exact me.mm.fitr.un (me.mm.fit k)
  ·by_cases hj:j=k
   ·subst hj;rw [HF.set_eq] at hne;exact absurd rfl hne
   ·rw [HF.set_ne _ _ hj] at hne;exact me.dom j b o hne
theorem aS (k:Nat) {ι:Type} {E:Env} {fn:Func} {φ:ι→Prop} {res:ι→List SV} {mu1:ι→Mu} {c:Code} {fr fr0:Fr} {mu mu':Mu} {K:List KF} {l:List V} {m:List D} (h:∀ r',T { E with r:=r' } (bodyPost E.P fn (RetP { E with r:=r' } φ res mu1)) c (frZ k m fr0) mu' K) (hk:mlk k mu=some (.row l):=by exact rfl) (hm:rdL l=some m:=by exact rfl) (hmd:mS k mu=some mu':=by exact rfl) (hc:fW (V.usesT k) fr=some fr0:=by exact rfl) (h1:∀ y,SV.noR.go (res y)=true:=by exact fun _=>rfl) (h2:∀ y,BN (mu1 y)=true:=by exact fun _=>rfl):T E (bodyPost E.P fn (RetP E φ res mu1)) c fr mu K:=TF k hk hm hmd hc h1 h2 h
end
section
def JO:Code→Nat
 | .seq a _=>JO a+1
 | .block _ a=>JO a+1
 | _=>1
theorem d5 {E:Env} {TT:List TI} {fr:Fr} {mu:Mu} {K:List KF} {R:Exit→Act→World→Prop} (hT:TOk E.P TT) {c:Code} {js:JS} {es:List Prop} {gs:List GO} (h:jB TT E.N E.A.ks (JO c) c fr mu K [] [] = some (js,es,gs)) (k:js.ok E R) (he:cC es:=by exact eD) (ho:cB gs:=by exact gD):T E R c fr mu K :=
 (j4 hT _ _ _ _ _ _ _ _ _ _ h ⟨he,ho⟩).2 k
end
end
section
section
structure GSet where
 region:Int
 slot:Int
 value:Int
 used:Bool
 version:Int
def Y7:GSet:=⟨0,0,0,false,0⟩
structure GNote where
 region:Int
 slot:Int
 version:Int
 value:Int
 used:Bool
def Y8:GNote:=⟨0,0,0,0,false⟩
structure GCell where
 head:Int
 value:Int
def Y9:GCell:=⟨0,0⟩
structure GOp where
 kind:Int
 id:Int
 a:Int
 b:Int
 c:Int
def ZC:GOp:=⟨0,0,0,0,0⟩
structure GTx where
 id:Int
 home:Int
 phase:Int
 done:Int
 reads:List GNote
 sets:List GSet
 stamp:Int
def Y5:GTx:=⟨0,0,0,0,[],[],0⟩
abbrev dI (x:Int):D := .v (.int .i64 x)
abbrev dB (x:Bool):D := .v (.bool x)
def bL (n:Int):List D:=[dI n]
def BM (n:Bool):List D:=[dB n]
def cH (n:GSet):List D:=[dI n.region,dI n.slot,dI n.value,dB n.used,dI n.version]
def cR (n:GNote):List D:=[dI n.region,dI n.slot,dI n.version,dI n.value,dB n.used]
def cQ (n:GCell):List D:=[dI n.head,dI n.value]
def cOp (n:GOp):List D:=[dI n.kind,dI n.id,dI n.a,dI n.b,dI n.c]
def cTx (t:GTx):List D:=[dI t.id,dI t.home,dI t.phase,dI t.done,dL 5 cR Y8 t.reads,dL 5 cH Y7 t.sets,dI t.stamp]
def inB (x lo hi:Int):Bool:=bif decide (x ≥ lo) then decide (x≤hi) else false
theorem bR {x lo hi:Int}:inB x lo hi=true ↔ lo≤x∧x≤hi:=by
 unfold inB
 by_cases h:x ≥ lo <;>simp [h]
theorem XV {x lo hi:Int}:inB x lo hi=false ↔ ¬ (lo≤x∧x≤hi):=by rw [← bR];simp
theorem cV (x lo hi:Int):Ans Tryz.prog 57 [] [vI x,vI lo,vI hi] [] (vB (inB x lo hi)):=by
 refine aD Tryz.func57 fun B0 r_ D_ w0=>?_
 refine aE ?_
 exact aF [(6,none)] (rfl)
theorem dH (x lo hi:Int):Ans Tryz.prog 58 [] [vI x,vI lo,vI hi] [] (vB (inB x lo hi)):=by
 refine aD Tryz.func58 fun B0 r_ D_ w0=>?_
 refine aE ?_
 exact aF [(6,none)] (rfl)
theorem mG (x:Int):Ans Tryz.prog 67 [] [vI x] [] (vB (inB x (1) 1000000)):=by
 refine aD Tryz.func67 fun B0 r_ D_ w0=>?_
 refine aE ?_
 refine aG (cV _ _ _) ?_
 exact aF [(2,none)] (rfl)
theorem oW (x:Int):Ans Tryz.prog 116 [] [vI x] [] (vB (inB x (0) 7)):=by
 refine aD Tryz.func116 fun B0 r_ D_ w0=>?_
 refine aE ?_
 refine aG (cV _ _ _) ?_
 exact aF [(2,none)] (rfl)
theorem mL (x:Int):Ans Tryz.prog 119 [] [vI x] [] (vB (inB x (0) 5)):=by
 refine aD Tryz.func119 fun B0 r_ D_ w0=>?_
 refine aE ?_
 refine aG (cV _ _ _) ?_
 exact aF [(2,none)] (rfl)
theorem oL (x:Int):Ans Tryz.prog 170 [] [vI x] [] (vB (inB x (0) 5)):=by
 refine aD Tryz.func170 fun B0 r_ D_ w0=>?_
 refine aE ?_
 refine aG (cV _ _ _) ?_
 exact aF [(2,none)] (rfl)
theorem nK (x:Int):Ans Tryz.prog 168 [] [vI x] [] (vB (inB x (-1000000000) 1000000000)):=by
 refine aD Tryz.func168 fun B0 r_ D_ w0=>?_
 refine aE ?_
 refine aG (cV _ _ _) ?_
 exact aF [(2,none)] (rfl)
theorem C7 (x:Int):Ans Tryz.prog 171 [] [vI x] [] (vB (inB x (0) 1000000)):=by
 refine aD Tryz.func171 fun B0 r_ D_ w0=>?_
 refine aE ?_
 refine aG (cV _ _ _) ?_
 exact aF [(2,none)] (rfl)
theorem oN (x:Int):Ans Tryz.prog 109 [] [vI x] [] (vB (inB x (0) 4000003)):=by
 refine aD Tryz.func109 fun B0 r_ D_ w0=>?_
 refine aE ?_
 refine aG (cV _ _ _) ?_
 exact aF [(2,none)] (rfl)
theorem q9 (x:Int):Ans Tryz.prog 85 [] [vI x] [] (vB (inB x (1) 1000000)):=by
 refine aD Tryz.func85 fun B0 r_ D_ w0=>?_
 refine aE ?_
 refine aG (dH _ _ _) ?_
 exact aF [(2,none)] (rfl)
theorem uQ (x:Int):Ans Tryz.prog 137 [] [vI x] [] (vB (inB x (0) 7)):=by
 refine aD Tryz.func137 fun B0 r_ D_ w0=>?_
 refine aE ?_
 refine aG (dH _ _ _) ?_
 exact aF [(2,none)] (rfl)
theorem mT (x:Int):Ans Tryz.prog 143 [] [vI x] [] (vB (inB x (0) 5)):=by
 refine aD Tryz.func143 fun B0 r_ D_ w0=>?_
 refine aE ?_
 refine aG (dH _ _ _) ?_
 exact aF [(2,none)] (rfl)
theorem zI (x:Int):Ans Tryz.prog 187 [] [vI x] [] (vB (inB x (0) 5)):=by
 refine aD Tryz.func187 fun B0 r_ D_ w0=>?_
 refine aE ?_
 refine aG (dH _ _ _) ?_
 exact aF [(2,none)] (rfl)
theorem qK (x:Int):Ans Tryz.prog 186 [] [vI x] [] (vB (inB x (-1000000000) 1000000000)):=by
 refine aD Tryz.func186 fun B0 r_ D_ w0=>?_
 refine aE ?_
 refine aG (dH _ _ _) ?_
 exact aF [(2,none)] (rfl)
theorem IX (x:Int):Ans Tryz.prog 185 [] [vI x] [] (vB (inB x (0) 4000003)):=by
 refine aD Tryz.func185 fun B0 r_ D_ w0=>?_
 refine aE ?_
 refine aG (dH _ _ _) ?_
 exact aF [(2,none)] (rfl)
def noteB (n:GNote):Bool:=bif (bif (bif inB n.region 0 5 then inB n.slot 0 5 else false) then inB n.version 0 1000000 else false) then inB n.value (-1000000000) 1000000000 else false
def setB (s:GSet):Bool:=bif (bif (bif inB s.region 0 5 then inB s.slot 0 5 else false) then inB s.value (-1000000000) 1000000000 else false) then inB s.version 0 999999 else false
theorem zM (n:GNote):Ans Tryz.prog 122 [] [vR (cR n)] [] (vB (noteB n)):=by
 refine aD Tryz.func122 fun B0 r_ D_ w0=>?_
 refine aE ?_
 refine aG (mL _) ?_
 refine aG (oL _) ?_
 refine aG (C7 _) ?_
 refine aG (nK _) ?_
 exact aF [(2,none)] (rfl)
theorem I5 (n:GNote):Ans Tryz.prog 145 [] [vR (cR n)] [] (vB (noteB n)):=by
 refine aD Tryz.func145 fun B0 r_ D_ w0=>?_
 refine aE ?_
 refine aG (mT _) ?_
 refine aG (zI _) ?_
 refine aG (dH _ _ _) ?_
 refine aG (qK _) ?_
 exact aF [(2,none)] (rfl)
theorem tY (n:GSet):Ans Tryz.prog 124 [] [vR (cH n)] [] (vB (setB n)):=by
 refine aD Tryz.func124 fun B0 r_ D_ w0=>?_
 refine aE ?_
 refine aG (mL _) ?_
 refine aG (oL _) ?_
 refine aG (nK _) ?_
 refine aG (cV _ _ _) ?_
 exact aF [(2,none)] (rfl)
theorem AJ (n:GSet):Ans Tryz.prog 147 [] [vR (cH n)] [] (vB (setB n)):=by
 refine aD Tryz.func147 fun B0 r_ D_ w0=>?_
 refine aE ?_
 refine aG (mT _) ?_
 refine aG (zI _) ?_
 refine aG (qK _) ?_
 refine aG (dH _ _ _) ?_
 exact aF [(2,none)] (rfl)
def sS (r s q t:Int):Bool:=bif decide (r<q) then true else bif r == q then decide (s<t) else false
theorem jU {r s q t:Int}:sS r s q t=true ↔ r<q∨r=q∧s<t:=by
 unfold sS
 by_cases h:r<q <;>by_cases h2:r=q <;>simp [h,h2]
theorem oP (a b c d:Int):Ans Tryz.prog 123 [] [vI a,vI b,vI c,vI d] [] (vB (sS a b c d)):=by
 refine aD Tryz.func123 fun B0 r_ D_ w0=>?_
 refine aE ?_
 exact aF [(8,none)] (rfl)
def mA (a b:Int):Int:=if a<b then -1 else if a > b then 1 else 0
theorem NS (a:Int):Ans Tryz.prog 157 [] [vI a] [] (vB false):=by
 refine aD Tryz.func157 fun B0 r_ D_ w0=>?_
 refine aE ?_
 exact cE TT_ok [(2,none)] rfl rfl (by simp)
theorem BH (a b:Int):Ans Tryz.prog 104 [] [vI a,vI b] [] (vI (mA a b)):=by
 refine aD Tryz.func104 fun B0 r_ D_ w0=>?_
 refine aE ?_
 refine aG (NS _) ?_
 refine aG (NS _) ?_
 refine bW rfl (fun e=>by cases e) (fun _=>?_)
 refine aE ?_
 refine bW rfl (fun e=>by cases e) (fun _=>?_)
 refine aE ?_
 refine aH (fun e=>?_) (fun e=>?_)
 ·refine aE ?_
  exact d8 TT_ok [(4,none)] rfl rfl (by rw [mA,if_pos e])
 refine aE ?_
 refine aH (fun e2=>?_) (fun e2=>?_)
 ·refine aE ?_
  exact d8 TT_ok [(4,none)] rfl rfl (by rw [mA,if_neg e,if_pos e2])
 refine aE ?_
 exact d8 TT_ok [(4,none)] rfl rfl (by rw [mA,if_neg e,if_neg e2])
def orL:List Int→Int
 | []=>0
 | x :: r=>if x≠0 then x else orL r
theorem SC:∀ {xs:List Int} {i:Nat},i<xs.length→(∀ j,j<i→xs.getD j 0=0)→xs.getD i 0≠0→orL xs=xs.getD i 0
 | x :: r,0,_,_,h=>by simp at h;simp [orL,h]
 | x :: r,i+1,hi,h0,h=>by
  have hx:x=0:=by simpa using h0 0 (by omega)
  simp only [orL,hx]
  simp only [ne_eq,not_true_eq_false,if_false]
  rw [SC (by simpa using hi) (fun j hj=>by simpa using h0 (j+1) (by omega)) (by simpa using h)]
  simp
theorem RC:∀ {xs:List Int},(∀ j,j<xs.length→xs.getD j 0=0)→orL xs=0
 | [],_=>rfl
 | x :: r,h=>by
  have hx:x=0:=by simpa using h 0 (by simp)
  simp only [orL,hx,ne_eq,not_true_eq_false,if_false]
  exact RC fun j hj=>by simpa using h (j+1) (by simpa using hj)
theorem bX {P:Nat→Prop} {i:Nat} (h:∀ j,j<i→P j) (k:P i):∀ j,j<i+1→P j:=fun j hj=>by
 by_cases e:j=i
 ·subst e;exact k
 ·exact h j (by omega)
theorem WK (xs:List Int) (hl:xs.length≤maxL):Ans Tryz.prog 188 [] [vL 1 bL 0 xs] [] (vI (orL xs)):=by
 unfold maxL at hl
 refine aD Tryz.func188 fun B0 r_ D_ w0=>?_
 refine aE ?_
 refine aJ (ι:=Nat) (fun i=>[(8,vI i)]) (fun _=>[]) (fun i=>i≤xs.length∧∀ j,j<i→xs.getD j 0=0) (fun i=>xs.length - i) 0 [] [] ⟨Nat.zero_le _,fun j hj=>absurd hj (Nat.not_lt_zero _)⟩ ?_
 intro i ⟨h1,h2⟩
 refine aE ?_
 refine aH (fun e=>?_) (fun e=>?_)
 ·refine aE ?_
  refine iJ rfl (fun e2=>?_) (fun e2=>?_)
  ·refine aE ?_
   exact d8 TT_ok [(2,none)] rfl rfl ((SC (by omega) h2 (by simpa using e2)).symm)
  ·refine aE ?_
   exact aK (i+1) ⟨by omega,bX h2 (by simpa using e2)⟩ (by omega)
 ·refine aE ?_
  exact d8 TT_ok [(2,none)] rfl rfl ((RC fun j hj=>h2 j (by omega)).symm)
def wK (r s q t:Int):Int:=orL [mA r q,mA s t]
theorem IL {r s q t:Int}:decide (wK r s q t<0)=sS r s q t:=by
 unfold wK sS orL orL mA
 by_cases h:r<q
 ·simp [h]
 ·by_cases h2:r=q
  ·subst h2;by_cases h3:s<t <;>by_cases h4:s > t <;>simp [h3,h4,orL]
  ·have:r > q:=by omega
   simp [h,h2,this,orL]
theorem CD {r s q t:Int}:decide (wK r s q t ≥ 0) = !sS r s q t:=by
 rw [← IL]
 by_cases h:wK r s q t<0
 ·rw [decide_eq_true h,decide_eq_false (by omega)];rfl
 ·rw [decide_eq_false h,decide_eq_true (by omega)];rfl
theorem xC (a b c d:Int):Ans Tryz.prog 146 [] [vI a,vI b,vI c,vI d] [] (vI (wK a b c d)):=by
 refine aD Tryz.func146 fun B0 r_ D_ w0=>?_
 refine aE ?_
 refine aG (BH _ _) ?_
 refine aG (BH _ _) ?_
 refine cJ TT_ok 900 (fun i=>bL ([mA a c,mA b d].getD i 0)) rfl rfl rfl rfl rfl rfl rfl (fun i hi=>by rcases i with _ | _ | i <;>first | rfl | omega) (mu1:=[]) rfl rfl rfl ?_
 refine aM ?_
 refine aG (WK [mA a c,mA b d] (Nat.le_of_ble_eq_true rfl)) ?_
 exact aI [(8,none)] (rfl)
end
section
open Classical in
noncomputable def dec (p:Prop):Bool:=if p then true else false
theorem dG {p:Prop} (h:p):dec p=true:=by simp [dec,h]
theorem cF {p:Prop} (h:¬ p):dec p=false:=by simp [dec,h]
theorem fP {p:Prop}:dec p=true ↔ p:=by simp [dec]
theorem kO {p:Prop}:dec p=false ↔ ¬ p:=by simp [dec]
def lessN (a b:GNote):Prop:=a.region<b.region∨a.region=b.region∧a.slot<b.slot
def lessS (a b:GSet):Prop:=a.region<b.region∨a.region=b.region∧a.slot<b.slot
def readsOk (xs:List GNote) (n:Nat):Prop := ∀ j,j<n→noteB (xs.getD j Y8)=true∧(0<j→lessN (xs.getD (j - 1) Y8) (xs.getD j Y8))
def setsOk (xs:List GSet) (n:Nat):Prop := ∀ j,j<n→setB (xs.getD j Y7)=true∧(0<j→lessS (xs.getD (j - 1) Y7) (xs.getD j Y7))
def m7 (t:GTx):Prop:=(1≤t.id∧t.id≤1000000)∧(0≤t.home∧t.home≤7)∧(1≤t.phase∧t.phase≤9)∧(0≤t.done∧t.done≤1000)∧(0≤t.stamp∧t.stamp≤1000000)∧t.reads.length≤12∧t.sets.length≤12
def dV (t:GTx):Prop:=m7 t∧readsOk t.reads t.reads.length∧setsOk t.sets t.sets.length
theorem readsOk.succ {xs:List GNote} {i:Nat} (h:readsOk xs i) (h1:noteB (xs.getD i Y8)=true) (h2:0<i→lessN (xs.getD (i - 1) Y8) (xs.getD i Y8)):readsOk xs (i+1):=fun j hj=>by
 rcases Nat.lt_succ_iff_lt_or_eq.1 hj with h3 | h3
 ·exact h j h3
 ·subst h3;exact ⟨h1,h2⟩
theorem setsOk.succ {xs:List GSet} {i:Nat} (h:setsOk xs i) (h1:setB (xs.getD i Y7)=true) (h2:0<i→lessS (xs.getD (i - 1) Y7) (xs.getD i Y7)):setsOk xs (i+1):=fun j hj=>by
 rcases Nat.lt_succ_iff_lt_or_eq.1 hj with h3 | h3
 ·exact h j h3
 ·subst h3;exact ⟨h1,h2⟩
theorem kV {i:Nat} (h:0<i):((i:Int) - 1).toNat=i - 1:=by omega
theorem rG (t:GTx):Ans Tryz.prog 71 [] [vR (cTx t)] [] (vB (dec (dV t))):=by
 refine aD Tryz.func71 fun B0 r_ D_ w0=>?_
 refine aE ?_
 refine aG (mG _) ?_
 refine aG (oW _) ?_
 refine aG (cV _ _ _) ?_
 refine aG (cV _ _ _) ?_
 refine aG (cV _ _ _) ?_
 refine aA (fun e=>?_) (fun e=>?_)
 ·refine aE ?_
  refine (?_:¬ dV t→_) ?_
  ·intro hf
   exact aF [(2,none)] ((cF hf).symm)
  intro h
  obtain ⟨⟨h1,h2,h3,h4,h5,h6,h7⟩,_⟩:=h
  simp only [bR.2 h1,bR.2 h2,bR.2 h3,bR.2 h4,bR.2 h5] at e
  simp at e
  omega
 have hH:m7 t:=by
  simp only [Bool.cond_true_left,Bool.or_eq_false_iff,Bool.not_eq_false',bR,decide_eq_false_iff_not] at e
  unfold m7
  omega
 clear e
 have hr1:t.reads.length≤12:=hH.2.2.2.2.2.1
 have hr2:t.sets.length≤12:=hH.2.2.2.2.2.2
 refine aE ?_
 refine aJ (ι:=Nat) (fun i=>[(3,vI i)]) (fun _=>[]) (fun i=>i≤t.reads.length∧readsOk t.reads i) (fun i=>t.reads.length - i) 0 [] [] ⟨Nat.zero_le _,fun j hj=>absurd hj (Nat.not_lt_zero _)⟩ ?_
 intro i ⟨h1,h2⟩
 refine aE ?_
 refine aH (fun e=>?_) (fun e=>?_)
 ·have hi:i<t.reads.length:=by omega
  refine aE ?_
  refine dN TT_ok [] rfl rfl fun B0 H0=>?_
  refine iF TT_ok (zM _) rfl rfl rfl rfl rfl rfl ?_
  refine iF TT_ok (oP _ _ _ _) rfl rfl rfl rfl rfl rfl ?_
  refine aN ?_
  refine aA (fun e1=>?_) (fun e1=>?_) <;>simp only [Int.toNat_natCast] at e1
  ·refine aE ?_
   refine (?_:¬ dV t→_) ?_
   ·intro hf
    exact aF [(2,none)] ((cF hf).symm)
   intro h
   obtain ⟨g1,g2⟩:=h.2.1 i hi
   simp only [g1] at e1
   by_cases hp:0<i
   ·rw [kV hp,jU.2 (g2 hp)] at e1
    simp at e1
   ·simp [show i=0 from by omega] at e1
  ·have g1:noteB (t.reads.getD i Y8)=true:=by
    cases hb:noteB (t.reads.getD i Y8) with
    | true=>rfl
    | false=>rw [hb] at e1;simp at e1
   have g2:0<i→lessN (t.reads.getD (i - 1) Y8) (t.reads.getD i Y8):=fun hp=>by
    rw [kV hp] at e1
    simp only [g1] at e1
    refine jU.1 ?_
    simpa [hp] using e1
   refine aE ?_
   exact aK (i+1) ⟨hi,readsOk.succ h2 g1 g2⟩ (by omega)
 have hi:i=t.reads.length:=by omega
 subst hi
 have h3:readsOk t.reads t.reads.length:=h2
 clear h2 h1 e
 refine aE ?_
 refine aJ (ι:=Nat) (fun i=>[(5,vI i)]) (fun _=>[]) (fun i=>i≤t.sets.length∧setsOk t.sets i) (fun i=>t.sets.length - i) 0 [] [] ⟨Nat.zero_le _,fun j hj=>absurd hj (Nat.not_lt_zero _)⟩ ?_
 intro i ⟨h1,h4⟩
 refine aE ?_
 refine aH (fun e=>?_) (fun e=>?_)
 ·have hi:i<t.sets.length:=by omega
  refine aE ?_
  refine dN TT_ok [] rfl rfl fun B0 H0=>?_
  refine iF TT_ok (tY _) rfl rfl rfl rfl rfl rfl ?_
  refine iF TT_ok (oP _ _ _ _) rfl rfl rfl rfl rfl rfl ?_
  refine aN ?_
  refine aA (fun e1=>?_) (fun e1=>?_) <;>simp only [Int.toNat_natCast] at e1
  ·refine aE ?_
   refine (?_:¬ dV t→_) ?_
   ·intro hf
    exact aF [(2,none)] ((cF hf).symm)
   intro h
   obtain ⟨g1,g2⟩:=h.2.2 i hi
   simp only [g1] at e1
   by_cases hp:0<i
   ·rw [kV hp,jU.2 (g2 hp)] at e1
    simp at e1
   ·simp [show i=0 from by omega] at e1
  ·have g1:setB (t.sets.getD i Y7)=true:=by
    cases hb:setB (t.sets.getD i Y7) with
    | true=>rfl
    | false=>rw [hb] at e1;simp at e1
   have g2:0<i→lessS (t.sets.getD (i - 1) Y7) (t.sets.getD i Y7):=fun hp=>by
    rw [kV hp] at e1
    simp only [g1] at e1
    refine jU.1 ?_
    simpa [hp] using e1
   refine aE ?_
   exact aK (i+1) ⟨hi,setsOk.succ h4 g1 g2⟩ (by omega)
 have hi:i=t.sets.length:=by omega
 subst hi
 have h5:setsOk t.sets t.sets.length:=h4
 clear h4 h1 e
 refine aE ?_
 exact aF [(2,none)] ((dG ⟨hH,h3,h5⟩).symm)
theorem NC (t:GTx):Ans Tryz.prog 90 [] [vR (cTx t)] [] (vB (dec (dV t))):=by
 refine aD Tryz.func90 fun B0 r_ D_ w0=>?_
 refine aE ?_
 refine aG (q9 _) ?_
 refine aG (uQ _) ?_
 refine aG (dH _ _ _) ?_
 refine aG (dH _ _ _) ?_
 refine aG (dH _ _ _) ?_
 refine aA (fun e=>?_) (fun e=>?_)
 ·refine aE ?_
  refine (?_:¬ dV t→_) ?_
  ·intro hf
   exact aF [(2,none)] ((cF hf).symm)
  intro h
  obtain ⟨⟨h1,h2,h3,h4,h5,h6,h7⟩,_⟩:=h
  simp only [bR.2 h1,bR.2 h2,bR.2 h3,bR.2 h4,bR.2 h5] at e
  simp at e
  omega
 have hH:m7 t:=by
  simp only [Bool.cond_true_left,Bool.or_eq_false_iff,Bool.not_eq_false',bR,decide_eq_false_iff_not] at e
  unfold m7
  omega
 clear e
 have hr1:t.reads.length≤12:=hH.2.2.2.2.2.1
 have hr2:t.sets.length≤12:=hH.2.2.2.2.2.2
 refine aE ?_
 refine aJ (ι:=Nat) (fun i=>[(50,vI i)]) (fun _=>[]) (fun i=>i≤t.reads.length∧readsOk t.reads i) (fun i=>t.reads.length - i) 0 [] [] ⟨Nat.zero_le _,fun j hj=>absurd hj (Nat.not_lt_zero _)⟩ ?_
 intro i ⟨h1,h2⟩
 refine aE ?_
 refine aH (fun e=>?_) (fun e=>?_)
 ·have hi:i<t.reads.length:=by omega
  refine aE ?_
  refine dN TT_ok [] rfl rfl fun B0 H0=>?_
  refine iF TT_ok (I5 _) rfl rfl rfl rfl rfl rfl ?_
  refine iF TT_ok (xC _ _ _ _) rfl rfl rfl rfl rfl rfl ?_
  refine aN ?_
  refine aA (fun e1=>?_) (fun e1=>?_) <;>simp only [Int.toNat_natCast] at e1
  ·refine aE ?_
   refine (?_:¬ dV t→_) ?_
   ·intro hf
    exact aF [(2,none)] ((cF hf).symm)
   intro h
   obtain ⟨g1,g2⟩:=h.2.1 i hi
   simp only [CD,g1] at e1
   by_cases hp:0<i
   ·rw [kV hp,jU.2 (g2 hp)] at e1
    simp at e1
   ·simp [show i=0 from by omega] at e1
  ·have g1:noteB (t.reads.getD i Y8)=true:=by
    cases hb:noteB (t.reads.getD i Y8) with
    | true=>rfl
    | false=>rw [hb] at e1;simp at e1
   have g2:0<i→lessN (t.reads.getD (i - 1) Y8) (t.reads.getD i Y8):=fun hp=>by
    rw [kV hp] at e1
    simp only [CD,g1] at e1
    refine jU.1 ?_
    simpa [hp] using e1
   refine aE ?_
   exact aK (i+1) ⟨hi,readsOk.succ h2 g1 g2⟩ (by omega)
 have hi:i=t.reads.length:=by omega
 subst hi
 have h3:readsOk t.reads t.reads.length:=h2
 clear h2 h1 e
 refine aE ?_
 refine aJ (ι:=Nat) (fun i=>[(88,vI i)]) (fun _=>[]) (fun i=>i≤t.sets.length∧setsOk t.sets i) (fun i=>t.sets.length - i) 0 [] [] ⟨Nat.zero_le _,fun j hj=>absurd hj (Nat.not_lt_zero _)⟩ ?_
 intro i ⟨h1,h4⟩
 refine aE ?_
 refine aH (fun e=>?_) (fun e=>?_)
 ·have hi:i<t.sets.length:=by omega
  refine aE ?_
  refine dN TT_ok [] rfl rfl fun B0 H0=>?_
  refine iF TT_ok (AJ _) rfl rfl rfl rfl rfl rfl ?_
  refine iF TT_ok (xC _ _ _ _) rfl rfl rfl rfl rfl rfl ?_
  refine aN ?_
  refine aA (fun e1=>?_) (fun e1=>?_) <;>simp only [Int.toNat_natCast] at e1
  ·refine aE ?_
   refine (?_:¬ dV t→_) ?_
   ·intro hf
    exact aF [(2,none)] ((cF hf).symm)
   intro h
   obtain ⟨g1,g2⟩:=h.2.2 i hi
   simp only [CD,g1] at e1
   by_cases hp:0<i
   ·rw [kV hp,jU.2 (g2 hp)] at e1
    simp at e1
   ·simp [show i=0 from by omega] at e1
  ·have g1:setB (t.sets.getD i Y7)=true:=by
    cases hb:setB (t.sets.getD i Y7) with
    | true=>rfl
    | false=>rw [hb] at e1;simp at e1
   have g2:0<i→lessS (t.sets.getD (i - 1) Y7) (t.sets.getD i Y7):=fun hp=>by
    rw [kV hp] at e1
    simp only [CD,g1] at e1
    refine jU.1 ?_
    simpa [hp] using e1
   refine aE ?_
   exact aK (i+1) ⟨hi,setsOk.succ h4 g1 g2⟩ (by omega)
 have hi:i=t.sets.length:=by omega
 subst hi
 have h5:setsOk t.sets t.sets.length:=h4
 clear h4 h1 e
 refine aE ?_
 exact aF [(2,none)] ((dG ⟨hH,h3,h5⟩).symm)
open Classical in
noncomputable def fZ (t:GTx):Int:=if dV t then (if t.phase=5∧t.done > 0∨t.phase=6∨t.phase=7 then 1 else if t.phase=8∨t.phase=9 then 2 else 0) else -1
theorem EV (t:GTx):Ans Tryz.prog 34 [] [vR (cTx t)] [] (vI (fZ t)):=by
 refine aD Tryz.func34 fun B0 r_ D_ w0=>?_
 refine aE ?_
 refine aG (rG _) ?_
 refine eZ rfl (fun e=>?_) (fun e=>?_)
 ·refine aE ?_
  exact d8 TT_ok [(2,none)] rfl rfl (by rw [fZ,if_neg (kO.1 e)])
 have hT:=fP.1 e
 refine aE ?_
 refine aO (fun e5=>?_) (fun e5=>?_)
 ·refine aE ?_
  refine aH (fun e=>?_) (fun e=>?_)
  ·refine aE ?_
   exact d8 TT_ok [(2,none)] rfl rfl (by rw [fZ,if_pos hT,if_pos (by omega)])
  ·refine aE ?_
   exact d8 TT_ok [(2,none)] rfl rfl (by rw [fZ,if_pos hT,if_neg (by omega),if_neg (by omega)])
 refine aE ?_
 refine aO (fun e6=>?_) (fun e6=>?_)
 ·refine aE ?_
  refine aO (fun _=>?_) (fun h=>absurd e6 h)
  refine aE ?_
  exact d8 TT_ok [(2,none)] rfl rfl (by rw [fZ,if_pos hT,if_pos (by omega)])
 refine aE ?_
 refine aO (fun e7=>?_) (fun e7=>?_)
 ·refine aE ?_
  exact d8 TT_ok [(2,none)] rfl rfl (by rw [fZ,if_pos hT,if_pos (by omega)])
 refine aE ?_
 refine aO (fun e8=>?_) (fun e8=>?_)
 ·refine aE ?_
  refine aO (fun _=>?_) (fun h=>absurd e8 h)
  refine aE ?_
  exact d8 TT_ok [(2,none)] rfl rfl (by rw [fZ,if_pos hT,if_neg (by omega),if_pos (by omega)])
 refine aE ?_
 refine aO (fun e9=>?_) (fun e9=>?_)
 ·refine aE ?_
  exact d8 TT_ok [(2,none)] rfl rfl (by rw [fZ,if_pos hT,if_neg (by omega),if_pos (by omega)])
 refine aE ?_
 exact d8 TT_ok [(2,none)] rfl rfl (by rw [fZ,if_pos hT,if_neg (by omega),if_neg (by omega)])
def kU (t:GTx):Bool:=decide (t.phase=5∧t.done > 0∨t.phase=6∨t.phase=7)
end
end
section
theorem yL (x y:Int) (h1:0≤y) (h2:y<9223372036854775808):0≤oB x y∧oB x y≤y:=by
 unfold oB
 have h3:(BitVec.ofInt 64 x &&& BitVec.ofInt 64 y).toNat≤(BitVec.ofInt 64 y).toNat:=by rw [BitVec.toNat_and];exact Nat.and_le_right
 have e64:((2 ^ 64:Nat):Int)=18446744073709551616:=by decide
 have h4:((BitVec.ofInt 64 y).toNat:Int)=y:=by
  rw [BitVec.toNat_ofInt,e64,Int.emod_eq_of_lt h1 (by omega)];omega
 have h5:IntKind.i64.wrap (((BitVec.ofInt 64 x &&& BitVec.ofInt 64 y).toNat:Nat):Int)=(((BitVec.ofInt 64 x &&& BitVec.ofInt 64 y).toNat:Nat):Int):=IntWalk.i64_in _ (by omega)
 rw [h5]
 omega
abbrev tZ (n:Nat) (β:Nat→Int) (i h:Int):Mu:=[(700, .row [.g 701, .v (.int .i64 i), .v (.int .i64 h)]),(701, .ro 1 n fun k=>[.v (.int .u8 (β k))])]
abbrev curO (i h:Int):Mu:=[(700, .row [.g 701, .v (.int .i64 i), .v (.int .i64 h)])]
def g0 (β:Nat→Int):Prop := ∀ k,0≤β k∧β k≤255
abbrev yZ {α:Type} (P:Program) (f:Nat) (args:List SV) (n:Nat) (β:Nat→Int) (i h:Int) (ψ:α→Prop) (res:α→SV):Prop :=
 Con P f [700,701] (.a (.p 700 0) :: args) (tZ n β i h) (fun y:α×Int×Int=>ψ y.1∧0≤y.2.1∧y.2.1≤n) (fun y=>[res y.1]) fun y=>curO y.2.1 y.2.2
theorem tQ {n:Nat} {β:Nat→Int} (hn:n≤1048576) (hβ:g0 β) (i h:Int) (h1:0≤i) (h2:i≤n):yZ Tryz.prog 115 [] n β i h (fun x:Int=>0≤x∧x≤255) vI:=by
 have hb:=hβ i.toNat
 refine aD Tryz.func115 fun B0 r_ D_ w0=>?_
 refine aE ?_
 refine dN TT_ok [] rfl rfl fun B0 H0=>?_
 refine aN ?_
 obtain ⟨X,hX,hx⟩:∃ X,oB (xorI ((lK (lK (h * 6364136223846793005)+1442695040888963407)).fdiv (2 ^ min 33 IntKind.i64.bits)) ((lK (lK (h * 6364136223846793005)+1442695040888963407)).fdiv (2 ^ min 45 IntKind.i64.bits))) 255=X∧0≤X∧X≤255:=⟨_,rfl,yL _ _ (by decide) (by decide)⟩
 rw [hX]
 refine dN TT_ok [] rfl rfl fun B0 H0=>?_
 refine aN ?_
 refine aH (fun e=>?_) (fun e=>?_)
 ·refine aE ?_
  refine dN TT_ok [] rfl rfl fun B0 H0=>?_
  refine aN ?_
  have hy:=yL (X+β i.toNat) 255 (by decide) (by decide)
  refine aC ((oB (X+β i.toNat) 255,i+1,lK (lK (h * 6364136223846793005)+1442695040888963407))) [(2,none)] ?_ ?_ ?_
  ·exact ZF _
  ·exact wM
  ·exact ⟨hy,by dsimp only;omega,by dsimp only;omega⟩
 ·refine aE ?_
  refine aC ((X,i,lK (lK (h * 6364136223846793005)+1442695040888963407))) [(2,none)] ?_ ?_ ?_
  ·exact ZF _
  ·exact wM
  ·exact ⟨hx,h1,h2⟩
theorem bI {n:Nat} {β:Nat→Int} (hn:n≤1048576) (hβ:g0 β) (i h:Int) (h1:0≤i) (h2:i≤n) (m:Int):yZ Tryz.prog 65 [vI m] n β i h (fun x:Int=>0≤x∧(x<m∨m≤0∧x=0)) vI:=by
 refine aD Tryz.func65 fun B0 r_ D_ w0=>?_
 refine aE ?_
 refine aH (fun e=>?_) (fun e=>?_)
 ·refine aE ?_
  refine aC ((0,i,h)) [(4,none)] ?_ ?_ ?_
  ·exact ZF _
  ·exact wM
  ·exact ⟨⟨Int.le_refl _, .inr ⟨e,rfl⟩⟩,h1,h2⟩
 refine aE ?_
 refine aH (fun e2=>?_) (fun e2=>?_)
 ·refine aE ?_
  refine aP (tQ hn hβ i h h1 h2) fun y hy=>?_
  refine aM ?_
  refine aC ((y.1.tmod m,y.2.1,y.2.2)) [(4,none)] ?_ ?_ ?_
  ·exact ZF _
  ·exact wM
  ·exact ⟨⟨Int.tmod_nonneg _ hy.1.1, .inl (Int.tmod_lt_of_pos _ (by omega))⟩,hy.2⟩
 refine aE ?_
 refine aP (tQ hn hβ i h h1 h2) fun a ha=>?_
 refine aM ?_
 refine aP (tQ hn hβ a.2.1 a.2.2 ha.2.1 ha.2.2) fun b hb=>?_
 refine aM ?_
 refine aP (tQ hn hβ b.2.1 b.2.2 hb.2.1 hb.2.2) fun c hc=>?_
 refine aM ?_
 refine aP (tQ hn hβ c.2.1 c.2.2 hc.2.1 hc.2.2) fun d hd=>?_
 have ha1:=ha.1
 have hb1:=hb.1
 have hc1:=hc.1
 have hd1:=hd.1
 refine aM ?_
 refine aC (((a.1 * 16777216+b.1 * 65536+c.1 * 256+d.1).tmod m,d.2.1,d.2.2)) [(4,none)] ?_ ?_ ?_
 ·exact ZF _
 ·exact wM
 ·exact ⟨⟨Int.tmod_nonneg _ (by omega), .inl (Int.tmod_lt_of_pos _ (by omega))⟩,hd.2⟩
theorem dX {n:Nat} {β:Nat→Int} (hn:n≤1048576) (hβ:g0 β) (i h:Int) (h1:0≤i) (h2:i≤n) (m:Int):yZ Tryz.prog 64 [vI m] n β i h (fun _:Bool=>True) vB:=by
 refine aD Tryz.func64 fun B0 r_ D_ w0=>?_
 refine aE ?_
 refine aP (bI hn hβ i h h1 h2 m) fun y hy=>?_
 refine aM ?_
 refine aC ((y.1 == 0,y.2.1,y.2.2)) [(4,none)] ?_ ?_ ?_
 ·exact ZF _
 ·exact wM
 ·exact ⟨trivial,hy.2⟩
theorem tJ {n:Nat} {β:Nat→Int} (hn:n≤1048576) (hβ:g0 β) (i h:Int) (h1:0≤i) (h2:i≤n) (lo hi:Int) (h3 : -1000000000000≤lo) (h4:lo≤hi) (h5:hi≤1000000000000):yZ Tryz.prog 66 [vI lo,vI hi] n β i h (fun x:Int=>lo≤x∧x≤hi) vI:=by
 refine aD Tryz.func66 fun B0 r_ D_ w0=>?_
 refine aE ?_
 refine aP (bI hn hβ i h h1 h2 (hi - lo+1)) fun y hy=>?_
 have hy1:=hy.1
 refine aM ?_
 refine aC ((lo+y.1,y.2.1,y.2.2)) [(6,none)] ?_ ?_ ?_
 ·exact ZF _
 ·exact wM
 ·exact ⟨by dsimp only;omega,hy.2⟩
theorem BT {n:Nat} {β:Nat→Int} (hn:n≤1048576) (hβ:g0 β):Con Tryz.prog 62 [701] [.a (.g 701)] [(701, .ro 1 n fun k=>[.v (.int .u8 (β k))])] (fun _:Int=>True) (fun _=>[.a (.p 700 0)]) fun h=>curO 0 h:=by
 refine aD Tryz.func62 fun B0 r_ D_ w0=>?_
 refine aE ?_
 refine cW (ι:=Nat×Int) (fun y=>[(4,vI y.1),(3,vI y.2)]) (fun _=>[]) (fun y=>y.1≤n∧0≤y.2∧y.2≤1073741823) (fun y=>n - y.1) (0,101027+n) [] [] rfl rfl ⟨Nat.zero_le _,by dsimp only;omega,by dsimp only;omega⟩ wF wM ?_
 rintro ⟨i,x⟩ ⟨h1,h2,h3⟩
 dsimp only at h1 h2 h3 ⊢
 have hb:=hβ i
 refine aE ?_
 refine aH (fun e=>?_) (fun e=>?_)
 ·have hb2:0≤β ((i:Int)).toNat∧β ((i:Int)).toNat≤255:=hβ _
  refine aE ?_
  exact aK (i+1,_) ⟨by dsimp only;omega,yL _ _ (by decide) (by decide)⟩ (by dsimp only;omega)
 ·refine aE ?_
  refine a9 (bH 27 700) ?_
  refine aC (x) [(2,none)] ?_ ?_ ?_
  ·exact ZF _
  ·exact wM
  ·trivial
end
section
def S2 (N:Nat) (xo:Option SV) (d:Option Nat) (fr:Fr) (gf:GF):Option (Fr×GF):=match xo,d with
 | some x,some t=>match cU t gf with
  | some gf'=>bif Nat.blt t N then some ((t,x) :: fr,gf') else none
  | none=>none
 | none,none=>some (fr,gf)
 | _,_=>none
section
variable {E:Env} {B:BE} {mu mu':Mu} {w:World} {H:Nat→PH} {TT:List TI} {fr fr':Fr} {gf gf':GF} {a:Act} {all rest:List Oper} {Q:Exit→Act→World→Prop} {o:Oper} {J:Act→World→Prop} {G:AG}
theorem OJ_M (hT:TOk E.P TT) {xo:Option SV} {nw:Bool} {k:Nat} {c:Ch} {q:Ob} {es:List Prop} {gs:List GO} {fr0:Fr} {gf0:GF} (h:mst TT E.A.ks fr gf mu o.dst o.op=some (xo,nw,k,c,q)) (hs:cP fr gf [] q [] [] = some (es,gs)) (hmu:gB k c mu=some mu') (hcut:A0 nw k fr gf=some (fr0,gf0))
  (hput:S2 E.N xo o.dst fr0 gf0=some (fr',gf')) (hG:bD k G.ks=false) (kk:SJ G J E fr' gf' mu') (hg:o.guard=none:=by exact rfl) (he:cC es:=by exact eD) (ho:cB gs:=by exact gD):OJ G E all Q J o fr gf mu:=fun B a w H f m gg=>by
 obtain ⟨nx,w',B',H',r1,r2,r3,r4,r5,r6⟩:=LM hT f m h (eS f (fun _ _ hm=>by cases hm) hs he ho) hmu hcut
 have gg':G.ok B' H':=fun j hj=>by
  have hjk:j≠k:=fun e=>by subst e;rw [hG] at hj;cases hj
  obtain ⟨e1,e2⟩:=r6 j hjk
  obtain ⟨e3,e4⟩:=gg j hj
  exact ⟨e1.trans e3,e2.trans e4⟩
 unfold S2 at hput
 split at hput
 ·rename_i x t hd
  split at hput
  ·rename_i gf2 hgd
   cases hbt:Nat.blt t E.N with
   | false=>rw [hbt] at hput;cases hput
   | true =>
    rw [hbt] at hput
    simp only [cond_true,Option.some.injEq,Prod.mk.injEq] at hput
    obtain ⟨rfl,rfl⟩:=hput
    obtain ⟨v,e1,e2⟩:=r2 _ rfl
    subst e1
    refine tC (eN hg) r1 ?_
    rw [hd]
    exact kk B' _ w' H' (Fits.put r5 (by simpa [Nat.blt_eq] using hbt) e2 hgd) r4 gg'
  ·cases hput
 ·rename_i hd
  simp only [Option.some.injEq,Prod.mk.injEq] at hput
  obtain ⟨rfl,rfl⟩:=hput
  have:=r3 rfl
  subst this
  refine S9 (eN hg) r1 ?_
  rw [hd]
  exact kk B' _ w' H' r5 r4 gg'
 ·cases hput
theorem aR {xo:Option SV} {nw:Bool} {k:Nat} {c:Ch} {q:Ob} {es:List Prop} {gs:List GO} {fr0:Fr} {gf0:GF} (kk:SJ G J E fr' gf' mu') (hT:TOk E.P TT:=by exact TT_ok) (h:mst TT E.A.ks fr gf mu o.dst o.op=some (xo,nw,k,c,q):=by exact rfl) (hs:cP fr gf [] q [] [] = some (es,gs):=by exact rfl) (hmu:gB k c mu=some mu':=by exact rfl) (hcut:A0 nw k fr gf=some (fr0,gf0):=by exact rfl) (hput:S2 E.N xo o.dst fr0 gf0=some (fr',gf'):=by exact rfl) (hG:bD k G.ks=false:=by exact rfl) (hg:o.guard=none:=by exact rfl) (he:cC es:=by exact eD) (ho:cB gs:=by exact gD):OJ G E all Q J o fr gf mu:=OJ_M hT h hs hmu hcut hput hG kk hg he ho
end
section
variable {E:Env} {mu:Mu} {TT:List TI} {fr:Fr} {gf gf':GF} {all rest:List Oper} {Q:Exit→Act→World→Prop} {o:Oper}
theorem WZ {t j d:Nat} {b x:Bool} (v:SV) (hg:o.guard=some (j,b)) (hsl:rE all j=some d) (hx:mlk d fr=some (.a (.v (.bool x)))) (hgx:glk d gf=none) (hne:x = !b) (hn:mlk t fr=none) (hgd:cU t gf=some gf')
  (k:RJ E all Q rest fr ((t,d,b,v) :: gf') mu) (hd:o.dst=some t:=by exact rfl) (ht:(Nat.blt t E.N && !(Nat.beq t d))=true:=by exact rfl):RJ E all Q (o :: rest) fr gf mu:=by
 refine iX fun B a w H ff mm _=>?_
 simp only [Bool.and_eq_true,Bool.not_eq_true'] at ht
 have htd:t≠d:=Nat.ne_of_beq_eq_false ht.2
 have htN:t<E.N:=by simpa [Nat.blt_eq] using ht.1
 have hv:a.tmps.getD d undef = .bool x:=ff.vfr d _ hx hgx
 have hyes:a.tmps.getD d undef ≠ .bool b:=by rw [hv,hne];cases b <;>simp
 have hw:=hY (ops:=all.toArray) (a:=a) hg (jZ hsl)
 refine xB (by
  cases e:Region.wanted o (yielded all.toArray a.tmps) with
  | false=>rfl
  | true=>exact absurd (hw.1 e) hyes) ?_
 rw [hd]
 exact k B _ w H (Fits.putG ff htN htd hn hgd (.inr ⟨hyes,rfl⟩)) mm
end
section
variable {E:Env} {mu mu0:Mu} {TT:List TI} {fr fr0:Fr} {gf:GF} {all:List Oper} {R:Exit→Act→World→Prop} {K:List KF} {G:AG}
theorem T_cut (fr0:Fr) (mu0:Mu) {c:Code} (h:X E R (nxN K) fr0 mu0) (k:X E R (nxN K) fr0 mu0→T E R c fr mu K):T E R c fr mu K:=k h
theorem X_go (hT:TOk E.P TT) {x:Nx} {js:JS} {es:List Prop} {gs:List GO} (ha:tH (jB TT E.N E.A.ks 400) x fr mu [] [] = some (js,es,gs)) (k:js.ok E R) (he:cC es:=by exact eD) (ho:cB gs:=by exact gD):X E R x fr mu :=
 (qE (j4 hT 400) ha ⟨he,ho⟩).2 k
theorem aT {x:Nx} {js:JS} {es:List Prop} {gs:List GO} (k:js.ok E R) (hT:TOk E.P TT:=by exact TT_ok) (ha:tH (jB TT E.N E.A.ks 400) x fr mu [] [] = some (js,es,gs):=by exact rfl) (he:cC es:=by exact eD) (ho:cB gs:=by exact gD):X E R x fr mu:=X_go hT ha k he ho
theorem F1 {n:Nat} {tk:List Nat} (key:X E R (nxN K) fr0 mu0) (hf:WkFr E.P fr fr0) (hm:WkMu mu mu0) (hr:(Region.ready .any all.toArray (mk all.toArray.size tk)).isEmpty=true:=by kernel_rfl):DJ G E all (KQ E.P R K) n tk fr gf mu :=
 D0 hr fun B a w H f m=>key B a w H (f.wk hf) (m.wk hm)
end
section
variable {E:Env} {B:BE} {mu mu':Mu} {w:World} {H:Nat→PH} {TT:List TI} {fr fr':Fr} {gf gf':GF} {a:Act} {all rest:List Oper} {Q:Exit→Act→World→Prop} {o:Oper} {J:Act→World→Prop} {G:AG} {R:Exit→Act→World→Prop} {K:List KF}
theorem XO (hT:TOk E.P TT) (ex:List Nat) (is:List Nat) {id:Nat} {l:List Oper} {ks is' tk':List Nat} {es:List Prop} {gs:List GO} (hks:CA ex mu=ks) (ha:pS TT E.N l (muR ks mu) is fr [] [] [] [] = some (is',fr',gf',tk',es,gs))
  (k:∀ B0 H0,DJ ⟨ks,B0,H0⟩ E l (KQ E.P R K) is'.length tk' fr' gf' mu) (hlen:is.length=l.length:=by exact rfl) (hR:PQ R:=by exact nM _ _) (hm:E.P.follows .mixedOrders=true:=by kernel_rfl) (hb:nR l.toArray is is' [] = true:=by kernel_rfl)
  (he:cC es:=by exact eD) (ho:cB gs:=by exact gD):T E R (.region id l.toArray true) fr mu K :=
 Q9 ex l.length hm (by simp) hks fun B0 H0=>by
  have:=(nB (G:=⟨ks,B0,H0⟩) (K:=K) hT hR _ _ _ _ _ _ ha).2 hb ⟨he,ho⟩
  rw [← hlen]
  exact this.2 (k B0 H0)
theorem aW (ex:List Nat) (is:List Nat) {id:Nat} {l:List Oper} {ks is' tk':List Nat} {es:List Prop} {gs:List GO} (k:∀ B0 H0,DJ ⟨ks,B0,H0⟩ E l (KQ E.P R K) is'.length tk' fr' gf' mu) (hT:TOk E.P TT:=by exact TT_ok) (hks:CA ex mu=ks:=by exact rfl) (ha:pS TT E.N l (muR ks mu) is fr [] [] [] [] = some (is',fr',gf',tk',es,gs):=by exact rfl) (hlen:is.length=l.length:=by exact rfl) (hR:PQ R:=by exact nM _ _) (hm:E.P.follows .mixedOrders=true:=by kernel_rfl) (hb:nR l.toArray is is' [] = true:=by kernel_rfl) (he:cC es:=by exact eD) (ho:cB gs:=by exact gD):T E R (.region id l.toArray true) fr mu K:=XO hT ex is hks ha k hlen hR hm hb he ho
theorem XX (hT:TOk E.P TT) (is:List Nat) {tk is' tk':List Nat} {es:List Prop} {gs:List GO} (ha:pS TT E.N all (muR G.ks mu) is fr gf tk [] [] = some (is',fr',gf',tk',es,gs)) (k:DJ G E all (KQ E.P R K) is'.length tk' fr' gf' mu) (hR:PQ R:=by exact nM _ _) (hb:nR all.toArray is is' tk=true:=by kernel_rfl)
  (he:cC es:=by exact eD) (ho:cB gs:=by exact gD):DJ G E all (KQ E.P R K) is.length tk fr gf mu :=
 ((nB (G:=G) (K:=K) hT hR _ _ _ _ _ _ ha).2 hb ⟨he,ho⟩).2 k
theorem aY (is:List Nat) {tk is' tk':List Nat} {es:List Prop} {gs:List GO} (k:DJ G E all (KQ E.P R K) is'.length tk' fr' gf' mu) (hT:TOk E.P TT:=by exact TT_ok) (ha:pS TT E.N all (muR G.ks mu) is fr gf tk [] [] = some (is',fr',gf',tk',es,gs):=by exact rfl) (hR:PQ R:=by exact nM _ _) (hb:nR all.toArray is is' tk=true:=by kernel_rfl) (he:cC es:=by exact eD) (ho:cB gs:=by exact gD):DJ G E all (KQ E.P R K) is.length tk fr gf mu:=XX hT is ha k hR hb he ho
theorem f6 (i:Nat) {n:Nat} {tk:List Nat} {f:Nat} {ks:List Nat} {args:List SV} {mu1:Mu} {res:SV} (C:Ans E.P f ks args mu1 res) {svs args':List SV} {g:Option (Nat×Nat×Bool)} {t:Nat} {q:Ob} {es:List Prop} {gs:List GO} (hi:nth all i=some o)
  (hc:g8 E.N all fr gf o=some (f,svs,g,t,gf')) (hw:jC (muR G.ks mu) [] ks svs=some (args',q)) (hae:SVs.imp E.P args' args) (hs:cP fr gf (match g with | none=>[] | some (_,d,b)=>iQ 6 gf d b) q [] [] = some (es,gs))
  (k:DJ G E all (KQ E.P R K) n (i :: tk) (frQ fr g t res) (gfQ gf' g t res) mu)
  {x:Value} (hx:exV res=some x:=by exact rfl) (hR:PQ R:=by exact nM _ _) (hb:rC all.toArray tk i=true:=by kernel_rfl)
  (hko:bJ mu1=[]:=by exact rfl) (hres:res.inK ks=true:=by exact rfl) (hin:jK (muR G.ks mu) mu1:=by repeat (first | exact trivial | refine And.intro ⟨_,rfl,tT⟩ ?_ | refine And.intro ⟨_,rfl,yG⟩ ?_ | refine And.intro ⟨_,rfl,uM⟩ ?_ | refine And.intro ⟨_,rfl,ZE _⟩ ?_)) (hen:fK E.P f:=by exact aB) (he:cC es:=by exact eD) (ho:cB gs:=by exact gD):DJ G E all (KQ E.P R K) (n+1) tk fr gf mu :=
 S5 hR i C hx hi hb hc rfl hen hko hres hw hae hs he ho hin k
end
section
variable {E:Env} {mu:Mu} {fr:Fr} {gf:GF} {all:List Oper} {G:AG}
theorem d7 (i:Nat) {n:Nat} {tk:List Nat} {o:Oper} {Q:Exit→Act→World→Prop} (hi:nth all i=some o) (hB:z5 all.toArray tk i=true) (hC:DL all.toArray i=true) (h:OJ AG.nil E all Q (fun a' w' => ∃ G':AG,Sr G' E.r w'∧Lw E.P all.toArray Q (Sr G' E.r) n (mk all.toArray.size (i :: tk)) a' w') o fr gf mu):DJ G E all Q (n+1) tk fr gf mu:=fun B a w H f m gg w2 hb=>by
 have hr:=zX hB
 have hi':all.toArray[i]? = some o:=by rw [mY] at hi;simpa using hi
 refine ⟨fun h0=>(by rw [hr] at h0;cases h0),fun j hj=>?_⟩
 rw [hr] at hj
 obtain rfl:=List.mem_singleton.1 hj
 have h1:=One.mono (fun a' w' (h:∃ G':AG,Sr G' E.r w'∧Lw E.P all.toArray Q (Sr G' E.r) n (mk all.toArray.size (j :: tk)) a' w')=>(let ⟨_,h1,h2⟩:=h; ⟨_, .inr hC,h1,h2⟩:∃ S',(S'=Sr G E.r∨DL all.toArray j=true)∧S' w'∧Lw E.P all.toArray Q S' n (mk all.toArray.size (j :: tk)) a' w')) (h B a w2 H f (m.below hb) (AG.nil_ok B H))
 unfold One at h1
 unfold wpOp
 rw [hi',xG]
 exact h1
theorem eX (ks':List Nat) {n:Nat} {tk:List Nat} {Q:Exit→Act→World→Prop} (h:∀ B0 H0,DJ ⟨ks',B0,H0⟩ E all Q n tk fr gf mu):SJ AG.nil (fun a' w' => ∃ G':AG,Sr G' E.r w'∧Lw E.P all.toArray Q (Sr G' E.r) n (mk all.toArray.size tk) a' w') E fr gf mu:=fun B a w H f m _ =>
 ⟨⟨ks',B,H⟩,m.sr fun _ _=>⟨rfl,rfl⟩,h B H B a w H f m fun _ _=>⟨rfl,rfl⟩⟩
end
end
section
section
variable {E:Env} {mu:Mu} {fr:Fr} {R:Exit→Act→World→Prop} {K:List KF}
theorem dC {ι:Type} {c:Code} (u:ι→Fr) (um:ι→Mu) (φ:ι→Prop) (kc kd:List Nat) {fk:Fr} {mk:Mu} (hkf:sJ (wD c []) kc kd fr [] = some fk) (hkm:dR kc mu=some mk)
  (body:T E R c fr mu (.loop (Inv E (fun y=>tV (u y) fk) (fun y=>jL (um y) mk) φ (fun _=>0) 1) :: K)) (h:∀ y,φ y→X E R (nxN K) (tV (u y) fk) (jL (um y) mk)):T E R c fr mu K:=fun B a w H f me=>by
 refine wp_mono (body B a w H f me) ?_
 intro e a' w' q
 cases e with
 | normal =>
  obtain ⟨z,z1,z2,B',H',z3,z4⟩:=q
  exact rZ (h z z1 B' a' w' H' z3 z4)
 | exit id=>exact q
 | goto l=>exact q
 | ret=>exact q
 | panic ch=>exact q
 | outgrown=>exact q
end
section
variable {E:Env} {mu mu':Mu} {fr fr':Fr} {gf gf':GF} {all:List Oper} {G:AG} {Q:Exit→Act→World→Prop}
def VX (E:Env) (fr:Fr) (gf:GF) (mu:Mu) (fr':Fr) (gf':GF):Prop := ∀ B w H a,FitsE E B H fr gf a→Mem E B mu w H→FitsE E B H fr' gf' a
theorem vF {n:Nat} {tk:List Nat} (v:VX E fr gf mu fr' gf') (h:DJ G E all Q n tk fr' gf' mu):DJ G E all Q n tk fr gf mu:=fun B a w H f m gg=>h B a w H (v B w H a f m) m gg
theorem uZ (t:Nat) {k k2 sz n:Nat} {f:Nat→List D} {i:Int} {o:Nat} (ht:mlk t fr=some (.a (.pe k sz i o))) (hg:glk t gf=none) (hk:mlk k mu=some (.hole sz n f i k2)):VX E fr gf mu ((t, .a (.p k2 o)) :: fr) gf:=fun B w H a ff m=>by
 refine ⟨ff.size,ff.defers,fun t' x e1 e2=>?_,ff.vgf,ff.vgu,fun t' d w x e1=>?_⟩
 ·rw [bO] at e1
  by_cases h:t=t'
  ·subst h
   rw [if_pos rfl] at e1
   injection e1 with e1
   subst e1
   obtain ⟨h1,h2⟩:=(show _=elP (B k) sz i o∧_ from ff.vfr t _ ht e2)
   obtain ⟨A,c,g1,_,_,_,g5,_⟩:=m.mm.sat k _ hk
   refine ⟨?_,h2⟩
   rw [h1,g5,g1];exact K5
  ·rw [if_neg h] at e1;exact ff.vfr t' x e1 e2
 ·rw [bO]
  by_cases h:t=t'
  ·subst h
   have:=ff.vno t d w x e1
   rw [ht] at this;cases this
  ·rw [if_neg h];exact ff.vno t' d w x e1
end
end
section
section
def cA (r:Int) (xs:List GSet):List GSet:=xs.filter fun s=>s.region == r
theorem FS (t:GTx) (r0:Int) (hl:t.sets.length≤1048576):MkL Tryz.prog 236 [vR (cTx t),vI r0] 5 cH Y7 (cA r0 t.sets):=by
 refine aD Tryz.func236 fun B0 r_ D_ w0=>?_
 refine aE ?_
 refine aL 7 (fun i=>cH (([]:List GSet).getD i Y7)) (fun i hi=>absurd hi (Nat.not_lt_zero _)) (mu1:=[]) ?_
 refine aM ?_
 refine aJ (ι:=Nat) (fun i=>[(6,vI i),(5, .a (.g 7))]) (fun i=>[(7,bE 5 cH Y7 ((t.sets.take i).filter fun s=>s.region == r0))]) (fun i=>i≤t.sets.length) (fun i=>t.sets.length - i) 0 [7] [7] (Nat.zero_le _) ?_
 intro i h1
 refine aE ?_
 refine aH (fun e=>?_) (fun e=>?_)
 ·have hi:i<t.sets.length:=by omega
  have hle:=uU t.sets (fun s=>s.region == r0) i
  refine aE ?_
  refine aO (fun e2=>?_) (fun e2=>?_)
  ·refine aE ?_
   refine cJ TT_ok 29 (fun _=>cH (t.sets.getD i Y7)) rfl rfl rfl rfl rfl rfl rfl (fun i hi=>by rcases i with _ | i <;>first | rfl | omega) (mu1:=[]) rfl rfl rfl ?_
   refine aM ?_
   refine cL TT_ok 7 29 30 rfl rfl rfl rfl rfl rfl rfl rfl rfl rfl rfl rfl ⟨by simp;omega,by unfold maxL;omega⟩ ?_
   refine aM ?_
   refine bC (bH 7 30) ?_
   exact bF (i+1) hi (by omega) wF ⟨⟨_,rfl,cX (mP hi (by simpa using e2)) rfl⟩,wM⟩
  ·refine aE ?_
   exact bF (i+1) hi (by omega) wF ⟨⟨_,rfl,bU (nW hi (by simpa using e2))⟩,wM⟩
 ·have hi:i=t.sets.length:=by omega
  subst hi
  refine aE ?_
  refine a9 (bH 7 900) ?_
  refine aC (()) [(4,none)] ?_ ?_ ?_
  ·exact ZF _
  ·exact ⟨⟨_,rfl,bU (by rw [List.take_length];rfl)⟩,trivial⟩
  ·trivial
end
end
section
section
def cmI (xs:List Int):Nat→List Int
 | 0=>[]
 | i+1=>if i=0∨xs.getD i 0≠xs.getD (i - 1) 0 then cmI xs i ++ [xs.getD i 0] else cmI xs i
theorem NZ {xs:List Int} {i:Nat} (h:i=0∨xs.getD i 0≠xs.getD (i - 1) 0):cmI xs (i+1)=cmI xs i ++ [xs.getD i 0]:=by rw [cmI,if_pos h]
theorem YO {xs:List Int} {i:Nat} (h:0<i) (e:xs.getD i 0=xs.getD (i - 1) 0):cmI xs (i+1)=cmI xs i:=by
 rw [cmI,if_neg]
 rintro (h1 | h1)
 ·omega
 ·exact h1 e
theorem U4 {xs:List Int}:∀ {k:Nat},k≤xs.length→(∀ j,1≤j→j<k→xs.getD j 0≠xs.getD (j - 1) 0)→cmI xs k=xs.take k
 | 0,_,_=>by simp [cmI]
 | k+1,hk,h=>by
  rw [NZ,U4 (by omega) fun j h1 h2=>h j h1 (by omega),b7 (z:=0) (by omega)]
  by_cases c:k=0
  ·exact .inl c
  ·exact .inr (h k (by omega) (by omega))
theorem QZ {xs:List Int}:∀ {k:Nat},(cmI xs k).length≤k
 | 0=>Nat.le_refl _
 | k+1=>by
  have:=QZ (xs:=xs) (k:=k)
  rw [cmI];split
  ·simp;omega
  ·omega
def gY (l:List Int):Nat→List Int
 | 0=>[]
 | i+1=>if l.getD i 0 ∈ gY l i then gY l i else gY l i ++ [l.getD i 0]
theorem HY {xs:List Int}:∀ {k:Nat},(gY xs k).length≤k
 | 0=>Nat.le_refl _
 | k+1=>by
  have:=HY (xs:=xs) (k:=k)
  rw [gY];split
  ·omega
  ·simp;omega
theorem HE {l:List Int}:∀ {k:Nat},k≤l.length→(∀ j,0<j→j<k→l.getD (j - 1) 0≤l.getD j 0)→gY l k=cmI l k∧(0<k→l.getD (k - 1) 0 ∈ gY l k∧∀ x ∈ gY l k,x≤l.getD (k - 1) 0)
 | 0,_,_=>⟨rfl,fun h=>absurd h (Nat.lt_irrefl _)⟩
 | k+1,hk,h=>by
  obtain ⟨h1,h2⟩:=HE (l:=l) (k:=k) (by omega) fun j j1 j2=>h j j1 (by omega)
  by_cases c:l.getD k 0 ∈ gY l k
  ·have hk0:0<k:=by
    rcases Nat.eq_zero_or_pos k with e | e
    ·subst e;cases c
    ·exact e
   have e:l.getD k 0=l.getD (k - 1) 0:=Int.le_antisymm ((h2 hk0).2 _ c) (h k hk0 (by omega))
   refine ⟨by rw [gY,if_pos c,h1,YO hk0 e],fun _=>?_⟩
   rw [gY,if_pos c,Nat.add_sub_cancel,e]
   exact h2 hk0
  ·refine ⟨?_,fun _=>?_⟩
   ·rw [gY,if_neg c,h1,NZ]
    rcases Nat.eq_zero_or_pos k with e | e
    ·exact .inl e
    ·right;intro e2;rw [e2] at c;exact c (h2 e).1
   ·rw [gY,if_neg c,Nat.add_sub_cancel]
    refine ⟨by simp,fun x hx=>?_⟩
    rw [List.mem_append] at hx
    rcases hx with hx | hx
    ·rcases Nat.eq_zero_or_pos k with e | e
     ·subst e;cases hx
     ·exact Int.le_trans ((h2 e).2 x hx) (h k e (by omega))
    ·simp at hx;rw [hx];exact Int.le_refl _
end
section
theorem yM {xs:List Int} {i:Nat} (h:i<xs.length):xs.getD i 0 ∈ xs:=by simp [h]
theorem fY {xs:List Int} {n:Int}:n ∈ xs ↔ ∃ i,i<xs.length∧xs.getD i 0=n:=by
 rw [List.mem_iff_getElem]
 constructor
 ·rintro ⟨i,h,e⟩;exact ⟨i,h,by simp [h,e]⟩
 ·rintro ⟨i,h,e⟩;exact ⟨i,h,by simpa [h] using e⟩
theorem kJ (xs:List Int) (hl:xs.length≤1048576) (n:Int):Ans Tryz.prog 117 [] [vL 1 bL 0 xs,vI n] [] (vB (decide (n ∈ xs))):=by
 refine aD Tryz.func117 fun B0 r_ D_ w0=>?_
 refine aE ?_
 refine aJ (ι:=Nat) (fun i=>[(5,vI i)]) (fun _=>[]) (fun i=>i≤xs.length∧∀ j,j<i→xs.getD j 0≠n) (fun i=>xs.length - i) 0 [] [] ⟨Nat.zero_le _,fun j hj=>absurd hj (Nat.not_lt_zero _)⟩ ?_
 intro i ⟨h1,h2⟩
 refine aE ?_
 refine aH (fun e=>?_) (fun e=>?_)
 ·have hi:i<xs.length:=by omega
  refine aE ?_
  refine aO (fun e2=>?_) (fun e2=>?_)
  ·refine aE ?_
   exact aF [(4,none)] ((decide_eq_true (fY.2 ⟨i,hi,e2⟩)).symm)
  ·refine aE ?_
   exact aK (i+1) ⟨hi,bX h2 e2⟩ (by omega)
 ·refine aE ?_
  exact cE TT_ok [(4,none)] rfl rfl ((decide_eq_false fun h=>by obtain ⟨j,j1,j2⟩:=fY.1 h;exact h2 j (by omega) j2).symm)
abbrev gX (t:GTx):List Int:=t.sets.map GSet.region
theorem rP (t:GTx) (i:Nat):(gX t).getD i 0=(t.sets.getD i Y7).region:=by
 simp only [gX,List.getD_eq_getElem?_getD,List.getElem?_map]
 cases t.sets[i]? <;>rfl
theorem xR (t:GTx):(gX t).length=t.sets.length:=List.length_map _
theorem P2 (t:GTx) (hl:t.sets.length≤1048576):MkL Tryz.prog 245 [vR (cTx t)] 1 bL 0 (gY (gX t) t.sets.length):=by
 refine aD Tryz.func245 fun B0 r_ D_ w0=>?_
 refine aE ?_
 refine aL 5 (fun i=>bL (([]:List Int).getD i 0)) (fun i hi=>absurd hi (Nat.not_lt_zero _)) (mu1:=[]) ?_
 refine aM ?_
 refine aJ (ι:=Nat) (fun i=>[(4,vI i),(3, .a (.g 5))]) (fun i=>[(5,bE 1 bL 0 (gY (gX t) i))]) (fun i=>i≤t.sets.length) (fun i=>t.sets.length - i) 0 [5] [5] (Nat.zero_le _) ?_
 intro i h1
 refine aE ?_
 refine aH (fun e=>?_) (fun e=>?_)
 ·have hi:i<t.sets.length:=by omega
  have hle:=HY (xs:=gX t) (k:=i)
  refine aE ?_
  refine mI TT_ok (kJ _ (by omega) _) rfl rfl rfl rfl rfl ?_
  refine eZ rfl (fun e2=>?_) (fun e2=>?_)
  ·have e3:¬ (gX t).getD i 0 ∈ gY (gX t) i:=by rw [rP];exact of_decide_eq_false e2
   refine aE ?_
   refine cJ TT_ok 29 (fun _=>bL (t.sets.getD i Y7).region) rfl rfl rfl rfl rfl rfl rfl (fun i hi=>by rcases i with _ | i <;>first | rfl | omega) (mu1:=[]) rfl rfl rfl ?_
   refine aM ?_
   refine cL TT_ok 5 29 30 rfl rfl rfl rfl rfl rfl rfl rfl rfl rfl rfl rfl ⟨by simp;omega,by unfold maxL;omega⟩ ?_
   refine aM ?_
   refine bC (bH 5 30) ?_
   exact bF (i+1) hi (by omega) wF ⟨⟨_,rfl,cX (x:=(t.sets.getD i Y7).region) (by rw [gY,if_neg e3,rP]) rfl⟩,wM⟩
  ·have e3:(gX t).getD i 0 ∈ gY (gX t) i:=by rw [rP];exact of_decide_eq_true e2
   refine aE ?_
   exact bF (i+1) hi (by omega) wF ⟨⟨_,rfl,bU (by rw [gY,if_pos e3])⟩,wM⟩
 ·have hi:i=t.sets.length:=by omega
  subst hi
  refine aE ?_
  refine a9 (bH 5 900) ?_
  refine aC (()) [(2,none)] ?_ ?_ ?_
  ·exact ZF _
  ·exact wM
  ·trivial
theorem VE {t:GTx} (h:dV t):gY (gX t) t.sets.length=cmI (gX t) (gX t).length:=by
 rw [xR]
 refine (HE (by rw [xR];exact Nat.le_refl _) fun j h1 h2=>?_).1
 rw [rP,rP]
 have:=(h.2.2 j h2).2 h1
 unfold lessS at this
 omega
end
end
section
structure GPlace where
 machines:List Int
def Y3:GPlace:=⟨[]⟩
structure GRecord where
 kind:Int
 tx:Int
 region:Int
 sets:List GSet
def ZB:GRecord:=⟨0,0,0,[]⟩
structure GCopy where
 region:Int
 cells:List GCell
def ZA:GCopy:=⟨0,[]⟩
structure GMachine where
 alive:Bool
 copies:List GCopy
 log:List GRecord
 cleared:List Int
def Y4:GMachine:=⟨false,[],[],[]⟩
structure GCluster where
 config:Int
 clock:Int
 places:List GPlace
 machines:List GMachine
 txs:List GTx
 lost:Bool
def Y6:GCluster:=⟨0,0,[],[],[],false⟩
def cN (p:GPlace):List D:=[dL 1 bL 0 p.machines]
def cM (r:GRecord):List D:=[dI r.kind,dI r.tx,dI r.region,dL 5 cH Y7 r.sets]
def dY (c:GCopy):List D:=[dI c.region,dL 2 cQ Y9 c.cells]
def bQ (m:GMachine):List D:=[dB m.alive,dL 2 dY ZA m.copies,dL 4 cM ZB m.log,dL 1 bL 0 m.cleared]
def bK (c:GCluster):List D:=[dI c.config,dI c.clock,dL 1 cN Y3 c.places,dL 4 bQ Y4 c.machines,dL 7 cTx Y5 c.txs,dB c.lost]
mutual
def D.bd (N:Nat):D→Prop
 | .v _=>True
 | .sl _ n f=>n≤N∧∀ i,i<n→D.bds N (f i)
 | .pt l _=>D.bds N l
def D.bds (N:Nat):List D→Prop
 | []=>True
 | x :: r=>D.bd N x∧D.bds N r
end
mutual
theorem D.rd_bd {h:PH}:∀ (x:D) {y:Value},D.rd h x y→D.bd maxL x
 | .v _,_,_=>trivial
 | .sl sz n f,y,e=>by
  obtain ⟨A,c,e1,e2,e3,e4⟩:=e
  refine ⟨e3,fun i hi=>?_⟩
  rcases e4 with e4 | ⟨b,o,_,e6⟩
  ·omega
  ·obtain ⟨row,r1,_⟩:=e6 i hi
   exact D.rds_bd (f i) r1
 | .pt l o,y,e=>by
  obtain ⟨b,x,vs,e1,e2,e3⟩:=e
  exact D.rds_bd l e2
theorem D.rds_bd {h:PH}:∀ (x:List D) {y:List Value},D.rds h x y→D.bds maxL x
 | [],_,_=>trivial
 | x :: r,y,e=>by
  obtain ⟨a,t,e1,e2,e3⟩:=e
  exact ⟨D.rd_bd x e2,D.rds_bd r e3⟩
end
def fC {α:Type} (w:α→Nat):List α→Nat
 | []=>0
 | x :: r=>w x+fC w r
section
variable {α:Type} {w:α→Nat} {z:α}
theorem rA:∀ (l m:List α),fC w (l ++ m)=fC w l+fC w m
 | [],m=>by simp [fC]
 | x :: r,m=>by simp [fC,rA r m];omega
theorem R5 {xs:List α} {i:Nat} (h:i<xs.length):fC w (xs.take (i+1))=fC w (xs.take i)+w (xs.getD i z):=by
 rw [b7 (z:=z) h,rA];simp [fC]
theorem L0 (xs:List α) (i:Nat):fC w (xs.take i)≤fC w xs:=by
 conv=>rhs;rw [← List.take_append_drop i xs]
 rw [rA];omega
theorem U5 {xs:List α} {i:Nat} (h:i<xs.length):w (xs.getD i z)≤fC w xs:=by
 have h1:=R5 (w:=w) (z:=z) h
 have h2:=L0 (w:=w) xs (i+1)
 omega
end
def wL {α:Type} (w:α→Nat) (xs:List α):Nat:=xs.length+fC w xs
def lN (p:GPlace):Nat:=p.machines.length
def wX (r:GRecord):Nat:=r.sets.length
def sP (c:GCopy):Nat:=c.cells.length
def eO (m:GMachine):Nat:=wL sP m.copies+wL wX m.log+m.cleared.length
def wTx (t:GTx):Nat:=t.reads.length+t.sets.length
def iR (c:GCluster):Nat:=wL lN c.places+wL eO c.machines+wL wTx c.txs
abbrev eA:Nat:=1048576
theorem s9 {α:Type} {N sz:Nat} {enc:α→List D} {z:α} {xs:List α} (h:xs.length≤N) (hf:∀ x,D.bds N (enc x)):D.bd N (dL sz enc z xs):=⟨h,fun _ _=>hf _⟩
theorem wW {α:Type} {N sz:Nat} {enc:α→List D} {z:α} {w:α→Nat} {xs:List α} (h:wL w xs≤N) (hf:∀ x,w x≤N→D.bds N (enc x)):D.bd N (dL sz enc z xs):=by
 unfold wL at h
 exact ⟨by omega,fun i hi=>hf _ (by have:=U5 (w:=w) (z:=z) hi;omega)⟩
theorem QT {N:Nat} (x:Int):D.bds N (bL x):=⟨trivial,trivial⟩
theorem RI {N:Nat} (x:GSet):D.bds N (cH x):=⟨trivial,trivial,trivial,trivial,trivial,trivial⟩
theorem WR {N:Nat} (x:GNote):D.bds N (cR x):=⟨trivial,trivial,trivial,trivial,trivial,trivial⟩
theorem WO {N:Nat} (x:GCell):D.bds N (cQ x):=⟨trivial,trivial,trivial⟩
theorem UK {N:Nat} (x:GPlace) (h:lN x≤N):D.bds N (cN x):=⟨s9 h QT,trivial⟩
theorem QH {N:Nat} (x:GRecord) (h:wX x≤N):D.bds N (cM x):=⟨trivial,trivial,trivial,s9 h RI,trivial⟩
theorem WF {N:Nat} (x:GCopy) (h:sP x≤N):D.bds N (dY x):=⟨trivial,s9 h WO,trivial⟩
theorem PF {N:Nat} (x:GMachine) (h:eO x≤N):D.bds N (bQ x):=by
 unfold eO at h
 exact ⟨trivial,wW (w:=sP) (by omega) fun x h=>WF x h,wW (w:=wX) (by omega) fun x h=>QH x h,s9 (by omega) QT,trivial⟩
theorem BX {N:Nat} (x:GTx) (h:wTx x≤N):D.bds N (cTx x):=by
 unfold wTx at h
 exact ⟨trivial,trivial,trivial,trivial,s9 (by omega) WR,s9 (by omega) RI,trivial,trivial⟩
theorem E8 {N:Nat} (x:GCluster) (h:iR x≤N):D.bds N (bK x):=by
 unfold iR at h
 exact ⟨trivial,trivial,wW (w:=lN) (by omega) fun x h=>UK x h,wW (w:=eO) (by omega) fun x h=>PF x h,wW (w:=wTx) (by omega) fun x h=>BX x h,trivial,trivial⟩
end
section
theorem t8 {α:Type} {p:α→Bool} {z:α} {xs:List α} {i:Nat} (hi:i<xs.length) (h:p (xs.getD i z)=true):xs.any p=true:=List.any_eq_true.2 ⟨xs.getD i z,by simp [hi],h⟩
theorem kR {α:Type} {p:α→Bool} {z:α} {xs:List α} (h:∀ j,j<xs.length→p (xs.getD j z)=false):xs.any p=false:=by
 rw [List.any_eq_false]
 intro x hx
 obtain ⟨a,ha,rfl⟩:=List.mem_iff_getElem.1 hx
 have:=h a ha
 simp [ha] at this
 simp [this]
theorem tF {α:Type} {p:α→Bool} {z:α} {xs:List α} (h:xs.any p=false):∀ j,j<xs.length→p (xs.getD j z)=false:=fun j hj=>by
 rw [List.any_eq_false] at h
 have:=h (xs.getD j z) (by simp [hj])
 simpa using this
theorem qO {α:Type} (p:α→Bool) (z:α) (xs:List α):decide (b0 p xs ≥ 0)=xs.any p:=by
 rcases gO p z xs with ⟨h1,h2⟩ | ⟨i,h1,h2,h3,h4⟩
 ·rw [kR h2,h1];rfl
 ·rw [t8 h1 h4,h2];simp
theorem GD {P:Program} {α:Type} {rd:α→List RD} (p:α→Bool):(fbO rd fun x => .bool (p x)).imp P (fbP (fun _=>True) rd fun x => .bool (p x)):=by
 intro B Z y ⟨f,vs,h1,h2⟩
 refine ⟨f,vs,h1,h2.1,fun args x ⟨a,_,e1,e2⟩=>h2.2 args x ⟨a,e1,e2⟩⟩
theorem FZ (xs:List GSet) (hl:xs.length≤1048576) (S:GSet→Prop) (hS:∀ i,i<xs.length→S (xs.getD i Y7)) (p:GSet→Bool):Ans Tryz.prog 149 [] [vL 5 cH Y7 xs,fbP S (fun x=>[RD.ag (cH x)]) fun x => .bool (p x)] [] (vI (b0 p xs)):=by
 refine aD Tryz.func149 fun B0 r_ D_ w0=>?_
 refine aE ?_
 refine aJ (ι:=Nat) (fun i=>[(8,vI i)]) (fun _=>[]) (fun i=>i≤xs.length∧∀ j,j<i→p (xs.getD j Y7)=false) (fun i=>xs.length - i) 0 [] [] ⟨Nat.zero_le _,fun j hj=>absurd hj (Nat.not_lt_zero _)⟩ ?_
 intro i ⟨h1,h2⟩
 refine aE ?_
 refine aH (fun e=>?_) (fun e=>?_)
 ·have hi:i<xs.length:=by omega
  refine aE ?_
  refine FU rfl rfl rfl ⟨xs.getD i Y7,hS i hi,rfl,rfl⟩ ?_
  refine aM ?_
  refine aA (fun e2=>?_) (fun e2=>?_)
  ·refine aE ?_
   exact aI [(4,none)] ((gH hi h2 e2).symm)
  ·refine aE ?_
   exact aK (i+1) ⟨hi,bX h2 e2⟩ (by omega)
 ·refine aE ?_
  exact d8 TT_ok [(4,none)] rfl rfl ((gI fun j hj=>h2 j (by omega)).symm)
theorem CH (xs:List GSet) (hl:xs.length≤1048576) (S:GSet→Prop) (hS:∀ i,i<xs.length→S (xs.getD i Y7)) (p:GSet→Bool):Ans Tryz.prog 93 [] [vL 5 cH Y7 xs,fbP S (fun x=>[RD.ag (cH x)]) fun x => .bool (p x)] [] (vB (xs.any p)):=by
 refine aD Tryz.func93 fun B0 r_ D_ w0=>?_
 refine aE ?_
 refine aG (FZ xs hl S hS p) ?_
 exact aF [(4,none)] (qO p Y7 xs)
theorem sF (xs:List GSet) (hl:xs.length≤1048576) (p:GSet→Bool):Ans Tryz.prog 93 [] [vL 5 cH Y7 xs,fbO (fun x=>[RD.ag (cH x)]) fun x => .bool (p x)] [] (vB (xs.any p)) :=
 (CH xs hl (fun _=>True) (fun _ _=>trivial) p).wkA ⟨_,_,rfl,ZD _,_,_,rfl,GD p,rfl⟩
theorem E9 (xs:List GNote) (hl:xs.length≤1048576) (S:GNote→Prop) (hS:∀ i,i<xs.length→S (xs.getD i Y8)) (p:GNote→Bool):Ans Tryz.prog 148 [] [vL 5 cR Y8 xs,fbP S (fun x=>[RD.ag (cR x)]) fun x => .bool (p x)] [] (vI (b0 p xs)):=by
 refine aD Tryz.func148 fun B0 r_ D_ w0=>?_
 refine aE ?_
 refine aJ (ι:=Nat) (fun i=>[(8,vI i)]) (fun _=>[]) (fun i=>i≤xs.length∧∀ j,j<i→p (xs.getD j Y8)=false) (fun i=>xs.length - i) 0 [] [] ⟨Nat.zero_le _,fun j hj=>absurd hj (Nat.not_lt_zero _)⟩ ?_
 intro i ⟨h1,h2⟩
 refine aE ?_
 refine aH (fun e=>?_) (fun e=>?_)
 ·have hi:i<xs.length:=by omega
  refine aE ?_
  refine FU rfl rfl rfl ⟨xs.getD i Y8,hS i hi,rfl,rfl⟩ ?_
  refine aM ?_
  refine aA (fun e2=>?_) (fun e2=>?_)
  ·refine aE ?_
   exact aI [(4,none)] ((gH hi h2 e2).symm)
  ·refine aE ?_
   exact aK (i+1) ⟨hi,bX h2 e2⟩ (by omega)
 ·refine aE ?_
  exact d8 TT_ok [(4,none)] rfl rfl ((gI fun j hj=>h2 j (by omega)).symm)
theorem z7 (xs:List GNote) (hl:xs.length≤1048576) (S:GNote→Prop) (hS:∀ i,i<xs.length→S (xs.getD i Y8)) (p:GNote→Bool):Ans Tryz.prog 91 [] [vL 5 cR Y8 xs,fbP S (fun x=>[RD.ag (cR x)]) fun x => .bool (p x)] [] (vB (xs.any p)):=by
 refine aD Tryz.func91 fun B0 r_ D_ w0=>?_
 refine aE ?_
 refine aG (E9 xs hl S hS p) ?_
 exact aF [(4,none)] (qO p Y8 xs)
theorem z9 (xs:List GNote) (hl:xs.length≤1048576) (p:GNote→Bool):Ans Tryz.prog 91 [] [vL 5 cR Y8 xs,fbO (fun x=>[RD.ag (cR x)]) fun x => .bool (p x)] [] (vB (xs.any p)) :=
 (z7 xs hl (fun _=>True) (fun _ _=>trivial) p).wkA ⟨_,_,rfl,ZD _,_,_,rfl,GD p,rfl⟩
theorem EZ (xs:List GCell) (hl:xs.length≤1048576) (S:GCell→Prop) (hS:∀ i,i<xs.length→S (xs.getD i Y9)) (p:GCell→Bool):Ans Tryz.prog 205 [] [vL 2 cQ Y9 xs,fbP S (fun x=>[RD.ag (cQ x)]) fun x => .bool (p x)] [] (vI (b0 p xs)):=by
 refine aD Tryz.func205 fun B0 r_ D_ w0=>?_
 refine aE ?_
 refine aJ (ι:=Nat) (fun i=>[(8,vI i)]) (fun _=>[]) (fun i=>i≤xs.length∧∀ j,j<i→p (xs.getD j Y9)=false) (fun i=>xs.length - i) 0 [] [] ⟨Nat.zero_le _,fun j hj=>absurd hj (Nat.not_lt_zero _)⟩ ?_
 intro i ⟨h1,h2⟩
 refine aE ?_
 refine aH (fun e=>?_) (fun e=>?_)
 ·have hi:i<xs.length:=by omega
  refine aE ?_
  refine FU rfl rfl rfl ⟨xs.getD i Y9,hS i hi,rfl,rfl⟩ ?_
  refine aM ?_
  refine aA (fun e2=>?_) (fun e2=>?_)
  ·refine aE ?_
   exact aI [(4,none)] ((gH hi h2 e2).symm)
  ·refine aE ?_
   exact aK (i+1) ⟨hi,bX h2 e2⟩ (by omega)
 ·refine aE ?_
  exact d8 TT_ok [(4,none)] rfl rfl ((gI fun j hj=>h2 j (by omega)).symm)
theorem z8 (xs:List GCell) (hl:xs.length≤1048576) (S:GCell→Prop) (hS:∀ i,i<xs.length→S (xs.getD i Y9)) (p:GCell→Bool):Ans Tryz.prog 183 [] [vL 2 cQ Y9 xs,fbP S (fun x=>[RD.ag (cQ x)]) fun x => .bool (p x)] [] (vB (xs.any p)):=by
 refine aD Tryz.func183 fun B0 r_ D_ w0=>?_
 refine aE ?_
 refine aG (EZ xs hl S hS p) ?_
 exact aF [(4,none)] (qO p Y9 xs)
theorem AB (xs:List GCell) (hl:xs.length≤1048576) (p:GCell→Bool):Ans Tryz.prog 183 [] [vL 2 cQ Y9 xs,fbO (fun x=>[RD.ag (cQ x)]) fun x => .bool (p x)] [] (vB (xs.any p)) :=
 (z8 xs hl (fun _=>True) (fun _ _=>trivial) p).wkA ⟨_,_,rfl,ZD _,_,_,rfl,GD p,rfl⟩
theorem zP (xs:List GMachine) (hl:xs.length≤1048576) (S:GMachine→Prop) (hS:∀ i,i<xs.length→S (xs.getD i Y4)) (p:GMachine→Bool):Ans Tryz.prog 139 [] [vL 4 bQ Y4 xs,fbP S (fun x=>[RD.ag (bQ x)]) fun x => .bool (p x)] [] (vI (b0 p xs)):=by
 refine aD Tryz.func139 fun B0 r_ D_ w0=>?_
 refine aE ?_
 refine aJ (ι:=Nat) (fun i=>[(8,vI i)]) (fun _=>[]) (fun i=>i≤xs.length∧∀ j,j<i→p (xs.getD j Y4)=false) (fun i=>xs.length - i) 0 [] [] ⟨Nat.zero_le _,fun j hj=>absurd hj (Nat.not_lt_zero _)⟩ ?_
 intro i ⟨h1,h2⟩
 refine aE ?_
 refine aH (fun e=>?_) (fun e=>?_)
 ·have hi:i<xs.length:=by omega
  refine aE ?_
  refine FU rfl rfl rfl ⟨xs.getD i Y4,hS i hi,rfl,rfl⟩ ?_
  refine aM ?_
  refine aA (fun e2=>?_) (fun e2=>?_)
  ·refine aE ?_
   exact aI [(4,none)] ((gH hi h2 e2).symm)
  ·refine aE ?_
   exact aK (i+1) ⟨hi,bX h2 e2⟩ (by omega)
 ·refine aE ?_
  exact d8 TT_ok [(4,none)] rfl rfl ((gI fun j hj=>h2 j (by omega)).symm)
theorem w7 (xs:List GMachine) (hl:xs.length≤1048576) (S:GMachine→Prop) (hS:∀ i,i<xs.length→S (xs.getD i Y4)) (p:GMachine→Bool):Ans Tryz.prog 87 [] [vL 4 bQ Y4 xs,fbP S (fun x=>[RD.ag (bQ x)]) fun x => .bool (p x)] [] (vB (xs.any p)):=by
 refine aD Tryz.func87 fun B0 r_ D_ w0=>?_
 refine aE ?_
 refine aG (zP xs hl S hS p) ?_
 exact aF [(4,none)] (qO p Y4 xs)
theorem CI (xs:List GRecord) (hl:xs.length≤1048576) (S:GRecord→Prop) (hS:∀ i,i<xs.length→S (xs.getD i ZB)) (p:GRecord→Bool):Ans Tryz.prog 179 [] [vL 4 cM ZB xs,fbP S (fun x=>[RD.ag (cM x)]) fun x => .bool (p x)] [] (vI (b0 p xs)):=by
 refine aD Tryz.func179 fun B0 r_ D_ w0=>?_
 refine aE ?_
 refine aJ (ι:=Nat) (fun i=>[(8,vI i)]) (fun _=>[]) (fun i=>i≤xs.length∧∀ j,j<i→p (xs.getD j ZB)=false) (fun i=>xs.length - i) 0 [] [] ⟨Nat.zero_le _,fun j hj=>absurd hj (Nat.not_lt_zero _)⟩ ?_
 intro i ⟨h1,h2⟩
 refine aE ?_
 refine aH (fun e=>?_) (fun e=>?_)
 ·have hi:i<xs.length:=by omega
  refine aE ?_
  refine FU rfl rfl rfl ⟨xs.getD i ZB,hS i hi,rfl,rfl⟩ ?_
  refine aM ?_
  refine aA (fun e2=>?_) (fun e2=>?_)
  ·refine aE ?_
   exact aI [(4,none)] ((gH hi h2 e2).symm)
  ·refine aE ?_
   exact aK (i+1) ⟨hi,bX h2 e2⟩ (by omega)
 ·refine aE ?_
  exact d8 TT_ok [(4,none)] rfl rfl ((gI fun j hj=>h2 j (by omega)).symm)
theorem xM (xs:List GRecord) (hl:xs.length≤1048576) (S:GRecord→Prop) (hS:∀ i,i<xs.length→S (xs.getD i ZB)) (p:GRecord→Bool):Ans Tryz.prog 140 [] [vL 4 cM ZB xs,fbP S (fun x=>[RD.ag (cM x)]) fun x => .bool (p x)] [] (vB (xs.any p)):=by
 refine aD Tryz.func140 fun B0 r_ D_ w0=>?_
 refine aE ?_
 refine aG (CI xs hl S hS p) ?_
 exact aF [(4,none)] (qO p ZB xs)
theorem I7 (xs:List GTx) (hl:xs.length≤1048576) (S:GTx→Prop) (hS:∀ i,i<xs.length→S (xs.getD i Y5)) (p:GTx→Bool):Ans Tryz.prog 150 [] [vL 7 cTx Y5 xs,fbP S (fun x=>[RD.ag (cTx x)]) fun x => .bool (p x)] [] (vI (b0 p xs)):=by
 refine aD Tryz.func150 fun B0 r_ D_ w0=>?_
 refine aE ?_
 refine aJ (ι:=Nat) (fun i=>[(8,vI i)]) (fun _=>[]) (fun i=>i≤xs.length∧∀ j,j<i→p (xs.getD j Y5)=false) (fun i=>xs.length - i) 0 [] [] ⟨Nat.zero_le _,fun j hj=>absurd hj (Nat.not_lt_zero _)⟩ ?_
 intro i ⟨h1,h2⟩
 refine aE ?_
 refine aH (fun e=>?_) (fun e=>?_)
 ·have hi:i<xs.length:=by omega
  refine aE ?_
  refine FU rfl rfl rfl ⟨xs.getD i Y5,hS i hi,rfl,rfl⟩ ?_
  refine aM ?_
  refine aA (fun e2=>?_) (fun e2=>?_)
  ·refine aE ?_
   exact aI [(4,none)] ((gH hi h2 e2).symm)
  ·refine aE ?_
   exact aK (i+1) ⟨hi,bX h2 e2⟩ (by omega)
 ·refine aE ?_
  exact d8 TT_ok [(4,none)] rfl rfl ((gI fun j hj=>h2 j (by omega)).symm)
theorem MD (xs:List Int) (hl:xs.length≤1048576) (v:Int):Ans Tryz.prog 178 [] [vL 1 bL 0 xs,vI v] [] (vI (b0 (fun x=>v == x) xs)):=by
 refine aD Tryz.func178 fun B0 r_ D_ w0=>?_
 refine aE ?_
 refine aJ (ι:=Nat) (fun i=>[(8,vI i)]) (fun _=>[]) (fun i=>i≤xs.length∧∀ j,j<i→(v == xs.getD j 0)=false) (fun i=>xs.length - i) 0 [] [] ⟨Nat.zero_le _,fun j hj=>absurd hj (Nat.not_lt_zero _)⟩ ?_
 intro i ⟨h1,h2⟩
 refine aE ?_
 refine aH (fun e=>?_) (fun e=>?_)
 ·have hi:i<xs.length:=by omega
  refine aE ?_
  refine aA (fun e2=>?_) (fun e2=>?_)
  ·refine aE ?_
   exact aI [(4,none)] ((gH (p:=fun x=>v == x) hi h2 e2).symm)
  ·refine aE ?_
   exact aK (i+1) ⟨hi,bX h2 e2⟩ (by omega)
 ·refine aE ?_
  exact d8 TT_ok [(4,none)] rfl rfl ((gI (p:=fun x=>v == x) fun j hj=>h2 j (by omega)).symm)
theorem GQ (xs:List Int) (hl:xs.length≤1048576) (v:Int):Ans Tryz.prog 138 [] [vL 1 bL 0 xs,vI v] [] (vB (decide (v ∈ xs))):=by
 refine aD Tryz.func138 fun B0 r_ D_ w0=>?_
 refine aE ?_
 refine aG (MD xs hl v) ?_
 exact cE TT_ok [(4,none)] rfl rfl ((by rw [qO _ 0,Bool.eq_iff_iff,List.any_eq_true];simp))
theorem wO (xs:List GPlace):Ans Tryz.prog 59 [] [vL 1 cN Y3 xs] [] (vI xs.length):=by
 refine aD Tryz.func59 fun B0 r_ D_ w0=>?_
 refine aE ?_
 exact aI [(2,none)] (rfl)
theorem IY (xs:List GMachine):Ans Tryz.prog 84 [] [vL 4 bQ Y4 xs] [] (vI xs.length):=by
 refine aD Tryz.func84 fun B0 r_ D_ w0=>?_
 refine aE ?_
 exact aI [(2,none)] (rfl)
theorem QS (xs:List GSet):Ans Tryz.prog 180 [] [vL 5 cH Y7 xs] [] (vI xs.length):=by
 refine aD Tryz.func180 fun B0 r_ D_ w0=>?_
 refine aE ?_
 exact aI [(2,none)] (rfl)
theorem MM (xs:List Int):Ans Tryz.prog 136 [] [vL 1 bL 0 xs] [] (vI xs.length):=by
 refine aD Tryz.func136 fun B0 r_ D_ w0=>?_
 refine aE ?_
 exact aI [(2,none)] (rfl)
end
section
def wQ (n:Nat) (p:Nat→Bool):Bool:=(List.range n).any p
theorem xF {n i:Nat} {p:Nat→Bool} (hi:i<n) (h:p i=true):wQ n p=true:=List.any_eq_true.2 ⟨i,List.mem_range.2 hi,h⟩
theorem o9 {n:Nat} {p:Nat→Bool} (h:∀ j,j<n→p j=false):wQ n p=false:=by
 unfold wQ;rw [List.any_eq_false];intro x hx;rw [h x (List.mem_range.1 hx)];simp
theorem KJ {n:Nat} {p:Nat→Bool} (h:wQ n p=false):∀ j,j<n→p j=false:=fun j hj=>by
 unfold wQ at h;rw [List.any_eq_false] at h;have:=h j (List.mem_range.2 hj);simpa using this
def gF (h:Int):Bool:=inB h 0 4000003
def OW (v:Int):Bool:=inB v (-1000000000) 1000000000
def sZ (h:Int):Bool:=bif gF h then (h.tdiv 2).tmod 2 == 1 else false
def eW (h:Int):Bool:=bif gF h then h.tmod 2 == 1 else false
def qC (h:Int):Int:=if gF h=true then h.tdiv 4 else -1
theorem gZ {h:Int}:gF h=true ↔ 0≤h∧h≤4000003:=bR
theorem nJ {a b:Int} (h:0≤a):a.tdiv b=a / b:=Int.tdiv_eq_ediv_of_nonneg h
theorem p7 {a b:Int} (h:0≤a):a.tmod b=a % b:=Int.tmod_eq_emod_of_nonneg h
theorem KI {a b:Nat} (h:a<9223372036854775808) (h2:b<9223372036854775808):oB a b=((a &&& b:Nat):Int):=by
 unfold oB
 have e1:(BitVec.ofInt 64 (a:Int))=BitVec.ofNat 64 a:=by simp
 have e2:(BitVec.ofInt 64 (b:Int))=BitVec.ofNat 64 b:=by simp
 have e3:(BitVec.ofNat 64 a &&& BitVec.ofNat 64 b).toNat=a &&& b:=by
  rw [BitVec.toNat_and,BitVec.toNat_ofNat,BitVec.toNat_ofNat,Nat.mod_eq_of_lt (by omega),Nat.mod_eq_of_lt (by omega)]
 have h3:a &&& b≤a:=Nat.and_le_left
 rw [e1,e2,e3]
 exact IntWalk.i64_in _ (by omega)
theorem land1 (a:Nat):a &&& 1=a % 2:=Nat.and_one_is_mod a
theorem land2 (a:Nat):a &&& 2=2 * (a / 2 % 2):=by
 have h1:(a &&& 2) / 2=a / 2 % 2:=by rw [Nat.and_div_two];exact Nat.and_one_is_mod _
 have h2:¬ (a &&& 2) % 2=1:=fun h=>by have:=(Nat.and_mod_two_eq_one.1 h).2;omega
 omega
theorem and1 {h:Int} (k:gF h=true):oB h 1=h % 2:=by
 obtain ⟨h1,h2⟩:=gZ.1 k
 obtain ⟨a,rfl⟩:=Int.eq_ofNat_of_zero_le h1
 rw [show (1:Int)=((1:Nat):Int) from rfl,KI (by omega) (by decide),land1];omega
theorem and2 {h:Int} (k:gF h=true):oB h 2=2 * (h / 2 % 2):=by
 obtain ⟨h1,h2⟩:=gZ.1 k
 obtain ⟨a,rfl⟩:=Int.eq_ofNat_of_zero_le h1
 rw [show (2:Int)=((2:Nat):Int) from rfl,KI (by omega) (by decide),land2];omega
theorem used2 {h:Int} (k:gF h=true):(oB h 2 == 0) = !sZ h:=by
 obtain ⟨h1,h2⟩:=gZ.1 k
 unfold sZ
 rw [k,and2 k,nJ h1,p7 (by omega),Bool.eq_iff_iff]
 simp;omega
theorem W0 {h:Int} (k:gF h=true):(oB h 1 != 0)=eW h:=by
 obtain ⟨h1,h2⟩:=gZ.1 k
 unfold eW
 rw [k,and1 k,p7 h1,Bool.eq_iff_iff]
 simp;omega
theorem GW {h:Int} (k:gF h=true):qC h=h.tdiv 4:=by rw [qC,if_pos k]
theorem GP {h d:Int} (h1:0≤h) (h2:h≤4000003) (hd:0<d):InR (h.tdiv d):=by
 rw [nJ h1]
 have h3:0≤h / d:=Int.ediv_nonneg h1 (by omega)
 have h4:h / d≤h:=Int.ediv_le_self _ h1
 unfold InR;omega
theorem qY (h:Int):Ans Tryz.prog 79 [] [vI h] [] (vB (sZ h)):=by
 refine aD Tryz.func79 fun B0 r_ D_ w0=>?_
 refine aE ?_
 refine OP TT_ok (oN _) rfl rfl (ZF _) rfl rfl ?_ ?_
 ·exact ⟨fun _=>(by decide:(2:Int)≠0),fun k=>GP (bR.1 k).1 (bR.1 k).2 (by decide),fun _=>(by decide:(2:Int)≠0),trivial⟩
 ·exact aF [(2,none)] (rfl)
theorem mC (h:Int):Ans Tryz.prog 54 [] [vI h] [] (vB (eW h)):=by
 refine aD Tryz.func54 fun B0 r_ D_ w0=>?_
 refine aE ?_
 refine aG (oN _) ?_
 exact aF [(2,none)] (rfl)
def fQ (x:GCell):Bool:=bif (bif !gF x.head then true else !OW x.value) then true else (bif !sZ x.head then x.value != 0 else false)
def cO (xs:List GCell):Bool:=bif ((xs.length:Int) == 6) then !xs.any fQ else false
theorem p9 (xs:List GCell):Ans Tryz.prog 120 [] [vL 2 cQ Y9 xs] [] (vB (cO xs)):=by
 refine aD Tryz.func120 fun B0 r_ D_ w0=>?_
 refine aE ?_
 refine iJ rfl (fun e=>?_) (fun e=>?_)
 ·refine aE ?_
  exact cE TT_ok [(2,none)] rfl rfl ((by rw [cO,beq_eq_false_iff_ne.2 e];rfl))
 refine aE ?_
 refine aJ (ι:=Nat) (fun i=>[(3,vI i)]) (fun _=>[]) (fun i=>i≤xs.length∧∀ j,j<i→fQ (xs.getD j Y9)=false) (fun i=>xs.length - i) 0 [] [] ⟨Nat.zero_le _,fun j hj=>absurd hj (Nat.not_lt_zero _)⟩ ?_
 intro i ⟨h1,h2⟩
 refine aE ?_
 refine aH (fun e2=>?_) (fun e2=>?_)
 ·have hi:i<xs.length:=by omega
  refine aE ?_
  refine aG (oN _) ?_
  refine aG (nK _) ?_
  refine aG (qY _) ?_
  refine aA (fun e1=>?_) (fun e1=>?_)
  ·refine aE ?_
   exact cE TT_ok [(2,none)] rfl rfl ((by rw [cO,t8 hi (p:=fQ) e1];simp))
  ·refine aE ?_
   exact aK (i+1) ⟨hi,bX h2 e1⟩ (by omega)
 ·refine aE ?_
  exact cE TT_ok [(2,none)] rfl rfl ((by rw [cO,beq_iff_eq.2 e,kR fun j hj=>h2 j (by omega)];rfl))
theorem LI (x:GCell):(bif bif !inB x.head 0 4000003 then true else !inB x.value (-1000000000) 1000000000 then true else bif oB x.head 2 == 0 then x.value != 0 else false)=fQ x:=by
 unfold fQ
 cases c:gF x.head with
 | false=>rw [show inB x.head 0 4000003=false from c];rfl
 | true=>rw [used2 c,show inB x.head 0 4000003=true from c];rfl
theorem MQ (x:GCell):Ans Tryz.prog 184 [] [vR (cQ x)] [] (vB (fQ x)):=by
 refine aD Tryz.func184 fun B0 r_ D_ w0=>?_
 refine aE ?_
 refine aG (IX _) ?_
 refine aG (qK _) ?_
 exact aF [(2,none)] (LI x)
theorem FF (xs:List GCell) (hl:xs.length≤1048576):Ans Tryz.prog 144 [] [vL 2 cQ Y9 xs] [] (vB (cO xs)):=by
 refine aD Tryz.func144 fun B0 r_ D_ w0=>?_
 refine aE ?_
 refine D9 TT_ok (AB xs hl fQ) rfl rfl (SVs.cons (ZD _) (SVs.cons (rS (aB) rfl fun args x ⟨n,e1,e2⟩=>by subst e1;subst e2;exact MQ n) rfl)) rfl rfl ?_
 exact aF [(2,none)] (rfl)
def oZ (xs:List GSet) (i:Nat):Bool:=bif !setB (xs.getD i Y7) then true else bif decide ((i:Int) > 0) then (bif decide ((xs.getD i Y7).slot≤(xs.getD ((i:Int) - 1).toNat Y7).slot) then true else (xs.getD i Y7).region != (xs.getD 0 Y7).region) else false
def lF (xs:List GSet):Bool := !wQ xs.length (oZ xs)
theorem zK (xs:List GSet) (hl:xs.length≤1048576):Ans Tryz.prog 169 [] [vL 5 cH Y7 xs] [] (vB (lF xs)):=by
 refine aD Tryz.func169 fun B0 r_ D_ w0=>?_
 refine aE ?_
 refine aJ (ι:=Nat) (fun i=>[(3,vI i)]) (fun _=>[]) (fun i=>i≤xs.length∧∀ j,j<i→oZ xs j=false) (fun i=>xs.length - i) 0 [] [] ⟨Nat.zero_le _,fun j hj=>absurd hj (Nat.not_lt_zero _)⟩ ?_
 intro i ⟨h1,h2⟩
 refine aE ?_
 refine aH (fun e2=>?_) (fun e2=>?_)
 ·have hi:i<xs.length:=by omega
  refine aE ?_
  refine dN TT_ok [] rfl rfl fun B0 H0=>?_
  refine iF TT_ok (tY _) rfl rfl rfl rfl rfl rfl ?_
  refine aN ?_
  refine aA (fun e1=>?_) (fun e1=>?_)
  ·refine aE ?_
   exact cE TT_ok [(2,none)] rfl rfl ((by rw [lF,xF hi e1];rfl))
  ·refine aE ?_
   exact aK (i+1) ⟨hi,bX h2 e1⟩ (by omega)
 ·refine aE ?_
  exact cE TT_ok [(2,none)] rfl rfl ((by rw [lF,o9 fun j hj=>h2 j (by omega)];rfl))
theorem uH (xs:List GSet) (i:Nat):(bif (bif !setB (xs.getD i Y7) then true else (xs.getD i Y7).region != (xs.getD 0 Y7).region) then true else bif decide ((i:Int) > 0) then decide ((xs.getD ((i:Int) - 1).toNat Y7).slot ≥ (xs.getD i Y7).slot) else false)=oZ xs i:=by
 unfold oZ
 cases setB (xs.getD i Y7) with
 | false=>rfl
 | true =>
  rcases Nat.eq_zero_or_pos i with h | h
  ·subst h;simp
  ·rw [decide_eq_true (by omega:(i:Int) > 0)]
   simp only [Bool.not_true,Bool.cond_false,Bool.cond_true]
   cases (xs.getD i Y7).region != (xs.getD 0 Y7).region <;>cases c:decide ((xs.getD i Y7).slot≤(xs.getD ((i:Int) - 1).toNat Y7).slot) <;>simp at c ⊢ <;>omega
theorem F7 (xs:List GSet) (hl:xs.length≤1048576):Ans Tryz.prog 181 [] [vL 5 cH Y7 xs] [] (vB (lF xs)):=by
 refine aD Tryz.func181 fun B0 r_ D_ w0=>?_
 refine aE ?_
 refine aJ (ι:=Nat) (fun i=>[(7,vI i)]) (fun _=>[]) (fun i=>i≤xs.length∧∀ j,j<i→oZ xs j=false) (fun i=>xs.length - i) 0 [] [] ⟨Nat.zero_le _,fun j hj=>absurd hj (Nat.not_lt_zero _)⟩ ?_
 intro i ⟨h1,h2⟩
 refine aE ?_
 refine aH (fun e2=>?_) (fun e2=>?_)
 ·have hi:i<xs.length:=by omega
  refine aE ?_
  refine dN TT_ok [] rfl rfl fun B0 H0=>?_
  refine iF TT_ok (AJ _) rfl rfl rfl rfl rfl rfl ?_
  refine aN ?_
  refine aA (fun e1=>?_) (fun e1=>?_)
  ·refine aE ?_
   exact cE TT_ok [(2,none)] rfl rfl ((by rw [lF,xF hi ((uH xs i).symm.trans e1)];rfl))
  ·refine aE ?_
   exact aK (i+1) ⟨hi,bX h2 ((uH xs i).symm.trans e1)⟩ (by omega)
 ·refine aE ?_
  exact cE TT_ok [(2,none)] rfl rfl ((by rw [lF,o9 fun j hj=>h2 j (by omega)];rfl))
theorem RR {xs:List GSet} (h:lF xs=true) {i:Nat} (hi:i<xs.length):setB (xs.getD i Y7)=true∧(xs.getD i Y7).region=(xs.getD 0 Y7).region:=by
 have h1:=KJ (n:=xs.length) (p:=oZ xs) (by simpa [lF] using h) i hi
 rw [← uH] at h1
 cases c:setB (xs.getD i Y7) with
 | false=>rw [c] at h1;cases h1
 | true =>
  rw [c] at h1
  refine ⟨rfl,?_⟩
  cases c2:(xs.getD i Y7).region != (xs.getD 0 Y7).region with
  | false=>simpa using c2
  | true=>rw [c2] at h1;cases h1
def lA (r:GRecord):Bool:=bif (bif (bif (bif (bif (bif inB r.kind 1 3 then inB r.tx 1 1000000 else false) then inB r.region 0 5 else false) then decide ((r.sets.length:Int) ≥ 1) else false) then decide ((r.sets.length:Int)≤12) else false) then lF r.sets else false) then (r.sets.getD 0 Y7).region == r.region else false
theorem uS (r:GRecord) (hl:r.sets.length≤1048576):Ans Tryz.prog 121 [] [vR (cM r)] [] (vB (lA r)):=by
 refine aD Tryz.func121 fun B0 r_ D_ w0=>?_
 refine aE ?_
 refine dN TT_ok [] rfl rfl fun B0 H0=>?_
 refine iF TT_ok (cV _ _ _) rfl rfl rfl rfl rfl rfl ?_
 refine iF TT_ok (mG _) rfl rfl rfl rfl rfl rfl ?_
 refine iF TT_ok (mL _) rfl rfl rfl rfl rfl rfl ?_
 refine iF TT_ok (zK _ hl) rfl rfl rfl rfl rfl rfl ?_
 refine aN ?_
 exact aF [(2,none)] (rfl)
theorem UU (r:GRecord):(bif (bif (bif (bif (bif inB r.kind 1 3 then inB r.tx 1 1000000 else false) then inB r.region 0 5 else false) then inB r.sets.length 1 12 else false) then lF r.sets else false) then !(r.sets.any fun s=>s.region != r.region) else false)=lA r:=by
 unfold lA
 cases (bif (bif inB r.kind 1 3 then inB r.tx 1 1000000 else false) then inB r.region 0 5 else false) with
 | false=>rfl
 | true =>
  simp only [Bool.cond_true]
  unfold inB
  cases c1:decide ((r.sets.length:Int) ≥ 1) with
  | false=>rfl
  | true =>
   simp only [Bool.cond_true]
   cases c2:decide ((r.sets.length:Int)≤12) with
   | false=>rfl
   | true =>
    simp only [Bool.cond_true]
    cases c3:lF r.sets with
    | false=>rfl
    | true =>
     simp only [Bool.cond_true]
     have hp:0<r.sets.length:=by simp at c1;omega
     cases c4:(r.sets.getD 0 Y7).region == r.region with
     | true =>
      have e:=beq_iff_eq.1 c4
      rw [kR (z:=Y7) fun j hj=>?_]; · rfl
      have:=(RR c3 hj).2
      simp only [bne_eq_false_iff_eq];rw [this,e]
     | false =>
      have e:=beq_eq_false_iff_ne.1 c4
      rw [t8 (z:=Y7) hp (by simpa using e)];rfl
theorem M9 (s:GSet) (rc:GRecord):Ans Tryz.prog 182 [] [vR (cH s),vP (cM rc)] [] (vB (s.region != rc.region)):=by
 refine aD Tryz.func182 fun B0 r_ D_ w0=>?_
 refine aE ?_
 exact aF [(3,none)] (rfl)
theorem E7 (rc:GRecord) (hl:rc.sets.length≤1048576):Ans Tryz.prog 142 [] [vR (cM rc)] [] (vB (lA rc)):=by
 refine aD Tryz.func142 fun B0 r_ D_ w0=>?_
 refine aE ?_
 refine aG (dH _ _ _) ?_
 refine aG (q9 _) ?_
 refine aG (mT _) ?_
 refine aG (QS _) ?_
 refine aG (dH _ _ _) ?_
 refine aG (F7 _ hl) ?_
 refine D9 TT_ok (sF rc.sets hl fun s=>s.region != rc.region) rfl rfl (SVs.cons (ZD _) (SVs.cons (rS (aB) rfl fun args x ⟨n,e1,e2⟩=>by subst e1;subst e2;exact M9 n rc) rfl)) rfl rfl ?_
 exact aF [(2,none)] (UU rc)
def vO (xs:List Int) (i:Nat):Bool:=bif !inB (xs.getD i 0) 1 1000000 then true else bif decide ((i:Int) > 0) then decide (xs.getD i 0≤xs.getD ((i:Int) - 1).toNat 0) else false
def m5 (xs:List Int):Bool := !wQ xs.length (vO xs)
theorem GL (xs:List Int) (hl:xs.length≤1048576):Ans Tryz.prog 118 [] [vL 1 bL 0 xs] [] (vB (m5 xs)):=by
 refine aD Tryz.func118 fun B0 r_ D_ w0=>?_
 refine aE ?_
 refine aJ (ι:=Nat) (fun i=>[(3,vI i)]) (fun _=>[]) (fun i=>i≤xs.length∧∀ j,j<i→vO xs j=false) (fun i=>xs.length - i) 0 [] [] ⟨Nat.zero_le _,fun j hj=>absurd hj (Nat.not_lt_zero _)⟩ ?_
 intro i ⟨h1,h2⟩
 refine aE ?_
 refine aH (fun e2=>?_) (fun e2=>?_)
 ·have hi:i<xs.length:=by omega
  refine aE ?_
  refine dN TT_ok [] rfl rfl fun B0 H0=>?_
  refine iF TT_ok (mG _) rfl rfl rfl rfl rfl rfl ?_
  refine aN ?_
  refine aA (fun e1=>?_) (fun e1=>?_)
  ·refine aE ?_
   exact cE TT_ok [(2,none)] rfl rfl ((by rw [m5,xF (p:=vO xs) hi e1];rfl))
  ·refine aE ?_
   exact aK (i+1) ⟨hi,bX h2 e1⟩ (by omega)
 ·refine aE ?_
  exact cE TT_ok [(2,none)] rfl rfl ((by rw [m5,o9 fun j hj=>h2 j (by omega)];rfl))
def o3 (xs:List GCopy) (i:Nat):Bool:=bif (bif !inB (xs.getD i ZA).region 0 5 then true else !cO (xs.getD i ZA).cells) then true else bif decide ((i:Int) > 0) then decide ((xs.getD i ZA).region≤(xs.getD ((i:Int) - 1).toNat ZA).region) else false
def cS (m:GMachine):Prop:=(m.copies.length≤6∧m.log.length≤200∧m.cleared.length≤60)∧m5 m.cleared=true∧(∀ j,j<m.copies.length→o3 m.copies j=false)∧∀ j,j<m.log.length→lA (m.log.getD j ZB)=true
theorem DE (m:GMachine) (hb:D.bds eA (bQ m)):Ans Tryz.prog 69 [] [vR (bQ m)] [] (vB (dec (cS m))):=by
 have b1:m.copies.length≤1048576:=hb.2.1.1
 have b2:m.log.length≤1048576:=hb.2.2.1.1
 have b3:m.cleared.length≤1048576:=hb.2.2.2.1.1
 refine aD Tryz.func69 fun B0 r_ D_ w0=>?_
 refine aE ?_
 refine aG (GL _ b3) ?_
 refine aA (fun e=>?_) (fun e=>?_)
 ·refine aE ?_
  exact cE TT_ok [(2,none)] rfl rfl ((cF fun h=>by have h1:=h.1;simp [h.2.1] at e;omega).symm)
 have hH:(m.copies.length≤6∧m.log.length≤200∧m.cleared.length≤60)∧m5 m.cleared=true:=by
  simp at e;exact ⟨by omega,e.2⟩
 clear e
 refine aE ?_
 refine aJ (ι:=Nat) (fun i=>[(3,vI i)]) (fun _=>[]) (fun i=>i≤m.copies.length∧∀ j,j<i→o3 m.copies j=false) (fun i=>m.copies.length - i) 0 [] [] ⟨Nat.zero_le _,fun j hj=>absurd hj (Nat.not_lt_zero _)⟩ ?_
 intro i ⟨h1,h2⟩
 refine aE ?_
 refine aH (fun e2=>?_) (fun e2=>?_)
 ·have hi:i<m.copies.length:=by omega
  refine aE ?_
  refine dN TT_ok [] rfl rfl fun B0 H0=>?_
  refine iF TT_ok (mL _) rfl rfl rfl rfl rfl rfl ?_
  refine iF TT_ok (p9 _) rfl rfl rfl rfl rfl rfl ?_
  refine aN ?_
  refine aA (fun e1=>?_) (fun e1=>?_)
  ·refine aE ?_
   exact cE TT_ok [(2,none)] rfl rfl ((cF fun h=>by have:=(h.2.2.1 i hi).symm.trans e1;cases this).symm)
  ·refine aE ?_
   exact aK (i+1) ⟨hi,bX h2 e1⟩ (by omega)
 have hi:i=m.copies.length:=by omega
 subst hi
 refine aE ?_
 refine aJ (ι:=Nat) (fun i=>[(4,vI i)]) (fun _=>[]) (fun i=>i≤m.log.length∧∀ j,j<i→lA (m.log.getD j ZB)=true) (fun i=>m.log.length - i) 0 [] [] ⟨Nat.zero_le _,fun j hj=>absurd hj (Nat.not_lt_zero _)⟩ ?_
 intro i ⟨h3,h4⟩
 refine aE ?_
 refine aH (fun e3=>?_) (fun e3=>?_)
 ·have hi:i<m.log.length:=by omega
  refine aE ?_
  refine aG (uS _ (hb.2.2.1.2 i hi).2.2.2.1.1) ?_
  refine eZ rfl (fun e1=>?_) (fun e1=>?_)
  ·refine aE ?_
   exact cE TT_ok [(2,none)] rfl rfl ((cF fun h=>by have:=(h.2.2.2 i hi).symm.trans e1;cases this).symm)
  ·refine aE ?_
   exact aK (i+1) ⟨hi,bX h4 e1⟩ (by omega)
 ·refine aE ?_
  exact cE TT_ok [(2,none)] rfl rfl ((dG ⟨hH.1,hH.2,h2,fun j hj=>h4 j (by omega)⟩).symm)
theorem GU (r:GRecord) (hl:r.sets.length≤1048576):Ans Tryz.prog 141 [] [vR (cM r)] [] (vB (!lA r)):=by
 refine aD Tryz.func141 fun B0 r_ D_ w0=>?_
 refine aE ?_
 refine aG (E7 _ hl) ?_
 exact aF [(2,none)] (rfl)
theorem zZ (m:GMachine) (hb:D.bds eA (bQ m)):Ans Tryz.prog 89 [] [vR (bQ m)] [] (vB (dec (cS m))):=by
 have b1:m.copies.length≤1048576:=hb.2.1.1
 have b2:m.log.length≤1048576:=hb.2.2.1.1
 have b3:m.cleared.length≤1048576:=hb.2.2.2.1.1
 refine aD Tryz.func89 fun B0 r_ D_ w0=>?_
 refine aE ?_
 refine D9 TT_ok (xM m.log b2 (fun r=>r.sets.length≤1048576) (fun i hi=>(hb.2.2.1.2 i hi).2.2.2.1.1) fun r => !lA r) rfl rfl (SVs.cons (ZD _) (SVs.cons (rS (aB) rfl fun args x ⟨n,hn,e1,e2⟩=>by subst e1;subst e2;exact GU n hn) rfl)) rfl rfl ?_
 refine aA (fun e=>?_) (fun e=>?_)
 ·refine aE ?_
  exact cE TT_ok [(2,none)] rfl rfl ((cF fun h=>by have h1:=h.1;rw [kR (z:=ZB) fun j hj=>by rw [h.2.2.2 j hj];rfl] at e;simp at e;omega).symm)
 have hH:(m.copies.length≤6∧m.log.length≤200∧m.cleared.length≤60)∧(m.log.any fun r => !lA r)=false:=by
  cases c:m.log.any fun r => !lA r with
  | true=>rw [c] at e;simp at e
  | false=>rw [c] at e;simp at e;exact ⟨by omega,rfl⟩
 have hR:∀ j,j<m.log.length→lA (m.log.getD j ZB)=true:=fun j hj=>by simpa using tF (z:=ZB) hH.2 j hj
 clear e
 refine aE ?_
 refine aJ (ι:=Nat) (fun i=>[(31,vI i)]) (fun _=>[]) (fun i=>i≤m.copies.length∧∀ j,j<i→o3 m.copies j=false) (fun i=>m.copies.length - i) 0 [] [] ⟨Nat.zero_le _,fun j hj=>absurd hj (Nat.not_lt_zero _)⟩ ?_
 intro i ⟨h1,h2⟩
 refine aE ?_
 refine aH (fun e2=>?_) (fun e2=>?_)
 ·have hi:i<m.copies.length:=by omega
  refine aE ?_
  refine dN TT_ok [] rfl rfl fun B0 H0=>?_
  refine iF TT_ok (mT _) rfl rfl rfl rfl rfl rfl ?_
  refine iF TT_ok (FF _ (hb.2.1.2 i hi).2.1.1) rfl rfl rfl rfl rfl rfl ?_
  refine aN ?_
  refine aA (fun e1=>?_) (fun e1=>?_)
  ·refine aE ?_
   exact cE TT_ok [(2,none)] rfl rfl ((cF fun h=>by have:=(h.2.2.1 i hi).symm.trans e1;cases this).symm)
  ·refine aE ?_
   exact aK (i+1) ⟨hi,bX h2 e1⟩ (by omega)
 have hi:i=m.copies.length:=by omega
 subst hi
 refine aE ?_
 refine aJ (ι:=Nat) (fun i=>[(66,vI i)]) (fun _=>[]) (fun i=>i≤m.cleared.length∧∀ j,j<i→vO m.cleared j=false) (fun i=>m.cleared.length - i) 0 [] [] ⟨Nat.zero_le _,fun j hj=>absurd hj (Nat.not_lt_zero _)⟩ ?_
 intro i ⟨h3,h4⟩
 refine aE ?_
 refine aH (fun e3=>?_) (fun e3=>?_)
 ·have hi:i<m.cleared.length:=by omega
  refine aE ?_
  refine aG (q9 _) ?_
  refine aA (fun e1=>?_) (fun e1=>?_)
  ·refine aE ?_
   exact cE TT_ok [(2,none)] rfl rfl ((cF fun h=>by have h1:=h.2.1;rw [m5,xF (p:=vO m.cleared) hi e1] at h1;cases h1).symm)
  ·refine aE ?_
   exact aK (i+1) ⟨hi,bX h4 e1⟩ (by omega)
 ·refine aE ?_
  exact cE TT_ok [(2,none)] rfl rfl ((dG ⟨hH.1,by rw [m5,o9 fun j hj=>h4 j (by omega)];rfl,h2,hR⟩).symm)
def sQ (l:List Int) (k:Nat):Bool:=bif !inB (l.getD k 0) 0 7 then true else decide (l.getD k 0 ∈ l.take k)
def KL (p:GPlace):Prop:=(1≤p.machines.length∧p.machines.length≤3)∧∀ k,k<p.machines.length→sQ p.machines k=false
def PlOk (ps:List GPlace):Prop:=(1≤ps.length∧ps.length≤6)∧∀ r,r<ps.length→KL (ps.getD r Y3)
theorem KW {P:Program} {α:Type} {sz k:Nat} {enc:α→List D} {z:α} {xs:List α} (hk:k≤xs.length):(SV.a (.s .r sz k fun i=>enc (xs.getD i z))).imp P (vL sz enc z (xs.take k)):=by
 have h:(SV.a (.s .r sz k fun i=>enc (xs.getD i z))).imp P (.a (.s .r sz k fun i=>enc ((xs.take k).getD i z))):=SV.imp_s fun i hi=>by rw [vH (by rw [List.length_take];omega)]
 have e:(xs.take k).length=k:=by rw [List.length_take];omega
 show SV.imp P _ (.a (.s .r sz (xs.take k).length _))
 rw [e];exact h
theorem PV (l:List Int) (k:Nat) (hk:k≤l.length) (hl:l.length≤1048576) (n:Int):Ans Tryz.prog 117 [] [.a (.s .r 1 k fun i=>bL (l.getD i 0)),vI n] [] (vB (decide (n ∈ l.take k))) :=
 (kJ (l.take k) (by rw [List.length_take];omega) n).wkA ⟨_,_,rfl,KW hk,ZF _⟩
theorem I1 (l:List Int) (k:Nat) (hk:k≤l.length) (hl:l.length≤1048576) (n:Int):Ans Tryz.prog 138 [] [.a (.s .r 1 k fun i=>bL (l.getD i 0)),vI n] [] (vB (decide (n ∈ l.take k))) :=
 (GQ (l.take k) (by rw [List.length_take];omega) n).wkA ⟨_,_,rfl,KW hk,ZF _⟩
theorem u7 (ps:List GPlace):Ans Tryz.prog 68 [] [vL 1 cN Y3 ps] [] (vB (dec (PlOk ps))):=by
 refine aD Tryz.func68 fun B0 r_ D_ w0=>?_
 refine aE ?_
 refine aA (fun e=>?_) (fun e=>?_)
 ·refine aE ?_
  exact cE TT_ok [(2,none)] rfl rfl ((cF fun h=>by have:=h.1;simp at e;omega).symm)
 have hH:1≤ps.length∧ps.length≤6:=by simp at e;omega
 clear e
 refine aE ?_
 refine aJ (ι:=Nat) (fun i=>[(3,vI i)]) (fun _=>[]) (fun i=>i≤ps.length∧∀ j,j<i→KL (ps.getD j Y3)) (fun i=>ps.length - i) 0 [] [] ⟨Nat.zero_le _,fun j hj=>absurd hj (Nat.not_lt_zero _)⟩ ?_
 intro i ⟨h1,h2⟩
 refine aE ?_
 refine aH (fun e2=>?_) (fun e2=>?_)
 ·have hi:i<ps.length:=by omega
  refine aE ?_
  refine aA (fun e=>?_) (fun e=>?_)
  ·refine aE ?_
   exact cE TT_ok [(2,none)] rfl rfl ((cF fun h=>by have:=(h.2 i hi).1;simp at e this;omega).symm)
  have hp:1≤(ps.getD i Y3).machines.length∧(ps.getD i Y3).machines.length≤3:=by simp at e ⊢;omega
  clear e
  refine aE ?_
  refine aJ (ι:=Nat) (fun k=>[(5,vI k)]) (fun _=>[]) (fun k=>k≤(ps.getD i Y3).machines.length∧∀ j,j<k→sQ (ps.getD i Y3).machines j=false) (fun k=>(ps.getD i Y3).machines.length - k) 0 [] [] ⟨Nat.zero_le _,fun j hj=>absurd hj (Nat.not_lt_zero _)⟩ ?_
  intro k ⟨h3,h4⟩
  refine aE ?_
  refine aH (fun e3=>?_) (fun e3=>?_)
  ·have hk:k<(ps.getD i Y3).machines.length:=by simp at e3 ⊢;omega
   refine aE ?_
   refine dN TT_ok [] rfl rfl fun B0 H0=>?_
   refine iF TT_ok (oW _) rfl rfl rfl rfl rfl rfl ?_
   refine iF TT_ok (PV (ps.getD i Y3).machines k h3 (by omega) _) rfl rfl rfl rfl rfl rfl ?_
   refine aN ?_
   refine aA (fun e1=>?_) (fun e1=>?_)
   ·refine aE ?_
    exact cE TT_ok [(2,none)] rfl rfl ((cF fun h=>by have:=((h.2 i hi).2 k hk).symm.trans e1;cases this).symm)
   ·refine aE ?_
    exact aK (k+1) ⟨hk,bX h4 e1⟩ (by omega)
  ·refine aE ?_
   exact aK (i+1) ⟨hi,bX h2 ⟨hp,fun j hj=>h4 j (by simp at e3 hj;omega)⟩⟩ (by omega)
 ·refine aE ?_
  exact cE TT_ok [(2,none)] rfl rfl ((dG ⟨hH,fun j hj=>h2 j (by omega)⟩).symm)
theorem DB (ps:List GPlace) (hl:ps.length≤1048576) (hm:∀ i,i<ps.length→(ps.getD i Y3).machines.length≤1048576):Ans Tryz.prog 86 [] [vL 1 cN Y3 ps] [] (vB (dec (PlOk ps))):=by
 refine aD Tryz.func86 fun B0 r_ D_ w0=>?_
 refine aE ?_
 refine aJ (ι:=Nat) (fun i=>[(9,vI i)]) (fun _=>[]) (fun i=>i≤ps.length∧∀ j,j<i→KL (ps.getD j Y3)) (fun i=>ps.length - i) 0 [] [] ⟨Nat.zero_le _,fun j hj=>absurd hj (Nat.not_lt_zero _)⟩ ?_
 intro i ⟨h1,h2⟩
 refine aE ?_
 refine aH (fun e2=>?_) (fun e2=>?_)
 ·have hi:i<ps.length:=by omega
  have hml:=hm i hi
  refine aE ?_
  refine aG (MM _) ?_
  refine aG (dH _ _ _) ?_
  refine eZ rfl (fun e=>?_) (fun e=>?_)
  ·refine aE ?_
   exact cE TT_ok [(2,none)] rfl rfl ((cF fun h=>by have:=(h.2 i hi).1;exact XV.1 e ⟨by simp at this ⊢;omega,by simp at this ⊢;omega⟩).symm)
  have hp:1≤(ps.getD i Y3).machines.length∧(ps.getD i Y3).machines.length≤3:=by have:=bR.1 e;simp at this ⊢;omega
  clear e
  refine aE ?_
  refine aJ (ι:=Nat) (fun k=>[(21,vI k)]) (fun _=>[]) (fun k=>k≤(ps.getD i Y3).machines.length∧∀ j,j<k→sQ (ps.getD i Y3).machines j=false) (fun k=>(ps.getD i Y3).machines.length - k) 0 [] [] ⟨Nat.zero_le _,fun j hj=>absurd hj (Nat.not_lt_zero _)⟩ ?_
  intro k ⟨h3,h4⟩
  refine aE ?_
  refine aH (fun e3=>?_) (fun e3=>?_)
  ·have hk:k<(ps.getD i Y3).machines.length:=by simp at e3 ⊢;omega
   refine aE ?_
   refine aG (uQ _) ?_
   refine mI TT_ok (I1 (ps.getD i Y3).machines k h3 (by omega) _) rfl rfl rfl rfl rfl ?_
   refine aA (fun e1=>?_) (fun e1=>?_)
   ·refine aE ?_
    exact cE TT_ok [(2,none)] rfl rfl ((cF fun h=>by have:=((h.2 i hi).2 k hk).symm.trans e1;cases this).symm)
   ·refine aE ?_
    exact aK (k+1) ⟨hk,bX h4 e1⟩ (by omega)
  ·refine aE ?_
   exact aK (i+1) ⟨hi,bX h2 ⟨hp,fun j hj=>h4 j (by simp at e3 hj;omega)⟩⟩ (by omega)
 ·have hi:i=ps.length:=by omega
  subst hi
  refine aE ?_
  refine aG (wO _) ?_
  refine aG (dH _ _ _) ?_
  exact cE TT_ok [(2,none)] rfl rfl ((by rw [Bool.eq_iff_iff,bR,fP];exact ⟨fun h=>⟨by omega,h2⟩,fun h=>by have:=h.1;omega⟩))
end
section
section
def rL {α:Type} (c:α→Int) (z:α) (xs:List α):Prop := ∀ a b,a≤b→b<xs.length→c (xs.getD b z)<0→c (xs.getD a z)<0
def lD {α:Type} (c:α→Int) (z:α) (xs:List α) (i:Nat):Prop:=i≤xs.length∧(∀ a,a<i→c (xs.getD a z)<0)∧∀ a,i≤a→a<xs.length→¬ c (xs.getD a z)<0
end
section
theorem n8 {r s q t:Int}:wK r s q t<0 ↔ r<q∨r=q∧s<t:=by
 rw [← jU, ← IL];simp
def BP (xs:List GSet):Prop := ∀ a b,a<b→b<xs.length→lessS (xs.getD a Y7) (xs.getD b Y7)
theorem sX {xs:List GSet} (h:setsOk xs xs.length):BP xs:=fun a b hab hb=>by
 induction b with
 | zero=>omega
 | succ b ih =>
  have h1:=(h (b+1) hb).2 (by omega)
  rw [Nat.add_sub_cancel] at h1
  by_cases c:a=b
  ·subst c;exact h1
  ·have h2:=ih (by omega) (by omega)
   unfold lessS at h1 h2 ⊢
   omega
def lZ (r s:Int) (x:GSet):Int:=wK x.region x.slot r s
theorem uO {xs:List GSet} (h:BP xs) (r s:Int):rL (lZ r s) Y7 xs:=fun a b hab hb hc=>by
 by_cases c:a=b
 ·subst c;exact hc
 ·have:=h a b (by omega) hb
  unfold lZ at hc ⊢
  rw [n8] at hc ⊢
  unfold lessS at this
  omega
def dF (r s:Int) (x:GSet):Bool:=bif x.region == r then x.slot == s else false
theorem oA {r s:Int} {x:GSet}:dF r s x=true ↔ x.region=r∧x.slot=s:=by
 unfold dF
 by_cases h:x.region=r <;>simp [h]
theorem CB (t:GTx) (hl:t.sets.length≤1048576) (r0 s0:Int):Ans Tryz.prog 202 [] [vR (cTx t),vI r0,vI s0] [] (vI (b0 (dF r0 s0) t.sets)):=by
 refine aD Tryz.func202 fun B0 r_ D_ w0=>?_
 refine aE ?_
 refine aJ (ι:=Nat) (fun i=>[(7,vI i)]) (fun _=>[]) (fun i=>i≤t.sets.length∧∀ j,j<i→dF r0 s0 (t.sets.getD j Y7)=false) (fun i=>t.sets.length - i) 0 [] [] ⟨Nat.zero_le _,fun j hj=>absurd hj (Nat.not_lt_zero _)⟩ ?_
 intro i ⟨h1,h2⟩
 refine aE ?_
 refine aH (fun e=>?_) (fun e=>?_)
 ·have hi:i<t.sets.length:=by omega
  refine aE ?_
  refine aA (fun e2=>?_) (fun e2=>?_)
  ·refine aE ?_
   exact aI [(6,none)] ((gH hi h2 e2).symm)
  ·refine aE ?_
   exact aK (i+1) ⟨hi,bX h2 e2⟩ (by omega)
 ·refine aE ?_
  exact d8 TT_ok [(6,none)] rfl rfl ((gI fun j hj=>h2 j (by omega)).symm)
def vA (t:GTx) (n:GNote):Bool:=decide (b0 (dF n.region n.slot) t.sets<0)
theorem FI (t:GTx) (h1:t.reads.length≤1048576) (h2:t.sets.length≤1048576):MkL Tryz.prog 238 [vR (cTx t)] 5 cR Y8 (t.reads.filter (vA t)):=by
 refine aD Tryz.func238 fun B0 r_ D_ w0=>?_
 refine aE ?_
 refine aL 5 (fun i=>cR (([]:List GNote).getD i Y8)) (fun i hi=>absurd hi (Nat.not_lt_zero _)) (mu1:=[]) ?_
 refine aM ?_
 refine aJ (ι:=Nat) (fun i=>[(4,vI i),(3, .a (.g 5))]) (fun i=>[(5,bE 5 cR Y8 ((t.reads.take i).filter (vA t)))]) (fun i=>i≤t.reads.length) (fun i=>t.reads.length - i) 0 [5] [5] (Nat.zero_le _) ?_
 intro i h3
 refine aE ?_
 refine aH (fun e=>?_) (fun e=>?_)
 ·have hi:i<t.reads.length:=by omega
  have hle:=uU t.reads (vA t) i
  refine aE ?_
  refine dN TT_ok [] rfl rfl fun B0 H0=>?_
  refine iF TT_ok (CB t h2 _ _) rfl rfl rfl rfl rfl rfl ?_
  refine aN ?_
  refine aH (fun e2=>?_) (fun e2=>?_)
  ·have e3:vA t (t.reads.getD i Y8)=true:=decide_eq_true e2
   refine aE ?_
   refine cJ TT_ok 34 (fun _=>cR (t.reads.getD i Y8)) rfl rfl rfl rfl rfl rfl rfl (fun i hi=>by rcases i with _ | i <;>first | rfl | omega) (mu1:=[]) rfl rfl rfl ?_
   refine aM ?_
   refine cL TT_ok 5 34 35 rfl rfl rfl rfl rfl rfl rfl rfl rfl rfl rfl rfl ⟨by simp;omega,by unfold maxL;omega⟩ ?_
   refine aM ?_
   refine bC (bH 5 35) ?_
   exact bF (i+1) hi (by omega) wF ⟨⟨_,rfl,cX (mP hi e3) rfl⟩,wM⟩
  ·have e3:vA t (t.reads.getD i Y8)=false:=decide_eq_false e2
   refine aE ?_
   exact bF (i+1) hi (by omega) wF ⟨⟨_,rfl,bU (nW hi e3)⟩,wM⟩
 ·have hi:i=t.reads.length:=by omega
  subst hi
  refine aE ?_
  refine a9 (bH 5 900) ?_
  refine aC (()) [(2,none)] ?_ ?_ ?_
  ·exact ZF _
  ·exact ⟨⟨_,rfl,bU (by rw [List.take_length])⟩,trivial⟩
  ·trivial
end
end
section
theorem OI {α:Type} {N sz:Nat} {enc:α→List D} {z:α} {xs:List α} (h:D.bd N (dL sz enc z xs)) (hz:D.bds N (enc z)) (i:Nat):D.bds N (enc (xs.getD i z)):=by
 by_cases c:i<xs.length
 ·exact h.2 i c
 ·rw [List.getD_eq_getElem?_getD,List.getElem?_eq_none (by omega)];exact hz
def atB (r:Int) (x:GCopy):Bool:=x.region == r
def dQ (m:GMachine) (r:Int):Bool:=m.copies.any (atB r)
theorem X8 {α:Type} (p:α→Bool) (z:α) (xs:List α):decide (b0 p xs<0) = !xs.any p:=by
 rcases gO p z xs with ⟨h1,h2⟩ | ⟨i,h1,h2,h3,h4⟩
 ·rw [kR h2,h1];rfl
 ·rw [t8 h1 h4,h2];simp
theorem w8 (m:GMachine) (hl:m.copies.length≤1048576) (r0:Int):Ans Tryz.prog 70 [] [vR (bQ m),vI r0] [] (vI (b0 (atB r0) m.copies)):=by
 refine aD Tryz.func70 fun B0 r_ D_ w0=>?_
 refine aE ?_
 refine aJ (ι:=Nat) (fun i=>[(5,vI i)]) (fun _=>[]) (fun i=>i≤m.copies.length∧∀ j,j<i→atB r0 (m.copies.getD j ZA)=false) (fun i=>m.copies.length - i) 0 [] [] ⟨Nat.zero_le _,fun j hj=>absurd hj (Nat.not_lt_zero _)⟩ ?_
 intro i ⟨h1,h2⟩
 refine aE ?_
 refine aH (fun e=>?_) (fun e=>?_)
 ·have hi:i<m.copies.length:=by omega
  refine aE ?_
  refine aA (fun e2=>?_) (fun e2=>?_)
  ·refine aE ?_
   exact aI [(4,none)] ((gH (p:=atB r0) hi h2 e2).symm)
  ·refine aE ?_
   exact aK (i+1) ⟨hi,bX h2 e2⟩ (by omega)
 ·refine aE ?_
  exact d8 TT_ok [(4,none)] rfl rfl ((gI fun j hj=>h2 j (by omega)).symm)
theorem BD (m:GMachine) (hl:m.copies.length≤1048576) (r0:Int) (hn:dQ m r0=false):Ans Tryz.prog 56 [] [vP (bQ m),vI r0] [] (.a (.v (.slice none 0 0))):=by
 refine aD Tryz.func56 fun B0 r_ D_ w0=>?_
 refine aE ?_
 refine aJ (ι:=Nat) (fun i=>[(12,vI i)]) (fun _=>[]) (fun i=>i≤m.copies.length) (fun i=>m.copies.length - i) 0 [] [] (Nat.zero_le _) ?_
 intro i h1
 refine aE ?_
 refine aH (fun e=>?_) (fun e=>?_)
 ·have hi:i<m.copies.length:=by omega
  refine aE ?_
  refine aA (fun e2=>?_) (fun e2=>?_)
  ·have:=(tF (z:=ZA) hn i hi).symm.trans e2
   cases this
  ·refine aE ?_
   exact aK (i+1) hi (by omega)
 ·refine aE ?_
  exact CE TT_ok [(4,none)] rfl rfl (rfl)
theorem zW (m:GMachine) (hl:m.copies.length≤1048576) (r0:Int) (i0:Nat) (hi0:i0<m.copies.length) (hb:∀ j,j<i0→atB r0 (m.copies.getD j ZA)=false) (ha:atB r0 (m.copies.getD i0 ZA)=true):Ans Tryz.prog 56 [] [vP (bQ m),vI r0] [] (vL 2 cQ Y9 (m.copies.getD i0 ZA).cells):=by
 refine aD Tryz.func56 fun B0 r_ D_ w0=>?_
 refine aE ?_
 refine aJ (ι:=Nat) (fun i=>[(12,vI i)]) (fun _=>[]) (fun i=>i≤i0) (fun i=>i0 - i) 0 [] [] (Nat.zero_le _) ?_
 intro i h1
 have hi:i<m.copies.length:=by omega
 refine aE ?_
 refine nZ rfl (fun e=>?_) (fun e=>absurd (by omega:(i:Int)<m.copies.length) e)
 refine aE ?_
 refine aA (fun e2=>?_) (fun e2=>?_)
 ·have hii:i=i0:=by
   rcases Nat.lt_or_ge i i0 with h | h
   ·have:=(hb i h).symm.trans e2;cases this
   ·omega
  subst hii
  refine aE ?_
  exact CE TT_ok [(4,none)] rfl rfl (rfl)
 ·have hlt:i<i0:=by
   rcases Nat.lt_or_ge i i0 with h | h
   ·exact h
   ·have:i=i0:=by omega
    subst this
    have:=ha.symm.trans e2;cases this
  refine aE ?_
  exact aK (i+1) hlt (by omega)
theorem S6 {m:GMachine} {r0:Int} (h:dQ m r0=true):∃ i,i<m.copies.length∧(∀ j,j<i→atB r0 (m.copies.getD j ZA)=false)∧atB r0 (m.copies.getD i ZA)=true:=by
 rcases gO (atB r0) ZA m.copies with ⟨h1,h2⟩ | ⟨i,h1,h2,h3,h4⟩
 ·rw [dQ,kR h2] at h;cases h
 ·exact ⟨i,h1,h3,h4⟩
abbrev mAt (c:GCluster) (r k:Nat):Int:=(c.places.getD r Y3).machines.getD k 0
def l6 (c:GCluster) (r k:Nat):Bool:=bif decide (mAt c r k ≥ (c.machines.length:Int)) then true else bif (c.machines.getD (mAt c r k).toNat Y4).alive then !dQ (c.machines.getD (mAt c r k).toNat Y4) r else false
noncomputable def jQ (c:GCluster) (i:Nat):Bool:=bif (bif (bif !dec (dV (c.txs.getD i Y5)) then true else bif decide ((i:Int) > 0) then decide ((c.txs.getD i Y5).id≤(c.txs.getD ((i:Int) - 1).toNat Y5).id) else false) then true else decide ((c.txs.getD i Y5).home ≥ (c.machines.length:Int))) then true else decide ((c.txs.getD i Y5).stamp > c.clock)
def ClusOk (c:GCluster):Prop:=((1≤c.config∧c.config≤1000000)∧(0≤c.clock∧c.clock≤1000000)∧(1≤c.machines.length∧c.machines.length≤8)∧c.txs.length≤60)∧PlOk c.places∧(∀ i,i<c.machines.length→cS (c.machines.getD i Y4)) ∧
 (∀ r,r<c.places.length→∀ k,k<(c.places.getD r Y3).machines.length→l6 c r k=false)∧∀ i,i<c.txs.length→jQ c i=false∧(∀ k,k<(c.txs.getD i Y5).reads.length→((c.txs.getD i Y5).reads.getD k Y8).region<c.places.length)∧∀ k,k<(c.txs.getD i Y5).sets.length→((c.txs.getD i Y5).sets.getD k Y7).region<c.places.length
theorem AE {p:GPlace} (h:KL p) {k:Nat} (hk:k<p.machines.length):0≤p.machines.getD k 0∧p.machines.getD k 0≤7:=by
 have h1:=h.2 k hk
 unfold sQ at h1
 cases c:inB (p.machines.getD k 0) 0 7 with
 | false=>rw [c] at h1;cases h1
 | true=>exact bR.1 c
theorem eK (c:GCluster) (hb:D.bds eA (bK c)):Ans Tryz.prog 33 [] [vR (bK c)] [] (vB (dec (ClusOk c))):=by
 have b1:c.places.length≤1048576:=hb.2.2.1.1
 have b2:c.machines.length≤1048576:=hb.2.2.2.1.1
 have b3:c.txs.length≤1048576:=hb.2.2.2.2.1.1
 refine aD Tryz.func33 fun B0 r_ D_ w0=>?_
 refine aE ?_
 refine aG (mG _) ?_
 refine aG (cV _ _ _) ?_
 refine aG (u7 _) ?_
 refine aA (fun e=>?_) (fun e=>?_)
 ·refine aE ?_
  exact cE TT_ok [(2,none)] rfl rfl ((cF fun h=>by have h1:=h.1;simp [dG h.2.1,bR.2 h1.1,bR.2 h1.2.1] at e;omega).symm)
 have hH:((1≤c.config∧c.config≤1000000)∧(0≤c.clock∧c.clock≤1000000)∧(1≤c.machines.length∧c.machines.length≤8)∧c.txs.length≤60)∧PlOk c.places:=by
  simp only [Bool.cond_true_left,Bool.or_eq_false_iff,Bool.not_eq_false',bR,decide_eq_false_iff_not,fP] at e
  exact ⟨by omega,e.1.2⟩
 clear e
 refine aE ?_
 refine aJ (ι:=Nat) (fun i=>[(4,vI i)]) (fun _=>[]) (fun i=>i≤c.machines.length∧∀ j,j<i→cS (c.machines.getD j Y4)) (fun i=>c.machines.length - i) 0 [] [] ⟨Nat.zero_le _,fun j hj=>absurd hj (Nat.not_lt_zero _)⟩ ?_
 intro i ⟨h1,h2⟩
 refine aE ?_
 refine aH (fun e=>?_) (fun e=>?_)
 ·have hi:i<c.machines.length:=by omega
  refine aE ?_
  refine aG (DE _ (hb.2.2.2.1.2 i hi)) ?_
  refine eZ rfl (fun e1=>?_) (fun e1=>?_)
  ·refine aE ?_
   exact aF [(2,none)] ((cF fun h=>kO.1 e1 (h.2.2.1 i hi)).symm)
  ·refine aE ?_
   exact aK (i+1) ⟨hi,bX h2 (fP.1 e1)⟩ (by omega)
 have hi:i=c.machines.length:=by omega
 subst hi
 clear e h1
 refine aE ?_
 refine aJ (ι:=Nat) (fun i=>[(5,vI i)]) (fun _=>[]) (fun i=>i≤c.places.length∧∀ r,r<i→∀ k,k<(c.places.getD r Y3).machines.length→l6 c r k=false) (fun i=>c.places.length - i) 0 [] [] ⟨Nat.zero_le _,fun j hj=>absurd hj (Nat.not_lt_zero _)⟩ ?_
 intro i ⟨h1,h3⟩
 refine aE ?_
 refine aH (fun e=>?_) (fun e=>?_)
 ·have hi:i<c.places.length:=by omega
  have hp:=hH.2.2 i hi
  have hpl:=hp.1
  refine aE ?_
  refine aJ (ι:=Nat) (fun k=>[(7,vI k)]) (fun _=>[]) (fun k=>k≤(c.places.getD i Y3).machines.length∧∀ j,j<k→l6 c i j=false) (fun k=>(c.places.getD i Y3).machines.length - k) 0 [] [] ⟨Nat.zero_le _,fun j hj=>absurd hj (Nat.not_lt_zero _)⟩ ?_
  intro k ⟨g1,g2⟩
  refine aE ?_
  refine aH (fun e1=>?_) (fun e1=>?_)
  ·have hk:k<(c.places.getD i Y3).machines.length:=by simp at e1 ⊢;omega
   have hn:=AE hp hk
   refine aE ?_
   refine dN TT_ok [] rfl rfl fun B0 H0=>?_
   refine iF TT_ok (w8 _ (OI hb.2.2.2.1 ⟨trivial,⟨Nat.zero_le _,fun i hi=>absurd hi (Nat.not_lt_zero _)⟩,⟨Nat.zero_le _,fun i hi=>absurd hi (Nat.not_lt_zero _)⟩,⟨Nat.zero_le _,fun i hi=>absurd hi (Nat.not_lt_zero _)⟩,trivial⟩ _).2.1.1 _) rfl rfl rfl rfl rfl rfl ?_
   refine aN ?_
   rw [X8 _ ZA]
   refine aA (fun e2=>?_) (fun e2=>?_)
   ·refine aE ?_
    exact cE TT_ok [(2,none)] rfl rfl ((cF fun h=>by have:=(h.2.2.2.1 i hi k hk).symm.trans e2;cases this).symm)
   ·refine aE ?_
    exact aK (k+1) ⟨hk,bX g2 e2⟩ (by omega)
  ·refine aE ?_
   exact aK (i+1) ⟨hi,bX h3 fun k hk=>g2 k (by simp at e1 hk;omega)⟩ (by omega)
 have hi:i=c.places.length:=by omega
 subst hi
 clear e h1
 refine aE ?_
 refine aJ (ι:=Nat) (fun i=>[(8,vI i)]) (fun _=>[]) (fun i=>i≤c.txs.length∧∀ j,j<i→jQ c j=false∧(∀ k,k<(c.txs.getD j Y5).reads.length→((c.txs.getD j Y5).reads.getD k Y8).region<c.places.length)∧∀ k,k<(c.txs.getD j Y5).sets.length→((c.txs.getD j Y5).sets.getD k Y7).region<c.places.length) (fun i=>c.txs.length - i) 0 [] [] ⟨Nat.zero_le _,fun j hj=>absurd hj (Nat.not_lt_zero _)⟩ ?_
 intro i ⟨h1,h4⟩
 refine aE ?_
 refine aH (fun e=>?_) (fun e=>?_)
 ·have hi:i<c.txs.length:=by omega
  have r1:(c.txs.getD i Y5).reads.length≤1048576:=(hb.2.2.2.2.1.2 i hi).2.2.2.2.1.1
  have r2:(c.txs.getD i Y5).sets.length≤1048576:=(hb.2.2.2.2.1.2 i hi).2.2.2.2.2.1.1
  refine aE ?_
  refine dN TT_ok [] rfl rfl fun B0 H0=>?_
  refine iF TT_ok (rG _) rfl rfl rfl rfl rfl rfl ?_
  refine aN ?_
  refine aA (fun e1=>?_) (fun e1=>?_)
  ·refine aE ?_
   exact cE TT_ok [(2,none)] rfl rfl ((cF fun h=>by have:=(h.2.2.2.2 i hi).1.symm.trans e1;cases this).symm)
  refine aE ?_
  refine aJ (ι:=Nat) (fun k=>[(10,vI k)]) (fun _=>[]) (fun k=>k≤(c.txs.getD i Y5).reads.length∧∀ j,j<k→((c.txs.getD i Y5).reads.getD j Y8).region<c.places.length) (fun k=>(c.txs.getD i Y5).reads.length - k) 0 [] [] ⟨Nat.zero_le _,fun j hj=>absurd hj (Nat.not_lt_zero _)⟩ ?_
  intro k ⟨g1,g2⟩
  refine aE ?_
  refine aH (fun e2=>?_) (fun e2=>?_)
  ·have hk:k<(c.txs.getD i Y5).reads.length:=by simp at e2 ⊢;omega
   refine aE ?_
   refine dN TT_ok [] rfl rfl fun B0 H0=>?_
   refine aN ?_
   refine aH (fun e3=>?_) (fun e3=>?_)
   ·refine aE ?_
    exact cE TT_ok [(2,none)] rfl rfl ((cF fun h=>by have:=(h.2.2.2.2 i hi).2.1 k hk;simp at e3 this;omega).symm)
   ·refine aE ?_
    exact aK (k+1) ⟨hk,bX g2 (by simp at e3 ⊢;omega)⟩ (by omega)
  have hg:∀ j,j<(c.txs.getD i Y5).reads.length→((c.txs.getD i Y5).reads.getD j Y8).region<c.places.length:=fun j hj=>g2 j (by simp at e2 hj;omega)
  clear g1 g2 e2
  refine aE ?_
  refine aJ (ι:=Nat) (fun k=>[(11,vI k)]) (fun _=>[]) (fun k=>k≤(c.txs.getD i Y5).sets.length∧∀ j,j<k→((c.txs.getD i Y5).sets.getD j Y7).region<c.places.length) (fun k=>(c.txs.getD i Y5).sets.length - k) 0 [] [] ⟨Nat.zero_le _,fun j hj=>absurd hj (Nat.not_lt_zero _)⟩ ?_
  intro k ⟨g1,g2⟩
  refine aE ?_
  refine aH (fun e2=>?_) (fun e2=>?_)
  ·have hk:k<(c.txs.getD i Y5).sets.length:=by simp at e2 ⊢;omega
   refine aE ?_
   refine dN TT_ok [] rfl rfl fun B0 H0=>?_
   refine aN ?_
   refine aH (fun e3=>?_) (fun e3=>?_)
   ·refine aE ?_
    exact cE TT_ok [(2,none)] rfl rfl ((cF fun h=>by have:=(h.2.2.2.2 i hi).2.2 k hk;simp at e3 this;omega).symm)
   ·refine aE ?_
    exact aK (k+1) ⟨hk,bX g2 (by simp at e3 ⊢;omega)⟩ (by omega)
  ·refine aE ?_
   exact aK (i+1) ⟨hi,bX h4 ⟨e1,hg,fun j hj=>g2 j (by simp at e2 hj;omega)⟩⟩ (by omega)
 ·refine aE ?_
  exact cE TT_ok [(2,none)] rfl rfl ((dG ⟨hH.1,hH.2,h2,h3,fun j hj=>h4 j (by omega)⟩).symm)
theorem K4 (m:GMachine) (hb:D.bds eA (bQ m)):Ans Tryz.prog 88 [] [vR (bQ m)] [] (vB (!dec (cS m))):=by
 refine aD Tryz.func88 fun B0 r_ D_ w0=>?_
 refine aE ?_
 refine aG (zZ _ hb) ?_
 exact aF [(2,none)] (rfl)
theorem KP (n:GNote) (x:Int):Ans Tryz.prog 92 [] [vR (cR n),vP [dI x]] [] (vB (decide (n.region ≥ x))):=by
 refine aD Tryz.func92 fun B0 r_ D_ w0=>?_
 refine aE ?_
 exact aF [(3,none)] (rfl)
theorem JF (n:GSet) (x:Int):Ans Tryz.prog 94 [] [vR (cH n),vP [dI x]] [] (vB (decide (n.region ≥ x))):=by
 refine aD Tryz.func94 fun B0 r_ D_ w0=>?_
 refine aE ?_
 exact aF [(3,none)] (rfl)
theorem tE {c:GCluster} (hb:D.bds eA (bK c)) (i:Nat):D.bds eA (bQ (c.machines.getD i Y4)):=OI hb.2.2.2.1 ⟨trivial,⟨Nat.zero_le _,fun i hi=>absurd hi (Nat.not_lt_zero _)⟩,⟨Nat.zero_le _,fun i hi=>absurd hi (Nat.not_lt_zero _)⟩,⟨Nat.zero_le _,fun i hi=>absurd hi (Nat.not_lt_zero _)⟩,trivial⟩ _
theorem W3 {c:GCluster} {i:Nat} {r0:Int} (h:dQ (c.machines.getD i Y4) r0=true):i<c.machines.length:=by
 rcases Nat.lt_or_ge i c.machines.length with h1 | h1
 ·exact h1
 ·rw [List.getD_eq_getElem?_getD,List.getElem?_eq_none h1] at h;cases h
theorem L9 {m:GMachine} (h:cS m) {i:Nat} (hi:i<m.copies.length):cO (m.copies.getD i ZA).cells=true:=by
 have h1:=h.2.2.1 i hi
 unfold o3 at h1
 cases c:cO (m.copies.getD i ZA).cells with
 | true=>rfl
 | false=>rw [c] at h1;cases c2:inB (m.copies.getD i ZA).region 0 5 <;>rw [c2] at h1 <;>cases h1
theorem sL {xs:List GCell} (h:cO xs=true):xs.length=6:=by
 unfold cO at h
 cases c:((xs.length:Int) == 6) with
 | false=>rw [c] at h;cases h
 | true=>have:=beq_iff_eq.1 c;omega
theorem N6 (c:GCluster) (i:Nat):(bif (bif jQ c i then true else (c.txs.getD i Y5).reads.any fun n=>decide (n.region ≥ (c.places.length:Int))) then true else (c.txs.getD i Y5).sets.any fun n=>decide (n.region ≥ (c.places.length:Int)))=false ↔
  jQ c i=false∧(∀ k,k<(c.txs.getD i Y5).reads.length→((c.txs.getD i Y5).reads.getD k Y8).region<c.places.length)∧∀ k,k<(c.txs.getD i Y5).sets.length→((c.txs.getD i Y5).sets.getD k Y7).region<c.places.length:=by
 constructor
 ·intro h
  cases c1:jQ c i with
  | true=>rw [c1] at h;cases h
  | false =>
   rw [c1] at h
   cases c2:(c.txs.getD i Y5).reads.any fun n=>decide (n.region ≥ (c.places.length:Int)) with
   | true=>rw [c2] at h;cases h
   | false =>
    rw [c2] at h
    refine ⟨rfl,fun k hk=>?_,fun k hk=>?_⟩
    ·have:=tF (z:=Y8) c2 k hk
     have:=of_decide_eq_false this
     omega
    ·have:=tF (z:=Y7) (show ((c.txs.getD i Y5).sets.any fun n=>decide (n.region ≥ (c.places.length:Int)))=false from h) k hk
     have:=of_decide_eq_false this
     omega
 ·rintro ⟨h1,h2,h3⟩
  rw [h1,kR (z:=Y8) fun k hk=>decide_eq_false (by have:=h2 k hk;omega),kR (z:=Y7) fun k hk=>decide_eq_false (by have:=h3 k hk;omega)];rfl
theorem l7 (c:GCluster) (hb:D.bds eA (bK c)):Ans Tryz.prog 43 [] [vR (bK c)] [] (vB (dec (ClusOk c))):=by
 have b1:c.places.length≤1048576:=hb.2.2.1.1
 have b2:c.machines.length≤1048576:=hb.2.2.2.1.1
 have b3:c.txs.length≤1048576:=hb.2.2.2.2.1.1
 refine aD Tryz.func43 fun B0 r_ D_ w0=>?_
 refine aE ?_
 refine aG (IY _) ?_
 refine aG (q9 _) ?_
 refine aG (dH _ _ _) ?_
 refine aG (dH _ _ _) ?_
 refine aG (DB _ b1 (fun i hi=>(hb.2.2.1.2 i hi).1.1)) ?_
 refine D9 TT_ok (w7 c.machines b2 (fun m=>D.bds eA (bQ m)) (fun i hi=>hb.2.2.2.1.2 i hi) fun m => !dec (cS m)) rfl rfl (SVs.cons (ZD _) (SVs.cons (rS (aB) rfl fun args x ⟨n,hn,e1,e2⟩=>by subst e1;subst e2;exact K4 n hn) rfl)) rfl rfl ?_
 refine aA (fun e=>?_) (fun e=>?_)
 ·refine aE ?_
  exact cE TT_ok [(2,none)] rfl rfl ((cF fun h=>by have h1:=h.1;rw [kR (z:=Y4) fun j hj=>by rw [dG (h.2.2.1 j hj)];rfl] at e;simp [dG h.2.1,bR.2 h1.1,bR.2 h1.2.1,bR.2 (show (1:Int)≤(c.machines.length:Int)∧(c.machines.length:Int)≤8 from by omega)] at e;omega).symm)
 have hH:(((1≤c.config∧c.config≤1000000)∧(0≤c.clock∧c.clock≤1000000)∧(1≤c.machines.length∧c.machines.length≤8)∧c.txs.length≤60)∧PlOk c.places)∧(c.machines.any fun m => !dec (cS m))=false:=by
  simp only [Bool.cond_true_left,Bool.or_eq_false_iff,Bool.not_eq_false',bR,decide_eq_false_iff_not,fP] at e
  exact ⟨⟨by omega,e.1.2⟩,e.2⟩
 have hM:∀ i,i<c.machines.length→cS (c.machines.getD i Y4):=fun i hi=>by have:=tF (z:=Y4) hH.2 i hi;simpa [fP] using this
 replace hH:=hH.1
 clear e
 refine aE ?_
 refine aJ (ι:=Nat) (fun i=>[(49,vI i)]) (fun _=>[]) (fun i=>i≤c.places.length∧∀ r,r<i→∀ k,k<(c.places.getD r Y3).machines.length→l6 c r k=false) (fun i=>c.places.length - i) 0 [] [] ⟨Nat.zero_le _,fun j hj=>absurd hj (Nat.not_lt_zero _)⟩ ?_
 intro i ⟨h1,h3⟩
 refine aE ?_
 refine aH (fun e=>?_) (fun e=>?_)
 ·have hi:i<c.places.length:=by omega
  have hp:=hH.2.2 i hi
  have hpl:=hp.1
  refine aE ?_
  refine aJ (ι:=Nat) (fun k=>[(57,vI k)]) (fun _=>[]) (fun k=>k≤(c.places.getD i Y3).machines.length∧∀ j,j<k→l6 c i j=false) (fun k=>(c.places.getD i Y3).machines.length - k) 0 [] [] ⟨Nat.zero_le _,fun j hj=>absurd hj (Nat.not_lt_zero _)⟩ ?_
  intro k ⟨g1,g2⟩
  refine aE ?_
  refine aH (fun e1=>?_) (fun e1=>?_)
  ·have hk:k<(c.places.getD i Y3).machines.length:=by simp at e1 ⊢;omega
   have hn:=AE hp hk
   refine aE ?_
   cases hh:dQ (c.machines.getD (mAt c i k).toNat Y4) i with
   | false =>
    refine aG (BD _ (tE hb _).2.1.1 _ hh) ?_
    refine aA (fun e2=>?_) (fun e2=>?_)
    ·refine aE ?_
     exact cE TT_ok [(2,none)] rfl rfl ((cF fun h=>by have h5:=h.2.2.2.1 i hi k hk;unfold l6 at h5;rw [hh] at h5;have:=h5.symm.trans e2;cases this).symm)
    ·refine aE ?_
     exact aK (k+1) ⟨hk,bX g2 (by unfold l6;rw [hh];exact e2)⟩ (by omega)
   | true =>
    obtain ⟨i0,w1,w2,w3⟩:=S6 hh
    refine JB TT_ok (zW _ (tE hb _).2.1.1 _ i0 w1 w2 w3) rfl rfl (ZF _) rfl rfl ?_
    have h6:=sL (L9 (hM _ (W3 hh)) w1)
    refine V0 TT_ok rfl rfl rfl rfl rfl rfl rfl rfl rfl (by omega) ?_
    refine aM ?_
    refine aA (fun e2=>?_) (fun e2=>?_)
    ·refine aE ?_
     exact cE TT_ok [(2,none)] rfl rfl ((cF fun h=>by have h5:=h.2.2.2.1 i hi k hk;unfold l6 at h5;rw [hh] at h5;have:=h5.symm.trans e2;cases this).symm)
    ·refine aE ?_
     exact aK (k+1) ⟨hk,bX g2 (by unfold l6;rw [hh];exact e2)⟩ (by omega)
  ·refine aE ?_
   exact aK (i+1) ⟨hi,bX h3 fun k hk=>g2 k (by simp at e1 hk;omega)⟩ (by omega)
 have hi:i=c.places.length:=by omega
 subst hi
 clear e h1
 refine aE ?_
 refine aG (wO _) ?_
 refine aJ (ι:=Nat) (fun i=>[(89,vI i)]) (fun _=>[]) (fun i=>i≤c.txs.length∧∀ j,j<i→jQ c j=false∧(∀ k,k<(c.txs.getD j Y5).reads.length→((c.txs.getD j Y5).reads.getD k Y8).region<c.places.length)∧∀ k,k<(c.txs.getD j Y5).sets.length→((c.txs.getD j Y5).sets.getD k Y7).region<c.places.length) (fun i=>c.txs.length - i) 0 [] [] ⟨Nat.zero_le _,fun j hj=>absurd hj (Nat.not_lt_zero _)⟩ ?_
 intro i ⟨h1,h4⟩
 refine aE ?_
 refine aH (fun e=>?_) (fun e=>?_)
 ·have hi:i<c.txs.length:=by omega
  have r1:(c.txs.getD i Y5).reads.length≤1048576:=(hb.2.2.2.2.1.2 i hi).2.2.2.2.1.1
  have r2:(c.txs.getD i Y5).sets.length≤1048576:=(hb.2.2.2.2.1.2 i hi).2.2.2.2.2.1.1
  refine aE ?_
  refine dN TT_ok [] rfl rfl fun B0 H0=>?_
  refine iF TT_ok (NC _) rfl rfl rfl rfl rfl rfl ?_
  refine VZ TT_ok (z9 (c.txs.getD i Y5).reads r1 fun n=>decide (n.region ≥ (c.places.length:Int))) rfl rfl rfl (SVs.cons (ZD _) (SVs.cons (rS (aB) rfl fun args x ⟨n,e1,e2⟩=>by subst e1;subst e2;exact KP n _) rfl)) rfl rfl ?_
  refine VZ TT_ok (sF (c.txs.getD i Y5).sets r2 fun n=>decide (n.region ≥ (c.places.length:Int))) rfl rfl rfl (SVs.cons (ZD _) (SVs.cons (rS (aB) rfl fun args x ⟨n,e1,e2⟩=>by subst e1;subst e2;exact JF n _) rfl)) rfl rfl ?_
  refine aN ?_
  refine aA (fun e1=>?_) (fun e1=>?_)
  ·refine aE ?_
   exact cE TT_ok [(2,none)] rfl rfl ((cF fun h=>by have:=((N6 c i).2 (h.2.2.2.2 i hi)).symm.trans e1;cases this).symm)
  ·refine aE ?_
   exact aK (i+1) ⟨hi,bX h4 ((N6 c i).1 e1)⟩ (by omega)
 ·refine aE ?_
  exact cE TT_ok [(2,none)] rfl rfl ((dG ⟨hH.1,hH.2,hM,h3,fun j hj=>h4 j (by omega)⟩).symm)
end
section
abbrev b8 (c:GCluster) (r k:Nat):GMachine:=c.machines.getD (mAt c r k).toNat Y4
def cellsOf (m:GMachine) (r:Int):List GCell:=if dQ m r=true then (m.copies.getD (b0 (atB r) m.copies).toNat ZA).cells else []
theorem yB {m:GMachine} {r:Int} (h:dQ m r=true):0≤b0 (atB r) m.copies∧b0 (atB r) m.copies<m.copies.length:=by
 rcases gO (atB r) ZA m.copies with ⟨h1,h2⟩ | ⟨i,h1,h2,h3,h4⟩
 ·rw [dQ,kR h2] at h;cases h
 ·omega
theorem iZ {m:GMachine} {r:Int} (h:dQ m r=true):cellsOf m r=(m.copies.getD (b0 (atB r) m.copies).toNat ZA).cells:=by rw [cellsOf,if_pos h]
theorem XI (m:GMachine) (hl:m.copies.length≤1048576) (r0:Int):Ans Tryz.prog 56 [] [vP (bQ m),vI r0] [] (vL 2 cQ Y9 (cellsOf m r0)):=by
 cases h:dQ m r0 with
 | false =>
  refine (BD m hl r0 h).wkR fun _ _=>⟨_,_,rfl,?_,rfl⟩
  rw [cellsOf,if_neg (by rw [h];simp)]
  intro B Z v e
  have e:v = .slice none 0 0:=e
  subst e
  exact ⟨none,0,rfl,Nat.le_refl _,Nat.zero_le _, .inl rfl⟩
 | true =>
  rcases gO (atB r0) ZA m.copies with ⟨h1,h2⟩ | ⟨i,h1,h2,h3,h4⟩
  ·rw [dQ,kR h2] at h;cases h
  ·have e:cellsOf m r0=(m.copies.getD i ZA).cells:=by rw [iZ h,h2];rfl
   rw [e]
   exact zW m hl r0 i h1 h3 h4
theorem ClusOk.at {c:GCluster} (h:ClusOk c) {r k:Nat} (hr:r<c.places.length) (hk:k<(c.places.getD r Y3).machines.length):(0≤mAt c r k∧mAt c r k<c.machines.length)∧((b8 c r k).alive=true→dQ (b8 c r k) r=true):=by
 have h1:=AE (h.2.1.2 r hr) hk
 have h2:=h.2.2.2.1 r hr k hk
 unfold l6 at h2
 cases c1:decide (mAt c r k ≥ (c.machines.length:Int)) with
 | true=>rw [c1] at h2;cases h2
 | false =>
  rw [c1] at h2
  have:=of_decide_eq_false c1
  refine ⟨⟨h1.1,by omega⟩,fun ha=>?_⟩
  change (bif (b8 c r k).alive then !dQ (b8 c r k) r else false)=false at h2
  rw [ha] at h2
  simpa using h2
theorem ClusOk.pl {c:GCluster} (h:ClusOk c) {r:Nat} (hr:r<c.places.length):1≤(c.places.getD r Y3).machines.length∧(c.places.getD r Y3).machines.length≤3:=(h.2.1.2 r hr).1
theorem ClusOk.mach {c:GCluster} (h:ClusOk c) {r k:Nat} (hr:r<c.places.length) (hk:k<(c.places.getD r Y3).machines.length):cS (b8 c r k):=h.2.2.1 _ (by have:=(h.at hr hk).1;omega)
theorem gM {m:GMachine} (h:cS m) {r:Int} (hh:dQ m r=true):(cellsOf m r).length=6∧cO (cellsOf m r)=true:=by
 have h1:=yB hh
 rw [iZ hh]
 have h2:=L9 h (i:=(b0 (atB r) m.copies).toNat) (by omega)
 exact ⟨sL h2,h2⟩
theorem PN {xs:List GCell} (h:cO xs=true) {i:Nat} (hi:i<xs.length):fQ (xs.getD i Y9)=false:=by
 unfold cO at h
 cases c:((xs.length:Int) == 6) with
 | false=>rw [c] at h;cases h
 | true=>rw [c] at h;exact tF (by simpa using h) i hi
theorem PY {x:GCell} (h:fQ x=false):gF x.head=true:=by
 unfold fQ at h
 cases c:gF x.head with
 | true=>rfl
 | false=>rw [c] at h;cases h
def pJ (c:GCluster) (r:Nat):Bool:=wQ (c.places.getD r Y3).machines.length fun k => !(b8 c r k).alive
theorem Q8 (c:GCluster) (b1:c.places.length≤1048576) (hok:ClusOk c) (r0:Nat) (hr:r0<c.places.length):Ans Tryz.prog 244 [] [vR (bK c),vI r0] [] (vB (pJ c r0)):=by
 have hp:=hok.pl hr
 refine aD Tryz.func244 fun B0 r_ D_ w0=>?_
 refine aE ?_
 refine aJ (ι:=Nat) (fun k=>[(6,vI k)]) (fun _=>[]) (fun k=>k≤(c.places.getD r0 Y3).machines.length∧∀ j,j<k→(!(b8 c r0 j).alive)=false) (fun k=>(c.places.getD r0 Y3).machines.length - k) 0 [] [] ⟨Nat.zero_le _,fun j hj=>absurd hj (Nat.not_lt_zero _)⟩ ?_
 intro k ⟨h1,h2⟩
 refine aE ?_
 refine aH (fun e=>?_) (fun e=>?_)
 ·have hk:k<(c.places.getD r0 Y3).machines.length:=by simp at e ⊢;omega
  have hm:=(hok.at hr hk).1
  refine aE ?_
  refine dN TT_ok [] rfl rfl fun B0 H0=>?_
  refine aN ?_
  refine aA (fun e2=>?_) (fun e2=>?_)
  ·refine aE ?_
   exact aF [(4,none)] ((xF (p:=fun k => !(b8 c r0 k).alive) hk e2).symm)
  ·refine aE ?_
   exact aK (k+1) ⟨hk,bX h2 e2⟩ (by omega)
 ·refine aE ?_
  exact cE TT_ok [(4,none)] rfl rfl ((o9 fun j hj=>h2 j (by simp at e hj;omega)).symm)
end
section
theorem Q1 (c:GCluster) (r0:Nat) (hr:r0<c.places.length) (hp:0<(c.places.getD r0 Y3).machines.length) (hin:0≤mAt c r0 0∧mAt c r0 0<c.machines.length):Ans Tryz.prog 55 [] [vP (bK c),vI r0] [] (vP (bQ (b8 c r0 0))):=by
 refine aD Tryz.func55 fun B0 r_ D_ w0=>?_
 refine aE ?_
 refine dN TT_ok [] rfl rfl fun B0 H0=>?_
 refine aN ?_
 exact CE TT_ok [(4,none)] rfl rfl (rfl)
def sT (tx r kind:Int) (x:GRecord):Bool:=bif (bif x.tx == tx then x.region == r else false) then x.kind == kind else false
def pC (m:GMachine) (tx r kind:Int):Int:=b0 (sT tx r kind) m.log
theorem xZ (m:GMachine) (hl:m.log.length≤1048576) (tx r0 kind:Int):Ans Tryz.prog 241 [] [vR (bQ m),vI tx,vI r0,vI kind] [] (vI (pC m tx r0 kind)):=by
 refine aD Tryz.func241 fun B0 r_ D_ w0=>?_
 refine aE ?_
 refine aJ (ι:=Nat) (fun i=>[(9,vI i)]) (fun _=>[]) (fun i=>i≤m.log.length∧∀ j,j<i→sT tx r0 kind (m.log.getD j ZB)=false) (fun i=>m.log.length - i) 0 [] [] ⟨Nat.zero_le _,fun j hj=>absurd hj (Nat.not_lt_zero _)⟩ ?_
 intro i ⟨h1,h2⟩
 refine aE ?_
 refine aH (fun e=>?_) (fun e=>?_)
 ·have hi:i<m.log.length:=by omega
  refine aE ?_
  refine aA (fun e2=>?_) (fun e2=>?_)
  ·refine aE ?_
   exact aI [(8,none)] ((gH (p:=sT tx r0 kind) hi h2 e2).symm)
  ·refine aE ?_
   exact aK (i+1) ⟨hi,bX h2 e2⟩ (by omega)
 ·refine aE ?_
  exact d8 TT_ok [(8,none)] rfl rfl ((gI fun j hj=>h2 j (by omega)).symm)
def DH (a b:Int):Int:=if a > b then a else b
theorem xI (a b:Int):Ans Tryz.prog 196 [] [vI a,vI b] [] (vI (DH a b)):=by
 refine aD Tryz.func196 fun B0 r_ D_ w0=>?_
 refine aE ?_
 refine aH (fun e=>?_) (fun e=>?_)
 ·refine aE ?_
  exact aI [(4,none)] ((if_pos e).symm)
 ·refine aE ?_
  exact aI [(4,none)] ((if_neg e).symm)
def BY (c:GCluster) (id r:Int) (k:Nat) (best:Int):Int :=
 let m:=b8 c r.toNat k
 if m.alive=false then best else if (bif decide (pC m id r 3 ≥ 0) then true else decide (id ∈ m.cleared))=true then DH best 4 else if decide (pC m id r 2 ≥ 0)=true then DH best 3 else if (bif ((k:Int) == 0) then decide (pC m id r 1 ≥ 0) else false)=true then DH best 2 else best
def yI (c:GCluster) (id r:Int):Nat→Int
 | 0=>1
 | k+1=>BY c id r k (yI c id r k)
theorem P5 (c:GCluster) (hb:D.bds eA (bK c)) (hok:ClusOk c) (id r0:Int) (hr:0≤r0∧r0<c.places.length):Ans Tryz.prog 246 [] [vR (bK c),vI id,vI r0] [] (vI (yI c id r0 (c.places.getD r0.toNat Y3).machines.length)):=by
 have hp:=hok.pl (r:=r0.toNat) (by omega)
 refine aD Tryz.func246 fun B0 r_ D_ w0=>?_
 refine aE ?_
 refine aJ (ι:=Nat) (fun k=>[(9,vI k),(8,vI (yI c id r0 k))]) (fun _=>[]) (fun k=>k≤(c.places.getD r0.toNat Y3).machines.length) (fun k=>(c.places.getD r0.toNat Y3).machines.length - k) 0 [] [] (Nat.zero_le _) ?_
 intro k h1
 refine aE ?_
 refine aH (fun e=>?_) (fun e=>?_)
 ·have hk:k<(c.places.getD r0.toNat Y3).machines.length:=by simp at e ⊢;omega
  have hm:=(hok.at (r:=r0.toNat) (by omega) hk).1
  have bm:=tE hb (mAt c r0.toNat k).toNat
  have bl:(b8 c r0.toNat k).log.length≤1048576:=bm.2.2.1.1
  have bc:(b8 c r0.toNat k).cleared.length≤1048576:=bm.2.2.2.1.1
  refine aE ?_
  refine dN TT_ok [] rfl rfl fun B0 H0=>?_
  refine bB 8 rfl (by kernel_rfl) (aR (bA ?_))
  refine bB 9 rfl (by kernel_rfl) (aR (bA ?_))
  refine aN ?_
  refine eZ rfl (fun e1=>?_) (fun e1=>?_)
  ·refine aE ?_
   exact bF (k+1) hk (by omega) ⟨⟨_,rfl,ZD _⟩,⟨_,rfl,ZH (cT (show _=BY _ _ _ _ _ from (if_pos e1).symm))⟩,wF⟩ wM
  have e1':¬ (b8 c r0.toNat k).alive=false:=by rw [show (b8 c r0.toNat k).alive=true from e1];simp
  refine aE ?_
  refine aG (xZ _ bl _ _ _) ?_
  refine aG (kJ _ bc _) ?_
  refine aA (fun e2=>?_) (fun e2=>?_)
  ·refine aE ?_
   refine aG (xI _ _) ?_
   exact bF (k+1) hk (by omega) ⟨⟨_,rfl,ZD _⟩,⟨_,rfl,ZH (cT (show _=BY _ _ _ _ _ from ((if_neg e1').trans (if_pos e2)).symm))⟩,wF⟩ wM
  have e2':=Bool.eq_false_iff.1 e2
  refine aE ?_
  refine aG (xZ _ bl _ _ _) ?_
  refine aA (fun e3=>?_) (fun e3=>?_)
  ·refine aE ?_
   refine aG (xI _ _) ?_
   exact bF (k+1) hk (by omega) ⟨⟨_,rfl,ZD _⟩,⟨_,rfl,ZH (cT (show _=BY _ _ _ _ _ from ((if_neg e1').trans ((if_neg e2').trans (if_pos e3))).symm))⟩,wF⟩ wM
  have e3':=Bool.eq_false_iff.1 e3
  refine aE ?_
  refine aG (xZ _ bl _ _ _) ?_
  refine aA (fun e4=>?_) (fun e4=>?_)
  ·refine aE ?_
   refine aG (xI _ _) ?_
   exact bF (k+1) hk (by omega) ⟨⟨_,rfl,ZD _⟩,⟨_,rfl,ZH (cT (show _=BY _ _ _ _ _ from ((if_neg e1').trans ((if_neg e2').trans ((if_neg e3').trans (if_pos e4)))).symm))⟩,wF⟩ wM
  ·have e4':=Bool.eq_false_iff.1 e4
   refine aE ?_
   exact bF (k+1) hk (by omega) ⟨⟨_,rfl,ZD _⟩,⟨_,rfl,ZH (cT (show _=BY _ _ _ _ _ from ((if_neg e1').trans ((if_neg e2').trans ((if_neg e3').trans (if_neg e4')))).symm))⟩,wF⟩ wM
 ·have hk:k=(c.places.getD r0.toNat Y3).machines.length:=by simp at e h1 ⊢;omega
  subst hk
  refine aE ?_
  exact aI [(6,none)] (rfl)
end
section
def bZ (c:GCluster) (id:Int):Int:=b0 (fun t:GTx=>t.id == id) c.txs
theorem xP (c:GCluster) (hl:c.txs.length≤1048576) (id:Int):Ans Tryz.prog 72 [] [vR (bK c),vI id] [] (vI (bZ c id)):=by
 refine aD Tryz.func72 fun B0 r_ D_ w0=>?_
 refine aE ?_
 refine aJ (ι:=Nat) (fun i=>[(5,vI i)]) (fun _=>[]) (fun i=>i≤c.txs.length∧∀ j,j<i→((c.txs.getD j Y5).id == id)=false) (fun i=>c.txs.length - i) 0 [] [] ⟨Nat.zero_le _,fun j hj=>absurd hj (Nat.not_lt_zero _)⟩ ?_
 intro i ⟨h1,h2⟩
 refine aE ?_
 refine aH (fun e=>?_) (fun e=>?_)
 ·have hi:i<c.txs.length:=by omega
  refine aE ?_
  refine aA (fun e2=>?_) (fun e2=>?_)
  ·refine aE ?_
   exact aI [(4,none)] ((gH (p:=fun t:GTx=>t.id == id) hi h2 e2).symm)
  ·refine aE ?_
   exact aK (i+1) ⟨hi,bX h2 e2⟩ (by omega)
 ·refine aE ?_
  exact d8 TT_ok [(4,none)] rfl rfl ((gI (p:=fun t:GTx=>t.id == id) (z:=Y5) fun j hj=>h2 j (by omega)).symm)
theorem fS {c:GCluster} {id:Int} (h:0≤bZ c id):(bZ c id).toNat<c.txs.length∧(c.txs.getD (bZ c id).toNat Y5).id=id:=by
 rcases gO (fun t:GTx=>t.id == id) Y5 c.txs with ⟨h1,h2⟩ | ⟨i,h1,h2,h3,h4⟩
 ·rw [bZ,h1] at h;omega
 ·rw [bZ,h2];exact ⟨by simpa using h1,by simpa using h4⟩
theorem lT {c:GCluster} {id:Int}:bZ c id<c.txs.length:=by
 rcases gO (fun t:GTx=>t.id == id) Y5 c.txs with ⟨h1,h2⟩ | ⟨i,h1,h2,h3,h4⟩
 ·rw [bZ,h1];omega
 ·rw [bZ,h2];omega
theorem tx1_q (t:GTx) (id:Int):Ans Tryz.prog 151 [] [vR (cTx t),vP [dI id]] [] (vB (t.id == id)):=by
 refine aD Tryz.func151 fun B0 r_ D_ w0=>?_
 refine aE ?_
 exact aF [(3,none)] (rfl)
theorem QR (c:GCluster) (hl:c.txs.length≤1048576) (id:Int) (h:0≤bZ c id):Ans Tryz.prog 95 [] [vP (bK c),vI id] [] (vP (cTx (c.txs.getD (bZ c id).toNat Y5))):=by
 have hin:=fS h
 refine aD Tryz.func95 fun B0 r_ D_ w0=>?_
 refine aE ?_
 refine D9 TT_ok (I7 c.txs hl (fun _=>True) (fun _ _=>trivial) fun t=>t.id == id) rfl rfl (SVs.cons (ZD _) (SVs.cons (rS (aB) rfl fun args x ⟨n,_,e1,e2⟩=>by subst e1;subst e2;exact tx1_q n _) rfl)) rfl rfl ?_
 refine aH (fun e=>absurd h (Int.not_le.2 e)) (fun _=>?_)
 have hx:0≤b0 (fun t:GTx=>t.id == id) c.txs∧b0 (fun t:GTx=>t.id == id) c.txs<c.txs.length:=⟨h,lT⟩
 refine aE ?_
 exact CE TT_ok [(4,none)] rfl rfl (rfl)
theorem XJ {c:GCluster} (hb:D.bds eA (bK c)) (i:Nat):D.bds eA (cTx (c.txs.getD i Y5)):=OI hb.2.2.2.2.1 ⟨trivial,trivial,trivial,trivial,⟨Nat.zero_le _,fun i hi=>absurd hi (Nat.not_lt_zero _)⟩,⟨Nat.zero_le _,fun i hi=>absurd hi (Nat.not_lt_zero _)⟩,trivial,trivial⟩ _
theorem ClusOk.tx {c:GCluster} (h:ClusOk c) {i:Nat} (hi:i<c.txs.length):dV (c.txs.getD i Y5):=by
 have h1:=(h.2.2.2.2 i hi).1
 unfold jQ at h1
 cases c1:dec (dV (c.txs.getD i Y5)) with
 | true=>exact fP.1 c1
 | false=>rw [c1] at h1;cases h1
theorem ClusOk.set {c:GCluster} (h:ClusOk c) {i k:Nat} (hi:i<c.txs.length) (hk:k<(c.txs.getD i Y5).sets.length):0≤((c.txs.getD i Y5).sets.getD k Y7).region∧((c.txs.getD i Y5).sets.getD k Y7).region<c.places.length:=by
 have h1:=((h.tx hi).2.2 k hk).1
 refine ⟨?_,(h.2.2.2.2 i hi).2.2 k hk⟩
 unfold setB at h1
 cases c1:inB ((c.txs.getD i Y5).sets.getD k Y7).region 0 5 with
 | true=>exact (bR.1 c1).1
 | false=>rw [c1] at h1;cases h1
theorem ClusOk.note {c:GCluster} (h:ClusOk c) {i k:Nat} (hi:i<c.txs.length) (hk:k<(c.txs.getD i Y5).reads.length):0≤((c.txs.getD i Y5).reads.getD k Y8).region∧((c.txs.getD i Y5).reads.getD k Y8).region<c.places.length:=by
 have h1:=((h.tx hi).2.1 k hk).1
 refine ⟨?_,(h.2.2.2.2 i hi).2.1 k hk⟩
 unfold noteB at h1
 cases c1:inB ((c.txs.getD i Y5).reads.getD k Y8).region 0 5 with
 | true=>exact (bR.1 c1).1
 | false=>rw [c1] at h1;cases h1
abbrev NJ (P:Program) (f:Nat) (args:List SV) (xs:List GCell) (b:Bool):Prop:=Con P f [] args [] (fun _:Unit=>True) (fun _=>[.a (.g 900),vB b]) fun _=>[(900,bE 2 cQ Y9 xs)]
theorem tX (xs:List GCell) (hl:xs.length≤1048576):MkL Tryz.prog 221 [vL 2 cQ Y9 xs] 2 cQ Y9 xs:=by
 refine aD Tryz.func221 fun B0 r_ D_ w0=>?_
 refine aE ?_
 refine aL 3 (fun i=>cQ (([]:List GCell).getD i Y9)) (fun i hi=>absurd hi (Nat.not_lt_zero _)) (mu1:=[]) ?_
 refine aM ?_
 refine qI TT_ok 3 900 rfl rfl rfl rfl rfl rfl rfl rfl rfl rfl rfl rfl ⟨by simp;omega,by unfold maxL;omega⟩ ?_
 refine aM ?_
 refine aC (()) [(2,none)] ?_ ?_ ?_
 ·exact ZF _
 ·exact ⟨⟨_,rfl,o7 (ys:=([]:List GCell)) (by simp)⟩,trivial⟩
 ·trivial
theorem vZ (c:GCluster) (hb:D.bds eA (bK c)) (hok:ClusOk c) (r0:Int) (hr:0≤r0∧r0<c.places.length):Con Tryz.prog 53 [] [vR (bK c),vI r0] [] (fun _:Unit=>True) (fun _=>if (b8 c r0.toNat 0).alive=true then [vI (mAt c r0.toNat 0),vI (b0 (atB r0) (b8 c r0.toNat 0).copies)] else [vI (-1),vI (-1)]) fun _=>[]:=by
 have hpl:=hok.pl (r:=r0.toNat) (by omega)
 have hm:=(hok.at (r:=r0.toNat) (k:=0) (by omega) (by omega)).1
 have bm:=tE hb (mAt c r0.toNat 0).toNat
 refine aD Tryz.func53 fun B0 r_ D_ w0=>?_
 refine aE ?_
 refine eZ rfl (fun e=>?_) (fun e=>?_)
 ·rw [if_neg (by rw [show (b8 c r0.toNat 0).alive=false from e];simp)]
  refine aE ?_
  refine aC (()) [(4,none),(5,none)] ?_ ?_ ?_
  ·exact ZF _
  ·trivial
  ·trivial
 ·rw [if_pos (show (b8 c r0.toNat 0).alive=true from e)]
  refine aE ?_
  refine aG (w8 (b8 c r0.toNat 0) bm.2.1.1 r0) ?_
  refine aC (()) [(4,none),(5,none)] ?_ ?_ ?_
  ·exact ZF _
  ·trivial
  ·trivial
end
section
theorem NT {r0:Int} {n:Nat}:inB r0 0 ((n:Int) - 1)=decide (0≤r0∧r0<n):=by
 rw [Bool.eq_iff_iff,bR,decide_eq_true_eq];omega
theorem GB (c:GCluster) (hok:ClusOk c) (r0:Int) (hr:0≤r0∧r0<c.places.length):Ans Tryz.prog 55 [] [vP (bK c),vI r0] [] (vP (bQ (b8 c r0.toNat 0))):=by
 have h:=Q1 c r0.toNat (by omega) (by have:=hok.pl (r:=r0.toNat) (by omega);omega) (hok.at (r:=r0.toNat) (k:=0) (by omega) (by have:=hok.pl (r:=r0.toNat) (by omega);omega)).1
 rwa [Int.toNat_of_nonneg hr.1] at h
theorem H7 (c:GCluster) (b1:c.places.length≤1048576) (hok:ClusOk c) (r0:Int) (hr:0≤r0∧r0<c.places.length):Ans Tryz.prog 244 [] [vR (bK c),vI r0] [] (vB (pJ c r0.toNat)):=by
 have h:=Q8 c b1 hok r0.toNat (by omega)
 rwa [Int.toNat_of_nonneg hr.1] at h
def BS (c:GCluster) (t:GTx):Bool:=(c.machines.getD t.home.toNat Y4).alive
def cD (t:GTx):List GNote:=t.reads.filter (vA t)
def yW (c:GCluster) (t:GTx):Bool:=if t.phase=1 then !BS c t else if t.phase=7∨t.phase=9 then false else if BS c t=false then true else (t.sets.any fun s=>pJ c s.region.toNat) || (cD t).any fun n=>pJ c n.region.toNat
structure TxIn (c:GCluster) (t:GTx):Prop where
 ok:dV t
 home:0≤t.home∧t.home<c.machines.length
 note:∀ k,k<t.reads.length→0≤(t.reads.getD k Y8).region∧(t.reads.getD k Y8).region<c.places.length
 set:∀ k,k<t.sets.length→0≤(t.sets.getD k Y7).region∧(t.sets.getD k Y7).region<c.places.length
theorem ClusOk.txIn {c:GCluster} (h:ClusOk c) {i:Nat} (hi:i<c.txs.length):TxIn c (c.txs.getD i Y5):=by
 refine ⟨h.tx hi,⟨(h.tx hi).1.2.1.1,?_⟩,fun k hk=>h.note hi hk,fun k hk=>h.set hi hk⟩
 have h1:=(h.2.2.2.2 i hi).1
 unfold jQ at h1
 simp only [Bool.cond_true_left,Bool.or_eq_false_iff,decide_eq_false_iff_not] at h1
 have:=h1.1.2
 omega
theorem yC {c:GCluster} {t:GTx} (h:TxIn c t) {k:Nat} (hk:k<(cD t).length):0≤((cD t).getD k Y8).region∧((cD t).getD k Y8).region<c.places.length:=by
 have hm:(cD t).getD k Y8 ∈ t.reads:=by
  have:(cD t).getD k Y8=(cD t)[k]:=by rw [List.getD_eq_getElem?_getD,List.getElem?_eq_getElem hk];rfl
  rw [this]
  exact (List.mem_filter.1 (List.getElem_mem hk)).1
 obtain ⟨j,hj,e⟩:=List.mem_iff_getElem.1 hm
 have h2:=h.note j hj
 rwa [show t.reads.getD j Y8=(cD t).getD k Y8 from by rw [List.getD_eq_getElem?_getD,List.getElem?_eq_getElem hj];exact e] at h2
theorem BF (c:GCluster) (hb:D.bds eA (bK c)) (hok:ClusOk c) (t:GTx) (ht:TxIn c t):Ans Tryz.prog 231 [] [vR (bK c),vR (cTx t)] [] (vB (yW c t)):=by
 have b1:c.places.length≤1048576:=hb.2.2.1.1
 have r1:t.reads.length≤1048576:=by have:=ht.ok.1;unfold m7 at this;omega
 have r2:t.sets.length≤1048576:=by have:=ht.ok.1;unfold m7 at this;omega
 have hh:=ht.home
 have hcl:(cD t).length≤t.reads.length:=List.length_filter_le _ _
 refine aD Tryz.func231 fun B0 r_ D_ w0=>?_
 refine d5 TT_ok rfl ?_
 refine aS 2 fun r_=>?_
 refine aS 3 fun r_=>?_
 refine aE ?_
 refine aO (fun e1=>?_) (fun e1=>?_)
 ·refine aE ?_
  exact cE TT_ok [(4,none)] rfl rfl ((by rw [yW,if_pos e1];rfl))
 refine aE ?_
 refine aO (fun e2=>?_) (fun e2=>?_)
 ·refine aE ?_
  refine bW rfl (fun _=>?_) (fun e=>absurd e2 (by simpa using e))
  refine aE ?_
  exact cE TT_ok [(4,none)] rfl rfl ((by rw [yW,if_neg e1,if_pos (.inl e2)]))
 refine aE ?_
 refine aO (fun e3=>?_) (fun e3=>?_)
 ·refine aE ?_
  exact cE TT_ok [(4,none)] rfl rfl ((by rw [yW,if_neg e1,if_pos (.inr e3)]))
 have hstr:yW c t=if BS c t=false then true else (t.sets.any fun s=>pJ c s.region.toNat) || (cD t).any fun n=>pJ c n.region.toNat:=by
  rw [yW,if_neg e1,if_neg (by omega)]
 rw [hstr]
 clear hstr
 refine aE ?_
 refine eZ rfl (fun e4=>?_) (fun e4=>?_)
 ·refine aE ?_
  exact cE TT_ok [(4,none)] rfl rfl ((by rw [if_pos (show BS c t=false from e4)]))
 rw [if_neg (show ¬ BS c t=false from by rw [show BS c t=true from e4];simp)]
 refine aE ?_
 refine aJ (ι:=Nat) (fun i=>[(6,vI i)]) (fun _=>[]) (fun i=>i≤t.sets.length∧∀ j,j<i→pJ c (t.sets.getD j Y7).region.toNat=false) (fun i=>t.sets.length - i) 0 [] [] ⟨Nat.zero_le _,fun j hj=>absurd hj (Nat.not_lt_zero _)⟩ ?_
 intro i ⟨h1,h2⟩
 refine aE ?_
 refine aH (fun e=>?_) (fun e=>?_)
 ·have hi:i<t.sets.length:=by omega
  refine aE ?_
  refine dN TT_ok [] rfl rfl fun B0 H0=>?_
  refine iF TT_ok (H7 c b1 hok _ (ht.set i hi)) rfl rfl rfl rfl rfl rfl ?_
  refine aN ?_
  refine aA (fun e5=>?_) (fun e5=>?_)
  ·refine aE ?_
   exact cE TT_ok [(4,none)] rfl rfl ((by rw [t8 (p:=fun s=>pJ c s.region.toNat) hi e5];rfl))
  ·refine aE ?_
   exact aK (i+1) ⟨hi,bX h2 e5⟩ (by omega)
 have hs:(t.sets.any fun s=>pJ c s.region.toNat)=false:=kR (z:=Y7) fun j hj=>h2 j (by omega)
 rw [hs]
 refine aE ?_
 refine aP (ZG 900 42 (FI t r1 r2)) fun _ _=>?_
 refine aM ?_
 refine aJ (ι:=Nat) (fun i=>[(8,vI i)]) (fun _=>[]) (fun i=>i≤(cD t).length∧∀ j,j<i→pJ c ((cD t).getD j Y8).region.toNat=false) (fun i=>(cD t).length - i) 0 [] [] ⟨Nat.zero_le _,fun j hj=>absurd hj (Nat.not_lt_zero _)⟩ ?_
 intro i ⟨h3,h4⟩
 have hcl2:(t.reads.filter (vA t)).length≤t.reads.length:=hcl
 refine aE ?_
 refine aH (fun e6=>?_) (fun e6=>?_)
 ·have hi:i<(cD t).length:=by have:(i:Int)<(cD t).length:=e6;omega
  have hi2:i<(t.reads.filter (vA t)).length:=hi
  refine aE ?_
  refine dN TT_ok [] rfl rfl fun B0 H0=>?_
  refine iF TT_ok (H7 c b1 hok _ (yC ht hi)) rfl rfl rfl rfl rfl rfl ?_
  refine aN ?_
  refine aA (fun e5=>?_) (fun e5=>?_)
  ·refine aE ?_
   exact cE TT_ok [(4,none)] rfl rfl ((by rw [t8 (p:=fun n=>pJ c n.region.toNat) hi e5];rfl))
  ·refine aE ?_
   exact aK (i+1) ⟨hi,bX h4 e5⟩ (by omega)
 ·refine aE ?_
  exact cE TT_ok [(4,none)] rfl rfl ((by rw [kR (z:=Y8) fun j hj=>h4 j (by have:¬ (i:Int)<(cD t).length:=e6;omega)];rfl))
end
section
abbrev RG (x:GRecord) (k1:Nat):SV := .ag [.v (.int .i64 x.kind), .v (.int .i64 x.tx), .v (.int .i64 x.region), .g k1]
abbrev OY (x:GMachine) (k1 k2 k3:Nat):SV := .ag [.v (.bool x.alive), .g k1, .g k2, .g k3]
abbrev FR (x:GTx) (k1 k2:Nat):SV := .ag [.v (.int .i64 x.id), .v (.int .i64 x.home), .v (.int .i64 x.phase), .v (.int .i64 x.done), .g k1, .g k2, .v (.int .i64 x.stamp)]
abbrev iH (x:GCluster) (k1 k2 k3:Nat):SV := .ag [.v (.int .i64 x.config), .v (.int .i64 x.clock), .g k1, .g k2, .g k3, .v (.bool x.lost)]
end
section
abbrev wB:V := .v (.slice none 0 0)
abbrev MkT (P:Program) (f:Nat) (args:List SV) (t:GTx):Prop:=Con P f [] args [] (fun _:Unit=>True) (fun _=>[FR t 901 902]) fun _=>[(901,bE 5 cR Y8 t.reads),(902,bE 5 cH Y7 t.sets)]
abbrev MkR (P:Program) (f:Nat) (args:List SV) (t:GRecord):Prop:=Con P f [] args [] (fun _:Unit=>True) (fun _=>[RG t 901]) fun _=>[(901,bE 5 cH Y7 t.sets)]
abbrev YS (P:Program) (f:Nat) (args:List SV) (m:GMachine):Prop:=Con P f [] args [] (fun _:Unit=>True) (fun _=>[OY m 901 902 903]) fun _=>[(901,bE 2 dY ZA m.copies),(902,bE 4 cM ZB m.log),(903,bE 1 bL 0 m.cleared)]
abbrev KM (P:Program) (f:Nat) (args:List SV) (c:GCluster):Prop:=Con P f [] args [] (fun _:Unit=>True) (fun _=>[iH c 901 902 903]) fun _=>[(901,bE 1 cN Y3 c.places),(902,bE 4 bQ Y4 c.machines),(903,bE 7 cTx Y5 c.txs)]
theorem x5 (t:GTx) (h1:t.reads.length≤1048576) (h2:t.sets.length≤1048576):MkT Tryz.prog 73 [vR (cTx t)] t:=by
 refine aD Tryz.func73 fun B0 r_ D_ w0=>?_
 refine aE ?_
 refine aL 3 (fun i=>cR (([]:List GNote).getD i Y8)) (fun i hi=>absurd hi (Nat.not_lt_zero _)) (mu1:=[]) ?_
 refine aM ?_
 refine qI TT_ok 3 901 rfl rfl rfl rfl rfl rfl rfl rfl rfl rfl rfl rfl ⟨by simp;omega,by unfold maxL;omega⟩ ?_
 refine aM ?_
 refine aL 8 (fun i=>cH (([]:List GSet).getD i Y7)) (fun i hi=>absurd hi (Nat.not_lt_zero _)) (mu1:=[]) ?_
 refine aM ?_
 refine qI TT_ok 8 902 rfl rfl rfl rfl rfl rfl rfl rfl rfl rfl rfl rfl ⟨by simp;omega,by unfold maxL;omega⟩ ?_
 refine aM ?_
 refine aC (()) [(2,some 57)] ?_ ?_ ?_
 ·exact ZF _
 ·exact ⟨⟨_,rfl,o7 (ys:=([]:List GNote)) (by simp)⟩,⟨_,rfl,o7 (ys:=([]:List GSet)) (by simp)⟩,trivial⟩
 ·trivial
theorem OX (x:GRecord) (h1:x.sets.length≤1048576):MkR Tryz.prog 222 [vR (cM x)] x:=by
 refine aD Tryz.func222 fun B0 r_ D_ w0=>?_
 refine aE ?_
 refine aL 3 (fun i=>cH (([]:List GSet).getD i Y7)) (fun i hi=>absurd hi (Nat.not_lt_zero _)) (mu1:=[]) ?_
 refine aM ?_
 refine qI TT_ok 3 901 rfl rfl rfl rfl rfl rfl rfl rfl rfl rfl rfl rfl ⟨by simp;omega,by unfold maxL;omega⟩ ?_
 refine aM ?_
 refine aC (()) [(2,some 165)] ?_ ?_ ?_
 ·exact ZF _
 ·exact ⟨⟨_,rfl,o7 (ys:=([]:List GSet)) (by simp)⟩,trivial⟩
 ·trivial
theorem S0 (m:GMachine) (hb:D.bds eA (bQ m)):YS Tryz.prog 208 [vR (bQ m)] m:=by
 have b1:m.copies.length≤1048576:=hb.2.1.1
 have b2:m.log.length≤1048576:=hb.2.2.1.1
 have b3:m.cleared.length≤1048576:=hb.2.2.2.1.1
 refine aD Tryz.func208 fun B0 r_ D_ w0=>?_
 refine d5 TT_ok rfl ?_
 refine aS 1 fun r_=>?_
 refine FG ?_
 refine T_cut [(1,vP (bQ m)),(2, .a (.p 2 0)),(3, .a (.p 3 0))] [(2, .row [.v (.bool false),wB,wB,wB]),(3, .row [.v (.bool m.alive),wB,wB, .g 11]),(11,bE 1 bL 0 m.cleared)] ?_ fun key=>?_
 ·refine aT ?_
  refine a9 (aU 3 1 2 (fun i=>dY (([]:List GCopy).getD i ZA))) ?_
  refine a9 (aU 3 2 4 (fun i=>cM (([]:List GRecord).getD i ZB))) ?_
  refine a9 (aV 3 1 31) ?_
  refine a9 (aV 3 2 32) ?_
  refine aJ (ι:=Nat) (fun i=>[(4,vI i)]) (fun i=>[(31,bE 2 dY ZA (m.copies.take i)),(3, .row [.v (.bool m.alive), .g 31, .g 32, .g 11])]) (fun i=>i≤m.copies.length) (fun i=>m.copies.length - i) 0 [31,3] [31] (Nat.zero_le _) ?_
  intro i h1
  refine aE ?_
  refine aH (fun e=>?_) (fun e=>?_)
  ·have hi:i<m.copies.length:=by omega
   have hl:(m.copies.take i).length=i:=by rw [List.length_take];omega
   refine aE ?_
   refine aW [31] [0,1,2,3,4,5,6,7,8,9,10,11,12,13,14,15,16,17,18,19] fun B0 H0=>?_
   refine aX 14 (ZG 900 34 (tX (m.copies.getD i ZA).cells (hb.2.1.2 i hi).2.1.1)) fun _ _=>?_
   refine aY [15,16,17,18,19] ?_
   refine bB 16 rfl (by kernel_rfl) (dK TT_ok 36 (fun _=>dY (m.copies.getD i ZA)) rfl rfl rfl rfl rfl rfl rfl (fun j hj=>by rcases j with _ | j <;>first | rfl | omega) (mu1:=[(34, .arr 0 0 fun _=>[])]) rfl rfl rfl (bA ?_))
   refine bB 17 rfl (by kernel_rfl) (dE TT_ok 31 36 37 rfl rfl rfl rfl rfl rfl rfl rfl rfl rfl rfl rfl ⟨by show ((m.copies.take i).length+1) * 32≤_;omega,by unfold maxL;omega⟩ (bA ?_))
   refine aY [18,19] ?_
   refine d7 19 rfl (by kernel_rfl) (by kernel_rfl) (aR (eX [] fun B0 H0=>?_))
   refine aN ?_
   refine bC (bH 31 37) ?_
   exact bF (i+1) hi (by omega) wF ⟨⟨_,rfl,cX (x:=m.copies.getD i ZA) (b7 hi) rfl⟩,wM⟩
  have hi:i=m.copies.length:=by omega
  subst hi
  rw [List.take_length]
  refine aE ?_
  refine aJ (ι:=Nat) (fun i=>[(5,vI i)]) (fun i=>[(32,bE 4 cM ZB (m.log.take i)),(3, .row [.v (.bool m.alive), .g 31, .g 32, .g 11])]) (fun i=>i≤m.log.length) (fun i=>m.log.length - i) 0 [32,3] [32] (Nat.zero_le _) ?_
  intro i h1
  refine aE ?_
  refine aH (fun e=>?_) (fun e=>?_)
  ·have hi:i<m.log.length:=by omega
   have hl:(m.log.take i).length=i:=by rw [List.length_take];omega
   refine aE ?_
   refine aW [32] [0,1,2,3,4,5,6,7,8,9,10,11] fun B0 H0=>?_
   refine aX 7 (ZG 901 53 (OX (m.log.getD i ZB) (hb.2.2.1.2 i hi).2.2.2.1.1)) fun _ _=>?_
   refine bB 8 rfl (by kernel_rfl) (dK TT_ok 54 (fun _=>cM (m.log.getD i ZB)) rfl rfl rfl rfl rfl rfl rfl (fun j hj=>by rcases j with _ | j <;>first | rfl | omega) (mu1:=[(53, .arr 0 0 fun _=>[])]) rfl rfl rfl (bA ?_))
   refine bB 9 rfl (by kernel_rfl) (dE TT_ok 32 54 55 rfl rfl rfl rfl rfl rfl rfl rfl rfl rfl rfl rfl ⟨by show ((m.log.take i).length+1) * 48≤_;omega,by unfold maxL;omega⟩ (bA ?_))
   refine aY [10,11] ?_
   refine d7 11 rfl (by kernel_rfl) (by kernel_rfl) (aR (eX [] fun B0 H0=>?_))
   refine aN ?_
   refine bC (bH 32 55) ?_
   exact bF (i+1) hi (by omega) wF ⟨⟨_,rfl,cX (x:=m.log.getD i ZB) (b7 hi) rfl⟩,wM⟩
  have hi:i=m.log.length:=by omega
  subst hi
  rw [List.take_length]
  refine aE ?_
  refine a9 (bH 31 901) ?_
  refine a9 (bH 32 902) ?_
  refine a9 (bH 11 903) ?_
  refine aC (()) [(2,some 85)] ?_ ?_ ?_
  ·exact ZF _
  ·exact wM
  ·trivial
 ·refine aW [] [0,1,3,4,2,5,6,7,8] fun B0 H0=>?_
  refine cZ 2 7 rfl rfl (by kernel_rfl) (dK TT_ok 8 (fun i=>bL (([]:List Int).getD i 0)) rfl rfl rfl rfl rfl rfl rfl (fun i hi=>absurd hi (Nat.not_lt_zero _)) (mu1:=[]) rfl rfl rfl (bA ?_)) (aR (bA ?_))
  ·skip
   refine cZ 5 7 rfl rfl (by kernel_rfl) (nN TT_ok 8 11 rfl rfl rfl rfl rfl rfl rfl rfl rfl rfl rfl rfl ⟨by simp;omega,by unfold maxL;omega⟩ (bA ?_)) (aR (bA ?_))
   ·refine aY [6,7,8] ?_
    refine bB 7 rfl (by kernel_rfl) (aR (bA ?_))
    refine bB 8 rfl (by kernel_rfl) (aR (bA ?_))
    exact F1 key wF ⟨⟨_,rfl,ZE _⟩,⟨_,rfl,ZE _⟩,⟨_,rfl,o7 (ys:=([]:List Int)) (by simp)⟩,trivial⟩
   ·skip
    refine bB 5 rfl (by kernel_rfl) (nN TT_ok 8 11 rfl rfl rfl rfl rfl rfl rfl rfl rfl rfl rfl rfl ⟨by simp;omega,by unfold maxL;omega⟩ (bA ?_))
    refine aY [6,8] ?_
    refine bB 8 rfl (by kernel_rfl) (aR (bA ?_))
    exact F1 key wF ⟨⟨_,rfl,ZE _⟩,⟨_,rfl,ZE _⟩,⟨_,rfl,o7 (ys:=([]:List Int)) (by simp)⟩,trivial⟩
  ·skip
   refine bB 2 rfl (by kernel_rfl) (dK TT_ok 8 (fun i=>bL (([]:List Int).getD i 0)) rfl rfl rfl rfl rfl rfl rfl (fun i hi=>absurd hi (Nat.not_lt_zero _)) (mu1:=[]) rfl rfl rfl (bA ?_))
   refine bB 5 rfl (by kernel_rfl) (nN TT_ok 8 11 rfl rfl rfl rfl rfl rfl rfl rfl rfl rfl rfl rfl ⟨by simp;omega,by unfold maxL;omega⟩ (bA ?_))
   refine aY [6,8] ?_
   refine bB 8 rfl (by kernel_rfl) (aR (bA ?_))
   exact F1 key wF ⟨⟨_,rfl,ZE _⟩,⟨_,rfl,ZE _⟩,⟨_,rfl,o7 (ys:=([]:List Int)) (by simp)⟩,trivial⟩
end
end Go.Proofs.YthpjoddhlkcciaaGreat
