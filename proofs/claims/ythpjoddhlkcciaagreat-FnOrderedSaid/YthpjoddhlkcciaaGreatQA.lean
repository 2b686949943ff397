/-
  What the claim leans on, made short by program.
-/
import Derived.WalkKit
import Derived.KernelRfl
import Derived.Deep.LoopGhost
namespace Go.Proofs.YthpjoddhlkcciaaGreat
open Go Go.RowKit
set_option linter.unusedVariables false
set_option linter.unusedSimpArgs false
set_option maxRecDepth 4000
section
section
abbrev PH:=Nat→Nat→Option Value
def PH.le (h k:PH):Prop := ∀ b o v,h b o=some v→k b o=some v
def PH.dj (h k:PH):Prop := ∀ b o,h b o=none∨k b o=none
def PH.emp:PH:=fun _ _=>none
def PH.un (h k:PH):PH:=fun b o=>match h b o with
 | some v=>some v
 | none=>k b o
def Fit (h:PH) (w:World):Prop := ∀ b o v,h b o=some v→w.cell? ⟨b,o,none⟩=some v∧w.frozen? ⟨b,o,none⟩=false
theorem PH.le_refl (h:PH):h.le h:=fun _ _ _ e=>e
theorem PH.le_trans {a b c:PH} (h:a.le b) (k:b.le c):a.le c:=fun x y v e=>k x y v (h x y v e)
theorem PH.emp_le (h:PH):PH.emp.le h:=fun _ _ _ e=>by cases e
theorem PH.dj_symm {h k:PH} (d:h.dj k):k.dj h:=fun b o=>(d b o).symm
theorem PH.dj_emp (h:PH):h.dj PH.emp:=fun _ _ => .inr rfl
theorem PH.emp_dj (h:PH):PH.emp.dj h:=fun _ _ => .inl rfl
theorem PH.dj_le {h k h' k':PH} (d:h.dj k) (l:h'.le h) (m:k'.le k):h'.dj k':=fun b o=>by
 rcases d b o with e | e
 ·left
  cases x:h' b o with
  | none=>rfl
  | some v=>rw [l b o v x] at e;cases e
 ·right
  cases x:k' b o with
  | none=>rfl
  | some v=>rw [m b o v x] at e;cases e
theorem PH.le_un_left (h k:PH):h.le (h.un k):=fun b o v e=>by simp [PH.un,e]
theorem PH.le_un_right {h k:PH} (d:h.dj k):k.le (h.un k):=fun b o v e=>by
 rcases d b o with x | x
 ·simp [PH.un,x,e]
 ·rw [x] at e;cases e
theorem PH.un_le {h k m:PH} (a:h.le m) (b:k.le m):(h.un k).le m:=fun x y v e=>by
 cases hx:h x y with
 | some u=>simp [PH.un,hx] at e;subst e;exact a _ _ _ hx
 | none=>simp [PH.un,hx] at e;exact b _ _ _ e
theorem PH.un_dj {h k m:PH} (a:h.dj m) (b:k.dj m):(h.un k).dj m:=fun x y=>by
 rcases a x y with e | e
 ·rcases b x y with f | f
  ·left;simp [PH.un,e,f]
  ·exact .inr f
 ·exact .inr e
theorem PH.dj_un {h k m:PH} (a:m.dj h) (b:m.dj k):m.dj (h.un k):=PH.dj_symm (PH.un_dj (PH.dj_symm a) (PH.dj_symm b))
theorem PH.un_ne {h k:PH} {b o:Nat} (e:(h.un k) b o≠none):h b o≠none∨k b o≠none:=by
 cases hx:h b o with
 | some u=>exact .inl (by simp)
 | none=>right;simpa [PH.un,hx] using e
theorem Fit.emp (w:World):Fit PH.emp w:=fun _ _ _ e=>by cases e
theorem Fit.le {h k:PH} {w:World} (f:Fit k w) (l:h.le k):Fit h w:=fun b o v e=>f b o v (l b o v e)
theorem Fit.un {h k:PH} {w:World} (f:Fit h w) (g:Fit k w):Fit (h.un k) w:=fun b o v e=>by
 cases hx:h b o with
 | some u=>simp [PH.un,hx] at e;subst e;exact f _ _ _ hx
 | none=>simp [PH.un,hx] at e;exact g _ _ _ e
theorem Fit.lt {h:PH} {w:World} (f:Fit h w) {b o:Nat} (e:h b o≠none):b<w.heap.size:=by
 cases hx:h b o with
 | none=>exact absurd hx e
 | some v=>exact World.block_lt_of_cell? w _ (f b o v hx).1
def BKeep (D:Nat→Prop) (o o':Option Obj):Prop :=
 o'=o∨∃ c c' T fr,o=some (.cells c T fr)∧o'=some (.cells c' T fr)∧c'.size=c.size∧∀ j,¬ D j→c'[j]? = c[j]?
structure Keep (D:Nat→Nat→Prop) (w w':World):Prop where
 os:w'.os=w.os
 tape:w'.tape=w.tape
 output:w'.output=w.output
 size:w.heap.size≤w'.heap.size
 block:∀ b,b<w.heap.size→BKeep (D b) w.heap[b]? w'.heap[b]?
theorem BKeep.mono {D E:Nat→Prop} {o o':Option Obj} (h:BKeep D o o') (l:∀ j,D j→E j):BKeep E o o':=by
 rcases h with h | ⟨c,c',T,fr,h1,h2,h3,h4⟩
 ·exact .inl h
 ·exact .inr ⟨c,c',T,fr,h1,h2,h3,fun j hj=>h4 j fun x=>hj (l j x)⟩
theorem BKeep.trans {D:Nat→Prop} {a b c:Option Obj} (h:BKeep D a b) (k:BKeep D b c):BKeep D a c:=by
 rcases h with rfl | ⟨x,y,T,fr,h1,h2,h3,h4⟩
 ·exact k
 ·rcases k with rfl | ⟨x',y',T',fr',k1,k2,k3,k4⟩
  ·exact .inr ⟨x,y,T,fr,h1,h2,h3,h4⟩
  ·rw [h2] at k1
   injection k1 with k1
   injection k1 with e1 e2 e3
   subst e1;subst e2;subst e3
   exact .inr ⟨x,y',T,fr,h1,k2,k3.trans h3,fun j hj=>(k4 j hj).trans (h4 j hj)⟩
def noD:Nat→Nat→Prop:=fun _ _=>False
theorem Keep.refl (D:Nat→Nat→Prop) (w:World):Keep D w w:=⟨rfl,rfl,rfl,Nat.le_refl _,fun _ _ => .inl rfl⟩
theorem Keep.mono {D E:Nat→Nat→Prop} {w w':World} (h:Keep D w w') (l:∀ b,b<w.heap.size→∀ j,D b j→E b j):Keep E w w' :=
 ⟨h.os,h.tape,h.output,h.size,fun b hb=>(h.block b hb).mono (l b hb)⟩
theorem Keep.trans {D E:Nat→Nat→Prop} {a b c:World} (h:Keep D a b) (k:Keep E b c) (l:∀ x y,E x y→D x y∨a.heap.size≤x):Keep D a c :=
 ⟨k.os.trans h.os,k.tape.trans h.tape,k.output.trans h.output,Nat.le_trans h.size k.size,fun x hx=>(h.block x hx).trans ((k.block x (Nat.lt_of_lt_of_le hx h.size)).mono fun j hj=>(l x j hj).resolve_right (by omega))⟩
theorem Keep.of_below {w w':World} (h:Below w.heap.size w w') (D:Nat→Nat→Prop):Keep D w w' :=
 ⟨h.os,h.tape,h.output,h.size,fun b hb => .inl (h.block b hb)⟩
theorem Keep.below {w w':World} (h:Keep noD w w'):Below w.heap.size w w':=by
 refine ⟨h.os,h.tape,h.output,h.size,fun b hb=>?_⟩
 rcases h.block b hb with e | ⟨c,c',T,fr,h1,h2,h3,h4⟩
 ·exact e
 ·have:c'=c:=Array.ext_getElem? fun j=>h4 j id
  rw [h1,h2,this]
theorem Keep.drew (w:World):Keep noD w { w with drawn:=w.drawn+1 }:=⟨rfl,rfl,rfl,Nat.le_refl _,fun _ _ => .inl rfl⟩
theorem Keep.cell {D:Nat→Nat→Prop} {w w':World} (h:Keep D w w') {b o:Nat} {v:Value} (c:w.cell? ⟨b,o,none⟩=some v) (f:w.frozen? ⟨b,o,none⟩=false) (n:¬ D b o) :
  w'.cell? ⟨b,o,none⟩=some v∧w'.frozen? ⟨b,o,none⟩=false:=by
 have hb:=World.block_lt_of_cell? w _ c
 rcases h.block b hb with e | ⟨x,y,T,fr,h1,h2,h3,h4⟩
 ·simp only [World.cell?,World.frozen?,e] at c f ⊢
  exact ⟨c,f⟩
 ·simp only [World.cell?,World.frozen?,h1,h2] at c f ⊢
  refine ⟨?_,f⟩
  simp at c ⊢
  rw [h4 o n];exact c
theorem Fit.keep {h:PH} {D:Nat→Nat→Prop} {w w':World} (f:Fit h w) (k:Keep D w w') (n:∀ b o,h b o≠none→¬ D b o):Fit h w':=fun b o v e =>
 k.cell (f b o v e).1 (f b o v e).2 (n b o (by rw [e];simp))
theorem Fit.ext {h:PH} {w w':World} (f:Fit h w) (k:Below w.heap.size w w'):Fit h w':=f.keep (Keep.of_below k noD) fun _ _ _ x=>x
def PH.row (b:Nat) (off:Nat) (l:List Value):PH:=fun x y=>if x=b∧off≤y then l[y - off]? else none
theorem PH.row_ne {b off:Nat} {l:List Value} {x y:Nat} (h:PH.row b off l x y≠none):x=b:=by
 unfold PH.row at h
 split at h
 ·rename_i hx;exact hx.1
 ·exact absurd rfl h
theorem PH.row_at {b off:Nat} {l:List Value} (j:Nat):PH.row b off l b (off+j)=l[j]? := by simp [PH.row]
theorem OT (w:World) (c:Array Value) (T:TypeId) (o:Nat):(w.alloc (.cells c T)).cell? ⟨w.heap.size,o,none⟩=c[o]? := by
 show (match (w.heap.push (.cells c T))[w.heap.size]? with | some (.cells c _ _)=>if (none:Option Nat).isSome then none else c[o]? | _=>none)=c[o]?
 rw [Array.getElem?_push_size]
 rfl
theorem AV (w:World) (c:Array Value) (T:TypeId) (o:Nat):(w.alloc (.cells c T)).frozen? ⟨w.heap.size,o,none⟩=false:=by
 show (match (w.heap.push (.cells c T))[w.heap.size]? with | some (.cells _ _ (lo,hi))=>decide (lo≤o) && decide (o<hi) | _=>false)=false
 rw [Array.getElem?_push_size]
 simp
theorem Fit.alloc (w:World) (c:List Value) (T:TypeId):Fit (PH.row w.heap.size 0 c) (w.alloc (.cells c.toArray T)):=by
 intro b o v e
 have hb:=PH.row_ne (by rw [e];simp:PH.row w.heap.size 0 c b o≠none)
 subst hb
 have:PH.row w.heap.size 0 c w.heap.size (0+o)=c[o]? := PH.row_at o
 rw [Nat.zero_add] at this
 rw [this] at e
 exact ⟨by rw [OT];simpa using e,AV _ _ _ _⟩
theorem Keep.alloc (w:World) (o:Obj):Keep noD w (w.alloc o):=Keep.of_below ((Below.refl _ _).alloc (Nat.le_refl _) o) noD
theorem Below.ofAlloc (w:World) (o:Obj):Below w.heap.size w (w.alloc o):=(Below.refl _ _).alloc (Nat.le_refl _) o
def PH.upd (h:PH) (b o:Nat) (v:Value):PH:=fun x y=>if x=b∧y=o then some v else h x y
theorem PH.upd_same (h:PH) (b o:Nat) (v:Value):h.upd b o v b o=some v:=by simp [PH.upd]
theorem PH.upd_other (h:PH) {b o x y:Nat} (v:Value) (n:¬ (x=b∧y=o)):h.upd b o v x y=h x y:=by simp [PH.upd,n]
theorem JP (w:World) {b o:Nat} {u:Value} (v:Value) (c:w.cell? ⟨b,o,none⟩=some u):(w.setCell ⟨b,o,none⟩ v).cell? ⟨b,o,none⟩=some v:=by
 have hb:=World.block_lt_of_cell? w _ c
 simp only [World.cell?] at c
 simp only [World.cell?,World.setCell,Array.getElem?_modify,if_true]
 cases hx:w.heap[b]? with
 | none=>simp [hx] at c
 | some x =>
  cases x <;>simp [hx] at c ⊢
  have:=(Array.getElem?_eq_some_iff.1 c).1
  simp [this]
theorem AX (w:World) (b o:Nat) (v:Value):Keep (fun x y=>x=b∧y=o) w (w.setCell ⟨b,o,none⟩ v):=by
 refine ⟨rfl,rfl,rfl,by simp [World.setCell],fun x hx=>?_⟩
 simp only [World.setCell,Array.getElem?_modify]
 by_cases h:b=x
 ·subst h
  rw [if_pos rfl]
  cases hy:w.heap[b]? with
  | none=>left;rfl
  | some y =>
   cases y with
   | cells c T fr =>
    right
    exact ⟨c,c.setIfInBounds o v,T,fr,rfl,rfl,by simp,fun j hj=>by
     have:o≠j:=fun e=>hj ⟨rfl,e.symm⟩
     simp [Array.getElem?_setIfInBounds_ne this]⟩
   | _=>left;rfl
 ·rw [if_neg h];left;rfl
theorem FW (w:World) (b o:Nat) (v:Value) (x y:Nat):(w.setCell ⟨b,o,none⟩ v).frozen? ⟨x,y,none⟩=w.frozen? ⟨x,y,none⟩:=by
 simp only [World.frozen?,World.setCell,Array.getElem?_modify]
 by_cases h:b=x
 ·subst h
  rw [if_pos rfl]
  cases hy:w.heap[b]? with
  | none=>rfl
  | some z=>cases z <;>rfl
 ·rw [if_neg h]
theorem Fit.upd {h:PH} {w:World} (f:Fit h w) {b o:Nat} {u:Value} (e:h b o=some u) (v:Value):Fit (h.upd b o v) (w.setCell ⟨b,o,none⟩ v):=by
 intro x y z hz
 by_cases hxy:x=b∧y=o
 ·obtain ⟨rfl,rfl⟩:=hxy
  rw [PH.upd_same] at hz
  injection hz with hz
  subst hz
  exact ⟨JP w v (f x y u e).1,by rw [FW];exact (f x y u e).2⟩
 ·rw [PH.upd_other _ _ hxy] at hz
  exact (AX w b o v).cell (f x y z hz).1 (f x y z hz).2 hxy
def EndOk (w:World) (b:Nat):Prop := ∀ c T fr,w.heap[b]? = some (.cells c T fr)→w.frozen? ⟨b,c.size,none⟩=false
theorem EndOk.keep {D:Nat→Nat→Prop} {w w':World} {b:Nat} (h:EndOk w b) (k:Keep D w w') (hb:b<w.heap.size):EndOk w' b:=by
 intro c T fr e
 rcases k.block b hb with e2 | ⟨x,y,T2,fr2,h1,h2,h3,_⟩
 ·rw [e2] at e
  have:=h c T fr e
  simp only [World.frozen?,e2] at this ⊢
  exact this
 ·rw [h2] at e
  injection e with e
  injection e with e1 e3 e4
  subst e1;subst e3;subst e4
  have:=h x T2 fr2 h1
  simp only [World.frozen?,h1,h2,h3] at this ⊢
  exact this
structure FitO (h:PH) (w:World):Prop where
 fit:Fit h w
 ends:∀ b o,h b o≠none→EndOk w b
instance {h:PH} {w:World}:CoeOut (FitO h w) (Fit h w):=⟨FitO.fit⟩
theorem FitO.emp (w:World):FitO PH.emp w:=⟨Fit.emp w,fun _ _ e=>absurd rfl e⟩
theorem PH.le_ne {h k:PH} (l:h.le k) {b o:Nat} (e:h b o≠none):k b o≠none:=by
 cases x:h b o with
 | none=>exact absurd x e
 | some v=>rw [l b o v x];simp
theorem FitO.le {h k:PH} {w:World} (f:FitO k w) (l:h.le k):FitO h w:=⟨f.fit.le l,fun b o e=>f.ends b o (PH.le_ne l e)⟩
theorem FitO.un {h k:PH} {w:World} (f:FitO h w) (g:FitO k w):FitO (h.un k) w:=⟨f.fit.un g.fit,fun b o e=>(PH.un_ne e).elim (f.ends b o) (g.ends b o)⟩
theorem FitO.lt {h:PH} {w:World} (f:FitO h w) {b o:Nat} (e:h b o≠none):b<w.heap.size:=f.fit.lt e
theorem FitO.turn {h h':PH} {D:Nat→Nat→Prop} {w w':World} (f:FitO h w) (f':Fit h' w') (k:Keep D w w') (dom:∀ b o,h' b o≠none→∃ o',h b o'≠none):FitO h' w':=⟨f',fun b o e=>by
 obtain ⟨o',e'⟩:=dom b o e
 exact (f.ends b o' e').keep k (f.lt e')⟩
theorem FitO.keep {h:PH} {D:Nat→Nat→Prop} {w w':World} (f:FitO h w) (k:Keep D w w') (n:∀ b o,h b o≠none→¬ D b o):FitO h w':=f.turn (f.fit.keep k n) k fun _ o e=>⟨o,e⟩
theorem FitO.ext {h:PH} {w w':World} (f:FitO h w) (k:Below w.heap.size w w'):FitO h w':=f.keep (Keep.of_below k noD) fun _ _ _ x=>x
theorem EndOk.alloc (w:World) (c:Array Value) (T:TypeId):EndOk (w.alloc (.cells c T)) w.heap.size:=fun _ _ _ _=>AV _ _ _ _
theorem FitO.alloc (w:World) (c:List Value) (T:TypeId):FitO (PH.row w.heap.size 0 c) (w.alloc (.cells c.toArray T)):=⟨Fit.alloc w c T,fun b o e=>by
 have hb:=PH.row_ne e
 subst hb
 exact EndOk.alloc _ _ _⟩
end
section
def maxL:Nat:=9223372036854775807
inductive D where
 | v (x:Value)
 | sl (sz n:Nat) (f:Nat→List D)
 | pt (l:List D) (o:Nat)
def Parts (h:PH) (b o len:Nat) (H:Nat→PH):Prop:=(∀ i,(H i).le h)∧(∀ i j,i≠j→(H i).dj (H j))∧∀ i x,o≤x→x<o+len→H i b x=none
mutual
def D.rd (h:PH):D→Value→Prop
 | .v x,y=>y=x
 | .sl sz n f,y => ∃ A c,y = .slice A n c∧n≤c∧n≤maxL∧(n=0∨∃ b o,A=some ⟨b,o,none⟩∧∀ i,i<n→∃ row,D.rds h (f i) row∧row.length=sz∧∀ j,j<sz→h b (o+i * sz+j)=row[j]?)
 | .pt l o,y => ∃ b x vs,y = .pointer (some ⟨b,x+o,none⟩)∧D.rds h l vs∧∀ j,j<vs.length→h b (x+j)=vs[j]?
def D.rds (h:PH):List D→List Value→Prop
 | [],ys=>ys=[]
 | x :: r,ys => ∃ y t,ys=y :: t∧D.rd h x y∧D.rds h r t
end
mutual
def D.own (h:PH):D→Value→Prop
 | .v x,y=>y=x
 | .sl sz n f,y => ∃ A c,y = .slice A n c∧n≤c∧n≤maxL∧(c=0∨∃ (b o:Nat) (row:Nat→List Value) (H:Nat→PH),A=some ⟨b,o,none⟩ ∧
   (∀ i,i<n→D.owns (H i) (f i) (row i)∧(row i).length=sz∧∀ j,j<sz→h b (o+i * sz+j)=(row i)[j]?) ∧
   (∀ i,n≤i→i<c→∀ j,j<sz→h b (o+i * sz+j)≠none)∧Parts h b o (c * sz) H)
 | .pt _ _,_=>False
def D.owns (h:PH):List D→List Value→Prop
 | [],ys=>ys=[]
 | x :: r,ys => ∃ y t h1 h2,ys=y :: t∧h1.le h∧h2.le h∧h1.dj h2∧D.own h1 x y∧D.owns h2 r t
end
theorem Parts.mono {h k:PH} {b o len:Nat} {H:Nat→PH} (p:Parts h b o len H) (l:h.le k):Parts k b o len H:=⟨fun i=>PH.le_trans (p.1 i) l,p.2⟩
theorem iS {h k:PH} (l:h.le k) {b o j sz:Nat} {row:List Value} (hl:row.length=sz) (hj:j<sz) (e:h b o=row[j]?):k b o=row[j]? := by
 rw [List.getElem?_eq_getElem (by omega)] at e ⊢
 exact l _ _ _ e
theorem le_ne {h k:PH} (l:h.le k) {b o:Nat} (e:h b o≠none):k b o≠none:=by
 cases hx:h b o with
 | none=>exact absurd hx e
 | some u=>rw [l _ _ _ hx];simp
mutual
theorem D.rd_mono {h k:PH} (l:h.le k):∀ (x:D) {y:Value},D.rd h x y→D.rd k x y
 | .v x,y,e=>e
 | .sl sz n f,y,e=>by
  obtain ⟨A,c,e1,e2,e3,e4⟩:=e
  refine ⟨A,c,e1,e2,e3,e4.imp id fun ⟨b,o,e5,e6⟩=>⟨b,o,e5,fun i hi=>?_⟩⟩
  obtain ⟨row,r1,r2,r3⟩:=e6 i hi
  exact ⟨row,D.rds_mono l (f i) r1,r2,fun j hj=>iS l r2 hj (r3 j hj)⟩
 | .pt m o,y,e=>by
  obtain ⟨b,x,vs,e1,e2,e3⟩:=e
  exact ⟨b,x,vs,e1,D.rds_mono l m e2,fun j hj=>iS l rfl hj (e3 j hj)⟩
theorem D.rds_mono {h k:PH} (l:h.le k):∀ (x:List D) {y:List Value},D.rds h x y→D.rds k x y
 | [],y,e=>e
 | x :: r,y,e=>by
  obtain ⟨a,t,e1,e2,e3⟩:=e
  exact ⟨a,t,e1,D.rd_mono l x e2,D.rds_mono l r e3⟩
end
mutual
theorem D.own_mono {h k:PH} (l:h.le k):∀ (x:D) {y:Value},D.own h x y→D.own k x y
 | .v x,y,e=>e
 | .sl sz n f,y,e=>by
  obtain ⟨A,c,e1,e2,e3,e4⟩:=e
  refine ⟨A,c,e1,e2,e3,e4.imp id fun ⟨b,o,row,H,e5,e6,e7,e8⟩=>⟨b,o,row,H,e5,fun i hi=>?_,fun i hi hi2 j hj=>le_ne l (e7 i hi hi2 j hj),e8.mono l⟩⟩
  obtain ⟨r1,r2,r3⟩:=e6 i hi
  exact ⟨r1,r2,fun j hj=>iS l r2 hj (r3 j hj)⟩
 | .pt m o,y,e=>e.elim
theorem D.owns_mono {h k:PH} (l:h.le k):∀ (x:List D) {y:List Value},D.owns h x y→D.owns k x y
 | [],y,e=>e
 | x :: r,y,e=>by
  obtain ⟨a,t,h1,h2,e1,e2,e3,e4,e5,e6⟩:=e
  exact ⟨a,t,h1,h2,e1,PH.le_trans e2 l,PH.le_trans e3 l,e4,e5,e6⟩
end
mutual
theorem D.own_rd {h:PH}:∀ (x:D) {y:Value},D.own h x y→D.rd h x y
 | .v x,y,e=>e
 | .sl sz n f,y,e=>by
  obtain ⟨A,c,e1,e2,e3,e4⟩:=e
  refine ⟨A,c,e1,e2,e3,?_⟩
  rcases e4 with rfl | ⟨b,o,row,H,e5,e6,e7,e8⟩
  ·exact .inl (by omega)
  ·refine .inr ⟨b,o,e5,fun i hi=>?_⟩
   obtain ⟨r1,r2,r3⟩:=e6 i hi
   exact ⟨row i,D.rds_mono (e8.1 i) (f i) (D.owns_rds (f i) r1),r2,r3⟩
 | .pt m o,y,e=>e.elim
theorem D.owns_rds {h:PH}:∀ (x:List D) {y:List Value},D.owns h x y→D.rds h x y
 | [],y,e=>e
 | x :: r,y,e=>by
  obtain ⟨a,t,h1,h2,e1,e2,e3,e4,e5,e6⟩:=e
  exact ⟨a,t,e1,D.rd_mono e2 x (D.own_rd x e5),D.rds_mono e3 r (D.owns_rds r e6)⟩
end
theorem D.rds_length {h:PH}:∀ {x:List D} {y:List Value},D.rds h x y→y.length=x.length
 | [],y,e=>by have e:y=[]:=e;rw [e];rfl
 | x :: r,y,e=>by
  obtain ⟨a,t,e1,e2,e3⟩:=e
  rw [e1,List.length_cons,List.length_cons,D.rds_length e3]
theorem D.owns_length {h:PH} {x:List D} {y:List Value} (e:D.owns h x y):y.length=x.length:=D.rds_length (D.owns_rds x e)
inductive Tg where
 | o | r
 | k (n:Nat)
inductive V where
 | v (x:Value)
 | s (q:Tg) (sz n:Nat) (f:Nat→List D)
 | g (k:Nat)
 | p (k o:Nat)
 | pe (k sz:Nat) (i:Int) (o:Nat)
 | sb (k sz:Nat) (lo hi:Int)
 | gl (k n c:Nat)
 | rp (q:Tg) (l:List D) (o:Nat)
 | any
abbrev BE:=Nat→Value
def eL:Value→Bool
 | .agg _=>false
 | .tuple _=>false
 | _=>true
def kC:Value→Nat→Value
 | .pointer (some a),o => .pointer (some (a.add o))
 | x,_=>x
def elP (x:Value) (sz:Nat) (i:Int) (o:Nat):Value:=match x with
 | .slice A _ _ => .pointer (some (((A.getD ⟨0,0,none⟩).add (i.toNat * sz)).add o))
 | x=>x
def sbV (x:Value) (sz lo n:Nat):Value:=match x with
 | .slice A _ c => .slice (if c=lo then A else A.map (·.add (lo * sz))) n (c - lo)
 | x=>x
def D.toV (q:Tg):D→V
 | .v x => .v x
 | .sl sz n f => .s q sz n f
 | .pt l o => .rp q l o
def Zf (r:PH) (H:Nat→PH):Tg→PH
 | .k n=>H n
 | _=>r
def V.rel (B:BE) (Z:Tg→PH):V→Value→Prop
 | .v x,y=>y=x
 | .s q sz n f,y=>D.rd (Z q) (.sl sz n f) y
 | .g k,y=>y=B k∧eL y=true
 | .p k o,y=>y=kC (B k) o∧eL y=true
 | .pe k sz i o,y=>y=elP (B k) sz i o∧eL y=true
 | .sb k sz lo hi,y=>y=sbV (B k) sz lo.toNat (hi - lo).toNat∧eL y=true
 | .gl k n c,y=>y=B k∧eL y=true∧∃ A,y = .slice A n c
 | .rp q l o,y => ∃ b x vs,y = .pointer (some ⟨b,x+o,none⟩)∧D.rds (Z q) l vs∧∀ j,j<vs.length→Z q b (x+j)=vs[j]?
 | .any,_=>True
def V.rels (B:BE) (Z:Tg→PH):List V→List Value→Prop
 | [],ys=>ys=[]
 | x :: r,ys => ∃ y t,ys=y :: t∧x.rel B Z y∧V.rels B Z r t
def V.own (B:BE) (r h:PH):V→Value→Prop
 | .v x,y=>y=x
 | .s q sz n f,y=>(q = .o∧D.own h (.sl sz n f) y)∨(q = .r∧D.rd r (.sl sz n f) y)
 | .g k,y=>y=B k∧eL y=true
 | .p k o,y=>y=kC (B k) o∧eL y=true
 | .pe k sz i o,y=>y=elP (B k) sz i o∧eL y=true
 | .sb k sz lo hi,y=>y=sbV (B k) sz lo.toNat (hi - lo).toNat∧eL y=true
 | .gl k n c,y=>y=B k∧eL y=true∧∃ A,y = .slice A n c
 | .rp q l o,y=>q = .r∧D.rd r (.pt l o) y
 | .any,_=>True
def V.owns (B:BE) (r h:PH):List V→List Value→Prop
 | [],ys=>ys=[]
 | x :: l,ys => ∃ y t h1 h2,ys=y :: t∧h1.le h∧h2.le h∧h1.dj h2∧x.own B r h1 y∧V.owns B r h2 l t
theorem V.rel_mono {B:BE} {Z Z':Tg→PH} (l:∀ q,(Z q).le (Z' q)):∀ {x:V} {y:Value},x.rel B Z y→x.rel B Z' y
 | .v _,_,e=>e
 | .s q sz n f,_,e=>D.rd_mono (l q) (.sl sz n f) e
 | .g _,_,e=>e
 | .p _ _,_,e=>e
 | .pe _ _ _ _,_,e=>e
 | .sb _ _ _ _,_,e=>e
 | .gl _ _ _,_,e=>e
 | .rp q m o,y,e=>by
  obtain ⟨b,x,vs,e1,e2,e3⟩:=e
  exact ⟨b,x,vs,e1,D.rds_mono (l q) m e2,fun j hj=>iS (l q) rfl hj (e3 j hj)⟩
 | .any,_,_=>trivial
theorem V.rels_mono {B:BE} {Z Z':Tg→PH} (l:∀ q,(Z q).le (Z' q)):∀ {x:List V} {y:List Value},V.rels B Z x y→V.rels B Z' x y
 | [],_,e=>e
 | x :: r,_,e=>by
  obtain ⟨a,t,e1,e2,e3⟩:=e
  exact ⟨a,t,e1,V.rel_mono l e2,V.rels_mono l e3⟩
theorem V.own_mono {B:BE} {r r' h h':PH} (lr:r.le r') (l:h.le h'):∀ {x:V} {y:Value},x.own B r h y→x.own B r' h' y
 | .v _,_,e=>e
 | .s q sz n f,_,e=>by
  rcases e with ⟨e1,e2⟩ | ⟨e1,e2⟩
  ·exact .inl ⟨e1,D.own_mono l (.sl sz n f) e2⟩
  ·exact .inr ⟨e1,D.rd_mono lr (.sl sz n f) e2⟩
 | .g _,_,e=>e
 | .p _ _,_,e=>e
 | .pe _ _ _ _,_,e=>e
 | .sb _ _ _ _,_,e=>e
 | .gl _ _ _,_,e=>e
 | .rp q m o,_,e=>⟨e.1,D.rd_mono lr (.pt m o) e.2⟩
 | .any,_,_=>trivial
theorem V.owns_mono {B:BE} {r r':PH} (lr:r.le r'):∀ {x:List V} {y:List Value} {h h':PH},h.le h'→V.owns B r h x y→V.owns B r' h' x y
 | [],_,_,_,_,e=>e
 | x :: m,_,_,_,l,e=>by
  obtain ⟨a,t,h1,h2,e1,e2,e3,e4,e5,e6⟩:=e
  exact ⟨a,t,h1,h2,e1,PH.le_trans e2 l,PH.le_trans e3 l,e4,V.own_mono lr (PH.le_refl _) e5,V.owns_mono lr (PH.le_refl _) e6⟩
theorem V.rels_length {B:BE} {Z:Tg→PH}:∀ {x:List V} {y:List Value},V.rels B Z x y→y.length=x.length
 | [],y,e=>by have e:y=[]:=e;rw [e];rfl
 | x :: r,y,e=>by
  obtain ⟨a,t,e1,e2,e3⟩:=e
  rw [e1,List.length_cons,List.length_cons,V.rels_length e3]
theorem V.owns_length {B:BE} {r:PH}:∀ {x:List V} {y:List Value} {h:PH},V.owns B r h x y→y.length=x.length
 | [],y,_,e=>by have e:y=[]:=e;rw [e];rfl
 | x :: l,y,_,e=>by
  obtain ⟨a,t,h1,h2,e1,_,_,_,_,e6⟩:=e
  rw [e1,List.length_cons,List.length_cons,V.owns_length e6]
theorem V.rels_get {B:BE} {Z:Tg→PH}:∀ {x:List V} {y:List Value},V.rels B Z x y→∀ {j:Nat} {u:V},x[j]? = some u→∃ t,y[j]? = some t∧u.rel B Z t
 | [],_,_,j,u,h=>by simp at h
 | x :: r,y,e,j,u,h=>by
  obtain ⟨a,t,rfl,e2,e3⟩:=e
  cases j with
  | zero=>simp at h;subst h;exact ⟨a,rfl,e2⟩
  | succ j=>simp at h;simpa using V.rels_get e3 h
theorem V.rels_append {B:BE} {Z:Tg→PH}:∀ {x x':List V} {y y':List Value},V.rels B Z x y→V.rels B Z x' y'→V.rels B Z (x ++ x') (y ++ y')
 | [],_,_,_,e,k=>by have e:_=[]:=e;subst e;exact k
 | x :: r,_,_,_,e,k=>by
  obtain ⟨a,t,rfl,e2,e3⟩:=e
  exact ⟨a,t ++ _,rfl,e2,V.rels_append e3 k⟩
def V.tag (q:Tg):V→V
 | .s .o sz n f => .s q sz n f
 | x=>x
theorem V.own_rel {B:BE} {r:PH} {Z:Tg→PH} {q:Tg} {h:PH} (h0:r.le (Z .r)) (hq:h.le (Z q)):∀ {x:V} {y:Value},x.own B r h y→(x.tag q).rel B Z y
 | .v _,_,e=>e
 | .s .o sz n f,_,e=>by
  rcases e with ⟨_,e2⟩ | ⟨e1,_⟩
  ·exact D.rd_mono hq (.sl sz n f) (D.own_rd (.sl sz n f) e2)
  ·cases e1
 | .s .r sz n f,_,e=>by
  rcases e with ⟨e1,_⟩ | ⟨e1,e2⟩
  ·cases e1
  ·exact D.rd_mono h0 (.sl sz n f) e2
 | .s (.k j) sz n f,_,e=>by
  rcases e with ⟨e1,_⟩ | ⟨e1,_⟩ <;>cases e1
 | .g _,_,e=>e
 | .p _ _,_,e=>e
 | .pe _ _ _ _,_,e=>e
 | .sb _ _ _ _,_,e=>e
 | .gl _ _ _,_,e=>e
 | .rp q m o,_,e=>by
  obtain ⟨rfl,e⟩:=e
  exact D.rd_mono h0 (.pt m o) e
 | .any,_,_=>trivial
theorem D.rd_toV {B:BE} {Z:Tg→PH} {q:Tg}:∀ {x:D} {y:Value},D.rd (Z q) x y→(x.toV q).rel B Z y
 | .v _,_,e=>e
 | .sl _ _ _,_,e=>e
 | .pt _ _,_,e=>e
theorem D.rds_toV {B:BE} {Z:Tg→PH} {q:Tg}:∀ {x:List D} {y:List Value},D.rds (Z q) x y→V.rels B Z (x.map (D.toV q)) y
 | [],_,e=>e
 | x :: r,y,e=>by
  obtain ⟨a,t,rfl,e2,e3⟩:=e
  exact ⟨a,t,rfl,D.rd_toV e2,D.rds_toV e3⟩
theorem D.owns_toV {B:BE} {r:PH}:∀ {x:List D} {y:List Value} {h:PH},D.owns h x y→V.owns B r h (x.map (D.toV .o)) y
 | [],_,_,e=>e
 | .v x :: l,y,_,e=>by
  obtain ⟨a,t,h1,h2,e1,e2,e3,e4,e5,e6⟩:=e
  exact ⟨a,t,h1,h2,e1,e2,e3,e4,e5,D.owns_toV e6⟩
 | .sl sz n f :: l,y,_,e=>by
  obtain ⟨a,t,h1,h2,e1,e2,e3,e4,e5,e6⟩:=e
  exact ⟨a,t,h1,h2,e1,e2,e3,e4, .inl ⟨rfl,e5⟩,D.owns_toV e6⟩
 | .pt m o :: l,y,_,e=>by
  obtain ⟨a,t,h1,h2,e1,e2,e3,e4,e5,e6⟩:=e
  exact e5.elim
inductive RD where
 | a (x:D)
 | ag (l:List D)
def RD.rel (h:PH):RD→Value→Prop
 | .a x,y=>D.rd h x y
 | .ag l,y => ∃ vs,y = .agg vs.toArray∧D.rds h l vs
def RD.rels (h:PH):List RD→List Value→Prop
 | [],ys=>ys=[]
 | x :: r,ys => ∃ y t,ys=y :: t∧x.rel h y∧RD.rels h r t
inductive SV where
 | a (x:V)
 | ag (l:List V)
 | fn (f:Nat) (l:List V)
 | fb (φ:List RD→Value→Prop)
 | tu (l:List SV)
 | un
def FB (P:Program) (r:PH) (f:Nat) (caps:List Value) (φ:List RD→Value→Prop):Prop :=
 (∀ args w,(callFunc f args).run P w = .ok (.enter f args) w)∧∀ args x,φ args x→∀ (w:World) (h:PH) (vals:List Value),r.le h→Fit h w→RD.rels h args vals→Calls P f (vals ++ caps).toArray w fun e w'=>e = .returned x∧Below w.heap.size w w'
mutual
def SV.rel (P:Program) (B:BE) (Z:Tg→PH):SV→Value→Prop
 | .a x,y=>x.rel B Z y
 | .ag l,y => ∃ vs,y = .agg vs.toArray∧V.rels B Z l vs
 | .fn f l,y => ∃ vs,y = .func (.func f) #[] vs.toArray∧V.rels B Z l vs
 | .fb φ,y => ∃ f vs,y = .func (.func f) #[] vs.toArray∧FB P (Z .r) f vs φ
 | .tu l,y => ∃ vs,y = .tuple vs.toArray∧SV.rels P B Z l vs
 | .un,y=>y=undef
def SV.rels (P:Program) (B:BE) (Z:Tg→PH):List SV→List Value→Prop
 | [],ys=>ys=[]
 | x :: r,ys => ∃ y t,ys=y :: t∧SV.rel P B Z x y∧SV.rels P B Z r t
end
theorem FB.mono {P:Program} {r r':PH} {f:Nat} {caps:List Value} {φ:List RD→Value→Prop} (h:FB P r f caps φ) (l:r.le r'):FB P r' f caps φ :=
 ⟨h.1,fun args x e w k vals l'=>h.2 args x e w k vals (PH.le_trans l l')⟩
mutual
theorem SV.rel_mono {P:Program} {B:BE} {Z Z':Tg→PH} (l:∀ q,(Z q).le (Z' q)):∀ (x:SV) {y:Value},SV.rel P B Z x y→SV.rel P B Z' x y
 | .a x,_,e=>V.rel_mono l e
 | .ag m,_,e=>by obtain ⟨vs,e1,e2⟩:=e;exact ⟨vs,e1,V.rels_mono l e2⟩
 | .fn f m,_,e=>by obtain ⟨vs,e1,e2⟩:=e;exact ⟨vs,e1,V.rels_mono l e2⟩
 | .fb φ,_,e=>by obtain ⟨f,vs,e1,e2⟩:=e;exact ⟨f,vs,e1,e2.mono (l .r)⟩
 | .tu m,_,e=>by obtain ⟨vs,e1,e2⟩:=e;exact ⟨vs,e1,SV.rels_mono l m e2⟩
 | .un,_,e=>e
theorem SV.rels_mono {P:Program} {B:BE} {Z Z':Tg→PH} (l:∀ q,(Z q).le (Z' q)):∀ (x:List SV) {y:List Value},SV.rels P B Z x y→SV.rels P B Z' x y
 | [],_,e=>e
 | x :: r,_,e=>by
  obtain ⟨a,t,e1,e2,e3⟩:=e
  exact ⟨a,t,e1,SV.rel_mono l x e2,SV.rels_mono l r e3⟩
end
theorem SV.rels_length {P:Program} {B:BE} {Z:Tg→PH}:∀ {x:List SV} {y:List Value},SV.rels P B Z x y→y.length=x.length
 | [],y,e=>by have e:y=[]:=e;rw [e];rfl
 | x :: r,y,e=>by
  obtain ⟨a,t,e1,e2,e3⟩:=e
  rw [e1,List.length_cons,List.length_cons,SV.rels_length e3]
theorem SV.rels_get {P:Program} {B:BE} {Z:Tg→PH}:∀ {x:List SV} {y:List Value},SV.rels P B Z x y→∀ {j:Nat} {u:SV},x[j]? = some u→∃ t,y[j]? = some t∧u.rel P B Z t
 | [],_,_,j,u,h=>by simp at h
 | x :: r,y,e,j,u,h=>by
  obtain ⟨a,t,rfl,e2,e3⟩:=e
  cases j with
  | zero=>simp at h;subst h;exact ⟨a,rfl,e2⟩
  | succ j=>simp at h;simpa using SV.rels_get e3 h
end
section
inductive Ch where
 | row (l:List V)
 | arr (sz n:Nat) (f:Nat→List D)
 | hole (sz n:Nat) (f:Nat→List D) (i:Int) (k2:Nat)
 | ro (sz n:Nat) (f:Nat→List D)
 | rrow (l:List V)
 | rd (sz n:Nat) (f:Nat→List D)
 | rw (P:PH→Prop)
inductive TK where
 | sc | bo | ptr | str | ifc
 | it (k:IntKind)
 | st (l:List (Nat×Nat))
 | slc (e:Nat)
 | ar (n e:Nat)
structure TI where
 id:Nat
 sz:Nat
 by_:Nat
 kind:TK
 zero:Value
 eqf:Bool
def jP:TypeDesc→TK
 | .struct fs => .st (fs.toList.map fun f=>(f.offset,f.type))
 | .slice e => .slc e
 | .array n e => .ar n e
 | .bool => .bo
 | .pointer _ => .ptr
 | .string => .str
 | .int k => .it k
 | .interface _ => .ifc
 | _ => .sc
def G9 (P:Program) (t:TypeId):Bool:=match P.underlying t with
 | some (.struct fs) => !P.stoodInHeld t && !P.eqGuardType P.depth t && fs.all fun f=>f.name != "_"
 | _=>false
def TI.ok (P:Program) (ti:TI):Prop :=
 (P.underlying ti.id).map jP=some ti.kind∧(P.info? ti.id).map (fun i=>(i.size,i.bytes))=some (ti.sz,ti.by_)∧(P.info? ti.id).bind (·.zero)=some ti.zero∧(ti.eqf=true→G9 P ti.id=true)
def TOk (P:Program):List TI→Prop
 | []=>True
 | t :: r=>t.ok P∧TOk P r
abbrev Fr:=List (Nat×SV)
abbrev GF:=List (Nat×Nat×Bool×SV)
abbrev Mu:=List (Nat×Ch)
def mlk {α:Type} (k:Nat):List (Nat×α)→Option α
 | []=>none
 | (j,c) :: r=>bif Nat.beq j k then some c else mlk k r
def tlk (t:Nat):List TI→Option TI
 | []=>none
 | e :: r=>bif Nat.beq e.id t then some e else tlk t r
def glk (t:Nat):GF→Option (Nat×Bool×SV)
 | []=>none
 | (j,c) :: r=>bif Nat.beq j t then some c else glk t r
def cU (t:Nat):GF→Option GF
 | []=>some []
 | (j,d,w,x) :: r=>match cU t r with
  | some l=>bif (Nat.beq j t || Nat.beq d t) then some l else some ((j,d,w,x) :: l)
  | none=>none
def qJ (q:Tg):List D→Option (List V)
 | []=>some []
 | x :: r=>match qJ q r with
  | some l=>match x with
   | .v y=>some (.v y :: l)
   | .sl sz n f=>some (.s q sz n f :: l)
   | .pt m o=>some (.rp q m o :: l)
  | none=>none
def GK:List Value→Option (List V)
 | []=>some []
 | x :: r=>match GK r with
  | some l=>some (.v x :: l)
  | none=>none
def GN (q:Tg):List V→Option (List V)
 | []=>some []
 | x :: r=>match GN q r with
  | some l=>match x with
   | .s .o sz n f=>some (.s q sz n f :: l)
   | .any=>none
   | y=>some (y :: l)
  | none=>none
abbrev Gd:=List (Nat×Bool)
def LP (d:Nat) (w:Bool):Gd→Bool
 | []=>false
 | (d',w') :: r=>bif (Nat.beq d' d && (w' == w)) then true else LP d w r
def ev (g:Gd) (fr:Fr) (gf:GF):Operand→Option SV
 | .tmp t=>match glk t gf with
  | some (d,w,x)=>bif LP d w g then some x else none
  | none=>mlk t fr
 | .const c=>some (.a (.v c))
 | .func f=>some (.fn f [])
 | .global _=>none
def evs (g:Gd) (fr:Fr) (gf:GF):List Operand→Option (List SV)
 | []=>some []
 | x :: r=>match ev g fr gf x,evs g fr gf r with
  | some y,some l=>some (y :: l)
  | _,_=>none
def InR (x:Int):Prop := -9223372036854775808≤x∧x≤9223372036854775807
def oB (x y:Int):Int:=IntKind.i64.wrap ((BitVec.ofInt 64 x &&& BitVec.ofInt 64 y).toNat)
def orI (x y:Int):Int:=IntKind.i64.wrap ((BitVec.ofInt 64 x ||| BitVec.ofInt 64 y).toNat)
def xorI (x y:Int):Int:=IntKind.i64.wrap ((BitVec.ofInt 64 x ^^^ BitVec.ofInt 64 y).toNat)
def anI (x y:Int):Int:=IntKind.i64.wrap ((BitVec.ofInt 64 x &&& ~~~ (BitVec.ofInt 64 y)).toNat)
def lK (x:Int):Int:=IntKind.i64.wrap x
inductive OB where
 | e (p:Prop)
 | o (p:Prop)
def OB.p:OB→Prop
 | .e p=>p
 | .o p=>p
abbrev Ob:=List OB
def jJ:Ob→Prop
 | []=>True
 | x :: r=>x.p∧jJ r
inductive GO where
 | t (p:Prop)
 | g (b w:Bool) (r:GO)
def GO.p:GO→Prop
 | .t p=>p
 | .g b w r=>b=w→r.p
def cB:List GO→Prop
 | []=>True
 | x :: r=>x.p∧cB r
theorem gD {gs:List GO} (h:cB gs:=by first | exact trivial | ((simp only [cB,GO.p,InR]; (repeat' (first | exact trivial | refine And.intro ?_ ?_ | refine fun _=>?_)) <;>first | omega | (simp only [decide_eq_true_eq,decide_eq_false_iff_not,Int.toNat_natCast] at *;omega) | (simp at *;omega)))):cB gs:=h
def cC:List Prop→Prop
 | []=>True
 | x :: r=>x∧cC r
theorem eD {es:List Prop} (h:cC es:=by repeat (first | exact trivial | refine And.intro rfl ?_)):cC es:=h
def PM (o:BinOp) (x y:Int):Option Bool :=
 match o with
 | .eql=>some (x == y)
 | .neq=>some (x != y)
 | .lss=>some (decide (x<y))
 | .leq=>some (decide (x≤y))
 | .gtr=>some (decide (x > y))
 | .geq=>some (decide (x ≥ y))
 | _=>none
def hugeI (y:Int):Bool:=match y with
 | .ofNat n=>Nat.ble 1000000000000000000 n
 | .negSucc n=>Nat.ble 1000000000000000000 n
def YT:Operand→Bool
 | .const (.int _ n)=>hugeI n
 | _=>false
def GM (k:IntKind) (x y:Int):Value×Ob:=match y with
 | .ofNat 1=>(.int k (x / 2),[])
 | .ofNat n=>(.int k (x.fdiv (2 ^ (min n k.bits))),[])
 | .negSucc _=>(.int k 0,[.e False])
def UH (h:Bool) (o:BinOp) (x y:Int):Option (Value×Ob) :=
 match o with
 | .add=>bif h then some (.int .i64 (lK (x+y)),[]) else some (.int .i64 (x+y),[.o (InR (x+y))])
 | .sub=>some (.int .i64 (x - y),[.o (InR (x - y))])
 | .mul=>bif h then some (.int .i64 (lK (x * y)),[]) else some (.int .i64 (x * y),[.o (InR (x * y))])
 | .quo=>some (.int .i64 (x.tdiv y),[.o (y≠0), .o (InR (x.tdiv y))])
 | .rem=>some (.int .i64 (x.tmod y),[.o (y≠0)])
 | .and=>some (.int .i64 (oB x y),[])
 | .or=>some (.int .i64 (orI x y),[])
 | .xor=>some (.int .i64 (xorI x y),[])
 | .andNot=>some (.int .i64 (anI x y),[])
 | .shr=>some (GM .i64 x y)
 | o=>match PM o x y with
  | some b=>some (.bool b,[])
  | none=>none
def UO (o:BinOp) (x y:Int):Option (Value×Ob) :=
 match o with
 | .add=>some (.int .u8 (IntKind.u8.wrap (x+y)),[])
 | .sub=>some (.int .u8 (IntKind.u8.wrap (x - y)),[])
 | o=>match PM o x y with
  | some b=>some (.bool b,[])
  | none=>none
def TL (o:BinOp) (x y:ByteArray):Option (Value×Ob) :=
 match o with
 | .add=>some (.string (x ++ y),[.o (((x.size+y.size:Nat):Int)≤9223372036854775807)])
 | .eql=>some (.bool (x == y),[])
 | .neq=>some (.bool (!(x == y)),[])
 | _=>none
def EF (mu:Mu):V→Option (Bool×Ob)
 | .v (.slice A _ _)=>some (A.isNone,[])
 | _=>none
def mV (mu:Mu):V→Option Bool
 | .p k _=>match mlk k mu with
  | some (.row _)=>some false
  | some (.rrow _)=>some false
  | _=>none
 | .rp _ _ _=>some false
 | .pe k _ _ _=>match mlk k mu with
  | some (.arr ..)=>some false
  | some (.ro ..)=>some false
  | some (.hole ..)=>some false
  | _=>none
 | .v (.pointer A)=>some A.isNone
 | _=>none
def bop (mu:Mu) (h:Bool) (k:TK) (o:BinOp) (x y:V):Option (Value×Ob) :=
 match x,y with
 | .v (.int .i64 a), .v (.int .i64 b)=>UH h o a b
 | .v (.int .u8 a), .v (.int .u8 b)=>UO o a b
 | .v (.int .u64 a), .v (.int _ b)=>match o with
  | .shr=>some (GM .u64 a b)
  | _=>none
 | .v (.int .i64 a), .v (.int .u64 b)=>match o with
  | .shr=>some (GM .i64 a b)
  | _=>none
 | .v (.string a), .v (.string b)=>TL o a b
 | .v (.bool a), .v (.bool b)=>match k,o with
  | .bo, .eql=>some (.bool (a == b),[])
  | .bo, .neq=>some (.bool (!(a == b)),[])
  | _,_=>none
 | x, .v (.slice none _ _)=>match k,o,EF mu x with
  | .slc _, .eql,some (b,q)=>some (.bool b,q)
  | .slc _, .neq,some (b,q)=>some (.bool (!b),q)
  | _,_,_=>none
 | x, .v (.pointer none)=>match k,o,mV mu x with
  | .ptr, .eql,some b=>some (.bool b,[])
  | .ptr, .neq,some b=>some (.bool (!b),[])
  | _,_,_=>none
 | _,_=>none
def qL:Value→List V
 | .agg cs=>cs.toList.map V.v
 | x=>[.v x]
def kA:Value→Option (List V)
 | .agg cs=>GK cs.toList
 | x=>some [.v x]
def SV.cells:SV→Option (List V)
 | .a (.v x)=>kA x
 | .a .any=>none
 | .a x=>some [x]
 | .ag l=>some l
 | _=>none
def SV.agL:SV→Option (List V)
 | .a (.v (.agg cs))=>GK cs.toList
 | .ag l=>some l
 | _=>none
def l8 {α:Type}:List α→Nat→Bool
 | [],0=>true
 | _ :: r,n+1=>l8 r n
 | _,_=>false
def nth {α:Type}:List α→Nat→Option α
 | [],_=>none
 | x :: _,0=>some x
 | _ :: r,n+1=>nth r n
def cut {α:Type}:List α→Nat→Nat→Option (List α)
 | _,0,0=>some []
 | x :: r,0,n+1=>match cut r 0 n with
  | some l=>some (x :: l)
  | none=>none
 | _ :: r,o+1,n=>cut r o n
 | [],_,_=>none
def dU {α:Type}:List α→Nat→List α→Option (List α)
 | l,0,[]=>some l
 | _ :: r,0,y :: ys=>match dU r 0 ys with
  | some l=>some (y :: l)
  | none=>none
 | x :: r,o+1,ys=>match dU r o ys with
  | some l=>some (x :: l)
  | none=>none
 | [],_,_=>none
def qD (ag:Bool):List V→Option SV
 | [x]=>bif ag then some (.ag [x]) else some (.a x)
 | l=>bif ag then some (.ag l) else none
def TI.isAg (ti:TI):Bool:=match ti.kind with
 | .st _=>true
 | .ar _ _=>true
 | _=>false
def tgB (mu:Mu):Tg→Bool
 | .k n=>match mlk n mu with
  | some _=>true
  | none=>false
 | _=>true
def ld (ti:TI) (mu:Mu):SV→Option (SV×Ob)
 | .a (.p k o)=>match mlk k mu with
  | some (.row l)=>match (cut l o ti.sz).bind (GN (.k k)) with
   | some l=>match qD ti.isAg l with
    | some x=>some (x,[])
    | none=>none
   | none=>none
  | some (.rrow l)=>match cut l o ti.sz with
   | some l=>match qD ti.isAg l with
    | some x=>some (x,[])
    | none=>none
   | none=>none
  | _=>none
 | .a (.pe k sz i o)=>match mlk k mu with
  | some (.arr sz' n f)=>match (cut (f i.toNat) o ti.sz).bind (qJ (.k k)) with
   | some l=>match qD ti.isAg l with
    | some x=>some (x,[.e (sz=sz'), .o (0≤i∧i<n)])
    | none=>none
   | none=>none
  | some (.ro sz' n f)=>match (cut (f i.toNat) o ti.sz).bind (qJ .r) with
   | some l=>match qD ti.isAg l with
    | some x=>some (x,[.e (sz=sz'), .o (0≤i∧i<n)])
    | none=>none
   | none=>none
  | _=>none
 | .a (.rp q l o)=>bif tgB mu q then match (cut l o ti.sz).bind (qJ q) with
  | some l=>match qD ti.isAg l with
   | some x=>some (x,[])
   | none=>none
  | none=>none
  else none
 | _=>none
def o6 (TT:List TI) (fs:List (Nat×Nat)):List (Nat×SV)→List V→Option (List V)
 | [],l=>some l
 | (i,x) :: r,l=>match nth fs i,x.cells with
  | some (o,ft),some cs=>match tlk ft TT with
   | some tf=>bif (l8 cs tf.sz) then match dU l o cs with
     | some l'=>o6 TT fs r l'
     | none=>none
    else none
   | none=>none
  | _,_=>none
def F2 (TT:List TI):List (Nat×Nat)→Bool
 | []=>true
 | (_,t) :: r=>match tlk t TT with
  | some _=>F2 TT r
  | none=>false
def kM (g:Gd) (fr:Fr) (gf:GF):List (Nat×Operand)→Option (List (Nat×SV))
 | []=>some []
 | (i,x) :: r=>match ev g fr gf x,kM g fr gf r with
  | some y,some l=>some ((i,y) :: l)
  | _,_=>none
def vsA:List SV→Option (List V)
 | []=>some []
 | .a x :: r=>match vsA r with
  | some l=>some (x :: l)
  | none=>none
 | _ :: _=>none
def slR (mu:Mu):V→Option (Tg×Nat×Nat×(Nat→List D)×Ob)
 | .s q sz n f=>some (q,sz,n,f,[])
 | .g k=>match mlk k mu with
  | some (.arr sz n f)=>some (.k k,sz,n,f,[])
  | some (.ro sz n f)=>some (.r,sz,n,f,[])
  | _=>none
 | .sb k sz lo hi=>match mlk k mu with
  | some (.arr sz' n f)=>some (.k k,sz,(hi - lo).toNat,fun i=>f (lo.toNat+i),[.e (sz=sz'), .o (0≤lo∧lo≤hi∧hi≤n)])
  | _=>none
 | _=>none
def ownA (mu:Mu):V→Option (Nat×Nat×Nat)
 | .g k=>match mlk k mu with
  | some (.arr sz n _)=>some (k,sz,n)
  | _=>none
 | _=>none
def pO (g:Gd) (fr:Fr) (gf:GF) (d:Int):Option Operand→Option Int
 | none=>some d
 | some x=>match ev g fr gf x with
  | some (.a (.v (.int _ i)))=>some i
  | _=>none
def G8 (TT:List TI) (l m:List V):List (Nat×Nat)→Option Bool
 | []=>some true
 | (o,t) :: r=>match tlk t TT,nth l o,nth m o,G8 TT l m r with
  | some ⟨_,1,_, .it k,_,_⟩,some (.v (.int k1 a)),some (.v (.int k2 b)),some z=>match k,k1,k2 with
   | .i64, .i64, .i64=>some (bif (a == b) then z else false)
   | _,_,_=>none
  | some ⟨_,1,_, .bo,_,_⟩,some (.v (.bool a)),some (.v (.bool b)),some z=>some (bif (a == b) then z else false)
  | _,_,_,_=>none
def OR (TT:List TI) (ti:TI) (o:BinOp) (x y:SV):Option Value :=
 match ti.kind,x.agL,y.agL with
 | .st fs,some l,some m=>bif ti.eqf then match G8 TT l m fs,o with
   | some b, .eql=>some (.bool b)
   | some b, .neq=>some (.bool (!b))
   | _,_=>none
  else none
 | _,_,_=>none
def pst (TT:List TI) (fr:Fr) (gf:GF) (mu:Mu) (g:Gd) (o:Op):Option (SV×Ob) :=
 match o with
 | .move x=>match ev g fr gf x with
  | some y=>some (y,[])
  | none=>none
 | .assign x=>match ev g fr gf x with
  | some y=>some (y,[])
  | none=>none
 | .pick c x y=>match ev g fr gf c,c with
  | some (.a (.v (.bool b))), .tmp ct=>match ev ((ct,true) :: g) fr gf x,ev ((ct,false) :: g) fr gf y with
   | some (.a (.v (.bool p))),some (.a (.v (.bool q)))=>some (.a (.v (.bool (bif b then p else q))),[])
   | _,_=>none
  | _,_=>none
 | .nilCheck x=>match ev g fr gf x with
  | some (.a y)=>match mV mu y with
   | some false=>some (.a y,[])
   | _=>none
  | some (.fn f l)=>some (.fn f l,[])
  | some (.fb φ)=>some (.fb φ,[])
  | _=>none
 | .binOp op t x y _=>match ev g fr gf x,ev g fr gf y,tlk t TT with
  | some (.a x'),some (.a y'),some ti=>match bop mu (YT y) ti.kind op x' y' with
   | some (v,q)=>some (.a (.v v),q)
   | none=>match OR TT ti op (.a x') (.a y') with
    | some v=>some (.a (.v v),[])
    | none=>none
  | some x',some y',some ti=>match OR TT ti op x' y' with
   | some v=>some (.a (.v v),[])
   | none=>none
  | _,_,_=>none
 | .unOp op _ x=>match op,ev g fr gf x with
  | .not,some (.a (.v (.bool b)))=>some (.a (.v (.bool (!b))),[])
  | .neg,some (.a (.v (.int .i64 x)))=>some (.a (.v (.int .i64 (0 - x))),[.o (InR (0 - x))])
  | _,_=>none
 | .fieldAddr t x f=>match ev g fr gf x,tlk t TT with
  | some (.a y),some ⟨_,_,_, .st fs,_,_⟩=>match nth fs f with
   | some (d,ft)=>match tlk ft TT with
    | some tf=>bif (Nat.beq tf.sz 0) then none else match y,mV mu y with
     | .p k o,some false=>some (.a (.p k (o+d)),[])
     | .pe k sz i o,some false=>some (.a (.pe k sz i (o+d)),[])
     | .rp q l o,some false=>some (.a (.rp q l (o+d)),[])
     | _,_=>none
    | none=>none
   | none=>none
  | _,_=>none
 | .field t x f=>match ev g fr gf x,tlk t TT with
  | some y,some ⟨_,_,_, .st fs,_,_⟩=>match y.agL,nth fs f with
   | some l,some (d,ft)=>match tlk ft TT with
    | some tf=>match cut l d tf.sz with
     | some l'=>match qD tf.isAg l' with
      | some z=>some (z,[])
      | none=>none
     | none=>none
    | none=>none
   | _,_=>none
  | _,_=>none
 | .indexAddr t x i=>match ev g fr gf x,ev g fr gf i,tlk t TT with
  | some (.a y),some (.a (.v (.int _ j))),some ⟨_,_,_, .slc e,_,_⟩=>match tlk e TT with
   | some te=>match y with
    | .s q sz n f=>some (.a (.rp q (f j.toNat) 0),[.e (sz=te.sz), .o (0≤j∧j<n)])
    | .g k=>match mlk k mu with
     | some (.arr _ n _)=>some (.a (.pe k te.sz j 0),[.o (0≤j∧j<n)])
     | some (.hole _ n _ _ _)=>some (.a (.pe k te.sz j 0),[.o (0≤j∧j<n)])
     | some (.ro _ n _)=>some (.a (.pe k te.sz j 0),[.o (0≤j∧j<n)])
     | _=>none
    | .sb k sz lo hi=>match mlk k mu with
     | some (.arr _ n _)=>some (.a (.pe k te.sz (lo+j) 0),[.e (sz=te.sz), .o (0≤j∧j<hi - lo), .o (0≤lo∧hi≤n)])
     | _=>none
    | _=>none
   | none=>none
  | _,_,_=>none
 | .load t x=>match ev g fr gf x,tlk t TT with
  | some y,some ti=>ld ti mu y
  | _,_=>none
 | .extract x i=>match ev g fr gf x with
  | some (.tu l)=>match nth l i with
   | some v=>some (v,[])
   | none=>none
  | _=>none
 | .build t parts=>match kM g fr gf parts.toList,tlk t TT with
  | some ps,some ⟨_,_,_, .st fs,z,_⟩=>bif F2 TT fs then match (kA z).bind (o6 TT fs ps) with
    | some l=>some (.ag l,[])
    | none=>none
   else none
  | _,_=>none
 | .makeFunc (.func f) first caps=>match first.toList,evs g fr gf caps.toList with
  | [],some l=>match vsA l with
   | some l=>some (.fn f l,[])
   | none=>none
  | _,_=>none
 | .call c=>match c.callee,c.args.toList with
  | .builtin .len,[x]=>match ev g fr gf x,(c.argTypes[0]?).bind (tlk · TT) with
   | some (.a (.s _ _ n _)),some ⟨_,_,_, .slc _,_,_⟩=>some (.a (.v (.int .i64 n)),[])
   | some (.a (.g k)),some ⟨_,_,_, .slc _,_,_⟩=>match mlk k mu with
    | some (.arr _ n _)=>some (.a (.v (.int .i64 n)),[])
    | some (.ro _ n _)=>some (.a (.v (.int .i64 n)),[])
    | some (.hole _ n _ _ _)=>some (.a (.v (.int .i64 n)),[])
    | _=>none
   | some (.a (.sb k _ lo hi)),some ⟨_,_,_, .slc _,_,_⟩=>match mlk k mu with
    | some (.arr ..)=>some (.a (.v (.int .i64 (hi - lo).toNat)),[])
    | _=>none
   | some (.a (.gl _ n _)),some ⟨_,_,_, .slc _,_,_⟩=>some (.a (.v (.int .i64 n)),[])
   | some (.a (.v (.slice _ n _))),some ⟨_,_,_, .slc _,_,_⟩=>some (.a (.v (.int .i64 n)),[])
   | some (.a (.v (.string s))),some ⟨_,_,_, .str,_,_⟩=>some (.a (.v (.int .i64 s.size)),[])
   | _,_=>none
  | .builtin .cap,[x]=>match ev g fr gf x,(c.argTypes[0]?).bind (tlk · TT) with
   | some (.a (.gl _ _ cp)),some ⟨_,_,_, .slc _,_,_⟩=>some (.a (.v (.int .i64 cp)),[])
   | _,_=>none
  | .builtin .max,[x,y]=>match ev g fr gf x,ev g fr gf y with
   | some (.a (.v (.int .i64 a))),some (.a (.v (.int .i64 b)))=>some (.a (.v (.int .i64 (if b > a then b else a))),[])
   | _,_=>none
  | .builtin .min,[x,y]=>match ev g fr gf x,ev g fr gf y with
   | some (.a (.v (.int .i64 a))),some (.a (.v (.int .i64 b)))=>some (.a (.v (.int .i64 (if b<a then b else a))),[])
   | _,_=>none
  | _,_=>none
 | .convert s d x=>match ev g fr gf x,tlk s TT,tlk d TT with
  | some (.a (.v (.int _ n))),some ⟨_,_,_, .it _,_,_⟩,some ⟨_,_,_, .it .i64,_,_⟩=>some (.a (.v (.int .i64 n)),[.o (InR n)])
  | some (.a (.v (.int _ n))),some ⟨_,_,_, .it _,_,_⟩,some ⟨_,_,_, .it .u8,_,_⟩=>some (.a (.v (.int .u8 (IntKind.u8.wrap n))),[])
  | some (.a (.v (.int _ n))),some ⟨_,_,_, .it _,_,_⟩,some ⟨_,_,_, .it .u64,_,_⟩=>some (.a (.v (.int .u64 n)),[.o (0≤n∧n≤18446744073709551615)])
  | _,_,_=>none
 | .index t x i=>match ev g fr gf x,ev g fr gf i,tlk t TT with
  | some (.a (.v (.string s))),some (.a (.v (.int _ j))),some ⟨_,_,_, .str,_,_⟩=>some (.a (.v (.int .u8 ((s.data.toList.getD j.toNat 0).toNat))),[.o (0≤j∧j<s.size)])
  | _,_,_=>none
 | .slice t x lo hi none=>match ev g fr gf x,tlk t TT with
  | some (.a (.v (.string s))),some ⟨_,_,_, .str,_,_⟩=>match pO g fr gf 0 lo,pO g fr gf s.size hi with
   | some a,some b=>some (.a (.v (.string (s.extract a.toNat b.toNat))),[.o (0≤a∧a≤b∧b≤s.size)])
   | _,_=>none
  | some (.a (.gl k n cp)),some ⟨_,_,_, .slc e,_,_⟩=>match tlk e TT,hi with
   | some te,none=>match pO g fr gf 0 lo with
    | some l=>some (.a (.sb k te.sz l n),[.o (0≤l∧l≤n∧n≤cp)])
    | none=>none
   | _,_=>none
  | some (.a y),some ⟨_,_,_, .slc e,_,_⟩=>match ownA mu y,tlk e TT with
   | some (k,sz,n),some te=>match pO g fr gf 0 lo,pO g fr gf n hi with
    | some l,some h=>some (.a (.sb k sz l h),[.e (sz=te.sz), .o (0≤l∧l≤h∧h≤n)])
    | _,_=>none
   | none,some te=>match slR mu y with
    | some (q,sz,n,f,ob)=>match lo with
     | none=>match pO g fr gf n hi with
      | some h=>some (.a (.s q sz h.toNat f), .e (sz=te.sz) :: .o (0≤h∧h≤n) :: ob)
      | none=>none
     | some x=>match pO g fr gf 0 (some x),pO g fr gf n hi with
      | some l,some h=>some (.a (.s q sz (h - l).toNat (fun i=>f (l.toNat+i))), .e (sz=te.sz) :: .o (0≤l∧l≤h∧h≤n) :: ob)
      | _,_=>none
    | none=>none
   | _,none=>none
  | _,_=>none
 | _=>none
def V.usesB (k:Nat):V→Bool
 | .g j=>Nat.beq j k
 | .p j _=>Nat.beq j k
 | .pe j _ _ _=>Nat.beq j k
 | .sb j _ _ _=>Nat.beq j k
 | .gl j _ _=>Nat.beq j k
 | _=>false
def V.usesT (k:Nat):V→Bool
 | .s (.k q) _ _ _=>Nat.beq q k
 | .rp (.k q) _ _=>Nat.beq q k
 | _=>false
def eM (φ:V→Bool):List V→Bool
 | []=>false
 | x :: r=>bif φ x then true else eM φ r
def SV.anyV (φ:V→Bool):SV→Bool
 | .a x=>φ x
 | .ag l=>eM φ l
 | .fn _ l=>eM φ l
 | .tu l=>go l
 | _=>false
where go:List SV→Bool
 | []=>false
 | x :: r=>bif SV.anyV φ x then true else go r
def fW (φ:V→Bool):Fr→Option Fr
 | []=>some []
 | (t,x) :: r=>match fW φ r with
  | some l=>bif x.anyV φ then some ((t, .a .any) :: l) else some ((t,x) :: l)
  | none=>none
def f0 (φ:V→Bool):GF→Option GF
 | []=>some []
 | (t,d,w,x) :: r=>match f0 φ r with
  | some l=>bif x.anyV φ then some ((t,d,w, .a .any) :: l) else some ((t,d,w,x) :: l)
  | none=>none
def fN (φ:V→Bool):Fr→Bool
 | []=>false
 | (_,x) :: r=>bif x.anyV φ then true else fN φ r
def fJ (φ:V→Bool):GF→Bool
 | []=>false
 | (_,_,_,x) :: r=>bif x.anyV φ then true else fJ φ r
def Ch.rowL:Ch→List V
 | .row l=>l
 | .rrow l=>l
 | .hole _ _ _ _ k=>[.p k 0]
 | _=>[]
def lU (φ:V→Bool) (k:Nat):Mu→Bool
 | []=>false
 | (j,c) :: r=>bif Nat.beq j k then lU φ k r else bif eM φ c.rowL then true else lU φ k r
def bD (k:Nat):List Nat→Bool
 | []=>false
 | j :: r=>bif Nat.beq j k then true else bD k r
def mS (k:Nat):Mu→Option Mu
 | []=>some []
 | (j,c) :: r=>match mS k r with
  | some l=>bif Nat.beq j k then some l else some ((j,c) :: l)
  | none=>none
def gB (k:Nat) (c:Ch):Mu→Option Mu
 | []=>some [(k,c)]
 | (j,d) :: r=>bif Nat.beq j k then some ((k,c) :: r) else match gB k c r with
  | some l=>some ((j,d) :: l)
  | none=>none
end
section
theorem XP {α:Type} {k:Nat} {l:List (Nat×α)} {c:α} (h:mlk k l=some c):(k,c) ∈ l:=by
 induction l with
 | nil=>cases h
 | cons x r ih =>
  obtain ⟨j,d⟩:=x
  simp only [mlk] at h
  cases e:Nat.beq j k with
  | true=>rw [e] at h;simp at h;subst h;have:=Nat.eq_of_beq_eq_true e;subst this;exact List.mem_cons_self
  | false=>rw [e] at h;exact List.mem_cons_of_mem _ (ih h)
theorem mY {α:Type}:∀ (l:List α) (n:Nat),nth l n=l[n]?
 | [],_=>by simp [nth]
 | _ :: _,0=>by simp [nth]
 | _ :: r,n+1=>by simp [nth,mY r n]
theorem tK {α:Type}:∀ (l:List α) (o n:Nat) (m:List α),cut l o n=some m→m.length=n∧∀ j,j<n→m[j]? = l[o+j]?
 | l,0,0,m,h=>by
  cases l <;>(simp [cut] at h;subst h;exact ⟨rfl,fun j hj=>absurd hj (by omega)⟩)
 | [],0,n+1,m,h=>by simp [cut] at h
 | [],o+1,n,m,h=>by simp [cut] at h
 | x :: r,0,n+1,m,h=>by
  simp only [cut] at h
  cases e:cut r 0 n with
  | none=>rw [e] at h;cases h
  | some l =>
   rw [e] at h;injection h with h;subst h
   obtain ⟨h1,h2⟩:=tK r 0 n l e
   refine ⟨by simp [h1],fun j hj=>?_⟩
   cases j with
   | zero=>simp
   | succ j=>have:=h2 j (by omega);simp at this ⊢;exact this
 | x :: r,o+1,n,m,h=>by
  simp only [cut] at h
  obtain ⟨h1,h2⟩:=tK r o n m h
  refine ⟨h1,fun j hj=>?_⟩
  rw [h2 j hj,show o+1+j=(o+j)+1 from by omega,List.getElem?_cons_succ]
theorem kS {α:Type}:∀ (l:List α) (o:Nat) (ys m:List α),dU l o ys=some m→m.length=l.length∧o+ys.length≤l.length∧(∀ j,j<ys.length→m[o+j]? = ys[j]?)∧∀ j,(j<o∨o+ys.length≤j)→m[j]? = l[j]?
 | l,0,[],m,h=>by cases l <;>(simp [dU] at h;subst h;exact ⟨rfl,by simp,fun j hj=>absurd hj (by simp),fun _ _=>rfl⟩)
 | [],0,y :: ys,m,h=>by simp [dU] at h
 | [],o+1,ys,m,h=>by simp [dU] at h
 | x :: r,0,y :: ys,m,h=>by
  simp only [dU] at h
  cases e:dU r 0 ys with
  | none=>rw [e] at h;cases h
  | some l =>
   rw [e] at h;injection h with h;subst h
   obtain ⟨h1,h2,h3,h4⟩:=kS r 0 ys l e
   refine ⟨by simp [h1],by simp at h2 ⊢;omega,fun j hj=>?_,fun j hj=>?_⟩
   ·cases j with
    | zero=>simp
    | succ j =>
     have:=h3 j (by simp at hj;omega)
     simp at this ⊢;exact this
   ·cases j with
    | zero=>simp at hj
    | succ j =>
     have:=h4 j (by simp at hj ⊢;omega)
     simp at this ⊢;exact this
 | x :: r,o+1,ys,m,h=>by
  simp only [dU] at h
  cases e:dU r o ys with
  | none=>rw [e] at h;cases h
  | some l =>
   rw [e] at h;injection h with h;subst h
   obtain ⟨h1,h2,h3,h4⟩:=kS r o ys l e
   refine ⟨by simp [h1],by simp;omega,fun j hj=>?_,fun j hj=>?_⟩
   ·rw [show o+1+j=(o+j)+1 from by omega,List.getElem?_cons_succ];exact h3 j hj
   ·cases j with
    | zero=>simp
    | succ j=>have:=h4 j (by omega);simp at this ⊢;exact this
theorem nU {α:Type}:∀ (l:List α) (n:Nat),l8 l n=true→l.length=n
 | [],0,_=>rfl
 | [],_+1,h=>by simp [l8] at h
 | _ :: _,0,h=>by simp [l8] at h
 | _ :: r,n+1,h=>by simp [nU r n h]
theorem uW (z:Value):kA z=some (qL z):=by
 cases z <;>first
  | rfl
  | (rename_i cs;simp only [kA,qL];generalize cs.toList=l;induction l with
    | nil=>rfl
    | cons x r ih=>simp [GK,ih])
theorem NI:∀ l:List Value,GK l=some (l.map V.v)
 | []=>rfl
 | x :: r=>by simp [GK,NI r]
theorem xE (q:Tg):∀ l:List D,qJ q l=some (l.map (D.toV q))
 | []=>rfl
 | x :: r=>by cases x <;>simp [qJ,xE q r,D.toV]
theorem IB {q:Tg}:∀ {l m:List V},GN q l=some m→m=l.map (V.tag q)
 | [],m,h=>by simp [GN] at h;subst h;rfl
 | x :: r,m,h=>by
  simp only [GN] at h
  cases e:GN q r with
  | none=>rw [e] at h;cases h
  | some l =>
   rw [e] at h
   have ih:=IB e
   subst ih
   cases x with
   | s q' sz n f =>
    cases q' with
    | o=>simp at h;subst h;rfl
    | _=>simp at h;subst h;rfl
   | any=>simp at h
   | _=>simp at h;subst h;rfl
theorem C0 {p q:Ob}:jJ (p ++ q) ↔ jJ p∧jJ q:=by
 induction p with
 | nil=>simp [jJ]
 | cons x r ih=>simp [jJ,ih,and_assoc]
def Ch.sat (B:BE) (r h:PH) (k:Nat):Ch→Prop
 | .row l => ∃ (b o:Nat) (vs:List Value) (h':PH),B k = .pointer (some ⟨b,o,none⟩)∧V.owns B r h' l vs∧h'.le h∧∀ j,j<l.length→h b (o+j)=vs[j]? ∧ h' b (o+j)=none
 | .arr sz n f=>D.own h (.sl sz n f) (B k)
 | .hole sz n f i k2 => ∃ A c,B k = .slice A n c∧n≤c∧n≤maxL∧(0≤i∧i<n)∧B k2=elP (B k) sz i 0∧∃ (b o:Nat) (row:Nat→List Value) (H:Nat→PH),A=some ⟨b,o,none⟩ ∧
   (∀ j,j<n→(j:Int)≠i→D.owns (H j) (f j) (row j)∧(row j).length=sz∧∀ x,x<sz→h b (o+j * sz+x)=(row j)[x]?) ∧
   (∀ j,n≤j→j<c→∀ x,x<sz→h b (o+j * sz+x)≠none)∧Parts h b o (c * sz) H
 | .ro sz n f=>D.rd r (.sl sz n f) (B k)
 | .rrow l => ∃ (b o:Nat) (vs:List Value),B k = .pointer (some ⟨b,o,none⟩)∧V.rels B (Zf r fun _=>PH.emp) l vs∧∀ j,j<l.length→r b (o+j)=vs[j]?
 | .rd sz n f=>D.rd h (.sl sz n f) (B k)
 | .rw P=>P h
theorem wZ {r s:PH} {H K:Nat→PH} (l:r.le s) (m:∀ k,(H k).le (K k)) (q:Tg):(Zf r H q).le (Zf s K q):=by
 cases q with
 | k n=>exact m n
 | _=>exact l
theorem X1 (r:PH) (H:Nat→PH) (q:Tg):(Zf r (fun _=>PH.emp) q).le (Zf r H q):=wZ (PH.le_refl _) (fun _=>PH.emp_le _) q
structure Mm (B:BE) (r:PH) (mu:Mu) (w:World) (H:Nat→PH):Prop where
 sat:∀ k c,mlk k mu=some c→c.sat B r (H k) k
 fit:∀ k,FitO (H k) w
 dj:∀ j k,j≠k→(H j).dj (H k)
 djr:∀ k,(H k).dj r
 fitr:Fit r w
structure Mr (B:BE) (r:PH) (mu:Mu) (w:World) (H:Nat→PH):Prop where
 sat:∀ k c,mlk k mu=some c→c.sat B r (H k) k
 fit:∀ k c,mlk k mu=some c→Fit (H k) w
 fitr:Fit r w
 dj:∀ j k,j≠k→(H j).dj (H k)
 djr:∀ k,(H k).dj r
structure Ms (B:BE) (r:PH) (mu:Mu) (H:Nat→PH):Prop where
 sat:∀ k c,mlk k mu=some c→c.sat B r (H k) k
 dj:∀ j k,j≠k→(H j).dj (H k)
 djr:∀ k,(H k).dj r
structure Fw (r:PH) (mu:Mu) (H:Nat→PH) (w:World):Prop where
 fit:∀ k c,mlk k mu=some c→Fit (H k) w
 fitr:Fit r w
theorem Mr.ms {B:BE} {r:PH} {mu:Mu} {w:World} {H:Nat→PH} (m:Mr B r mu w H):Ms B r mu H:=⟨m.sat,m.dj,m.djr⟩
theorem Mr.fw {B:BE} {r:PH} {mu:Mu} {w:World} {H:Nat→PH} (m:Mr B r mu w H):Fw r mu H w:=⟨m.fit,m.fitr⟩
theorem Mm.mr {B:BE} {r:PH} {mu:Mu} {w:World} {H:Nat→PH} (m:Mm B r mu w H):Mr B r mu w H:=⟨m.sat,fun k _ _=>m.fit k,m.fitr,m.dj,m.djr⟩
structure Fits (P:Program) (B:BE) (Z:Tg→PH) (N:Nat) (fr:Fr) (gf:GF) (a:Act):Prop where
 size:a.tmps.size=N
 defers:a.defers=[]
 vfr:∀ t x,mlk t fr=some x→glk t gf=none→SV.rel P B Z x (a.tmps.getD t undef)
 vgf:∀ t d w x,(t,d,w,x) ∈ gf→a.tmps.getD d undef = .bool w→SV.rel P B Z x (a.tmps.getD t undef)
 vgu:∀ t d w x,(t,d,w,x) ∈ gf→a.tmps.getD d undef ≠ .bool w→a.tmps.getD t undef=undef
 vno:∀ t d w x,(t,d,w,x) ∈ gf→mlk t fr=none
theorem nH {t:Nat}:∀ {gf:GF} {c:Nat×Bool×SV},glk t gf=some c→(t,c) ∈ gf
 | [],_,h=>by cases h
 | (j,d) :: r,c,h=>by
  simp only [glk] at h
  cases e:Nat.beq j t with
  | true=>rw [e] at h;simp at h;subst h;have:=Nat.eq_of_beq_eq_true e;subst this;exact List.mem_cons_self
  | false=>rw [e] at h;exact List.mem_cons_of_mem _ (nH h)
theorem LR {d:Nat} {w:Bool}:∀ {g:Gd},LP d w g=true→(d,w) ∈ g
 | [],h=>by cases h
 | (d',w') :: r,h=>by
  simp only [LP] at h
  cases e:(Nat.beq d' d && (w' == w)) with
  | false=>rw [e] at h;exact List.mem_cons_of_mem _ (LR h)
  | true =>
   simp only [Bool.and_eq_true,beq_iff_eq] at e
   have:=Nat.eq_of_beq_eq_true e.1
   rw [this,e.2];exact List.mem_cons_self
theorem Fits.ev {P:Program} {B:BE} {Z:Tg→PH} {N:Nat} {fr:Fr} {gf:GF} {a:Act} (f:Fits P B Z N fr gf a) {g:Gd} (hg:∀ d w,(d,w) ∈ g→a.tmps.getD d undef = .bool w) {x:Operand} {y:SV} (h:ev g fr gf x=some y):SV.rel P B Z y (a.eval x):=by
 cases x with
 | tmp t =>
  simp only [Go.Proofs.YthpjoddhlkcciaaGreat.ev] at h
  cases e:glk t gf with
  | none=>rw [e] at h;exact f.vfr t y h e
  | some q =>
   obtain ⟨d,w,z⟩:=q
   rw [e] at h
   simp only at h
   cases e2:LP d w g with
   | false=>rw [e2] at h;cases h
   | true =>
    rw [e2] at h;simp at h;subst h
    exact f.vgf t d w z (nH e) (hg d w (LR e2))
 | const c=>simp only [Go.Proofs.YthpjoddhlkcciaaGreat.ev] at h;injection h with h;subst h;rfl
 | func fn=>simp only [Go.Proofs.YthpjoddhlkcciaaGreat.ev] at h;injection h with h;subst h;exact ⟨[],rfl,rfl⟩
 | global _=>cases h
theorem Fits.evs {P:Program} {B:BE} {Z:Tg→PH} {N:Nat} {fr:Fr} {gf:GF} {a:Act} (f:Fits P B Z N fr gf a) {g:Gd} (hg:∀ d w,(d,w) ∈ g→a.tmps.getD d undef = .bool w):∀ {l:List Operand} {ys:List SV},evs g fr gf l=some ys→SV.rels P B Z ys (l.map a.eval)
 | [],ys,h=>by simp only [Go.Proofs.YthpjoddhlkcciaaGreat.evs] at h;injection h with h;subst h;rfl
 | x :: r,ys,h=>by
  simp only [Go.Proofs.YthpjoddhlkcciaaGreat.evs] at h
  cases e:Go.Proofs.YthpjoddhlkcciaaGreat.ev g fr gf x with
  | none=>rw [e] at h;cases h
  | some y =>
   cases e2:Go.Proofs.YthpjoddhlkcciaaGreat.evs g fr gf r with
   | none=>rw [e,e2] at h;cases h
   | some l =>
    rw [e,e2] at h;injection h with h;subst h
    exact ⟨_,_,rfl,f.ev hg e,f.evs hg e2⟩
theorem TOk.get {P:Program}:∀ {TT:List TI} {t:Nat} {ti:TI},TOk P TT→tlk t TT=some ti→ti.id=t∧ti.ok P
 | [],_,_,_,h=>by cases h
 | x :: r,t,ti,hT,h=>by
  simp only [tlk] at h
  cases e:Nat.beq x.id t with
  | true=>rw [e] at h;simp at h;subst h;exact ⟨Nat.eq_of_beq_eq_true e,hT.1⟩
  | false=>rw [e] at h;exact TOk.get hT.2 h
section
variable {P:Program} {w:World}
theorem b9 {t:TypeId} {d:TypeDesc} (h:P.underlying t=some d):(underlying t).run P w = .ok d w:=by
 simp [underlying,h]
theorem uE {t:TypeId} {i:TypeInfo} (h:P.info? t=some i):(typeInfo t).run P w = .ok i w:=by
 simp [typeInfo,h]
theorem kB {t:TypeId} {i:TypeInfo} (h:P.info? t=some i):(sizeOf t).run P w = .ok i.size w:=by
 simp [sizeOf,typeInfo,h]
theorem TI.ok.desc {ti:TI} (h:ti.ok P):∃ d,P.underlying ti.id=some d∧jP d=ti.kind:=by
 have:=h.1
 cases e:P.underlying ti.id with
 | none=>rw [e] at this;cases this
 | some d=>rw [e] at this;simp at this;exact ⟨d,rfl,this⟩
theorem TI.ok.info {ti:TI} (h:ti.ok P):∃ i,P.info? ti.id=some i∧i.size=ti.sz∧i.bytes=ti.by_∧i.zero=some ti.zero:=by
 have h1:=h.2.1
 have h2:=h.2.2.1
 cases e:P.info? ti.id with
 | none=>rw [e] at h1;cases h1
 | some i=>rw [e] at h1 h2;simp at h1 h2;exact ⟨i,rfl,h1.1,h1.2,h2⟩
theorem AM {ti:TI} (h:ti.ok P):(isAgg ti.id).run P w = .ok ti.isAg w:=by
 obtain ⟨d,h1,h2⟩:=h.desc
 simp only [isAgg,Sem.run_bind,b9 h1,Result.andThen_ok,TI.isAg, ← h2]
 cases d <;>rfl
def PI (w:World) (a:Addr) (l:List Value):Prop := ∀ j u,l[j]? = some u→w.cell? (a.add j)=some u
theorem A4 (a:Addr):∀ (n i:Nat) (acc:Array Value) (l:List Value),l.length=n→(∀ j u,l[j]? = some u→w.cell? (a.add (i+j))=some u) →
  (loadCellsFrom a i n acc).run P w = .ok (acc ++ l.toArray) w
 | 0,i,acc,l,hl,_=>by
  have:l=[]:=List.length_eq_zero_iff.1 hl
  subst this
  simp [loadCellsFrom]
 | n+1,i,acc,l,hl,h=>by
  cases l with
  | nil=>simp at hl
  | cons u r =>
   have h0:=h 0 u rfl
   simp only [Nat.add_zero] at h0
   simp only [loadCellsFrom,Sem.run_bind,run_load,h0,Result.andThen_ok]
   rw [A4 a n (i+1) (acc.push u) r (by simpa using hl) (fun j v hj=>by
    have:=h (j+1) v (by simpa using hj)
    rwa [show i+(j+1)=i+1+j from by omega] at this)]
   simp
theorem I2 {a:Addr} {l:List Value} (h:PI w a l):(loadCells a l.length).run P w = .ok l.toArray w:=by
 have:=A4 (P:=P) a l.length 0 #[] l rfl (fun j u hj=>by rw [Nat.zero_add];exact h j u hj)
 simpa [loadCells] using this
theorem CQ {ti:TI} (hti:ti.ok P) {a:Addr} {l:List Value} (hl:l.length=ti.sz) (h:PI w a l) (x:Value)
  (hx:(ti.isAg=true∧x = .agg l.toArray)∨(ti.isAg=false∧l=[x])):(loadVar ti.id a).run P w = .ok x w:=by
 obtain ⟨i,h1,h2,_,_⟩:=hti.info
 simp only [loadVar,Sem.run_bind,AM hti,Result.andThen_ok]
 rcases hx with ⟨e,rfl⟩ | ⟨e,rfl⟩
 ·rw [e,if_pos rfl]
  simp only [Sem.run_bind,kB h1,Result.andThen_ok,h2, ← hl,I2 h,Sem.run_pure]
 ·rw [e,if_neg (by simp)]
  have:=h 0 x rfl
  simp only [Addr.add,if_true] at this
  simp only [run_load,this]
end
theorem SU {a:Addr} (h:a.spot=none) (n:Nat):a.add n=⟨a.block,a.off+n,none⟩:=by
 unfold Addr.add
 split
 ·rename_i e;subst e;cases a;simp at h;subst h;rfl
 ·rfl
theorem jO (b o n:Nat):(⟨b,o,none⟩:Addr).add n=⟨b,o+n,none⟩:=SU rfl n
theorem H6 {ag:Bool} {l:List V} {x:SV} (h:qD ag l=some x):(ag=true∧x = .ag l)∨(ag=false∧∃ y,l=[y] ∧ x = .a y):=by
 cases ag with
 | true =>
  left;refine ⟨rfl,?_⟩
  cases l with
  | nil=>simp [qD] at h;exact h.symm
  | cons y r=>cases r <;>(simp [qD] at h;exact h.symm)
 | false =>
  right;refine ⟨rfl,?_⟩
  cases l with
  | nil=>simp [qD] at h
  | cons y r=>cases r <;>simp [qD] at h;exact ⟨y,rfl,h.symm⟩
section
variable {P:Program} {B:BE} {Z:Tg→PH}
theorem xX:∀ {l:List V} {vs:List Value} {o n:Nat} {m:List V},V.rels B Z l vs→cut l o n=some m→∃ ms,cut vs o n=some ms∧V.rels B Z m ms
 | l,vs,0,0,m,r,h=>by cases l <;>cases vs <;>(simp [cut] at h ⊢;subst h;rfl)
 | [],_,0,n+1,m,r,h=>by simp [cut] at h
 | [],_,o+1,n,m,r,h=>by simp [cut] at h
 | x :: l,vs,0,n+1,m,r,h=>by
  obtain ⟨a,t,rfl,r2,r3⟩:=r
  simp only [cut] at h ⊢
  cases e:cut l 0 n with
  | none=>rw [e] at h;cases h
  | some l' =>
   rw [e] at h;injection h with h;subst h
   obtain ⟨ms,e1,e2⟩:=xX r3 e
   rw [e1];exact ⟨_,rfl,_,_,rfl,r2,e2⟩
 | x :: l,vs,o+1,n,m,r,h=>by
  obtain ⟨a,t,rfl,r2,r3⟩:=r
  simp only [cut] at h ⊢
  exact xX r3 h
theorem sR:∀ {l:List V} {vs:List Value} {o:Nat} {ys:List V} {us:List Value} {m:List V},V.rels B Z l vs→V.rels B Z ys us→dU l o ys=some m→∃ ms,dU vs o us=some ms∧V.rels B Z m ms
 | l,vs,0,[],us,m,r,k,h=>by
  have k:us=[]:=k
  subst k
  have:m=l:=by cases l <;>simpa [dU] using h.symm
  subst this
  exact ⟨vs,by cases vs <;>rfl,r⟩
 | [],_,0,y :: ys,_,m,r,k,h=>by simp [dU] at h
 | [],_,o+1,ys,_,m,r,k,h=>by simp [dU] at h
 | x :: l,vs,0,y :: ys,us,m,r,k,h=>by
  obtain ⟨a,t,rfl,r2,r3⟩:=r
  obtain ⟨u,us,rfl,k2,k3⟩:=k
  simp only [dU] at h ⊢
  cases e:dU l 0 ys with
  | none=>rw [e] at h;cases h
  | some l' =>
   rw [e] at h;injection h with h;subst h
   obtain ⟨ms,e1,e2⟩:=sR r3 k3 e
   rw [e1];exact ⟨_,rfl,_,_,rfl,k2,e2⟩
 | x :: l,vs,o+1,ys,us,m,r,k,h=>by
  obtain ⟨a,t,rfl,r2,r3⟩:=r
  simp only [dU] at h ⊢
  cases e:dU l o ys with
  | none=>rw [e] at h;cases h
  | some l' =>
   rw [e] at h;injection h with h;subst h
   obtain ⟨ms,e1,e2⟩:=sR r3 k e
   rw [e1];exact ⟨_,rfl,_,_,rfl,r2,e2⟩
theorem xV {l:List V} {vs:List Value} (r:V.rels B Z l vs) {n:Nat} {x:V} (h:nth l n=some x):∃ y,vs[n]? = some y∧x.rel B Z y:=by
 rw [mY] at h;exact V.rels_get r h
theorem rN {y:Value} (h:eL y=true):y.cells.toList=[y]:=by cases y <;>first | rfl | cases h
theorem uP:∀ l:List Value,V.rels B Z (l.map V.v) l
 | []=>rfl
 | x :: r=>⟨x,r,rfl,rfl,uP r⟩
theorem rY {x:SV} {l:List V} (h:x.cells=some l) {y:Value} (r:SV.rel P B Z x y):V.rels B Z l y.cells.toList:=by
 cases x with
 | un=>simp [SV.cells] at h
 | fn f l=>simp [SV.cells] at h
 | fb φ=>simp [SV.cells] at h
 | tu l=>simp [SV.cells] at h
 | ag l' =>
  simp [SV.cells] at h;subst h
  obtain ⟨vs,rfl,r2⟩:=r
  simpa [Value.cells] using r2
 | a u =>
  cases u with
  | v x =>
   simp [SV.cells,uW] at h;subst h
   have r:y=x:=r
   subst r
   cases y <;>first
    | exact uP [_]
    | exact uP _
  | s q sz n f =>
   simp [SV.cells] at h;subst h
   obtain ⟨A,c,rfl,_⟩:=(show D.rd _ _ _ from r)
   exact ⟨_,_,rfl,r,rfl⟩
  | rp q m o =>
   simp [SV.cells] at h;subst h
   obtain ⟨b,x,vs,rfl,_⟩:=(show _ from r)
   exact ⟨_,_,rfl,r,rfl⟩
  | any=>simp [SV.cells] at h
  | g k=>simp [SV.cells] at h;subst h;rw [rN r.2];exact ⟨_,_,rfl,r,rfl⟩
  | p k o=>simp [SV.cells] at h;subst h;rw [rN r.2];exact ⟨_,_,rfl,r,rfl⟩
  | pe k sz i o=>simp [SV.cells] at h;subst h;rw [rN r.2];exact ⟨_,_,rfl,r,rfl⟩
  | sb k sz lo hi=>simp [SV.cells] at h;subst h;rw [rN r.2];exact ⟨_,_,rfl,r,rfl⟩
  | gl k n c=>simp [SV.cells] at h;subst h;rw [rN r.2.1];exact ⟨_,_,rfl,r,rfl⟩
end
end
section
section
variable {P:Program} {w:World} {B:BE} {r:PH} {mu:Mu} {H:Nat→PH} {TT:List TI}
theorem M2 {w:World} {b o:Nat} {vs:List Value} {h:PH} (hf:Fit h w) (hc:∀ j,j<vs.length→h b (o+j)=vs[j]?) {d n:Nat} {ms:List Value} (hm:cut vs d n=some ms):PI w ⟨b,o+d,none⟩ ms:=fun j u hj=>by
 obtain ⟨c1,c2⟩:=tK _ _ _ _ hm
 have hjl:j<n:=by rw [← c1];exact (List.getElem?_eq_some_iff.1 hj).1
 have h1:=c2 j hjl
 rw [hj] at h1
 have h2:d+j<vs.length:=(List.getElem?_eq_some_iff.1 h1.symm).1
 have h3:=hc _ h2
 rw [← h1] at h3
 rw [jO,Nat.add_assoc]
 exact (hf _ _ _ h3).1
theorem XZ {ti:TI} (hti:ti.ok P) {Z:Tg→PH} {l:List V} {x:SV} (hs:qD ti.isAg l=some x) {ms:List Value} (hr:V.rels B Z l ms) (hl:ms.length=ti.sz) {a:Addr}:∃ y,(∀ w,PI w a ms→(loadVar ti.id a).run P w = .ok y w)∧SV.rel P B Z x y:=by
 rcases H6 hs with ⟨e,rfl⟩ | ⟨e,u,rfl,rfl⟩
 ·exact ⟨.agg ms.toArray,fun w hL=>CQ hti hl hL _ (.inl ⟨e,rfl⟩),ms,rfl,hr⟩
 ·obtain ⟨y,t,rfl,r2,r3⟩:=hr
  have r3:t=[]:=r3
  subst r3
  exact ⟨y,fun w hL=>CQ hti hl hL _ (.inr ⟨e,rfl⟩),r2⟩
theorem K7 {r h:PH} {q:Tg} {Z:Tg→PH} (h0:r.le (Z .r)) (hq:h.le (Z q)):∀ {l:List V} {vs:List Value} {h':PH},h'.le h→V.owns B r h' l vs→V.rels B Z (l.map (V.tag q)) vs
 | [],_,_,_,e=>e
 | x :: l,_,_,hle,e=>by
  obtain ⟨a,t,h1,h2,rfl,e2,e3,e4,e5,e6⟩:=e
  exact ⟨a,t,rfl,V.own_rel h0 (PH.le_trans e2 (PH.le_trans hle hq)) e5,K7 h0 hq (PH.le_trans e3 hle) e6⟩
theorem tA {α β:Type} (f:α→β):∀ (l:List α) (o n:Nat) (m:List α),cut l o n=some m→cut (l.map f) o n=some (m.map f)
 | l,0,0,m,h=>by cases l <;>(simp [cut] at h ⊢;exact h)
 | [],0,n+1,m,h=>by simp [cut] at h
 | [],o+1,n,m,h=>by simp [cut] at h
 | x :: r,0,n+1,m,h=>by
  simp only [cut,List.map_cons] at h ⊢
  cases e:cut r 0 n with
  | none=>rw [e] at h;cases h
  | some l=>rw [e] at h;injection h with h;subst h;rw [tA f r 0 n l e];rfl
 | x :: r,o+1,n,m,h=>by
  simp only [cut,List.map_cons] at h ⊢
  exact tA f r o n m h
theorem i9 (b o n c:Nat) (i:Int) (sz j:Nat):elP (.slice (some ⟨b,o,none⟩) n c) sz i j = .pointer (some ⟨b,o+i.toNat * sz+j,none⟩):=by
 simp [elP,jO]
theorem VO (m:Ms B r mu H) {ti:TI} (hti:ti.ok P) {y x:SV} {q:Ob} (h:ld ti mu y=some (x,q)) (hq:jJ q) {u:Value} (hu:SV.rel P B (Zf r H) y u) :
  ∃ (a:Addr) (v:Value),u = .pointer (some a)∧(∀ w,Fw r mu H w→(loadVar ti.id a).run P w = .ok v w)∧SV.rel P B (Zf r H) x v:=by
 have fin:∀ {b o d:Nat} {l m:List V} {vs:List Value} {g:PH} {Z:Tg→PH} {x:SV},(∀ w,Fw r mu H w→Fit g w)→(∀ j,j<vs.length→g b (o+j)=vs[j]?)→V.rels B Z l vs→cut l d ti.sz=some m→qD ti.isAg m=some x→∃ v,(∀ w,Fw r mu H w→(loadVar ti.id ⟨b,o+d,none⟩).run P w = .ok v w)∧SV.rel P B Z x v:=by
  intro b o d l m vs g Z x hf hc hr hm hs
  obtain ⟨ms,e1,e2⟩:=xX hr hm
  obtain ⟨v,g1,g2⟩:=XZ (a:=⟨b,o+d,none⟩) hti hs e2 (tK _ _ _ _ e1).1
  exact ⟨v,fun w hw=>g1 w (M2 (hf w hw) hc e1),g2⟩
 cases y with
 | ag l=>simp [ld] at h
 | fn f l=>simp [ld] at h
 | fb φ=>simp [ld] at h
 | tu l=>simp [ld] at h
 | un=>simp [ld] at h
 | a y =>
  cases y with
  | v x=>simp [ld] at h
  | s q sz n f=>simp [ld] at h
  | g k=>simp [ld] at h
  | sb k sz lo hi=>simp [ld] at h
  | gl k n c=>simp [ld] at h
  | any=>simp [ld] at h
  | p k o =>
   obtain ⟨hu,_⟩:=(show u=kC (B k) o∧_ from hu)
   simp only [ld] at h
   split at h
   ·rename_i l e
    obtain ⟨b,off,vs,h',e1,e2,e3,e4⟩:=m.sat k _ e
    have hlen:=V.owns_length e2
    split at h
    ·rename_i l' e5
     obtain ⟨m0,e6,e7⟩:=Option.bind_eq_some_iff.1 e5
     split at h
     ·rename_i x' e8
      simp at h;obtain ⟨rfl,rfl⟩:=h
      have:=IB e7
      subst this
      obtain ⟨v,g1,g2⟩:=fin (b:=b) (o:=off) (d:=o) (fun w hw=>hw.fit k _ e) (fun j hj=>(e4 j (by omega)).1) (K7 (Z:=Zf r H) (q := .k k) (PH.le_refl _) e3 (PH.le_refl _) e2) (tA _ _ _ _ _ e6) e8
      refine ⟨_,v,?_,g1,g2⟩
      rw [hu,e1];simp [kC,jO]
     ·cases h
    ·cases h
   ·rename_i l e
    obtain ⟨b,off,vs,e1,e2,e4⟩:=m.sat k _ e
    have e2':=V.rels_mono (X1 r H) e2
    have hlen:=V.rels_length e2'
    split at h
    ·rename_i l' e6
     split at h
     ·rename_i x' e8
      simp at h;obtain ⟨rfl,rfl⟩:=h
      obtain ⟨v,g1,g2⟩:=fin (b:=b) (o:=off) (d:=o) (fun w hw=>hw.fitr) (fun j hj=>e4 j (by omega)) e2' e6 e8
      refine ⟨_,v,?_,g1,g2⟩
      rw [hu,e1];simp [kC,jO]
     ·cases h
    ·cases h
   ·cases h
  | pe k sz i o =>
   obtain ⟨hu,_⟩:=(show u=elP (B k) sz i o∧_ from hu)
   simp only [ld] at h
   split at h
   ·rename_i sz' n f e
    split at h
    ·rename_i l' e5
     obtain ⟨m0,e6,e7⟩:=Option.bind_eq_some_iff.1 e5
     rw [xE] at e7
     injection e7 with e7
     subst e7
     split at h
     ·rename_i x' e8
      simp at h;obtain ⟨rfl,rfl⟩:=h
      obtain ⟨rfl,⟨q1,q2⟩,_⟩:=hq
      obtain ⟨A,c,e1,e2,e3,e4⟩:=(show D.own _ _ _ from m.sat k _ e)
      rcases e4 with rfl | ⟨b,off,row,G,rfl,g1,_,g3⟩
      ·omega
      ·obtain ⟨r1,r2,r3⟩:=g1 i.toNat (by omega)
       obtain ⟨v,k1,k2⟩:=fin (Z:=Zf r H) (b:=b) (o:=off+i.toNat * sz) (d:=o) (fun w hw=>hw.fit k _ e) (fun j hj=>r3 j (by omega)) (D.rds_toV (q := .k k) (D.rds_mono (g3.1 _) _ (D.owns_rds _ r1))) (tA _ _ _ _ _ e6) e8
       refine ⟨_,v,?_,k1,k2⟩
       rw [hu,e1,i9]
     ·cases h
    ·cases h
   ·rename_i sz' n f e
    split at h
    ·rename_i l' e5
     obtain ⟨m0,e6,e7⟩:=Option.bind_eq_some_iff.1 e5
     rw [xE] at e7
     injection e7 with e7
     subst e7
     split at h
     ·rename_i x' e8
      simp at h;obtain ⟨rfl,rfl⟩:=h
      obtain ⟨rfl,⟨q1,q2⟩,_⟩:=hq
      obtain ⟨A,c,e1,e2,e3,e4⟩:=(show D.rd _ _ _ from m.sat k _ e)
      rcases e4 with rfl | ⟨b,off,rfl,g1⟩
      ·omega
      ·obtain ⟨row,r1,r2,r3⟩:=g1 i.toNat (by omega)
       obtain ⟨v,k1,k2⟩:=fin (Z:=Zf r H) (b:=b) (o:=off+i.toNat * sz) (d:=o) (fun w hw=>hw.fitr) (fun j hj=>r3 j (by omega)) (D.rds_toV (q := .r) r1) (tA _ _ _ _ _ e6) e8
       refine ⟨_,v,?_,k1,k2⟩
       rw [hu,e1,i9]
     ·cases h
    ·cases h
   ·cases h
  | rp q l o =>
   obtain ⟨b,off,vs,rfl,e2,e3⟩:=(show _ from hu)
   simp only [ld] at h
   cases ht:tgB mu q with
   | false=>rw [ht] at h;cases h
   | true =>
    have hf:∀ w,Fw r mu H w→Fit (Zf r H q) w:=fun w hw=>by
     cases q with
     | o=>exact hw.fitr
     | r=>exact hw.fitr
     | k n =>
      simp only [tgB] at ht
      split at ht
      ·rename_i c hc;exact hw.fit n c hc
      ·cases ht
    rw [ht] at h
    simp only [cond_true] at h
    split at h
    ·rename_i l' e5
     obtain ⟨m0,e6,e7⟩:=Option.bind_eq_some_iff.1 e5
     rw [xE] at e7
     injection e7 with e7
     subst e7
     split at h
     ·rename_i x' e8
      simp at h;obtain ⟨rfl,rfl⟩:=h
      obtain ⟨v,k1,k2⟩:=fin (Z:=Zf r H) (b:=b) (o:=off) (d:=o) hf e3 (D.rds_toV (q:=q) e2) (tA _ _ _ _ _ e6) e8
      exact ⟨_,v,rfl,k1,k2⟩
     ·cases h
    ·cases h
end
end
section
theorem s8 {x:Int} (h:InR x):IntKind.i64.wrap x=x:=IntWalk.i64_in _ h
theorem fL {P:Program} {w:World} {op:BinOp} {t:TypeId} {x y:Operand} {a b:Value} (h:(match a,b with | .nilIface, .nilIface=>false | .agg _, .agg _=>false | _,_=>true)=true):(eqGuard op t x y a b).run P w = .ok () w:=by
 unfold eqGuard
 cases op <;>first
  | rfl
  | (cases a <;>cases b <;>first | rfl | (simp at h))
section
variable {P:Program} {w:World}
theorem G0 {t:TypeId} {k:IntKind} {x y:Int} (hq:jJ (GM k x y).2) (k':IntKind):(binOp .shr t (.int k x) (.int k' y)).run P w = .ok (GM k x y).1 w:=by
 unfold GM at hq ⊢
 split at hq
 ·have e:min (Int.ofNat 1).toNat k.bits=1:=by cases k <;>rfl
  have e2:¬ (Int.ofNat 1<0):=by decide
  simp only [binOp,Op.shift,if_neg e2,e,Sem.run_pure]
  congr 2
  rw [Int.fdiv_eq_ediv_of_nonneg _ (by decide)];rfl
 ·rename_i n _
  have e2:¬ (Int.ofNat n<0):=by have:=Int.natCast_nonneg n;simp
  simp only [binOp,Op.shift,if_neg e2,Sem.run_pure]
  rfl
 ·exact hq.1.elim
theorem XE {hg:Bool} {op:BinOp} {t:TypeId} {x y:Int} {v:Value} {q:Ob} (h:UH hg op x y=some (v,q)) (hq:jJ q):(binOp op t (.int .i64 x) (.int .i64 y)).run P w = .ok v w:=by
 cases op <;>simp [UH,PM] at h
 case add =>
  cases hg with
  | true=>simp at h;obtain ⟨rfl,rfl⟩:=h;simp [binOp,Op.intArith,lK]
  | false=>simp at h;obtain ⟨rfl,rfl⟩:=h;simp [binOp,Op.intArith,s8 hq.1]
 case sub=>obtain ⟨rfl,rfl⟩:=h;simp [binOp,Op.intArith,s8 hq.1]
 case mul =>
  cases hg with
  | true=>simp at h;obtain ⟨rfl,rfl⟩:=h;simp [binOp,Op.intArith,lK]
  | false=>simp at h;obtain ⟨rfl,rfl⟩:=h;simp [binOp,Op.intArith,s8 hq.1]
 case quo=>obtain ⟨rfl,rfl⟩:=h;have h0:¬ y=0:=hq.1;simp [binOp,Op.intDiv,s8 hq.2.1,h0]
 case rem=>obtain ⟨rfl,rfl⟩:=h;have h0:¬ y=0:=hq.1;simp [binOp,Op.intDiv,h0]
 case and=>obtain ⟨rfl,rfl⟩:=h;rfl
 case or=>obtain ⟨rfl,rfl⟩:=h;rfl
 case xor=>obtain ⟨rfl,rfl⟩:=h;rfl
 case andNot=>obtain ⟨rfl,rfl⟩:=h;rfl
 case shr =>
  have:=G0 (P:=P) (w:=w) (t:=t) (k := .i64) (x:=x) (y:=y) (by rw [h];exact hq) .i64
  rw [h] at this
  exact this
 all_goals (obtain ⟨rfl,rfl⟩:=h;simp [binOp,Op.intCmp])
theorem WE {op:BinOp} {t:TypeId} {x y:Int} {v:Value} {q:Ob} (h:UO op x y=some (v,q)):(binOp op t (.int .u8 x) (.int .u8 y)).run P w = .ok v w:=by
 cases op <;>simp [UO,PM] at h
 all_goals (obtain ⟨rfl,rfl⟩:=h;simp [binOp,Op.intArith,Op.intCmp])
theorem WL {op:BinOp} {t:TypeId} {x y:ByteArray} {v:Value} {q:Ob} (h:TL op x y=some (v,q)) (hq:jJ q):(binOp op t (.string x) (.string y)).run P w = .ok v w:=by
 cases op <;>simp [TL] at h
 case add =>
  obtain ⟨rfl,rfl⟩:=h
  have:((x.size+y.size:Nat):Int)≤9223372036854775807:=hq.1
  simp only [binOp,Op.stringOp]
  rw [if_neg (by
   have e:IntKind.i64.max=9223372036854775807:=by decide
   rw [e];simpa using this)]
  rfl
 all_goals (obtain ⟨rfl,rfl⟩:=h;simp [binOp,Op.stringOp,beq_toListBytes])
theorem Q3 (n:Nat) {t:TypeId} (h:P.underlying t=some .bool) (a b:Bool):(Op.equalIn (n+1) t (.bool a) (.bool b)).run P w = .ok (a == b) w:=by
 simp only [Op.equalIn,Sem.run_bind,b9 h,Result.andThen_ok,Sem.run_pure]
theorem EE {t:TypeId} (h:P.underlying t=some .bool) (a b:Bool):(Op.equal t (.bool a) (.bool b)).run P w = .ok (a == b) w:=Q3 9999 h a b
theorem I6 (n:Nat) {t e:TypeId} (h:P.underlying t=some (.slice e)) (A:Option Addr) (l c m k:Nat):(Op.equalIn (n+1) t (.slice A l c) (.slice none m k)).run P w = .ok A.isNone w:=by
 cases A <;>simp only [Op.equalIn,Sem.run_bind,b9 h,Result.andThen_ok,Sem.run_pure,Option.isNone]
theorem v7 {t e:TypeId} (h:P.underlying t=some (.slice e)) (A:Option Addr) (n c m k:Nat):(Op.equal t (.slice A n c) (.slice none m k)).run P w = .ok A.isNone w:=I6 9999 h A n c m k
theorem MF (n:Nat) {t e:TypeId} (h:P.underlying t=some (.pointer e)) (A:Option Addr):(Op.equalIn (n+1) t (.pointer A) (.pointer none)).run P w = .ok A.isNone w:=by
 cases A <;>simp only [Op.equalIn,Sem.run_bind,b9 h,Result.andThen_ok,Sem.run_pure,Option.isNone]
theorem HX {t e:TypeId} (h:P.underlying t=some (.pointer e)) (A:Option Addr):(Op.equal t (.pointer A) (.pointer none)).run P w = .ok A.isNone w:=MF 9999 h A
theorem uY {h:PH} {sz n:Nat} {f:Nat→List D} {y:Value} (e:D.rd h (.sl sz n f) y):∃ A c,y = .slice A n c∧(0<n→A.isNone=false):=by
 obtain ⟨A,c,e1,_,_,e4⟩:=e
 refine ⟨A,c,e1,fun hn=>?_⟩
 rcases e4 with e | ⟨b,o,e,_⟩
 ·omega
 ·subst e;rfl
theorem AW {h:PH} {sz n:Nat} {f:Nat→List D} {y:Value} (e:D.own h (.sl sz n f) y):∃ A c,y = .slice A n c∧(0<n→A.isNone=false):=uY (D.own_rd _ e)
theorem CZ {B:BE} {r:PH} {mu:Mu} {H:Nat→PH} (m:Ms B r mu H) {x:V} {b:Bool} {q:Ob} (h:EF mu x=some (b,q)) (hq:jJ q) {u:Value} (hu:x.rel B (Zf r H) u):∃ A n c,u = .slice A n c∧b=A.isNone:=by
 cases x with
 | v x =>
  have hu:u=x:=hu
  subst hu
  cases u <;>simp [EF] at h
  obtain ⟨rfl,rfl⟩:=h
  exact ⟨_,_,_,rfl,rfl⟩
 | _=>simp [EF] at h
theorem oJ {B:BE} {r:PH} {mu:Mu} {H:Nat→PH} (m:Ms B r mu H) {x:V} {b:Bool} (h:mV mu x=some b) {u:Value} (hu:x.rel B (Zf r H) u):∃ A,u = .pointer A∧b=A.isNone:=by
 cases x with
 | p k o =>
  obtain ⟨rfl,_⟩:=(show u=kC (B k) o∧_ from hu)
  simp only [mV] at h
  split at h
  ·rename_i l e
   injection h with h;subst h
   obtain ⟨b,o',vs,h',e1,_⟩:=m.sat k _ e
   rw [e1];exact ⟨_,rfl,rfl⟩
  ·rename_i l e
   injection h with h;subst h
   obtain ⟨b,o',vs,e1,_⟩:=m.sat k _ e
   rw [e1];exact ⟨_,rfl,rfl⟩
  ·cases h
 | rp q l o =>
  simp [mV] at h;subst h
  obtain ⟨b,x,vs,rfl,_⟩:=(show _ from hu)
  exact ⟨_,rfl,rfl⟩
 | pe k sz i o =>
  obtain ⟨rfl,_⟩:=(show u=elP (B k) sz i o∧_ from hu)
  simp only [mV] at h
  split at h
  ·rename_i sz n f e
   injection h with h;subst h
   obtain ⟨A,c,e1,_⟩:=AW (m.sat k _ e)
   rw [e1];exact ⟨_,rfl,rfl⟩
  ·rename_i sz n f e
   injection h with h;subst h
   obtain ⟨A,c,e1,_⟩:=uY (m.sat k _ e)
   rw [e1];exact ⟨_,rfl,rfl⟩
  ·rename_i sz n f j k2 e
   injection h with h;subst h
   obtain ⟨A,c,e1,_⟩:=m.sat k _ e
   rw [e1];exact ⟨_,rfl,rfl⟩
  ·cases h
 | v x =>
  have hu:u=x:=hu
  subst hu
  cases u <;>simp [mV] at h
  subst h
  exact ⟨_,rfl,rfl⟩
 | _=>simp [mV] at h
theorem A9 {d:TypeDesc} (h:jP d = .bo):d = .bool:=by cases d <;>simp [jP] at h;rfl
theorem D6 {d:TypeDesc} (h:jP d = .ptr):∃ e,d = .pointer e:=by cases d <;>simp [jP] at h;exact ⟨_,rfl⟩
theorem xS {d:TypeDesc} (h:jP d = .str):d = .string:=by cases d <;>simp [jP] at h;rfl
theorem mW {d:TypeDesc} {k:IntKind} (h:jP d = .it k):d = .int k:=by cases d <;>simp [jP] at h;subst h;rfl
theorem gQ {d:TypeDesc} {e:Nat} (h:jP d = .slc e):d = .slice e:=by cases d <;>simp [jP] at h;subst h;rfl
theorem H5 {d:TypeDesc} {l:List (Nat×Nat)} (h:jP d = .st l):∃ fs:Array Field,d = .struct fs∧fs.toList.map (fun f=>(f.offset,f.type))=l:=by cases d <;>simp [jP] at h;exact ⟨_,rfl,h⟩
theorem RK {B:BE} {r:PH} {mu:Mu} {H:Nat→PH} (m:Ms B r mu H) {hg:Bool} {op:BinOp} {t:TypeId} {d:TypeDesc} (hd:P.underlying t=some d) {k:TK} (hk:jP d=k) {x y:V} {v:Value} {q:Ob} (h:bop mu hg k op x y=some (v,q)) (hq:jJ q) (ox oy:Operand) {u u':Value} (hu:x.rel B (Zf r H) u) (hu':y.rel B (Zf r H) u') :
  (do eqGuard op t ox oy u u';binOp op t u u':Sem Value).run P w = .ok v w:=by
 unfold bop at h
 split at h
 ·obtain rfl:u=_:=hu
  obtain rfl:u'=_:=hu'
  rw [Sem.run_bind,fL rfl,Result.andThen_ok];exact XE h hq
 ·obtain rfl:u=_:=hu
  obtain rfl:u'=_:=hu'
  rw [Sem.run_bind,fL rfl,Result.andThen_ok];exact WE h
 ·obtain rfl:u=_:=hu
  obtain rfl:u'=_:=hu'
  rw [Sem.run_bind,fL rfl,Result.andThen_ok]
  split at h
  ·injection h with h
   have:=G0 (P:=P) (w:=w) (t:=t) (k := .u64) (by rw [h];exact hq)
   rw [h] at this
   exact this _
  ·cases h
 ·obtain rfl:u=_:=hu
  obtain rfl:u'=_:=hu'
  rw [Sem.run_bind,fL rfl,Result.andThen_ok]
  split at h
  ·injection h with h
   have:=G0 (P:=P) (w:=w) (t:=t) (k := .i64) (by rw [h];exact hq)
   rw [h] at this
   exact this _
  ·cases h
 ·obtain rfl:u=_:=hu
  obtain rfl:u'=_:=hu'
  rw [Sem.run_bind,fL rfl,Result.andThen_ok];exact WL h hq
 ·rename_i a b
  obtain rfl:u=_:=hu
  obtain rfl:u'=_:=hu'
  rw [Sem.run_bind,fL rfl,Result.andThen_ok]
  split at h
  ·obtain rfl:=A9 hk;simp at h;obtain ⟨rfl,rfl⟩:=h
   simp only [binOp,Sem.run_bind,EE hd,Result.andThen_ok,Sem.run_pure]
  ·obtain rfl:=A9 hk;simp at h;obtain ⟨rfl,rfl⟩:=h
   simp only [binOp,Sem.run_bind,EE hd,Result.andThen_ok,Sem.run_pure]
  ·cases h
 ·obtain rfl:u'=_:=hu'
  split at h
  ·rename_i hb
   obtain rfl:=gQ hk;simp at h;obtain ⟨rfl,rfl⟩:=h
   obtain ⟨A,n,c,rfl,rfl⟩:=CZ m hb hq hu
   rw [Sem.run_bind,fL rfl,Result.andThen_ok]
   simp only [binOp,Sem.run_bind,v7 hd,Result.andThen_ok,Sem.run_pure]
  ·rename_i hb
   obtain rfl:=gQ hk;simp at h;obtain ⟨rfl,rfl⟩:=h
   obtain ⟨A,n,c,rfl,rfl⟩:=CZ m hb hq hu
   rw [Sem.run_bind,fL rfl,Result.andThen_ok]
   simp only [binOp,Sem.run_bind,v7 hd,Result.andThen_ok,Sem.run_pure]
  ·cases h
 ·obtain rfl:u'=_:=hu'
  split at h
  ·rename_i hb
   obtain ⟨e,rfl⟩:=D6 hk;simp at h;obtain ⟨rfl,rfl⟩:=h
   obtain ⟨A,rfl,rfl⟩:=oJ m hb hu
   rw [Sem.run_bind,fL rfl,Result.andThen_ok]
   simp only [binOp,Sem.run_bind,HX hd,Result.andThen_ok,Sem.run_pure]
  ·rename_i hb
   obtain ⟨e,rfl⟩:=D6 hk;simp at h;obtain ⟨rfl,rfl⟩:=h
   obtain ⟨A,rfl,rfl⟩:=oJ m hb hu
   rw [Sem.run_bind,fL rfl,Result.andThen_ok]
   simp only [binOp,Sem.run_bind,HX hd,Result.andThen_ok,Sem.run_pure]
  ·cases h
 ·cases h
end
section
variable {P:Program} {w:World}
theorem dO {s:Sem Value} {x:Value} (h:s.run P w = .ok x w):(do pure (.value (← s)):Sem Next).run P w = .ok (.value x) w:=by
 simp only [Sem.run_bind,h,Result.andThen_ok,Sem.run_pure]
theorem TI.ok.stc {id sz by_:Nat} {l:List (Nat×Nat)} {z:Value} {q:Bool} (h:(TI.mk id sz by_ (.st l) z q).ok P):∃ fs:Array Field,P.underlying id=some (.struct fs)∧fs.toList.map (fun f=>(f.offset,f.type))=l:=by
 obtain ⟨d,h1,h2⟩:=TI.ok.desc h
 obtain ⟨fs,rfl,e⟩:=H5 h2
 exact ⟨fs,h1,e⟩
theorem z0 {fs:Array Field} {l:List (Nat×Nat)} (e:fs.toList.map (fun f=>(f.offset,f.type))=l) {n d t:Nat} (h:nth l n=some (d,t)):∃ f,fs[n]? = some f∧f.offset=d∧f.type=t:=by
 rw [mY, ← e,List.getElem?_map] at h
 cases x:fs.toList[n]? with
 | none=>rw [x] at h;cases h
 | some f=>rw [x] at h;simp at h;exact ⟨f,by simpa using x,h.1,h.2⟩
theorem M4 {t:TypeId} {fs:Array Field} (hu:P.underlying t=some (.struct fs)) {n:Nat} {f:Field} (hf:fs[n]? = some f) {i:TypeInfo} (hi:P.info? f.type=some i) (hn:i.size≠0) (a:Addr) :
  (Instr.fieldAt t (.pointer (some a)) n).run P w = .ok (.pointer (some (a.add f.offset))) w:=by
 simp only [Instr.fieldAt,Sem.run_bind,b9 hu,Result.andThen_ok,hf,Instr.sureAddr,Sem.run_pure,fieldPlace,kB hi]
 rw [if_neg hn]
 simp only [Sem.run_pure,Result.andThen_ok]
theorem ML {t e:TypeId} (hu:P.underlying t=some (.slice e)) {i:TypeInfo} (hi:P.info? e=some i) (b o n c:Nat) (k:IntKind) (j:Int) (h0:0≤j∧j<n) :
  (Instr.indexAt t (.slice (some ⟨b,o,none⟩) n c) (.int k j)).run P w = .ok (.pointer (some ⟨b,o+j.toNat * i.size,none⟩)) w:=by
 simp only [Instr.indexAt,asIntOf,Sem.run_bind,Sem.run_pure,b9 hu,Result.andThen_ok]
 rw [if_pos h0]
 simp only [Sem.run_bind,kB hi,Result.andThen_ok,Sem.run_pure,jO]
theorem L6 (a:Addr) (m n:Nat):(a.add m).add n=if m+n=0 then a else { a with off:=a.off+m+n,spot:=none }:=by
 unfold Addr.add
 by_cases h1:m=0 <;>by_cases h2:n=0 <;>simp [h1,h2]
theorem VM (a:Addr) (o d:Nat):a.add (o+d)=(a.add o).add d:=by
 rw [L6];unfold Addr.add
 by_cases h:o+d=0
 ·rw [if_pos h,if_pos h]
 ·rw [if_neg h,if_neg h];simp [Nat.add_assoc]
theorem SO (x:Value) (o d:Nat):kC (kC x o) d=kC x (o+d):=by
 cases x with
 | pointer a=>cases a with
  | none=>rfl
  | some a=>simp only [kC,VM]
 | _=>rfl
theorem UV {ti:TI} (hti:ti.ok P) (cs:Array Value) (d:Nat) (l:List Value) (hl:cut cs.toList d ti.sz=some l) (x:Value) (hx:(ti.isAg=true∧x = .agg l.toArray)∨(ti.isAg=false∧l=[x])) :
  (part ti.id cs d).run P w = .ok x w:=by
 obtain ⟨i,h1,h2,_,_⟩:=hti.info
 obtain ⟨c1,c2⟩:=tK _ _ _ _ hl
 simp only [part,Sem.run_bind,AM hti,Result.andThen_ok]
 rcases hx with ⟨e,rfl⟩ | ⟨e,rfl⟩
 ·rw [e,if_pos rfl]
  simp only [Sem.run_bind,kB h1,Result.andThen_ok,Sem.run_pure,h2]
  congr 2
  apply Array.ext_getElem?
  intro j
  by_cases hj:j<ti.sz
  ·have:=c2 j hj
   simp only [Array.getElem?_toList] at this
   simp only [List.getElem?_toArray,this]
   rw [Array.getElem?_extract]
   rw [if_pos]
   have hs:(l[j]?).isSome:=by rw [List.getElem?_eq_getElem (by omega)];rfl
   rw [this] at hs
   have:d+j<cs.size:=by
    cases hc:cs[d+j]? with
    | none=>rw [hc] at hs;cases hs
    | some u=>exact (Array.getElem?_eq_some_iff.1 hc).1
   omega
  ·rw [Array.getElem?_eq_none (by simp;omega),Array.getElem?_eq_none (by simp;omega)]
 ·rw [e,if_neg (by simp)]
  have hz:ti.sz=1:=by simpa using c1.symm
  have:=c2 0 (by omega)
  simp at this
  simp only [← this,Sem.run_pure]
theorem IQ (o:Nat):∀ (ys:List Value) (k:Nat) (cs:Array Value),((ys.zipIdx k).foldl (fun cs p=>cs.setIfInBounds (o+p.2) p.1) cs).size=cs.size ∧
  ∀ i,((ys.zipIdx k).foldl (fun cs p=>cs.setIfInBounds (o+p.2) p.1) cs)[i]? = if o+k≤i∧i<o+k+ys.length∧i<cs.size then ys[i - (o+k)]? else cs[i]?
 | [],k,cs=>⟨rfl,fun i=>by simp only [List.zipIdx_nil,List.foldl_nil,List.length_nil];rw [if_neg (by omega)]⟩
 | y :: ys,k,cs=>by
  simp only [List.zipIdx_cons,List.foldl_cons]
  obtain ⟨h1,h2⟩:=IQ o ys (k+1) (cs.setIfInBounds (o+k) y)
  refine ⟨by rw [h1];simp,fun i=>?_⟩
  rw [h2 i]
  simp only [Array.size_setIfInBounds,List.length_cons]
  by_cases c1:i=o+k
  ·subst c1
   rw [if_neg (by omega)]
   by_cases c2:o+k<cs.size
   ·rw [if_pos (by omega)];simp [c2]
   ·rw [if_neg (by omega)];rw [Array.getElem?_eq_none (by simp;omega),Array.getElem?_eq_none (by omega)]
  ·by_cases c2:o+(k+1)≤i∧i<o+(k+1)+ys.length∧i<cs.size
   ·rw [if_pos c2,if_pos (by omega),show i - (o+k)=(i - (o+(k+1)))+1 from by omega,List.getElem?_cons_succ]
   ·rw [if_neg c2,if_neg (by omega)]
    exact Array.getElem?_setIfInBounds_ne (by omega)
theorem FN {l ys m:List Value} {o:Nat} (h:dU l o ys=some m):(ys.toArray.zipIdx.foldl (fun cs p=>cs.setIfInBounds (o+p.2) p.1) l.toArray)=m.toArray:=by
 obtain ⟨h1,h2,h3,h4⟩:=kS l o ys m h
 rw [← Array.foldl_toList]
 simp only [Array.toList_zipIdx]
 obtain ⟨e1,e2⟩:=IQ o ys 0 l.toArray
 apply Array.ext_getElem?
 intro i
 rw [e2 i]
 simp only [List.size_toArray,Nat.add_zero,List.getElem?_toArray]
 by_cases c:o≤i∧i<o+ys.length∧i<l.length
 ·rw [if_pos c]
  have:=h3 (i - o) (by omega)
  rw [show o+(i - o)=i from by omega] at this
  exact this.symm
 ·rw [if_neg c]
  by_cases c2:i<l.length
  ·exact (h4 i (by omega)).symm
  ·rw [List.getElem?_eq_none (by omega),List.getElem?_eq_none (by omega)]
theorem OE {TT:List TI} (hT:TOk P TT) {fs:List (Nat×Nat)} {place:Nat→Option (Nat×Nat)} (hp:∀ i o t ti,nth fs i=some (o,t)→tlk t TT=some ti→place i=some (o,ti.sz)) {B:BE} {Z:Tg→PH} :
  ∀ (ps:List (Nat×SV)) (qs:List (Nat×Value)) (l m:List V) (vs:List Value),(qs.map (·.1)=ps.map (·.1))→SV.rels P B Z (ps.map (·.2)) (qs.map (·.2))→V.rels B Z l vs→o6 TT fs ps l=some m→∃ ms,Instr.fill place vs.toArray qs=some ms.toArray∧V.rels B Z m ms
 | [],qs,l,m,vs,hq,_,hl,h=>by
  have:qs=[]:=by simpa using hq
  subst this
  simp [o6] at h;subst h;exact ⟨vs,rfl,hl⟩
 | (i,x) :: r,[],l,m,vs,hq,hr,hl,h=>by simp at hq
 | (i,x) :: r,(i',y) :: qs,l,m,vs,hq,hr,hl,h=>by
  simp only [List.map_cons,List.cons.injEq] at hq
  obtain ⟨rfl,hq⟩:=hq
  obtain ⟨y',t',e0,hx,hr⟩:=hr
  simp only [List.map_cons,List.cons.injEq] at e0
  obtain ⟨rfl,rfl⟩:=e0
  simp only [o6] at h
  cases e1:nth fs i' with
  | none=>rw [e1] at h;cases h
  | some q =>
   obtain ⟨o,ft⟩:=q
   cases e2:x.cells with
   | none=>rw [e1,e2] at h;cases h
   | some cs =>
    rw [e1,e2] at h
    simp only at h
    cases e3:tlk ft TT with
    | none=>rw [e3] at h;cases h
    | some tf =>
     rw [e3] at h
     simp only at h
     cases e4:l8 cs tf.sz with
     | false=>rw [e4] at h;cases h
     | true =>
      rw [e4] at h
      simp only [cond_true] at h
      cases e5:dU l o cs with
      | none=>rw [e5] at h;cases h
      | some l' =>
       rw [e5] at h
       have hc:=rY e2 hx
       have hlen:=nU _ _ e4
       have hsz:y.cells.size=tf.sz:=by rw [← Array.length_toList,V.rels_length hc];exact hlen
       obtain ⟨ms,g1,g2⟩:=sR hl hc e5
       obtain ⟨p1,p2,_,_⟩:=kS _ _ _ _ g1
       have hA:y.cells=y.cells.toList.toArray:=by simp
       simp only [Instr.fill,hp i' o ft tf e1 e3]
       rw [if_neg (by
        simp only [hsz,ne_eq,not_true_eq_false,decide_false,Bool.false_or,decide_eq_true_eq,List.size_toArray]
        rw [← hsz, ← Array.length_toList];omega)]
       rw [hA,FN g1]
       exact OE hT hp r qs l' m ms hq hr g2 h
theorem wJ {B:BE} {Z:Tg→PH} (z:Value):V.rels B Z (qL z) z.cells.toList:=by
 cases z <;>first | exact uP [_] | exact uP _
theorem vU:∀ (fs:List Field),(∀ f ∈ fs,∃ i,P.info? f.type=some i)→∃ ps:List (Nat×Nat),(∀ w,(fs.mapM fun (f:Field)=>do pure (f.offset, ← sizeOf f.type):Sem (List (Nat×Nat))).run P w = .ok ps w)∧∀ (i:Nat) (f:Field),fs[i]? = some f→∀ inf,P.info? f.type=some inf→ps[i]? = some (f.offset,inf.size)
 | [],_=>⟨[],by simp,fun i f h=>by simp at h⟩
 | f :: r,h=>by
  obtain ⟨i,hi⟩:=h f List.mem_cons_self
  obtain ⟨ps,h1,h2⟩:=vU r (fun g hg=>h g (List.mem_cons_of_mem _ hg))
  refine ⟨(f.offset,i.size) :: ps,?_,?_⟩
  ·intro w;simp only [List.mapM_cons,Sem.run_bind,kB hi,Result.andThen_ok,Sem.run_pure,h1]
  ·intro j g hj inf hinf
   cases j with
   | zero=>simp at hj;subst hj;rw [hi] at hinf;injection hinf with hinf;subst hinf;rfl
   | succ j=>simp at hj ⊢;exact h2 j g hj inf hinf
end
end
end
section
section
section
variable {P:Program} {w:World} {B:BE} {r:PH} {mu:Mu} {H:Nat→PH} {TT:List TI} {N:Nat} {fr:Fr} {gf:GF} {a:Act}
theorem H8 (hT:TOk P TT):∀ {fs:List (Nat×Nat)},F2 TT fs=true→∀ p ∈ fs,∃ i,P.info? p.2=some i
 | [],_,p,hp=>by cases hp
 | (o,t) :: r,h,p,hp=>by
  simp only [F2] at h
  cases e:tlk t TT with
  | none=>rw [e] at h;cases h
  | some ti =>
   rw [e] at h
   cases hp with
   | head =>
    obtain ⟨e1,e2⟩:=hT.get e
    obtain ⟨i,h1,_⟩:=e2.info
    exact ⟨i,by rw [← e1];exact h1⟩
   | tail _ hm=>exact H8 hT h p hm
theorem AQ {Z:Tg→PH} (f:Fits P B Z N fr gf a) {g:Gd} (hg:∀ d w,(d,w) ∈ g→a.tmps.getD d undef = .bool w):∀ {l:List (Nat×Operand)} {ps:List (Nat×SV)},kM g fr gf l=some ps→(l.map fun p=>(p.1,a.eval p.2)).map (·.1)=ps.map (·.1)∧SV.rels P B Z (ps.map (·.2)) ((l.map fun p=>(p.1,a.eval p.2)).map (·.2))
 | [],ps,h=>by simp only [kM] at h;injection h with h;subst h;exact ⟨rfl,rfl⟩
 | (i,x) :: r,ps,h=>by
  simp only [kM] at h
  cases e:ev g fr gf x with
  | none=>rw [e] at h;cases h
  | some y =>
   cases e2:kM g fr gf r with
   | none=>rw [e,e2] at h;cases h
   | some l =>
    rw [e,e2] at h;injection h with h;subst h
    obtain ⟨h1,h2⟩:=AQ f hg e2
    exact ⟨by simp only [List.map_cons,h1],_,_,rfl,f.ev hg e,h2⟩
theorem KA {Z:Tg→PH}:∀ {l:List SV} {m:List V},vsA l=some m→∀ {vs:List Value},SV.rels P B Z l vs→V.rels B Z m vs
 | [],m,h,vs,r=>by simp only [vsA] at h;injection h with h;subst h;exact r
 | .a x :: l,m,h,vs,r=>by
  simp only [vsA] at h
  cases e:vsA l with
  | none=>rw [e] at h;cases h
  | some l' =>
   rw [e] at h;injection h with h;subst h
   obtain ⟨y,t,rfl,r2,r3⟩:=r
   exact ⟨y,t,rfl,r2,KA e r3⟩
 | .ag _ :: _,m,h,_,_=>by simp [vsA] at h
 | .fn _ _ :: _,m,h,_,_=>by simp [vsA] at h
 | .fb _ :: _,m,h,_,_=>by simp [vsA] at h
 | .tu _ :: _,m,h,_,_=>by simp [vsA] at h
 | .un :: _,m,h,_,_=>by simp [vsA] at h
theorem FY {Z:Tg→PH} {x:SV} {l:List V} (h:x.agL=some l) {y:Value} (r:SV.rel P B Z x y):∃ cs:Array Value,y = .agg cs∧V.rels B Z l cs.toList:=by
 cases x with
 | un=>simp [SV.agL] at h
 | fn f l=>simp [SV.agL] at h
 | fb f=>simp [SV.agL] at h
 | tu l=>simp [SV.agL] at h
 | ag l'=>simp [SV.agL] at h;subst h;obtain ⟨vs,rfl,r2⟩:=r;exact ⟨_,rfl,by simpa using r2⟩
 | a u =>
  cases u with
  | v x =>
   have r:y=x:=r
   subst r
   cases y <;>simp [SV.agL,NI] at h
   subst h;exact ⟨_,rfl,uP _⟩
  | _=>simp [SV.agL] at h
theorem MS {x:Operand} {p:Addr} (h:a.eval x = .pointer (some p)) (d:Option Tmp) (ty:TypeId) (pos:String) (after:Array Edge) (gd:Option (Nat×Bool)) :
  (execOp a.eval ⟨d, .nilCheck x,ty,pos,after,gd⟩).run P w = .ok (.value (.pointer (some p))) w:=by
 simp only [execOp,h,Sem.run_pure]
theorem QF {Z:Tg→PH} {t:TypeId} {fs:Array Field} (hu:P.underlying t=some (.struct fs)) {l:List (Nat×Nat)} (e:fs.toList.map (fun f=>(f.offset,f.type))=l) (hT:TOk P TT) (hall:F2 TT l=true) {i:TypeInfo} (hi:P.info? t=some i) {z:Value} (hz:i.zero=some z)
  {ps:List (Nat×SV)} {m:List V} (h:o6 TT l ps (qL z)=some m) (parts:Array (Nat×Value)) (hp1:parts.toList.map (·.1)=ps.map (·.1)) (hp2:SV.rels P B Z (ps.map (·.2)) (parts.toList.map (·.2))) :
  ∃ ms:List Value,(∀ w,(Instr.build t parts).run P w = .ok (.agg ms.toArray) w)∧V.rels B Z m ms:=by
 have hall':∀ f ∈ fs.toList,∃ i,P.info? f.type=some i:=fun f hf=>H8 hT hall (f.offset,f.type) (by rw [← e];exact List.mem_map_of_mem hf)
 obtain ⟨pl,p1,p2⟩:=vU (P:=P) fs.toList hall'
 have hm:∀ w,(fs.mapM fun (f:Field)=>do pure (f.offset, ← sizeOf f.type):Sem (Array (Nat×Nat))).run P w = .ok pl.toArray w:=fun w=>by
  rw [Array.mapM_eq_mapM_toList,Sem.run_map,p1,Result.andThen_ok]
 obtain ⟨ms,hf,hr⟩:=OE hT (fs:=l) (place:=(pl.toArray[·]?)) (fun i o t ti h1 h2=>by
  obtain ⟨f,f1,f2,f3⟩:=z0 e h1
  obtain ⟨g1,g2⟩:=hT.get h2
  obtain ⟨inf,g3,g4,_⟩:=g2.info
  have:=p2 i f (by simpa using f1) inf (by rw [f3, ← g1];exact g3)
  simp only [List.getElem?_toArray,this,f2,g4]) ps parts.toList (qL z) m z.cells.toList hp1 hp2 (wJ z) h
 have hz2:∀ w,(zeroValue t).run P w = .ok z w:=fun w=>by simp only [zeroValue,Sem.run_bind,uE hi,Result.andThen_ok,hz,Sem.run_pure]
 refine ⟨ms,fun w=>?_,hr⟩
 have hc:z.cells.toList.toArray=z.cells:=by simp
 rw [hc] at hf
 simp only [Instr.build,Sem.run_bind,hz2,Result.andThen_ok,b9 hu,hm,hf,Sem.run_pure]
theorem yQ {ti:TI} (hti:ti.ok P) (hag:ti.isAg=false) {cs:Array Value} {d:Nat} {v:Value} (h:cs[d]? = some v):(part ti.id cs d).run P w = .ok v w:=by
 simp only [part,Sem.run_bind,AM hti,Result.andThen_ok,hag]
 rw [if_neg (by simp)]
 simp only [h,Sem.run_pure]
theorem N0 {Z:Tg→PH} (hT:TOk P TT) {d:Nat} {l m:List V} {xs ys:Array Value} (hl:V.rels B Z l xs.toList) (hm:V.rels B Z m ys.toList):∀ {fs:List Field} {b:Bool},(∀ f ∈ fs,(f.name != "_")=true)→G8 TT l m (fs.map fun f=>(f.offset,f.type))=some b→(Op.eqFields (d+1) xs ys fs).run P w = .ok b w
 | [],b,_,h=>by simp [G8] at h;subst h;simp [Op.eqFields]
 | f :: fs,b,hn,h=>by
  have hne:f.name ≠ "_" := by simpa using hn f List.mem_cons_self
  have ih:=fun {b}=>N0 (d:=d) hT hl hm (fs:=fs) (b:=b) fun f hf=>hn f (List.mem_cons_of_mem _ hf)
  simp only [List.map_cons,G8] at h
  split at h
  ·rename_i id by_ k z q k1 a k2 b' zz e1 e2 e3 e4
   split at h
   ·simp at h
    subst h
    obtain ⟨t1,t2⟩:=hT.get e1
    obtain ⟨dd,d1,d2⟩:=t2.desc
    simp only at t1 d1 d2
    obtain rfl:=mW d2
    obtain ⟨v1,v2,v3⟩:=xV hl e2
    obtain ⟨u1,u2,u3⟩:=xV hm e3
    obtain rfl:v1=_:=v3
    obtain rfl:u1=_:=u3
    rw [t1] at d1
    have p1:=yQ (w:=w) t2 rfl (cs:=xs) (d:=f.offset) (by simpa using v2)
    have p2:=yQ (w:=w) t2 rfl (cs:=ys) (d:=f.offset) (by simpa using u2)
    simp only [t1] at p1 p2
    simp only [Op.eqFields,ne_eq,hne,not_false_eq_true,if_true,Sem.run_bind,p1,p2,Result.andThen_ok,run_equalIn_int w d f.type _ _ _ _ d1]
    cases hc:(a == b') with
    | true=>simp only [Bool.not_true,Bool.false_eq_true,if_false,cond_true,Bool.true_and,ih e4]
    | false=>simp only [Bool.not_false,if_true,cond_false,Bool.false_and,Sem.run_pure]
   ·cases h
  ·rename_i id by_ z q a b' zz e1 e2 e3 e4
   simp at h
   subst h
   obtain ⟨t1,t2⟩:=hT.get e1
   obtain ⟨dd,d1,d2⟩:=t2.desc
   simp only at t1 d1 d2
   obtain rfl:=A9 d2
   obtain ⟨v1,v2,v3⟩:=xV hl e2
   obtain ⟨u1,u2,u3⟩:=xV hm e3
   obtain rfl:v1=_:=v3
   obtain rfl:u1=_:=u3
   rw [t1] at d1
   have p1:=yQ (w:=w) t2 rfl (cs:=xs) (d:=f.offset) (by simpa using v2)
   have p2:=yQ (w:=w) t2 rfl (cs:=ys) (d:=f.offset) (by simpa using u2)
   simp only [t1] at p1 p2
   simp only [Op.eqFields,ne_eq,hne,not_false_eq_true,if_true,Sem.run_bind,p1,p2,Result.andThen_ok,run_equalIn_bool' w d f.type _ _ d1]
   cases hc:(a == b') with
   | true=>simp only [Bool.not_true,Bool.false_eq_true,if_false,cond_true,Bool.true_and,ih e4]
   | false=>simp only [Bool.not_false,if_true,cond_false,Bool.false_and,Sem.run_pure]
  ·cases h
theorem N9 {Z:Tg→PH} (hT:TOk P TT) {ti:TI} (hti:ti.ok P) {o:BinOp} {x y:SV} {v:Value} (h:OR TT ti o x y=some v) (ox oy:Operand) {u u':Value} (hu:SV.rel P B Z x u) (hu':SV.rel P B Z y u') :
  (do eqGuard o ti.id ox oy u u';binOp o ti.id u u':Sem Value).run P w = .ok v w:=by
 unfold OR at h
 split at h
 ·rename_i fs l m e1 e2 e3
  obtain ⟨cs,rfl,r1⟩:=FY e2 hu
  obtain ⟨ds,rfl,r2⟩:=FY e3 hu'
  cases hq:ti.eqf with
  | false=>rw [hq] at h;cases h
  | true =>
   rw [hq] at h
   simp only [cond_true] at h
   obtain ⟨d,d1,d2⟩:=hti.desc
   rw [e1] at d2
   obtain ⟨fa,rfl,d3⟩:=H5 d2
   have hpl:=hti.2.2.2 hq
   simp only [G9,d1,Bool.and_eq_true,Bool.not_eq_true',Array.all_eq_true'] at hpl
   obtain ⟨⟨g1,g2⟩,g3⟩:=hpl
   have hfo:P.fieldsOf ti.id=fa:=by simp [Program.fieldsOf,d1]
   have run:∀ {b},G8 TT l m fs=some b→(Op.equalIn 10000 ti.id (.agg cs) (.agg ds)).run P w = .ok b w:=fun {b} hb=>by
    rw [run_equalIn_agg w 9999 ti.id cs ds (by rw [hfo];exact d1) g1,hfo]
    rw [← d3] at hb
    exact N0 hT r1 r2 (fun f hf=>g3 f (by simpa using hf)) hb
   split at h
   ·rename_i b hb
    injection h with h;subst h
    rw [Sem.run_bind,run_eqGuard_agg w _ _ _ _ _ _ g2,Result.andThen_ok,run_eql_struct,run hb];rfl
   ·rename_i b hb
    injection h with h;subst h
    rw [Sem.run_bind,run_eqGuard_agg w _ _ _ _ _ _ g2,Result.andThen_ok,run_neq_struct,run hb];rfl
   ·cases h
 ·cases h
theorem L5 {h:PH} {sz n:Nat} {f:Nat→List D} {A:Option Addr} {m c l x:Nat} (e:D.rd h (.sl sz n f) (.slice A m c)) (hl:l≤x) (hx:x≤n):D.rd h (.sl sz (x - l) fun i=>f (l+i)) (.slice (if c=l then A else A.map (·.add (l * sz))) (x - l) (c - l)):=by
 obtain ⟨A',c',e1,e2,e3,e4⟩:=e
 injection e1 with e5 e6 e7
 subst e5;subst e6;subst e7
 refine ⟨_,_,rfl,by omega,by omega,?_⟩
 rcases e4 with e4 | ⟨b,o,rfl,g⟩
 ·exact .inl (by omega)
 ·by_cases h0:x - l=0
  ·exact .inl h0
  ·refine .inr ⟨b,o+l * sz,?_,fun i hi=>?_⟩
   ·rw [if_neg (by omega)];simp [jO]
   ·obtain ⟨row,r1,r2,r3⟩:=g (l+i) (by omega)
    refine ⟨row,r1,r2,fun j hj=>?_⟩
    have:=r3 j hj
    rwa [Nat.add_mul, ← Nat.add_assoc] at this
theorem VV {h:PH} {sz n:Nat} {f:Nat→List D} {u:Value} {lo hi:Int} (e:D.rd h (.sl sz n f) u) (h1:0≤lo) (h2:lo≤hi) (h3:hi≤n):D.rd h (.sl sz (hi - lo).toNat fun i=>f (lo.toNat+i)) (sbV u sz lo.toNat (hi - lo).toNat):=by
 obtain ⟨A,c,rfl,e4⟩:=(show ∃ A c,u = .slice A n c∧_ from e)
 have:=L5 (l:=lo.toNat) (x:=hi.toNat) e (by omega) (by omega)
 have e:(hi - lo).toNat=hi.toNat - lo.toNat:=by omega
 rw [e];exact this
theorem x8 (m:Ms B r mu H) {x:V} {q:Tg} {sz n:Nat} {f:Nat→List D} {ob:Ob} (h:slR mu x=some (q,sz,n,f,ob)) (ho:jJ ob) {u:Value} (hu:x.rel B (Zf r H) u):D.rd (Zf r H q) (.sl sz n f) u:=by
 cases x with
 | s q' sz' n' f'=>simp [slR] at h;obtain ⟨rfl,rfl,rfl,rfl,rfl⟩:=h;exact hu
 | g k =>
  obtain ⟨rfl,_⟩:=(show u=B k∧_ from hu)
  simp only [slR] at h
  split at h
  ·rename_i sz' n' f' e;simp at h;obtain ⟨rfl,rfl,rfl,rfl,rfl⟩:=h;exact D.own_rd _ (m.sat k _ e)
  ·rename_i sz' n' f' e;simp at h;obtain ⟨rfl,rfl,rfl,rfl,rfl⟩:=h;exact m.sat k _ e
  ·cases h
 | sb k sz lo hi =>
  obtain ⟨rfl,_⟩:=(show u=sbV (B k) sz _ _∧_ from hu)
  simp only [slR] at h
  split at h
  ·rename_i sz' n' f' e
   simp at h;obtain ⟨rfl,rfl,rfl,rfl,rfl⟩:=h
   obtain ⟨rfl,⟨q1,q2,q3⟩,_⟩:=ho
   exact VV (D.own_rd _ (m.sat k _ e)) q1 q2 q3
  ·cases h
 | _=>simp [slR] at h
theorem SA {Z:Tg→PH} (f:Fits P B Z N fr gf a) {g:Gd} (hg:∀ d w,(d,w) ∈ g→a.tmps.getD d undef = .bool w) {d i:Int} {x:Operand} (h:pO g fr gf d (some x)=some i):∃ k,a.eval x = .int k i:=by
 simp only [pO] at h
 split at h
 ·rename_i k j e;injection h with h;subst h;exact ⟨k,f.ev hg e⟩
 ·cases h
theorem HJ {k:IntKind} {i:Int} {y:Nat} (h:0≤i∧i≤y) (c:BoundsCode):(Instr.sliceBound (.int k i) y c).run P w = .ok i.toNat w:=by
 simp only [Instr.sliceBound,asIntOf,Sem.run_bind,Sem.run_pure,Result.andThen_ok]
 rw [if_pos h];rfl
end
end
section
theorem XA {x:Value} {sz:Nat} {i:Int} {o d:Nat} {p:Addr} (h:elP x sz i o = .pointer (some p)) (hs:∃ A n c,x = .slice A n c):elP x sz i (o+d) = .pointer (some (p.add d)):=by
 obtain ⟨A,n,c,rfl⟩:=hs
 simp only [elP] at h ⊢
 injection h with h
 injection h with h
 rw [← h,VM]
section
variable {P:Program} {w:World} {B:BE} {r:PH} {mu:Mu} {H:Nat→PH} {TT:List TI} {N:Nat} {fr:Fr} {gf:GF} {a:Act}
theorem mN {b:Bool} {len cap:Nat} {lo hi:Option Value} {l h:Int} (hlo:(lo=none∧l=0)∨∃ k,lo=some (.int k l)) (hhi:(hi=none∧h=len)∨∃ k,hi=some (.int k h)) (h1:0≤l∧l≤h) (h2:h≤cap):(Instr.sliceBounds b len cap lo hi none).run P w = .ok (l.toNat,h.toNat,cap) w:=by
 have B1:∀ (k:IntKind) (code:BoundsCode),(Instr.sliceBound (.int k h) cap code).run P w = .ok h.toNat w:=fun k code=>HJ (by omega) code
 have B2:∀ (k:IntKind) (code:BoundsCode),(Instr.sliceBound (.int k l) h.toNat code).run P w = .ok l.toNat w:=fun k code=>HJ (by omega) code
 rcases hlo with ⟨rfl,rfl⟩ | ⟨k,rfl⟩ <;>rcases hhi with ⟨rfl,rfl⟩ | ⟨k',rfl⟩
 ·simp only [Instr.sliceBounds,Sem.run_bind,Sem.run_pure,Result.andThen_ok];rfl
 ·simp only [Instr.sliceBounds,Sem.run_bind,Sem.run_pure,Result.andThen_ok,B1];rfl
 ·have:=B2 k .sliceB
  rw [show ((len:Int)).toNat=len from rfl] at this
  simp only [Instr.sliceBounds,Sem.run_bind,Sem.run_pure,Result.andThen_ok,Option.isSome_none,Bool.false_eq_true,if_false,this];rfl
 ·simp only [Instr.sliceBounds,Sem.run_bind,Sem.run_pure,Result.andThen_ok,Option.isSome_none,Bool.false_eq_true,if_false,B1,B2]
theorem qN {Z:Tg→PH} (f:Fits P B Z N fr gf a) {g:Gd} (hg:∀ d w,(d,w) ∈ g→a.tmps.getD d undef = .bool w) {d i:Int} {o:Option Operand} (h:pO g fr gf d o=some i):(o.map a.eval=none∧i=d)∨∃ k,o.map a.eval=some (.int k i):=by
 cases o with
 | none=>simp [pO] at h;exact .inl ⟨rfl,h.symm⟩
 | some x=>obtain ⟨k,e⟩:=SA f hg h;exact .inr ⟨k,by rw [Option.map_some,e]⟩
theorem OQ (m:Ms B r mu H) {k sz:Nat} {i:Int} {o:Nat} (h:mV mu (.pe k sz i o)=some false):∃ A n c,B k = .slice A n c:=by
 simp only [mV] at h
 split at h
 ·rename_i e;obtain ⟨A,c,e1,_⟩:=AW (m.sat k _ e);exact ⟨_,_,_,e1⟩
 ·rename_i e;obtain ⟨A,c,e1,_⟩:=uY (m.sat k _ e);exact ⟨_,_,_,e1⟩
 ·rename_i e;obtain ⟨A,c,e1,_⟩:=m.sat k _ e;exact ⟨_,_,_,e1⟩
 ·cases h
theorem wV (hT:TOk P TT) (f:Fits P B (Zf r H) N fr gf a) (m:Ms B r mu H) {g:Gd} (hg:∀ d w,(d,w) ∈ g→a.tmps.getD d undef = .bool w) {o:Oper} {x:SV} {q:Ob}
  (h:pst TT fr gf mu g o.op=some (x,q)) (hq:jJ q):∃ v,(∀ w,Fw r mu H w→(execOp a.eval o).run P w = .ok (.value v) w)∧SV.rel P B (Zf r H) x v:=by
 obtain ⟨dst,op,type,pos,after,guard⟩:=o
 simp only at h
 have E:∀ {x:Operand} {y:SV},ev g fr gf x=some y→SV.rel P B (Zf r H) y (a.eval x):=fun h=>f.ev hg h
 unfold pst at h
 split at h
 ·split at h
  ·rename_i e;simp at h;obtain ⟨rfl,rfl⟩:=h;exact ⟨_,fun w hw=>by simp only [execOp,Sem.run_pure],E e⟩
  ·cases h
 ·split at h
  ·rename_i e;simp at h;obtain ⟨rfl,rfl⟩:=h;exact ⟨_,fun w hw=>by simp only [execOp,Sem.run_pure],E e⟩
  ·cases h
 ·rename_i c x y
  split at h
  ·rename_i b ct e
   split at h
   ·rename_i p q' e1 e2
    simp at h;obtain ⟨rfl,rfl⟩:=h
    have hc:a.eval (.tmp ct) = .bool b:=E e
    have hct:a.tmps.getD ct undef = .bool b:=hc
    refine ⟨_,fun w hw=>?_,rfl⟩
    simp only [execOp,hc,asBool,Sem.run_bind,Sem.run_pure,Result.andThen_ok]
    cases b with
    | true =>
     have:a.eval x=_:=f.ev (g:=(ct,true) :: g) (fun d w e=>by cases e with | head=>exact hct | tail _ e=>exact hg d w e) e1
     simp only [if_true,this,cond_true]
    | false =>
     have:a.eval y=_:=f.ev (g:=(ct,false) :: g) (fun d w e=>by cases e with | head=>exact hct | tail _ e=>exact hg d w e) e2
     simp only [Bool.false_eq_true,if_false,this,cond_false]
   ·cases h
  ·cases h
 ·rename_i x
  split at h
  ·rename_i y e
   split at h
   ·rename_i e1
    simp at h;obtain ⟨rfl,rfl⟩:=h
    obtain ⟨A,e2,e3⟩:=oJ m e1 (E e)
    cases A with
    | none=>cases e3
    | some A=>exact ⟨_,fun w hw=>MS e2 _ _ _ _ _,by rw [← e2];exact E e⟩
   ·cases h
  ·rename_i fn l e
   simp at h;obtain ⟨rfl,rfl⟩:=h
   obtain ⟨vs,e1,e2⟩:=(show _ from E e)
   refine ⟨_,fun w hw=>?_,vs,rfl,e2⟩
   simp only [execOp,e1,Sem.run_pure]
  ·rename_i φ e
   simp at h;obtain ⟨rfl,rfl⟩:=h
   obtain ⟨fn,vs,e1,e2⟩:=(show _ from E e)
   refine ⟨_,fun w hw=>?_,fn,vs,rfl,e2⟩
   simp only [execOp,e1,Sem.run_pure]
  ·cases h
 ·rename_i op t x y yt
  split at h
  ·rename_i x' y' ti e1 e2 e3
   obtain ⟨t1,t2⟩:=hT.get e3
   obtain ⟨d,d1,d2⟩:=t2.desc
   split at h
   ·rename_i v q' e4
    simp at h;obtain ⟨rfl,rfl⟩:=h
    rw [t1] at d1
    refine ⟨v,fun w hw=>?_,rfl⟩
    simp only [execOp]
    exact dO (RK m d1 d2 e4 hq x y (E e1) (E e2))
   ·split at h
    ·rename_i v e4
     simp at h;obtain ⟨rfl,rfl⟩:=h
     refine ⟨v,fun w hw=>?_,rfl⟩
     simp only [execOp]
     have:=N9 (w:=w) hT t2 e4 x y (E e1) (E e2)
     rw [t1] at this
     exact dO this
    ·cases h
  ·rename_i x' y' ti hno e1 e2 e3
   obtain ⟨t1,t2⟩:=hT.get e3
   split at h
   ·rename_i v e4
    simp at h;obtain ⟨rfl,rfl⟩:=h
    refine ⟨v,fun w hw=>?_,rfl⟩
    simp only [execOp]
    have:=N9 (w:=w) hT t2 e4 x y (E e1) (E e2)
    rw [t1] at this
    exact dO this
   ·cases h
  ·cases h
 ·split at h
  ·rename_i b e
   simp at h;obtain ⟨rfl,rfl⟩:=h
   have e:=E e
   refine ⟨_,fun w hw=>?_,rfl⟩
   simp only [execOp,show _=_ from e]
   exact dO (by simp [Op.unary])
  ·rename_i x' e
   simp at h;obtain ⟨rfl,rfl⟩:=h
   have e:=E e
   refine ⟨_,fun w hw=>?_,rfl⟩
   simp only [execOp,show _=_ from e]
   refine dO ?_
   have:=hq.1
   simp [Op.unary,Op.intArith,s8 this]
  ·cases h
 ·rename_i t x fi
  split at h
  ·rename_i y id sz by_ fs z ef e1 e2
   split at h
   ·rename_i d ft e3
    split at h
    ·rename_i tf e4
     cases e5:Nat.beq tf.sz 0 with
     | true=>rw [e5] at h;cases h
     | false =>
      rw [e5] at h
      simp only [cond_false] at h
      obtain ⟨t1,t2⟩:=hT.get e2
      obtain ⟨fa,fa1,fa2⟩:=TI.ok.stc t2
      simp only at t1
      subst t1
      obtain ⟨fl,f1,f2,f3⟩:=z0 fa2 e3
      obtain ⟨g1,g2⟩:=hT.get e4
      obtain ⟨inf,g3,g4,_⟩:=g2.info
      have hn:inf.size≠0:=by
       rw [g4];intro h0;rw [h0] at e5;cases e5
      have R:=fun (w:World) (b:Addr)=>M4 (P:=P) (w:=w) fa1 f1 (by rw [f3, ← g1];exact g3) hn b
      have hx:=E e1
      split at h
      ·rename_i k o e6
       simp at h;obtain ⟨rfl,rfl⟩:=h
       obtain ⟨A,e7,e8⟩:=oJ m e6 hx
       cases A with
       | none=>cases e8
       | some A =>
        refine ⟨.pointer (some (A.add d)),fun w hw=>?_,?_,rfl⟩
        ·simp only [execOp,e7];exact dO (by rw [R,f2])
        ·have:a.eval x=kC (B k) o:=hx.1
         rw [← SO, ← this,e7];rfl
      ·rename_i k sz' i o e6
       simp at h;obtain ⟨rfl,rfl⟩:=h
       obtain ⟨A,e7,e8⟩:=oJ m e6 hx
       cases A with
       | none=>cases e8
       | some A =>
        refine ⟨.pointer (some (A.add d)),fun w hw=>?_,?_,rfl⟩
        ·simp only [execOp,e7];exact dO (by rw [R,f2])
        ·have:a.eval x=elP (B k) sz' i o:=hx.1
         rw [this] at e7
         exact (XA e7 (OQ m e6)).symm
      ·rename_i q' l o e6
       simp at h;obtain ⟨rfl,rfl⟩:=h
       obtain ⟨b,x',vs,e7,e8,e9⟩:=(show _ from hx)
       refine ⟨.pointer (some ⟨b,x'+o+d,none⟩),fun w hw=>?_,b,x',vs,?_,e8,e9⟩
       ·simp only [execOp,e7];exact dO (by rw [R,f2,jO])
       ·rw [Nat.add_assoc]
      ·cases h
    ·cases h
   ·cases h
  ·cases h
 ·rename_i t x fi
  split at h
  ·rename_i y id sz by_ fs z ef e1 e2
   split at h
   ·rename_i l d ft e3 e4
    split at h
    ·rename_i tf e5
     split at h
     ·rename_i l' e6
      split at h
      ·rename_i z' e7
       simp at h;obtain ⟨rfl,rfl⟩:=h
       obtain ⟨t1,t2⟩:=hT.get e2
       obtain ⟨fa,fa1,fa2⟩:=TI.ok.stc t2
       simp only at t1
       subst t1
       obtain ⟨fl,f1,f2,f3⟩:=z0 fa2 e4
       obtain ⟨g1,g2⟩:=hT.get e5
       obtain ⟨cs,c1,c2⟩:=FY e3 (E e1)
       obtain ⟨ms,k1,k2⟩:=xX c2 e6
       have fin:∀ {v:Value},((tf.isAg=true∧v = .agg ms.toArray)∨(tf.isAg=false∧ms=[v]))→∀ w,(Instr.field id (.agg cs) fi).run P w = .ok v w:=fun hv w=>by
        simp only [Instr.field,Sem.run_bind,b9 fa1,Result.andThen_ok,f1,asAgg,Sem.run_pure,f2,f3, ← g1]
        exact UV g2 cs d ms k1 _ hv
       rcases H6 e7 with ⟨j1,rfl⟩ | ⟨j1,y',rfl,rfl⟩
       ·refine ⟨_,fun w hw=>?_,ms,rfl,k2⟩
        simp only [execOp,c1]
        exact dO (fin (.inl ⟨j1,rfl⟩) w)
       ·obtain ⟨v,t,rfl,k3,k4⟩:=k2
        have k4:t=[]:=k4
        subst k4
        refine ⟨v,fun w hw=>?_,k3⟩
        simp only [execOp,c1]
        exact dO (fin (.inr ⟨j1,rfl⟩) w)
      ·cases h
     ·cases h
    ·cases h
   ·cases h
  ·cases h
 ·rename_i t x ix
  split at h
  ·rename_i y k' j id sz by_ e z ef e1 e2 e3
   split at h
   ·rename_i te e4
    obtain ⟨t1,t2⟩:=hT.get e3
    obtain ⟨d,d1,d2⟩:=t2.desc
    simp only at t1 d1 d2
    subst t1
    obtain rfl:=gQ d2
    obtain ⟨g1,g2⟩:=hT.get e4
    obtain ⟨inf,g3,g4,_⟩:=g2.info
    rw [g1] at g3
    have hx:=E e1
    have hi:a.eval ix = .int k' j:=E e2
    have fin:∀ {b o n c:Nat},a.eval x = .slice (some ⟨b,o,none⟩) n c→0≤j∧j<n→∀ w,(execOp a.eval ⟨dst, .indexAddr id x ix,type,pos,after,guard⟩).run P w = .ok (.value (.pointer (some ⟨b,o+j.toNat * te.sz,none⟩))) w:=fun {b o n c} h1 h2 w=>by
     simp only [execOp,h1,hi]
     refine dO ?_
     have:=ML (P:=P) (w:=w) d1 g3 b o n c k' j h2
     rw [g4] at this
     exact this
    split at h
    ·rename_i q' sz' n f'
     simp at h;obtain ⟨rfl,rfl⟩:=h
     obtain ⟨rfl,q3,_⟩:=hq
     simp only [OB.p] at q3
     obtain ⟨A,c,k1,k2,k3,k4⟩:=(show D.rd _ _ _ from hx)
     rcases k4 with k4 | ⟨b,o,rfl,k5⟩
     ·omega
     ·obtain ⟨row,r1,r2,r3⟩:=k5 j.toNat (by omega)
      exact ⟨_,fun w _=>fin k1 q3 w,b,o+j.toNat * te.sz,row,rfl,r1,fun i hi=>r3 i (by omega)⟩
    ·rename_i k
     obtain ⟨hB,_⟩:=(show a.eval x=B k∧_ from hx)
     split at h
     ·rename_i sz' n f' e5
      simp at h;obtain ⟨rfl,rfl⟩:=h
      obtain ⟨q3,_⟩:=hq
      simp only [OB.p] at q3
      obtain ⟨A,c,k1,k2,k3,k4⟩:=(show D.own _ _ _ from m.sat k _ e5)
      rcases k4 with k4 | ⟨b,o,row,G,rfl,k5⟩
      ·omega
      ·exact ⟨_,fun w _=>fin (hB.trans k1) q3 w,by rw [k1,i9];rfl,rfl⟩
     ·rename_i sz' n f' i0 k20 e5
      simp at h;obtain ⟨rfl,rfl⟩:=h
      obtain ⟨q3,_⟩:=hq
      simp only [OB.p] at q3
      obtain ⟨A,c,k1,k2,k3,k4,_,b,o,row,G,rfl,_⟩:=m.sat k _ e5
      exact ⟨_,fun w _=>fin (hB.trans k1) q3 w,by rw [k1,i9];rfl,rfl⟩
     ·rename_i sz' n f' e5
      simp at h;obtain ⟨rfl,rfl⟩:=h
      obtain ⟨q3,_⟩:=hq
      simp only [OB.p] at q3
      obtain ⟨A,c,k1,k2,k3,k4⟩:=(show D.rd _ _ _ from m.sat k _ e5)
      rcases k4 with k4 | ⟨b,o,rfl,k5⟩
      ·omega
      ·exact ⟨_,fun w _=>fin (hB.trans k1) q3 w,by rw [k1,i9];rfl,rfl⟩
     ·cases h
    ·rename_i k sz2 lo hi
     obtain ⟨hB,_⟩:=(show a.eval x=sbV (B k) sz2 _ _∧_ from hx)
     split at h
     ·rename_i sz' n f' e5
      simp at h;obtain ⟨rfl,rfl⟩:=h
      obtain ⟨q0,q3,q4,_⟩:=hq
      simp only [OB.p] at q0 q3 q4
      subst q0
      obtain ⟨A,c,k1,k2,k3,k4⟩:=(show D.own _ _ _ from m.sat k _ e5)
      rcases k4 with k4 | ⟨b,o,row,G,rfl,k5⟩
      ·omega
      ·rw [k1,sbV,if_neg (by omega)] at hB
       simp only [Option.map_some,jO] at hB
       refine ⟨_,fun w _=>fin hB (by omega) w,?_,rfl⟩
       rw [k1,i9]
       have:o+lo.toNat * te.sz+j.toNat * te.sz=o+(lo+j).toNat * te.sz+0:=by
        rw [Nat.add_zero,Nat.add_assoc, ← Nat.add_mul];congr 2;omega
       rw [this]
     ·cases h
    ·cases h
   ·cases h
  ·cases h
 ·split at h
  ·rename_i t x y ti e1 e2
   obtain ⟨t1,t2⟩:=hT.get e2
   subst t1
   obtain ⟨p,v,p1,p2,p3⟩:=VO m t2 h hq (E e1)
   refine ⟨v,fun w hw=>?_,p3⟩
   simp only [execOp,p1]
   refine dO ?_
   simp only [Instr.loadAt,Instr.sureAddr,Sem.run_bind,Sem.run_pure,Result.andThen_ok,p2 w hw]
  ·cases h
 ·rename_i x ix
  split at h
  ·rename_i l e
   split at h
   ·rename_i v e2
    simp at h;obtain ⟨rfl,rfl⟩:=h
    obtain ⟨vs,e3,e4⟩:=(show ∃ vs,_ from E e)
    rw [mY] at e2
    obtain ⟨u,u1,u2⟩:=SV.rels_get e4 e2
    refine ⟨u,fun w hw=>?_,u2⟩
    simp only [execOp,e3]
    refine dO ?_
    have:vs.toArray[ix]? = some u:=by simpa using u1
    simp only [Instr.extract,this,Sem.run_pure]
   ·cases h
  ·cases h
 ·rename_i t parts
  split at h
  ·rename_i ps id sz by_ fs z ef e1 e2
   cases hall:F2 TT fs with
   | false=>rw [hall] at h;cases h
   | true =>
    rw [hall] at h
    simp only [cond_true] at h
    rw [uW,Option.bind_some] at h
    split at h
    ·rename_i l e3
     simp at h;obtain ⟨rfl,rfl⟩:=h
     obtain ⟨t1,t2⟩:=hT.get e2
     simp only at t1
     subst t1
     obtain ⟨fa,fa1,fa2⟩:=TI.ok.stc t2
     obtain ⟨inf,i1,_,_,i4⟩:=t2.info
     obtain ⟨p1,p2⟩:=AQ f hg e1
     obtain ⟨ms,b1,b2⟩:=QF (B:=B) fa1 fa2 hT hall i1 i4 e3 (parts.map fun p=>(p.1,a.eval p.2)) (by rw [Array.toList_map];exact p1) (by rw [Array.toList_map];exact p2)
     refine ⟨_,fun w hw=>?_,ms,rfl,b2⟩
     simp only [execOp]
     exact dO (b1 w)
    ·cases h
  ·cases h
 ·rename_i fn first caps
  split at h
  ·rename_i l e1 e2
   split at h
   ·rename_i l' e3
    simp at h;obtain ⟨rfl,rfl⟩:=h
    have h1:first = #[]:=by simpa using e1
    have h2:=KA e3 (f.evs hg e2)
    refine ⟨_,fun w hw=>?_,_,rfl,h2⟩
    simp only [execOp,Instr.makeFunc]
    refine dO ?_
    simp only [Sem.run_pure,h1,Array.map_empty]
    have:caps.map a.eval=(caps.toList.map a.eval).toArray:=Array.ext' (by rw [Array.toList_map])
    rw [this]
   ·cases h
  ·cases h
 ·rename_i c
  obtain ⟨callee,args,ats⟩:=c
  simp only at h
  split at h
  ·rename_i x ha
   have ha':args = #[x]:=by rw [← Array.toArray_toList (xs:=args),ha]
   subst ha'
   have fin:∀ {A:Option Addr} {n c:Nat} {t e:TypeId},a.eval x = .slice A n c→ats[0]? = some t→P.underlying t=some (.slice e)→∀ w,(execOp a.eval ⟨dst, .call ⟨.builtin .len, #[x],ats⟩,type,pos,after,guard⟩).run P w = .ok (.value (.int .i64 n)) w:=fun h1 h2 h3 w=>by
    simp only [execOp,resolve,Sem.run_bind,Sem.run_pure,Result.andThen_ok,invoke,builtin,Builtin.len_,h2,List.map_toArray,List.map_cons,List.map_nil,h1,List.getElem?_toArray,List.getElem?_cons_zero,b9 h3]
    rfl
   have tyS:∀ {id sz by_ e:Nat} {z:Value} {ef:Bool},((ats[0]?).bind (tlk · TT))=some ⟨id,sz,by_, .slc e,z,ef⟩→∃ t,ats[0]? = some t∧P.underlying t=some (.slice e):=fun e2=>by
    obtain ⟨t,e3,e4⟩:=Option.bind_eq_some_iff.1 e2
    obtain ⟨t1,t2⟩:=hT.get e4
    obtain ⟨d,d1,d2⟩:=t2.desc
    simp only at t1 d1 d2;subst t1;obtain rfl:=gQ d2
    exact ⟨_,e3,d1⟩
   split at h
   ·rename_i q' sz' n f' id sz by_ e z ef e1 e2
    simp at h;obtain ⟨rfl,rfl⟩:=h
    obtain ⟨t,e3,e4⟩:=tyS e2
    obtain ⟨A,c,k1,_⟩:=(show D.rd _ _ _ from E e1)
    exact ⟨_,fun w _=>fin k1 e3 e4 w,rfl⟩
   ·rename_i k id sz by_ e z ef e1 e2
    obtain ⟨t,e3,e4⟩:=tyS e2
    obtain ⟨hB,_⟩:=(show a.eval x=B k∧_ from E e1)
    split at h
    ·rename_i sz' n f' e5
     simp at h;obtain ⟨rfl,rfl⟩:=h
     obtain ⟨A,c,k1,_⟩:=(show D.own _ _ _ from m.sat k _ e5)
     exact ⟨_,fun w _=>fin (hB.trans k1) e3 e4 w,rfl⟩
    ·rename_i sz' n f' e5
     simp at h;obtain ⟨rfl,rfl⟩:=h
     obtain ⟨A,c,k1,_⟩:=(show D.rd _ _ _ from m.sat k _ e5)
     exact ⟨_,fun w _=>fin (hB.trans k1) e3 e4 w,rfl⟩
    ·rename_i sz' n f' i0 k20 e5
     simp at h;obtain ⟨rfl,rfl⟩:=h
     obtain ⟨A,c,k1,_⟩:=m.sat k _ e5
     exact ⟨_,fun w _=>fin (hB.trans k1) e3 e4 w,rfl⟩
    ·cases h
   ·rename_i k sz2 lo hi id sz by_ e z ef e1 e2
    obtain ⟨t,e3,e4⟩:=tyS e2
    obtain ⟨hB,_⟩:=(show a.eval x=sbV (B k) sz2 _ _∧_ from E e1)
    split at h
    ·rename_i sz' n f' e5
     simp at h;obtain ⟨rfl,rfl⟩:=h
     obtain ⟨A,c,k1,_⟩:=AW (m.sat k _ e5)
     rw [k1] at hB
     exact ⟨_,fun w _=>fin hB e3 e4 w,by show Value.int _ _=Value.int _ _;congr 1;omega⟩
    ·cases h
   ·rename_i k2 n2 c2 id sz by_ e z ef e1 e2
    simp at h;obtain ⟨rfl,rfl⟩:=h
    obtain ⟨t,e3,e4⟩:=tyS e2
    obtain ⟨_,_,A,k1⟩:=(show a.eval x=B _∧_∧_ from E e1)
    exact ⟨_,fun w _=>fin k1 e3 e4 w,rfl⟩
   ·rename_i A n c id sz by_ e z ef e1 e2
    simp at h;obtain ⟨rfl,rfl⟩:=h
    obtain ⟨t,e3,e4⟩:=tyS e2
    exact ⟨_,fun w _=>fin (E e1) e3 e4 w,rfl⟩
   ·rename_i s id sz by_ z ef e1 e2
    simp at h;obtain ⟨rfl,rfl⟩:=h
    obtain ⟨t,e3,e4⟩:=Option.bind_eq_some_iff.1 e2
    obtain ⟨t1,t2⟩:=hT.get e4
    obtain ⟨d,d1,d2⟩:=t2.desc
    simp only at t1 d1 d2;subst t1;obtain rfl:=xS d2
    have e1:a.eval x=_:=E e1
    refine ⟨_,fun w hw=>?_,rfl⟩
    simp only [execOp,resolve,Sem.run_bind,Sem.run_pure,Result.andThen_ok,invoke,builtin,Builtin.len_,e3,List.map_toArray,List.map_cons,List.map_nil,e1,List.getElem?_toArray,List.getElem?_cons_zero,b9 d1]
    rfl
   ·cases h
  ·rename_i x ha
   have ha':args = #[x]:=by rw [← Array.toArray_toList (xs:=args),ha]
   subst ha'
   split at h
   ·rename_i k2 n2 c2 id sz by_ e z ef e1 e2
    simp at h;obtain ⟨rfl,rfl⟩:=h
    obtain ⟨t,e3,e4⟩:=Option.bind_eq_some_iff.1 e2
    obtain ⟨t1,t2⟩:=hT.get e4
    obtain ⟨d,d1,d2⟩:=t2.desc
    simp only at t1 d1 d2;subst t1;obtain rfl:=gQ d2
    obtain ⟨_,_,A,k1⟩:=(show a.eval x=B _∧_∧_ from E e1)
    refine ⟨_,fun w hw=>?_,rfl⟩
    simp only [execOp,resolve,Sem.run_bind,Sem.run_pure,Result.andThen_ok,invoke,builtin,Builtin.cap_,e3,List.map_toArray,List.map_cons,List.map_nil,k1,List.getElem?_toArray,List.getElem?_cons_zero,b9 d1]
    rfl
   ·cases h
  ·rename_i x y ha
   have ha':args = #[x,y]:=by rw [← Array.toArray_toList (xs:=args),ha]
   subst ha'
   split at h
   ·rename_i p q' e1 e2
    simp at h;obtain ⟨rfl,rfl⟩:=h
    have e1:a.eval x=_:=E e1
    have e2:a.eval y=_:=E e2
    refine ⟨_,fun w hw=>?_,rfl⟩
    simp only [execOp,resolve,Sem.run_bind,Sem.run_pure,Result.andThen_ok,invoke,builtin,Builtin.max_,List.map_toArray,List.map_cons,List.map_nil,e1,e2,List.foldlM_cons,List.foldlM_nil,Builtin.max2]
   ·cases h
  ·rename_i x y ha
   have ha':args = #[x,y]:=by rw [← Array.toArray_toList (xs:=args),ha]
   subst ha'
   split at h
   ·rename_i p q' e1 e2
    simp at h;obtain ⟨rfl,rfl⟩:=h
    have e1:a.eval x=_:=E e1
    have e2:a.eval y=_:=E e2
    refine ⟨_,fun w hw=>?_,rfl⟩
    simp only [execOp,resolve,Sem.run_bind,Sem.run_pure,Result.andThen_ok,invoke,builtin,Builtin.min_,List.map_toArray,List.map_cons,List.map_nil,e1,e2,List.foldlM_cons,List.foldlM_nil,Builtin.min2]
   ·cases h
  ·cases h
 ·rename_i s d x
  split at h
  ·rename_i k n i1 sz1 b1 k1 z1 f1 i2 sz2 b2 z2 f2 e1 e2 e3
   simp at h;obtain ⟨rfl,rfl⟩:=h
   obtain ⟨t1,t2⟩:=hT.get e2
   obtain ⟨d',d1,d2⟩:=t2.desc
   obtain ⟨u1,u2⟩:=hT.get e3
   obtain ⟨d'',d3,d4⟩:=u2.desc
   simp only at t1 d1 d2 u1 d3 d4
   subst t1;subst u1
   obtain rfl:=mW d2
   obtain rfl:=mW d4
   have e1:a.eval x=_:=E e1
   refine ⟨_,fun w hw=>?_,rfl⟩
   simp only [execOp,e1]
   refine dO ?_
   simp only [convert,Sem.run_bind,b9 d1,b9 d3,Result.andThen_ok,Conv.intToInt,Sem.run_pure,s8 hq.1]
  ·rename_i k n i1 sz1 b1 k1 z1 f1 i2 sz2 b2 z2 f2 e1 e2 e3
   simp at h;obtain ⟨rfl,rfl⟩:=h
   obtain ⟨t1,t2⟩:=hT.get e2
   obtain ⟨d',d1,d2⟩:=t2.desc
   obtain ⟨u1,u2⟩:=hT.get e3
   obtain ⟨d'',d3,d4⟩:=u2.desc
   simp only at t1 d1 d2 u1 d3 d4
   subst t1;subst u1
   obtain rfl:=mW d2
   obtain rfl:=mW d4
   have e1:a.eval x=_:=E e1
   refine ⟨_,fun w hw=>?_,rfl⟩
   simp only [execOp,e1]
   refine dO ?_
   simp only [convert,Sem.run_bind,b9 d1,b9 d3,Result.andThen_ok,Conv.intToInt,Sem.run_pure]
  ·rename_i k n i1 sz1 b1 k1 z1 f1 i2 sz2 b2 z2 f2 e1 e2 e3
   simp at h;obtain ⟨rfl,rfl⟩:=h
   obtain ⟨t1,t2⟩:=hT.get e2
   obtain ⟨d',d1,d2⟩:=t2.desc
   obtain ⟨u1,u2⟩:=hT.get e3
   obtain ⟨d'',d3,d4⟩:=u2.desc
   simp only at t1 d1 d2 u1 d3 d4
   subst t1;subst u1
   obtain rfl:=mW d2
   obtain rfl:=mW d4
   have e1:a.eval x=_:=E e1
   refine ⟨_,fun w hw=>?_,rfl⟩
   simp only [execOp,e1]
   refine dO ?_
   have hw64:IntKind.u64.wrap n=n:=by
    obtain ⟨⟨q1,q2⟩,_⟩:=hq
    show n.emod (2 ^ 64)=n
    exact Int.emod_eq_of_lt q1 (by have : (2:Int)^64 = 18446744073709551616 := by decide
                                   omega)
   simp only [convert,Sem.run_bind,b9 d1,b9 d3,Result.andThen_ok,Conv.intToInt,Sem.run_pure,hw64]
  ·cases h
 ·rename_i t x ix
  split at h
  ·rename_i s k j id sz by_ z ef e1 e2 e3
   simp at h;obtain ⟨rfl,rfl⟩:=h
   obtain ⟨⟨q1,q2⟩,_⟩:=hq
   obtain ⟨t1,t2⟩:=hT.get e3
   obtain ⟨d,d1,d2⟩:=t2.desc
   simp only at t1 d1 d2;subst t1;obtain rfl:=xS d2
   have e1:a.eval x=_:=E e1
   have e2:a.eval ix=_:=E e2
   refine ⟨_,fun w hw=>?_,rfl⟩
   simp only [execOp,e1,e2]
   refine dO ?_
   have hs:s[j.toNat]? = some (s.data.toList.getD j.toNat 0):=by
    have hlt:j.toNat<s.size:=by omega
    rw [getElem?_pos s j.toNat hlt]
    have hl:j.toNat<s.data.toList.length:=by simpa using hlt
    rw [List.getD_eq_getElem?_getD,List.getElem?_eq_getElem hl]
    rfl
   simp only [Instr.index,asIntOf,Sem.run_bind,Sem.run_pure,Result.andThen_ok,b9 d1,if_pos q1,hs]
   simp
  ·cases h
 ·rename_i t x lo hi
  split at h
  ·rename_i s id sz by_ z ef e1 e3
   obtain ⟨t1,t2⟩:=hT.get e3
   obtain ⟨d,d1,d2⟩:=t2.desc
   simp only at t1 d1 d2;subst t1;obtain rfl:=xS d2
   have hx:a.eval x=_:=E e1
   split at h
   ·rename_i l hh e4 e5
    simp at h;obtain ⟨rfl,rfl⟩:=h
    obtain ⟨⟨q1,q2,q3⟩,_⟩:=hq
    refine ⟨_,fun w hw=>?_,rfl⟩
    have:=mN (P:=P) (w:=w) (b:=false) (len:=s.size) (cap:=s.size) (qN f hg e4) (qN f hg e5) ⟨q1,q2⟩ q3
    simp only [execOp,hx,Option.map_none]
    refine dO ?_
    simp only [Instr.sliceAt,Instr.slice,Sem.run_bind,b9 d1,Result.andThen_ok,Option.isSome_none,Bool.false_eq_true,if_false,Sem.run_pure,this]
   ·cases h
  ·rename_i k' n c id sz by_ e z ef e1 e3
   obtain ⟨t1,t2⟩:=hT.get e3
   obtain ⟨d,d1,d2⟩:=t2.desc
   simp only at t1 d1 d2;subst t1;obtain rfl:=gQ d2
   split at h
   ·rename_i te e5
    obtain ⟨u1,u2⟩:=hT.get e5
    obtain ⟨i,i1,i2,_⟩:=u2.info
    rw [u1] at i1
    obtain ⟨hB,_,A,hx⟩:=(show a.eval x=B k'∧_∧∃ A,a.eval x=Value.slice A n c from E e1)
    have hx':B k' = .slice A n c:=hB.symm.trans hx
    split at h
    ·rename_i l e7
     simp at h;obtain ⟨rfl,rfl⟩:=h
     obtain ⟨⟨q1,q2,q4⟩,_⟩:=hq
     refine ⟨_,fun w _=>?_,rfl,by rw [hx'];rfl⟩
     have:=mN (P:=P) (w:=w) (b:=true) (len:=n) (cap:=c) (hi:=none) (qN f hg e7) (.inl ⟨rfl,rfl⟩) ⟨q1,q2⟩ (by omega)
     simp only [execOp,hx,hx',Option.map_none]
     refine dO ?_
     simp only [Instr.sliceAt,Instr.slice,Sem.run_bind,b9 d1,Result.andThen_ok,Sem.run_pure,this,kB i1,i2]
     have e:((n:Int) - l).toNat=(n:Int).toNat - l.toNat:=by omega
     rw [e];rfl
    ·cases h
   ·cases h
  ·rename_i y id sz by_ e z ef ngl e1 e3
   obtain ⟨t1,t2⟩:=hT.get e3
   obtain ⟨d,d1,d2⟩:=t2.desc
   simp only at t1 d1 d2;subst t1;obtain rfl:=gQ d2
   split at h
   ·rename_i k' sz' n te e4 e5
    obtain ⟨u1,u2⟩:=hT.get e5
    obtain ⟨i,i1,i2,_⟩:=u2.info
    rw [u1] at i1
    have own:∃ f,y = .g k'∧mlk k' mu=some (.arr sz' n f):=by
     unfold ownA at e4
     split at e4
     ·rename_i k2
      split at e4
      ·rename_i sz2 n2 f2 e6
       simp at e4;obtain ⟨rfl,rfl,rfl⟩:=e4
       exact ⟨_,rfl,e6⟩
      ·cases e4
     ·cases e4
    obtain ⟨f',rfl,e6⟩:=own
    obtain ⟨A,c,hx,c1,c2,c3⟩:=(show D.own _ _ _ from m.sat k' _ e6)
    obtain ⟨hB,_⟩:=(show a.eval x=B k'∧_ from E e1)
    split at h
    ·rename_i l hh e7 e8
     simp at h;obtain ⟨rfl,rfl⟩:=h
     obtain ⟨rfl,⟨q1,q2,q3⟩,_⟩:=hq
     refine ⟨_,fun w _=>?_,rfl,by rw [hx];rfl⟩
     have:=mN (P:=P) (w:=w) (b:=true) (len:=n) (cap:=c) (qN f hg e7) (qN f hg e8) ⟨q1,q2⟩ (by omega)
     simp only [execOp,hB,hx,Option.map_none]
     refine dO ?_
     simp only [Instr.sliceAt,Instr.slice,Sem.run_bind,b9 d1,Result.andThen_ok,Sem.run_pure,this,kB i1,i2]
     have e:(hh - l).toNat=hh.toNat - l.toNat:=by omega
     rw [e];rfl
    ·cases h
   ·rename_i te e4 e5
    split at h
    ·rename_i q' sz' n f' ob e6
     have fin:∀ {A:Option Addr} {c:Nat} {l hh:Int},a.eval x = .slice A n c→n≤c→pO g fr gf 0 lo=some l→pO g fr gf n hi=some hh→0≤l∧l≤hh∧hh≤n→∀ w,(execOp a.eval ⟨dst, .slice id x lo hi none,type,pos,after,guard⟩).run P w = .ok (.value (.slice (if c=l.toNat then A else A.map (·.add (l.toNat * te.sz))) (hh.toNat - l.toNat) (c - l.toNat))) w:=fun {A c l hh} hx c1 h1 h2 h3 w=>by
      obtain ⟨u1,u2⟩:=hT.get e5
      obtain ⟨i,i1,i2,_⟩:=u2.info
      rw [u1] at i1
      have:=mN (P:=P) (w:=w) (b:=true) (len:=n) (qN f hg h1) (qN f hg h2) ⟨h3.1,h3.2.1⟩ (Int.le_trans h3.2.2 (Int.ofNat_le.2 c1))
      simp only [execOp,hx,Option.map_none]
      refine dO ?_
      simp only [Instr.sliceAt,Instr.slice,Sem.run_bind,b9 d1,Result.andThen_ok,Sem.run_pure,this,kB i1,i2]
     split at h
     ·split at h
      ·rename_i hh e7
       simp at h;obtain ⟨rfl,rfl⟩:=h
       obtain ⟨rfl,q1,q2⟩:=hq
       simp only [OB.p] at q1
       have hr:=x8 m e6 q2 (E e1)
       obtain ⟨A,c,hx,c1,c2,c3⟩:=(show D.rd _ _ _ from hr)
       rw [hx] at hr
       refine ⟨_,fun w _=>fin hx c1 rfl e7 (by omega) w,?_⟩
       have:=L5 (l:=0) (x:=hh.toNat) hr (by omega) (by omega)
       simp only [Nat.sub_zero,Nat.zero_add] at this
       exact this
      ·cases h
     ·rename_i lo'
      split at h
      ·rename_i l hh e7 e8
       simp at h;obtain ⟨rfl,rfl⟩:=h
       obtain ⟨rfl,q1,q2⟩:=hq
       simp only [OB.p] at q1
       have hr:=x8 m e6 q2 (E e1)
       obtain ⟨A,c,hx,c1,c2,c3⟩:=(show D.rd _ _ _ from hr)
       rw [hx] at hr
       refine ⟨_,fun w _=>fin hx c1 e7 e8 q1 w,?_⟩
       have:=L5 (l:=l.toNat) (x:=hh.toNat) hr (by omega) (by omega)
       have e:(hh - l).toNat=hh.toNat - l.toNat:=by omega
       show D.rd _ (.sl _ (hh - l).toNat _) _
       rw [e]
       exact this
      ·cases h
    ·cases h
   ·cases h
  ·cases h
 ·cases h
end
end
section
def iQ:Nat→GF→Nat→Bool→Gd
 | 0,_,d,w=>[(d,w)]
 | n+1,gf,d,w=>match glk d gf with
  | some (d2,w2,_)=>(d,w) :: iQ n gf d2 w2
  | none=>[(d,w)]
def UQ (d:Nat) (fr:Fr) (gf:GF):Option SV :=
 match glk d gf with
 | some (_,_,x)=>some x
 | none=>mlk d fr
def x4 (fr:Fr) (gf:GF):Gd→Prop→GO
 | [],p => .t p
 | (d,w) :: r,p=>match UQ d fr gf with
  | some (.a (.v (.bool b)))=>match x4 fr gf r p with
   | .t q => .g b w (.t q)
   | .g b' w' q => .g b w (.g b' w' q)
  | _=>x4 fr gf r p
def cP (fr:Fr) (gf:GF) (g:Gd):Ob→List Prop→List GO→Option (List Prop×List GO)
 | [],es,gs=>some (es,gs)
 | .e p :: r,es,gs=>cP fr gf g r (p :: es) gs
 | .o p :: r,es,gs=>match x4 fr gf g p with
  | .t q=>cP fr gf g r es (.t q :: gs)
  | .g b w q=>cP fr gf g r es (.g b w q :: gs)
def V.okC:V→Bool
 | .v x=>eL x
 | .s .r _ _ _=>true
 | .g _=>true
 | .p _ _=>true
 | .pe _ _ _ _=>true
 | .sb _ _ _ _=>true
 | .rp .r _ _=>true
 | _=>false
def oE:List V→Bool
 | []=>true
 | x :: r=>bif x.okC then oE r else false
def mK:List V→Option (List D)
 | []=>some []
 | .v x :: r=>match mK r with
  | some l=>bif eL x then some (.v x :: l) else none
  | none=>none
 | _ :: _=>none
def V.uses (k:Nat) (x:V):Bool:=bif x.usesB k then true else x.usesT k
def gJ (k:Nat) (fr:Fr) (gf:GF) (mu:Mu) (ks:List Nat):Bool:=bif fN (V.uses k) fr then false else bif fJ (V.uses k) gf then false else bif lU (V.uses k) k mu then false else !bD k ks
def mst (TT:List TI) (ks:List Nat) (fr:Fr) (gf:GF) (mu:Mu) (dst:Option Nat) (o:Op):Option (Option SV×Bool×Nat×Ch×Ob) :=
 match o,dst with
 | .box _ x,some k=>match ev [] fr gf x with
  | some y=>match y.cells with
   | some l=>bif (oE l && gJ k fr gf mu ks && !(eM (V.uses k) l)) then some (some (.a (.p k 0)),true,k, .row l,[]) else none
   | none=>none
  | none=>none
 | .alloc t,some k=>match tlk t TT with
  | some ti=>match kA ti.zero with
   | some l=>bif (oE l && gJ k fr gf mu ks) then some (some (.a (.p k 0)),true,k, .row l,[]) else none
   | none=>none
  | none=>none
 | .store t ad x,none=>match ev [] fr gf ad,ev [] fr gf x,tlk t TT with
  | some (.a (.p k o)),some y,some ti=>match mlk k mu,y.cells with
   | some (.row l),some cs=>bif (l8 cs ti.sz && oE cs) then match dU l o cs with
     | some l'=>some (none,false,k, .row l',[])
     | none=>none
    else none
   | _,_=>none
  | some (.a (.pe k sz i o)),some y,some ti=>match mlk k mu,y.cells.bind mK with
   | some (.arr sz' n f),some cs=>bif l8 cs ti.sz then match dU (f i.toNat) o cs with
     | some l'=>some (none,false,k, .arr sz' n (fun j=>bif Nat.beq j i.toNat then l' else f j),[.e (sz=sz'), .o (0≤i∧i<n)])
     | none=>none
    else none
   | _,_=>none
  | _,_,_=>none
 | _,_=>none
def A0 (nw:Bool) (k:Nat) (fr:Fr) (gf:GF):Option (Fr×GF):=bif nw then some (fr,gf) else match fW (V.usesT k) fr,f0 (V.usesT k) gf with
 | some fr',some gf'=>some (fr',gf')
 | _,_=>none
def rE (all:List Oper) (j:Nat):Option Nat:=match nth all j with
 | some o=>o.dst
 | none=>none
def run (TT:List TI) (N:Nat) (ks:List Nat) (all:List Oper):List Oper→Fr→GF→Mu→List Prop→List GO→Option (List Oper×Fr×GF×Mu×List Prop×List GO)
 | [],fr,gf,mu,es,gs=>some ([],fr,gf,mu,es,gs)
 | o :: r,fr,gf,mu,es,gs=>match o.guard with
  | none=>match pst TT fr gf mu [] o.op,o.dst with
   | some (x,q),some t=>match cP fr gf [] q es gs,cU t gf with
    | some (es',gs'),some gf'=>bif Nat.blt t N then run TT N ks all r ((t,x) :: fr) gf' mu es' gs' else none
    | _,_=>none
   | _,d=>match mst TT ks fr gf mu d o.op with
    | some (x,nw,k,c,q)=>match cP fr gf [] q es gs,gB k c mu,A0 nw k fr gf with
     | some (es',gs'),some mu',some (fr',gf0)=>match x,d with
      | some x,some t=>match cU t gf0 with
       | some gf'=>bif Nat.blt t N then run TT N ks all r ((t,x) :: fr') gf' mu' es' gs' else none
       | none=>none
      | none,none=>run TT N ks all r fr' gf0 mu' es' gs'
      | _,_=>none
     | _,_,_=>none
    | none=>some (o :: r,fr,gf,mu,es,gs)
  | some (j,w)=>match rE all j with
   | some d=>match pst TT fr gf mu (iQ 6 gf d w) o.op,o.dst with
    | some (x,q),some t=>match mlk t fr with
     | none=>match cP fr gf (iQ 6 gf d w) q es gs,cU t gf with
      | some (es',gs'),some gf'=>bif (Nat.blt t N && !(Nat.beq t d)) then run TT N ks all r fr ((t,d,w,x) :: gf') mu es' gs' else none
      | _,_=>none
     | some _=>none
    | _,_=>some (o :: r,fr,gf,mu,es,gs)
   | none=>none
structure An where
 ks:List Nat
 B:BE
structure Env where
 P:Program
 A:An
 N:Nat
 r:PH
 D:Nat→Nat→Prop
 w0:World
structure Mem (E:Env) (B:BE) (mu:Mu) (w:World) (H:Nat→PH):Prop where
 mm:Mm B E.r mu w H
 keep:Keep E.D E.w0 w
 dom:∀ k b o,H k b o≠none→E.D b o∨E.w0.heap.size≤b
 anch:∀ k,bD k E.A.ks=true→B k=E.A.B k
theorem Mem.mr {E:Env} {B:BE} {mu:Mu} {w:World} {H:Nat→PH} (m:Mem E B mu w H):Mr B E.r mu w H:=m.mm.mr
abbrev FitsE (E:Env) (B:BE) (H:Nat→PH) (fr:Fr) (gf:GF) (a:Act):Prop:=Fits E.P B (Zf E.r H) E.N fr gf a
theorem iM {t:Nat}:∀ {gf l:GF},cU t gf=some l→∀ {e:Nat×Nat×Bool×SV},e ∈ l→e ∈ gf∧e.1≠t∧e.2.1≠t
 | [],l,h,e,hm=>by simp [cU] at h;subst h;cases hm
 | (j,d,w,x) :: r,l,h,e,hm=>by
  simp only [cU] at h
  cases e1:cU t r with
  | none=>rw [e1] at h;cases h
  | some l' =>
   rw [e1] at h
   simp only at h
   cases c:(Nat.beq j t || Nat.beq d t) with
   | true =>
    rw [c] at h
    simp at h
    subst h
    obtain ⟨h1,h2⟩:=iM e1 hm
    exact ⟨List.mem_cons_of_mem _ h1,h2⟩
   | false =>
    rw [c] at h
    simp at h
    subst h
    simp only [Bool.or_eq_false_iff] at c
    cases hm with
    | head=>exact ⟨List.mem_cons_self,Nat.ne_of_beq_eq_false c.1,Nat.ne_of_beq_eq_false c.2⟩
    | tail _ hm =>
     obtain ⟨h1,h2⟩:=iM e1 hm
     exact ⟨List.mem_cons_of_mem _ h1,h2⟩
theorem bO {α:Type} (k j:Nat) (x:α) (l:List (Nat×α)):mlk k ((j,x) :: l)=if j=k then some x else mlk k l:=by
 simp only [mlk]
 by_cases h:j=k
 ·subst h;simp [Nat.beq_refl]
 ·rw [if_neg h,show Nat.beq j k=false from by
   cases e:Nat.beq j k with
   | false=>rfl
   | true=>exact absurd (Nat.eq_of_beq_eq_true e) h]
  rfl
theorem jD {a:Act} {t t':Nat} {v:Value} (h:t<a.tmps.size):(a.put (some t) v).tmps.getD t' undef=if t=t' then v else a.tmps.getD t' undef:=by
 simp only [Act.put]
 by_cases e:t=t'
 ·subst e;simp [h]
 ·rw [if_neg e];simp [Array.getElem?_setIfInBounds_ne e]
section
variable {P:Program} {w w0:World} {B:BE} {Z:Tg→PH} {mu:Mu} {TT:List TI} {N:Nat} {fr:Fr} {gf:GF} {a:Act}
theorem Fits.put (f:Fits P B Z N fr gf a) {t:Nat} (ht:t<N) {x:SV} {v:Value} (hv:SV.rel P B Z x v) {gf':GF} (hg:cU t gf=some gf'):Fits P B Z N ((t,x) :: fr) gf' (a.put (some t) v):=by
 have hs:t<a.tmps.size:=by rw [f.size];exact ht
 refine ⟨by simp [Act.put,f.size],f.defers,fun t' y h1 h2=>?_,fun t' d w y h1 h2=>?_,fun t' d w y h1 h2=>?_,fun t' d w y h1=>?_⟩
 ·rw [jD hs]
  rw [bO] at h1
  by_cases e:t=t'
  ·rw [if_pos e] at h1 ⊢;injection h1 with h1;rw [← h1];exact hv
  ·rw [if_neg e] at h1 ⊢
   refine f.vfr t' y h1 ?_
   cases c:glk t' gf with
   | none=>rfl
   | some q=>rw [f.vno t' q.1 q.2.1 q.2.2 (nH c)] at h1;cases h1
 ·obtain ⟨g1,g2,g3⟩:=iM hg h1
  simp only at g2 g3
  rw [jD hs,if_neg (Ne.symm g3)] at h2
  rw [jD hs,if_neg (Ne.symm g2)]
  exact f.vgf t' d w y g1 h2
 ·obtain ⟨g1,g2,g3⟩:=iM hg h1
  simp only at g2 g3
  rw [jD hs,if_neg (Ne.symm g3)] at h2
  rw [jD hs,if_neg (Ne.symm g2)]
  exact f.vgu t' d w y g1 h2
 ·obtain ⟨g1,g2,g3⟩:=iM hg h1
  simp only at g2
  rw [bO,if_neg (Ne.symm g2)]
  exact f.vno t' d w y g1
theorem Fits.putG (f:Fits P B Z N fr gf a) {t d:Nat} {w:Bool} (ht:t<N) (hd:t≠d) (hn:mlk t fr=none) {x:SV} {v:Value} {gf':GF} (hg:cU t gf=some gf') (hv:(a.tmps.getD d undef = .bool w∧SV.rel P B Z x v)∨(a.tmps.getD d undef ≠ .bool w∧v=undef)) :
  Fits P B Z N fr ((t,d,w,x) :: gf') (a.put (some t) v):=by
 have hs:t<a.tmps.size:=by rw [f.size];exact ht
 refine ⟨by simp [Act.put,f.size],f.defers,fun t' y h1 h2=>?_,fun t' d' w' y h1 h2=>?_,fun t' d' w' y h1 h2=>?_,fun t' d' w' y h1=>?_⟩
 ·by_cases e:t=t'
  ·subst e;rw [hn] at h1;cases h1
  ·rw [jD hs,if_neg e]
   refine f.vfr t' y h1 ?_
   cases c:glk t' gf with
   | none=>rfl
   | some q=>rw [f.vno t' q.1 q.2.1 q.2.2 (nH c)] at h1;cases h1
 ·cases h1 with
  | head =>
   rw [jD hs,if_pos rfl]
   rw [jD hs,if_neg hd] at h2
   rcases hv with ⟨_,h3⟩ | ⟨h3,_⟩
   ·exact h3
   ·exact absurd h2 h3
  | tail _ h1 =>
   obtain ⟨g1,g2,g3⟩:=iM hg h1
   simp only at g2 g3
   rw [jD hs,if_neg (Ne.symm g3)] at h2
   rw [jD hs,if_neg (Ne.symm g2)]
   exact f.vgf t' d' w' y g1 h2
 ·cases h1 with
  | head =>
   rw [jD hs,if_pos rfl]
   rw [jD hs,if_neg hd] at h2
   rcases hv with ⟨h3,_⟩ | ⟨_,rfl⟩
   ·exact absurd h3 h2
   ·rfl
  | tail _ h1 =>
   obtain ⟨g1,g2,g3⟩:=iM hg h1
   simp only at g2 g3
   rw [jD hs,if_neg (Ne.symm g3)] at h2
   rw [jD hs,if_neg (Ne.symm g2)]
   exact f.vgu t' d' w' y g1 h2
 ·cases h1 with
  | head=>exact hn
  | tail _ h1=>exact f.vno t' d' w' y (iM hg h1).1
theorem mE (f:Fits P B Z N fr gf a):∀ (n:Nat) (d:Nat) (w:Bool),a.tmps.getD d undef = .bool w→∀ d' w',(d',w') ∈ iQ n gf d w→a.tmps.getD d' undef = .bool w'
 | 0,d,w,h,d',w',hm=>by
  simp only [iQ,List.mem_singleton,Prod.mk.injEq] at hm
  obtain ⟨rfl,rfl⟩:=hm;exact h
 | n+1,d,w,h,d',w',hm=>by
  simp only [iQ] at hm
  cases e:glk d gf with
  | none =>
   rw [e] at hm
   simp only [List.mem_singleton,Prod.mk.injEq] at hm
   obtain ⟨rfl,rfl⟩:=hm;exact h
  | some q =>
   obtain ⟨d2,w2,x⟩:=q
   rw [e] at hm
   cases hm with
   | head=>exact h
   | tail _ hm =>
    refine mE f n d2 w2 ?_ d' w' hm
    refine Classical.byContradiction fun hne=>?_
    have:=f.vgu d d2 w2 x (nH e) hne
    rw [this] at h
    cases h
theorem X7 (f:Fits P B Z N fr gf a) {d:Nat} {w b:Bool} (h:a.tmps.getD d undef = .bool w) (e:UQ d fr gf=some (.a (.v (.bool b)))):b=w:=by
 unfold UQ at e
 cases c:glk d gf with
 | none =>
  rw [c] at e
  have:=f.vfr d _ e c
  rw [h] at this
  have this:Value.bool w=Value.bool b:=this
  injection this with this
  exact this.symm
 | some q =>
  obtain ⟨d2,w2,x⟩:=q
  rw [c] at e
  simp at e
  subst e
  have h2:a.tmps.getD d2 undef = .bool w2:=by
   refine Classical.byContradiction fun hne=>?_
   have:=f.vgu d d2 w2 _ (nH c) hne
   rw [this] at h
   cases h
  have:=f.vgf d d2 w2 _ (nH c) h2
  rw [h] at this
  have this:Value.bool w=Value.bool b:=this
  injection this with this
  exact this.symm
theorem DA (f:Fits P B Z N fr gf a):∀ {g:Gd} {p:Prop},(∀ d w,(d,w) ∈ g→a.tmps.getD d undef = .bool w)→(x4 fr gf g p).p→p
 | [],p,_,h=>h
 | (d,w) :: r,p,hg,h=>by
  have hr:=DA f (g:=r) (p:=p) (fun d w hm=>hg d w (List.mem_cons_of_mem _ hm))
  simp only [x4] at h
  split at h
  ·rename_i b e
   have hb:=X7 f (hg d w List.mem_cons_self) e
   split at h
   ·rename_i q e2;rw [e2] at hr;exact hr (h hb)
   ·rename_i b' w' q e2;rw [e2] at hr;exact hr (h hb)
  ·exact hr h
theorem eS (f:Fits P B Z N fr gf a) {g:Gd} (hg:∀ d w,(d,w) ∈ g→a.tmps.getD d undef = .bool w):∀ {q:Ob} {es es':List Prop} {gs gs':List GO},cP fr gf g q es gs=some (es',gs')→cC es'→cB gs'→jJ q
 | [],_,_,_,_,_,_,_=>trivial
 | .e p :: r,es,es',gs,gs',h,h1,h2=>by
  simp only [cP] at h
  have key:∀ {q:Ob} {es es':List Prop} {gs gs':List GO},cP fr gf g q es gs=some (es',gs')→cC es'→cC es:=fun {q}=>by
   induction q with
   | nil=>intro es es' gs gs' h h1;simp [cP] at h;rw [h.1];exact h1
   | cons x r ih =>
    intro es es' gs gs' h h1
    cases x with
    | e p=>exact (ih h h1).2
    | o p=>simp only [cP] at h;split at h <;>exact ih h h1
  exact ⟨(key h h1).1,eS f hg h h1 h2⟩
 | .o p :: r,es,es',gs,gs',h,h1,h2=>by
  simp only [cP] at h
  have key:∀ {q:Ob} {es es':List Prop} {gs gs':List GO},cP fr gf g q es gs=some (es',gs')→cB gs'→cB gs:=fun {q}=>by
   induction q with
   | nil=>intro es es' gs gs' h h1;simp [cP] at h;rw [h.2];exact h1
   | cons x r ih =>
    intro es es' gs gs' h h1
    cases x with
    | e p=>exact ih h h1
    | o p=>simp only [cP] at h;split at h <;>exact (ih h h1).2
  split at h
  ·rename_i q e
   have:=(key h h2).1
   exact ⟨DA f hg (show (x4 fr gf g p).p by rw [e];exact this),eS f hg h h1 h2⟩
  ·rename_i b w q e
   have:=(key h h2).1
   exact ⟨DA f hg (show (x4 fr gf g p).p by rw [e];exact this),eS f hg h h1 h2⟩
theorem hO {g:Gd}:∀ {q:Ob} {es es':List Prop} {gs gs':List GO},cP fr gf g q es gs=some (es',gs')→cC es'∧cB gs'→cC es∧cB gs
 | [],es,es',gs,gs',h,hh=>by simp [cP] at h;rw [h.1,h.2];exact hh
 | .e p :: r,es,es',gs,gs',h,hh=>by
  simp only [cP] at h
  exact ⟨(hO h hh).1.2,(hO h hh).2⟩
 | .o p :: r,es,es',gs,gs',h,hh=>by
  simp only [cP] at h
  split at h <;>exact ⟨(hO h hh).1,(hO h hh).2.2⟩
end
def PH.updL (h:PH) (b o:Nat) (l:List Value):PH:=fun x y=>if x=b∧o≤y∧y<o+l.length then l[y - o]? else h x y
theorem PH.updL_in (h:PH) (b o:Nat) (l:List Value) {j:Nat} (hj:j<l.length):h.updL b o l b (o+j)=l[j]? := by
 unfold PH.updL;rw [if_pos ⟨rfl,by omega,by omega⟩];congr 1;omega
theorem PH.updL_out (h:PH) {b o x y:Nat} {l:List Value} (n:¬ (x=b∧o≤y∧y<o+l.length)):h.updL b o l x y=h x y:=by
 unfold PH.updL;rw [if_neg n]
theorem PH.updL_ne {h:PH} {b o:Nat} {l:List Value} (hl:∀ j,j<l.length→h b (o+j)≠none) {x y:Nat} (e:h.updL b o l x y≠none):h x y≠none:=by
 by_cases c:x=b∧o≤y∧y<o+l.length
 ·obtain ⟨rfl,c1,c2⟩:=c
  have:=hl (y - o) (by omega)
  rwa [show o+(y - o)=y from by omega] at this
 ·rwa [PH.updL_out h c] at e
theorem Q0 {v:Value} (h:eL v=true):v.oneCell'=true:=by cases v <;>first | rfl | cases h
theorem qF {P:Program}:∀ (l:List Value) (w:World) (b o i:Nat) (h:PH),Fit h w→(∀ j,j<l.length→h b (o+i+j)≠none)→(∀ v ∈ l,eL v=true) →
  ∃ w',(storeCells ⟨b,o,none⟩ l i).run P w = .ok () w'∧Fit (h.updL b (o+i) l) w'∧Keep (fun x y=>x=b∧o+i≤y∧y<o+i+l.length) w w'∧w'.heap.size=w.heap.size
 | [],w,b,o,i,h,f,_,_=>by
  refine ⟨w,by simp [storeCells],?_,Keep.refl _ _,rfl⟩
  intro x y v e
  rw [PH.updL_out] at e
  ·exact f x y v e
  ·simp only [List.length_nil];omega
 | u :: l,w,b,o,i,h,f,hl,h1=>by
  have h0:=hl 0 (by simp)
  rw [Nat.add_zero] at h0
  cases e:h b (o+i) with
  | none=>exact absurd e h0
  | some v0 =>
   obtain ⟨c1,c2⟩:=f _ _ _ e
   have hu:u.oneCell'=true:=Q0 (h1 u List.mem_cons_self)
   have f1:Fit (h.upd b (o+i) u) (w.setCell ⟨b,o+i,none⟩ u):=f.upd e u
   obtain ⟨w',r1,r2,r3,r4⟩:=qF (P:=P) l (w.setCell ⟨b,o+i,none⟩ u) b o (i+1) _ f1 (fun j hj=>by
    by_cases c:o+(i+1)+j=o+i
    ·omega
    ·rw [PH.upd_other _ _ (by omega)]
     have:=hl (j+1) (by simp;omega)
     rwa [show o+i+(j+1)=o+(i+1)+j from by omega] at this) (fun v hv=>h1 v (List.mem_cons_of_mem _ hv))
   refine ⟨w',?_,?_,?_,?_⟩
   ·simp only [storeCells,Sem.run_bind]
    rw [run_store P w _ u .plain hu,jO,c1]
    simp only [c2,Bool.false_eq_true,if_false,Result.andThen_ok,r1]
   ·intro x y v hv
    refine r2 x y v ?_
    by_cases c:x=b∧o+i≤y∧y<o+i+(u :: l).length
    ·obtain ⟨rfl,c3,c4⟩:=c
     simp only [List.length_cons] at c4
     rw [show y=o+i+(y - (o+i)) from by omega,PH.updL_in _ _ _ _ (by simp;omega)] at hv
     by_cases c5:y=o+i
     ·subst c5
      rw [PH.updL_out _ (by omega)]
      simp at hv
      rw [PH.upd_same,hv]
     ·rw [show y=o+(i+1)+(y - (o+(i+1))) from by omega,PH.updL_in _ _ _ _ (by omega)]
      rw [show y - (o+i)=(y - (o+(i+1)))+1 from by omega,List.getElem?_cons_succ] at hv
      exact hv
    ·rw [PH.updL_out _ c] at hv
     simp only [List.length_cons] at c
     rw [PH.updL_out _ (by omega),PH.upd_other _ _ (by omega)]
     exact hv
   ·have k1:Keep (fun x y=>x=b∧o+i≤y∧y<o+i+(u :: l).length) w (w.setCell ⟨b,o+i,none⟩ u):=(AX w b (o+i) u).mono fun x _ y hxy=>by
     obtain ⟨rfl,rfl⟩:=hxy;simp
    refine k1.trans r3 fun x y hxy=>?_
    obtain ⟨rfl,c1,c2⟩:=hxy
    exact .inl ⟨rfl,by omega,by simp only [List.length_cons];omega⟩
   ·rw [r4];simp [World.setCell]
theorem A8 {P:Program} {ti:TI} (hti:ti.ok P) {v:Value} {l:List Value} (hv:v.cells.toList=l) (hl:l.length=ti.sz) {w:World} {b o:Nat} {h:PH} (f:Fit h w) (hin:∀ j,j<l.length→h b (o+j)≠none) (h1:∀ v ∈ l,eL v=true) :
  ∃ w',(storeVar ti.id ⟨b,o,none⟩ v).run P w = .ok () w'∧Fit (h.updL b o l) w'∧Keep (fun x y=>x=b∧o≤y∧y<o+l.length) w w'∧w'.heap.size=w.heap.size:=by
 obtain ⟨i,i1,i2,_⟩:=hti.info
 obtain ⟨w',r1,r2,r3,r4⟩:=qF (P:=P) l w b o 0 h f (by simpa using hin) h1
 refine ⟨w',?_,by simpa using r2,by simpa using r3,r4⟩
 simp only [storeVar,Sem.run_bind,kB i1,Result.andThen_ok]
 rw [if_neg (by rw [i2, ← hl, ← hv];simp),hv]
 exact r1
end
section
def BE.set (B:BE) (k:Nat) (v:Value):BE:=fun j=>if j=k then v else B j
def HF.set (H:Nat→PH) (k:Nat) (h:PH):Nat→PH:=fun j=>if j=k then h else H j
theorem BE.set_self (B:BE) (k:Nat):BE.set B k (B k)=B:=by
 funext j;unfold BE.set;split
 ·rename_i e;rw [e]
 ·rfl
theorem BE.set_eq (B:BE) (k:Nat) (v:Value):BE.set B k v k=v:=by simp [BE.set]
theorem BE.set_ne (B:BE) {k j:Nat} (v:Value) (h:j≠k):BE.set B k v j=B j:=by simp [BE.set,h]
theorem HF.set_eq (H:Nat→PH) (k:Nat) (h:PH):HF.set H k h k=h:=by simp [HF.set]
theorem HF.set_ne (H:Nat→PH) {k j:Nat} (h:PH) (n:j≠k):HF.set H k h j=H j:=by simp [HF.set,n]
theorem iA {j k:Nat} (h:Nat.beq j k=false):j≠k:=Nat.ne_of_beq_eq_false h
theorem V.rel_setB {B:BE} {Z:Tg→PH} {k:Nat} (v:Value):∀ {x:V} {y:Value},x.usesB k=false→x.rel B Z y→x.rel (BE.set B k v) Z y
 | .v _,_,_,e=>e
 | .s _ _ _ _,_,_,e=>e
 | .g j,_,h,e=>by
  have hj:j≠k:=iA h
  show _=BE.set B k v j∧_
  rw [BE.set_ne B v hj];exact e
 | .p j o,_,h,e=>by
  have hj:j≠k:=iA h
  show _=kC (BE.set B k v j) o∧_
  rw [BE.set_ne B v hj];exact e
 | .pe j sz i o,_,h,e=>by
  have hj:j≠k:=iA h
  show _=elP (BE.set B k v j) sz i o∧_
  rw [BE.set_ne B v hj];exact e
 | .sb j sz lo hi,_,h,e=>by
  have hj:j≠k:=iA h
  show _=sbV (BE.set B k v j) sz _ _∧_
  rw [BE.set_ne B v hj];exact e
 | .gl j n c,_,h,e=>by
  have hj:j≠k:=iA h
  show _=BE.set B k v j∧_
  rw [BE.set_ne B v hj];exact e
 | .rp _ _ _,_,_,e=>e
 | .any,_,_,e=>e
theorem V.own_setB {B:BE} {r h:PH} {k:Nat} (v:Value):∀ {x:V} {y:Value},x.usesB k=false→x.own B r h y→x.own (BE.set B k v) r h y
 | .v _,_,_,e=>e
 | .s _ _ _ _,_,_,e=>e
 | .g j,_,h,e=>by
  have hj:j≠k:=iA h
  show _=BE.set B k v j∧_
  rw [BE.set_ne B v hj];exact e
 | .p j o,_,h,e=>by
  have hj:j≠k:=iA h
  show _=kC (BE.set B k v j) o∧_
  rw [BE.set_ne B v hj];exact e
 | .pe j sz i o,_,h,e=>by
  have hj:j≠k:=iA h
  show _=elP (BE.set B k v j) sz i o∧_
  rw [BE.set_ne B v hj];exact e
 | .sb j sz lo hi,_,h,e=>by
  have hj:j≠k:=iA h
  show _=sbV (BE.set B k v j) sz _ _∧_
  rw [BE.set_ne B v hj];exact e
 | .gl j n c,_,h,e=>by
  have hj:j≠k:=iA h
  show _=BE.set B k v j∧_
  rw [BE.set_ne B v hj];exact e
 | .rp _ _ _,_,_,e=>e
 | .any,_,_,e=>e
theorem iL {φ:V→Bool} {x:V} {r:List V} (h:eM φ (x :: r)=false):φ x=false∧eM φ r=false:=by
 simp only [eM] at h
 cases e:φ x with
 | true=>rw [e] at h;cases h
 | false=>rw [e] at h;exact ⟨rfl,h⟩
theorem V.rels_congr {B B':BE} {Z Z':Tg→PH} {φ:V→Bool} (hc:∀ (x:V) (y:Value),φ x=false→x.rel B Z y→x.rel B' Z' y):∀ {l:List V} {y:List Value},eM φ l=false→V.rels B Z l y→V.rels B' Z' l y
 | [],_,_,e=>e
 | x :: r,_,h,e=>by
  obtain ⟨a,t,e1,e2,e3⟩:=e
  obtain ⟨h1,h2⟩:=iL h
  exact ⟨a,t,e1,hc x a h1 e2,V.rels_congr hc h2 e3⟩
theorem V.owns_congr {B B':BE} {r:PH} {φ:V→Bool} (hc:∀ (x:V) (h:PH) (y:Value),φ x=false→x.own B r h y→x.own B' r h y):∀ {l:List V} {y:List Value} {h:PH},eM φ l=false→V.owns B r h l y→V.owns B' r h l y
 | [],_,_,_,e=>e
 | x :: l,_,_,h,e=>by
  obtain ⟨a,t,g1,g2,e1,e2,e3,e4,e5,e6⟩:=e
  obtain ⟨h1,h2⟩:=iL h
  exact ⟨a,t,g1,g2,e1,e2,e3,e4,hc x g1 a h1 e5,V.owns_congr hc h2 e6⟩
mutual
theorem SV.rel_congr {P:Program} {B B':BE} {Z Z':Tg→PH} {φ:V→Bool} (hr:(Z .r).le (Z' .r)) (hc:∀ (x:V) (y:Value),φ x=false→x.rel B Z y→x.rel B' Z' y):∀ (s:SV) {y:Value},s.anyV φ=false→SV.rel P B Z s y→SV.rel P B' Z' s y
 | .a x,y,h,e=>hc x y h e
 | .ag l,_,h,e=>by obtain ⟨vs,e1,e2⟩:=e;exact ⟨vs,e1,V.rels_congr hc h e2⟩
 | .fn f l,_,h,e=>by obtain ⟨vs,e1,e2⟩:=e;exact ⟨vs,e1,V.rels_congr hc h e2⟩
 | .fb _,_,_,e=>by obtain ⟨f,vs,e1,e2⟩:=e;exact ⟨f,vs,e1,e2.mono hr⟩
 | .tu l,_,h,e=>by obtain ⟨vs,e1,e2⟩:=e;exact ⟨vs,e1,SV.rels_congr hr hc l h e2⟩
 | .un,_,_,e=>e
theorem SV.rels_congr {P:Program} {B B':BE} {Z Z':Tg→PH} {φ:V→Bool} (hr:(Z .r).le (Z' .r)) (hc:∀ (x:V) (y:Value),φ x=false→x.rel B Z y→x.rel B' Z' y):∀ (s:List SV) {y:List Value},SV.anyV.go φ s=false→SV.rels P B Z s y→SV.rels P B' Z' s y
 | [],_,_,e=>e
 | x :: r,_,h,e=>by
  obtain ⟨a,t,e1,e2,e3⟩:=e
  simp only [SV.anyV.go] at h
  cases c:x.anyV φ with
  | true=>rw [c] at h;cases h
  | false=>rw [c] at h;exact ⟨a,t,e1,SV.rel_congr hr hc x c e2,SV.rels_congr hr hc r h e3⟩
end
theorem AL {φ:V→Bool}:∀ {fr:Fr},fN φ fr=false→∀ t x,mlk t fr=some x→x.anyV φ=false
 | [],_,_,_,h=>by cases h
 | (j,y) :: r,h,t,x,e=>by
  simp only [fN] at h
  cases c:y.anyV φ with
  | true=>rw [c] at h;cases h
  | false =>
   rw [c] at h
   rw [bO] at e
   by_cases hj:j=t
   ·rw [if_pos hj] at e;injection e with e;rw [← e];exact c
   ·rw [if_neg hj] at e;exact AL h t x e
theorem HG {φ:V→Bool}:∀ {gf:GF},fJ φ gf=false→∀ t d w x,(t,d,w,x) ∈ gf→x.anyV φ=false
 | [],_,_,_,_,_,h=>by cases h
 | (j,d,w,y) :: r,h,t,d',w',x,e=>by
  simp only [fJ] at h
  cases c:y.anyV φ with
  | true=>rw [c] at h;cases h
  | false =>
   rw [c] at h
   cases e with
   | head=>exact c
   | tail _ e=>exact HG h t d' w' x e
theorem o2 {φ:V→Bool} {k:Nat}:∀ {mu:Mu},lU φ k mu=false→∀ j c,j≠k→mlk j mu=some c→eM φ c.rowL=false
 | [],_,_,_,_,h=>by cases h
 | (i,d) :: r,h,j,c,hj,e=>by
  simp only [lU] at h
  rw [bO] at e
  cases c1:Nat.beq i k with
  | true =>
   rw [c1] at h
   have hi:=Nat.eq_of_beq_eq_true c1
   rw [if_neg (by omega)] at e
   exact o2 h j c hj e
  | false =>
   rw [c1] at h
   simp only [cond_false] at h
   cases c2:eM φ d.rowL with
   | true=>rw [c2] at h;cases h
   | false =>
    rw [c2] at h
    by_cases hi:i=j
    ·rw [if_pos hi] at e;injection e with e;rw [← e];exact c2
    ·rw [if_neg hi] at e;exact o2 h j c hj e
theorem DT {φ:V→Bool}:∀ {fr l:Fr},fW φ fr=some l→∀ t,(mlk t l=none∧mlk t fr=none)∨∃ x y,mlk t l=some x∧mlk t fr=some y∧(x = .a .any∨x=y∧x.anyV φ=false)
 | [],l,h,t=>by simp [fW] at h;subst h;exact .inl ⟨rfl,rfl⟩
 | (j,y) :: r,l,h,t=>by
  simp only [fW] at h
  cases c:fW φ r with
  | none=>rw [c] at h;cases h
  | some l' =>
   rw [c] at h
   simp only at h
   have ih:=DT c t
   cases c2:y.anyV φ with
   | true =>
    rw [c2] at h;simp at h;subst h
    rw [bO,bO]
    by_cases hj:j=t
    ·rw [if_pos hj,if_pos hj];exact .inr ⟨_,_,rfl,rfl, .inl rfl⟩
    ·rw [if_neg hj,if_neg hj];exact ih
   | false =>
    rw [c2] at h;simp at h;subst h
    rw [bO,bO]
    by_cases hj:j=t
    ·rw [if_pos hj,if_pos hj];exact .inr ⟨_,_,rfl,rfl, .inr ⟨rfl,c2⟩⟩
    ·rw [if_neg hj,if_neg hj];exact ih
theorem rK {φ:V→Bool}:∀ {gf l:GF},f0 φ gf=some l→∀ t d w x,(t,d,w,x) ∈ l→∃ y,(t,d,w,y) ∈ gf∧(x = .a .any∨x=y∧x.anyV φ=false)
 | [],l,h,_,_,_,_,e=>by simp [f0] at h;subst h;cases e
 | (j,d',w',y) :: r,l,h,t,d,w,x,e=>by
  simp only [f0] at h
  cases c:f0 φ r with
  | none=>rw [c] at h;cases h
  | some l' =>
   rw [c] at h
   simp only at h
   have tl:(t,d,w,x) ∈ l'→∃ z,(t,d,w,z) ∈ (j,d',w',y) :: r∧(x = .a .any∨x=z∧x.anyV φ=false):=fun e=>by
    obtain ⟨z,h1,h2⟩:=rK c t d w x e
    exact ⟨z,List.mem_cons_of_mem _ h1,h2⟩
   cases c2:y.anyV φ with
   | true =>
    rw [c2] at h;simp at h;subst h
    cases e with
    | head=>exact ⟨y,List.mem_cons_self, .inl rfl⟩
    | tail _ e=>exact tl e
   | false =>
    rw [c2] at h;simp at h;subst h
    cases e with
    | head=>exact ⟨y,List.mem_cons_self, .inr ⟨rfl,c2⟩⟩
    | tail _ e=>exact tl e
theorem HM {φ:V→Bool}:∀ {gf l:GF},f0 φ gf=some l→∀ t,glk t l=none→glk t gf=none
 | [],l,h,t,_=>rfl
 | (j,d',w',y) :: r,l,h,t,e=>by
  simp only [f0] at h
  cases c:f0 φ r with
  | none=>rw [c] at h;cases h
  | some l' =>
   rw [c] at h
   simp only at h
   have:∃ z,l=(j,d',w',z) :: l':=by
    cases c2:y.anyV φ with
    | true=>rw [c2] at h;simp at h;exact ⟨_,h.symm⟩
    | false=>rw [c2] at h;simp at h;exact ⟨_,h.symm⟩
   obtain ⟨z,rfl⟩:=this
   simp only [glk] at e ⊢
   cases c3:Nat.beq j t with
   | true=>rw [c3] at e;cases e
   | false=>rw [c3] at e;exact HM c t e
section
variable {E:Env} {B:BE} {mu mu':Mu} {w w':World} {H:Nat→PH} {fr fr':Fr} {gf gf':GF} {a:Act}
theorem Fits.cut {P:Program} {B B':BE} {Z Z':Tg→PH} {N:Nat} {φ:V→Bool} (f:Fits P B Z N fr gf a) (hf:fW φ fr=some fr') (hg:f0 φ gf=some gf') (hr:(Z .r).le (Z' .r)) (hc:∀ (x:V) (y:Value),φ x=false→x.rel B Z y→x.rel B' Z' y):Fits P B' Z' N fr' gf' a:=by
 refine ⟨f.size,f.defers,fun t x e1 e2=>?_,fun t d w x e1 e2=>?_,fun t d w x e1 e2=>?_,fun t d w x e1=>?_⟩
 ·rcases DT hf t with ⟨h1,_⟩ | ⟨x',y,h1,h2,h3⟩
  ·rw [h1] at e1;cases e1
  ·rw [h1] at e1;injection e1 with e1;subst e1
   rcases h3 with rfl | ⟨rfl,h3⟩
   ·trivial
   ·exact SV.rel_congr hr hc x' h3 (f.vfr t x' h2 (HM hg t e2))
 ·obtain ⟨y,h1,h2⟩:=rK hg t d w x e1
  rcases h2 with rfl | ⟨rfl,h2⟩
  ·trivial
  ·exact SV.rel_congr hr hc x h2 (f.vgf t d w x h1 e2)
 ·obtain ⟨y,h1,h2⟩:=rK hg t d w x e1
  exact f.vgu t d w y h1 e2
 ·obtain ⟨y,h1,h2⟩:=rK hg t d w x e1
  rcases DT hf t with ⟨h3,_⟩ | ⟨x',z,h3,h4,_⟩
  ·exact h3
  ·rw [f.vno t d w y h1] at h4;cases h4
theorem Fits.keep {P:Program} {B B':BE} {Z Z':Tg→PH} {N:Nat} {φ:V→Bool} (f:Fits P B Z N fr gf a) (hf:fN φ fr=false) (hg:fJ φ gf=false) (hr:(Z .r).le (Z' .r)) (hc:∀ (x:V) (y:Value),φ x=false→x.rel B Z y→x.rel B' Z' y):Fits P B' Z' N fr gf a :=
 ⟨f.size,f.defers,fun t x e1 e2=>SV.rel_congr hr hc x (AL hf t x e1) (f.vfr t x e1 e2),fun t d w x e1 e2=>SV.rel_congr hr hc x (HG hg t d w x e1) (f.vgf t d w x e1 e2),f.vgu,f.vno⟩
theorem V.rel_setH {B:BE} {r:PH} {H:Nat→PH} {k:Nat} (h:PH) {x:V} {y:Value} (n:x.usesT k=false) (e:x.rel B (Zf r H) y):x.rel B (Zf r (HF.set H k h)) y:=by
 have key:∀ q:Tg,(match q with | .k j=>Nat.beq j k | _=>false)=false→Zf r (HF.set H k h) q=Zf r H q:=fun q hq=>by
  cases q with
  | k j=>show HF.set H k h j=H j;exact HF.set_ne H h (iA hq)
  | _=>rfl
 cases x with
 | s q sz n' f =>
  show D.rd (Zf r (HF.set H k h) q) _ _
  rw [key q (by cases q <;>first | exact n | rfl)];exact e
 | rp q l o =>
  show ∃ b x vs,_=_∧D.rds (Zf r (HF.set H k h) q) l vs∧_
  rw [key q (by cases q <;>first | exact n | rfl)];exact e
 | _=>exact e
theorem jV {k:Nat} {c:Ch}:∀ {mu mu':Mu},gB k c mu=some mu'→∀ j,mlk j mu'=if j=k then some c else mlk j mu
 | [],mu',h,j=>by
  simp [gB] at h;subst h
  rw [bO]
  by_cases hj:k=j
  ·rw [if_pos hj,if_pos hj.symm]
  ·rw [if_neg hj,if_neg (Ne.symm hj)]
 | (i,d) :: r,mu',h,j=>by
  simp only [gB] at h
  cases c1:Nat.beq i k with
  | true =>
   rw [c1] at h;simp at h;subst h
   have:=Nat.eq_of_beq_eq_true c1
   subst this
   rw [bO,bO]
   by_cases hj:i=j
   ·rw [if_pos hj,if_pos hj.symm]
   ·rw [if_neg hj,if_neg (Ne.symm hj),if_neg hj]
  | false =>
   rw [c1] at h
   simp only [cond_false] at h
   cases e:gB k c r with
   | none=>rw [e] at h;cases h
   | some l =>
    rw [e] at h;injection h with h;subst h
    rw [bO,bO,jV e j]
    have:=iA c1
    by_cases hj:i=j
    ·rw [if_pos hj,if_pos hj,if_neg (by omega)]
    ·rw [if_neg hj,if_neg hj]
theorem Ch.sat_setB {c:Ch} {r h:PH} {k j:Nat} (v:Value) (hj:j≠k) (hc:eM (V.usesB k) c.rowL=false) (s:c.sat B r h j):c.sat (BE.set B k v) r h j:=by
 cases c with
 | row l =>
  obtain ⟨b,o,vs,h',e1,e2,e3⟩:=s
  exact ⟨b,o,vs,h',by rw [BE.set_ne B v hj];exact e1,V.owns_congr (φ:=V.usesB k) (fun x h y=>V.own_setB v) hc e2,e3⟩
 | rrow l =>
  obtain ⟨b,o,vs,e1,e2,e3⟩:=s
  exact ⟨b,o,vs,by rw [BE.set_ne B v hj];exact e1,V.rels_congr (φ:=V.usesB k) (fun x y=>V.rel_setB v) hc e2,e3⟩
 | arr sz n f=>show D.own _ _ (BE.set B k v j);rw [BE.set_ne B v hj];exact s
 | ro sz n f=>show D.rd _ _ (BE.set B k v j);rw [BE.set_ne B v hj];exact s
 | rd sz n f=>show D.rd _ _ (BE.set B k v j);rw [BE.set_ne B v hj];exact s
 | rw P=>exact s
 | hole sz n f i k2 =>
  obtain ⟨A,c,e1,e2,e3,e4,e5,e6⟩:=s
  have h2:k2≠k:=iA (iL (φ:=V.usesB k) hc).1
  exact ⟨A,c,by rw [BE.set_ne B v hj];exact e1,e2,e3,e4,by rw [BE.set_ne B v hj,BE.set_ne B v h2];exact e5,e6⟩
theorem Mm.below (m:Mm B E.r mu w H) (k:Below w.heap.size w w'):Mm B E.r mu w' H:=⟨m.sat,fun i=>(m.fit i).ext k,m.dj,m.djr,m.fitr.ext k⟩
theorem Mem.below (m:Mem E B mu w H) (k:Below w.heap.size w w'):Mem E B mu w' H :=
 ⟨m.mm.below k,m.keep.trans (Keep.of_below k noD) fun _ _ h=>h.elim,m.dom,m.anch⟩
theorem Mem.put (m:Mem E B mu w H) {k:Nat} {c:Ch} (hmu:gB k c mu=some mu') {v:Value} (hU:v=B k∨(lU (V.usesB k) k mu=false∧bD k E.A.ks=false)) {h':PH} (s:c.sat (BE.set B k v) E.r h' k) (f:FitO h' w') (kp:Keep (fun b o=>H k b o≠none) w w') (hn:∀ b o,h' b o≠none→H k b o≠none∨w.heap.size≤b) :
  Mem E (BE.set B k v) mu' w' (HF.set H k h'):=by
 have out:∀ g:PH,Fit g w→(H k).dj g→Fit g w':=fun g fg d=>fg.keep kp fun x y e h2=>by
  rcases d x y with e2 | e2
  ·exact h2 e2
  ·exact e e2
 have outO:∀ g:PH,FitO g w→(H k).dj g→FitO g w':=fun g fg d=>fg.keep kp fun x y e h2=>by
  rcases d x y with e2 | e2
  ·exact h2 e2
  ·exact e e2
 have dj2:∀ g:PH,Fit g w→(H k).dj g→h'.dj g:=fun g fg d x y=>by
  cases e:g x y with
  | none=>exact .inr rfl
  | some u =>
   left
   cases e2:h' x y with
   | none=>rfl
   | some u2 =>
    rcases hn x y (by rw [e2];simp) with h3 | h3
    ·rcases d x y with h4 | h4
     ·exact absurd h4 h3
     ·rw [e] at h4;cases h4
    ·have:=fg.lt (b:=x) (o:=y) (by rw [e];simp)
     omega
 refine ⟨⟨fun j d e=>?_,fun j=>?_,fun i j hij=>?_,fun j=>?_,out _ m.mm.fitr (m.mm.djr k)⟩,?_,fun j x y e=>?_,fun j hj=>?_⟩
 ·rw [jV hmu j] at e
  by_cases hj:j=k
  ·subst hj;rw [if_pos rfl] at e;injection e with e;subst e;rw [HF.set_eq];exact s
  ·rw [if_neg hj] at e
   rw [HF.set_ne H h' hj]
   rcases hU with rfl | ⟨h1,_⟩
   ·rw [BE.set_self];exact m.mm.sat j d e
   ·exact Ch.sat_setB v hj (o2 h1 j d hj e) (m.mm.sat j d e)
 ·by_cases hj:j=k
  ·subst hj;rw [HF.set_eq];exact f
  ·rw [HF.set_ne H h' hj];exact outO _ (m.mm.fit j) (m.mm.dj k j (Ne.symm hj))
 ·by_cases hi:i=k <;>by_cases hj:j=k
  ·exact absurd (hi.trans hj.symm) hij
  ·subst hi;rw [HF.set_eq,HF.set_ne H h' hj];exact dj2 _ (m.mm.fit j) (m.mm.dj _ j (Ne.symm hj))
  ·subst hj;rw [HF.set_eq,HF.set_ne H h' hi];exact PH.dj_symm (dj2 _ (m.mm.fit i) (m.mm.dj _ i (Ne.symm hi)))
  ·rw [HF.set_ne H h' hi,HF.set_ne H h' hj];exact m.mm.dj i j hij
 ·by_cases hj:j=k
  ·subst hj;rw [HF.set_eq];exact dj2 _ m.mm.fitr (m.mm.djr _)
  ·rw [HF.set_ne H h' hj];exact m.mm.djr j
 ·exact m.keep.trans kp fun x y e=>m.dom k x y e
 ·by_cases hj:j=k
  ·subst hj;rw [HF.set_eq] at e
   rcases hn x y e with h3 | h3
   ·exact m.dom _ x y h3
   ·exact .inr (Nat.le_trans m.keep.size h3)
  ·rw [HF.set_ne H h' hj] at e;exact m.dom j x y e
 ·rcases hU with rfl | ⟨_,h2⟩
  ·rw [BE.set_self];exact m.anch j hj
  ·have:j≠k:=fun e=>by rw [e,h2] at hj;cases hj
   rw [BE.set_ne B v this];exact m.anch j hj
theorem FitsE.anew (f:FitsE E B H fr gf a) {k:Nat} (h':PH) (hf:fW (V.usesT k) fr=some fr') (hg:f0 (V.usesT k) gf=some gf'):FitsE E (BE.set B k (B k)) (HF.set H k h') fr' gf' a :=
 Fits.cut f hf hg (PH.le_refl _) fun x y hx e=>by rw [BE.set_self];exact V.rel_setH h' hx e
theorem k7 {k:Nat} {x:V} (h:x.uses k=false):x.usesB k=false∧x.usesT k=false:=by
 unfold V.uses at h
 cases e:x.usesB k with
 | true=>rw [e] at h;cases h
 | false=>rw [e] at h;exact ⟨rfl,h⟩
theorem FitsE.new (f:FitsE E B H fr gf a) {k:Nat} (v:Value) (h':PH) (hf:fN (V.uses k) fr=false) (hg:fJ (V.uses k) gf=false):FitsE E (BE.set B k v) (HF.set H k h') fr gf a :=
 Fits.keep f hf hg (PH.le_refl _) fun x y hx e=>V.rel_setB v (k7 hx).1 (V.rel_setH h' (k7 hx).2 e)
theorem zU {φ ψ:V→Bool} (h:∀ x,φ x=false→ψ x=false):∀ {l:List V},eM φ l=false→eM ψ l=false
 | [],_=>rfl
 | x :: r,e=>by
  obtain ⟨h1,h2⟩:=iL e
  simp only [eM,h x h1,cond_false];exact zU h h2
theorem n7 {φ ψ:V→Bool} (h:∀ x,φ x=false→ψ x=false) {k:Nat}:∀ {mu:Mu},lU φ k mu=false→lU ψ k mu=false
 | [],_=>rfl
 | (j,c) :: r,e=>by
  simp only [lU] at e ⊢
  cases c1:Nat.beq j k with
  | true=>rw [c1] at e;exact n7 h e
  | false =>
   rw [c1] at e
   simp only [cond_false] at e ⊢
   cases c2:eM φ c.rowL with
   | true=>rw [c2] at e;cases e
   | false=>rw [c2] at e;rw [zU h c2];exact n7 h e
theorem iE {k:Nat} {ks:List Nat} (h:gJ k fr gf mu ks=true):fN (V.uses k) fr=false∧fJ (V.uses k) gf=false∧lU (V.uses k) k mu=false∧bD k ks=false:=by
 unfold gJ at h
 cases c1:fN (V.uses k) fr with
 | true=>rw [c1] at h;cases h
 | false =>
  rw [c1] at h
  cases c2:fJ (V.uses k) gf with
  | true=>rw [c2] at h;cases h
  | false =>
   rw [c2] at h
   cases c3:lU (V.uses k) k mu with
   | true=>rw [c3] at h;cases h
   | false=>rw [c3] at h;exact ⟨rfl,rfl,rfl,by simpa using h⟩
end
end
section
theorem FQ {P:Program} {w w':World} {s:Sem Value} {x:Value} (h:s.run P w = .ok x w'):(do pure (.value (← s)):Sem Next).run P w = .ok (.value x) w':=by
 simp only [Sem.run_bind,h,Result.andThen_ok,Sem.run_pure]
theorem WH {B:BE} {Z:Tg→PH} {x:V} {y:Value} (h:x.okC=true) (e:x.rel B Z y):eL y=true:=by
 cases x with
 | v x=>have e:y=x:=e;rw [e];exact h
 | s q sz n f=>obtain ⟨A,c,rfl,_⟩:=(show D.rd _ _ _ from e);rfl
 | g k=>exact e.2
 | p k o=>exact e.2
 | pe k sz i o=>exact e.2
 | sb k sz lo hi=>exact e.2
 | gl k n c=>cases h
 | rp q l o=>obtain ⟨b,x,vs,rfl,_⟩:=(show _ from e);rfl
 | any=>cases h
theorem OF {B:BE} {r:PH} {H:Nat→PH} {h:PH} {x:V} {y:Value} (c:x.okC=true) (e:x.rel B (Zf r H) y):x.own B r h y:=by
 cases x with
 | s q sz n f =>
  cases q with
  | r=>exact .inr ⟨rfl,e⟩
  | _=>cases c
 | rp q l o =>
  cases q with
  | r=>exact ⟨rfl,e⟩
  | _=>cases c
 | any=>cases c
 | _=>exact e
theorem BA {x:V} {r:List V} (h:oE (x :: r)=true):x.okC=true∧oE r=true:=by
 simp only [oE] at h
 cases e:x.okC with
 | false=>rw [e] at h;cases h
 | true=>rw [e] at h;exact ⟨rfl,h⟩
theorem IJ {B:BE} {r:PH} {H:Nat→PH}:∀ {l:List V} {vs:List Value} {h:PH},oE l=true→V.rels B (Zf r H) l vs→V.owns B r h l vs
 | [],_,_,_,e=>e
 | x :: l,_,h,c,e=>by
  obtain ⟨a,t,e1,e2,e3⟩:=e
  obtain ⟨c1,c2⟩:=BA c
  exact ⟨a,t,PH.emp,h,e1,PH.emp_le _,PH.le_refl _,PH.emp_dj _,OF c1 e2,IJ c2 e3⟩
theorem KK {B:BE} {Z:Tg→PH}:∀ {l:List V} {vs:List Value},oE l=true→V.rels B Z l vs→∀ v ∈ vs,eL v=true
 | [],vs,_,e,v,hv=>by have e:vs=[]:=e;rw [e] at hv;cases hv
 | x :: l,_,c,e,v,hv=>by
  obtain ⟨a,t,rfl,e2,e3⟩:=e
  obtain ⟨c1,c2⟩:=BA c
  cases hv with
  | head=>exact WH c1 e2
  | tail _ hv=>exact KK c2 e3 v hv
theorem zB {B:BE} {r:PH} {H:Nat→PH}:∀ {l:List V} {vs:List Value} {h:PH} {o:Nat} {cs:List V} {us:List Value} {l':List V},V.owns B r h l vs→oE cs=true→V.rels B (Zf r H) cs us→dU l o cs=some l'→∃ vs',dU vs o us=some vs'∧V.owns B r h l' vs'
 | l,vs,h,0,[],us,l',e,_,k,p=>by
  have k:us=[]:=k
  subst k
  have:l'=l:=by cases l <;>simpa [dU] using p.symm
  subst this
  exact ⟨vs,by cases vs <;>rfl,e⟩
 | [],_,_,0,y :: ys,_,_,_,_,_,p=>by simp [dU] at p
 | [],_,_,o+1,ys,_,_,_,_,_,p=>by simp [dU] at p
 | x :: l,_,h,0,y :: ys,_,l',e,c,k,p=>by
  obtain ⟨a,t,h1,h2,rfl,e2,e3,e4,e5,e6⟩:=e
  obtain ⟨u,us,rfl,k2,k3⟩:=k
  obtain ⟨c1,c2⟩:=BA c
  simp only [dU] at p ⊢
  cases q:dU l 0 ys with
  | none=>rw [q] at p;cases p
  | some m =>
   rw [q] at p;injection p with p;subst p
   obtain ⟨ms,g1,g2⟩:=zB e6 c2 k3 q
   rw [g1]
   exact ⟨_,rfl,u,ms,PH.emp,h2,rfl,PH.emp_le _,e3,PH.emp_dj _,OF c1 k2,g2⟩
 | x :: l,_,h,o+1,ys,_,l',e,c,k,p=>by
  obtain ⟨a,t,h1,h2,rfl,e2,e3,e4,e5,e6⟩:=e
  simp only [dU] at p ⊢
  cases q:dU l o ys with
  | none=>rw [q] at p;cases p
  | some m =>
   rw [q] at p;injection p with p;subst p
   obtain ⟨ms,g1,g2⟩:=zB e6 c k q
   rw [g1]
   exact ⟨_,rfl,a,ms,h1,h2,rfl,e2,e3,e4,e5,g2⟩
theorem DZ {B:BE} {Z:Tg→PH}:∀ {l:List V} {ds:List D},mK l=some ds→∀ {vs:List Value},V.rels B Z l vs→ds=vs.map D.v∧∀ v ∈ vs,eL v=true
 | [],ds,h,vs,e=>by
  have e:vs=[]:=e
  subst e
  simp [mK] at h;subst h
  exact ⟨rfl,fun v hv=>by cases hv⟩
 | .v x :: r,ds,h,vs,e=>by
  obtain ⟨a,t,rfl,e2,e3⟩:=e
  have e2:a=x:=e2
  subst e2
  simp only [mK] at h
  cases c:mK r with
  | none=>rw [c] at h;cases h
  | some l =>
   rw [c] at h
   simp only at h
   cases c2:eL a with
   | false=>rw [c2] at h;cases h
   | true =>
    rw [c2] at h;simp at h;subst h
    obtain ⟨g1,g2⟩:=DZ c e3
    exact ⟨by rw [g1];rfl,fun v hv=>by cases hv with | head=>exact c2 | tail _ hv=>exact g2 v hv⟩
 | .s .. :: _,_,h,_,_=>by simp [mK] at h
 | .g .. :: _,_,h,_,_=>by simp [mK] at h
 | .p .. :: _,_,h,_,_=>by simp [mK] at h
 | .pe .. :: _,_,h,_,_=>by simp [mK] at h
 | .sb .. :: _,_,h,_,_=>by simp [mK] at h
 | .gl .. :: _,_,h,_,_=>by simp [mK] at h
 | .rp .. :: _,_,h,_,_=>by simp [mK] at h
 | .any :: _,_,h,_,_=>by simp [mK] at h
theorem wN:∀ {l:List D} {vs:List Value} {h:PH} {o:Nat} {us:List Value} {l':List D},D.owns h l vs→dU l o (us.map D.v)=some l'→∃ vs',dU vs o us=some vs'∧D.owns h l' vs'
 | l,vs,h,0,[],l',e,p=>by
  have:l'=l:=by cases l <;>simpa [dU] using p.symm
  subst this
  exact ⟨vs,by cases vs <;>rfl,e⟩
 | [],_,_,0,y :: ys,_,_,p=>by simp [dU] at p
 | [],_,_,o+1,ys,_,_,p=>by simp [dU] at p
 | x :: l,_,h,0,u :: us,l',e,p=>by
  obtain ⟨a,t,h1,h2,rfl,e2,e3,e4,e5,e6⟩:=e
  simp only [dU,List.map_cons] at p ⊢
  cases q:dU l 0 (us.map D.v) with
  | none=>rw [q] at p;cases p
  | some m =>
   rw [q] at p;injection p with p;subst p
   obtain ⟨ms,g1,g2⟩:=wN e6 q
   rw [g1]
   exact ⟨_,rfl,u,ms,PH.emp,h2,rfl,PH.emp_le _,e3,PH.emp_dj _,rfl,g2⟩
 | x :: l,_,h,o+1,us,l',e,p=>by
  obtain ⟨a,t,h1,h2,rfl,e2,e3,e4,e5,e6⟩:=e
  simp only [dU] at p ⊢
  cases q:dU l o (us.map D.v) with
  | none=>rw [q] at p;cases p
  | some m =>
   rw [q] at p;injection p with p;subst p
   obtain ⟨ms,g1,g2⟩:=wN e6 q
   rw [g1]
   exact ⟨_,rfl,a,ms,h1,h2,rfl,e2,e3,e4,e5,g2⟩
theorem QX {k:Nat} {l:List V} {fr:Fr} {gf:GF} {mu:Mu} {ks:List Nat} (h:(oE l && gJ k fr gf mu ks && !(eM (V.uses k) l))=true):oE l=true∧gJ k fr gf mu ks=true∧eM (V.uses k) l=false:=by
 simp only [Bool.and_eq_true,Bool.not_eq_true'] at h
 exact ⟨h.1.1,h.1.2,h.2⟩
theorem MA (k:Nat) (z:Value):eM (V.uses k) (qL z)=false:=by
 have:∀ l:List Value,eM (V.uses k) (l.map V.v)=false:=fun l=>by
  induction l with
  | nil=>rfl
  | cons x r ih=>simp only [List.map_cons,eM,ih];rfl
 cases z <;>first | exact this _ | rfl
section
variable {E:Env} {B:BE} {mu mu':Mu} {w:World} {H:Nat→PH} {TT:List TI} {fr fr':Fr} {gf gf':GF} {a:Act}
theorem IG (f:FitsE E B H fr gf a) (m:Mem E B mu w H) {k:Nat} (hu:gJ k fr gf mu E.A.ks=true) {l:List V} (hl:eM (V.uses k) l=false) (hc:oE l=true) (hmu:gB k (.row l) mu=some mu') (T:TypeId) {cs:Array Value} (hcs:V.rels B (Zf E.r H) l cs.toList) :
  ∃ w' B' H',(newRow T cs).run E.P w = .ok ⟨w.heap.size,0,none⟩ w'∧B' k = .pointer (some ⟨w.heap.size,0,none⟩)∧Mem E B' mu' w' H'∧FitsE E B' H' fr gf a∧∀ j,j≠k→B' j=B j∧H' j=H j:=by
 obtain ⟨h1,h2,h3,h4⟩:=iE hu
 have e0:cs=cs.toList.toArray:=by simp
 have hf:FitO (PH.row w.heap.size 0 cs.toList) (w.alloc (.cells cs T)):=by
  have:=FitO.alloc w cs.toList T
  rwa [← e0] at this
 refine ⟨w.alloc (.cells cs T),BE.set B k (.pointer (some ⟨w.heap.size,0,none⟩)),HF.set H k (PH.row w.heap.size 0 cs.toList),?_,BE.set_eq _ _ _,?_,FitsE.new f _ _ h1 h2,fun j hj=>⟨BE.set_ne _ _ hj,HF.set_ne _ _ hj⟩⟩
 ·simp only [newRow,Sem.run_bind,run_newObj,Result.andThen_ok,Sem.run_pure];rfl
 ·refine m.put hmu (.inr ⟨n7 (fun x hx=>(k7 hx).1) h3,h4⟩) ?_ hf ((Keep.alloc w _).mono fun _ _ _ h=>h.elim) fun b o hb => .inr (by rw [PH.row_ne hb];exact Nat.le_refl _)
  refine ⟨w.heap.size,0,cs.toList,PH.emp,BE.set_eq _ _ _,?_,PH.emp_le _,fun j hj=>⟨?_,rfl⟩⟩
  ·exact V.owns_congr (φ:=V.uses k) (fun x h y hx=>V.own_setB _ (k7 hx).1) hl (IJ hc hcs)
  ·rw [PH.row_at]
theorem LM (hT:TOk E.P TT) (f:FitsE E B H fr gf a) (m:Mem E B mu w H) {o:Oper} {xo:Option SV} {nw:Bool} {k:Nat} {c:Ch} {q:Ob} (h:mst TT E.A.ks fr gf mu o.dst o.op=some (xo,nw,k,c,q)) (hq:jJ q) (hmu:gB k c mu=some mu') (hcut:A0 nw k fr gf=some (fr',gf')) :
  ∃ nx w' B' H',(execOp a.eval o).run E.P w = .ok nx w'∧(∀ x,xo=some x→∃ v,nx = .value v∧SV.rel E.P B' (Zf E.r H') x v)∧(xo=none→nx = .skip)∧Mem E B' mu' w' H'∧FitsE E B' H' fr' gf' a∧∀ j,j≠k→B' j=B j∧H' j=H j:=by
 obtain ⟨dst,op,type,pos,after,guard⟩:=o
 simp only at h
 have Ev:∀ {x:Operand} {y:SV},ev [] fr gf x=some y→SV.rel E.P B (Zf E.r H) y (a.eval x):=fun h=>f.ev (g:=[]) (fun _ _ hm=>by cases hm) h
 unfold mst at h
 split at h
 ·rename_i t x k'
  split at h
  ·rename_i y e1
   split at h
   ·rename_i l e2
    cases c:(oE l && gJ k' fr gf mu E.A.ks && !(eM (V.uses k') l)) with
    | false=>rw [c] at h;cases h
    | true =>
     rw [c] at h
     simp at h
     obtain ⟨rfl,rfl,rfl,rfl,rfl⟩:=h
     obtain ⟨c1,c2,c3⟩:=QX c
     simp [A0] at hcut
     obtain ⟨rfl,rfl⟩:=hcut
     obtain ⟨w',B',H',r1,r2,r3,r4,r5⟩:=IG f m c2 c3 c1 hmu t (rY e2 (Ev e1))
     refine ⟨.value (.pointer (some ⟨w.heap.size,0,none⟩)),w',B',H',?_,fun x hx=>⟨_,rfl,?_⟩,fun e=>(by cases e),r3,r4,r5⟩
     ·simp only [execOp]
      refine FQ ?_
      simp only [Instr.box,newVar,Sem.run_bind,r1,Result.andThen_ok,Sem.run_pure]
     ·injection hx with hx;subst hx
      refine ⟨?_,rfl⟩
      rw [r2];rfl
   ·cases h
  ·cases h
 ·rename_i t k'
  split at h
  ·rename_i ti e1
   simp only [uW] at h
   cases c:(oE (qL ti.zero) && gJ k' fr gf mu E.A.ks) with
   | false=>rw [c] at h;cases h
   | true =>
    rw [c] at h
    simp at h
    obtain ⟨rfl,rfl,rfl,rfl,rfl⟩:=h
    simp only [Bool.and_eq_true] at c
    simp [A0] at hcut
    obtain ⟨rfl,rfl⟩:=hcut
    obtain ⟨t1,t2⟩:=hT.get e1
    obtain ⟨i,i1,_,_,i4⟩:=t2.info
    rw [t1] at i1
    obtain ⟨w',B',H',r1,r2,r3,r4,r5⟩:=IG f m c.2 (MA _ _) c.1 hmu t (wJ ti.zero)
    refine ⟨.value (.pointer (some ⟨w.heap.size,0,none⟩)),w',B',H',?_,fun x hx=>⟨_,rfl,?_⟩,fun e=>(by cases e),r3,r4,r5⟩
    ·simp only [execOp]
     refine FQ ?_
     have hz:(zeroValue t).run E.P w = .ok ti.zero w:=by simp only [zeroValue,Sem.run_bind,uE i1,Result.andThen_ok,i4,Sem.run_pure]
     simp only [Instr.alloc,newVar,Sem.run_bind,hz,r1,Result.andThen_ok,Sem.run_pure]
    ·injection hx with hx;subst hx
     refine ⟨?_,rfl⟩
     rw [r2];rfl
  ·cases h
 ·rename_i t ad x
  split at h
  ·rename_i k' o y ti e1 e2 e3
   split at h
   ·rename_i l cs e4 e5
    cases c:(l8 cs ti.sz && oE cs) with
    | false=>rw [c] at h;cases h
    | true =>
     rw [c] at h
     simp only [cond_true] at h
     simp only [Bool.and_eq_true] at c
     split at h
     ·rename_i l' e6
      simp at h
      obtain ⟨rfl,rfl,rfl,rfl,rfl⟩:=h
      simp only [A0,cond_false] at hcut
      split at hcut
      ·rename_i fr2 gf2 hc1 hc2
       simp at hcut;obtain ⟨rfl,rfl⟩:=hcut
       obtain ⟨t1,t2⟩:=hT.get e3
       obtain ⟨b,off,vs,hp,s1,s2,s3,s4⟩:=m.mm.sat k' _ e4
       have hlen:=V.owns_length s2
       have hcs:=rY e5 (Ev e2)
       obtain ⟨vs',p1,p2⟩:=zB s2 c.2 hcs e6
       obtain ⟨q1,q2,q3,q4⟩:=kS _ _ _ _ p1
       have hcl:=V.rels_length hcs
       have hin:∀ j,j<(a.eval x).cells.toList.length→H k' b (off+o+j)≠none:=fun j hj=>by
        have:=(s4 (o+j) (by omega)).1
        rw [Nat.add_assoc,this,List.getElem?_eq_getElem (by omega)];simp
       obtain ⟨w',r1,r2,r3,r4⟩:=A8 (P:=E.P) t2 rfl (by rw [hcl];exact nU _ _ c.1) (m.mm.fit k').fit hin (KK c.2 hcs)
       have hmem:=m.put (v:=B k') (h':=(H k').updL b (off+o) (a.eval x).cells.toList) (w':=w') hmu (.inl rfl) ?_ ((m.mm.fit k').turn r2 r3 fun b o hb=>⟨o,PH.updL_ne hin hb⟩) (r3.mono ?_) (fun b o hb => .inl (PH.updL_ne hin hb))
       ·refine ⟨.skip,w',_,_,?_,fun x hx=>(by cases hx),fun _=>rfl,hmem,FitsE.anew f _ hc1 hc2,fun j hj=>⟨BE.set_ne _ _ hj,HF.set_ne _ _ hj⟩⟩
        have he:a.eval ad = .pointer (some ⟨b,off+o,none⟩):=by
         rw [(show a.eval ad=kC (B k') o∧_ from Ev e1).1,s1];simp [kC,jO]
        simp only [execOp,he]
        simp only [Instr.storeAt,Instr.sureAddr,Sem.run_bind,Sem.run_pure,Result.andThen_ok]
        rw [← t1,r1]
        rfl
       ·rw [BE.set_self]
        have hll:l'.length=l.length:=by have:=V.owns_length p2;omega
        refine ⟨b,off,vs',hp,s1,p2,fun x y v hv=>?_,fun j hj=>⟨?_,(s4 j (by omega)).2⟩⟩
        ·rw [PH.updL_out]
         ·exact s3 x y v hv
         ·rintro ⟨rfl,g1,g2⟩
          have:=(s4 (y - off) (by omega)).2
          rw [show off+(y - off)=y from by omega,hv] at this
          cases this
        ·by_cases hj2:o≤j∧j<o+(a.eval x).cells.toList.length
         ·have:=q3 (j - o) (by omega)
          rw [show o+(j - o)=j from by omega] at this
          rw [this,show off+j=off+o+(j - o) from by omega,PH.updL_in _ _ _ _ (by omega)]
         ·rw [PH.updL_out _ (by omega),(s4 j (by omega)).1]
          exact (q4 j (by omega)).symm
       ·rintro x' _ y' ⟨rfl,g1,g2⟩
        have:=hin (y' - (off+o)) (by omega)
        rwa [show off+o+(y' - (off+o))=y' from by omega] at this
      ·cases hcut
     ·cases h
   ·cases h
  ·rename_i k' sz i o y ti e1 e2 e3
   split at h
   ·rename_i sz' n g cs e4 e5
    obtain ⟨cv,e5a,e5b⟩:=Option.bind_eq_some_iff.1 e5
    cases c1:l8 cs ti.sz with
    | false=>rw [c1] at h;cases h
    | true =>
     rw [c1] at h
     simp only [cond_true] at h
     split at h
     ·rename_i l' e7
      simp at h
      obtain ⟨rfl,rfl,rfl,rfl,rfl⟩:=h
      simp only [A0,cond_false] at hcut
      split at hcut
      ·rename_i fr2 gf2 hc1 hc2
       simp at hcut;obtain ⟨rfl,rfl⟩:=hcut
       obtain ⟨rfl,⟨q1,q2⟩,_⟩:=hq
       obtain ⟨t1,t2⟩:=hT.get e3
       obtain ⟨A,cp,s1,s2,s3,s4⟩:=(show D.own _ _ _ from m.mm.sat k' _ e4)
       rcases s4 with s4 | ⟨b,off,row,G,rfl,g1,g2,g3⟩
       ·omega
       ·have hcs:=rY e5a (Ev e2)
        obtain ⟨hds,hone⟩:=DZ e5b hcs
        have hlen:(a.eval x).cells.toList.length=ti.sz:=by
         have:=nU _ _ c1
         rw [hds,List.length_map] at this;exact this
        obtain ⟨r1,r2,r3⟩:=g1 i.toNat (by omega)
        rw [hds] at e7
        obtain ⟨vs',p1,p2⟩:=wN r1 e7
        obtain ⟨k1,k2,k3,k4⟩:=kS _ _ _ _ p1
        have hin:∀ j,j<(a.eval x).cells.toList.length→H k' b (off+i.toNat * sz+o+j)≠none:=fun j hj=>by
         have:=r3 (o+j) (by omega)
         rw [Nat.add_assoc,this,List.getElem?_eq_getElem (by omega)];simp
        obtain ⟨w',u1,u2,u3,u4⟩:=A8 (P:=E.P) t2 rfl hlen (m.mm.fit k').fit hin hone
        have hmem:=m.put (v:=B k') (h':=(H k').updL b (off+i.toNat * sz+o) (a.eval x).cells.toList) (w':=w') hmu (.inl rfl) ?_ ((m.mm.fit k').turn u2 u3 fun b o hb=>⟨o,PH.updL_ne hin hb⟩) (u3.mono ?_) (fun b o hb => .inl (PH.updL_ne hin hb))
        ·refine ⟨.skip,w',_,_,?_,fun x hx=>(by cases hx),fun _=>rfl,hmem,FitsE.anew f _ hc1 hc2,fun j hj=>⟨BE.set_ne _ _ hj,HF.set_ne _ _ hj⟩⟩
         have he:a.eval ad = .pointer (some ⟨b,off+i.toNat * sz+o,none⟩):=by
          rw [(show a.eval ad=elP (B k') sz i o∧_ from Ev e1).1,s1,i9]
         simp only [execOp,he]
         simp only [Instr.storeAt,Instr.sureAddr,Sem.run_bind,Sem.run_pure,Result.andThen_ok]
         rw [← t1,u1]
         rfl
        ·rw [BE.set_self]
         refine ⟨_,cp,s1,s2,s3, .inr ⟨b,off,fun j=>if j=i.toNat then vs' else row j,G,rfl,fun j hj=>?_,fun j hj hj2 x hx=>?_,fun j x y v hv=>?_,g3.2⟩⟩
         ·by_cases hji:j=i.toNat
          ·subst hji
           simp only [Nat.beq_refl,cond_true,if_true]
           refine ⟨p2,by omega,fun x' hx=>?_⟩
           by_cases hx2:o≤x'∧x'<o+(a.eval x).cells.toList.length
           ·rw [show off+i.toNat * sz+x'=off+i.toNat * sz+o+(x' - o) from by omega,PH.updL_in _ _ _ _ (by omega)]
            have:=k3 (x' - o) (by omega)
            rw [show o+(x' - o)=x' from by omega] at this
            exact this.symm
           ·rw [PH.updL_out _ (by omega),r3 x' hx]
            exact (k4 x' (by omega)).symm
          ·have hb:Nat.beq j i.toNat=false:=by
            cases e:Nat.beq j i.toNat with
            | false=>rfl
            | true=>exact absurd (Nat.eq_of_beq_eq_true e) hji
           simp only [hb,cond_false,if_neg hji]
           obtain ⟨j1,j2,j3⟩:=g1 j hj
           refine ⟨j1,j2,fun x' hx=>?_⟩
           rw [PH.updL_out _ (by
            rintro ⟨_,h6,h7⟩
            rcases Nat.lt_or_gt_of_ne hji with h8 | h8
            ·have:=Nat.mul_le_mul_right sz (show j+1≤i.toNat from h8)
             rw [Nat.add_mul,Nat.one_mul] at this
             omega
            ·have:=Nat.mul_le_mul_right sz (show i.toNat+1≤j from h8)
             rw [Nat.add_mul,Nat.one_mul] at this
             omega)]
           exact j3 x' hx
         ·rw [PH.updL_out _ (by
           rintro ⟨_,h6,h7⟩
           have:=Nat.mul_le_mul_right sz (show i.toNat+1≤j from by omega)
           rw [Nat.add_mul,Nat.one_mul] at this
           omega)]
          exact g2 j hj hj2 x hx
         ·rw [PH.updL_out]
          ·exact g3.1 j x y v hv
          ·rintro ⟨rfl,z1,z2⟩
           have z3:(i.toNat+1) * sz≤cp * sz:=Nat.mul_le_mul_right _ (by omega)
           rw [Nat.add_mul,Nat.one_mul] at z3
           rw [g3.2.2 j y (by omega) (by omega)] at hv;cases hv
        ·rintro x' _ y' ⟨rfl,g1,g2⟩
         have:=hin (y' - (off+i.toNat * sz+o)) (by omega)
         rwa [show off+i.toNat * sz+o+(y' - (off+i.toNat * sz+o))=y' from by omega] at this
      ·cases hcut
     ·cases h
   ·cases h
  ·cases h
 ·cases h
end
end
end
end Go.Proofs.YthpjoddhlkcciaaGreat
