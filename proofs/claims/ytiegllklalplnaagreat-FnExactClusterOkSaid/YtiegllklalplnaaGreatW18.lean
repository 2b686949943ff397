
/-
  Regions that draw their order.
-/
import Derived.Test.YtiegllklalplnaaGreatW17h
namespace Go.Proofs.YtiegllklalplnaaGreat
open Go Go.RowKit
set_option linter.unusedVariables false
set_option linter.unusedSimpArgs false

section
variable {P : Program} {ops : Array Oper} {Q : Exit → Act → World → Prop} {S : World → Prop}
/-- Whatever order is picked from here on, and in whatever later world; S holds behind each operation. -/
def Lw (P : Program) (ops : Array Oper) (Q : Exit → Act → World → Prop) (S : World → Prop) : Nat → Array Bool → Act → World → Prop
  | 0, l, a, w => ∀ w', Below w.heap.size w w' → Region.ready .any ops l = [] ∧ Q .normal a w'
  | n + 1, l, a, w => ∀ w', Below w.heap.size w w' → (Region.ready .any ops l = [] → Q .normal a w') ∧
    ∀ i ∈ Region.ready .any ops l, wpOp P ops Q i (fun a' w' => S w' ∧ Lw P ops Q S n (l.setIfInBounds i true) a' w') a w'
theorem Below.later {a b c : World} (h : Below a.heap.size a b) (k : Below b.heap.size b c) : Below a.heap.size a c := h.trans (k.mono h.size)
theorem Lw.up {w w' : World} (hb : Below w.heap.size w w') : ∀ {n : Nat} {l : Array Bool} {a : Act}, Lw P ops Q S n l a w → Lw P ops Q S n l a w'
  | 0, _, _, h => fun w2 hb2 => h w2 (Below.later hb hb2)
  | _ + 1, _, _, h => fun w2 hb2 => h w2 (Below.later hb hb2)
theorem Lw.any : ∀ {n : Nat} {l : Array Bool} {a : Act} {w : World}, Lw P ops Q S n l a w → wpAny P .any ops Q n l a w
  | 0, _, _, w, h => h w (Below.refl _ _)
  | n + 1, l, a, w, h => ⟨(h w (Below.refl _ _)).1, fun i hi => wpOp_mono (fun a' w' h' => Lw.any h'.2) ((h w (Below.refl _ _)).2 i hi)⟩
/-- it answers v, and leaves what there was -/
def Qu (P : Program) (s : Sem Next) (v : Value) (w : World) : Prop :=
  s.run P w = .ok (.value v) w ∨ ∃ f args, s.run P w = .ok (.enter f args) w ∧ Calls P f args w fun e w' => e = .returned v ∧ Below w.heap.size w w'
/-- in frame a, in every world of S, the operation leaves v -/
def Yi (P : Program) (ops : Array Oper) (S : World → Prop) (o : Oper) (v : Value) (a : Act) : Prop :=
  (Region.wanted o (yielded ops a.tmps) = true ∧ ∀ w, S w → Qu P (execOp a.eval o) v w) ∨ (Region.wanted o (yielded ops a.tmps) = false ∧ v = undef)
theorem Yi.wpOp {i : Nat} {o : Oper} {v : Value} {a : Act} (hi : ops[i]? = some o) (hy : Yi P ops S o v a) {K : Act → World → Prop} {w : World} (hw : S w) (h : ∀ w', Below w.heap.size w w' → K (a.put o.dst v) w') : wpOp P ops Q i K a w := by
  unfold Go.wpOp
  simp only [hi]
  rcases hy with ⟨h1, h2⟩ | ⟨h1, rfl⟩
  · rw [if_pos h1]
    refine .inl ?_
    unfold Oper.wp
    rcases h2 w hw with h3 | ⟨f, args, h3, h4⟩
    · rw [h3]; exact h w (Below.refl _ _)
    · rw [h3]
      exact h4.mono fun e w' ⟨e1, e2⟩ => by subst e1; exact h w' e2
  · simp only [h1, Bool.false_eq_true, if_false]; exact h w (Below.refl _ _)
theorem Yi.of_same {o : Oper} {v : Value} {a a' : Act} (hy : Yi P ops S o v a) (he : execOp a'.eval o = execOp a.eval o) (hw : Region.wanted o (yielded ops a'.tmps) = Region.wanted o (yielded ops a.tmps)) : Yi P ops S o v a' := by
  unfold Yi at *
  rw [he, hw]
  exact hy
theorem wpOp_putI {j : Nat} {oi oj : Oper} {v : Value} (hj : ops[j]? = some oj) (hap : oi.apart ops oj = true) (hsi : ∀ cs b, oi.op ≠ .select cs b) (hsj : ∀ cs b, oj.op ≠ .select cs b)
    (hQ : ∀ c a w, Q (.panic c) (a.put oi.dst v) w → Q (.panic c) a w) {K : Act → World → Prop} {a : Act} {w : World} (hy : Yi P ops S oi v a) (h : wpOp P ops Q j K (a.put oi.dst v) w) :
    wpOp P ops Q j (fun a' w' => Yi P ops S oi v a' ∧ K (a'.put oi.dst v) w') a w := by
  obtain ⟨h1, h2, h3⟩ := Oper.apart_spec hap
  have keep : ∀ (a : Act), Yi P ops S oi v a → ∀ u, Yi P ops S oi v (a.put oj.dst u) := fun a hy u => hy.of_same (execOp_put oi hsi a oj.dst u h3) (wanted_put oi a oj.dst u h3)
  have keepD : ∀ d, Yi P ops S oi v { a with defers := d :: a.defers } := fun d => hy.of_same rfl rfl
  unfold wpOp at *
  simp only [hj] at *
  rw [wanted_put oj a oi.dst v h1] at h
  split
  · rename_i hw
    simp only [hw, if_true] at h
    rcases h with h | ⟨hasks, hlets⟩
    case inr => exact .inr ⟨by unfold Oper.asks at *; rw [execOp_put oj hsj a oi.dst v h1] at hasks; exact hasks, hlets⟩
    refine .inl ?_
    unfold Oper.wp at *
    rw [execOp_put oj hsj a oi.dst v h1] at h
    generalize (execOp a.eval oj).run P w = r at *
    cases r with
    | ok n w' =>
      cases n <;> simp only [Oper.upon] at h ⊢
      case value u => exact ⟨keep a hy u, by rw [← Act.put_comm a v u h2]; exact h⟩
      case skip => exact ⟨keep a hy _, by rw [← Act.put_comm a v undef h2]; exact h⟩
      case defer d =>
        refine ⟨keep _ (keepD d) _, ?_⟩
        rw [← Act.put_comm _ v undef h2, ← Act.put_defers]
        exact h
      case enter f args =>
        refine Calls.mono h fun e w'' he => ?_
        cases e with
        | returned u => exact ⟨keep a hy u, by rw [← Act.put_comm a v u h2]; exact he⟩
        | panicked c => exact hQ _ _ _ he
        | outgrown => exact he
      case row row args => exact Rows.mono h fun u w'' he => ⟨keep a hy u, by rw [← Act.put_comm a v u h2]; exact he⟩
    | halt x w' =>
      cases x <;> simp only [Oper.upon] at h ⊢
      case panic u => exact hQ _ _ _ h
  · rename_i hw
    simp only [hw] at h
    exact ⟨keep a hy _, by rw [← Act.put_comm a v undef h2]; exact h⟩

def Closed (ops : Array Oper) (l : Array Bool) : Prop := ∀ j oj, ops[j]? = some oj → l.getD j false = true → ∀ e ∈ oj.after, Region.binds .any e = true → l.getD e.on false = true
theorem Closed.set {l : Array Bool} {i : Nat} (h : Closed ops l) (hi : i ∈ Region.ready .any ops l) : Closed ops (l.setIfInBounds i true) := by
  obtain ⟨_, oi, hoi, hall⟩ := mem_ready.1 hi
  intro j oj hj hl e he hb
  by_cases hij : i = j
  · subst hij
    rw [hj] at hoi
    injection hoi with hoi
    subst hoi
    exact getD_set_true (hall e he hb)
  · rw [getD_set_ne false hij] at hl
    exact getD_set_true (h j oj hj hl e he hb)
theorem Lw_first (hup : ∀ w w', Below w.heap.size w w' → S w → S w') {i : Nat} {oi : Oper} {v : Value} (hi : ops[i]? = some oi) (hsel : ∀ (j : Nat) (o : Oper) cs b, ops[j]? = some o → o.op ≠ .select cs b) (hQ : ∀ c a w, Q (.panic c) (a.put oi.dst v) w → Q (.panic c) a w) :
    ∀ (n : Nat) (l : Array Bool) (a : Act) (w : World), (∀ j oj, ops[j]? = some oj → j ≠ i → l.getD j true = false → (∀ e ∈ oj.after, Region.binds .any e = true → e.on ≠ i) → oi.apart ops oj = true) →
      i ∈ Region.ready .any ops l → Yi P ops S oi v a → S w → Lw P ops Q S n (l.setIfInBounds i true) (a.put oi.dst v) w → Lw P ops Q S (n + 1) l a w := by
  intro n
  induction n with
  | zero =>
    intro l a w _ hr hy hS H w2 hb
    have hS2 := hup w w2 hb hS
    refine ⟨fun h => (by rw [h] at hr; cases hr), fun j hj => ?_⟩
    by_cases hji : j = i
    · subst hji; exact hy.wpOp hi hS2 fun w3 hb3 => ⟨hup w2 w3 hb3 hS2, Lw.up (Below.later hb hb3) H⟩
    · have := ready_mono hj hji
      rw [(H w2 hb).1] at this
      cases this
  | succ n ih =>
    intro l a w hfree hr hy hS H w2 hb
    have hS2 := hup w w2 hb hS
    refine ⟨fun h => (by rw [h] at hr; cases hr), fun j hj => ?_⟩
    by_cases hji : j = i
    · subst hji; exact hy.wpOp hi hS2 fun w3 hb3 => ⟨hup w2 w3 hb3 hS2, Lw.up (Below.later hb hb3) H⟩
    · have h1 := (H w2 hb).2 j (ready_mono hj hji)
      obtain ⟨hjun, oj, hoj, hall⟩ := mem_ready.1 hj
      have hiun := (mem_ready.1 hr).1
      have hnot : ∀ e ∈ oj.after, Region.binds .any e = true → e.on ≠ i := fun e he hb heq => by
        have h1 := hall e he hb
        rw [heq] at h1
        rcases Nat.lt_or_ge i l.size with h' | h'
        · simp [h'] at hiun h1; rw [hiun] at h1; cases h1
        · simp [Array.getElem?_eq_none h'] at h1
      have h2 := wpOp_putI (S := S) hoj (hfree j oj hoj hji hjun hnot) (fun cs b => hsel i oi cs b hi) (fun cs b => hsel j oj cs b hoj) hQ hy h1
      have hfree' : ∀ k ok, ops[k]? = some ok → k ≠ i → (l.setIfInBounds j true).getD k true = false → (∀ e ∈ ok.after, Region.binds .any e = true → e.on ≠ i) → oi.apart ops ok = true := fun k ok hk hki hun hno => by
        refine hfree k ok hk hki ?_ hno
        by_cases hjk : j = k
        · subst hjk; exact hjun
        · rw [getD_set_ne true hjk] at hun; exact hun
      refine wpOp_mono (fun a' w' h3 => ⟨h3.2.1, ih (l.setIfInBounds j true) a' w' hfree' (ready_mono hr (Ne.symm hji)) h3.1 h3.2.1 ?_⟩) h2
      rw [Array.setIfInBounds_comm _ _ hji]
      exact h3.2.2

/-! ### which operations have come up -/
def mk (n : Nat) (tk : List Nat) : Array Bool := (Array.range n).map fun i => tk.any (Nat.beq · i)
theorem mk_set (n i : Nat) (tk : List Nat) : (mk n tk).setIfInBounds i true = mk n (i :: tk) := by
  apply Array.ext_getElem?
  intro j
  by_cases hij : i = j
  · subst hij
    by_cases hn : i < n
    · simp [mk, hn, Nat.beq_refl]
    · simp [mk, hn]
  · rw [Array.getElem?_setIfInBounds_ne hij]
    unfold mk
    rw [Array.getElem?_map, Array.getElem?_map]
    by_cases hn : j < n
    · rw [Array.getElem?_range, if_pos hn]
      simp [hij, Nat.beq_eq]
    · rw [Array.getElem?_range, if_neg hn]; rfl
theorem mk_set_aux {i j : Nat} (hij : i ≠ j) : Nat.beq i j = false := by
    have : Nat.beq i j = false := by
      cases e : Nat.beq i j with
      | false => rfl
      | true => exact absurd (Nat.eq_of_beq_eq_true e) hij
    exact this
theorem mk_nil (n : Nat) : Array.replicate n false = mk n [] := by
  apply Array.ext_getElem?
  intro j
  by_cases hn : j < n <;> simp [mk, hn]
/-- may i be taken first? -/
def takeB (ops : Array Oper) (tk : List Nat) (i : Nat) : Bool :=
  (Region.ready .any ops (mk ops.size tk)).contains i && Region.free .any ops (mk ops.size tk) i && Region.noSelect ops
/-- is i the only one that may come up? -/
def oneB (ops : Array Oper) (tk : List Nat) (i : Nat) : Bool := match Region.ready .any ops (mk ops.size tk) with
  | [j] => Nat.beq j i
  | _ => false
end


section
variable {E : Env} {B : BE} {mu mu' : Mu} {w : World} {H : Nat → PH} {TT : List TI} {fr fr' : Fr} {gf gf' : GF} {a : Act} {all rest : List Oper} {o : Oper} {J : Act → World → Prop} {G : AG} {R : Exit → Act → World → Prop} {K : List KF}
def PQ (R : Exit → Act → World → Prop) : Prop := ∀ c a d v w, R (.panic c) (a.put d v) w → R (.panic c) a w
theorem pq_body {P : Program} (fn : Func) (Rp : Ending → World → Prop) : PQ (bodyPost P fn Rp) := fun c a d v w h => by
  cases d <;> exact h
theorem pq_K {P : Program} (hR : PQ R) : ∀ K : List KF, PQ (KQ P R K)
  | [] => hR
  | .seq c :: K => fun c a d v w h => pq_K hR K c a d v w h
  | .blk id :: K => fun c a d v w h => pq_K hR K c a d v w h
  | .loop I :: K => fun c a d v w h => pq_K hR K c a d v w h
/-- chunks with these keys -/
def muR (ks : List Nat) : Mu → Mu
  | [] => []
  | (k, c) :: r => bif hasK k ks then (k, c) :: muR ks r else muR ks r
theorem muR_get {ks : List Nat} : ∀ {mu : Mu} {k : Nat} {c : Ch}, mlk k (muR ks mu) = some c → hasK k ks = true ∧ mlk k mu = some c
  | [], _, _, h => by cases h
  | (j, d) :: r, k, c, h => by
    simp only [muR] at h
    cases e : hasK j ks with
    | true =>
      rw [e] at h
      simp only [cond_true] at h
      rw [mlk_cons] at h ⊢
      by_cases hj : j = k
      · subst hj; rw [if_pos rfl] at h ⊢; exact ⟨e, h⟩
      · rw [if_neg hj] at h ⊢; exact muR_get h
    | false =>
      rw [e] at h
      simp only [cond_false] at h
      obtain ⟨h1, h2⟩ := muR_get h
      rw [mlk_cons]
      by_cases hj : j = k
      · subst hj; rw [e] at h1; cases h1
      · rw [if_neg hj]; exact ⟨h1, h2⟩
def keysX (ex : List Nat) : Mu → List Nat
  | [] => []
  | (k, _) :: r => bif hasK k ex then keysX ex r else k :: keysX ex r
/-- what lies still in a region -/
def Sr (G : AG) (r : PH) (w : World) : Prop := Fit r w ∧ ∀ k, hasK k G.ks = true → Fit (G.H k) w
theorem Sr.up {r : PH} {w w' : World} (hb : Below w.heap.size w w') (h : Sr G r w) : Sr G r w' := ⟨h.1.ext hb, fun k hk => (h.2 k hk).ext hb⟩
theorem Mem.sr (m : Mem E B mu w H) (g : G.ok B H) : Sr G E.r w := ⟨m.mm.fitr, fun k hk => by rw [← (g k hk).2]; exact m.mm.fit k⟩
theorem Mem.msR (m : Mem E B mu w H) (ks : List Nat) : Ms B E.r (muR ks mu) H := ⟨fun k c e => m.mm.sat k c (muR_get e).2, m.mm.dj, m.mm.djr⟩
theorem Sr.fw {w' : World} {r : PH} (g : G.ok B H) (h : Sr G r w') : Fw r (muR G.ks mu) H w' := ⟨fun k c e => by rw [(g k (muR_get e).1).2]; exact h.2 k (muR_get e).1, h.1⟩
/-- a region that draws -/
def DJ (G : AG) (E : Env) (all : List Oper) (Q : Exit → Act → World → Prop) (n : Nat) (tk : List Nat) (fr : Fr) (gf : GF) (mu : Mu) : Prop :=
  SJ G (Lw E.P all.toArray Q (Sr G E.r) n (mk all.toArray.size tk)) E fr gf mu
theorem T_draw {id : Nat} {l : List Oper} (ex : List Nat) (n : Nat) (hm : E.P.follows .mixedOrders = true) (hn : l.toArray.size = n) {ks : List Nat} (hks : keysX ex mu = ks) (h : ∀ B0 H0, DJ ⟨ks, B0, H0⟩ E l (KQ E.P R K) n [] fr [] mu) : T E R (.region id l.toArray true) fr mu K := fun B a w H f m => by
  subst hn
  refine wp_region_any hm ?_
  rw [mk_nil]
  exact (h B H B a _ H f (m.below (Keep.drew w).below) fun _ _ => ⟨rfl, rfl⟩).any
/-- an operation that leaves what there was is taken first -/
theorem DJ_first (hR : PQ R) (i : Nat) {n : Nat} {tk : List Nat} {o : Oper} (hi : nth all i = some o) (hB : takeB all.toArray tk i = true)
    (h : ∀ B a w H, FitsE E B H fr gf a → Mem E B mu w H → G.ok B H → ∃ v, Yi E.P all.toArray (Sr G E.r) o v a ∧ FitsE E B H fr' gf' (a.put o.dst v))
    (k : DJ G E all (KQ E.P R K) n (i :: tk) fr' gf' mu) : DJ G E all (KQ E.P R K) (n + 1) tk fr gf mu := fun B a w H f m gg => by
  simp only [takeB, Bool.and_eq_true] at hB
  obtain ⟨⟨b1, b2⟩, b3⟩ := hB
  have hi' : all.toArray[i]? = some o := by rw [nth_eq] at hi; simpa using hi
  obtain ⟨v, hy, hf⟩ := h B a w H f m gg
  refine Lw_first (fun w w' hb m => m.up hb) hi' (Region.noSelect_spec b3) (fun c a w h => pq_K hR K c a _ _ w h) n _ a w (Region.free_spec hi' b2) (by simpa using b1) hy (m.sr gg) ?_
  rw [mk_set]
  exact k B _ w H hf m gg
theorem DJ_take (hT : TOk E.P TT) (hR : PQ R) (i : Nat) {n : Nat} {tk : List Nat} {o : Oper} {t : Nat} {x : SV} {q : Ob} (hi : nth all i = some o) (hB : takeB all.toArray tk i = true) (hg : o.guard = none) (hd : o.dst = some t) (ht : Nat.blt t E.N = true)
    (hp : pst TT fr gf (muR G.ks mu) [] o.op = some (x, q)) {es es' : List Prop} {gs gs' : List GO} (hs : splitO fr gf [] q es gs = some (es', gs')) (he : PAlls es') (ho : GAlls gs') (hgd : gdrop t gf = some gf')
    (k : DJ G E all (KQ E.P R K) n (i :: tk) ((t, x) :: fr) gf' mu) : DJ G E all (KQ E.P R K) (n + 1) tk fr gf mu :=
  DJ_first hR i hi hB (fun B a w H f m gg => by
    obtain ⟨v, r1, r2⟩ := pst_ok hT f (m.msR G.ks) (g := []) (fun _ _ hm => by cases hm) hp (splitO_ok f (fun _ _ hm => by cases hm) hs he ho)
    exact ⟨v, .inl ⟨wanted_none hg, fun w' s' => .inl (r1 w' (s'.fw gg))⟩, by rw [hd]; exact Fits.put f (by simpa [Nat.blt_eq] using ht) r2 hgd⟩) k
theorem DJ_takeG (hT : TOk E.P TT) (hR : PQ R) (i : Nat) {n : Nat} {tk : List Nat} {o : Oper} {t j d : Nat} {b : Bool} {x : SV} {q : Ob} (hi : nth all i = some o) (hB : takeB all.toArray tk i = true) (hg : o.guard = some (j, b)) (hsl : gSlot all j = some d) (hd : o.dst = some t) (ht : (Nat.blt t E.N && !(Nat.beq t d)) = true) (hn : mlk t fr = none)
    (hp : pst TT fr gf (muR G.ks mu) (acts 6 gf d b) o.op = some (x, q)) {es es' : List Prop} {gs gs' : List GO} (hs : splitO fr gf (acts 6 gf d b) q es gs = some (es', gs')) (he : PAlls es') (ho : GAlls gs') (hgd : gdrop t gf = some gf')
    (k : DJ G E all (KQ E.P R K) n (i :: tk) fr ((t, d, b, x) :: gf') mu) : DJ G E all (KQ E.P R K) (n + 1) tk fr gf mu :=
  DJ_first hR i hi hB (fun B a w H f m gg => by
    simp only [Bool.and_eq_true, Bool.not_eq_true'] at ht
    have htd : t ≠ d := Nat.ne_of_beq_eq_false ht.2
    have htN : t < E.N := by simpa [Nat.blt_eq] using ht.1
    have hw := wanted_some (ops := all.toArray) (a := a) hg (gslot_ops hsl)
    by_cases hyes : a.tmps.getD d undef = .bool b
    · have hacts := acts_ok f 6 d b hyes
      obtain ⟨v, r1, r2⟩ := pst_ok hT f (m.msR G.ks) hacts hp (splitO_ok f hacts hs he ho)
      refine ⟨v, .inl ⟨hw.2 hyes, fun w' s' => .inl (r1 w' (s'.fw gg))⟩, ?_⟩
      rw [hd]; exact Fits.putG f htN htd hn hgd (.inl ⟨hyes, r2⟩)
    · refine ⟨undef, .inr ⟨?_, rfl⟩, ?_⟩
      · cases e : Region.wanted o (yielded all.toArray a.tmps) with
        | false => rfl
        | true => exact absurd (hw.1 e) hyes
      · rw [hd]; exact Fits.putG f htN htd hn hgd (.inr ⟨hyes, rfl⟩)) k
/-- a value that is told whole -/
def exL : List V → Option (List Value)
  | [] => some []
  | .v x :: r => match exL r with
    | some l => some (x :: l)
    | none => none
  | _ :: _ => none
mutual
def exV : SV → Option Value
  | .a (.v x) => some x
  | .ag l => match exL l with
    | some m => some (.agg m.toArray)
    | none => none
  | .tu l => match exVs l with
    | some m => some (.tuple m.toArray)
    | none => none
  | _ => none
def exVs : List SV → Option (List Value)
  | [] => some []
  | x :: r => match exV x, exVs r with
    | some y, some l => some (y :: l)
    | _, _ => none
end
theorem exL_ok {Z : Tg → PH} : ∀ {l : List V} {m : List Value}, exL l = some m → ∀ {vs : List Value}, V.rels B Z l vs → vs = m
  | [], m, h, vs, e => by simp [exL] at h; subst h; exact e
  | .v x :: r, m, h, vs, e => by
    simp only [exL] at h
    cases c : exL r with
    | none => rw [c] at h; cases h
    | some l =>
      rw [c] at h; injection h with h; subst h
      obtain ⟨a, t, rfl, e2, e3⟩ := e
      have e2 : a = x := e2
      rw [e2, exL_ok c e3]
  | .s .. :: _, _, h, _, _ => by simp [exL] at h
  | .g .. :: _, _, h, _, _ => by simp [exL] at h
  | .p .. :: _, _, h, _, _ => by simp [exL] at h
  | .pe .. :: _, _, h, _, _ => by simp [exL] at h
  | .sb .. :: _, _, h, _, _ => by simp [exL] at h
  | .gl .. :: _, _, h, _, _ => by simp [exL] at h
  | .rp .. :: _, _, h, _, _ => by simp [exL] at h
  | .any :: _, _, h, _, _ => by simp [exL] at h
mutual
theorem exV_ok {P : Program} {Z : Tg → PH} : ∀ {x : SV} {y : Value}, exV x = some y → ∀ {v : Value}, SV.rel P B Z x v → v = y
  | .a (.v x), y, h, v, e => by simp [exV] at h; subst h; exact e
  | .ag l, y, h, v, e => by
    simp only [exV] at h
    cases c : exL l with
    | none => rw [c] at h; cases h
    | some m =>
      rw [c] at h; injection h with h; subst h
      obtain ⟨vs, rfl, e2⟩ := e
      rw [exL_ok c e2]
  | .tu l, y, h, v, e => by
    simp only [exV] at h
    cases c : exVs l with
    | none => rw [c] at h; cases h
    | some m =>
      rw [c] at h; injection h with h; subst h
      obtain ⟨vs, rfl, e2⟩ := e
      rw [exVs_ok c e2]
  | .a (.s ..), _, h, _, _ => by simp [exV] at h
  | .a (.g ..), _, h, _, _ => by simp [exV] at h
  | .a (.p ..), _, h, _, _ => by simp [exV] at h
  | .a (.pe ..), _, h, _, _ => by simp [exV] at h
  | .a (.sb ..), _, h, _, _ => by simp [exV] at h
  | .a (.gl ..), _, h, _, _ => by simp [exV] at h
  | .a (.rp ..), _, h, _, _ => by simp [exV] at h
  | .a .any, _, h, _, _ => by simp [exV] at h
  | .fn .., _, h, _, _ => by simp [exV] at h
  | .fb .., _, h, _, _ => by simp [exV] at h
  | .un, _, h, _, _ => by simp [exV] at h
theorem exVs_ok {P : Program} {Z : Tg → PH} : ∀ {x : List SV} {y : List Value}, exVs x = some y → ∀ {v : List Value}, SV.rels P B Z x v → v = y
  | [], y, h, v, e => by simp [exVs] at h; subst h; exact e
  | x :: r, y, h, v, e => by
    simp only [exVs] at h
    split at h
    · rename_i y' l c1 c2
      injection h with h; subst h
      obtain ⟨a, t, rfl, e2, e3⟩ := e
      rw [exV_ok c1 e2, exVs_ok c2 e3]
    · cases h
end
/-- a call that only answers -/
theorem DJ_q (hR : PQ R) (i : Nat) {n : Nat} {tk : List Nat} {o : Oper} {f : Nat} {ks : List Nat} {args : List SV} {mu1 : Mu} {res : SV} (C : Ans E.P f ks args mu1 res) {x : Value} (hx : exV res = some x) {svs args' : List SV} {g : Option (Nat × Nat × Bool)} {t : Nat} {q : Ob} {gd : Gd} {es : List Prop} {gs : List GO} (hi : nth all i = some o) (hB : takeB all.toArray tk i = true)
    (hc : callC E.N all fr gf o = some (f, svs, g, t, gf')) (hgd : gd = match g with | none => [] | some (_, d, b) => acts 6 gf d b) (hen : Enters E.P f) (hko : keysO mu1 = []) (hres : res.inK ks = true)
    (hw : wkSL (muR G.ks mu) [] ks svs = some (args', q)) (ha : SVs.imp E.P args' args) (hs : splitO fr gf gd q [] [] = some (es, gs)) (he : PAlls es) (ho : GAlls gs) (hin : WkIn (muR G.ks mu) mu1)
    (k : DJ G E all (KQ E.P R K) n (i :: tk) (frQ fr g t res) (gfQ gf' g t res) mu) : DJ G E all (KQ E.P R K) (n + 1) tk fr gf mu := by
  have go : ∀ {B a w H}, FitsE E B H fr gf a → Mem E B mu w H → G.ok B H → (∀ d w, (d, w) ∈ gd → a.tmps.getD d undef = .bool w) → callsOf gd fr gf o.op = some (f, svs) → SV.rel E.P B (Zf E.r H) res x ∧ ∀ w', Sr G E.r w' → Qu E.P (execOp a.eval o) x w' := fun {B a w H} ff m gg hgd0 hcall => by
    have main : ∀ w', Sr G E.r w' → ∃ vals : List Value, (execOp a.eval o).run E.P w' = .ok (.enter f vals.toArray) w' ∧ Calls E.P f vals.toArray w' fun e w2 => ∃ v, e = .returned v ∧ (∀ Z, SV.rel E.P B Z res v) ∧ Below w'.heap.size w' w2 := fun w' s' => by
      obtain ⟨vals, r1, r2⟩ := callsOf_run (w := w') ff hgd0 hcall hen
      have ms := m.msR G.ks
      have fw := s'.fw (mu := mu) gg
      exact ⟨vals, r1, ans_run C hko hres ⟨ms.sat, fw.fit, fw.fitr, ms.dj, ms.djr⟩ hw ha (splitO_ok ff hgd0 hs he ho) hin r2⟩
    refine ⟨?_, fun w' s' => ?_⟩
    · have : ∀ (r : SV) (x : Value), exV r = some x → SV.rel E.P B (Zf E.r H) r x := by
        intro r
        have hl : ∀ {l : List V} {m : List Value}, exL l = some m → V.rels B (Zf E.r H) l m := fun {l} => by
          induction l with
          | nil => intro m h; simp [exL] at h; subst h; rfl
          | cons y r ih =>
            intro m h
            cases y <;> simp only [exL] at h <;> first | (cases h; done) | skip
            cases c : exL r with
            | none => rw [c] at h; cases h
            | some l => rw [c] at h; injection h with h; subst h; exact ⟨_, _, rfl, rfl, ih c⟩
        refine SV.rec (motive_1 := fun r => ∀ (x : Value), exV r = some x → SV.rel E.P B (Zf E.r H) r x) (motive_2 := fun l => ∀ (m : List Value), exVs l = some m → SV.rels E.P B (Zf E.r H) l m) ?_ ?_ ?_ ?_ ?_ ?_ ?_ ?_ r
        · intro y x h
          cases y <;> simp [exV] at h
          subst h; rfl
        · intro l x h
          simp only [exV] at h
          cases c : exL l with
          | none => rw [c] at h; cases h
          | some m => rw [c] at h; injection h with h; subst h; exact ⟨m, rfl, hl c⟩
        · intro f l x h; simp [exV] at h
        · intro φ x h; simp [exV] at h
        · intro l ih x h
          simp only [exV] at h
          cases c : exVs l with
          | none => rw [c] at h; cases h
          | some m => rw [c] at h; injection h with h; subst h; exact ⟨m, rfl, ih m c⟩
        · intro x h; simp [exV] at h
        · intro m h; simp [exVs] at h; subst h; rfl
        · intro y l h1 h2 m h
          simp only [exVs] at h
          split at h
          · rename_i y' l' c1 c2
            injection h with h; subst h
            exact ⟨_, _, rfl, h1 _ c1, h2 _ c2⟩
          · cases h
      exact this _ _ hx
    · obtain ⟨vals, r1, r2⟩ := main w' s'
      exact .inr ⟨f, _, r1, r2.mono fun e w2 ⟨v, c1, c2, c3⟩ => ⟨by rw [c1, exV_ok hx (c2 (Zf E.r H))], c3⟩⟩
  match g, hc, hgd, k with
  | none, hc, hgd, k =>
    subst hgd
    obtain ⟨h1, h2, h3, h4, h5⟩ := callC_none hc
    refine DJ_first hR i hi hB (fun B a w H ff m gg => ?_) k
    obtain ⟨g1, g2⟩ := go ff m gg (fun _ _ hm => by cases hm) h4
    exact ⟨x, .inl ⟨wanted_none h1, g2⟩, by rw [h2]; exact Fits.put ff (by simpa [Nat.blt_eq] using h3) g1 h5⟩
  | some (j, d, b), hc, hgd, k =>
    subst hgd
    obtain ⟨h1, h2, h3, h4, h5, h6, h7⟩ := callC_some hc
    simp only [Bool.and_eq_true, Bool.not_eq_true'] at h4
    have htd : t ≠ d := Nat.ne_of_beq_eq_false h4.2
    have htN : t < E.N := by simpa [Nat.blt_eq] using h4.1
    refine DJ_first hR i hi hB (fun B a w H ff m gg => ?_) k
    have hwt := wanted_some (ops := all.toArray) (a := a) h1 (gslot_ops h2)
    by_cases hyes : a.tmps.getD d undef = .bool b
    · have hacts := acts_ok ff 6 d b hyes
      obtain ⟨g1, g2⟩ := go ff m gg hacts h6
      refine ⟨x, .inl ⟨hwt.2 hyes, g2⟩, ?_⟩
      rw [h3]; exact Fits.putG ff htN htd h5 h7 (.inl ⟨hyes, g1⟩)
    · refine ⟨undef, .inr ⟨?_, rfl⟩, ?_⟩
      · cases e : Region.wanted o (yielded all.toArray a.tmps) with
        | false => rfl
        | true => exact absurd (hwt.1 e) hyes
      · rw [h3]; exact Fits.putG ff htN htd h5 h7 (.inr ⟨hyes, rfl⟩)
/-- steps through operations by their numbers, as far as it can -/
def drun (TT : List TI) (N : Nat) (all : List Oper) (mu : Mu) : List Nat → Fr → GF → List Nat → List Prop → List GO → Option (List Nat × Fr × GF × List Nat × List Prop × List GO)
  | [], fr, gf, tk, es, gs => some ([], fr, gf, tk, es, gs)
  | i :: r, fr, gf, tk, es, gs => match nth all i with
    | none => none
    | some o => match o.guard with
      | none => match pst TT fr gf mu [] o.op, o.dst with
        | some (x, q), some t => match splitO fr gf [] q es gs, gdrop t gf with
          | some (es', gs'), some gf' => bif Nat.blt t N then drun TT N all mu r ((t, x) :: fr) gf' (i :: tk) es' gs' else none
          | _, _ => none
        | _, _ => some (i :: r, fr, gf, tk, es, gs)
      | some (j, w) => match gSlot all j with
        | some d => match pst TT fr gf mu (acts 6 gf d w) o.op, o.dst with
          | some (x, q), some t => match mlk t fr with
            | none => match splitO fr gf (acts 6 gf d w) q es gs, gdrop t gf with
              | some (es', gs'), some gf' => bif (Nat.blt t N && !(Nat.beq t d)) then drun TT N all mu r fr ((t, d, w, x) :: gf') (i :: tk) es' gs' else none
              | _, _ => none
            | some _ => none
          | _, _ => some (i :: r, fr, gf, tk, es, gs)
        | none => none
/-! ### drawn regions -/
def iota : Nat → Nat → List Nat
  | _, 0 => []
  | i, n + 1 => i :: iota (i + 1) n
def takeL {α : Type} : Nat → List α → List α
  | 0, _ => []
  | _, [] => []
  | n + 1, x :: r => x :: takeL n r
/-- each that was taken may be taken in its turn -/
def tookB (ops : Array Oper) : List Nat → List Nat → List Nat → Bool
  | [], _, _ => true
  | i :: is, is', tk => bif Nat.beq is.length.succ is'.length then true else (takeB ops tk i && tookB ops is is' (i :: tk))
theorem drun_took (hT : TOk E.P TT) (hR : PQ R) : ∀ (is : List Nat) (fr : Fr) (gf : GF) (tk : List Nat) (es : List Prop) (gs : List GO) {is' : List Nat} {fr' : Fr} {gf' : GF} {tk' : List Nat} {es' : List Prop} {gs' : List GO}, drun TT E.N all (muR G.ks mu) is fr gf tk es gs = some (is', fr', gf', tk', es', gs') → is'.length ≤ is.length ∧ (tookB all.toArray is is' tk = true → PAlls es' ∧ GAlls gs' →
    (PAlls es ∧ GAlls gs) ∧ (DJ G E all (KQ E.P R K) is'.length tk' fr' gf' mu → DJ G E all (KQ E.P R K) is.length tk fr gf mu))
  | [], fr, gf, tk, es, gs, is', fr', gf', tk', es', gs', h => by
    simp only [drun, Option.some.injEq, Prod.mk.injEq] at h
    obtain ⟨rfl, rfl, rfl, rfl, rfl, rfl⟩ := h
    exact ⟨Nat.le_refl _, fun _ ho => ⟨ho, id⟩⟩
  | i :: is, fr, gf, tk, es, gs, is', fr', gf', tk', es', gs', h => by
    have stop : some (i :: is, fr, gf, tk, es, gs) = some (is', fr', gf', tk', es', gs') → is'.length ≤ (i :: is).length ∧ (tookB all.toArray (i :: is) is' tk = true → PAlls es' ∧ GAlls gs' → (PAlls es ∧ GAlls gs) ∧ (DJ G E all (KQ E.P R K) is'.length tk' fr' gf' mu → DJ G E all (KQ E.P R K) (i :: is).length tk fr gf mu)) := fun h => by
      simp only [Option.some.injEq, Prod.mk.injEq] at h
      obtain ⟨rfl, rfl, rfl, rfl, rfl, rfl⟩ := h
      exact ⟨Nat.le_refl _, fun _ ho => ⟨ho, id⟩⟩
    have go : ∀ {fr2 gf2 es2 gs2}, drun TT E.N all (muR G.ks mu) is fr2 gf2 (i :: tk) es2 gs2 = some (is', fr', gf', tk', es', gs') → (takeB all.toArray tk i = true → PAlls es2 ∧ GAlls gs2 → (PAlls es ∧ GAlls gs) ∧ (DJ G E all (KQ E.P R K) is.length (i :: tk) fr2 gf2 mu → DJ G E all (KQ E.P R K) (is.length + 1) tk fr gf mu)) →
        is'.length ≤ (i :: is).length ∧ (tookB all.toArray (i :: is) is' tk = true → PAlls es' ∧ GAlls gs' → (PAlls es ∧ GAlls gs) ∧ (DJ G E all (KQ E.P R K) is'.length tk' fr' gf' mu → DJ G E all (KQ E.P R K) (i :: is).length tk fr gf mu)) := fun h2 hk => by
      obtain ⟨h3, h4⟩ := drun_took hT hR is _ _ _ _ _ h2
      refine ⟨Nat.le_trans h3 (by simp), fun hb ho => ?_⟩
      simp only [tookB] at hb
      have : Nat.beq is.length.succ is'.length = false := by
        cases e : Nat.beq is.length.succ is'.length with
        | false => rfl
        | true => have := Nat.eq_of_beq_eq_true e; omega
      rw [this] at hb
      simp only [cond_false, Bool.and_eq_true] at hb
      obtain ⟨h5, h6⟩ := h4 hb.2 ho
      obtain ⟨h7, h8⟩ := hk hb.1 h5
      exact ⟨h7, fun k => h8 (h6 k)⟩
    simp only [drun] at h
    split at h
    · cases h
    · rename_i o hi
      split at h
      · rename_i hg
        split at h
        · rename_i x q t hp hd
          split at h
          · rename_i es2 gs2 gf2 hs hgd
            cases hbt : Nat.blt t E.N with
            | false => rw [hbt] at h; cases h
            | true =>
              rw [hbt] at h
              simp only [cond_true] at h
              exact go h fun hb h1 => ⟨splitO_mono hs h1, fun k => DJ_take hT hR i hi hb hg hd hbt hp hs h1.1 h1.2 hgd k⟩
          · cases h
        · exact stop h
      · rename_i j w hg
        split at h
        · rename_i d hsl
          split at h
          · rename_i x q t hp hd
            split at h
            · rename_i hn
              split at h
              · rename_i es2 gs2 gf2 hs hgd
                cases hbt : (Nat.blt t E.N && !(Nat.beq t d)) with
                | false => rw [hbt] at h; cases h
                | true =>
                  rw [hbt] at h
                  simp only [cond_true] at h
                  exact go h fun hb h1 => ⟨splitO_mono hs h1, fun k => DJ_takeG hT hR i hi hb hg hsl hd hbt hn hp hs h1.1 h1.2 hgd k⟩
              · cases h
            · cases h
          · exact stop h
        · cases h
theorem iota_length : ∀ i n, (iota i n).length = n
  | _, 0 => rfl
  | i, n + 1 => by rw [iota, List.length_cons, iota_length]
theorem oneB_spec {tk : List Nat} {i : Nat} (h : oneB all.toArray tk i = true) : Region.ready .any all.toArray (mk all.toArray.size tk) = [i] := by
  unfold oneB at h
  split at h
  · rename_i j e; rw [e, Nat.eq_of_beq_eq_true h]
  · cases h
/-- the only operation that may come up -/
theorem DJ_one (i : Nat) {n : Nat} {tk : List Nat} {o : Oper} {Q : Exit → Act → World → Prop} (hi : nth all i = some o) (hB : oneB all.toArray tk i = true) (h : OJ G E all Q (fun a' w' => Sr G E.r w' ∧ Lw E.P all.toArray Q (Sr G E.r) n (mk all.toArray.size (i :: tk)) a' w') o fr gf mu) : DJ G E all Q (n + 1) tk fr gf mu := fun B a w H f m gg w2 hb => by
  have hr := oneB_spec hB
  have hi' : all.toArray[i]? = some o := by rw [nth_eq] at hi; simpa using hi
  refine ⟨fun h0 => (by rw [hr] at h0; cases h0), fun j hj => ?_⟩
  rw [hr] at hj
  obtain rfl := List.mem_singleton.1 hj
  have h1 := h B a w2 H f (m.below hb) gg
  unfold One at h1
  unfold wpOp
  rw [hi', mk_set]
  exact h1
/-- one of two operations -/
theorem DJ_two (i j : Nat) {n : Nat} {tk : List Nat} {o p : Oper} {Q : Exit → Act → World → Prop} (hi : nth all i = some o) (hj : nth all j = some p) (hB : Region.ready .any all.toArray (mk all.toArray.size tk) = [i, j])
    (h : OJ G E all Q (fun a' w' => Sr G E.r w' ∧ Lw E.P all.toArray Q (Sr G E.r) n (mk all.toArray.size (i :: tk)) a' w') o fr gf mu)
    (h2 : OJ G E all Q (fun a' w' => Sr G E.r w' ∧ Lw E.P all.toArray Q (Sr G E.r) n (mk all.toArray.size (j :: tk)) a' w') p fr gf mu) : DJ G E all Q (n + 1) tk fr gf mu := fun B a w H f m gg w2 hb => by
  have hi' : all.toArray[i]? = some o := by rw [nth_eq] at hi; simpa using hi
  have hj' : all.toArray[j]? = some p := by rw [nth_eq] at hj; simpa using hj
  refine ⟨fun h0 => (by rw [hB] at h0; cases h0), fun k hk => ?_⟩
  rw [hB] at hk
  rcases List.mem_cons.1 hk with rfl | hk
  · have h1 := h B a w2 H f (m.below hb) gg
    unfold One at h1
    unfold wpOp
    rw [hi', mk_set]
    exact h1
  · obtain rfl := List.mem_singleton.1 hk
    have h1 := h2 B a w2 H f (m.below hb) gg
    unfold One at h1
    unfold wpOp
    rw [hj', mk_set]
    exact h1
/-- and on -/
theorem SJ_dj {n : Nat} {tk : List Nat} {Q : Exit → Act → World → Prop} (h : DJ G E all Q n tk fr gf mu) : SJ G (fun a' w' => Sr G E.r w' ∧ Lw E.P all.toArray Q (Sr G E.r) n (mk all.toArray.size tk) a' w') E fr gf mu := fun B a w H f m gg => ⟨m.sr gg, h B a w H f m gg⟩
/-- all has come up -/
theorem DJ_end {n : Nat} {tk : List Nat} (hr : (Region.ready .any all.toArray (mk all.toArray.size tk)).isEmpty = true) (h : X E R (nxN K) fr mu) : DJ G E all (KQ E.P R K) n tk fr gf mu := fun B a w H f m gg => by
  have hr' : Region.ready .any all.toArray (mk all.toArray.size tk) = [] := by simpa using hr
  have hq := fun w' hb => nxN_ok (h B a w' H (Fits.ungf f) (m.below hb))
  cases n with
  | zero => exact fun w' hb => ⟨hr', hq w' hb⟩
  | succ n => exact fun w' hb => ⟨fun _ => hq w' hb, fun i hi => by rw [hr'] at hi; cases hi⟩
theorem T_drawA (hT : TOk E.P TT) (ex : List Nat) {id : Nat} {l : List Oper} {ks is' tk' : List Nat} {es : List Prop} {gs : List GO} (hks : keysX ex mu = ks) (ha : drun TT E.N l (muR ks mu) (iota 0 l.length) fr [] [] [] [] = some (is', fr', gf', tk', es, gs))
    (k : ∀ B0 H0, DJ ⟨ks, B0, H0⟩ E l (KQ E.P R K) is'.length tk' fr' gf' mu) (hR : PQ R := by exact pq_body _ _) (hm : E.P.follows .mixedOrders = true := by kernel_rfl) (hb : tookB l.toArray (iota 0 l.length) is' [] = true := by kernel_rfl)
    (he : PAlls es := by repeat (first | exact trivial | refine And.intro rfl ?_)) (ho : GAlls gs := by first | exact trivial | ((simp only [GAlls, GO.p, InR]; (repeat' (first | exact trivial | refine And.intro ?_ ?_ | refine fun _ => ?_)) <;> first | omega | (simp only [decide_eq_true_eq, decide_eq_false_iff_not, Int.toNat_natCast] at *; omega) | (simp at *; omega)))) : T E R (.region id l.toArray true) fr mu K :=
  T_draw ex l.length hm (by simp) hks fun B0 H0 => by
    have := (drun_took (G := ⟨ks, B0, H0⟩) (K := K) hT hR _ _ _ _ _ _ ha).2 hb ⟨he, ho⟩
    rw [iota_length] at this
    exact this.2 (k B0 H0)
/-- a call that only answers, and on -/
theorem DJ_Q (hT : TOk E.P TT) {n : Nat} {tk is' tk' : List Nat} {f : Nat} {ks : List Nat} {args : List SV} {mu1 : Mu} {res : SV} (C : Ans E.P f ks args mu1 res) {svs args' : List SV} {g : Option (Nat × Nat × Bool)} {t : Nat} {q : Ob} {es0 es : List Prop} {gs0 gs : List GO} (hi : nth all tk.length = some o)
    (hc : callC E.N all fr gf o = some (f, svs, g, t, gf')) (hw : wkSL (muR G.ks mu) [] ks svs = some (args', q)) (hae : args' = args) (hs : splitO fr gf (match g with | none => [] | some (_, d, b) => acts 6 gf d b) q [] [] = some (es0, gs0)) {gf3 : GF}
    (ha : drun TT E.N all (muR G.ks mu) (iota (tk.length + 1) n) (frQ fr g t res) (gfQ gf' g t res) (tk.length :: tk) es0 gs0 = some (is', fr', gf3, tk', es, gs)) (k : DJ G E all (KQ E.P R K) is'.length tk' fr' gf3 mu)
    {x : Value} (hx : exV res = some x := by exact rfl) (hR : PQ R := by exact pq_body _ _) (hb : (takeB all.toArray tk tk.length && tookB all.toArray (iota (tk.length + 1) n) is' (tk.length :: tk)) = true := by kernel_rfl)
    (hko : keysO mu1 = [] := by exact rfl) (hres : res.inK ks = true := by exact rfl) (hin : WkIn (muR G.ks mu) mu1 := by repeat (first | exact trivial | refine And.intro ⟨_, rfl, ro_arr⟩ ?_ | refine And.intro ⟨_, rfl, ro_ro⟩ ?_ | refine And.intro ⟨_, rfl, Ch.imp_refl _⟩ ?_)) (hen : Enters E.P f := by exact enters_B (by kernel_rfl)) (he : PAlls es := by repeat (first | exact trivial | refine And.intro rfl ?_)) (ho : GAlls gs := by first | exact trivial | ((simp only [GAlls, GO.p, InR]; (repeat' (first | exact trivial | refine And.intro ?_ ?_ | refine fun _ => ?_)) <;> first | omega | (simp only [decide_eq_true_eq, decide_eq_false_iff_not, Int.toNat_natCast] at *; omega) | (simp at *; omega)))) : DJ G E all (KQ E.P R K) (n + 1) tk fr gf mu := by
  simp only [Bool.and_eq_true] at hb
  subst hae
  obtain ⟨h3, h2⟩ := (drun_took (G := G) (K := K) hT hR _ _ _ _ _ _ ha).2 hb.2 ⟨he, ho⟩
  have h2 := h2 k
  rw [iota_length] at h2
  exact DJ_q hR _ C hx hi hb.1 hc rfl hen hko hres hw (SVs.imp_refl _) hs h3.1 h3.2 hin h2
/-- soft operations behind a hard one -/
theorem DJ_on (hT : TOk E.P TT) {n : Nat} {tk is' tk' : List Nat} {es : List Prop} {gs : List GO} (ha : drun TT E.N all (muR G.ks mu) (iota tk.length n) fr gf tk [] [] = some (is', fr', gf', tk', es, gs)) (k : DJ G E all (KQ E.P R K) is'.length tk' fr' gf' mu) (hR : PQ R := by exact pq_body _ _) (hb : tookB all.toArray (iota tk.length n) is' tk = true := by kernel_rfl)
    (he : PAlls es := by repeat (first | exact trivial | refine And.intro rfl ?_)) (ho : GAlls gs := by first | exact trivial | ((simp only [GAlls, GO.p, InR]; (repeat' (first | exact trivial | refine And.intro ?_ ?_ | refine fun _ => ?_)) <;> first | omega | (simp only [decide_eq_true_eq, decide_eq_false_iff_not, Int.toNat_natCast] at *; omega) | (simp at *; omega)))) : DJ G E all (KQ E.P R K) n tk fr gf mu := by
  have h2 := ((drun_took (G := G) (K := K) hT hR _ _ _ _ _ _ ha).2 hb ⟨he, ho⟩).2 k
  rw [iota_length] at h2
  exact h2
theorem DJ_endA (hT : TOk E.P TT) {n : Nat} {tk : List Nat} {js : JS} {es : List Prop} {gs : List GO} (ha : goNx (auto TT E.N E.A.ks 400) (nxN K) fr mu [] [] = some (js, es, gs)) (k : js.ok E R) (hr : (Region.ready .any all.toArray (mk all.toArray.size tk)).isEmpty = true := by kernel_rfl)
    (he : PAlls es := by repeat (first | exact trivial | refine And.intro rfl ?_)) (ho : GAlls gs := by first | exact trivial | ((simp only [GAlls, GO.p, InR]; (repeat' (first | exact trivial | refine And.intro ?_ ?_ | refine fun _ => ?_)) <;> first | omega | (simp only [decide_eq_true_eq, decide_eq_false_iff_not, Int.toNat_natCast] at *; omega) | (simp at *; omega)))) : DJ G E all (KQ E.P R K) n tk fr gf mu := DJ_end hr ((goNx_ok (auto_ok hT 400) ha ⟨he, ho⟩).2 k)
end
end Go.Proofs.YtiegllklalplnaaGreat
