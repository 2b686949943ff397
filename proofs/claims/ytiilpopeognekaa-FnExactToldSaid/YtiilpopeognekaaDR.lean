/-
  Regions that draw their order.
-/
import Derived.Test.YtiilpopeognekaaC1
namespace Go.Proofs.Ytiilpopeognekaa
open Go Go.RowKit
set_option linter.unusedVariables false
set_option linter.unusedSimpArgs false

section
variable {P : Program} {ops : Array Oper} {Q : Exit → Act → World → Prop} {S : World → Prop}
/-- Whatever order is picked from here on, and in whatever later world; S holds behind each operation. -/
def Lw (P : Program) (ops : Array Oper) (Q : Exit → Act → World → Prop) (S : World → Prop) : Nat → Array Bool → Act → World → Prop
  | 0, l, a, w => ∀ w', Below w.heap.size w w' → Region.ready .any ops l = [] ∧ Q .normal a w'
  | n + 1, l, a, w => ∀ w', Below w.heap.size w w' → (Region.ready .any ops l = [] → Q .normal a w') ∧
    ∀ i ∈ Region.ready .any ops l, wpOp P ops Q i (fun a' w' => S w' ∧ Lw P ops Q S n (l.setIfInBounds i true) a' w') a w'
theorem Below.later {a b c : World} (h : Below a.heap.size a b) (k : Below b.heap.size b c) : Below a.heap.size a c := h.trans (k.mono h.size)
theorem Lw.up {w w' : World} (hb : Below w.heap.size w w') : ∀ {n : Nat} {l : Array Bool} {a : Act}, Lw P ops Q S n l a w → Lw P ops Q S n l a w'
  | 0, _, _, h => fun w2 hb2 => h w2 (Below.later hb hb2)
  | _ + 1, _, _, h => fun w2 hb2 => h w2 (Below.later hb hb2)
theorem Lw.any : ∀ {n : Nat} {l : Array Bool} {a : Act} {w : World}, Lw P ops Q S n l a w → wpAny P .any ops Q n l a w
  | 0, _, _, w, h => h w (Below.refl _ _)
  | n + 1, l, a, w, h => ⟨(h w (Below.refl _ _)).1, fun i hi => wpOp_mono (fun a' w' h' => Lw.any h'.2) ((h w (Below.refl _ _)).2 i hi)⟩
/-- it answers v, and leaves what there was -/
def Qu (P : Program) (s : Sem Next) (v : Value) (w : World) : Prop :=
  s.run P w = .ok (.value v) w ∨ ∃ f args, s.run P w = .ok (.enter f args) w ∧ Calls P f args w fun e w' => e = .returned v ∧ Below w.heap.size w w'
/-- in frame a, in every world of S, the operation leaves v -/
def Yi (P : Program) (ops : Array Oper) (S : World → Prop) (o : Oper) (v : Value) (a : Act) : Prop :=
  (Region.wanted o (yielded ops a.tmps) = true ∧ ∀ w, S w → Qu P (execOp a.eval o) v w) ∨ (Region.wanted o (yielded ops a.tmps) = false ∧ v = undef)
theorem Yi.wpOp {i : Nat} {o : Oper} {v : Value} {a : Act} (hi : ops[i]? = some o) (hy : Yi P ops S o v a) {K : Act → World → Prop} {w : World} (hw : S w) (h : ∀ w', Below w.heap.size w w' → K (a.put o.dst v) w') : wpOp P ops Q i K a w := by
  unfold Go.wpOp
  simp only [hi]
  rcases hy with ⟨h1, h2⟩ | ⟨h1, rfl⟩
  · rw [if_pos h1]
    refine .inl ?_
    unfold Oper.wp
    rcases h2 w hw with h3 | ⟨f, args, h3, h4⟩
    · rw [h3]; exact h w (Below.refl _ _)
    · rw [h3]
      exact h4.mono fun e w' ⟨e1, e2⟩ => by subst e1; exact h w' e2
  · simp only [h1, Bool.false_eq_true, if_false]; exact h w (Below.refl _ _)
theorem Yi.of_same {o : Oper} {v : Value} {a a' : Act} (hy : Yi P ops S o v a) (he : execOp a'.eval o = execOp a.eval o) (hw : Region.wanted o (yielded ops a'.tmps) = Region.wanted o (yielded ops a.tmps)) : Yi P ops S o v a' := by
  unfold Yi at *
  rw [he, hw]
  exact hy
theorem wpOp_putI {j : Nat} {oi oj : Oper} {v : Value} (hj : ops[j]? = some oj) (hap : oi.apart ops oj = true) (hsi : ∀ cs b, oi.op ≠ .select cs b) (hsj : ∀ cs b, oj.op ≠ .select cs b)
    (hQ : ∀ c a w, Q (.panic c) (a.put oi.dst v) w → Q (.panic c) a w) {K : Act → World → Prop} {a : Act} {w : World} (hy : Yi P ops S oi v a) (h : wpOp P ops Q j K (a.put oi.dst v) w) :
    wpOp P ops Q j (fun a' w' => Yi P ops S oi v a' ∧ K (a'.put oi.dst v) w') a w := by
  obtain ⟨h1, h2, h3⟩ := Oper.apart_spec hap
  have keep : ∀ (a : Act), Yi P ops S oi v a → ∀ u, Yi P ops S oi v (a.put oj.dst u) := fun a hy u => hy.of_same (execOp_put oi hsi a oj.dst u h3) (wanted_put oi a oj.dst u h3)
  have keepD : ∀ d, Yi P ops S oi v { a with defers := d :: a.defers } := fun d => hy.of_same rfl rfl
  unfold wpOp at *
  simp only [hj] at *
  rw [wanted_put oj a oi.dst v h1] at h
  split
  · rename_i hw
    simp only [hw, if_true] at h
    rcases h with h | ⟨hasks, hlets⟩
    case inr => exact .inr ⟨by unfold Oper.asks at *; rw [execOp_put oj hsj a oi.dst v h1] at hasks; exact hasks, hlets⟩
    refine .inl ?_
    unfold Oper.wp at *
    rw [execOp_put oj hsj a oi.dst v h1] at h
    generalize (execOp a.eval oj).run P w = r at *
    cases r with
    | ok n w' =>
      cases n <;> simp only [Oper.upon] at h ⊢
      case value u => exact ⟨keep a hy u, by rw [← Act.put_comm a v u h2]; exact h⟩
      case skip => exact ⟨keep a hy _, by rw [← Act.put_comm a v undef h2]; exact h⟩
      case defer d =>
        refine ⟨keep _ (keepD d) _, ?_⟩
        rw [← Act.put_comm _ v undef h2, ← Act.put_defers]
        exact h
      case enter f args =>
        refine Calls.mono h fun e w'' he => ?_
        cases e with
        | returned u => exact ⟨keep a hy u, by rw [← Act.put_comm a v u h2]; exact he⟩
        | panicked c => exact hQ _ _ _ he
        | outgrown => exact he
      case row row args => exact Rows.mono h fun u w'' he => ⟨keep a hy u, by rw [← Act.put_comm a v u h2]; exact he⟩
    | halt x w' =>
      cases x <;> simp only [Oper.upon] at h ⊢
      case panic u => exact hQ _ _ _ h
  · rename_i hw
    simp only [hw] at h
    exact ⟨keep a hy _, by rw [← Act.put_comm a v undef h2]; exact h⟩

def Closed (ops : Array Oper) (l : Array Bool) : Prop := ∀ j oj, ops[j]? = some oj → l.getD j false = true → ∀ e ∈ oj.after, Region.binds .any e = true → l.getD e.on false = true
theorem Closed.set {l : Array Bool} {i : Nat} (h : Closed ops l) (hi : i ∈ Region.ready .any ops l) : Closed ops (l.setIfInBounds i true) := by
  obtain ⟨_, oi, hoi, hall⟩ := mem_ready.1 hi
  intro j oj hj hl e he hb
  by_cases hij : i = j
  · subst hij
    rw [hj] at hoi
    injection hoi with hoi
    subst hoi
    exact getD_set_true (hall e he hb)
  · rw [getD_set_ne false hij] at hl
    exact getD_set_true (h j oj hj hl e he hb)
theorem Lw_first (hup : ∀ w w', Below w.heap.size w w' → S w → S w') {i : Nat} {oi : Oper} {v : Value} (hi : ops[i]? = some oi) (hsel : ∀ (j : Nat) (o : Oper) cs b, ops[j]? = some o → o.op ≠ .select cs b) (hQ : ∀ c a w, Q (.panic c) (a.put oi.dst v) w → Q (.panic c) a w) :
    ∀ (n : Nat) (l : Array Bool) (a : Act) (w : World), (∀ j oj, ops[j]? = some oj → j ≠ i → l.getD j true = false → (∀ e ∈ oj.after, Region.binds .any e = true → e.on ≠ i) → oi.apart ops oj = true) →
      i ∈ Region.ready .any ops l → Yi P ops S oi v a → S w → Lw P ops Q S n (l.setIfInBounds i true) (a.put oi.dst v) w → Lw P ops Q S (n + 1) l a w := by
  intro n
  induction n with
  | zero =>
    intro l a w _ hr hy hS H w2 hb
    have hS2 := hup w w2 hb hS
    refine ⟨fun h => (by rw [h] at hr; cases hr), fun j hj => ?_⟩
    by_cases hji : j = i
    · subst hji; exact hy.wpOp hi hS2 fun w3 hb3 => ⟨hup w2 w3 hb3 hS2, Lw.up (Below.later hb hb3) H⟩
    · have := ready_mono hj hji
      rw [(H w2 hb).1] at this
      cases this
  | succ n ih =>
    intro l a w hfree hr hy hS H w2 hb
    have hS2 := hup w w2 hb hS
    refine ⟨fun h => (by rw [h] at hr; cases hr), fun j hj => ?_⟩
    by_cases hji : j = i
    · subst hji; exact hy.wpOp hi hS2 fun w3 hb3 => ⟨hup w2 w3 hb3 hS2, Lw.up (Below.later hb hb3) H⟩
    · have h1 := (H w2 hb).2 j (ready_mono hj hji)
      obtain ⟨hjun, oj, hoj, hall⟩ := mem_ready.1 hj
      have hiun := (mem_ready.1 hr).1
      have hnot : ∀ e ∈ oj.after, Region.binds .any e = true → e.on ≠ i := fun e he hb heq => by
        have h1 := hall e he hb
        rw [heq] at h1
        rcases Nat.lt_or_ge i l.size with h' | h'
        · simp [h'] at hiun h1; rw [hiun] at h1; cases h1
        · simp [Array.getElem?_eq_none h'] at h1
      have h2 := wpOp_putI (S := S) hoj (hfree j oj hoj hji hjun hnot) (fun cs b => hsel i oi cs b hi) (fun cs b => hsel j oj cs b hoj) hQ hy h1
      have hfree' : ∀ k ok, ops[k]? = some ok → k ≠ i → (l.setIfInBounds j true).getD k true = false → (∀ e ∈ ok.after, Region.binds .any e = true → e.on ≠ i) → oi.apart ops ok = true := fun k ok hk hki hun hno => by
        refine hfree k ok hk hki ?_ hno
        by_cases hjk : j = k
        · subst hjk; exact hjun
        · rw [getD_set_ne true hjk] at hun; exact hun
      refine wpOp_mono (fun a' w' h3 => ⟨h3.2.1, ih (l.setIfInBounds j true) a' w' hfree' (ready_mono hr (Ne.symm hji)) h3.1 h3.2.1 ?_⟩) h2
      rw [Array.setIfInBounds_comm _ _ hji]
      exact h3.2.2

/-! ### which operations have come up -/
def mk (n : Nat) (tk : List Nat) : Array Bool := (Array.range n).map fun i => tk.any (Nat.beq · i)
theorem mk_set (n i : Nat) (tk : List Nat) : (mk n tk).setIfInBounds i true = mk n (i :: tk) := by
  apply Array.ext_getElem?
  intro j
  by_cases hij : i = j
  · subst hij
    by_cases hn : i < n
    · simp [mk, hn, Nat.beq_refl]
    · simp [mk, hn]
  · rw [Array.getElem?_setIfInBounds_ne hij]
    unfold mk
    rw [Array.getElem?_map, Array.getElem?_map]
    by_cases hn : j < n
    · rw [Array.getElem?_range, if_pos hn]
      simp [hij, Nat.beq_eq]
    · rw [Array.getElem?_range, if_neg hn]; rfl
theorem mk_set_aux {i j : Nat} (hij : i ≠ j) : Nat.beq i j = false := by
    have : Nat.beq i j = false := by
      cases e : Nat.beq i j with
      | false => rfl
      | true => exact absurd (Nat.eq_of_beq_eq_true e) hij
    exact this
theorem mk_nil (n : Nat) : Array.replicate n false = mk n [] := by
  apply Array.ext_getElem?
  intro j
  by_cases hn : j < n <;> simp [mk, hn]
/-- may i be taken first? -/
def takeB (ops : Array Oper) (tk : List Nat) (i : Nat) : Bool :=
  (Region.ready .any ops (mk ops.size tk)).contains i && Region.free .any ops (mk ops.size tk) i && Region.noSelect ops
/-- is i the only one that may come up? -/
def oneB (ops : Array Oper) (tk : List Nat) (i : Nat) : Bool := match Region.ready .any ops (mk ops.size tk) with
  | [j] => Nat.beq j i
  | _ => false
end

section
variable {P : Program} {w w0 : World} {B : BE} {r : PH} {D : Nat → Nat → Prop} {mu mu' : Mu} {ga : Ga} {H : Nat → PH} {TT : List TI} {N : Nat} {fr fr' : Fr} {gf gf' : GF} {a : Act} {all : List Oper} {R : Exit → Act → World → Prop} {K : List KF} {G : AG}
def PQ (R : Exit → Act → World → Prop) : Prop := ∀ c a d v w, R (.panic c) (a.put d v) w → R (.panic c) a w
theorem pq_body (fn : Func) (Rp : Ending → World → Prop) : PQ (bodyPost P fn Rp) := fun c a d v w h => by
  cases d <;> exact h
theorem pq_K (hR : PQ R) : ∀ K : List KF, PQ (KQ P R K)
  | [] => hR
  | .seq c :: K => fun c a d v w h => pq_K hR K c a d v w h
  | .blk id :: K => fun c a d v w h => pq_K hR K c a d v w h
  | .loop I :: K => fun c a d v w h => pq_K hR K c a d v w h
theorem Mr.up {mu : Mu} {w w' : World} (hb : Below w.heap.size w w') (m : Mr B r mu w H) : Mr B r mu w' H := ⟨m.sat, fun k c e => (m.fit k c e).ext hb, m.fitr.ext hb, m.dj, m.djr⟩
/-- chunks with these keys -/
def muR (ks : List Nat) : Mu → Mu
  | [] => []
  | (k, c) :: r => bif hasK k ks then (k, c) :: muR ks r else muR ks r
theorem muR_get {ks : List Nat} : ∀ {mu : Mu} {k : Nat} {c : Ch}, mlk k (muR ks mu) = some c → hasK k ks = true ∧ mlk k mu = some c
  | [], _, _, h => by cases h
  | (j, d) :: r, k, c, h => by
    simp only [muR] at h
    cases e : hasK j ks with
    | true =>
      rw [e] at h
      simp only [cond_true] at h
      rw [mlk_cons] at h ⊢
      by_cases hj : j = k
      · subst hj; rw [if_pos rfl] at h ⊢; exact ⟨e, h⟩
      · rw [if_neg hj] at h ⊢; exact muR_get h
    | false =>
      rw [e] at h
      simp only [cond_false] at h
      obtain ⟨h1, h2⟩ := muR_get h
      rw [mlk_cons]
      by_cases hj : j = k
      · subst hj; rw [e] at h1; cases h1
      · rw [if_neg hj]; exact ⟨h1, h2⟩
def keysX (ex : List Nat) : Mu → List Nat
  | [] => []
  | (k, _) :: r => bif hasK k ex then keysX ex r else k :: keysX ex r
/-- what lies still in a region -/
def Sr (G : AG) (r : PH) (w : World) : Prop := Fit r w ∧ ∀ k, hasK k G.ks = true → Fit (G.H k) w
theorem Sr.up {w w' : World} (hb : Below w.heap.size w w') (h : Sr G r w) : Sr G r w' := ⟨h.1.ext hb, fun k hk => (h.2 k hk).ext hb⟩
theorem Mem.sr (m : Mem B r D w0 mu w H) (g : G.ok B H) : Sr G r w := ⟨m.fitr, fun k hk => by rw [← (g k hk).2]; exact m.fit k⟩
theorem Sr.mr {w' : World} (m : Mem B r D w0 mu w H) (g : G.ok B H) (h : Sr G r w') : Mr B r (muR G.ks mu) w' H :=
  ⟨fun k c e => m.sat k c (muR_get e).2, fun k c e => by rw [(g k (muR_get e).1).2]; exact h.2 k (muR_get e).1, h.1, m.dj, m.djr⟩
/-- a region that draws -/
def DJ (G : AG) (P : Program) (N : Nat) (r : PH) (D : Nat → Nat → Prop) (w0 : World) (all : List Oper) (Q : Exit → Act → World → Prop) (n : Nat) (tk : List Nat) (fr : Fr) (gf : GF) (mu : Mu) (ga : Ga) : Prop :=
  SJ G (Lw P all.toArray Q (Sr G r) n (mk all.toArray.size tk)) N r D w0 fr gf mu ga
theorem T_draw {id : Nat} {l : List Oper} (ex : List Nat) (n : Nat) (hm : P.follows .mixedOrders = true) (hn : l.toArray.size = n) {ks : List Nat} (hks : keysX ex mu = ks) (h : ∀ B0 H0, DJ ⟨ks, B0, H0⟩ P N r D w0 l (KQ P R K) n [] fr [] mu ga) : T P N r D w0 R (.region id l.toArray true) fr mu ga K := fun B a w H f m g => by
  subst hn
  refine wp_region_any hm ?_
  rw [mk_nil]
  exact (h B H B a _ H f (m.below (Keep.drew w).below) g fun _ _ => ⟨rfl, rfl⟩).any
/-- an operation that leaves what there was is taken first -/
theorem DJ_first (hR : PQ R) (i : Nat) {n : Nat} {tk : List Nat} {o : Oper} (hi : nth all i = some o) (hB : takeB all.toArray tk i = true)
    (h : ∀ B a w H, Fits B N fr gf a → GaOk r ga → Mem B r D w0 mu w H → G.ok B H → ∃ v, Yi P all.toArray (Sr G r) o v a ∧ Fits B N fr' gf' (a.put o.dst v))
    (k : DJ G P N r D w0 all (KQ P R K) n (i :: tk) fr' gf' mu ga) : DJ G P N r D w0 all (KQ P R K) (n + 1) tk fr gf mu ga := fun B a w H f m g gg => by
  simp only [takeB, Bool.and_eq_true] at hB
  obtain ⟨⟨b1, b2⟩, b3⟩ := hB
  have hi' : all.toArray[i]? = some o := by rw [nth_eq] at hi; simpa using hi
  obtain ⟨v, hy, hf⟩ := h B a w H f g m gg
  refine Lw_first (fun w w' hb m => m.up hb) hi' (Region.noSelect_spec b3) (fun c a w h => pq_K hR K c a _ _ w h) n _ a w (Region.free_spec hi' b2) (by simpa using b1) hy (m.sr gg) ?_
  rw [mk_set]
  exact k B _ w H hf m g gg
theorem DJ_take (hT : TOk P TT) (hR : PQ R) (i : Nat) {n : Nat} {tk : List Nat} {o : Oper} {t : Nat} {x : SV} {q : Ob} (hi : nth all i = some o) (hB : takeB all.toArray tk i = true) (hg : o.guard = none) (hd : o.dst = some t) (ht : Nat.blt t N = true)
    (hp : pst TT fr gf (muR G.ks mu) ga [] o.op = some (x, q)) {es es' : List Prop} {gs gs' : List GO} (hs : splitO fr gf [] q es gs = some (es', gs')) (he : PAlls es') (ho : GAlls gs') (hgd : gdrop t gf = some gf')
    (k : DJ G P N r D w0 all (KQ P R K) n (i :: tk) ((t, x) :: fr) gf' mu ga) : DJ G P N r D w0 all (KQ P R K) (n + 1) tk fr gf mu ga :=
  DJ_first hR i hi hB (fun B a w H f g m gg => ⟨x.den B, .inl ⟨wanted_none hg, fun w' s' => .inl (pst_ok hT f g (g := []) (s'.mr m gg) (fun _ _ hm => by cases hm) hp (splitO_ok f (fun _ _ hm => by cases hm) hs he ho))⟩, by
    rw [hd]; exact f.put (by simpa [Nat.blt_eq] using ht) rfl hgd⟩) k
theorem DJ_takeG (hT : TOk P TT) (hR : PQ R) (i : Nat) {n : Nat} {tk : List Nat} {o : Oper} {t j d : Nat} {b : Bool} {x : SV} {q : Ob} (hi : nth all i = some o) (hB : takeB all.toArray tk i = true) (hg : o.guard = some (j, b)) (hsl : gSlot all j = some d) (hd : o.dst = some t) (ht : (Nat.blt t N && !(Nat.beq t d)) = true) (hn : mlk t fr = none)
    (hp : pst TT fr gf (muR G.ks mu) ga (acts 6 gf d b) o.op = some (x, q)) {es es' : List Prop} {gs gs' : List GO} (hs : splitO fr gf (acts 6 gf d b) q es gs = some (es', gs')) (he : PAlls es') (ho : GAlls gs') (hgd : gdrop t gf = some gf')
    (k : DJ G P N r D w0 all (KQ P R K) n (i :: tk) fr ((t, d, b, x) :: gf') mu ga) : DJ G P N r D w0 all (KQ P R K) (n + 1) tk fr gf mu ga :=
  DJ_first hR i hi hB (fun B a w H f g m gg => by
    simp only [Bool.and_eq_true, Bool.not_eq_true'] at ht
    have htd : t ≠ d := Nat.ne_of_beq_eq_false ht.2
    have htN : t < N := by simpa [Nat.blt_eq] using ht.1
    have hw := wanted_some (ops := all.toArray) (a := a) hg (gslot_ops hsl)
    by_cases hyes : a.tmps.getD d undef = .bool b
    · have hacts := acts_ok f 6 d b hyes
      refine ⟨x.den B, .inl ⟨hw.2 hyes, fun w' s' => .inl (pst_ok hT f g (s'.mr m gg) hacts hp (splitO_ok f hacts hs he ho))⟩, ?_⟩
      rw [hd]; exact f.putG htN htd hn hgd (.inl ⟨hyes, rfl⟩)
    · refine ⟨undef, .inr ⟨?_, rfl⟩, ?_⟩
      · cases e : Region.wanted o (yielded all.toArray a.tmps) with
        | false => rfl
        | true => exact absurd (hw.1 e) hyes
      · rw [hd]; exact f.putG htN htd hn hgd (.inr ⟨hyes, rfl⟩)) k
/-- a call that only answers -/
theorem DJ_q (hR : PQ R) (i : Nat) {k' : Nat} {tk : List Nat} {o : Oper} {n t : Nat} {svs : List SV} {caps : List AV} {v : Value} (hi : nth all i = some o) (hB : takeB all.toArray tk i = true) (hg : o.guard = none) (hd : o.dst = some t) (ht : Nat.blt t N = true) (hc : callsOf [] fr gf o.op = some (n, svs, caps)) (he : Enters P n) (hgd : gdrop t gf = some gf')
    (h : ∀ B w H, Mr B r (muR G.ks mu) w H → Ret P n (svs.map (SV.den B) ++ caps.map (AV.den B)) w v)
    (k : DJ G P N r D w0 all (KQ P R K) k' (i :: tk) ((t, .a (.v v)) :: fr) gf' mu ga) : DJ G P N r D w0 all (KQ P R K) (k' + 1) tk fr gf mu ga :=
  DJ_first hR i hi hB (fun B a w H f g m gg => ⟨v, .inl ⟨wanted_none hg, fun w' s' => .inr ⟨n, _, callsOf_run f (fun _ _ hm => by cases hm) hc he, h B w' H (s'.mr m gg)⟩⟩, by
    rw [hd]; exact f.put (by simpa [Nat.blt_eq] using ht) rfl hgd⟩) k
theorem DJ_qg (hR : PQ R) (i : Nat) {k' : Nat} {tk : List Nat} {o : Oper} {n t j d : Nat} {b : Bool} {svs : List SV} {caps : List AV} {v : Value} (hi : nth all i = some o) (hB : takeB all.toArray tk i = true) (hg : o.guard = some (j, b)) (hsl : gSlot all j = some d) (hd : o.dst = some t) (ht : (Nat.blt t N && !(Nat.beq t d)) = true) (hn : mlk t fr = none) (hc : callsOf (acts 6 gf d b) fr gf o.op = some (n, svs, caps)) (he : Enters P n) (hgd : gdrop t gf = some gf') {q : Prop} {go : GO} (hq : nestG fr gf (acts 6 gf d b) q = go) (hgo : go.p)
    (h : q → ∀ B w H, Mr B r (muR G.ks mu) w H → Ret P n (svs.map (SV.den B) ++ caps.map (AV.den B)) w v)
    (k : DJ G P N r D w0 all (KQ P R K) k' (i :: tk) fr ((t, d, b, .a (.v v)) :: gf') mu ga) : DJ G P N r D w0 all (KQ P R K) (k' + 1) tk fr gf mu ga :=
  DJ_first hR i hi hB (fun B a w H f g m gg => by
    simp only [Bool.and_eq_true, Bool.not_eq_true'] at ht
    have htd : t ≠ d := Nat.ne_of_beq_eq_false ht.2
    have htN : t < N := by simpa [Nat.blt_eq] using ht.1
    have hw := wanted_some (ops := all.toArray) (a := a) hg (gslot_ops hsl)
    by_cases hyes : a.tmps.getD d undef = .bool b
    · have hacts := acts_ok f 6 d b hyes
      have hq' : q := nestG_ok f hacts (by rw [hq]; exact hgo)
      refine ⟨v, .inl ⟨hw.2 hyes, fun w' s' => .inr ⟨n, _, callsOf_run f hacts hc he, h hq' B w' H (s'.mr m gg)⟩⟩, ?_⟩
      rw [hd]; exact f.putG htN htd hn hgd (.inl ⟨hyes, rfl⟩)
    · refine ⟨undef, .inr ⟨?_, rfl⟩, ?_⟩
      · cases e : Region.wanted o (yielded all.toArray a.tmps) with
        | false => rfl
        | true => exact absurd (hw.1 e) hyes
      · rw [hd]; exact f.putG htN htd hn hgd (.inr ⟨hyes, rfl⟩)) k
/-- steps through operations by their numbers, as far as it can -/
def drun (TT : List TI) (N : Nat) (all : List Oper) (ga : Ga) (mu : Mu) : List Nat → Fr → GF → List Nat → List Prop → List GO → Option (List Nat × Fr × GF × List Nat × List Prop × List GO)
  | [], fr, gf, tk, es, gs => some ([], fr, gf, tk, es, gs)
  | i :: r, fr, gf, tk, es, gs => match nth all i with
    | none => none
    | some o => match o.guard with
      | none => match pst TT fr gf mu ga [] o.op, o.dst with
        | some (x, q), some t => match splitO fr gf [] q es gs, gdrop t gf with
          | some (es', gs'), some gf' => bif Nat.blt t N then drun TT N all ga mu r ((t, x) :: fr) gf' (i :: tk) es' gs' else none
          | _, _ => none
        | _, _ => some (i :: r, fr, gf, tk, es, gs)
      | some (j, w) => match gSlot all j with
        | some d => match pst TT fr gf mu ga (acts 6 gf d w) o.op, o.dst with
          | some (x, q), some t => match mlk t fr with
            | none => match splitO fr gf (acts 6 gf d w) q es gs, gdrop t gf with
              | some (es', gs'), some gf' => bif (Nat.blt t N && !(Nat.beq t d)) then drun TT N all ga mu r fr ((t, d, w, x) :: gf') (i :: tk) es' gs' else none
              | _, _ => none
            | some _ => none
          | _, _ => some (i :: r, fr, gf, tk, es, gs)
        | none => none
/-- each may be taken in its turn -/
def takesB (ops : Array Oper) : List Nat → List Nat → Bool
  | [], _ => true
  | i :: r, tk => takeB ops tk i && takesB ops r (i :: tk)
theorem drun_ok (hT : TOk P TT) (hR : PQ R) {n : Nat} : ∀ (is : List Nat) (fr : Fr) (gf : GF) (tk : List Nat) (es : List Prop) (gs : List GO) {is' : List Nat} {fr' : Fr} {gf' : GF} {tk' : List Nat} {es' : List Prop} {gs' : List GO}, drun TT N all ga (muR G.ks mu) is fr gf tk es gs = some (is', fr', gf', tk', es', gs') → takesB all.toArray is tk = true → PAlls es' ∧ GAlls gs' →
    (PAlls es ∧ GAlls gs) ∧ (DJ G P N r D w0 all (KQ P R K) (n + is'.length) tk' fr' gf' mu ga → DJ G P N r D w0 all (KQ P R K) (n + is.length) tk fr gf mu ga)
  | [], fr, gf, tk, es, gs, is', fr', gf', tk', es', gs', h, hb, ho => by
    simp only [drun, Option.some.injEq, Prod.mk.injEq] at h
    obtain ⟨rfl, rfl, rfl, rfl, rfl, rfl⟩ := h
    exact ⟨ho, id⟩
  | i :: is, fr, gf, tk, es, gs, is', fr', gf', tk', es', gs', h, hb, ho => by
    simp only [takesB, Bool.and_eq_true] at hb
    have stop : some (i :: is, fr, gf, tk, es, gs) = some (is', fr', gf', tk', es', gs') → (PAlls es ∧ GAlls gs) ∧ (DJ G P N r D w0 all (KQ P R K) (n + is'.length) tk' fr' gf' mu ga → DJ G P N r D w0 all (KQ P R K) (n + (i :: is).length) tk fr gf mu ga) := fun h => by
      simp only [Option.some.injEq, Prod.mk.injEq] at h
      obtain ⟨rfl, rfl, rfl, rfl, rfl, rfl⟩ := h
      exact ⟨ho, id⟩
    simp only [drun] at h
    split at h
    · cases h
    · rename_i o hi
      split at h
      · rename_i hg
        split at h
        · rename_i x q t hp hd
          split at h
          · rename_i es2 gs2 gf2 hs hgd
            cases hbt : Nat.blt t N with
            | false => rw [hbt] at h; cases h
            | true =>
              rw [hbt] at h
              simp only [cond_true] at h
              obtain ⟨h1, h2⟩ := drun_ok hT hR is _ _ _ _ _ h hb.2 ho
              exact ⟨splitO_mono hs h1, fun k => DJ_take hT hR i hi hb.1 hg hd hbt hp hs h1.1 h1.2 hgd (h2 k)⟩
          · cases h
        · exact stop h
      · rename_i j w hg
        split at h
        · rename_i d hsl
          split at h
          · rename_i x q t hp hd
            split at h
            · rename_i hn
              split at h
              · rename_i es2 gs2 gf2 hs hgd
                cases hbt : (Nat.blt t N && !(Nat.beq t d)) with
                | false => rw [hbt] at h; cases h
                | true =>
                  rw [hbt] at h
                  simp only [cond_true] at h
                  obtain ⟨h1, h2⟩ := drun_ok hT hR is _ _ _ _ _ h hb.2 ho
                  exact ⟨splitO_mono hs h1, fun k => DJ_takeG hT hR i hi hb.1 hg hsl hd hbt hn hp hs h1.1 h1.2 hgd (h2 k)⟩
              · cases h
            · cases h
          · exact stop h
        · cases h
theorem DJ_run (hT : TOk P TT) (hR : PQ R) (is : List Nat) (n : Nat) {m m' : Nat} {tk tk' : List Nat} {is' : List Nat} {es : List Prop} {gs : List GO} (hb : takesB all.toArray is tk = true) (h : drun TT N all ga (muR G.ks mu) is fr gf tk [] [] = some (is', fr', gf', tk', es, gs)) (hm : m = n + is.length) (hm' : n + is'.length = m') (he : PAlls es) (ho : GAlls gs)
    (k : DJ G P N r D w0 all (KQ P R K) m' tk' fr' gf' mu ga) : DJ G P N r D w0 all (KQ P R K) m tk fr gf mu ga := by
  subst hm; subst hm'
  exact (drun_ok hT hR is fr gf tk [] [] h hb ⟨he, ho⟩).2 k
theorem oneB_spec {tk : List Nat} {i : Nat} (h : oneB all.toArray tk i = true) : Region.ready .any all.toArray (mk all.toArray.size tk) = [i] := by
  unfold oneB at h
  split at h
  · rename_i j e; rw [e, Nat.eq_of_beq_eq_true h]
  · cases h
/-- the only operation that may come up -/
theorem DJ_one (i : Nat) {n : Nat} {tk : List Nat} {o : Oper} {Q : Exit → Act → World → Prop} (hi : nth all i = some o) (hB : oneB all.toArray tk i = true) (h : OJ G P N r D w0 all Q (fun a' w' => Sr G r w' ∧ Lw P all.toArray Q (Sr G r) n (mk all.toArray.size (i :: tk)) a' w') o fr gf mu ga) : DJ G P N r D w0 all Q (n + 1) tk fr gf mu ga := fun B a w H f m g gg w2 hb => by
  have hr := oneB_spec hB
  have hi' : all.toArray[i]? = some o := by rw [nth_eq] at hi; simpa using hi
  refine ⟨fun h0 => (by rw [hr] at h0; cases h0), fun j hj => ?_⟩
  rw [hr] at hj
  obtain rfl := List.mem_singleton.1 hj
  have h1 := h B a w2 H f (m.below hb) g gg
  unfold One at h1
  unfold wpOp
  rw [hi', mk_set]
  exact h1
/-- one of two operations -/
theorem DJ_two (i j : Nat) {n : Nat} {tk : List Nat} {o p : Oper} {Q : Exit → Act → World → Prop} (hi : nth all i = some o) (hj : nth all j = some p) (hB : Region.ready .any all.toArray (mk all.toArray.size tk) = [i, j])
    (h : OJ G P N r D w0 all Q (fun a' w' => Sr G r w' ∧ Lw P all.toArray Q (Sr G r) n (mk all.toArray.size (i :: tk)) a' w') o fr gf mu ga)
    (h2 : OJ G P N r D w0 all Q (fun a' w' => Sr G r w' ∧ Lw P all.toArray Q (Sr G r) n (mk all.toArray.size (j :: tk)) a' w') p fr gf mu ga) : DJ G P N r D w0 all Q (n + 1) tk fr gf mu ga := fun B a w H f m g gg w2 hb => by
  have hi' : all.toArray[i]? = some o := by rw [nth_eq] at hi; simpa using hi
  have hj' : all.toArray[j]? = some p := by rw [nth_eq] at hj; simpa using hj
  refine ⟨fun h0 => (by rw [hB] at h0; cases h0), fun k hk => ?_⟩
  rw [hB] at hk
  rcases List.mem_cons.1 hk with rfl | hk
  · have h1 := h B a w2 H f (m.below hb) g gg
    unfold One at h1
    unfold wpOp
    rw [hi', mk_set]
    exact h1
  · obtain rfl := List.mem_singleton.1 hk
    have h1 := h2 B a w2 H f (m.below hb) g gg
    unfold One at h1
    unfold wpOp
    rw [hj', mk_set]
    exact h1
/-- and on -/
theorem SJ_dj {n : Nat} {tk : List Nat} {Q : Exit → Act → World → Prop} (h : DJ G P N r D w0 all Q n tk fr gf mu ga) : SJ G (fun a' w' => Sr G r w' ∧ Lw P all.toArray Q (Sr G r) n (mk all.toArray.size tk) a' w') N r D w0 fr gf mu ga := fun B a w H f m g gg => ⟨m.sr gg, h B a w H f m g gg⟩
/-- all has come up -/
theorem DJ_end {n : Nat} {tk : List Nat} (hr : (Region.ready .any all.toArray (mk all.toArray.size tk)).isEmpty = true) (h : X P N r D w0 R (nxN K) fr mu ga) : DJ G P N r D w0 all (KQ P R K) n tk fr gf mu ga := fun B a w H f m g gg => by
  have hr' : Region.ready .any all.toArray (mk all.toArray.size tk) = [] := by simpa using hr
  have hq := fun w' hb => nxN_ok (h B a w' H f.ungf (m.below hb) g)
  cases n with
  | zero => exact fun w' hb => ⟨hr', hq w' hb⟩
  | succ n => exact fun w' hb => ⟨fun _ => hq w' hb, fun i hi => by rw [hr'] at hi; cases hi⟩
theorem DJ_endC {n : Nat} {tk : List Nat} {d : Code} {K' : List KF} (hr : (Region.ready .any all.toArray (mk all.toArray.size tk)).isEmpty = true) (h : nxN K = .code d K') (k : T P N r D w0 R d fr mu ga K') : DJ G P N r D w0 all (KQ P R K) n tk fr gf mu ga := DJ_end hr (by rw [h]; exact k)
end
end Go.Proofs.Ytiilpopeognekaa
