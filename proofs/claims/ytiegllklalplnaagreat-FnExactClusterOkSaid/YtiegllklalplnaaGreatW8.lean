
/-
  The symbolic machine changes memory: definitions; how a memory is turned.
-/
import Derived.Test.YtiegllklalplnaaGreatW7
namespace Go.Proofs.YtiegllklalplnaaGreat
open Go Go.RowKit
set_option linter.unusedVariables false
set_option linter.unusedSimpArgs false

/-! ### definitions -/
def acts : Nat → GF → Nat → Bool → Gd
  | 0, _, d, w => [(d, w)]
  | n + 1, gf, d, w => match glk d gf with
    | some (d2, w2, _) => (d, w) :: acts n gf d2 w2
    | none => [(d, w)]
def rawV (d : Nat) (fr : Fr) (gf : GF) : Option SV :=
  match glk d gf with
  | some (_, _, x) => some x
  | none => mlk d fr
def nestG (fr : Fr) (gf : GF) : Gd → Prop → GO
  | [], p => .t p
  | (d, w) :: r, p => match rawV d fr gf with
    | some (.a (.v (.bool b))) => match nestG fr gf r p with
      | .t q => .g b w (.t q)
      | .g b' w' q => .g b w (.g b' w' q)
    | _ => nestG fr gf r p
/-- what is asked, sorted: what holds by looking, and what is to be shown, under its guards -/
def splitO (fr : Fr) (gf : GF) (g : Gd) : Ob → List Prop → List GO → Option (List Prop × List GO)
  | [], es, gs => some (es, gs)
  | .e p :: r, es, gs => splitO fr gf g r (p :: es) gs
  | .o p :: r, es, gs => match nestG fr gf g p with
    | .t q => splitO fr gf g r es (.t q :: gs)
    | .g b w q => splitO fr gf g r es (.g b w q :: gs)
/-- may it be laid into a row? -/
def V.okC : V → Bool
  | .v x => oneV x
  | .s .r _ _ _ => true
  | .g _ => true
  | .p _ _ => true
  | .pe _ _ _ _ => true
  | .sb _ _ _ _ => true
  | .rp .r _ _ => true
  | _ => false
def allC : List V → Bool
  | [] => true
  | x :: r => bif x.okC then allC r else false
/-- cells that lead nowhere -/
def flatC : List V → Option (List D)
  | [] => some []
  | .v x :: r => match flatC r with
    | some l => bif oneV x then some (.v x :: l) else none
    | none => none
  | _ :: _ => none
def V.uses (k : Nat) (x : V) : Bool := bif x.usesB k then true else x.usesT k
def unnamed (k : Nat) (fr : Fr) (gf : GF) (mu : Mu) (ks : List Nat) : Bool := bif frAny (V.uses k) fr then false else bif gfAny (V.uses k) gf then false else bif muAny (V.uses k) k mu then false else !hasK k ks
/-- an operation that changes memory: the value, the chunk that is laid (new or anew), what is asked -/
def mst (TT : List TI) (ks : List Nat) (fr : Fr) (gf : GF) (mu : Mu) (dst : Option Nat) (o : Op) : Option (Option SV × Bool × Nat × Ch × Ob) :=
  match o, dst with
  | .box _ x, some k => match ev [] fr gf x with
    | some y => match y.cells with
      | some l => bif (allC l && unnamed k fr gf mu ks && !(anyL (V.uses k) l)) then some (some (.a (.p k 0)), true, k, .row l, []) else none
      | none => none
    | none => none
  | .alloc t, some k => match tlk t TT with
    | some ti => match vcells ti.zero with
      | some l => bif (allC l && unnamed k fr gf mu ks) then some (some (.a (.p k 0)), true, k, .row l, []) else none
      | none => none
    | none => none
  | .store t ad x, none => match ev [] fr gf ad, ev [] fr gf x, tlk t TT with
    | some (.a (.p k o)), some y, some ti => match mlk k mu, y.cells with
      | some (.row l), some cs => bif (lenEq cs ti.sz && allC cs) then match paste l o cs with
          | some l' => some (none, false, k, .row l', [])
          | none => none
        else none
      | _, _ => none
    | some (.a (.pe k sz i o)), some y, some ti => match mlk k mu, y.cells.bind flatC with
      | some (.arr sz' n f), some cs => bif lenEq cs ti.sz then match paste (f i.toNat) o cs with
          | some l' => some (none, false, k, .arr sz' n (fun j => bif Nat.beq j i.toNat then l' else f j), [.e (sz = sz'), .o (0 ≤ i ∧ i < n)])
          | none => none
        else none
      | _, _ => none
    | _, _, _ => none
  | _, _ => none
/-- the frames behind it -/
def cutF (nw : Bool) (k : Nat) (fr : Fr) (gf : GF) : Option (Fr × GF) := bif nw then some (fr, gf) else match frCut (V.usesT k) fr, gfCut (V.usesT k) gf with
  | some fr', some gf' => some (fr', gf')
  | _, _ => none
/-- the slot that an operation's guard looks at -/
def gSlot (all : List Oper) (j : Nat) : Option Nat := match nth all j with
  | some o => o.dst
  | none => none
/-- steps as far as it can: what is left, the frame, the memory, what is asked -/
def run (TT : List TI) (N : Nat) (ks : List Nat) (all : List Oper) : List Oper → Fr → GF → Mu → List Prop → List GO → Option (List Oper × Fr × GF × Mu × List Prop × List GO)
  | [], fr, gf, mu, es, gs => some ([], fr, gf, mu, es, gs)
  | o :: r, fr, gf, mu, es, gs => match o.guard with
    | none => match pst TT fr gf mu [] o.op, o.dst with
      | some (x, q), some t => match splitO fr gf [] q es gs, gdrop t gf with
        | some (es', gs'), some gf' => bif Nat.blt t N then run TT N ks all r ((t, x) :: fr) gf' mu es' gs' else none
        | _, _ => none
      | _, d => match mst TT ks fr gf mu d o.op with
        | some (x, nw, k, c, q) => match splitO fr gf [] q es gs, mset k c mu, cutF nw k fr gf with
          | some (es', gs'), some mu', some (fr', gf0) => match x, d with
            | some x, some t => match gdrop t gf0 with
              | some gf' => bif Nat.blt t N then run TT N ks all r ((t, x) :: fr') gf' mu' es' gs' else none
              | none => none
            | none, none => run TT N ks all r fr' gf0 mu' es' gs'
            | _, _ => none
          | _, _, _ => none
        | none => some (o :: r, fr, gf, mu, es, gs)
    | some (j, w) => match gSlot all j with
      | some d => match pst TT fr gf mu (acts 6 gf d w) o.op, o.dst with
        | some (x, q), some t => match mlk t fr with
          | none => match splitO fr gf (acts 6 gf d w) q es gs, gdrop t gf with
            | some (es', gs'), some gf' => bif (Nat.blt t N && !(Nat.beq t d)) then run TT N ks all r fr ((t, d, w, x) :: gf') mu es' gs' else none
            | _, _ => none
          | some _ => none
        | _, _ => some (o :: r, fr, gf, mu, es, gs)
      | none => none

/-! ### what is told of the whole -/
/-- keys that stand for what they stood for -/
structure An where
  ks : List Nat
  B : BE
/-- a walk's surroundings -/
structure Env where
  P : Program
  A : An
  N : Nat
  r : PH
  D : Nat → Nat → Prop
  w0 : World
structure Mem (E : Env) (B : BE) (mu : Mu) (w : World) (H : Nat → PH) : Prop where
  mm : Mm B E.r mu w H
  keep : Keep E.D E.w0 w
  dom : ∀ k b o, H k b o ≠ none → E.D b o ∨ E.w0.heap.size ≤ b
  anch : ∀ k, hasK k E.A.ks = true → B k = E.A.B k
theorem Mem.mr {E : Env} {B : BE} {mu : Mu} {w : World} {H : Nat → PH} (m : Mem E B mu w H) : Mr B E.r mu w H := m.mm.mr
abbrev FitsE (E : Env) (B : BE) (H : Nat → PH) (fr : Fr) (gf : GF) (a : Act) : Prop := Fits E.P B (Zf E.r H) E.N fr gf a

theorem gdrop_mem {t : Nat} : ∀ {gf l : GF}, gdrop t gf = some l → ∀ {e : Nat × Nat × Bool × SV}, e ∈ l → e ∈ gf ∧ e.1 ≠ t ∧ e.2.1 ≠ t
  | [], l, h, e, hm => by simp [gdrop] at h; subst h; cases hm
  | (j, d, w, x) :: r, l, h, e, hm => by
    simp only [gdrop] at h
    cases e1 : gdrop t r with
    | none => rw [e1] at h; cases h
    | some l' =>
      rw [e1] at h
      simp only at h
      cases c : (Nat.beq j t || Nat.beq d t) with
      | true =>
        rw [c] at h
        simp at h
        subst h
        obtain ⟨h1, h2⟩ := gdrop_mem e1 hm
        exact ⟨List.mem_cons_of_mem _ h1, h2⟩
      | false =>
        rw [c] at h
        simp at h
        subst h
        simp only [Bool.or_eq_false_iff] at c
        cases hm with
        | head => exact ⟨List.mem_cons_self, Nat.ne_of_beq_eq_false c.1, Nat.ne_of_beq_eq_false c.2⟩
        | tail _ hm =>
          obtain ⟨h1, h2⟩ := gdrop_mem e1 hm
          exact ⟨List.mem_cons_of_mem _ h1, h2⟩
theorem mlk_cons {α : Type} (k j : Nat) (x : α) (l : List (Nat × α)) : mlk k ((j, x) :: l) = if j = k then some x else mlk k l := by
  simp only [mlk]
  by_cases h : j = k
  · subst h; simp [Nat.beq_refl]
  · rw [if_neg h, show Nat.beq j k = false from by
      cases e : Nat.beq j k with
      | false => rfl
      | true => exact absurd (Nat.eq_of_beq_eq_true e) h]
    rfl
theorem put_get {a : Act} {t t' : Nat} {v : Value} (h : t < a.tmps.size) : (a.put (some t) v).tmps.getD t' undef = if t = t' then v else a.tmps.getD t' undef := by
  simp only [Act.put]
  by_cases e : t = t'
  · subst e; simp [h]
  · rw [if_neg e]; simp [Array.getElem?_setIfInBounds_ne e]
section
variable {P : Program} {w w0 : World} {B : BE} {Z : Tg → PH} {mu : Mu} {TT : List TI} {N : Nat} {fr : Fr} {gf : GF} {a : Act}
theorem Fits.put (f : Fits P B Z N fr gf a) {t : Nat} (ht : t < N) {x : SV} {v : Value} (hv : SV.rel P B Z x v) {gf' : GF} (hg : gdrop t gf = some gf') : Fits P B Z N ((t, x) :: fr) gf' (a.put (some t) v) := by
  have hs : t < a.tmps.size := by rw [f.size]; exact ht
  refine ⟨by simp [Act.put, f.size], f.defers, fun t' y h1 h2 => ?_, fun t' d w y h1 h2 => ?_, fun t' d w y h1 h2 => ?_, fun t' d w y h1 => ?_⟩
  · rw [put_get hs]
    rw [mlk_cons] at h1
    by_cases e : t = t'
    · rw [if_pos e] at h1 ⊢; injection h1 with h1; rw [← h1]; exact hv
    · rw [if_neg e] at h1 ⊢
      refine f.vfr t' y h1 ?_
      cases c : glk t' gf with
      | none => rfl
      | some q => rw [f.vno t' q.1 q.2.1 q.2.2 (glk_mem c)] at h1; cases h1
  · obtain ⟨g1, g2, g3⟩ := gdrop_mem hg h1
    simp only at g2 g3
    rw [put_get hs, if_neg (Ne.symm g3)] at h2
    rw [put_get hs, if_neg (Ne.symm g2)]
    exact f.vgf t' d w y g1 h2
  · obtain ⟨g1, g2, g3⟩ := gdrop_mem hg h1
    simp only at g2 g3
    rw [put_get hs, if_neg (Ne.symm g3)] at h2
    rw [put_get hs, if_neg (Ne.symm g2)]
    exact f.vgu t' d w y g1 h2
  · obtain ⟨g1, g2, g3⟩ := gdrop_mem hg h1
    simp only at g2
    rw [mlk_cons, if_neg (Ne.symm g2)]
    exact f.vno t' d w y g1
theorem Fits.putG (f : Fits P B Z N fr gf a) {t d : Nat} {w : Bool} (ht : t < N) (hd : t ≠ d) (hn : mlk t fr = none) {x : SV} {v : Value} {gf' : GF} (hg : gdrop t gf = some gf') (hv : (a.tmps.getD d undef = .bool w ∧ SV.rel P B Z x v) ∨ (a.tmps.getD d undef ≠ .bool w ∧ v = undef)) :
    Fits P B Z N fr ((t, d, w, x) :: gf') (a.put (some t) v) := by
  have hs : t < a.tmps.size := by rw [f.size]; exact ht
  refine ⟨by simp [Act.put, f.size], f.defers, fun t' y h1 h2 => ?_, fun t' d' w' y h1 h2 => ?_, fun t' d' w' y h1 h2 => ?_, fun t' d' w' y h1 => ?_⟩
  · by_cases e : t = t'
    · subst e; rw [hn] at h1; cases h1
    · rw [put_get hs, if_neg e]
      refine f.vfr t' y h1 ?_
      cases c : glk t' gf with
      | none => rfl
      | some q => rw [f.vno t' q.1 q.2.1 q.2.2 (glk_mem c)] at h1; cases h1
  · cases h1 with
    | head =>
      rw [put_get hs, if_pos rfl]
      rw [put_get hs, if_neg hd] at h2
      rcases hv with ⟨_, h3⟩ | ⟨h3, _⟩
      · exact h3
      · exact absurd h2 h3
    | tail _ h1 =>
      obtain ⟨g1, g2, g3⟩ := gdrop_mem hg h1
      simp only at g2 g3
      rw [put_get hs, if_neg (Ne.symm g3)] at h2
      rw [put_get hs, if_neg (Ne.symm g2)]
      exact f.vgf t' d' w' y g1 h2
  · cases h1 with
    | head =>
      rw [put_get hs, if_pos rfl]
      rw [put_get hs, if_neg hd] at h2
      rcases hv with ⟨h3, _⟩ | ⟨_, rfl⟩
      · exact absurd h3 h2
      · rfl
    | tail _ h1 =>
      obtain ⟨g1, g2, g3⟩ := gdrop_mem hg h1
      simp only at g2 g3
      rw [put_get hs, if_neg (Ne.symm g3)] at h2
      rw [put_get hs, if_neg (Ne.symm g2)]
      exact f.vgu t' d' w' y g1 h2
  · cases h1 with
    | head => exact hn
    | tail _ h1 => exact f.vno t' d' w' y (gdrop_mem hg h1).1
theorem acts_ok (f : Fits P B Z N fr gf a) : ∀ (n : Nat) (d : Nat) (w : Bool), a.tmps.getD d undef = .bool w → ∀ d' w', (d', w') ∈ acts n gf d w → a.tmps.getD d' undef = .bool w'
  | 0, d, w, h, d', w', hm => by
    simp only [acts, List.mem_singleton, Prod.mk.injEq] at hm
    obtain ⟨rfl, rfl⟩ := hm; exact h
  | n + 1, d, w, h, d', w', hm => by
    simp only [acts] at hm
    cases e : glk d gf with
    | none =>
      rw [e] at hm
      simp only [List.mem_singleton, Prod.mk.injEq] at hm
      obtain ⟨rfl, rfl⟩ := hm; exact h
    | some q =>
      obtain ⟨d2, w2, x⟩ := q
      rw [e] at hm
      cases hm with
      | head => exact h
      | tail _ hm =>
        refine acts_ok f n d2 w2 ?_ d' w' hm
        refine Classical.byContradiction fun hne => ?_
        have := f.vgu d d2 w2 x (glk_mem e) hne
        rw [this] at h
        cases h
theorem raw_ok (f : Fits P B Z N fr gf a) {d : Nat} {w b : Bool} (h : a.tmps.getD d undef = .bool w) (e : rawV d fr gf = some (.a (.v (.bool b)))) : b = w := by
  unfold rawV at e
  cases c : glk d gf with
  | none =>
    rw [c] at e
    have := f.vfr d _ e c
    rw [h] at this
    have this : Value.bool w = Value.bool b := this
    injection this with this
    exact this.symm
  | some q =>
    obtain ⟨d2, w2, x⟩ := q
    rw [c] at e
    simp at e
    subst e
    have h2 : a.tmps.getD d2 undef = .bool w2 := by
      refine Classical.byContradiction fun hne => ?_
      have := f.vgu d d2 w2 _ (glk_mem c) hne
      rw [this] at h
      cases h
    have := f.vgf d d2 w2 _ (glk_mem c) h2
    rw [h] at this
    have this : Value.bool w = Value.bool b := this
    injection this with this
    exact this.symm
theorem nestG_ok (f : Fits P B Z N fr gf a) : ∀ {g : Gd} {p : Prop}, (∀ d w, (d, w) ∈ g → a.tmps.getD d undef = .bool w) → (nestG fr gf g p).p → p
  | [], p, _, h => h
  | (d, w) :: r, p, hg, h => by
    have hr := nestG_ok f (g := r) (p := p) (fun d w hm => hg d w (List.mem_cons_of_mem _ hm))
    simp only [nestG] at h
    split at h
    · rename_i b e
      have hb := raw_ok f (hg d w List.mem_cons_self) e
      split at h
      · rename_i q e2; rw [e2] at hr; exact hr (h hb)
      · rename_i b' w' q e2; rw [e2] at hr; exact hr (h hb)
    · exact hr h
theorem splitO_ok (f : Fits P B Z N fr gf a) {g : Gd} (hg : ∀ d w, (d, w) ∈ g → a.tmps.getD d undef = .bool w) : ∀ {q : Ob} {es es' : List Prop} {gs gs' : List GO}, splitO fr gf g q es gs = some (es', gs') → PAlls es' → GAlls gs' → Alls q
  | [], _, _, _, _, _, _, _ => trivial
  | .e p :: r, es, es', gs, gs', h, h1, h2 => by
    simp only [splitO] at h
    have key : ∀ {q : Ob} {es es' : List Prop} {gs gs' : List GO}, splitO fr gf g q es gs = some (es', gs') → PAlls es' → PAlls es := fun {q} => by
      induction q with
      | nil => intro es es' gs gs' h h1; simp [splitO] at h; rw [h.1]; exact h1
      | cons x r ih =>
        intro es es' gs gs' h h1
        cases x with
        | e p => exact (ih h h1).2
        | o p => simp only [splitO] at h; split at h <;> exact ih h h1
    exact ⟨(key h h1).1, splitO_ok f hg h h1 h2⟩
  | .o p :: r, es, es', gs, gs', h, h1, h2 => by
    simp only [splitO] at h
    have key : ∀ {q : Ob} {es es' : List Prop} {gs gs' : List GO}, splitO fr gf g q es gs = some (es', gs') → GAlls gs' → GAlls gs := fun {q} => by
      induction q with
      | nil => intro es es' gs gs' h h1; simp [splitO] at h; rw [h.2]; exact h1
      | cons x r ih =>
        intro es es' gs gs' h h1
        cases x with
        | e p => exact ih h h1
        | o p => simp only [splitO] at h; split at h <;> exact (ih h h1).2
    split at h
    · rename_i q e
      have := (key h h2).1
      exact ⟨nestG_ok f hg (show (nestG fr gf g p).p by rw [e]; exact this), splitO_ok f hg h h1 h2⟩
    · rename_i b w q e
      have := (key h h2).1
      exact ⟨nestG_ok f hg (show (nestG fr gf g p).p by rw [e]; exact this), splitO_ok f hg h h1 h2⟩
theorem splitO_mono {g : Gd} : ∀ {q : Ob} {es es' : List Prop} {gs gs' : List GO}, splitO fr gf g q es gs = some (es', gs') → PAlls es' ∧ GAlls gs' → PAlls es ∧ GAlls gs
  | [], es, es', gs, gs', h, hh => by simp [splitO] at h; rw [h.1, h.2]; exact hh
  | .e p :: r, es, es', gs, gs', h, hh => by
    simp only [splitO] at h
    exact ⟨(splitO_mono h hh).1.2, (splitO_mono h hh).2⟩
  | .o p :: r, es, es', gs, gs', h, hh => by
    simp only [splitO] at h
    split at h <;> exact ⟨(splitO_mono h hh).1, (splitO_mono h hh).2.2⟩
end
/-! ### stores of several cells -/
def PH.updL (h : PH) (b o : Nat) (l : List Value) : PH := fun x y => if x = b ∧ o ≤ y ∧ y < o + l.length then l[y - o]? else h x y
theorem PH.updL_in (h : PH) (b o : Nat) (l : List Value) {j : Nat} (hj : j < l.length) : h.updL b o l b (o + j) = l[j]? := by
  unfold PH.updL; rw [if_pos ⟨rfl, by omega, by omega⟩]; congr 1; omega
theorem PH.updL_out (h : PH) {b o x y : Nat} {l : List Value} (n : ¬ (x = b ∧ o ≤ y ∧ y < o + l.length)) : h.updL b o l x y = h x y := by
  unfold PH.updL; rw [if_neg n]
theorem PH.updL_ne {h : PH} {b o : Nat} {l : List Value} (hl : ∀ j, j < l.length → h b (o + j) ≠ none) {x y : Nat} (e : h.updL b o l x y ≠ none) : h x y ≠ none := by
  by_cases c : x = b ∧ o ≤ y ∧ y < o + l.length
  · obtain ⟨rfl, c1, c2⟩ := c
    have := hl (y - o) (by omega)
    rwa [show o + (y - o) = y from by omega] at this
  · rwa [PH.updL_out h c] at e
theorem oneV_cell {v : Value} (h : oneV v = true) : v.oneCell' = true := by cases v <;> first | rfl | cases h
theorem run_storeCells {P : Program} : ∀ (l : List Value) (w : World) (b o i : Nat) (h : PH), Fit h w → (∀ j, j < l.length → h b (o + i + j) ≠ none) → (∀ v ∈ l, oneV v = true) →
    ∃ w', (storeCells ⟨b, o, none⟩ l i).run P w = .ok () w' ∧ Fit (h.updL b (o + i) l) w' ∧ Keep (fun x y => x = b ∧ o + i ≤ y ∧ y < o + i + l.length) w w' ∧ w'.heap.size = w.heap.size
  | [], w, b, o, i, h, f, _, _ => by
    refine ⟨w, by simp [storeCells], ?_, Keep.refl _ _, rfl⟩
    intro x y v e
    rw [PH.updL_out] at e
    · exact f x y v e
    · simp only [List.length_nil]; omega
  | u :: l, w, b, o, i, h, f, hl, h1 => by
    have h0 := hl 0 (by simp)
    rw [Nat.add_zero] at h0
    cases e : h b (o + i) with
    | none => exact absurd e h0
    | some v0 =>
      obtain ⟨c1, c2⟩ := f _ _ _ e
      have hu : u.oneCell' = true := oneV_cell (h1 u List.mem_cons_self)
      have f1 : Fit (h.upd b (o + i) u) (w.setCell ⟨b, o + i, none⟩ u) := f.upd e u
      obtain ⟨w', r1, r2, r3, r4⟩ := run_storeCells (P := P) l (w.setCell ⟨b, o + i, none⟩ u) b o (i + 1) _ f1 (fun j hj => by
        by_cases c : o + (i + 1) + j = o + i
        · omega
        · rw [PH.upd_other _ _ (by omega)]
          have := hl (j + 1) (by simp; omega)
          rwa [show o + i + (j + 1) = o + (i + 1) + j from by omega] at this) (fun v hv => h1 v (List.mem_cons_of_mem _ hv))
      refine ⟨w', ?_, ?_, ?_, ?_⟩
      · simp only [storeCells, Sem.run_bind]
        rw [run_store P w _ u .plain hu, add_mk, c1]
        simp only [c2, Bool.false_eq_true, if_false, Result.andThen_ok, r1]
      · intro x y v hv
        refine r2 x y v ?_
        by_cases c : x = b ∧ o + i ≤ y ∧ y < o + i + (u :: l).length
        · obtain ⟨rfl, c3, c4⟩ := c
          simp only [List.length_cons] at c4
          rw [show y = o + i + (y - (o + i)) from by omega, PH.updL_in _ _ _ _ (by simp; omega)] at hv
          by_cases c5 : y = o + i
          · subst c5
            rw [PH.updL_out _ (by omega)]
            simp at hv
            rw [PH.upd_same, hv]
          · rw [show y = o + (i + 1) + (y - (o + (i + 1))) from by omega, PH.updL_in _ _ _ _ (by omega)]
            rw [show y - (o + i) = (y - (o + (i + 1))) + 1 from by omega, List.getElem?_cons_succ] at hv
            exact hv
        · rw [PH.updL_out _ c] at hv
          simp only [List.length_cons] at c
          rw [PH.updL_out _ (by omega), PH.upd_other _ _ (by omega)]
          exact hv
      · have k1 : Keep (fun x y => x = b ∧ o + i ≤ y ∧ y < o + i + (u :: l).length) w (w.setCell ⟨b, o + i, none⟩ u) := (setCell_keep w b (o + i) u).mono fun x _ y hxy => by
          obtain ⟨rfl, rfl⟩ := hxy; simp
        refine k1.trans r3 fun x y hxy => ?_
        obtain ⟨rfl, c1, c2⟩ := hxy
        exact .inl ⟨rfl, by omega, by simp only [List.length_cons]; omega⟩
      · rw [r4]; simp [World.setCell]
theorem run_storeVar {P : Program} {ti : TI} (hti : ti.ok P) {v : Value} {l : List Value} (hv : v.cells.toList = l) (hl : l.length = ti.sz) {w : World} {b o : Nat} {h : PH} (f : Fit h w) (hin : ∀ j, j < l.length → h b (o + j) ≠ none) (h1 : ∀ v ∈ l, oneV v = true) :
    ∃ w', (storeVar ti.id ⟨b, o, none⟩ v).run P w = .ok () w' ∧ Fit (h.updL b o l) w' ∧ Keep (fun x y => x = b ∧ o ≤ y ∧ y < o + l.length) w w' ∧ w'.heap.size = w.heap.size := by
  obtain ⟨i, i1, i2, _⟩ := hti.info
  obtain ⟨w', r1, r2, r3, r4⟩ := run_storeCells (P := P) l w b o 0 h f (by simpa using hin) h1
  refine ⟨w', ?_, by simpa using r2, by simpa using r3, r4⟩
  simp only [storeVar, Sem.run_bind, run_size i1, Result.andThen_ok]
  rw [if_neg (by rw [i2, ← hl, ← hv]; simp), hv]
  exact r1


end Go.Proofs.YtiegllklalplnaaGreat
