/-
  The symbolic machine steps through a region in the order of the text.
-/
import Derived.Test.YtiilpopeognekaaM5
namespace Go.Proofs.Ytiilpopeognekaa
open Go Go.RowKit
set_option linter.unusedVariables false
set_option linter.unusedSimpArgs false

/-! ### definitions -/
def acts : Nat → GF → Nat → Bool → Gd
  | 0, _, d, w => [(d, w)]
  | n + 1, gf, d, w => match glk d gf with
    | some (d2, w2, _) => (d, w) :: acts n gf d2 w2
    | none => [(d, w)]
def rawV (d : Nat) (fr : Fr) (gf : GF) : Option SV :=
  match glk d gf with
  | some (_, _, x) => some x
  | none => mlk d fr
def nestG (fr : Fr) (gf : GF) : Gd → Prop → GO
  | [], p => .t p
  | (d, w) :: r, p => match rawV d fr gf with
    | some (.a (.v (.bool b))) => match nestG fr gf r p with
      | .t q => .g b w (.t q)
      | .g b' w' q => .g b w (.g b' w' q)
    | _ => nestG fr gf r p
/-- what is asked, sorted: what holds by looking, and what is to be shown, under its guards -/
def splitO (fr : Fr) (gf : GF) (g : Gd) : Ob → List Prop → List GO → Option (List Prop × List GO)
  | [], es, gs => some (es, gs)
  | .e p :: r, es, gs => splitO fr gf g r (p :: es) gs
  | .o p :: r, es, gs => match nestG fr gf g p with
    | .t q => splitO fr gf g r es (.t q :: gs)
    | .g b w q => splitO fr gf g r es (.g b w q :: gs)
def avVals : List AV → Option (List Value)
  | [] => some []
  | .p _ _ :: _ => none
  | .v x :: r => match avVals r with
    | some l => some (x :: l)
    | none => none
  | .sl _ A n c :: r => match avVals r with
    | some l => some (.slice A n c :: l)
    | none => none
  | .rs _ A n c :: r => match avVals r with
    | some l => some (.slice A n c :: l)
    | none => none
  | .pe _ A _ i sz o :: r => match avVals r with
    | some l => some (elP A i sz o :: l)
    | none => none
  | .re _ A _ i sz o :: r => match avVals r with
    | some l => some (elP A i sz o :: l)
    | none => none
def allOneV : List Value → Bool
  | [] => true
  | x :: r => bif oneV x then allOneV r else false
def unnamed (k : Nat) (fr : Fr) (gf : GF) (mu : Mu) : Bool := !(frNames k fr) && !(gfNames k gf) && !(muNames k mu)
/-- an operation that changes memory: the value, the memory behind it -/
def mst (TT : List TI) (fr : Fr) (gf : GF) (mu : Mu) (dst : Option Nat) (o : Op) : Option (Option SV × Mu × Ob) :=
  match o, dst with
  | .box _ x, some k => match ev [] fr gf x with
    | some y => match y.cells with
      | some l => bif (unnamed k fr gf mu && !(namesL k l)) then some (some (.a (.p k 0)), (k, .cells l) :: mu, []) else none
      | none => none
    | none => none
  | .alloc t, some k => match tlk t TT with
    | some ti => match vcells ti.zero with
      | some l => bif unnamed k fr gf mu then some (some (.a (.p k 0)), (k, .cells l) :: mu, []) else none
      | none => none
    | none => none
  | .store t ad x, none => match ev [] fr gf ad, ev [] fr gf x, tlk t TT with
    | some (.a (.p k o)), some y, some ti => match mlk k mu, y.cells with
      | some (.cells l), some cs => bif (lenEq cs ti.sz && allOne cs) then match paste l o cs with
          | some l' => some (none, (k, .cells l') :: mu, [])
          | none => none
        else none
      | _, _ => none
    | some (.a (.pe k A n i sz o)), some y, some ti => match mlk k mu, y.cells with
      | some (.arr A' n' c sz' rows), some cs => bif lenEq cs ti.sz then match avVals cs with
          | some vs => bif allOneV vs then match paste (rows i.toNat) o vs with
              | some l' => some (none, (k, .arr A' n' c sz' (fun j => bif Nat.beq j i.toNat then l' else rows j)) :: mu, [.e (A = A'), .e (n = n'), .e (sz = sz'), .o (0 ≤ i ∧ i < n)])
              | none => none
            else none
          | none => none
        else none
      | _, _ => none
    | _, _, _ => none
  | _, _ => none
/-- the slot that an operation's guard looks at -/
def gSlot (all : List Oper) (j : Nat) : Option Nat := match nth all j with
  | some o => o.dst
  | none => none
/-- steps as far as it can: what is left, the frame, the memory, what is asked -/
def run (TT : List TI) (N : Nat) (all : List Oper) (ga : Ga) : List Oper → Fr → GF → Mu → List Prop → List GO → Option (List Oper × Fr × GF × Mu × List Prop × List GO)
  | [], fr, gf, mu, es, gs => some ([], fr, gf, mu, es, gs)
  | o :: r, fr, gf, mu, es, gs => match o.guard with
    | none => match pst TT fr gf mu ga [] o.op, o.dst with
      | some (x, q), some t => match splitO fr gf [] q es gs, gdrop t gf with
        | some (es', gs'), some gf' => bif Nat.blt t N then run TT N all ga r ((t, x) :: fr) gf' mu es' gs' else none
        | _, _ => none
      | _, d => match mst TT fr gf mu d o.op with
        | some (x, mu', q) => match splitO fr gf [] q es gs with
          | some (es', gs') => match x, d with
            | some x, some t => match gdrop t gf with
              | some gf' => bif Nat.blt t N then run TT N all ga r ((t, x) :: fr) gf' mu' es' gs' else none
              | none => none
            | none, none => run TT N all ga r fr gf mu' es' gs'
            | _, _ => none
          | none => none
        | none => some (o :: r, fr, gf, mu, es, gs)
    | some (j, w) => match gSlot all j with
      | some d => match pst TT fr gf mu ga (acts 6 gf d w) o.op, o.dst with
        | some (x, q), some t => match mlk t fr with
          | none => match splitO fr gf (acts 6 gf d w) q es gs, gdrop t gf with
            | some (es', gs'), some gf' => bif (Nat.blt t N && !(Nat.beq t d)) then run TT N all ga r fr ((t, d, w, x) :: gf') mu es' gs' else none
            | _, _ => none
          | some _ => none
        | _, _ => some (o :: r, fr, gf, mu, es, gs)
      | none => none

/-! ### what a region comes to -/
/-- the rest of a region, from every frame and memory that fit -/
def RJ (P : Program) (N : Nat) (r : PH) (D : Nat → Nat → Prop) (w0 : World) (all : List Oper) (Q : Exit → Act → World → Prop) (rest : List Oper) (fr : Fr) (gf : GF) (mu : Mu) (ga : Ga) : Prop :=
  ∀ B a w H, Fits B N fr gf a → Mem B r D w0 mu w H → GaOk r ga → wpList P all.toArray Q rest a w

theorem gdrop_mem {t : Nat} : ∀ {gf l : GF}, gdrop t gf = some l → ∀ {e : Nat × Nat × Bool × SV}, e ∈ l → e ∈ gf ∧ e.1 ≠ t ∧ e.2.1 ≠ t
  | [], l, h, e, hm => by simp [gdrop] at h; subst h; cases hm
  | (j, d, w, x) :: r, l, h, e, hm => by
    simp only [gdrop] at h
    cases e1 : gdrop t r with
    | none => rw [e1] at h; cases h
    | some l' =>
      rw [e1] at h
      simp only at h
      cases c : (Nat.beq j t || Nat.beq d t) with
      | true =>
        rw [c] at h
        simp at h
        subst h
        obtain ⟨h1, h2⟩ := gdrop_mem e1 hm
        exact ⟨List.mem_cons_of_mem _ h1, h2⟩
      | false =>
        rw [c] at h
        simp at h
        subst h
        simp only [Bool.or_eq_false_iff] at c
        cases hm with
        | head => exact ⟨List.mem_cons_self, Nat.ne_of_beq_eq_false c.1, Nat.ne_of_beq_eq_false c.2⟩
        | tail _ hm =>
          obtain ⟨h1, h2⟩ := gdrop_mem e1 hm
          exact ⟨List.mem_cons_of_mem _ h1, h2⟩
theorem mlk_cons {α : Type} (k j : Nat) (x : α) (l : List (Nat × α)) : mlk k ((j, x) :: l) = if j = k then some x else mlk k l := by
  simp only [mlk]
  by_cases h : j = k
  · subst h; simp [Nat.beq_refl]
  · rw [if_neg h, show Nat.beq j k = false from by
      cases e : Nat.beq j k with
      | false => rfl
      | true => exact absurd (Nat.eq_of_beq_eq_true e) h]
    rfl
theorem put_get {a : Act} {t t' : Nat} {v : Value} (h : t < a.tmps.size) : (a.put (some t) v).tmps.getD t' undef = if t = t' then v else a.tmps.getD t' undef := by
  simp only [Act.put]
  by_cases e : t = t'
  · subst e; simp [h]
  · rw [if_neg e]; simp [Array.getElem?_setIfInBounds_ne e]
section
variable {P : Program} {w w0 : World} {B : BE} {r : PH} {D : Nat → Nat → Prop} {mu : Mu} {ga : Ga} {H : Nat → PH} {TT : List TI} {N : Nat} {fr : Fr} {gf : GF} {a : Act}
theorem Fits.put (f : Fits B N fr gf a) {t : Nat} (ht : t < N) {x : SV} {v : Value} (hv : v = x.den B) {gf' : GF} (hg : gdrop t gf = some gf') : Fits B N ((t, x) :: fr) gf' (a.put (some t) v) := by
  subst hv
  have hs : t < a.tmps.size := by rw [f.size]; exact ht
  refine ⟨by simp [Act.put, f.size], f.defers, fun t' y h1 h2 => ?_, fun t' d w y h1 h2 => ?_, fun t' d w y h1 h2 => ?_, fun t' d w y h1 => ?_⟩
  · rw [put_get hs]
    rw [mlk_cons] at h1
    by_cases e : t = t'
    · rw [if_pos e] at h1 ⊢; injection h1 with h1; rw [h1]
    · rw [if_neg e] at h1 ⊢
      refine f.vfr t' y h1 ?_
      cases c : glk t' gf with
      | none => rfl
      | some q => rw [f.vno t' q.1 q.2.1 q.2.2 (glk_mem c)] at h1; cases h1
  · obtain ⟨g1, g2, g3⟩ := gdrop_mem hg h1
    simp only at g2 g3
    rw [put_get hs, if_neg (Ne.symm g3)] at h2
    rw [put_get hs, if_neg (Ne.symm g2)]
    exact f.vgf t' d w y g1 h2
  · obtain ⟨g1, g2, g3⟩ := gdrop_mem hg h1
    simp only at g2 g3
    rw [put_get hs, if_neg (Ne.symm g3)] at h2
    rw [put_get hs, if_neg (Ne.symm g2)]
    exact f.vgu t' d w y g1 h2
  · obtain ⟨g1, g2, g3⟩ := gdrop_mem hg h1
    simp only at g2
    rw [mlk_cons, if_neg (Ne.symm g2)]
    exact f.vno t' d w y g1
theorem Fits.putG (f : Fits B N fr gf a) {t d : Nat} {w : Bool} (ht : t < N) (hd : t ≠ d) (hn : mlk t fr = none) {x : SV} {v : Value} {gf' : GF} (hg : gdrop t gf = some gf') (hv : (a.tmps.getD d undef = .bool w ∧ v = x.den B) ∨ (a.tmps.getD d undef ≠ .bool w ∧ v = undef)) :
    Fits B N fr ((t, d, w, x) :: gf') (a.put (some t) v) := by
  have hs : t < a.tmps.size := by rw [f.size]; exact ht
  refine ⟨by simp [Act.put, f.size], f.defers, fun t' y h1 h2 => ?_, fun t' d' w' y h1 h2 => ?_, fun t' d' w' y h1 h2 => ?_, fun t' d' w' y h1 => ?_⟩
  · by_cases e : t = t'
    · subst e; rw [hn] at h1; cases h1
    · rw [put_get hs, if_neg e]
      refine f.vfr t' y h1 ?_
      cases c : glk t' gf with
      | none => rfl
      | some q => rw [f.vno t' q.1 q.2.1 q.2.2 (glk_mem c)] at h1; cases h1
  · cases h1 with
    | head =>
      rw [put_get hs, if_pos rfl]
      rw [put_get hs, if_neg hd] at h2
      rcases hv with ⟨_, rfl⟩ | ⟨h3, _⟩
      · rfl
      · exact absurd h2 h3
    | tail _ h1 =>
      obtain ⟨g1, g2, g3⟩ := gdrop_mem hg h1
      simp only at g2 g3
      rw [put_get hs, if_neg (Ne.symm g3)] at h2
      rw [put_get hs, if_neg (Ne.symm g2)]
      exact f.vgf t' d' w' y g1 h2
  · cases h1 with
    | head =>
      rw [put_get hs, if_pos rfl]
      rw [put_get hs, if_neg hd] at h2
      rcases hv with ⟨h3, _⟩ | ⟨_, rfl⟩
      · exact absurd h3 h2
      · rfl
    | tail _ h1 =>
      obtain ⟨g1, g2, g3⟩ := gdrop_mem hg h1
      simp only at g2 g3
      rw [put_get hs, if_neg (Ne.symm g3)] at h2
      rw [put_get hs, if_neg (Ne.symm g2)]
      exact f.vgu t' d' w' y g1 h2
  · cases h1 with
    | head => exact hn
    | tail _ h1 => exact f.vno t' d' w' y (gdrop_mem hg h1).1
theorem acts_ok (f : Fits B N fr gf a) : ∀ (n : Nat) (d : Nat) (w : Bool), a.tmps.getD d undef = .bool w → ∀ d' w', (d', w') ∈ acts n gf d w → a.tmps.getD d' undef = .bool w'
  | 0, d, w, h, d', w', hm => by
    simp only [acts, List.mem_singleton, Prod.mk.injEq] at hm
    obtain ⟨rfl, rfl⟩ := hm; exact h
  | n + 1, d, w, h, d', w', hm => by
    simp only [acts] at hm
    cases e : glk d gf with
    | none =>
      rw [e] at hm
      simp only [List.mem_singleton, Prod.mk.injEq] at hm
      obtain ⟨rfl, rfl⟩ := hm; exact h
    | some q =>
      obtain ⟨d2, w2, x⟩ := q
      rw [e] at hm
      cases hm with
      | head => exact h
      | tail _ hm =>
        refine acts_ok f n d2 w2 ?_ d' w' hm
        refine Classical.byContradiction fun hne => ?_
        have := f.vgu d d2 w2 x (glk_mem e) hne
        rw [this] at h
        cases h
theorem raw_ok (f : Fits B N fr gf a) {d : Nat} {w b : Bool} (h : a.tmps.getD d undef = .bool w) (e : rawV d fr gf = some (.a (.v (.bool b)))) : b = w := by
  unfold rawV at e
  cases c : glk d gf with
  | none =>
    rw [c] at e
    have := f.vfr d _ e c
    rw [h] at this
    simp only [SV.den, AV.den] at this
    injection this with this
    exact this.symm
  | some q =>
    obtain ⟨d2, w2, x⟩ := q
    rw [c] at e
    simp at e
    subst e
    have h2 : a.tmps.getD d2 undef = .bool w2 := by
      refine Classical.byContradiction fun hne => ?_
      have := f.vgu d d2 w2 _ (glk_mem c) hne
      rw [this] at h
      cases h
    have := f.vgf d d2 w2 _ (glk_mem c) h2
    rw [h] at this
    simp only [SV.den, AV.den] at this
    injection this with this
    exact this.symm
theorem nestG_ok (f : Fits B N fr gf a) : ∀ {g : Gd} {p : Prop}, (∀ d w, (d, w) ∈ g → a.tmps.getD d undef = .bool w) → (nestG fr gf g p).p → p
  | [], p, _, h => h
  | (d, w) :: r, p, hg, h => by
    have hr := nestG_ok f (g := r) (p := p) (fun d w hm => hg d w (List.mem_cons_of_mem _ hm))
    simp only [nestG] at h
    split at h
    · rename_i b e
      have hb := raw_ok f (hg d w List.mem_cons_self) e
      split at h
      · rename_i q e2; rw [e2] at hr; exact hr (h hb)
      · rename_i b' w' q e2; rw [e2] at hr; exact hr (h hb)
    · exact hr h
theorem splitO_ok (f : Fits B N fr gf a) {g : Gd} (hg : ∀ d w, (d, w) ∈ g → a.tmps.getD d undef = .bool w) : ∀ {q : Ob} {es es' : List Prop} {gs gs' : List GO}, splitO fr gf g q es gs = some (es', gs') → PAlls es' → GAlls gs' → Alls q
  | [], _, _, _, _, _, _, _ => trivial
  | .e p :: r, es, es', gs, gs', h, h1, h2 => by
    simp only [splitO] at h
    have key : ∀ {q : Ob} {es es' : List Prop} {gs gs' : List GO}, splitO fr gf g q es gs = some (es', gs') → PAlls es' → PAlls es := fun {q} => by
      induction q with
      | nil => intro es es' gs gs' h h1; simp [splitO] at h; rw [h.1]; exact h1
      | cons x r ih =>
        intro es es' gs gs' h h1
        cases x with
        | e p => exact (ih h h1).2
        | o p => simp only [splitO] at h; split at h <;> exact ih h h1
    exact ⟨(key h h1).1, splitO_ok f hg h h1 h2⟩
  | .o p :: r, es, es', gs, gs', h, h1, h2 => by
    simp only [splitO] at h
    have key : ∀ {q : Ob} {es es' : List Prop} {gs gs' : List GO}, splitO fr gf g q es gs = some (es', gs') → GAlls gs' → GAlls gs := fun {q} => by
      induction q with
      | nil => intro es es' gs gs' h h1; simp [splitO] at h; rw [h.2]; exact h1
      | cons x r ih =>
        intro es es' gs gs' h h1
        cases x with
        | e p => exact ih h h1
        | o p => simp only [splitO] at h; split at h <;> exact (ih h h1).2
    split at h
    · rename_i q e
      have := (key h h2).1
      exact ⟨nestG_ok f hg (show (nestG fr gf g p).p by rw [e]; exact this), splitO_ok f hg h h1 h2⟩
    · rename_i b w q e
      have := (key h h2).1
      exact ⟨nestG_ok f hg (show (nestG fr gf g p).p by rw [e]; exact this), splitO_ok f hg h h1 h2⟩
theorem splitO_mono {g : Gd} : ∀ {q : Ob} {es es' : List Prop} {gs gs' : List GO}, splitO fr gf g q es gs = some (es', gs') → PAlls es' ∧ GAlls gs' → PAlls es ∧ GAlls gs
  | [], es, es', gs, gs', h, hh => by simp [splitO] at h; rw [h.1, h.2]; exact hh
  | .e p :: r, es, es', gs, gs', h, hh => by
    simp only [splitO] at h
    exact ⟨(splitO_mono h hh).1.2, (splitO_mono h hh).2⟩
  | .o p :: r, es, es', gs, gs', h, hh => by
    simp only [splitO] at h
    split at h <;> exact ⟨(splitO_mono h hh).1, (splitO_mono h hh).2.2⟩
end
end Go.Proofs.Ytiilpopeognekaa
