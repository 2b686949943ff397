
/-
  Data as trees: how a datum lies in memory, to be read and to be owned; what a register holds. No program in sight.
-/
import Derived.Test.YtiegllklalplnaaGreatH
namespace Go.Proofs.YtiegllklalplnaaGreat
open Go Go.RowKit
set_option linter.unusedVariables false
set_option linter.unusedSimpArgs false

def maxL : Nat := 9223372036854775807
/-- closed data: a value of one cell that leads nowhere, or a slice with its elements' cells -/
inductive D where
  | v (x : Value)
  | sl (sz n : Nat) (f : Nat → List D)
  | pt (l : List D) (o : Nat)
/-- parts that lie in h, apart from each other and from len cells at ⟨b, o⟩ -/
def Parts (h : PH) (b o len : Nat) (H : Nat → PH) : Prop := (∀ i, (H i).le h) ∧ (∀ i j, i ≠ j → (H i).dj (H j)) ∧ ∀ i x, o ≤ x → x < o + len → H i b x = none
mutual
def D.rd (h : PH) : D → Value → Prop
  | .v x, y => y = x
  | .sl sz n f, y => ∃ A c, y = .slice A n c ∧ n ≤ c ∧ n ≤ maxL ∧ (n = 0 ∨ ∃ b o, A = some ⟨b, o, none⟩ ∧ ∀ i, i < n → ∃ row, D.rds h (f i) row ∧ row.length = sz ∧ ∀ j, j < sz → h b (o + i * sz + j) = row[j]?)
  | .pt l o, y => ∃ b x vs, y = .pointer (some ⟨b, x + o, none⟩) ∧ D.rds h l vs ∧ ∀ j, j < vs.length → h b (x + j) = vs[j]?
def D.rds (h : PH) : List D → List Value → Prop
  | [], ys => ys = []
  | x :: r, ys => ∃ y t, ys = y :: t ∧ D.rd h x y ∧ D.rds h r t
end
mutual
def D.own (h : PH) : D → Value → Prop
  | .v x, y => y = x
  | .sl sz n f, y => ∃ A c, y = .slice A n c ∧ n ≤ c ∧ n ≤ maxL ∧ (c = 0 ∨ ∃ (b o : Nat) (row : Nat → List Value) (H : Nat → PH), A = some ⟨b, o, none⟩ ∧
      (∀ i, i < n → D.owns (H i) (f i) (row i) ∧ (row i).length = sz ∧ ∀ j, j < sz → h b (o + i * sz + j) = (row i)[j]?) ∧
      (∀ i, n ≤ i → i < c → ∀ j, j < sz → h b (o + i * sz + j) ≠ none) ∧ Parts h b o (c * sz) H)
  | .pt _ _, _ => False
def D.owns (h : PH) : List D → List Value → Prop
  | [], ys => ys = []
  | x :: r, ys => ∃ y t h1 h2, ys = y :: t ∧ h1.le h ∧ h2.le h ∧ h1.dj h2 ∧ D.own h1 x y ∧ D.owns h2 r t
end
theorem Parts.mono {h k : PH} {b o len : Nat} {H : Nat → PH} (p : Parts h b o len H) (l : h.le k) : Parts k b o len H := ⟨fun i => PH.le_trans (p.1 i) l, p.2⟩
theorem le_cell {h k : PH} (l : h.le k) {b o j sz : Nat} {row : List Value} (hl : row.length = sz) (hj : j < sz) (e : h b o = row[j]?) : k b o = row[j]? := by
  rw [List.getElem?_eq_getElem (by omega)] at e ⊢
  exact l _ _ _ e
theorem le_ne {h k : PH} (l : h.le k) {b o : Nat} (e : h b o ≠ none) : k b o ≠ none := by
  cases hx : h b o with
  | none => exact absurd hx e
  | some u => rw [l _ _ _ hx]; simp
mutual
theorem D.rd_mono {h k : PH} (l : h.le k) : ∀ (x : D) {y : Value}, D.rd h x y → D.rd k x y
  | .v x, y, e => e
  | .sl sz n f, y, e => by
    obtain ⟨A, c, e1, e2, e3, e4⟩ := e
    refine ⟨A, c, e1, e2, e3, e4.imp id fun ⟨b, o, e5, e6⟩ => ⟨b, o, e5, fun i hi => ?_⟩⟩
    obtain ⟨row, r1, r2, r3⟩ := e6 i hi
    exact ⟨row, D.rds_mono l (f i) r1, r2, fun j hj => le_cell l r2 hj (r3 j hj)⟩
  | .pt m o, y, e => by
    obtain ⟨b, x, vs, e1, e2, e3⟩ := e
    exact ⟨b, x, vs, e1, D.rds_mono l m e2, fun j hj => le_cell l rfl hj (e3 j hj)⟩
theorem D.rds_mono {h k : PH} (l : h.le k) : ∀ (x : List D) {y : List Value}, D.rds h x y → D.rds k x y
  | [], y, e => e
  | x :: r, y, e => by
    obtain ⟨a, t, e1, e2, e3⟩ := e
    exact ⟨a, t, e1, D.rd_mono l x e2, D.rds_mono l r e3⟩
end
mutual
theorem D.own_mono {h k : PH} (l : h.le k) : ∀ (x : D) {y : Value}, D.own h x y → D.own k x y
  | .v x, y, e => e
  | .sl sz n f, y, e => by
    obtain ⟨A, c, e1, e2, e3, e4⟩ := e
    refine ⟨A, c, e1, e2, e3, e4.imp id fun ⟨b, o, row, H, e5, e6, e7, e8⟩ => ⟨b, o, row, H, e5, fun i hi => ?_, fun i hi hi2 j hj => le_ne l (e7 i hi hi2 j hj), e8.mono l⟩⟩
    obtain ⟨r1, r2, r3⟩ := e6 i hi
    exact ⟨r1, r2, fun j hj => le_cell l r2 hj (r3 j hj)⟩
  | .pt m o, y, e => e.elim
theorem D.owns_mono {h k : PH} (l : h.le k) : ∀ (x : List D) {y : List Value}, D.owns h x y → D.owns k x y
  | [], y, e => e
  | x :: r, y, e => by
    obtain ⟨a, t, h1, h2, e1, e2, e3, e4, e5, e6⟩ := e
    exact ⟨a, t, h1, h2, e1, PH.le_trans e2 l, PH.le_trans e3 l, e4, e5, e6⟩
end
mutual
theorem D.own_rd {h : PH} : ∀ (x : D) {y : Value}, D.own h x y → D.rd h x y
  | .v x, y, e => e
  | .sl sz n f, y, e => by
    obtain ⟨A, c, e1, e2, e3, e4⟩ := e
    refine ⟨A, c, e1, e2, e3, ?_⟩
    rcases e4 with rfl | ⟨b, o, row, H, e5, e6, e7, e8⟩
    · exact .inl (by omega)
    · refine .inr ⟨b, o, e5, fun i hi => ?_⟩
      obtain ⟨r1, r2, r3⟩ := e6 i hi
      exact ⟨row i, D.rds_mono (e8.1 i) (f i) (D.owns_rds (f i) r1), r2, r3⟩
  | .pt m o, y, e => e.elim
theorem D.owns_rds {h : PH} : ∀ (x : List D) {y : List Value}, D.owns h x y → D.rds h x y
  | [], y, e => e
  | x :: r, y, e => by
    obtain ⟨a, t, h1, h2, e1, e2, e3, e4, e5, e6⟩ := e
    exact ⟨a, t, e1, D.rd_mono e2 x (D.own_rd x e5), D.rds_mono e3 r (D.owns_rds r e6)⟩
end
theorem D.rds_length {h : PH} : ∀ {x : List D} {y : List Value}, D.rds h x y → y.length = x.length
  | [], y, e => by have e : y = [] := e; rw [e]; rfl
  | x :: r, y, e => by
    obtain ⟨a, t, e1, e2, e3⟩ := e
    rw [e1, List.length_cons, List.length_cons, D.rds_length e3]
theorem D.owns_length {h : PH} {x : List D} {y : List Value} (e : D.owns h x y) : y.length = x.length := D.rds_length (D.owns_rds x e)

/-! ### What a register or a cell holds -/
/-- where a slice lies: with its holder; in what is only read; in chunk k -/
inductive Tg where
  | o | r
  | k (n : Nat)
inductive V where
  | v (x : Value)
  | s (q : Tg) (sz n : Nat) (f : Nat → List D)
  | g (k : Nat)
  | p (k o : Nat)
  | pe (k sz : Nat) (i : Int) (o : Nat)
  | sb (k sz : Nat) (lo hi : Int)
  | gl (k n : Nat)
  | rp (q : Tg) (l : List D) (o : Nat)
  | any
abbrev BE := Nat → Value
/-- may it lie in one cell? -/
def oneV : Value → Bool
  | .agg _ => false
  | .tuple _ => false
  | _ => true
def addP : Value → Nat → Value
  | .pointer (some a), o => .pointer (some (a.add o))
  | x, _ => x
def elP (x : Value) (sz : Nat) (i : Int) (o : Nat) : Value := match x with
  | .slice A _ _ => .pointer (some (((A.getD ⟨0, 0, none⟩).add (i.toNat * sz)).add o))
  | x => x
def sbV (x : Value) (sz lo n : Nat) : Value := match x with
  | .slice A _ c => .slice (if c = lo then A else A.map (·.add (lo * sz))) n (c - lo)
  | x => x
def D.toV (q : Tg) : D → V
  | .v x => .v x
  | .sl sz n f => .s q sz n f
  | .pt l o => .rp q l o
/-- where the readable lies -/
def Zf (r : PH) (H : Nat → PH) : Tg → PH
  | .k n => H n
  | _ => r
def V.rel (B : BE) (Z : Tg → PH) : V → Value → Prop
  | .v x, y => y = x
  | .s q sz n f, y => D.rd (Z q) (.sl sz n f) y
  | .g k, y => y = B k ∧ oneV y = true
  | .p k o, y => y = addP (B k) o ∧ oneV y = true
  | .pe k sz i o, y => y = elP (B k) sz i o ∧ oneV y = true
  | .sb k sz lo hi, y => y = sbV (B k) sz lo.toNat (hi - lo).toNat ∧ oneV y = true
  | .gl k n, y => y = B k ∧ oneV y = true ∧ ∃ A c, y = .slice A n c
  | .rp q l o, y => ∃ b x vs, y = .pointer (some ⟨b, x + o, none⟩) ∧ D.rds (Z q) l vs ∧ ∀ j, j < vs.length → Z q b (x + j) = vs[j]?
  | .any, _ => True
def V.rels (B : BE) (Z : Tg → PH) : List V → List Value → Prop
  | [], ys => ys = []
  | x :: r, ys => ∃ y t, ys = y :: t ∧ x.rel B Z y ∧ V.rels B Z r t
/-- what a cell of an owned row holds -/
def V.own (B : BE) (r h : PH) : V → Value → Prop
  | .v x, y => y = x
  | .s q sz n f, y => (q = .o ∧ D.own h (.sl sz n f) y) ∨ (q = .r ∧ D.rd r (.sl sz n f) y)
  | .g k, y => y = B k ∧ oneV y = true
  | .p k o, y => y = addP (B k) o ∧ oneV y = true
  | .pe k sz i o, y => y = elP (B k) sz i o ∧ oneV y = true
  | .sb k sz lo hi, y => y = sbV (B k) sz lo.toNat (hi - lo).toNat ∧ oneV y = true
  | .gl k n, y => y = B k ∧ oneV y = true ∧ ∃ A c, y = .slice A n c
  | .rp q l o, y => q = .r ∧ D.rd r (.pt l o) y
  | .any, _ => True
def V.owns (B : BE) (r h : PH) : List V → List Value → Prop
  | [], ys => ys = []
  | x :: l, ys => ∃ y t h1 h2, ys = y :: t ∧ h1.le h ∧ h2.le h ∧ h1.dj h2 ∧ x.own B r h1 y ∧ V.owns B r h2 l t

theorem V.rel_mono {B : BE} {Z Z' : Tg → PH} (l : ∀ q, (Z q).le (Z' q)) : ∀ {x : V} {y : Value}, x.rel B Z y → x.rel B Z' y
  | .v _, _, e => e
  | .s q sz n f, _, e => D.rd_mono (l q) (.sl sz n f) e
  | .g _, _, e => e
  | .p _ _, _, e => e
  | .pe _ _ _ _, _, e => e
  | .sb _ _ _ _, _, e => e
  | .gl _ _, _, e => e
  | .rp q m o, y, e => by
    obtain ⟨b, x, vs, e1, e2, e3⟩ := e
    exact ⟨b, x, vs, e1, D.rds_mono (l q) m e2, fun j hj => le_cell (l q) rfl hj (e3 j hj)⟩
  | .any, _, _ => trivial
theorem V.rels_mono {B : BE} {Z Z' : Tg → PH} (l : ∀ q, (Z q).le (Z' q)) : ∀ {x : List V} {y : List Value}, V.rels B Z x y → V.rels B Z' x y
  | [], _, e => e
  | x :: r, _, e => by
    obtain ⟨a, t, e1, e2, e3⟩ := e
    exact ⟨a, t, e1, V.rel_mono l e2, V.rels_mono l e3⟩
theorem V.own_mono {B : BE} {r r' h h' : PH} (lr : r.le r') (l : h.le h') : ∀ {x : V} {y : Value}, x.own B r h y → x.own B r' h' y
  | .v _, _, e => e
  | .s q sz n f, _, e => by
    rcases e with ⟨e1, e2⟩ | ⟨e1, e2⟩
    · exact .inl ⟨e1, D.own_mono l (.sl sz n f) e2⟩
    · exact .inr ⟨e1, D.rd_mono lr (.sl sz n f) e2⟩
  | .g _, _, e => e
  | .p _ _, _, e => e
  | .pe _ _ _ _, _, e => e
  | .sb _ _ _ _, _, e => e
  | .gl _ _, _, e => e
  | .rp q m o, _, e => ⟨e.1, D.rd_mono lr (.pt m o) e.2⟩
  | .any, _, _ => trivial
theorem V.owns_mono {B : BE} {r r' : PH} (lr : r.le r') : ∀ {x : List V} {y : List Value} {h h' : PH}, h.le h' → V.owns B r h x y → V.owns B r' h' x y
  | [], _, _, _, _, e => e
  | x :: m, _, _, _, l, e => by
    obtain ⟨a, t, h1, h2, e1, e2, e3, e4, e5, e6⟩ := e
    exact ⟨a, t, h1, h2, e1, PH.le_trans e2 l, PH.le_trans e3 l, e4, V.own_mono lr (PH.le_refl _) e5, V.owns_mono lr (PH.le_refl _) e6⟩
theorem V.rels_length {B : BE} {Z : Tg → PH} : ∀ {x : List V} {y : List Value}, V.rels B Z x y → y.length = x.length
  | [], y, e => by have e : y = [] := e; rw [e]; rfl
  | x :: r, y, e => by
    obtain ⟨a, t, e1, e2, e3⟩ := e
    rw [e1, List.length_cons, List.length_cons, V.rels_length e3]
theorem V.owns_length {B : BE} {r : PH} : ∀ {x : List V} {y : List Value} {h : PH}, V.owns B r h x y → y.length = x.length
  | [], y, _, e => by have e : y = [] := e; rw [e]; rfl
  | x :: l, y, _, e => by
    obtain ⟨a, t, h1, h2, e1, _, _, _, _, e6⟩ := e
    rw [e1, List.length_cons, List.length_cons, V.owns_length e6]
theorem V.rels_get {B : BE} {Z : Tg → PH} : ∀ {x : List V} {y : List Value}, V.rels B Z x y → ∀ {j : Nat} {u : V}, x[j]? = some u → ∃ t, y[j]? = some t ∧ u.rel B Z t
  | [], _, _, j, u, h => by simp at h
  | x :: r, y, e, j, u, h => by
    obtain ⟨a, t, rfl, e2, e3⟩ := e
    cases j with
    | zero => simp at h; subst h; exact ⟨a, rfl, e2⟩
    | succ j => simp at h; simpa using V.rels_get e3 h
theorem V.rels_of {B : BE} {Z : Tg → PH} : ∀ {x : List V} {y : List Value}, y.length = x.length → (∀ (j : Nat) (u : V) (t : Value), x[j]? = some u → y[j]? = some t → u.rel B Z t) → V.rels B Z x y
  | [], y, h, _ => List.length_eq_zero_iff.1 h
  | x :: r, [], h, _ => by simp at h
  | x :: r, a :: t, h, k => ⟨a, t, rfl, k 0 x a rfl rfl, V.rels_of (by simpa using h) fun j u v h1 h2 => k (j + 1) u v (by simpa using h1) (by simpa using h2)⟩
theorem V.rels_append {B : BE} {Z : Tg → PH} : ∀ {x x' : List V} {y y' : List Value}, V.rels B Z x y → V.rels B Z x' y' → V.rels B Z (x ++ x') (y ++ y')
  | [], _, _, _, e, k => by have e : _ = [] := e; subst e; exact k
  | x :: r, _, _, _, e, k => by
    obtain ⟨a, t, rfl, e2, e3⟩ := e
    exact ⟨a, t ++ _, rfl, e2, V.rels_append e3 k⟩
/-- an owned cell as it is read: tag q for what it owns -/
def V.tag (q : Tg) : V → V
  | .s .o sz n f => .s q sz n f
  | x => x
def V.noAny : V → Bool
  | .any => false
  | .rp _ _ _ => false
  | _ => true
theorem V.own_rel {B : BE} {r : PH} {Z : Tg → PH} {q : Tg} {h : PH} (h0 : r.le (Z .r)) (hq : h.le (Z q)) : ∀ {x : V} {y : Value}, x.own B r h y → (x.tag q).rel B Z y
  | .v _, _, e => e
  | .s .o sz n f, _, e => by
    rcases e with ⟨_, e2⟩ | ⟨e1, _⟩
    · exact D.rd_mono hq (.sl sz n f) (D.own_rd (.sl sz n f) e2)
    · cases e1
  | .s .r sz n f, _, e => by
    rcases e with ⟨e1, _⟩ | ⟨e1, e2⟩
    · cases e1
    · exact D.rd_mono h0 (.sl sz n f) e2
  | .s (.k j) sz n f, _, e => by
    rcases e with ⟨e1, _⟩ | ⟨e1, _⟩ <;> cases e1
  | .g _, _, e => e
  | .p _ _, _, e => e
  | .pe _ _ _ _, _, e => e
  | .sb _ _ _ _, _, e => e
  | .gl _ _, _, e => e
  | .rp q m o, _, e => by
    obtain ⟨rfl, e⟩ := e
    exact D.rd_mono h0 (.pt m o) e
  | .any, _, _ => trivial
theorem V.owns_get {B : BE} {r : PH} : ∀ {x : List V} {y : List Value} {h : PH}, V.owns B r h x y → ∀ {j : Nat} {u : V}, x[j]? = some u → ∃ t h', y[j]? = some t ∧ h'.le h ∧ u.own B r h' t
  | [], _, _, _, j, u, h => by simp at h
  | x :: l, y, h0, e, j, u, h => by
    obtain ⟨a, t, h1, h2, rfl, e2, e3, e4, e5, e6⟩ := e
    cases j with
    | zero => simp at h; subst h; exact ⟨a, h1, rfl, e2, e5⟩
    | succ j =>
      simp at h
      obtain ⟨t', h', g1, g2, g3⟩ := V.owns_get e6 h
      exact ⟨t', h', by simpa using g1, PH.le_trans g2 e3, g3⟩
theorem D.rd_toV {B : BE} {Z : Tg → PH} {q : Tg} : ∀ {x : D} {y : Value}, D.rd (Z q) x y → (x.toV q).rel B Z y
  | .v _, _, e => e
  | .sl _ _ _, _, e => e
  | .pt _ _, _, e => e
theorem D.rds_toV {B : BE} {Z : Tg → PH} {q : Tg} : ∀ {x : List D} {y : List Value}, D.rds (Z q) x y → V.rels B Z (x.map (D.toV q)) y
  | [], _, e => e
  | x :: r, y, e => by
    obtain ⟨a, t, rfl, e2, e3⟩ := e
    exact ⟨a, t, rfl, D.rd_toV e2, D.rds_toV e3⟩
theorem D.owns_toV {B : BE} {r : PH} : ∀ {x : List D} {y : List Value} {h : PH}, D.owns h x y → V.owns B r h (x.map (D.toV .o)) y
  | [], _, _, e => e
  | .v x :: l, y, _, e => by
    obtain ⟨a, t, h1, h2, e1, e2, e3, e4, e5, e6⟩ := e
    exact ⟨a, t, h1, h2, e1, e2, e3, e4, e5, D.owns_toV e6⟩
  | .sl sz n f :: l, y, _, e => by
    obtain ⟨a, t, h1, h2, e1, e2, e3, e4, e5, e6⟩ := e
    exact ⟨a, t, h1, h2, e1, e2, e3, e4, .inl ⟨rfl, e5⟩, D.owns_toV e6⟩
  | .pt m o :: l, y, _, e => by
    obtain ⟨a, t, h1, h2, e1, e2, e3, e4, e5, e6⟩ := e
    exact e5.elim

/-! ### Registers -/
/-- closed data in a register -/
inductive RD where
  | a (x : D)
  | ag (l : List D)
def RD.rel (h : PH) : RD → Value → Prop
  | .a x, y => D.rd h x y
  | .ag l, y => ∃ vs, y = .agg vs.toArray ∧ D.rds h l vs
def RD.rels (h : PH) : List RD → List Value → Prop
  | [], ys => ys = []
  | x :: r, ys => ∃ y t, ys = y :: t ∧ x.rel h y ∧ RD.rels h r t
inductive SV where
  | a (x : V)
  | ag (l : List V)
  | fn (f : Nat) (l : List V)
  | fb (φ : List RD → Value → Prop)
  | tu (l : List SV)
  | un
/-- a function value that answers so, wherever r lies as it lies -/
def FB (P : Program) (r : PH) (f : Nat) (caps : List Value) (φ : List RD → Value → Prop) : Prop :=
  (∀ args w, (callFunc f args).run P w = .ok (.enter f args) w) ∧ ∀ args x, φ args x → ∀ (w : World) (h : PH) (vals : List Value), r.le h → Fit h w → RD.rels h args vals → Calls P f (vals ++ caps).toArray w fun e w' => e = .returned x ∧ Below w.heap.size w w'
mutual
def SV.rel (P : Program) (B : BE) (Z : Tg → PH) : SV → Value → Prop
  | .a x, y => x.rel B Z y
  | .ag l, y => ∃ vs, y = .agg vs.toArray ∧ V.rels B Z l vs
  | .fn f l, y => ∃ vs, y = .func (.func f) #[] vs.toArray ∧ V.rels B Z l vs
  | .fb φ, y => ∃ f vs, y = .func (.func f) #[] vs.toArray ∧ FB P (Z .r) f vs φ
  | .tu l, y => ∃ vs, y = .tuple vs.toArray ∧ SV.rels P B Z l vs
  | .un, y => y = undef
def SV.rels (P : Program) (B : BE) (Z : Tg → PH) : List SV → List Value → Prop
  | [], ys => ys = []
  | x :: r, ys => ∃ y t, ys = y :: t ∧ SV.rel P B Z x y ∧ SV.rels P B Z r t
end
theorem FB.mono {P : Program} {r r' : PH} {f : Nat} {caps : List Value} {φ : List RD → Value → Prop} (h : FB P r f caps φ) (l : r.le r') : FB P r' f caps φ :=
  ⟨h.1, fun args x e w k vals l' => h.2 args x e w k vals (PH.le_trans l l')⟩
mutual
theorem SV.rel_mono {P : Program} {B : BE} {Z Z' : Tg → PH} (l : ∀ q, (Z q).le (Z' q)) : ∀ (x : SV) {y : Value}, SV.rel P B Z x y → SV.rel P B Z' x y
  | .a x, _, e => V.rel_mono l e
  | .ag m, _, e => by obtain ⟨vs, e1, e2⟩ := e; exact ⟨vs, e1, V.rels_mono l e2⟩
  | .fn f m, _, e => by obtain ⟨vs, e1, e2⟩ := e; exact ⟨vs, e1, V.rels_mono l e2⟩
  | .fb φ, _, e => by obtain ⟨f, vs, e1, e2⟩ := e; exact ⟨f, vs, e1, e2.mono (l .r)⟩
  | .tu m, _, e => by obtain ⟨vs, e1, e2⟩ := e; exact ⟨vs, e1, SV.rels_mono l m e2⟩
  | .un, _, e => e
theorem SV.rels_mono {P : Program} {B : BE} {Z Z' : Tg → PH} (l : ∀ q, (Z q).le (Z' q)) : ∀ (x : List SV) {y : List Value}, SV.rels P B Z x y → SV.rels P B Z' x y
  | [], _, e => e
  | x :: r, _, e => by
    obtain ⟨a, t, e1, e2, e3⟩ := e
    exact ⟨a, t, e1, SV.rel_mono l x e2, SV.rels_mono l r e3⟩
end
theorem SV.rels_length {P : Program} {B : BE} {Z : Tg → PH} : ∀ {x : List SV} {y : List Value}, SV.rels P B Z x y → y.length = x.length
  | [], y, e => by have e : y = [] := e; rw [e]; rfl
  | x :: r, y, e => by
    obtain ⟨a, t, e1, e2, e3⟩ := e
    rw [e1, List.length_cons, List.length_cons, SV.rels_length e3]
theorem SV.rels_get {P : Program} {B : BE} {Z : Tg → PH} : ∀ {x : List SV} {y : List Value}, SV.rels P B Z x y → ∀ {j : Nat} {u : SV}, x[j]? = some u → ∃ t, y[j]? = some t ∧ u.rel P B Z t
  | [], _, _, j, u, h => by simp at h
  | x :: r, y, e, j, u, h => by
    obtain ⟨a, t, rfl, e2, e3⟩ := e
    cases j with
    | zero => simp at h; subst h; exact ⟨a, rfl, e2⟩
    | succ j => simp at h; simpa using SV.rels_get e3 h
end Go.Proofs.YtiegllklalplnaaGreat
