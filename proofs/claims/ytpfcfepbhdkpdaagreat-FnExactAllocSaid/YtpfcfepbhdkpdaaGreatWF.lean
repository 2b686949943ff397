
/-
  A slice against nil; append of what is read; make; literals.
  The same operations, and on.
  Regions that draw their order.
-/
import Derived.Test.YtpfcfepbhdkpdaaGreatWE
namespace Go.Proofs.YtpfcfepbhdkpdaaGreat
open Go Go.RowKit
set_option linter.unusedVariables false
set_option linter.unusedSimpArgs false

section
/-- the cells of a literal's parts, laid over zeros -/
def bsV (sz : Nat) : List (Nat × SV) → List V → Option (List V)
  | [], l => some l
  | (i, x) :: r, l => match x.cells with
    | some vs => bif lenEq vs sz then match paste l (i * sz) vs with
        | some l' => bsV sz r l'
        | none => none
      else none
    | none => none
/-- cells that an array takes for its own: values, and arrays that are owned -/
def absL (mu : Mu) : List V → Option (List D × List Nat)
  | [] => some ([], [])
  | .v x :: r => match absL mu r with
    | some (l, ks) => bif oneV x then some (.v x :: l, ks) else none
    | none => none
  | .g k :: r => match mlk k mu, absL mu r with
    | some (.arr sz n f), some (l, ks) => bif hasK k ks then none else some (.sl sz n f :: l, k :: ks)
    | _, _ => none
  | _ :: _ => none
def unK (H : Nat → PH) : List Nat → PH
  | [] => PH.emp
  | k :: r => (H k).un (unK H r)
theorem unK_dj {H : Nat → PH} (d : ∀ j k, j ≠ k → (H j).dj (H k)) {k : Nat} : ∀ {ks : List Nat}, hasK k ks = false → (H k).dj (unK H ks)
  | [], _ => PH.dj_emp _
  | j :: r, h => by
    simp only [hasK] at h
    cases c : Nat.beq j k with
    | true => rw [c] at h; cases h
    | false =>
      rw [c] at h
      exact PH.dj_un (d k j (fun e => by rw [e, Nat.beq_refl] at c; cases c)) (unK_dj d h)
theorem unK_fit {H : Nat → PH} {w : World} (f : ∀ k, FitO (H k) w) : ∀ ks : List Nat, FitO (unK H ks) w
  | [] => FitO.emp w
  | k :: r => (f k).un (unK_fit f r)
theorem unK_ne {H : Nat → PH} {b o : Nat} : ∀ {ks : List Nat}, unK H ks b o ≠ none → ∃ k, hasK k ks = true ∧ H k b o ≠ none
  | [], h => absurd rfl h
  | k :: r, h => by
    rcases PH.un_ne h with h | h
    · exact ⟨k, by simp [hasK, Nat.beq_refl], h⟩
    · obtain ⟨j, j1, j2⟩ := unK_ne h
      exact ⟨j, by simp only [hasK, j1]; cases Nat.beq k j <;> rfl, j2⟩
theorem absL_ok {B : BE} {r : PH} {mu : Mu} {w : World} {H : Nat → PH} (m : Mm B r mu w H) {Z : Tg → PH} : ∀ {l : List V} {ds : List D} {ks : List Nat}, absL mu l = some (ds, ks) → ∀ {vs : List Value}, V.rels B Z l vs → D.owns (unK H ks) ds vs
  | [], ds, ks, h, vs, e => by simp [absL] at h; obtain ⟨rfl, rfl⟩ := h; exact e
  | x :: l, ds, ks, h, vs, e => by
    obtain ⟨v, t, rfl, e2, e3⟩ := e
    cases x with
    | v x =>
      simp only [absL] at h
      split at h
      · rename_i l' ks' c
        cases c2 : oneV x with
        | false => rw [c2] at h; cases h
        | true =>
          rw [c2] at h; simp at h; obtain ⟨rfl, rfl⟩ := h
          exact ⟨v, t, PH.emp, _, rfl, PH.emp_le _, PH.le_refl _, PH.emp_dj _, e2, absL_ok m c e3⟩
      · cases h
    | g k =>
      simp only [absL] at h
      split at h
      · rename_i sz n f l' ks' c1 c
        cases c2 : hasK k ks' with
        | true => rw [c2] at h; cases h
        | false =>
          rw [c2] at h; simp at h; obtain ⟨rfl, rfl⟩ := h
          have d := unK_dj m.dj c2
          have e2 : v = B k := e2.1
          refine ⟨v, t, H k, unK H ks', rfl, PH.le_un_left _ _, PH.le_un_right d, d, ?_, absL_ok m c e3⟩
          rw [e2]; exact m.sat k _ c1
      · cases h
    | _ => simp [absL] at h
theorem absL_one {B : BE} {mu : Mu} {Z : Tg → PH} : ∀ {l : List V} {ds : List D} {ks : List Nat}, absL mu l = some (ds, ks) → ∀ {vs : List Value}, V.rels B Z l vs → ∀ v ∈ vs, oneV v = true
  | [], ds, ks, h, vs, e, v, hv => by have e : vs = [] := e; rw [e] at hv; cases hv
  | x :: l, ds, ks, h, vs, e, u, hu => by
    obtain ⟨v, t, rfl, e2, e3⟩ := e
    cases x with
    | v x =>
      simp only [absL] at h
      split at h
      · rename_i l' ks' c
        cases c2 : oneV x with
        | false => rw [c2] at h; cases h
        | true =>
          cases hu with
          | head => have e2 : u = x := e2; rw [e2]; exact c2
          | tail _ hu => exact absL_one c e3 u hu
      · cases h
    | g k =>
      simp only [absL] at h
      split at h
      · rename_i sz n f l' ks' c1 c
        cases hu with
        | head => exact e2.2
        | tail _ hu => exact absL_one c e3 u hu
      · cases h
    | _ => simp [absL] at h
theorem owns_split {h : PH} : ∀ {l m : List D} {vs : List Value}, D.owns h (l ++ m) vs → ∃ v1 v2 h1 h2, vs = v1 ++ v2 ∧ h1.le h ∧ h2.le h ∧ h1.dj h2 ∧ D.owns h1 l v1 ∧ D.owns h2 m v2
  | [], m, vs, e => ⟨[], vs, PH.emp, h, rfl, PH.emp_le _, PH.le_refl _, PH.emp_dj _, rfl, e⟩
  | x :: l, m, vs, e => by
    obtain ⟨a, t, g1, g2, rfl, e2, e3, e4, e5, e6⟩ := e
    obtain ⟨v1, v2, h1, h2, rfl, q1, q2, q3, q4, q5⟩ := owns_split e6
    exact ⟨a :: v1, v2, g1.un h1, h2, rfl, PH.un_le e2 (PH.le_trans q1 e3), PH.le_trans q2 e3, PH.un_dj (PH.dj_le e4 (PH.le_refl _) q2) q3, ⟨a, v1, g1, h1, rfl, PH.le_un_left _ _, PH.le_un_right (PH.dj_le e4 (PH.le_refl _) q1), PH.dj_le e4 (PH.le_refl _) q1, e5, q4⟩, q5⟩
theorem owns_rows (sz : Nat) : ∀ (n : Nat) {h : PH} {F : List D} {vs : List Value}, D.owns h F vs → F.length = n * sz → ∃ G : Nat → PH, (∀ i, (G i).le h) ∧ (∀ i j, i ≠ j → (G i).dj (G j)) ∧ ∀ i, i < n → D.owns (G i) ((F.drop (i * sz)).take sz) ((vs.drop (i * sz)).take sz)
  | 0, h, F, vs, e, hl => ⟨fun _ => PH.emp, fun _ => PH.emp_le _, fun _ _ _ => PH.emp_dj _, fun i hi => absurd hi (Nat.not_lt_zero _)⟩
  | n + 1, h, F, vs, e, hl => by
    rw [← List.take_append_drop sz F] at e
    obtain ⟨v1, v2, h1, h2, rfl, q1, q2, q3, q4, q5⟩ := owns_split e
    rw [Nat.add_mul, Nat.one_mul] at hl
    have l1 : v1.length = sz := by rw [D.owns_length q4, List.length_take]; omega
    obtain ⟨G, g1, g2, g3⟩ := owns_rows sz n q5 (by rw [List.length_drop]; omega)
    refine ⟨fun i => match i with | 0 => h1 | i + 1 => G i, fun i => ?_, fun i j hij => ?_, fun i hi => ?_⟩
    · cases i with
      | zero => exact q1
      | succ i => exact PH.le_trans (g1 i) q2
    · cases i with
      | zero =>
        cases j with
        | zero => exact absurd rfl hij
        | succ j => exact PH.dj_le q3 (PH.le_refl _) (g1 j)
      | succ i =>
        cases j with
        | zero => exact PH.dj_symm (PH.dj_le q3 (PH.le_refl _) (g1 i))
        | succ j => exact g2 i j (by omega)
    · cases i with
      | zero =>
        simp only [Nat.zero_mul, List.drop_zero]
        rw [← l1, List.take_left, l1]; exact q4
      | succ i =>
        have := g3 i (by omega)
        rw [List.drop_drop] at this
        have e2 : sz + i * sz = (i + 1) * sz := by rw [Nat.add_mul, Nat.one_mul]; omega
        have e3 : (v1 ++ v2).drop ((i + 1) * sz) = v2.drop (i * sz) := by rw [← e2, List.drop_append, List.drop_eq_nil_of_le (by omega), List.nil_append]; congr 1; omega
        rw [e2] at this
        show D.owns (G i) _ (((v1 ++ v2).drop ((i + 1) * sz)).take sz)
        rw [e3]; exact this
theorem fill_bsV {P : Program} {B : BE} {Z : Tg → PH} {sz : Nat} : ∀ {ps : List (Nat × SV)} {qs : List (Nat × Value)} {l m : List V} {vs : List Value}, (qs.map (·.1) = ps.map (·.1)) → SV.rels P B Z (ps.map (·.2)) (qs.map (·.2)) → V.rels B Z l vs → bsV sz ps l = some m → ∃ ms, Instr.fill (fun i => some (i * sz, sz)) vs.toArray qs = some ms.toArray ∧ V.rels B Z m ms
  | [], qs, l, m, vs, hq, _, hl, h => by
    have : qs = [] := by simpa using hq
    subst this
    simp [bsV] at h; subst h; exact ⟨vs, rfl, hl⟩
  | (i, x) :: r, [], l, m, vs, hq, hr, hl, h => by simp at hq
  | (i, x) :: r, (i', y) :: qs, l, m, vs, hq, hr, hl, h => by
    simp only [List.map_cons, List.cons.injEq] at hq
    obtain ⟨rfl, hq⟩ := hq
    obtain ⟨y', t', e0, hx, hr⟩ := hr
    simp only [List.map_cons, List.cons.injEq] at e0
    obtain ⟨rfl, rfl⟩ := e0
    simp only [bsV] at h
    split at h
    · rename_i cs e2
      cases e4 : lenEq cs sz with
      | false => rw [e4] at h; cases h
      | true =>
        rw [e4] at h
        simp only [cond_true] at h
        split at h
        · rename_i l' e5
          have hc := cells_rel e2 hx
          have hlen := lenEq_spec _ _ e4
          have hsz : y.cells.size = sz := by rw [← Array.length_toList, V.rels_length hc]; exact hlen
          obtain ⟨ms, g1, g2⟩ := paste_rels hl hc e5
          obtain ⟨p1, p2, _, _⟩ := paste_spec _ _ _ _ g1
          have hA : y.cells = y.cells.toList.toArray := by simp
          simp only [Instr.fill]
          rw [if_neg (by
            simp only [hsz, ne_eq, not_true_eq_false, decide_false, Bool.false_or, decide_eq_true_eq, List.size_toArray]
            have h9 : y.cells.toList.length = sz := by rw [Array.length_toList]; exact hsz
            omega)]
          rw [hA, paste_fold g1]
          exact fill_bsV hq hr g2 h
        · cases h
    · cases h
theorem bsV_length {sz : Nat} : ∀ {ps : List (Nat × SV)} {l m : List V}, bsV sz ps l = some m → m.length = l.length
  | [], l, m, h => by simp [bsV] at h; rw [h]
  | (i, x) :: r, l, m, h => by
    simp only [bsV] at h
    split at h
    · rename_i cs e2
      cases e4 : lenEq cs sz with
      | false => rw [e4] at h; cases h
      | true =>
        rw [e4] at h
        simp only [cond_true] at h
        split at h
        · rename_i l' e5
          obtain ⟨p1, p2, _, _⟩ := paste_spec _ _ _ _ e5
          rw [bsV_length h, p1]
        · cases h
    · cases h
theorem absL_length {mu : Mu} : ∀ {l : List V} {ds : List D} {ks : List Nat}, absL mu l = some (ds, ks) → ds.length = l.length
  | [], ds, ks, h => by simp [absL] at h; rw [h.1]; rfl
  | x :: l, ds, ks, h => by
    cases x with
    | v x =>
      simp only [absL] at h
      split at h
      · rename_i l' ks' c
        cases c2 : oneV x with
        | false => rw [c2] at h; cases h
        | true => rw [c2] at h; simp at h; obtain ⟨rfl, rfl⟩ := h; simp [absL_length c]
      · cases h
    | g k =>
      simp only [absL] at h
      split at h
      · rename_i sz n f l' ks' c1 c
        cases c2 : hasK k ks' with
        | true => rw [c2] at h; cases h
        | false => rw [c2] at h; simp at h; obtain ⟨rfl, rfl⟩ := h; simp [absL_length c]
      · cases h
    | _ => simp [absL] at h
theorem zerosV_length (zs : List Value) : ∀ n, (zerosV zs n).length = n * zs.length
  | 0 => by simp [zerosV]
  | n + 1 => by rw [zerosV, List.length_append, List.length_map, zerosV_length zs n, Nat.add_mul, Nat.one_mul, Nat.add_comm]
def zeroL (zs : List Value) : Nat → List Value
  | 0 => []
  | n + 1 => zs ++ zeroL zs n
theorem zeroL_length (zs : List Value) : ∀ n, (zeroL zs n).length = n * zs.length
  | 0 => by simp [zeroL]
  | n + 1 => by rw [zeroL, List.length_append, zeroL_length zs n, Nat.add_mul, Nat.one_mul, Nat.add_comm]
theorem zeroL_get {zs : List Value} : ∀ {n i : Nat}, i < n * zs.length → (zeroL zs n)[i]? = zs[i % zs.length]?
  | 0, i, h => by omega
  | n + 1, i, h => by
    rw [zeroL]
    by_cases c : i < zs.length
    · rw [List.getElem?_append_left c, Nat.mod_eq_of_lt c]
    · rw [Nat.add_mul, Nat.one_mul] at h
      rw [List.getElem?_append_right (by omega), zeroL_get (by omega)]
      congr 1
      exact (Nat.mod_eq_sub_mod (by omega)).symm
theorem zerosV_rels {B : BE} {Z : Tg → PH} (zs : List Value) : ∀ n, V.rels B Z (zerosV zs n) (zeroL zs n)
  | 0 => rfl
  | n + 1 => V.rels_append (rels_v zs) (zerosV_rels zs n)
theorem fill_zero {zs : List Value} {n sz : Nat} (hz : zs.length = sz) (hpos : 0 < sz) : (Array.range (n * sz)).map ((if n * sz = 0 then (#[] : Array Value) else zs.toArray)[· % (if n * sz = 0 then (#[] : Array Value) else zs.toArray).size]!) = (zeroL zs n).toArray := by
  apply Array.ext_getElem?
  intro j
  rw [Array.getElem?_map]
  by_cases hj : j < n * sz
  · have hne : n * sz ≠ 0 := by omega
    rw [Array.getElem?_range, if_pos hj]
    simp only [hne, if_false, Option.map_some, List.getElem?_toArray]
    rw [zeroL_get (by rw [hz]; exact hj)]
    have hm : j % zs.length < zs.length := Nat.mod_lt _ (by omega)
    simp [hm]
  · rw [Array.getElem?_range, if_neg hj]
    simp only [Option.map_none, List.getElem?_toArray]
    rw [List.getElem?_eq_none (by rw [zeroL_length, hz]; omega)]
section
variable {E : Env} {B : BE} {mu mu' : Mu} {w : World} {H : Nat → PH} {TT : List TI} {fr fr' : Fr} {gf gf' : GF} {a : Act} {all rest : List Oper} {Q : Exit → Act → World → Prop} {o : Oper} {J : Act → World → Prop} {G : AG} {R : Exit → Act → World → Prop} {K : List KF}
theorem evParts_rel (f : FitsE E B H fr gf a) {g : Gd} (hg : ∀ d w, (d, w) ∈ g → a.tmps.getD d undef = .bool w) : ∀ {l : List (Nat × Operand)} {ps : List (Nat × SV)}, evParts g fr gf l = some ps → ((l.map fun p => (p.1, a.eval p.2)).map (·.1) = ps.map (·.1)) ∧ SV.rels E.P B (Zf E.r H) (ps.map (·.2)) ((l.map fun p => (p.1, a.eval p.2)).map (·.2))
  | [], ps, h => by simp [evParts] at h; subst h; exact ⟨rfl, rfl⟩
  | (i, x) :: l, ps, h => by
    simp only [evParts] at h
    split at h
    · rename_i y l' e1 e2
      injection h with h; subst h
      obtain ⟨h1, h2⟩ := evParts_rel f hg e2
      simp only [List.map_cons]
      exact ⟨by rw [h1], _, _, rfl, f.ev hg e1, h2⟩
    · cases h
/-- a slice against nil: it may be nil if it has no element -/
theorem OJ_nil (hT : TOk E.P TT) {t0 ty : Nat} {x y : Operand} {yt : TypeId} {op : BinOp} (ne : Bool) {sx : V} {q : Tg} {sz n : Nat} {f : Nat → List D} {ob : Ob} {n0 c0 : Nat} {id sz1 by1 e : Nat} {z : Value} {ef : Bool}
    (hop : o.op = .binOp op ty x y yt) (hx : ev [] fr gf x = some (.a sx)) (hy : ev [] fr gf y = some (.a (.v (.slice none n0 c0)))) (h1 : tlk ty TT = some ⟨id, sz1, by1, .slc e, z, ef⟩) (hs : slR mu sx = some (q, sz, n, f, ob)) (hgd : gdrop t0 gf = some gf')
    (k : ∀ b : Bool, (b = true → n = 0) → SJ G J E ((t0, .a (.v (.bool (bif ne then !b else b)))) :: fr) gf' mu) (hne : op = (bif ne then .neq else .eql) := by exact rfl) (hob : Alls ob := by repeat (first | exact trivial | refine And.intro rfl ?_)) (hg : o.guard = none := by exact rfl) (hd : o.dst = some t0 := by exact rfl) (ht : Nat.blt t0 E.N = true := by exact rfl) : OJ G E all Q J o fr gf mu := fun B a w H ff mm gg => by
  obtain ⟨t1, t2⟩ := hT.get h1
  obtain ⟨d, d1, d2⟩ := t2.desc
  simp only at t1 d1 d2
  subst t1
  obtain rfl := shapeK_slc d2
  have hr := slR_spec mm.mr.ms hs hob (show sx.rel B (Zf E.r H) (a.eval x) from ff.ev (g := []) (fun _ _ hm => by cases hm) hx)
  have ey : a.eval y = _ := ff.ev (g := []) (fun _ _ hm => by cases hm) hy
  obtain ⟨A, c, ex, e0⟩ := fit_slice hr
  refine one_val (wanted_none hg) (v := .bool (bif ne then !A.isNone else A.isNone)) (w' := w) ?_ ?_
  · obtain ⟨dst, op', type, pos, after, guard⟩ := o
    simp only at hop
    subst hop
    simp only [execOp, ex, ey]
    refine run_value ?_
    subst hne
    cases ne with
    | true =>
      show (do eqGuard .neq _ x y _ _; binOp .neq _ _ _ : Sem Value).run E.P w = _
      rw [Sem.run_bind, eqGuard_plain rfl, Result.andThen_ok]
      simp only [binOp, Sem.run_bind, equal_slice d1, Result.andThen_ok, Sem.run_pure, cond_true]
    | false =>
      show (do eqGuard .eql _ x y _ _; binOp .eql _ _ _ : Sem Value).run E.P w = _
      rw [Sem.run_bind, eqGuard_plain rfl, Result.andThen_ok]
      simp only [binOp, Sem.run_bind, equal_slice d1, Result.andThen_ok, Sem.run_pure, cond_false]
  · rw [hd]
    exact k A.isNone (fun h => by
      rcases Nat.eq_zero_or_pos n with h2 | h2
      · exact h2
      · rw [e0 h2] at h; cases h) B _ w H (Fits.put ff (by simpa [Nat.blt_eq] using ht) (show SV.rel _ _ _ (.a (.v _)) _ from rfl) hgd) mm gg
theorem Zf_fit (m : Mem E B mu w H) (q : Tg) : Fit (Zf E.r H q) w := by
  cases q with
  | k j => exact (m.mm.fit j).fit
  | _ => exact m.mm.fitr
def flatB (g : Nat → List D) (i : Nat) : List Value := (flatDs (g i)).getD []
/-- append: what is read, flat -/
theorem OJ_appC (hT : TOk E.P TT) (k k' : Nat) {t0 ts tx : Nat} {s x : Operand} {n m : Nat} {f g : Nat → List D} {id sz1 by1 e : Nat} {z : Value} {ef : Bool} {te ti2 : TI} {md : Mu} {fr' : Fr} {gf2 : GF} {vx : V} {q : Tg} {ob : Ob}
    (hop : o.op = .call { callee := .builtin .append, args := #[s, x], argTypes := #[ts, tx] }) (hs : (ev [] fr gf s).bind gK = some k) (hx : ev [] fr gf x = some (.a vx)) (h1 : tlk ts TT = some ⟨id, sz1, by1, .slc e, z, ef⟩) (h2 : tlk e TT = some te) (h3 : tlk tx TT = some ti2) (h4 : ti2.kind = .slc e) (hk : mlk k mu = some (.arr te.sz n f)) (hkx : slR mu vx = some (q, te.sz, m, g, ob)) (hgd : gdrop t0 gf = some gf')
    (hmd : mdropKs [k, k'] mu = some md) (hcut : cutKs [k] fr gf' = some (fr', gf2)) (hb : (n + m) * te.by_ ≤ 140737488355328 ∧ n + m ≤ maxL)
    (kk : SJ G J E ((t0, .a (.g k')) :: fr') gf2 ((k', .arr te.sz (n + m) (appD n f g)) :: md)) (hone : ∀ i, i < m → ∃ l, flatDs (g i) = some l := by exact fun _ _ => ⟨_, rfl⟩) (hz : (vcells te.zero).map (·.length) = some te.sz := by exact rfl) (hpos : 0 < te.sz := by exact Nat.lt_of_sub_eq_succ rfl) (hkeys : keysB [k] [k'] [(k, .arr te.sz n f)] fr gf mu E.A.ks G.ks = true := by exact rfl) (hne : hasK k' [k] = false := by exact rfl) (hob : Alls ob := by repeat (first | exact trivial | refine And.intro rfl ?_))
    (hg : o.guard = none := by exact rfl) (hd : o.dst = some t0 := by exact rfl) (ht : Nat.blt t0 E.N = true := by exact rfl) : OJ G E all Q J o fr gf mu := by
  refine OJ_B (ι := Unit) (ks := [k]) (nk := [k']) (mu1 := [(k, .arr te.sz n f)]) (φ := fun _ => True) (res := fun _ => .a (.g k')) (mu1' := fun _ => [(k', .arr te.sz (n + m) (appD n f g))]) (fun B a w H ff mm => ?_) hg hd ht hgd (fun _ => rfl) hkeys (fun _ => ?_) hmd hcut fun _ _ => kk
  · obtain ⟨d1, u2⟩ := slc_of hT h1 h2
    obtain ⟨v1, v2⟩ := hT.get h3
    obtain ⟨dx, dx1, dx2⟩ := v2.desc
    rw [h4] at dx2
    obtain rfl := shapeK_slc dx2
    rw [v1] at dx1
    have e1 : a.eval s = B k := gK_ev ff hs
    have sk : D.own (H k) (.sl te.sz n f) (B k) := mm.mm.sat k _ hk
    have hr := slR_spec mm.mr.ms hkx hob (show vx.rel B (Zf E.r H) (a.eval x) from ff.ev (g := []) (fun _ _ hm => by cases hm) hx)
    obtain ⟨A, c, ex, _, _, hcells⟩ := (show D.rd _ (.sl te.sz m g) _ from hr)
    have hrow : ∀ i, i < m → g i = (flatB g i).map D.v ∧ ∀ u ∈ flatB g i, oneV u = true := fun i hi => by
      obtain ⟨l, hl⟩ := hone i hi
      have := flatDs_ok hl
      unfold flatB
      rw [hl]; exact this
    have hlies : 0 < m → ∃ b o, A = some ⟨b, o, none⟩ ∧ ∀ i, i < m → (flatB g i).length = te.sz ∧ ∀ j, j < te.sz → Zf E.r H q b (o + i * te.sz + j) = (flatB g i)[j]? := fun h0 => by
      rcases hcells with h | ⟨b, o, rfl, hr⟩
      · omega
      · refine ⟨b, o, rfl, fun i hi => ?_⟩
        obtain ⟨row, r1, r2, r3⟩ := hr i hi
        rw [(hrow i hi).1] at r1
        rw [flat_rds r1] at r2 r3
        exact ⟨r2, r3⟩
    have src : Src E.P te.sz tx (a.eval x) m (flatR (flatB g) m) w := by
      rw [ex]
      exact Src_rd dx1 hlies (Zf_fit mm q) hpos fun i hi => (hrow i hi).2
    obtain ⟨v, w', h', r1, r2, r3, r4, r5, r6⟩ := run_appD (P := E.P) (w := w) (ty := o.type) d1 u2 hpos (zero_sz hz) sk (mm.mm.fit k) src (G := fun _ => PH.emp) (hx := PH.emp) (g := g) (fun i hi => ⟨by rw [(hrow i hi).1]; exact flat_owns, (hlies (by omega)).elim fun b h => h.elim fun o h => (h.2 i hi).1⟩) (fun i _ => PH.emp_le _) (fun _ _ _ => PH.emp_dj _) (FitO.emp _) (PH.dj_emp _) hb.1 hb.2
    refine ⟨(), v, w', _, _, ?_, Ret1.new (AllP_fit mm.mm) hne (onlyK_dj mm _) r2 r3 r4 (r5.mono fun b _ o h => ⟨k, by simp [keysO, Ch.own?, hasK, Nat.beq_refl], by unfold onlyK; simp only [keysO, Ch.own?, cond_true, hasK, Nat.beq_refl]; exact h⟩) fun b o h => ?_⟩
    · obtain ⟨dst, op, type, pos, after, guard⟩ := o
      simp only at hop r1
      subst hop
      simp only [execOp, resolve, Sem.run_bind, Sem.run_pure, Result.andThen_ok, invoke, builtin, List.map_toArray, List.map_cons, List.map_nil, e1, r1]
    · rcases r6 b o h with h | h | h
      · exact .inl ⟨k, by simp [keysO, Ch.own?, hasK, Nat.beq_refl], by unfold onlyK; simp only [keysO, Ch.own?, cond_true, hasK, Nat.beq_refl]; exact h⟩
      · exact absurd rfl h
      · exact .inr h
  · simp [SV.inK, V.inK, muIn, Ch.own?, Ch.rowL, allL, appK, hasK, Nat.beq_refl]
/-- an array that a literal makes -/
theorem OJ_bs (hT : TOk E.P TT) (k' : Nat) {t0 ts n : Nat} {parts : Array (Nat × Operand)} {ps : List (Nat × SV)} {id sz1 by1 e : Nat} {z : Value} {ef : Bool} {te : TI} {F0 : List V} {F : List D} {ks : List Nat} {mu1 md : Mu} {fr' : Fr} {gf2 : GF} (f : Nat → List D)
    (hop : o.op = .buildSlice ts n parts) (hp : evParts [] fr gf parts.toList = some ps)
    (h1 : tlk ts TT = some ⟨id, sz1, by1, .slc e, z, ef⟩) (h2 : tlk e TT = some te) (hgd : gdrop t0 gf = some gf') (hF : bsV te.sz ps (zerosV te.zero.cells.toList n) = some F0) (hA : absL mu F0 = some (F, ks)) (hf : ∀ i, i < n → (F.drop (i * te.sz)).take te.sz = f i)
    (hm1 : keysO mu1 = ks) (hmd : mdropKs (appK ks [k']) mu = some md) (hcut : cutKs ks fr gf' = some (fr', gf2))
    (kk : SJ G J E ((t0, .a (.g k')) :: fr') gf2 ((k', .arr te.sz n f) :: md)) (hz : (vcells te.zero).map (·.length) = some te.sz := by exact rfl) (hpos : 0 < te.sz := by exact Nat.lt_of_sub_eq_succ rfl) (hn : Nat.ble (n * te.sz) 16777216 = true := by exact rfl) (hkeys : keysB ks [k'] mu1 fr gf mu E.A.ks G.ks = true := by exact rfl) (hne : hasK k' ks = false := by exact rfl)
    (hg : o.guard = none := by exact rfl) (hd : o.dst = some t0 := by exact rfl) (ht : Nat.blt t0 E.N = true := by exact rfl) : OJ G E all Q J o fr gf mu := by
  subst hm1
  refine OJ_B (ι := Unit) (ks := keysO mu1) (nk := [k']) (mu1 := mu1) (φ := fun _ => True) (res := fun _ => .a (.g k')) (mu1' := fun _ => [(k', .arr te.sz n f)]) (fun B a w H ff mm => ?_) hg hd ht hgd (fun _ => rfl) hkeys (fun _ => ?_) hmd hcut fun _ _ => kk
  · obtain ⟨d1, u2⟩ := slc_of hT h1 h2
    obtain ⟨i, i1, i2, i3, i4⟩ := u2.info
    have hzs : te.zero.cells.toList.length = te.sz := by rw [Array.length_toList]; exact zero_sz hz
    have hzv : te.zero.cells = te.zero.cells.toList.toArray := by simp
    obtain ⟨p1, p2⟩ := evParts_rel ff (g := []) (fun _ _ hm => by cases hm) hp
    obtain ⟨ms, g1, g2⟩ := fill_bsV (P := E.P) (B := B) (Z := Zf E.r H) p1 p2 (zerosV_rels te.zero.cells.toList n) hF
    have hml : ms.length = n * te.sz := by rw [V.rels_length g2, bsV_length hF, zerosV_length, hzs]
    have hown := absL_ok mm.mm hA g2
    have hone := absL_one hA g2
    obtain ⟨Gr, r1, r2, r3⟩ := owns_rows te.sz n hown (by rw [absL_length hA, bsV_length hF, zerosV_length, hzs])
    have hn' : n * te.sz ≤ 16777216 := Nat.le_of_ble_eq_true hn
    have hfit : FitO (PH.row w.heap.size 0 ms) (w.alloc (.cells ms.toArray te.id)) := FitO.alloc w ms te.id
    have hfo : FitO (unK H (keysO mu1)) w := unK_fit mm.mm.fit _
    have hdd : (PH.row w.heap.size 0 ms).dj (unK H (keysO mu1)) := fun b o => by
      cases c : unK H (keysO mu1) b o with
      | none => exact .inr rfl
      | some u =>
        left
        have := hfo.lt (b := b) (o := o) (by rw [c]; simp)
        cases c2 : PH.row w.heap.size 0 ms b o with
        | none => rfl
        | some u2 => have := PH.row_ne (x := b) (y := o) (by rw [c2]; simp); omega
    have hfin : FitO ((PH.row w.heap.size 0 ms).un (unK H (keysO mu1))) (w.alloc (.cells ms.toArray te.id)) := hfit.un (hfo.ext (Below.ofAlloc w _))
    refine ⟨(), .slice (some ⟨w.heap.size, 0, none⟩) n n, w.alloc (.cells ms.toArray te.id), _, _, ?_, Ret1.new (AllP_fit mm.mm) hne (onlyK_dj mm _) rfl (h' := (PH.row w.heap.size 0 ms).un (unK H (keysO mu1))) (VA_own (hc := PH.row w.heap.size 0 ms) (hp := unK H (keysO mu1)) (G := Gr) (row := fun i => (ms.drop (i * te.sz)).take te.sz) ⟨Nat.le_refl _, fun i hi => ⟨_, _, rfl, ?_, fun j hj => ?_⟩, fun i q1 q2 => by omega⟩ ?_ (PH.le_un_left _ _) (PH.le_un_right hdd) hdd (fun i hi => by rw [← hf i hi]; exact r3 i hi) (fun i _ => r1 i) fun i j _ _ hij => r2 i j hij) hfin ((Keep.alloc w _).mono fun _ _ _ h => h.elim) fun b o h => ?_⟩
    · obtain ⟨dst, op, type, pos, after, guard⟩ := o
      simp only at hop
      subst hop
      have e2 : (parts.map fun p => (p.1, a.eval p.2)).toList = parts.toList.map fun p => (p.1, a.eval p.2) := Array.toList_map
      have hinit := fill_zero (n := n) hzs hpos
      simp only [execOp]
      have run2 : ∀ {s : Sem Value} {x : Value} {w' : World}, s.run E.P w = .ok x w' → (do pure (.value (← s)) : Sem Next).run E.P w = .ok (.value x) w' := fun h => by simp only [Sem.run_bind, h, Result.andThen_ok, Sem.run_pure]
      refine run2 ?_
      simp only [Instr.buildSlice, Sem.run_bind, run_underlying d1, Result.andThen_ok, run_size i1, i2]
      rw [if_neg (by omega)]
      by_cases c : n * te.sz = 0
      · rw [if_pos c] at hinit
        rw [if_pos c]
        simp only [Sem.run_bind, Sem.run_pure, Result.andThen_ok]
        rw [hinit, e2, g1]
        simp only [Sem.run_bind, newRow, run_newObj, Result.andThen_ok, Sem.run_pure]
        rfl
      · rw [if_neg c] at hinit
        rw [if_neg c]
        simp only [Sem.run_bind, zeroValue, run_info i1, i4, Sem.run_pure, Result.andThen_ok]
        rw [hzv, hinit, e2, g1]
        simp only [Sem.run_bind, newRow, run_newObj, Result.andThen_ok, Sem.run_pure]
        rfl
    · have h1 : (i + 1) * te.sz ≤ n * te.sz := Nat.mul_le_mul_right _ hi
      rw [Nat.add_mul, Nat.one_mul] at h1
      simp only [List.length_take, List.length_drop]; omega
    · have := PH.row_at (b := w.heap.size) (off := 0) (l := ms) (i * te.sz + j)
      rw [show (0 : Nat) + i * te.sz + j = 0 + (i * te.sz + j) from by omega, this]
      rw [List.getElem?_take_of_lt hj, List.getElem?_drop]
    · have : n ≤ n * te.sz := Nat.le_mul_of_pos_right _ hpos
      unfold maxL; omega
    · rcases PH.un_ne h with h | h
      · exact .inr (by rw [PH.row_ne h]; exact Nat.le_refl _)
      · obtain ⟨j, j1, j2⟩ := unK_ne h
        exact .inl ⟨j, j1, by unfold onlyK; rw [j1]; exact j2⟩
  · have : hasK k' (appK (keysO mu1) [k']) = true := hasK_app.2 (.inr (by simp [hasK, Nat.beq_refl]))
    simp [SV.inK, V.inK, muIn, Ch.own?, Ch.rowL, allL, this]
end
end

section
section
variable {E : Env} {B : BE} {mu mu' : Mu} {w : World} {H : Nat → PH} {TT : List TI} {fr fr' : Fr} {gf gf' : GF} {a : Act} {all rest : List Oper} {Q : Exit → Act → World → Prop} {o : Oper} {J : Act → World → Prop} {G : AG} {R : Exit → Act → World → Prop} {K : List KF}
/-- make: an array of zeros -/
theorem OJ_make (hT : TOk E.P TT) (k' : Nat) {t0 ts : Nat} {l c : Operand} (n : Nat) {id sz1 by1 e : Nat} {z : Value} {ef : Bool} {te : TI} {md : Mu}
    (hop : o.op = .makeSlice ts l c) (hl : ev [] fr gf l = some (.a (.v (.int .i64 n)))) (hc : ev [] fr gf c = some (.a (.v (.int .i64 n)))) (h1 : tlk ts TT = some ⟨id, sz1, by1, .slc e, z, ef⟩) (h2 : tlk e TT = some te) (hgd : gdrop t0 gf = some gf') (hmd : mdropKs [k'] mu = some md) (hn : n * te.by_ ≤ 140737488355328 ∧ n ≤ maxL)
    (kk : SJ G J E ((t0, .a (.g k')) :: fr) gf' ((k', .arr te.sz n fun _ => zsD te.zero) :: md)) (hz : (vcells te.zero).map (·.length) = some te.sz := by exact rfl) (hpos : 0 < te.sz := by exact Nat.lt_of_sub_eq_succ rfl) (hkeys : keysB [] [k'] [] fr gf mu E.A.ks G.ks = true := by exact rfl)
    (hg : o.guard = none := by exact rfl) (hd : o.dst = some t0 := by exact rfl) (ht : Nat.blt t0 E.N = true := by exact rfl) : OJ G E all Q J o fr gf mu := by
  refine OJ_B (ι := Unit) (ks := []) (nk := [k']) (mu1 := []) (φ := fun _ => True) (res := fun _ => .a (.g k')) (mu1' := fun _ => [(k', .arr te.sz n fun _ => zsD te.zero)]) (fun B a w H ff mm => ?_) hg hd ht hgd (fun _ => rfl) hkeys (fun _ => ?_) hmd rfl fun _ _ => kk
  · obtain ⟨d1, u2⟩ := slc_of hT h1 h2
    obtain ⟨i, i1, i2, i3, i4⟩ := u2.info
    have hzz := zero_sz hz
    have hw : IntKind.i64.wrap (n : Int) = n := IntWalk.i64_in _ (by unfold maxL at hn; omega)
    have hzr : (zeroValue te.id).run E.P w = .ok te.zero w := by simp only [zeroValue, Sem.run_bind, run_info i1, Result.andThen_ok, i4, Sem.run_pure]
    have hcs := fill_zero (n := n) (zs := te.zero.cells.toList) (by rw [Array.length_toList]; exact hzz) hpos
    have e1 : a.eval l = _ := ff.ev (g := []) (fun _ _ hm => by cases hm) hl
    have e2 : a.eval c = _ := ff.ev (g := []) (fun _ _ hm => by cases hm) hc
    have hrun : (Instr.makeSlice ts (.int .i64 n) (.int .i64 n)).run E.P w = .ok (.slice (some ⟨w.heap.size, 0, none⟩) n n) (w.alloc (.cells (zeroL te.zero.cells.toList n).toArray te.id)) := by
      simp only [Instr.makeSlice, asInt, asIntOf, Sem.run_bind, Sem.run_pure, run_underlying d1, Result.andThen_ok, run_info i1, hw, i3]
      have c1 : (decide ((n : Int) < 0) || decide (((te.by_ : Int) * (n : Int)) > 2 ^ 48)) = false := by
        simp only [Bool.or_eq_false_iff, decide_eq_false_iff_not]
        refine ⟨by omega, ?_⟩
        have : ((te.by_ : Int) * (n : Int)) = ((n * te.by_ : Nat) : Int) := by push_cast; rw [Int.mul_comm]
        rw [this]
        have : (2 : Int) ^ 48 = 281474976710656 := by decide
        omega
      have c2 : decide ((n : Int) < 0) = false := by simp
      have c3 : decide ((n : Int) > (n : Int)) = false := by simp
      rw [if_neg (by rw [c1]; simp)]
      simp only [Sem.run_bind, run_askRoom, Result.andThen_ok, run_size i1, i2, Int.toNat_natCast]
      by_cases h0 : n * te.sz = 0
      · rw [if_pos h0] at hcs
        simp only [h0, if_true, Sem.run_pure, Result.andThen_ok, newRow, Sem.run_bind, run_newObj]
        rw [← hcs]
        simp only [h0]
        rfl
      · rw [if_neg h0] at hcs
        simp only [h0, if_false, Sem.run_bind, hzr, Sem.run_pure, Result.andThen_ok, newRow, run_newObj]
        rw [← hcs]
        rfl
    have hzl : (zeroL te.zero.cells.toList n).length = n * te.sz := by rw [zeroL_length, Array.length_toList, hzz]
    refine ⟨(), .slice (some ⟨w.heap.size, 0, none⟩) n n, w.alloc (.cells (zeroL te.zero.cells.toList n).toArray te.id), _, _, ?_, Ret1.new (AllP_fit mm.mm) rfl (onlyK_dj mm _) rfl (h' := PH.row w.heap.size 0 (zeroL te.zero.cells.toList n)) (VA_own (hc := PH.row w.heap.size 0 (zeroL te.zero.cells.toList n)) (hp := PH.emp) (G := fun _ => PH.emp) (row := fun _ => te.zero.cells.toList) ⟨Nat.le_refl _, fun i hi => ⟨_, _, rfl, by rw [Array.length_toList]; exact hzz, fun j hj => ?_⟩, fun i q1 q2 => by omega⟩ hn.2 (PH.le_refl _) (PH.emp_le _) (PH.dj_emp _) (fun i hi => flat_owns) (fun i _ => PH.emp_le _) fun i j _ _ hij => PH.emp_dj _) (FitO.alloc w _ te.id) ((Keep.alloc w _).mono fun _ _ _ h => h.elim) fun b o h => .inr (by rw [PH.row_ne h]; exact Nat.le_refl _)⟩
    · obtain ⟨dst, op, type, pos, after, guard⟩ := o
      simp only at hop
      subst hop
      simp only [execOp, e1, e2]
      simp only [Sem.run_bind, hrun, Result.andThen_ok, Sem.run_pure]
    · have := PH.row_at (b := w.heap.size) (off := 0) (l := zeroL te.zero.cells.toList n) (i * te.sz + j)
      have h1 : (i + 1) * te.sz ≤ n * te.sz := Nat.mul_le_mul_right _ hi
      rw [Nat.add_mul, Nat.one_mul] at h1
      rw [show (0 : Nat) + i * te.sz + j = 0 + (i * te.sz + j) from by omega, this, zeroL_get (by rw [Array.length_toList, hzz]; omega)]
      congr 1
      rw [Array.length_toList, hzz, Nat.mul_comm, Nat.mul_add_mod]; exact Nat.mod_eq_of_lt hj
  · simp [SV.inK, V.inK, muIn, Ch.own?, Ch.rowL, allL, appK, hasK, Nat.beq_refl]

theorem RJ_appM (hT : TOk E.P TT) (k kb k' : Nat) {t0 ts tx : Nat} {s x : Operand} {n m : Nat} {f g : Nat → List D} {id sz1 by1 e : Nat} {z : Value} {ef : Bool} {te ti2 : TI} {md : Mu} {fr' : Fr} {gf2 : GF}
    (hop : o.op = .call { callee := .builtin .append, args := #[s, x], argTypes := #[ts, tx] }) (hs : (ev [] fr gf s).bind gK = some k) (hx : ev [] fr gf x = some (.a (.g kb))) (h1 : tlk ts TT = some ⟨id, sz1, by1, .slc e, z, ef⟩) (h2 : tlk e TT = some te) (h3 : tlk tx TT = some ti2) (h4 : ti2.kind = .slc e) (hk : mlk k mu = some (.arr te.sz n f)) (hkb : mlk kb mu = some (.arr te.sz m g)) (hgd : gdrop t0 gf = some gf')
    (hmd : mdropKs [k, kb, k'] mu = some md) (hcut : cutKs [k, kb] fr gf' = some (fr', gf2)) (hb : (n + m) * te.by_ ≤ 140737488355328 ∧ n + m ≤ maxL)
    (kk : RJ E all (KQ E.P R K) rest ((t0, .a (.g k')) :: fr') gf2 ((k', .arr te.sz (n + m) (appD n f g)) :: md)) (hone : ∀ i, i < m → oneDs (g i) = true := by exact fun _ _ => rfl) (hz : (vcells te.zero).map (·.length) = some te.sz := by exact rfl) (hpos : 0 < te.sz := by exact Nat.lt_of_sub_eq_succ rfl) (hkeys : keysB [k, kb] [k'] [(k, .arr te.sz n f), (kb, .arr te.sz m g)] fr gf mu E.A.ks [] = true := by exact rfl) (hne : (Nat.beq k kb || hasK k' [k, kb]) = false := by exact rfl)
    (hg : o.guard = none := by exact rfl) (hd : o.dst = some t0 := by exact rfl) (ht : Nat.blt t0 E.N = true := by exact rfl) : RJ E all (KQ E.P R K) (o :: rest) fr gf mu :=
  RJ_of (OJ_appM (G := AG.nil) hT k kb k' hop hs hx h1 h2 h3 h4 hk hkb hgd hmd hcut hb (SJ_of kk) hone hz hpos hkeys hne hg hd ht)

theorem RJ_appC (hT : TOk E.P TT) (k k' : Nat) {t0 ts tx : Nat} {s x : Operand} {n m : Nat} {f g : Nat → List D} {id sz1 by1 e : Nat} {z : Value} {ef : Bool} {te ti2 : TI} {md : Mu} {fr' : Fr} {gf2 : GF} {vx : V} {q : Tg} {ob : Ob}
    (hop : o.op = .call { callee := .builtin .append, args := #[s, x], argTypes := #[ts, tx] }) (hs : (ev [] fr gf s).bind gK = some k) (hx : ev [] fr gf x = some (.a vx)) (h1 : tlk ts TT = some ⟨id, sz1, by1, .slc e, z, ef⟩) (h2 : tlk e TT = some te) (h3 : tlk tx TT = some ti2) (h4 : ti2.kind = .slc e) (hk : mlk k mu = some (.arr te.sz n f)) (hkx : slR mu vx = some (q, te.sz, m, g, ob)) (hgd : gdrop t0 gf = some gf')
    (hmd : mdropKs [k, k'] mu = some md) (hcut : cutKs [k] fr gf' = some (fr', gf2)) (hb : (n + m) * te.by_ ≤ 140737488355328 ∧ n + m ≤ maxL)
    (kk : RJ E all (KQ E.P R K) rest ((t0, .a (.g k')) :: fr') gf2 ((k', .arr te.sz (n + m) (appD n f g)) :: md)) (hone : ∀ i, i < m → ∃ l, flatDs (g i) = some l := by exact fun _ _ => ⟨_, rfl⟩) (hz : (vcells te.zero).map (·.length) = some te.sz := by exact rfl) (hpos : 0 < te.sz := by exact Nat.lt_of_sub_eq_succ rfl) (hkeys : keysB [k] [k'] [(k, .arr te.sz n f)] fr gf mu E.A.ks [] = true := by exact rfl) (hne : hasK k' [k] = false := by exact rfl) (hob : Alls ob := by repeat (first | exact trivial | refine And.intro rfl ?_))
    (hg : o.guard = none := by exact rfl) (hd : o.dst = some t0 := by exact rfl) (ht : Nat.blt t0 E.N = true := by exact rfl) : RJ E all (KQ E.P R K) (o :: rest) fr gf mu :=
  RJ_of (OJ_appC (G := AG.nil) hT k k' hop hs hx h1 h2 h3 h4 hk hkx hgd hmd hcut hb (SJ_of kk) hone hz hpos hkeys hne hob hg hd ht)

theorem RJ_bs (hT : TOk E.P TT) (k' : Nat) {t0 ts n : Nat} {parts : Array (Nat × Operand)} {ps : List (Nat × SV)} {id sz1 by1 e : Nat} {z : Value} {ef : Bool} {te : TI} {F0 : List V} {F : List D} {ks : List Nat} {mu1 md : Mu} {fr' : Fr} {gf2 : GF} (f : Nat → List D)
    (hop : o.op = .buildSlice ts n parts) (hp : evParts [] fr gf parts.toList = some ps)
    (h1 : tlk ts TT = some ⟨id, sz1, by1, .slc e, z, ef⟩) (h2 : tlk e TT = some te) (hgd : gdrop t0 gf = some gf') (hF : bsV te.sz ps (zerosV te.zero.cells.toList n) = some F0) (hA : absL mu F0 = some (F, ks)) (hf : ∀ i, i < n → (F.drop (i * te.sz)).take te.sz = f i)
    (hm1 : keysO mu1 = ks) (hmd : mdropKs (appK ks [k']) mu = some md) (hcut : cutKs ks fr gf' = some (fr', gf2))
    (kk : RJ E all (KQ E.P R K) rest ((t0, .a (.g k')) :: fr') gf2 ((k', .arr te.sz n f) :: md)) (hz : (vcells te.zero).map (·.length) = some te.sz := by exact rfl) (hpos : 0 < te.sz := by exact Nat.lt_of_sub_eq_succ rfl) (hn : Nat.ble (n * te.sz) 16777216 = true := by exact rfl) (hkeys : keysB ks [k'] mu1 fr gf mu E.A.ks [] = true := by exact rfl) (hne : hasK k' ks = false := by exact rfl)
    (hg : o.guard = none := by exact rfl) (hd : o.dst = some t0 := by exact rfl) (ht : Nat.blt t0 E.N = true := by exact rfl) : RJ E all (KQ E.P R K) (o :: rest) fr gf mu :=
  RJ_of (OJ_bs (G := AG.nil) hT k' f hop hp h1 h2 hgd hF hA hf hm1 hmd hcut (SJ_of kk) hz hpos hn hkeys hne hg hd ht)

theorem RJ_clear (hT : TOk E.P TT) (t k : Nat) {ts : Nat} {n : Nat} {f : Nat → List D} {lo hi : Int} {id sz1 by1 e : Nat} {z : Value} {ef : Bool} {te : TI} {md : Mu} {fr' : Fr} {gf2 : GF} {l : List V}
    (hop : o.op = .call { callee := .builtin .clear, args := #[.tmp t], argTypes := #[ts] }) (hx : mlk t fr = some (.a (.sb k te.sz lo hi))) (hgt : glk t gf = none) (h1 : tlk ts TT = some ⟨id, sz1, by1, .slc e, z, ef⟩) (h2 : tlk e TT = some te) (hk : mlk k mu = some (.arr te.sz n f)) (hb : 0 ≤ lo ∧ lo ≤ hi ∧ hi ≤ n) (hgd : gdrop t gf = some gf')
    (hmd : mdropKs [k, k] mu = some md) (hcut : cutKs [k] fr gf' = some (fr', gf2)) (hz : vcells te.zero = some l)
    (kk : RJ E all (KQ E.P R K) rest ((t, .a .any) :: fr') gf2 ((k, .arr te.sz n fun i => if lo ≤ (i : Int) ∧ (i : Int) < hi then zsD te.zero else f i) :: md)) (hzl : lenEq l te.sz = true := by exact rfl) (hone : allC l = true := by exact rfl) (hpos : 0 < te.sz := by exact Nat.lt_of_sub_eq_succ rfl) (hkeys : keysB [k] [k] [(k, .arr te.sz n f)] fr gf mu E.A.ks [] = true := by exact rfl)
    (hg : o.guard = none := by exact rfl) (hd : o.dst = none := by exact rfl) (ht : Nat.blt t E.N = true := by exact rfl) : RJ E all (KQ E.P R K) (o :: rest) fr gf mu :=
  RJ_of (OJ_clear (G := AG.nil) hT t k hop hx hgt h1 h2 hk hb hgd hmd hcut hz (SJ_of kk) hzl hone hpos hkeys hg hd ht)

theorem RJ_make (hT : TOk E.P TT) (k' : Nat) {t0 ts : Nat} {l c : Operand} (n : Nat) {id sz1 by1 e : Nat} {z : Value} {ef : Bool} {te : TI} {md : Mu}
    (hop : o.op = .makeSlice ts l c) (hl : ev [] fr gf l = some (.a (.v (.int .i64 n)))) (hc : ev [] fr gf c = some (.a (.v (.int .i64 n)))) (h1 : tlk ts TT = some ⟨id, sz1, by1, .slc e, z, ef⟩) (h2 : tlk e TT = some te) (hgd : gdrop t0 gf = some gf') (hmd : mdropKs [k'] mu = some md) (hn : n * te.by_ ≤ 140737488355328 ∧ n ≤ maxL)
    (kk : RJ E all (KQ E.P R K) rest ((t0, .a (.g k')) :: fr) gf' ((k', .arr te.sz n fun _ => zsD te.zero) :: md)) (hz : (vcells te.zero).map (·.length) = some te.sz := by exact rfl) (hpos : 0 < te.sz := by exact Nat.lt_of_sub_eq_succ rfl) (hkeys : keysB [] [k'] [] fr gf mu E.A.ks [] = true := by exact rfl)
    (hg : o.guard = none := by exact rfl) (hd : o.dst = some t0 := by exact rfl) (ht : Nat.blt t0 E.N = true := by exact rfl) : RJ E all (KQ E.P R K) (o :: rest) fr gf mu :=
  RJ_of (OJ_make (G := AG.nil) hT k' n hop hl hc h1 h2 hgd hmd hn (SJ_of kk) hz hpos hkeys hg hd ht)

/-- a slice against nil, and on -/
theorem RJ_nil (hT : TOk E.P TT) {t0 ty : Nat} {x y : Operand} {yt : TypeId} {op : BinOp} (ne : Bool) {sx : V} {q : Tg} {sz n : Nat} {f : Nat → List D} {ob : Ob} {n0 c0 : Nat} {id sz1 by1 e : Nat} {z : Value} {ef : Bool}
    (hop : o.op = .binOp op ty x y yt) (hx : ev [] fr gf x = some (.a sx)) (hy : ev [] fr gf y = some (.a (.v (.slice none n0 c0)))) (h1 : tlk ty TT = some ⟨id, sz1, by1, .slc e, z, ef⟩) (hs : slR mu sx = some (q, sz, n, f, ob)) (hgd : gdrop t0 gf = some gf')
    (k : ∀ b : Bool, (b = true → n = 0) → RJ E all (KQ E.P R K) rest ((t0, .a (.v (.bool (bif ne then !b else b)))) :: fr) gf' mu) (hne : op = (bif ne then .neq else .eql) := by exact rfl) (hob : Alls ob := by repeat (first | exact trivial | refine And.intro rfl ?_)) (hg : o.guard = none := by exact rfl) (hd : o.dst = some t0 := by exact rfl) (ht : Nat.blt t0 E.N = true := by exact rfl) : RJ E all (KQ E.P R K) (o :: rest) fr gf mu :=
  RJ_of (OJ_nil (G := AG.nil) hT ne hop hx hy h1 hs hgd (fun b hb => SJ_of (k b hb)) hne hob hg hd ht)
end
end

section
section
variable {P : Program} {ops : Array Oper} {Q : Exit → Act → World → Prop} {S : World → Prop}
/-- operation k comes behind operation j -/
def afB (ops : Array Oper) (k j : Nat) : Bool := match ops[k]? with
  | some o => o.after.any fun e => Region.binds .any e && Nat.beq e.on j
  | none => false
/-- the same, through a chain of others -/
def afT (ops : Array Oper) : Nat → Nat → Nat → Bool
  | 0, k, j => afB ops k j
  | n + 1, k, j => afB ops k j || (List.range ops.size).any fun m => afB ops k m && afT ops n m j
/-- each other operation comes ahead of i, or behind it -/
def cmpB (ops : Array Oper) (i : Nat) : Bool := (List.range ops.size).all fun k => Nat.beq k i || afB ops i k || afB ops k i || afT ops 3 i k || afT ops 3 k i
/-- Whatever order is picked from here on, and in whatever later world; S holds behind each operation, as far as one that all others come ahead of or behind. -/
def Lw (P : Program) (ops : Array Oper) (Q : Exit → Act → World → Prop) (S : World → Prop) : Nat → Array Bool → Act → World → Prop
  | 0, l, a, w => ∀ w', Below w.heap.size w w' → Region.ready .any ops l = [] ∧ Q .normal a w'
  | n + 1, l, a, w => ∀ w', Below w.heap.size w w' → (Region.ready .any ops l = [] → Q .normal a w') ∧
    ∀ i ∈ Region.ready .any ops l, wpOp P ops Q i (fun a' w' => ∃ S', (S' = S ∨ cmpB ops i = true) ∧ S' w' ∧ Lw P ops Q S' n (l.setIfInBounds i true) a' w') a w'
theorem Below.later {a b c : World} (h : Below a.heap.size a b) (k : Below b.heap.size b c) : Below a.heap.size a c := h.trans (k.mono h.size)
theorem Lw.up {w w' : World} (hb : Below w.heap.size w w') : ∀ {n : Nat} {l : Array Bool} {a : Act}, Lw P ops Q S n l a w → Lw P ops Q S n l a w'
  | 0, _, _, h => fun w2 hb2 => h w2 (Below.later hb hb2)
  | _ + 1, _, _, h => fun w2 hb2 => h w2 (Below.later hb hb2)
theorem Lw.any : ∀ {S : World → Prop} {n : Nat} {l : Array Bool} {a : Act} {w : World}, Lw P ops Q S n l a w → wpAny P .any ops Q n l a w
  | _, 0, _, _, w, h => h w (Below.refl _ _)
  | _, n + 1, l, a, w, h => ⟨(h w (Below.refl _ _)).1, fun i hi => wpOp_mono (fun a' w' ⟨_, _, _, h'⟩ => Lw.any h') ((h w (Below.refl _ _)).2 i hi)⟩
/-- it answers v, and leaves what there was -/
def Qu (P : Program) (s : Sem Next) (v : Value) (w : World) : Prop :=
  s.run P w = .ok (.value v) w ∨ ∃ f args, s.run P w = .ok (.enter f args) w ∧ Calls P f args w fun e w' => e = .returned v ∧ Below w.heap.size w w'
/-- in frame a, in every world of S, the operation leaves v -/
def Yi (P : Program) (ops : Array Oper) (S : World → Prop) (o : Oper) (v : Value) (a : Act) : Prop :=
  (Region.wanted o (yielded ops a.tmps) = true ∧ ∀ w, S w → Qu P (execOp a.eval o) v w) ∨ (Region.wanted o (yielded ops a.tmps) = false ∧ v = undef)
theorem Yi.wpOp {i : Nat} {o : Oper} {v : Value} {a : Act} (hi : ops[i]? = some o) (hy : Yi P ops S o v a) {K : Act → World → Prop} {w : World} (hw : S w) (h : ∀ w', Below w.heap.size w w' → K (a.put o.dst v) w') : wpOp P ops Q i K a w := by
  unfold Go.wpOp
  simp only [hi]
  rcases hy with ⟨h1, h2⟩ | ⟨h1, rfl⟩
  · rw [if_pos h1]
    refine .inl ?_
    unfold Oper.wp
    rcases h2 w hw with h3 | ⟨f, args, h3, h4⟩
    · rw [h3]; exact h w (Below.refl _ _)
    · rw [h3]
      exact h4.mono fun e w' ⟨e1, e2⟩ => by subst e1; exact h w' e2
  · simp only [h1, Bool.false_eq_true, if_false]; exact h w (Below.refl _ _)
theorem Yi.of_same {o : Oper} {v : Value} {a a' : Act} (hy : Yi P ops S o v a) (he : execOp a'.eval o = execOp a.eval o) (hw : Region.wanted o (yielded ops a'.tmps) = Region.wanted o (yielded ops a.tmps)) : Yi P ops S o v a' := by
  unfold Yi at *
  rw [he, hw]
  exact hy
theorem wpOp_putI {j : Nat} {oi oj : Oper} {v : Value} (hj : ops[j]? = some oj) (hap : oi.apart ops oj = true) (hsi : ∀ cs b, oi.op ≠ .select cs b) (hsj : ∀ cs b, oj.op ≠ .select cs b)
    (hQ : ∀ c a w, Q (.panic c) (a.put oi.dst v) w → Q (.panic c) a w) {K : Act → World → Prop} {a : Act} {w : World} (hy : Yi P ops S oi v a) (h : wpOp P ops Q j K (a.put oi.dst v) w) :
    wpOp P ops Q j (fun a' w' => Yi P ops S oi v a' ∧ K (a'.put oi.dst v) w') a w := by
  obtain ⟨h1, h2, h3⟩ := Oper.apart_spec hap
  have keep : ∀ (a : Act), Yi P ops S oi v a → ∀ u, Yi P ops S oi v (a.put oj.dst u) := fun a hy u => hy.of_same (execOp_put oi hsi a oj.dst u h3) (wanted_put oi a oj.dst u h3)
  have keepD : ∀ d, Yi P ops S oi v { a with defers := d :: a.defers } := fun d => hy.of_same rfl rfl
  unfold wpOp at *
  simp only [hj] at *
  rw [wanted_put oj a oi.dst v h1] at h
  split
  · rename_i hw
    simp only [hw, if_true] at h
    rcases h with h | ⟨hasks, hlets⟩
    case inr => exact .inr ⟨by unfold Oper.asks at *; rw [execOp_put oj hsj a oi.dst v h1] at hasks; exact hasks, hlets⟩
    refine .inl ?_
    unfold Oper.wp at *
    rw [execOp_put oj hsj a oi.dst v h1] at h
    generalize (execOp a.eval oj).run P w = r at *
    cases r with
    | ok n w' =>
      cases n <;> simp only [Oper.upon] at h ⊢
      case value u => exact ⟨keep a hy u, by rw [← Act.put_comm a v u h2]; exact h⟩
      case skip => exact ⟨keep a hy _, by rw [← Act.put_comm a v undef h2]; exact h⟩
      case defer d =>
        refine ⟨keep _ (keepD d) _, ?_⟩
        rw [← Act.put_comm _ v undef h2, ← Act.put_defers]
        exact h
      case enter f args =>
        refine Calls.mono h fun e w'' he => ?_
        cases e with
        | returned u => exact ⟨keep a hy u, by rw [← Act.put_comm a v u h2]; exact he⟩
        | panicked c => exact hQ _ _ _ he
        | outgrown => exact he
      case row row args => exact Rows.mono h fun u w'' he => ⟨keep a hy u, by rw [← Act.put_comm a v u h2]; exact he⟩
    | halt x w' =>
      cases x <;> simp only [Oper.upon] at h ⊢
      case panic u => exact hQ _ _ _ h
  · rename_i hw
    simp only [hw] at h
    exact ⟨keep a hy _, by rw [← Act.put_comm a v undef h2]; exact h⟩

def Closed (ops : Array Oper) (l : Array Bool) : Prop := ∀ j oj, ops[j]? = some oj → l.getD j false = true → ∀ e ∈ oj.after, Region.binds .any e = true → l.getD e.on false = true
theorem Closed.set {l : Array Bool} {i : Nat} (h : Closed ops l) (hi : i ∈ Region.ready .any ops l) : Closed ops (l.setIfInBounds i true) := by
  obtain ⟨_, oi, hoi, hall⟩ := mem_ready.1 hi
  intro j oj hj hl e he hb
  by_cases hij : i = j
  · subst hij
    rw [hj] at hoi
    injection hoi with hoi
    subst hoi
    exact getD_set_true (hall e he hb)
  · rw [getD_set_ne false hij] at hl
    exact getD_set_true (h j oj hj hl e he hb)
def closedL (ops : Array Oper) (l : Array Bool) : Bool := (List.range ops.size).all fun j => !(l.getD j false) || match ops[j]? with
  | some o => o.after.all fun e => !Region.binds .any e || l.getD e.on false
  | none => true
theorem closedL_spec {l : Array Bool} (h : closedL ops l = true) : Closed ops l := fun j oj hj hl e he hb => by
  have h1 := List.all_eq_true.1 h j (List.mem_range.2 (Array.getElem?_eq_some_iff.1 hj).1)
  rw [hl, hj] at h1
  simp only [Bool.not_true, Bool.false_or] at h1
  have h2 := Array.all_eq_true'.1 h1 e he
  rw [hb] at h2
  simpa using h2
theorem Closed.un {l : Array Bool} {m i : Nat} (h : Closed ops l) (hm : l.getD m false = true) (ha : afB ops m i = true) : l.getD i false = true := by
  unfold afB at ha
  split at ha
  · rename_i o ho
    obtain ⟨e, he, hb⟩ := Array.any_eq_true'.1 ha
    simp only [Bool.and_eq_true] at hb
    have := h m o ho hm e he hb.1
    rwa [Nat.eq_of_beq_eq_true hb.2] at this
  · cases ha
theorem Closed.chain {l : Array Bool} (h : Closed ops l) : ∀ {n m i : Nat}, l.getD m false = true → afT ops n m i = true → l.getD i false = true
  | 0, _, _, hm, ha => h.un hm ha
  | n + 1, _, _, hm, ha => by
    simp only [afT, Bool.or_eq_true] at ha
    rcases ha with ha | ha
    · exact h.un hm ha
    · obtain ⟨x, _, hx⟩ := List.any_eq_true.1 ha
      simp only [Bool.and_eq_true] at hx
      exact h.chain (h.un hm hx.1) hx.2
theorem ready_af {l : Array Bool} {j m : Nat} (hj : j ∈ Region.ready .any ops l) (ha : afB ops j m = true) : l.getD m false = true := by
  obtain ⟨_, oj, hoj, hall⟩ := mem_ready.1 hj
  unfold afB at ha
  rw [hoj] at ha
  obtain ⟨e, he, hb⟩ := Array.any_eq_true'.1 ha
  simp only [Bool.and_eq_true] at hb
  have := hall e he hb.1
  rw [Nat.eq_of_beq_eq_true hb.2] at this
  rw [Array.getD_eq_getD_getElem?]
  first
    | exact this
    | (rw [Array.getD_eq_getD_getElem?] at this; cases x : l[m]? <;> simp_all)
theorem ready_chain {l : Array Bool} {j : Nat} (hcl : Closed ops l) (hj : j ∈ Region.ready .any ops l) : ∀ {n i : Nat}, afT ops n j i = true → l.getD i false = true
  | 0, _, ha => ready_af hj ha
  | n + 1, _, ha => by
    simp only [afT, Bool.or_eq_true] at ha
    rcases ha with ha | ha
    · exact ready_af hj ha
    · obtain ⟨x, _, hx⟩ := List.any_eq_true.1 ha
      simp only [Bool.and_eq_true] at hx
      exact hcl.chain (ready_af hj hx.1) hx.2
theorem Lw_first (hup : ∀ w w', Below w.heap.size w w' → S w → S w') {i : Nat} {oi : Oper} {v : Value} (hi : ops[i]? = some oi) (hsel : ∀ (j : Nat) (o : Oper) cs b, ops[j]? = some o → o.op ≠ .select cs b) (hQ : ∀ c a w, Q (.panic c) (a.put oi.dst v) w → Q (.panic c) a w) :
    ∀ (n : Nat) (l : Array Bool) (a : Act) (w : World), (∀ j oj, ops[j]? = some oj → j ≠ i → l.getD j true = false → (∀ e ∈ oj.after, Region.binds .any e = true → e.on ≠ i) → oi.apart ops oj = true) →
      i ∈ Region.ready .any ops l → Closed ops l → Yi P ops S oi v a → S w → Lw P ops Q S n (l.setIfInBounds i true) (a.put oi.dst v) w → Lw P ops Q S (n + 1) l a w := by
  intro n
  induction n with
  | zero =>
    intro l a w _ hr _ hy hS H w2 hb
    have hS2 := hup w w2 hb hS
    refine ⟨fun h => (by rw [h] at hr; cases hr), fun j hj => ?_⟩
    by_cases hji : j = i
    · subst hji; exact hy.wpOp hi hS2 fun w3 hb3 => ⟨S, .inl rfl, hup w2 w3 hb3 hS2, Lw.up (Below.later hb hb3) H⟩
    · have := ready_mono hj hji
      rw [(H w2 hb).1] at this
      cases this
  | succ n ih =>
    intro l a w hfree hr hcl hy hS H w2 hb
    have hS2 := hup w w2 hb hS
    refine ⟨fun h => (by rw [h] at hr; cases hr), fun j hj => ?_⟩
    by_cases hji : j = i
    · subst hji; exact hy.wpOp hi hS2 fun w3 hb3 => ⟨S, .inl rfl, hup w2 w3 hb3 hS2, Lw.up (Below.later hb hb3) H⟩
    · have h1 := (H w2 hb).2 j (ready_mono hj hji)
      obtain ⟨hjun, oj, hoj, hall⟩ := mem_ready.1 hj
      have hiun := (mem_ready.1 hr).1
      have hnot : ∀ e ∈ oj.after, Region.binds .any e = true → e.on ≠ i := fun e he hb heq => by
        have h1 := hall e he hb
        rw [heq] at h1
        rcases Nat.lt_or_ge i l.size with h' | h'
        · simp [h'] at hiun h1; rw [hiun] at h1; cases h1
        · simp [Array.getElem?_eq_none h'] at h1
      have h2 := wpOp_putI (S := S) hoj (hfree j oj hoj hji hjun hnot) (fun cs b => hsel i oi cs b hi) (fun cs b => hsel j oj cs b hoj) hQ hy h1
      have hfree' : ∀ k ok, ops[k]? = some ok → k ≠ i → (l.setIfInBounds j true).getD k true = false → (∀ e ∈ ok.after, Region.binds .any e = true → e.on ≠ i) → oi.apart ops ok = true := fun k ok hk hki hun hno => by
        refine hfree k ok hk hki ?_ hno
        by_cases hjk : j = k
        · subst hjk; exact hjun
        · rw [getD_set_ne true hjk] at hun; exact hun
      have hno : ¬ cmpB ops j = true := fun hc => by
        have hin : i < ops.size := (Array.getElem?_eq_some_iff.1 hi).1
        have hc := List.all_eq_true.1 hc i (List.mem_range.2 hin)
        simp only [Bool.or_eq_true] at hc
        rcases hc with (((hc | hc) | hc) | hc) | hc
        · exact hji (Nat.eq_of_beq_eq_true hc).symm
        · unfold afB at hc
          rw [hoj] at hc
          obtain ⟨e, he, hb2⟩ := Array.any_eq_true'.1 hc
          simp only [Bool.and_eq_true] at hb2
          exact hnot e he hb2.1 (Nat.eq_of_beq_eq_true hb2.2)
        · unfold afB at hc
          rw [hi] at hc
          obtain ⟨e, he, hb2⟩ := Array.any_eq_true'.1 hc
          simp only [Bool.and_eq_true] at hb2
          obtain ⟨_, oi', hoi', hall'⟩ := mem_ready.1 hr
          rw [hi] at hoi'
          injection hoi' with hoi'
          subst hoi'
          have h5 := hall' e he hb2.1
          rw [Nat.eq_of_beq_eq_true hb2.2] at h5
          rcases Nat.lt_or_ge j l.size with h' | h'
          · simp [h'] at hjun h5; rw [hjun] at h5; cases h5
          · simp [Array.getElem?_eq_none h'] at h5
        · have := ready_chain hcl hj hc
          rcases Nat.lt_or_ge i l.size with h' | h'
          · simp [h'] at hiun this; rw [hiun] at this; cases this
          · simp [Array.getElem?_eq_none h'] at this
        · have := ready_chain hcl hr hc
          rcases Nat.lt_or_ge j l.size with h' | h'
          · simp [h'] at hjun this; rw [hjun] at this; cases this
          · simp [Array.getElem?_eq_none h'] at this
      refine wpOp_mono (fun a' w' ⟨h30, S', hS', h31, h32⟩ => ?_) h2
      obtain rfl : S' = S := hS'.resolve_right hno
      refine ⟨S', .inl rfl, h31, ih (l.setIfInBounds j true) a' w' hfree' (ready_mono hr (Ne.symm hji)) (hcl.set hj) h30 h31 ?_⟩
      rw [Array.setIfInBounds_comm _ _ hji]
      exact h32

/-! ### which operations have come up -/
def mk (n : Nat) (tk : List Nat) : Array Bool := (Array.range n).map fun i => tk.any (Nat.beq · i)
theorem mk_set (n i : Nat) (tk : List Nat) : (mk n tk).setIfInBounds i true = mk n (i :: tk) := by
  apply Array.ext_getElem?
  intro j
  by_cases hij : i = j
  · subst hij
    by_cases hn : i < n
    · simp [mk, hn, Nat.beq_refl]
    · simp [mk, hn]
  · rw [Array.getElem?_setIfInBounds_ne hij]
    unfold mk
    rw [Array.getElem?_map, Array.getElem?_map]
    by_cases hn : j < n
    · rw [Array.getElem?_range, if_pos hn]
      simp [hij, Nat.beq_eq]
    · rw [Array.getElem?_range, if_neg hn]; rfl
theorem mk_set_aux {i j : Nat} (hij : i ≠ j) : Nat.beq i j = false := by
    have : Nat.beq i j = false := by
      cases e : Nat.beq i j with
      | false => rfl
      | true => exact absurd (Nat.eq_of_beq_eq_true e) hij
    exact this
theorem mk_nil (n : Nat) : Array.replicate n false = mk n [] := by
  apply Array.ext_getElem?
  intro j
  by_cases hn : j < n <;> simp [mk, hn]
/-- may i be taken first? -/
def takeB (ops : Array Oper) (tk : List Nat) (i : Nat) : Bool :=
  (Region.ready .any ops (mk ops.size tk)).contains i && Region.free .any ops (mk ops.size tk) i && Region.noSelect ops && closedL ops (mk ops.size tk)
/-- is i the only one that may come up? -/
def oneB (ops : Array Oper) (tk : List Nat) (i : Nat) : Bool := match Region.ready .any ops (mk ops.size tk) with
  | [j] => Nat.beq j i
  | _ => false
end


section
variable {E : Env} {B : BE} {mu mu' : Mu} {w : World} {H : Nat → PH} {TT : List TI} {fr fr' : Fr} {gf gf' : GF} {a : Act} {all rest : List Oper} {o : Oper} {J : Act → World → Prop} {G : AG} {R : Exit → Act → World → Prop} {K : List KF}
def PQ (R : Exit → Act → World → Prop) : Prop := ∀ c a d v w, R (.panic c) (a.put d v) w → R (.panic c) a w
theorem pq_body {P : Program} (fn : Func) (Rp : Ending → World → Prop) : PQ (bodyPost P fn Rp) := fun c a d v w h => by
  cases d <;> exact h
theorem pq_K {P : Program} (hR : PQ R) : ∀ K : List KF, PQ (KQ P R K)
  | [] => hR
  | .seq c :: K => fun c a d v w h => pq_K hR K c a d v w h
  | .blk id :: K => fun c a d v w h => pq_K hR K c a d v w h
  | .loop I :: K => fun c a d v w h => pq_K hR K c a d v w h
/-- chunks with these keys -/
def muR (ks : List Nat) : Mu → Mu
  | [] => []
  | (k, c) :: r => bif hasK k ks then (k, c) :: muR ks r else muR ks r
theorem muR_get {ks : List Nat} : ∀ {mu : Mu} {k : Nat} {c : Ch}, mlk k (muR ks mu) = some c → hasK k ks = true ∧ mlk k mu = some c
  | [], _, _, h => by cases h
  | (j, d) :: r, k, c, h => by
    simp only [muR] at h
    cases e : hasK j ks with
    | true =>
      rw [e] at h
      simp only [cond_true] at h
      rw [mlk_cons] at h ⊢
      by_cases hj : j = k
      · subst hj; rw [if_pos rfl] at h ⊢; exact ⟨e, h⟩
      · rw [if_neg hj] at h ⊢; exact muR_get h
    | false =>
      rw [e] at h
      simp only [cond_false] at h
      obtain ⟨h1, h2⟩ := muR_get h
      rw [mlk_cons]
      by_cases hj : j = k
      · subst hj; rw [e] at h1; cases h1
      · rw [if_neg hj]; exact ⟨h1, h2⟩
def keysX (ex : List Nat) : Mu → List Nat
  | [] => []
  | (k, _) :: r => bif hasK k ex then keysX ex r else k :: keysX ex r
/-- what lies still in a region -/
def Sr (G : AG) (r : PH) (w : World) : Prop := Fit r w ∧ ∀ k, hasK k G.ks = true → Fit (G.H k) w
theorem Sr.up {r : PH} {w w' : World} (hb : Below w.heap.size w w') (h : Sr G r w) : Sr G r w' := ⟨h.1.ext hb, fun k hk => (h.2 k hk).ext hb⟩
theorem Mem.sr (m : Mem E B mu w H) (g : G.ok B H) : Sr G E.r w := ⟨m.mm.fitr, fun k hk => by rw [← (g k hk).2]; exact (m.mm.fit k).fit⟩
theorem Mem.msR (m : Mem E B mu w H) (ks : List Nat) : Ms B E.r (muR ks mu) H := ⟨fun k c e => m.mm.sat k c (muR_get e).2, m.mm.dj, m.mm.djr⟩
theorem Sr.fw {w' : World} {r : PH} (g : G.ok B H) (h : Sr G r w') : Fw r (muR G.ks mu) H w' := ⟨fun k c e => by rw [(g k (muR_get e).1).2]; exact h.2 k (muR_get e).1, h.1⟩
/-- a region that draws -/
def DJ (G : AG) (E : Env) (all : List Oper) (Q : Exit → Act → World → Prop) (n : Nat) (tk : List Nat) (fr : Fr) (gf : GF) (mu : Mu) : Prop :=
  SJ G (Lw E.P all.toArray Q (Sr G E.r) n (mk all.toArray.size tk)) E fr gf mu
theorem T_draw {id : Nat} {l : List Oper} (ex : List Nat) (n : Nat) (hm : E.P.follows .mixedOrders = true) (hn : l.toArray.size = n) {ks : List Nat} (hks : keysX ex mu = ks) (h : ∀ B0 H0, DJ ⟨ks, B0, H0⟩ E l (KQ E.P R K) n [] fr [] mu) : T E R (.region id l.toArray true) fr mu K := fun B a w H f m => by
  subst hn
  refine wp_region_any hm ?_
  rw [mk_nil]
  exact (h B H B a _ H f (m.below (Keep.drew w).below) fun _ _ => ⟨rfl, rfl⟩).any
/-- an operation that leaves what there was is taken first -/
theorem DJ_first (hR : PQ R) (i : Nat) {n : Nat} {tk : List Nat} {o : Oper} (hi : nth all i = some o) (hB : takeB all.toArray tk i = true)
    (h : ∀ B a w H, FitsE E B H fr gf a → Mem E B mu w H → G.ok B H → ∃ v, Yi E.P all.toArray (Sr G E.r) o v a ∧ FitsE E B H fr' gf' (a.put o.dst v))
    (k : DJ G E all (KQ E.P R K) n (i :: tk) fr' gf' mu) : DJ G E all (KQ E.P R K) (n + 1) tk fr gf mu := fun B a w H f m gg => by
  simp only [takeB, Bool.and_eq_true] at hB
  obtain ⟨⟨⟨b1, b2⟩, b3⟩, b4⟩ := hB
  have hi' : all.toArray[i]? = some o := by rw [nth_eq] at hi; simpa using hi
  obtain ⟨v, hy, hf⟩ := h B a w H f m gg
  refine Lw_first (fun w w' hb m => m.up hb) hi' (Region.noSelect_spec b3) (fun c a w h => pq_K hR K c a _ _ w h) n _ a w (Region.free_spec hi' b2) (by simpa using b1) (closedL_spec b4) hy (m.sr gg) ?_
  rw [mk_set]
  exact k B _ w H hf m gg
theorem DJ_take (hT : TOk E.P TT) (hR : PQ R) (i : Nat) {n : Nat} {tk : List Nat} {o : Oper} {t : Nat} {x : SV} {q : Ob} (hi : nth all i = some o) (hB : takeB all.toArray tk i = true) (hg : o.guard = none) (hd : o.dst = some t) (ht : Nat.blt t E.N = true)
    (hp : pst TT fr gf (muR G.ks mu) [] o.op = some (x, q)) {es es' : List Prop} {gs gs' : List GO} (hs : splitO fr gf [] q es gs = some (es', gs')) (he : PAlls es') (ho : GAlls gs') (hgd : gdrop t gf = some gf')
    (k : DJ G E all (KQ E.P R K) n (i :: tk) ((t, x) :: fr) gf' mu) : DJ G E all (KQ E.P R K) (n + 1) tk fr gf mu :=
  DJ_first hR i hi hB (fun B a w H f m gg => by
    obtain ⟨v, r1, r2⟩ := pst_ok hT f (m.msR G.ks) (g := []) (fun _ _ hm => by cases hm) hp (splitO_ok f (fun _ _ hm => by cases hm) hs he ho)
    exact ⟨v, .inl ⟨wanted_none hg, fun w' s' => .inl (r1 w' (s'.fw gg))⟩, by rw [hd]; exact Fits.put f (by simpa [Nat.blt_eq] using ht) r2 hgd⟩) k
theorem DJ_takeG (hT : TOk E.P TT) (hR : PQ R) (i : Nat) {n : Nat} {tk : List Nat} {o : Oper} {t j d : Nat} {b : Bool} {x : SV} {q : Ob} (hi : nth all i = some o) (hB : takeB all.toArray tk i = true) (hg : o.guard = some (j, b)) (hsl : gSlot all j = some d) (hd : o.dst = some t) (ht : (Nat.blt t E.N && !(Nat.beq t d)) = true) (hn : mlk t fr = none)
    (hp : pst TT fr gf (muR G.ks mu) (acts 6 gf d b) o.op = some (x, q)) {es es' : List Prop} {gs gs' : List GO} (hs : splitO fr gf (acts 6 gf d b) q es gs = some (es', gs')) (he : PAlls es') (ho : GAlls gs') (hgd : gdrop t gf = some gf')
    (k : DJ G E all (KQ E.P R K) n (i :: tk) fr ((t, d, b, x) :: gf') mu) : DJ G E all (KQ E.P R K) (n + 1) tk fr gf mu :=
  DJ_first hR i hi hB (fun B a w H f m gg => by
    simp only [Bool.and_eq_true, Bool.not_eq_true'] at ht
    have htd : t ≠ d := Nat.ne_of_beq_eq_false ht.2
    have htN : t < E.N := by simpa [Nat.blt_eq] using ht.1
    have hw := wanted_some (ops := all.toArray) (a := a) hg (gslot_ops hsl)
    by_cases hyes : a.tmps.getD d undef = .bool b
    · have hacts := acts_ok f 6 d b hyes
      obtain ⟨v, r1, r2⟩ := pst_ok hT f (m.msR G.ks) hacts hp (splitO_ok f hacts hs he ho)
      refine ⟨v, .inl ⟨hw.2 hyes, fun w' s' => .inl (r1 w' (s'.fw gg))⟩, ?_⟩
      rw [hd]; exact Fits.putG f htN htd hn hgd (.inl ⟨hyes, r2⟩)
    · refine ⟨undef, .inr ⟨?_, rfl⟩, ?_⟩
      · cases e : Region.wanted o (yielded all.toArray a.tmps) with
        | false => rfl
        | true => exact absurd (hw.1 e) hyes
      · rw [hd]; exact Fits.putG f htN htd hn hgd (.inr ⟨hyes, rfl⟩)) k
/-- a value that is told whole -/
def exL : List V → Option (List Value)
  | [] => some []
  | .v x :: r => match exL r with
    | some l => some (x :: l)
    | none => none
  | _ :: _ => none
mutual
def exV : SV → Option Value
  | .a (.v x) => some x
  | .ag l => match exL l with
    | some m => some (.agg m.toArray)
    | none => none
  | .tu l => match exVs l with
    | some m => some (.tuple m.toArray)
    | none => none
  | _ => none
def exVs : List SV → Option (List Value)
  | [] => some []
  | x :: r => match exV x, exVs r with
    | some y, some l => some (y :: l)
    | _, _ => none
end
theorem exL_ok {Z : Tg → PH} : ∀ {l : List V} {m : List Value}, exL l = some m → ∀ {vs : List Value}, V.rels B Z l vs → vs = m
  | [], m, h, vs, e => by simp [exL] at h; subst h; exact e
  | .v x :: r, m, h, vs, e => by
    simp only [exL] at h
    cases c : exL r with
    | none => rw [c] at h; cases h
    | some l =>
      rw [c] at h; injection h with h; subst h
      obtain ⟨a, t, rfl, e2, e3⟩ := e
      have e2 : a = x := e2
      rw [e2, exL_ok c e3]
  | .s .. :: _, _, h, _, _ => by simp [exL] at h
  | .g .. :: _, _, h, _, _ => by simp [exL] at h
  | .p .. :: _, _, h, _, _ => by simp [exL] at h
  | .pe .. :: _, _, h, _, _ => by simp [exL] at h
  | .sb .. :: _, _, h, _, _ => by simp [exL] at h
  | .gl .. :: _, _, h, _, _ => by simp [exL] at h
  | .rp .. :: _, _, h, _, _ => by simp [exL] at h
  | .any :: _, _, h, _, _ => by simp [exL] at h
mutual
theorem exV_ok {P : Program} {Z : Tg → PH} : ∀ {x : SV} {y : Value}, exV x = some y → ∀ {v : Value}, SV.rel P B Z x v → v = y
  | .a (.v x), y, h, v, e => by simp [exV] at h; subst h; exact e
  | .ag l, y, h, v, e => by
    simp only [exV] at h
    cases c : exL l with
    | none => rw [c] at h; cases h
    | some m =>
      rw [c] at h; injection h with h; subst h
      obtain ⟨vs, rfl, e2⟩ := e
      rw [exL_ok c e2]
  | .tu l, y, h, v, e => by
    simp only [exV] at h
    cases c : exVs l with
    | none => rw [c] at h; cases h
    | some m =>
      rw [c] at h; injection h with h; subst h
      obtain ⟨vs, rfl, e2⟩ := e
      rw [exVs_ok c e2]
  | .a (.s ..), _, h, _, _ => by simp [exV] at h
  | .a (.g ..), _, h, _, _ => by simp [exV] at h
  | .a (.p ..), _, h, _, _ => by simp [exV] at h
  | .a (.pe ..), _, h, _, _ => by simp [exV] at h
  | .a (.sb ..), _, h, _, _ => by simp [exV] at h
  | .a (.gl ..), _, h, _, _ => by simp [exV] at h
  | .a (.rp ..), _, h, _, _ => by simp [exV] at h
  | .a .any, _, h, _, _ => by simp [exV] at h
  | .fn .., _, h, _, _ => by simp [exV] at h
  | .fb .., _, h, _, _ => by simp [exV] at h
  | .un, _, h, _, _ => by simp [exV] at h
theorem exVs_ok {P : Program} {Z : Tg → PH} : ∀ {x : List SV} {y : List Value}, exVs x = some y → ∀ {v : List Value}, SV.rels P B Z x v → v = y
  | [], y, h, v, e => by simp [exVs] at h; subst h; exact e
  | x :: r, y, h, v, e => by
    simp only [exVs] at h
    split at h
    · rename_i y' l c1 c2
      injection h with h; subst h
      obtain ⟨a, t, rfl, e2, e3⟩ := e
      rw [exV_ok c1 e2, exVs_ok c2 e3]
    · cases h
end
/-- a call that only answers -/
theorem DJ_q (hR : PQ R) (i : Nat) {n : Nat} {tk : List Nat} {o : Oper} {f : Nat} {ks : List Nat} {args : List SV} {mu1 : Mu} {res : SV} (C : Ans E.P f ks args mu1 res) {x : Value} (hx : exV res = some x) {svs args' : List SV} {g : Option (Nat × Nat × Bool)} {t : Nat} {q : Ob} {gd : Gd} {es : List Prop} {gs : List GO} (hi : nth all i = some o) (hB : takeB all.toArray tk i = true)
    (hc : callC E.N all fr gf o = some (f, svs, g, t, gf')) (hgd : gd = match g with | none => [] | some (_, d, b) => acts 6 gf d b) (hen : Enters E.P f) (hko : keysO mu1 = []) (hres : res.inK ks = true)
    (hw : wkSL (muR G.ks mu) [] ks svs = some (args', q)) (ha : SVs.imp E.P args' args) (hs : splitO fr gf gd q [] [] = some (es, gs)) (he : PAlls es) (ho : GAlls gs) (hin : WkIn (muR G.ks mu) mu1)
    (k : DJ G E all (KQ E.P R K) n (i :: tk) (frQ fr g t res) (gfQ gf' g t res) mu) : DJ G E all (KQ E.P R K) (n + 1) tk fr gf mu := by
  have go : ∀ {B a w H}, FitsE E B H fr gf a → Mem E B mu w H → G.ok B H → (∀ d w, (d, w) ∈ gd → a.tmps.getD d undef = .bool w) → callsOf gd fr gf o.op = some (f, svs) → SV.rel E.P B (Zf E.r H) res x ∧ ∀ w', Sr G E.r w' → Qu E.P (execOp a.eval o) x w' := fun {B a w H} ff m gg hgd0 hcall => by
    have main : ∀ w', Sr G E.r w' → ∃ vals : List Value, (execOp a.eval o).run E.P w' = .ok (.enter f vals.toArray) w' ∧ Calls E.P f vals.toArray w' fun e w2 => ∃ v, e = .returned v ∧ (∀ Z, SV.rel E.P B Z res v) ∧ Below w'.heap.size w' w2 := fun w' s' => by
      obtain ⟨vals, r1, r2⟩ := callsOf_run (w := w') ff hgd0 hcall hen
      have ms := m.msR G.ks
      have fw := s'.fw (mu := mu) gg
      exact ⟨vals, r1, ans_run C hko hres ⟨ms.sat, fw.fit, fw.fitr, ms.dj, ms.djr⟩ hw ha (splitO_ok ff hgd0 hs he ho) hin r2⟩
    refine ⟨?_, fun w' s' => ?_⟩
    · have : ∀ (r : SV) (x : Value), exV r = some x → SV.rel E.P B (Zf E.r H) r x := by
        intro r
        have hl : ∀ {l : List V} {m : List Value}, exL l = some m → V.rels B (Zf E.r H) l m := fun {l} => by
          induction l with
          | nil => intro m h; simp [exL] at h; subst h; rfl
          | cons y r ih =>
            intro m h
            cases y <;> simp only [exL] at h <;> first | (cases h; done) | skip
            cases c : exL r with
            | none => rw [c] at h; cases h
            | some l => rw [c] at h; injection h with h; subst h; exact ⟨_, _, rfl, rfl, ih c⟩
        refine SV.rec (motive_1 := fun r => ∀ (x : Value), exV r = some x → SV.rel E.P B (Zf E.r H) r x) (motive_2 := fun l => ∀ (m : List Value), exVs l = some m → SV.rels E.P B (Zf E.r H) l m) ?_ ?_ ?_ ?_ ?_ ?_ ?_ ?_ r
        · intro y x h
          cases y <;> simp [exV] at h
          subst h; rfl
        · intro l x h
          simp only [exV] at h
          cases c : exL l with
          | none => rw [c] at h; cases h
          | some m => rw [c] at h; injection h with h; subst h; exact ⟨m, rfl, hl c⟩
        · intro f l x h; simp [exV] at h
        · intro φ x h; simp [exV] at h
        · intro l ih x h
          simp only [exV] at h
          cases c : exVs l with
          | none => rw [c] at h; cases h
          | some m => rw [c] at h; injection h with h; subst h; exact ⟨m, rfl, ih m c⟩
        · intro x h; simp [exV] at h
        · intro m h; simp [exVs] at h; subst h; rfl
        · intro y l h1 h2 m h
          simp only [exVs] at h
          split at h
          · rename_i y' l' c1 c2
            injection h with h; subst h
            exact ⟨_, _, rfl, h1 _ c1, h2 _ c2⟩
          · cases h
      exact this _ _ hx
    · obtain ⟨vals, r1, r2⟩ := main w' s'
      exact .inr ⟨f, _, r1, r2.mono fun e w2 ⟨v, c1, c2, c3⟩ => ⟨by rw [c1, exV_ok hx (c2 (Zf E.r H))], c3⟩⟩
  match g, hc, hgd, k with
  | none, hc, hgd, k =>
    subst hgd
    obtain ⟨h1, h2, h3, h4, h5⟩ := callC_none hc
    refine DJ_first hR i hi hB (fun B a w H ff m gg => ?_) k
    obtain ⟨g1, g2⟩ := go ff m gg (fun _ _ hm => by cases hm) h4
    exact ⟨x, .inl ⟨wanted_none h1, g2⟩, by rw [h2]; exact Fits.put ff (by simpa [Nat.blt_eq] using h3) g1 h5⟩
  | some (j, d, b), hc, hgd, k =>
    subst hgd
    obtain ⟨h1, h2, h3, h4, h5, h6, h7⟩ := callC_some hc
    simp only [Bool.and_eq_true, Bool.not_eq_true'] at h4
    have htd : t ≠ d := Nat.ne_of_beq_eq_false h4.2
    have htN : t < E.N := by simpa [Nat.blt_eq] using h4.1
    refine DJ_first hR i hi hB (fun B a w H ff m gg => ?_) k
    have hwt := wanted_some (ops := all.toArray) (a := a) h1 (gslot_ops h2)
    by_cases hyes : a.tmps.getD d undef = .bool b
    · have hacts := acts_ok ff 6 d b hyes
      obtain ⟨g1, g2⟩ := go ff m gg hacts h6
      refine ⟨x, .inl ⟨hwt.2 hyes, g2⟩, ?_⟩
      rw [h3]; exact Fits.putG ff htN htd h5 h7 (.inl ⟨hyes, g1⟩)
    · refine ⟨undef, .inr ⟨?_, rfl⟩, ?_⟩
      · cases e : Region.wanted o (yielded all.toArray a.tmps) with
        | false => rfl
        | true => exact absurd (hwt.1 e) hyes
      · rw [h3]; exact Fits.putG ff htN htd h5 h7 (.inr ⟨hyes, rfl⟩)
/-- steps through operations by their numbers, as far as it can -/
def drun (TT : List TI) (N : Nat) (all : List Oper) (mu : Mu) : List Nat → Fr → GF → List Nat → List Prop → List GO → Option (List Nat × Fr × GF × List Nat × List Prop × List GO)
  | [], fr, gf, tk, es, gs => some ([], fr, gf, tk, es, gs)
  | i :: r, fr, gf, tk, es, gs => match nth all i with
    | none => none
    | some o => match o.guard with
      | none => match pst TT fr gf mu [] o.op, o.dst with
        | some (x, q), some t => match splitO fr gf [] q es gs, gdrop t gf with
          | some (es', gs'), some gf' => bif Nat.blt t N then drun TT N all mu r ((t, x) :: fr) gf' (i :: tk) es' gs' else none
          | _, _ => none
        | _, _ => some (i :: r, fr, gf, tk, es, gs)
      | some (j, w) => match gSlot all j with
        | some d => match pst TT fr gf mu (acts 6 gf d w) o.op, o.dst with
          | some (x, q), some t => match mlk t fr with
            | none => match splitO fr gf (acts 6 gf d w) q es gs, gdrop t gf with
              | some (es', gs'), some gf' => bif (Nat.blt t N && !(Nat.beq t d)) then drun TT N all mu r fr ((t, d, w, x) :: gf') (i :: tk) es' gs' else none
              | _, _ => none
            | some _ => none
          | _, _ => some (i :: r, fr, gf, tk, es, gs)
        | none => none
/-! ### drawn regions -/
def iota : Nat → Nat → List Nat
  | _, 0 => []
  | i, n + 1 => i :: iota (i + 1) n
def takeL {α : Type} : Nat → List α → List α
  | 0, _ => []
  | _, [] => []
  | n + 1, x :: r => x :: takeL n r
/-- each that was taken may be taken in its turn -/
def tookB (ops : Array Oper) : List Nat → List Nat → List Nat → Bool
  | [], _, _ => true
  | i :: is, is', tk => bif Nat.beq is.length.succ is'.length then true else (takeB ops tk i && tookB ops is is' (i :: tk))
theorem drun_took (hT : TOk E.P TT) (hR : PQ R) : ∀ (is : List Nat) (fr : Fr) (gf : GF) (tk : List Nat) (es : List Prop) (gs : List GO) {is' : List Nat} {fr' : Fr} {gf' : GF} {tk' : List Nat} {es' : List Prop} {gs' : List GO}, drun TT E.N all (muR G.ks mu) is fr gf tk es gs = some (is', fr', gf', tk', es', gs') → is'.length ≤ is.length ∧ (tookB all.toArray is is' tk = true → PAlls es' ∧ GAlls gs' →
    (PAlls es ∧ GAlls gs) ∧ (DJ G E all (KQ E.P R K) is'.length tk' fr' gf' mu → DJ G E all (KQ E.P R K) is.length tk fr gf mu))
  | [], fr, gf, tk, es, gs, is', fr', gf', tk', es', gs', h => by
    simp only [drun, Option.some.injEq, Prod.mk.injEq] at h
    obtain ⟨rfl, rfl, rfl, rfl, rfl, rfl⟩ := h
    exact ⟨Nat.le_refl _, fun _ ho => ⟨ho, id⟩⟩
  | i :: is, fr, gf, tk, es, gs, is', fr', gf', tk', es', gs', h => by
    have stop : some (i :: is, fr, gf, tk, es, gs) = some (is', fr', gf', tk', es', gs') → is'.length ≤ (i :: is).length ∧ (tookB all.toArray (i :: is) is' tk = true → PAlls es' ∧ GAlls gs' → (PAlls es ∧ GAlls gs) ∧ (DJ G E all (KQ E.P R K) is'.length tk' fr' gf' mu → DJ G E all (KQ E.P R K) (i :: is).length tk fr gf mu)) := fun h => by
      simp only [Option.some.injEq, Prod.mk.injEq] at h
      obtain ⟨rfl, rfl, rfl, rfl, rfl, rfl⟩ := h
      exact ⟨Nat.le_refl _, fun _ ho => ⟨ho, id⟩⟩
    have go : ∀ {fr2 gf2 es2 gs2}, drun TT E.N all (muR G.ks mu) is fr2 gf2 (i :: tk) es2 gs2 = some (is', fr', gf', tk', es', gs') → (takeB all.toArray tk i = true → PAlls es2 ∧ GAlls gs2 → (PAlls es ∧ GAlls gs) ∧ (DJ G E all (KQ E.P R K) is.length (i :: tk) fr2 gf2 mu → DJ G E all (KQ E.P R K) (is.length + 1) tk fr gf mu)) →
        is'.length ≤ (i :: is).length ∧ (tookB all.toArray (i :: is) is' tk = true → PAlls es' ∧ GAlls gs' → (PAlls es ∧ GAlls gs) ∧ (DJ G E all (KQ E.P R K) is'.length tk' fr' gf' mu → DJ G E all (KQ E.P R K) (i :: is).length tk fr gf mu)) := fun h2 hk => by
      obtain ⟨h3, h4⟩ := drun_took hT hR is _ _ _ _ _ h2
      refine ⟨Nat.le_trans h3 (by simp), fun hb ho => ?_⟩
      simp only [tookB] at hb
      have : Nat.beq is.length.succ is'.length = false := by
        cases e : Nat.beq is.length.succ is'.length with
        | false => rfl
        | true => have := Nat.eq_of_beq_eq_true e; omega
      rw [this] at hb
      simp only [cond_false, Bool.and_eq_true] at hb
      obtain ⟨h5, h6⟩ := h4 hb.2 ho
      obtain ⟨h7, h8⟩ := hk hb.1 h5
      exact ⟨h7, fun k => h8 (h6 k)⟩
    simp only [drun] at h
    split at h
    · cases h
    · rename_i o hi
      split at h
      · rename_i hg
        split at h
        · rename_i x q t hp hd
          split at h
          · rename_i es2 gs2 gf2 hs hgd
            cases hbt : Nat.blt t E.N with
            | false => rw [hbt] at h; cases h
            | true =>
              rw [hbt] at h
              simp only [cond_true] at h
              exact go h fun hb h1 => ⟨splitO_mono hs h1, fun k => DJ_take hT hR i hi hb hg hd hbt hp hs h1.1 h1.2 hgd k⟩
          · cases h
        · exact stop h
      · rename_i j w hg
        split at h
        · rename_i d hsl
          split at h
          · rename_i x q t hp hd
            split at h
            · rename_i hn
              split at h
              · rename_i es2 gs2 gf2 hs hgd
                cases hbt : (Nat.blt t E.N && !(Nat.beq t d)) with
                | false => rw [hbt] at h; cases h
                | true =>
                  rw [hbt] at h
                  simp only [cond_true] at h
                  exact go h fun hb h1 => ⟨splitO_mono hs h1, fun k => DJ_takeG hT hR i hi hb hg hsl hd hbt hn hp hs h1.1 h1.2 hgd k⟩
              · cases h
            · cases h
          · exact stop h
        · cases h
theorem iota_length : ∀ i n, (iota i n).length = n
  | _, 0 => rfl
  | i, n + 1 => by rw [iota, List.length_cons, iota_length]
theorem oneB_spec {tk : List Nat} {i : Nat} (h : oneB all.toArray tk i = true) : Region.ready .any all.toArray (mk all.toArray.size tk) = [i] := by
  unfold oneB at h
  split at h
  · rename_i j e; rw [e, Nat.eq_of_beq_eq_true h]
  · cases h
theorem One.mono {P : Program} {ops : Array Oper} {Q : Exit → Act → World → Prop} {o : Oper} {J J' : Act → World → Prop} {a : Act} {w : World} (hJ : ∀ a w, J a w → J' a w) (h : One P ops Q o J a w) : One P ops Q o J' a w := by
  unfold One at *
  split
  · rename_i hw
    rw [if_pos hw] at h
    exact h.imp (fun h => Oper.wp_mono hJ h) id
  · rename_i hw
    rw [if_neg hw] at h
    exact hJ _ _ h
/-- the only operation that may come up -/
theorem DJ_one (i : Nat) {n : Nat} {tk : List Nat} {o : Oper} {Q : Exit → Act → World → Prop} (hi : nth all i = some o) (hB : oneB all.toArray tk i = true) (h : OJ G E all Q (fun a' w' => Sr G E.r w' ∧ Lw E.P all.toArray Q (Sr G E.r) n (mk all.toArray.size (i :: tk)) a' w') o fr gf mu) : DJ G E all Q (n + 1) tk fr gf mu := fun B a w H f m gg w2 hb => by
  have hr := oneB_spec hB
  have hi' : all.toArray[i]? = some o := by rw [nth_eq] at hi; simpa using hi
  refine ⟨fun h0 => (by rw [hr] at h0; cases h0), fun j hj => ?_⟩
  rw [hr] at hj
  obtain rfl := List.mem_singleton.1 hj
  have h1 := One.mono (fun a' w' (h : Sr G E.r w' ∧ Lw E.P all.toArray Q (Sr G E.r) n (mk all.toArray.size (j :: tk)) a' w') => (⟨_, .inl rfl, h.1, h.2⟩ : ∃ S', (S' = Sr G E.r ∨ cmpB all.toArray j = true) ∧ S' w' ∧ Lw E.P all.toArray Q S' n (mk all.toArray.size (j :: tk)) a' w')) (h B a w2 H f (m.below hb) gg)
  unfold One at h1
  unfold wpOp
  rw [hi', mk_set]
  exact h1
/-- an operation that all others come ahead of or behind: what lies still may be other behind it -/
theorem DJ_sw (ks' : List Nat) (i : Nat) {n : Nat} {tk : List Nat} {o : Oper} {Q : Exit → Act → World → Prop} (hi : nth all i = some o) (hB : oneB all.toArray tk i = true) (hC : cmpB all.toArray i = true) (hs : ∀ k, hasK k ks' = true → hasK k G.ks = true) (h : OJ ⟨ks', G.B, G.H⟩ E all Q (fun a' w' => Sr ⟨ks', G.B, G.H⟩ E.r w' ∧ Lw E.P all.toArray Q (Sr ⟨ks', G.B, G.H⟩ E.r) n (mk all.toArray.size (i :: tk)) a' w') o fr gf mu) : DJ G E all Q (n + 1) tk fr gf mu := fun B a w H f m gg w2 hb => by
  have hr := oneB_spec hB
  have hi' : all.toArray[i]? = some o := by rw [nth_eq] at hi; simpa using hi
  refine ⟨fun h0 => (by rw [hr] at h0; cases h0), fun j hj => ?_⟩
  rw [hr] at hj
  obtain rfl := List.mem_singleton.1 hj
  have h1 := One.mono (fun a' w' (h : Sr ⟨ks', G.B, G.H⟩ E.r w' ∧ Lw E.P all.toArray Q (Sr ⟨ks', G.B, G.H⟩ E.r) n (mk all.toArray.size (j :: tk)) a' w') => (⟨_, .inr hC, h.1, h.2⟩ : ∃ S', (S' = Sr G E.r ∨ cmpB all.toArray j = true) ∧ S' w' ∧ Lw E.P all.toArray Q S' n (mk all.toArray.size (j :: tk)) a' w')) (h B a w2 H f (m.below hb) fun k hk => gg k (hs k hk))
  unfold One at h1
  unfold wpOp
  rw [hi', mk_set]
  exact h1
/-- one of two operations -/
theorem DJ_two (i j : Nat) {n : Nat} {tk : List Nat} {o p : Oper} {Q : Exit → Act → World → Prop} (hi : nth all i = some o) (hj : nth all j = some p) (hB : Region.ready .any all.toArray (mk all.toArray.size tk) = [i, j])
    (h : OJ G E all Q (fun a' w' => Sr G E.r w' ∧ Lw E.P all.toArray Q (Sr G E.r) n (mk all.toArray.size (i :: tk)) a' w') o fr gf mu)
    (h2 : OJ G E all Q (fun a' w' => Sr G E.r w' ∧ Lw E.P all.toArray Q (Sr G E.r) n (mk all.toArray.size (j :: tk)) a' w') p fr gf mu) : DJ G E all Q (n + 1) tk fr gf mu := fun B a w H f m gg w2 hb => by
  have hi' : all.toArray[i]? = some o := by rw [nth_eq] at hi; simpa using hi
  have hj' : all.toArray[j]? = some p := by rw [nth_eq] at hj; simpa using hj
  refine ⟨fun h0 => (by rw [hB] at h0; cases h0), fun k hk => ?_⟩
  rw [hB] at hk
  rcases List.mem_cons.1 hk with rfl | hk
  · have h1 := One.mono (fun a' w' (h : Sr G E.r w' ∧ Lw E.P all.toArray Q (Sr G E.r) n (mk all.toArray.size (k :: tk)) a' w') => (⟨_, .inl rfl, h.1, h.2⟩ : ∃ S', (S' = Sr G E.r ∨ cmpB all.toArray k = true) ∧ S' w' ∧ Lw E.P all.toArray Q S' n (mk all.toArray.size (k :: tk)) a' w')) (h B a w2 H f (m.below hb) gg)
    unfold One at h1
    unfold wpOp
    rw [hi', mk_set]
    exact h1
  · obtain rfl := List.mem_singleton.1 hk
    have h1 := One.mono (fun a' w' (h : Sr G E.r w' ∧ Lw E.P all.toArray Q (Sr G E.r) n (mk all.toArray.size (k :: tk)) a' w') => (⟨_, .inl rfl, h.1, h.2⟩ : ∃ S', (S' = Sr G E.r ∨ cmpB all.toArray k = true) ∧ S' w' ∧ Lw E.P all.toArray Q S' n (mk all.toArray.size (k :: tk)) a' w')) (h2 B a w2 H f (m.below hb) gg)
    unfold One at h1
    unfold wpOp
    rw [hj', mk_set]
    exact h1
/-- and on -/
theorem SJ_dj {n : Nat} {tk : List Nat} {Q : Exit → Act → World → Prop} (h : DJ G E all Q n tk fr gf mu) : SJ G (fun a' w' => Sr G E.r w' ∧ Lw E.P all.toArray Q (Sr G E.r) n (mk all.toArray.size tk) a' w') E fr gf mu := fun B a w H f m gg => ⟨m.sr gg, h B a w H f m gg⟩
/-- all has come up -/
theorem DJ_end {n : Nat} {tk : List Nat} (hr : (Region.ready .any all.toArray (mk all.toArray.size tk)).isEmpty = true) (h : X E R (nxN K) fr mu) : DJ G E all (KQ E.P R K) n tk fr gf mu := fun B a w H f m gg => by
  have hr' : Region.ready .any all.toArray (mk all.toArray.size tk) = [] := by simpa using hr
  have hq := fun w' hb => nxN_ok (h B a w' H (Fits.ungf f) (m.below hb))
  cases n with
  | zero => exact fun w' hb => ⟨hr', hq w' hb⟩
  | succ n => exact fun w' hb => ⟨fun _ => hq w' hb, fun i hi => by rw [hr'] at hi; cases hi⟩
theorem T_drawA (hT : TOk E.P TT) (ex : List Nat) {id : Nat} {l : List Oper} {ks is' tk' : List Nat} {es : List Prop} {gs : List GO} (hks : keysX ex mu = ks) (ha : drun TT E.N l (muR ks mu) (iota 0 l.length) fr [] [] [] [] = some (is', fr', gf', tk', es, gs))
    (k : ∀ B0 H0, DJ ⟨ks, B0, H0⟩ E l (KQ E.P R K) is'.length tk' fr' gf' mu) (hR : PQ R := by exact pq_body _ _) (hm : E.P.follows .mixedOrders = true := by kernel_rfl) (hb : tookB l.toArray (iota 0 l.length) is' [] = true := by kernel_rfl)
    (he : PAlls es := by repeat (first | exact trivial | refine And.intro rfl ?_)) (ho : GAlls gs := by first | exact trivial | ((simp only [GAlls, GO.p, InR]; (repeat' (first | exact trivial | refine And.intro ?_ ?_ | refine fun _ => ?_)) <;> first | omega | (simp only [decide_eq_true_eq, decide_eq_false_iff_not, Int.toNat_natCast] at *; omega) | (simp at *; omega)))) : T E R (.region id l.toArray true) fr mu K :=
  T_draw ex l.length hm (by simp) hks fun B0 H0 => by
    have := (drun_took (G := ⟨ks, B0, H0⟩) (K := K) hT hR _ _ _ _ _ _ ha).2 hb ⟨he, ho⟩
    rw [iota_length] at this
    exact this.2 (k B0 H0)
/-- a call that only answers, and on -/
theorem DJ_Q (hT : TOk E.P TT) {n : Nat} {tk is' tk' : List Nat} {f : Nat} {ks : List Nat} {args : List SV} {mu1 : Mu} {res : SV} (C : Ans E.P f ks args mu1 res) {svs args' : List SV} {g : Option (Nat × Nat × Bool)} {t : Nat} {q : Ob} {es0 es : List Prop} {gs0 gs : List GO} (hi : nth all tk.length = some o)
    (hc : callC E.N all fr gf o = some (f, svs, g, t, gf')) (hw : wkSL (muR G.ks mu) [] ks svs = some (args', q)) (hae : args' = args) (hs : splitO fr gf (match g with | none => [] | some (_, d, b) => acts 6 gf d b) q [] [] = some (es0, gs0)) {gf3 : GF}
    (ha : drun TT E.N all (muR G.ks mu) (iota (tk.length + 1) n) (frQ fr g t res) (gfQ gf' g t res) (tk.length :: tk) es0 gs0 = some (is', fr', gf3, tk', es, gs)) (k : DJ G E all (KQ E.P R K) is'.length tk' fr' gf3 mu)
    {x : Value} (hx : exV res = some x := by exact rfl) (hR : PQ R := by exact pq_body _ _) (hb : (takeB all.toArray tk tk.length && tookB all.toArray (iota (tk.length + 1) n) is' (tk.length :: tk)) = true := by kernel_rfl)
    (hko : keysO mu1 = [] := by exact rfl) (hres : res.inK ks = true := by exact rfl) (hin : WkIn (muR G.ks mu) mu1 := by repeat (first | exact trivial | refine And.intro ⟨_, rfl, ro_arr⟩ ?_ | refine And.intro ⟨_, rfl, ro_ro⟩ ?_ | refine And.intro ⟨_, rfl, ro_row⟩ ?_ | refine And.intro ⟨_, rfl, Ch.imp_refl _⟩ ?_)) (hen : Enters E.P f := by exact enters_B (by kernel_rfl)) (he : PAlls es := by repeat (first | exact trivial | refine And.intro rfl ?_)) (ho : GAlls gs := by first | exact trivial | ((simp only [GAlls, GO.p, InR]; (repeat' (first | exact trivial | refine And.intro ?_ ?_ | refine fun _ => ?_)) <;> first | omega | (simp only [decide_eq_true_eq, decide_eq_false_iff_not, Int.toNat_natCast] at *; omega) | (simp at *; omega)))) : DJ G E all (KQ E.P R K) (n + 1) tk fr gf mu := by
  simp only [Bool.and_eq_true] at hb
  subst hae
  obtain ⟨h3, h2⟩ := (drun_took (G := G) (K := K) hT hR _ _ _ _ _ _ ha).2 hb.2 ⟨he, ho⟩
  have h2 := h2 k
  rw [iota_length] at h2
  exact DJ_q hR _ C hx hi hb.1 hc rfl hen hko hres hw (SVs.imp_refl _) hs h3.1 h3.2 hin h2
/-- soft operations behind a hard one -/
theorem DJ_on (hT : TOk E.P TT) {n : Nat} {tk is' tk' : List Nat} {es : List Prop} {gs : List GO} (ha : drun TT E.N all (muR G.ks mu) (iota tk.length n) fr gf tk [] [] = some (is', fr', gf', tk', es, gs)) (k : DJ G E all (KQ E.P R K) is'.length tk' fr' gf' mu) (hR : PQ R := by exact pq_body _ _) (hb : tookB all.toArray (iota tk.length n) is' tk = true := by kernel_rfl)
    (he : PAlls es := by repeat (first | exact trivial | refine And.intro rfl ?_)) (ho : GAlls gs := by first | exact trivial | ((simp only [GAlls, GO.p, InR]; (repeat' (first | exact trivial | refine And.intro ?_ ?_ | refine fun _ => ?_)) <;> first | omega | (simp only [decide_eq_true_eq, decide_eq_false_iff_not, Int.toNat_natCast] at *; omega) | (simp at *; omega)))) : DJ G E all (KQ E.P R K) n tk fr gf mu := by
  have h2 := ((drun_took (G := G) (K := K) hT hR _ _ _ _ _ _ ha).2 hb ⟨he, ho⟩).2 k
  rw [iota_length] at h2
  exact h2
theorem DJ_endA (hT : TOk E.P TT) {n : Nat} {tk : List Nat} {js : JS} {es : List Prop} {gs : List GO} (ha : goNx (auto TT E.N E.A.ks 400) (nxN K) fr mu [] [] = some (js, es, gs)) (k : js.ok E R) (hr : (Region.ready .any all.toArray (mk all.toArray.size tk)).isEmpty = true := by kernel_rfl)
    (he : PAlls es := by repeat (first | exact trivial | refine And.intro rfl ?_)) (ho : GAlls gs := by first | exact trivial | ((simp only [GAlls, GO.p, InR]; (repeat' (first | exact trivial | refine And.intro ?_ ?_ | refine fun _ => ?_)) <;> first | omega | (simp only [decide_eq_true_eq, decide_eq_false_iff_not, Int.toNat_natCast] at *; omega) | (simp at *; omega)))) : DJ G E all (KQ E.P R K) n tk fr gf mu := DJ_end hr ((goNx_ok (auto_ok hT 400) ha ⟨he, ho⟩).2 k)
end
end
end Go.Proofs.YtpfcfepbhdkpdaaGreat
