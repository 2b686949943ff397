
/-
  A slice against nil; append of what is read; make; literals.
-/
import Derived.Test.YtiegllklalplnaaGreatW17f
namespace Go.Proofs.YtiegllklalplnaaGreat
open Go Go.RowKit
set_option linter.unusedVariables false
set_option linter.unusedSimpArgs false

/-- the cells of a literal's parts, laid over zeros -/
def bsV (sz : Nat) : List (Nat × SV) → List V → Option (List V)
  | [], l => some l
  | (i, x) :: r, l => match x.cells with
    | some vs => bif lenEq vs sz then match paste l (i * sz) vs with
        | some l' => bsV sz r l'
        | none => none
      else none
    | none => none
/-- cells that an array takes for its own: values, and arrays that are owned -/
def absL (mu : Mu) : List V → Option (List D × List Nat)
  | [] => some ([], [])
  | .v x :: r => match absL mu r with
    | some (l, ks) => bif oneV x then some (.v x :: l, ks) else none
    | none => none
  | .g k :: r => match mlk k mu, absL mu r with
    | some (.arr sz n f), some (l, ks) => bif hasK k ks then none else some (.sl sz n f :: l, k :: ks)
    | _, _ => none
  | _ :: _ => none
def unK (H : Nat → PH) : List Nat → PH
  | [] => PH.emp
  | k :: r => (H k).un (unK H r)
theorem unK_dj {H : Nat → PH} (d : ∀ j k, j ≠ k → (H j).dj (H k)) {k : Nat} : ∀ {ks : List Nat}, hasK k ks = false → (H k).dj (unK H ks)
  | [], _ => PH.dj_emp _
  | j :: r, h => by
    simp only [hasK] at h
    cases c : Nat.beq j k with
    | true => rw [c] at h; cases h
    | false =>
      rw [c] at h
      exact PH.dj_un (d k j (fun e => by rw [e, Nat.beq_refl] at c; cases c)) (unK_dj d h)
theorem unK_fit {H : Nat → PH} {w : World} (f : ∀ k, Fit (H k) w) : ∀ ks : List Nat, Fit (unK H ks) w
  | [] => Fit.emp w
  | k :: r => (f k).un (unK_fit f r)
theorem unK_ne {H : Nat → PH} {b o : Nat} : ∀ {ks : List Nat}, unK H ks b o ≠ none → ∃ k, hasK k ks = true ∧ H k b o ≠ none
  | [], h => absurd rfl h
  | k :: r, h => by
    rcases PH.un_ne h with h | h
    · exact ⟨k, by simp [hasK, Nat.beq_refl], h⟩
    · obtain ⟨j, j1, j2⟩ := unK_ne h
      exact ⟨j, by simp only [hasK, j1]; cases Nat.beq k j <;> rfl, j2⟩
theorem absL_ok {B : BE} {r : PH} {mu : Mu} {w : World} {H : Nat → PH} (m : Mm B r mu w H) {Z : Tg → PH} : ∀ {l : List V} {ds : List D} {ks : List Nat}, absL mu l = some (ds, ks) → ∀ {vs : List Value}, V.rels B Z l vs → D.owns (unK H ks) ds vs
  | [], ds, ks, h, vs, e => by simp [absL] at h; obtain ⟨rfl, rfl⟩ := h; exact e
  | x :: l, ds, ks, h, vs, e => by
    obtain ⟨v, t, rfl, e2, e3⟩ := e
    cases x with
    | v x =>
      simp only [absL] at h
      split at h
      · rename_i l' ks' c
        cases c2 : oneV x with
        | false => rw [c2] at h; cases h
        | true =>
          rw [c2] at h; simp at h; obtain ⟨rfl, rfl⟩ := h
          exact ⟨v, t, PH.emp, _, rfl, PH.emp_le _, PH.le_refl _, PH.emp_dj _, e2, absL_ok m c e3⟩
      · cases h
    | g k =>
      simp only [absL] at h
      split at h
      · rename_i sz n f l' ks' c1 c
        cases c2 : hasK k ks' with
        | true => rw [c2] at h; cases h
        | false =>
          rw [c2] at h; simp at h; obtain ⟨rfl, rfl⟩ := h
          have d := unK_dj m.dj c2
          have e2 : v = B k := e2.1
          refine ⟨v, t, H k, unK H ks', rfl, PH.le_un_left _ _, PH.le_un_right d, d, ?_, absL_ok m c e3⟩
          rw [e2]; exact m.sat k _ c1
      · cases h
    | _ => simp [absL] at h
theorem absL_one {B : BE} {mu : Mu} {Z : Tg → PH} : ∀ {l : List V} {ds : List D} {ks : List Nat}, absL mu l = some (ds, ks) → ∀ {vs : List Value}, V.rels B Z l vs → ∀ v ∈ vs, oneV v = true
  | [], ds, ks, h, vs, e, v, hv => by have e : vs = [] := e; rw [e] at hv; cases hv
  | x :: l, ds, ks, h, vs, e, u, hu => by
    obtain ⟨v, t, rfl, e2, e3⟩ := e
    cases x with
    | v x =>
      simp only [absL] at h
      split at h
      · rename_i l' ks' c
        cases c2 : oneV x with
        | false => rw [c2] at h; cases h
        | true =>
          cases hu with
          | head => have e2 : u = x := e2; rw [e2]; exact c2
          | tail _ hu => exact absL_one c e3 u hu
      · cases h
    | g k =>
      simp only [absL] at h
      split at h
      · rename_i sz n f l' ks' c1 c
        cases hu with
        | head => exact e2.2
        | tail _ hu => exact absL_one c e3 u hu
      · cases h
    | _ => simp [absL] at h
theorem owns_split {h : PH} : ∀ {l m : List D} {vs : List Value}, D.owns h (l ++ m) vs → ∃ v1 v2 h1 h2, vs = v1 ++ v2 ∧ h1.le h ∧ h2.le h ∧ h1.dj h2 ∧ D.owns h1 l v1 ∧ D.owns h2 m v2
  | [], m, vs, e => ⟨[], vs, PH.emp, h, rfl, PH.emp_le _, PH.le_refl _, PH.emp_dj _, rfl, e⟩
  | x :: l, m, vs, e => by
    obtain ⟨a, t, g1, g2, rfl, e2, e3, e4, e5, e6⟩ := e
    obtain ⟨v1, v2, h1, h2, rfl, q1, q2, q3, q4, q5⟩ := owns_split e6
    exact ⟨a :: v1, v2, g1.un h1, h2, rfl, PH.un_le e2 (PH.le_trans q1 e3), PH.le_trans q2 e3, PH.un_dj (PH.dj_le e4 (PH.le_refl _) q2) q3, ⟨a, v1, g1, h1, rfl, PH.le_un_left _ _, PH.le_un_right (PH.dj_le e4 (PH.le_refl _) q1), PH.dj_le e4 (PH.le_refl _) q1, e5, q4⟩, q5⟩
theorem owns_rows (sz : Nat) : ∀ (n : Nat) {h : PH} {F : List D} {vs : List Value}, D.owns h F vs → F.length = n * sz → ∃ G : Nat → PH, (∀ i, (G i).le h) ∧ (∀ i j, i ≠ j → (G i).dj (G j)) ∧ ∀ i, i < n → D.owns (G i) ((F.drop (i * sz)).take sz) ((vs.drop (i * sz)).take sz)
  | 0, h, F, vs, e, hl => ⟨fun _ => PH.emp, fun _ => PH.emp_le _, fun _ _ _ => PH.emp_dj _, fun i hi => absurd hi (Nat.not_lt_zero _)⟩
  | n + 1, h, F, vs, e, hl => by
    rw [← List.take_append_drop sz F] at e
    obtain ⟨v1, v2, h1, h2, rfl, q1, q2, q3, q4, q5⟩ := owns_split e
    rw [Nat.add_mul, Nat.one_mul] at hl
    have l1 : v1.length = sz := by rw [D.owns_length q4, List.length_take]; omega
    obtain ⟨G, g1, g2, g3⟩ := owns_rows sz n q5 (by rw [List.length_drop]; omega)
    refine ⟨fun i => match i with | 0 => h1 | i + 1 => G i, fun i => ?_, fun i j hij => ?_, fun i hi => ?_⟩
    · cases i with
      | zero => exact q1
      | succ i => exact PH.le_trans (g1 i) q2
    · cases i with
      | zero =>
        cases j with
        | zero => exact absurd rfl hij
        | succ j => exact PH.dj_le q3 (PH.le_refl _) (g1 j)
      | succ i =>
        cases j with
        | zero => exact PH.dj_symm (PH.dj_le q3 (PH.le_refl _) (g1 i))
        | succ j => exact g2 i j (by omega)
    · cases i with
      | zero =>
        simp only [Nat.zero_mul, List.drop_zero]
        rw [← l1, List.take_left, l1]; exact q4
      | succ i =>
        have := g3 i (by omega)
        rw [List.drop_drop] at this
        have e2 : sz + i * sz = (i + 1) * sz := by rw [Nat.add_mul, Nat.one_mul]; omega
        have e3 : (v1 ++ v2).drop ((i + 1) * sz) = v2.drop (i * sz) := by rw [← e2, List.drop_append, List.drop_eq_nil_of_le (by omega), List.nil_append]; congr 1; omega
        rw [e2] at this
        show D.owns (G i) _ (((v1 ++ v2).drop ((i + 1) * sz)).take sz)
        rw [e3]; exact this
theorem fill_bsV {P : Program} {B : BE} {Z : Tg → PH} {sz : Nat} : ∀ {ps : List (Nat × SV)} {qs : List (Nat × Value)} {l m : List V} {vs : List Value}, (qs.map (·.1) = ps.map (·.1)) → SV.rels P B Z (ps.map (·.2)) (qs.map (·.2)) → V.rels B Z l vs → bsV sz ps l = some m → ∃ ms, Instr.fill (fun i => some (i * sz, sz)) vs.toArray qs = some ms.toArray ∧ V.rels B Z m ms
  | [], qs, l, m, vs, hq, _, hl, h => by
    have : qs = [] := by simpa using hq
    subst this
    simp [bsV] at h; subst h; exact ⟨vs, rfl, hl⟩
  | (i, x) :: r, [], l, m, vs, hq, hr, hl, h => by simp at hq
  | (i, x) :: r, (i', y) :: qs, l, m, vs, hq, hr, hl, h => by
    simp only [List.map_cons, List.cons.injEq] at hq
    obtain ⟨rfl, hq⟩ := hq
    obtain ⟨y', t', e0, hx, hr⟩ := hr
    simp only [List.map_cons, List.cons.injEq] at e0
    obtain ⟨rfl, rfl⟩ := e0
    simp only [bsV] at h
    split at h
    · rename_i cs e2
      cases e4 : lenEq cs sz with
      | false => rw [e4] at h; cases h
      | true =>
        rw [e4] at h
        simp only [cond_true] at h
        split at h
        · rename_i l' e5
          have hc := cells_rel e2 hx
          have hlen := lenEq_spec _ _ e4
          have hsz : y.cells.size = sz := by rw [← Array.length_toList, V.rels_length hc]; exact hlen
          obtain ⟨ms, g1, g2⟩ := paste_rels hl hc e5
          obtain ⟨p1, p2, _, _⟩ := paste_spec _ _ _ _ g1
          have hA : y.cells = y.cells.toList.toArray := by simp
          simp only [Instr.fill]
          rw [if_neg (by
            simp only [hsz, ne_eq, not_true_eq_false, decide_false, Bool.false_or, decide_eq_true_eq, List.size_toArray]
            have h9 : y.cells.toList.length = sz := by rw [Array.length_toList]; exact hsz
            omega)]
          rw [hA, paste_fold g1]
          exact fill_bsV hq hr g2 h
        · cases h
    · cases h
theorem bsV_length {sz : Nat} : ∀ {ps : List (Nat × SV)} {l m : List V}, bsV sz ps l = some m → m.length = l.length
  | [], l, m, h => by simp [bsV] at h; rw [h]
  | (i, x) :: r, l, m, h => by
    simp only [bsV] at h
    split at h
    · rename_i cs e2
      cases e4 : lenEq cs sz with
      | false => rw [e4] at h; cases h
      | true =>
        rw [e4] at h
        simp only [cond_true] at h
        split at h
        · rename_i l' e5
          obtain ⟨p1, p2, _, _⟩ := paste_spec _ _ _ _ e5
          rw [bsV_length h, p1]
        · cases h
    · cases h
theorem absL_length {mu : Mu} : ∀ {l : List V} {ds : List D} {ks : List Nat}, absL mu l = some (ds, ks) → ds.length = l.length
  | [], ds, ks, h => by simp [absL] at h; rw [h.1]; rfl
  | x :: l, ds, ks, h => by
    cases x with
    | v x =>
      simp only [absL] at h
      split at h
      · rename_i l' ks' c
        cases c2 : oneV x with
        | false => rw [c2] at h; cases h
        | true => rw [c2] at h; simp at h; obtain ⟨rfl, rfl⟩ := h; simp [absL_length c]
      · cases h
    | g k =>
      simp only [absL] at h
      split at h
      · rename_i sz n f l' ks' c1 c
        cases c2 : hasK k ks' with
        | true => rw [c2] at h; cases h
        | false => rw [c2] at h; simp at h; obtain ⟨rfl, rfl⟩ := h; simp [absL_length c]
      · cases h
    | _ => simp [absL] at h
theorem zerosV_length (zs : List Value) : ∀ n, (zerosV zs n).length = n * zs.length
  | 0 => by simp [zerosV]
  | n + 1 => by rw [zerosV, List.length_append, List.length_map, zerosV_length zs n, Nat.add_mul, Nat.one_mul, Nat.add_comm]
def zeroL (zs : List Value) : Nat → List Value
  | 0 => []
  | n + 1 => zs ++ zeroL zs n
theorem zeroL_length (zs : List Value) : ∀ n, (zeroL zs n).length = n * zs.length
  | 0 => by simp [zeroL]
  | n + 1 => by rw [zeroL, List.length_append, zeroL_length zs n, Nat.add_mul, Nat.one_mul, Nat.add_comm]
theorem zeroL_get {zs : List Value} : ∀ {n i : Nat}, i < n * zs.length → (zeroL zs n)[i]? = zs[i % zs.length]?
  | 0, i, h => by omega
  | n + 1, i, h => by
    rw [zeroL]
    by_cases c : i < zs.length
    · rw [List.getElem?_append_left c, Nat.mod_eq_of_lt c]
    · rw [Nat.add_mul, Nat.one_mul] at h
      rw [List.getElem?_append_right (by omega), zeroL_get (by omega)]
      congr 1
      exact (Nat.mod_eq_sub_mod (by omega)).symm
theorem zerosV_rels {B : BE} {Z : Tg → PH} (zs : List Value) : ∀ n, V.rels B Z (zerosV zs n) (zeroL zs n)
  | 0 => rfl
  | n + 1 => V.rels_append (rels_v zs) (zerosV_rels zs n)
theorem fill_zero {zs : List Value} {n sz : Nat} (hz : zs.length = sz) (hpos : 0 < sz) : (Array.range (n * sz)).map ((if n * sz = 0 then (#[] : Array Value) else zs.toArray)[· % (if n * sz = 0 then (#[] : Array Value) else zs.toArray).size]!) = (zeroL zs n).toArray := by
  apply Array.ext_getElem?
  intro j
  rw [Array.getElem?_map]
  by_cases hj : j < n * sz
  · have hne : n * sz ≠ 0 := by omega
    rw [Array.getElem?_range, if_pos hj]
    simp only [hne, if_false, Option.map_some, List.getElem?_toArray]
    rw [zeroL_get (by rw [hz]; exact hj)]
    have hm : j % zs.length < zs.length := Nat.mod_lt _ (by omega)
    simp [hm]
  · rw [Array.getElem?_range, if_neg hj]
    simp only [Option.map_none, List.getElem?_toArray]
    rw [List.getElem?_eq_none (by rw [zeroL_length, hz]; omega)]
section
variable {E : Env} {B : BE} {mu mu' : Mu} {w : World} {H : Nat → PH} {TT : List TI} {fr fr' : Fr} {gf gf' : GF} {a : Act} {all rest : List Oper} {Q : Exit → Act → World → Prop} {o : Oper} {J : Act → World → Prop} {G : AG} {R : Exit → Act → World → Prop} {K : List KF}
theorem evParts_rel (f : FitsE E B H fr gf a) {g : Gd} (hg : ∀ d w, (d, w) ∈ g → a.tmps.getD d undef = .bool w) : ∀ {l : List (Nat × Operand)} {ps : List (Nat × SV)}, evParts g fr gf l = some ps → ((l.map fun p => (p.1, a.eval p.2)).map (·.1) = ps.map (·.1)) ∧ SV.rels E.P B (Zf E.r H) (ps.map (·.2)) ((l.map fun p => (p.1, a.eval p.2)).map (·.2))
  | [], ps, h => by simp [evParts] at h; subst h; exact ⟨rfl, rfl⟩
  | (i, x) :: l, ps, h => by
    simp only [evParts] at h
    split at h
    · rename_i y l' e1 e2
      injection h with h; subst h
      obtain ⟨h1, h2⟩ := evParts_rel f hg e2
      simp only [List.map_cons]
      exact ⟨by rw [h1], _, _, rfl, f.ev hg e1, h2⟩
    · cases h
/-- a slice against nil: it may be nil if it has no element -/
theorem OJ_nil (hT : TOk E.P TT) {t0 ty : Nat} {x y : Operand} {yt : TypeId} {op : BinOp} (ne : Bool) {sx : V} {q : Tg} {sz n : Nat} {f : Nat → List D} {ob : Ob} {n0 c0 : Nat} {id sz1 by1 e : Nat} {z : Value} {ef : Bool}
    (hop : o.op = .binOp op ty x y yt) (hx : ev [] fr gf x = some (.a sx)) (hy : ev [] fr gf y = some (.a (.v (.slice none n0 c0)))) (h1 : tlk ty TT = some ⟨id, sz1, by1, .slc e, z, ef⟩) (hs : slR mu sx = some (q, sz, n, f, ob)) (hgd : gdrop t0 gf = some gf')
    (k : ∀ b : Bool, (b = true → n = 0) → SJ G J E ((t0, .a (.v (.bool (bif ne then !b else b)))) :: fr) gf' mu) (hne : op = (bif ne then .neq else .eql) := by exact rfl) (hob : Alls ob := by repeat (first | exact trivial | refine And.intro rfl ?_)) (hg : o.guard = none := by exact rfl) (hd : o.dst = some t0 := by exact rfl) (ht : Nat.blt t0 E.N = true := by exact rfl) : OJ G E all Q J o fr gf mu := fun B a w H ff mm gg => by
  obtain ⟨t1, t2⟩ := hT.get h1
  obtain ⟨d, d1, d2⟩ := t2.desc
  simp only at t1 d1 d2
  subst t1
  obtain rfl := shapeK_slc d2
  have hr := slR_spec mm.mr.ms hs hob (show sx.rel B (Zf E.r H) (a.eval x) from ff.ev (g := []) (fun _ _ hm => by cases hm) hx)
  have ey : a.eval y = _ := ff.ev (g := []) (fun _ _ hm => by cases hm) hy
  obtain ⟨A, c, ex, e0⟩ := fit_slice hr
  refine one_val (wanted_none hg) (v := .bool (bif ne then !A.isNone else A.isNone)) (w' := w) ?_ ?_
  · obtain ⟨dst, op', type, pos, after, guard⟩ := o
    simp only at hop
    subst hop
    simp only [execOp, ex, ey]
    refine run_value ?_
    subst hne
    cases ne with
    | true =>
      show (do eqGuard .neq _ x y _ _; binOp .neq _ _ _ : Sem Value).run E.P w = _
      rw [Sem.run_bind, eqGuard_plain rfl, Result.andThen_ok]
      simp only [binOp, Sem.run_bind, equal_slice d1, Result.andThen_ok, Sem.run_pure, cond_true]
    | false =>
      show (do eqGuard .eql _ x y _ _; binOp .eql _ _ _ : Sem Value).run E.P w = _
      rw [Sem.run_bind, eqGuard_plain rfl, Result.andThen_ok]
      simp only [binOp, Sem.run_bind, equal_slice d1, Result.andThen_ok, Sem.run_pure, cond_false]
  · rw [hd]
    exact k A.isNone (fun h => by
      rcases Nat.eq_zero_or_pos n with h2 | h2
      · exact h2
      · rw [e0 h2] at h; cases h) B _ w H (Fits.put ff (by simpa [Nat.blt_eq] using ht) (show SV.rel _ _ _ (.a (.v _)) _ from rfl) hgd) mm gg
theorem Zf_fit (m : Mem E B mu w H) (q : Tg) : Fit (Zf E.r H q) w := by
  cases q with
  | k j => exact m.mm.fit j
  | _ => exact m.mm.fitr
def flatB (g : Nat → List D) (i : Nat) : List Value := (flatDs (g i)).getD []
/-- append: what is read, flat -/
theorem OJ_appC (hT : TOk E.P TT) (k k' : Nat) {t0 ts tx : Nat} {s x : Operand} {n m : Nat} {f g : Nat → List D} {id sz1 by1 e : Nat} {z : Value} {ef : Bool} {te ti2 : TI} {md : Mu} {fr' : Fr} {gf2 : GF} {vx : V} {q : Tg} {ob : Ob}
    (hop : o.op = .call { callee := .builtin .append, args := #[s, x], argTypes := #[ts, tx] }) (hs : ev [] fr gf s = some (.a (.g k))) (hx : ev [] fr gf x = some (.a vx)) (h1 : tlk ts TT = some ⟨id, sz1, by1, .slc e, z, ef⟩) (h2 : tlk e TT = some te) (h3 : tlk tx TT = some ti2) (h4 : ti2.kind = .slc e) (hk : mlk k mu = some (.arr te.sz n f)) (hkx : slR mu vx = some (q, te.sz, m, g, ob)) (hgd : gdrop t0 gf = some gf')
    (hmd : mdropKs [k, k'] mu = some md) (hcut : cutKs [k] fr gf' = some (fr', gf2)) (hb : (n + m) * te.by_ ≤ 140737488355328 ∧ n + m ≤ maxL)
    (kk : SJ G J E ((t0, .a (.g k')) :: fr') gf2 ((k', .arr te.sz (n + m) (appD n f g)) :: md)) (hone : ∀ i, i < m → ∃ l, flatDs (g i) = some l := by exact fun _ _ => ⟨_, rfl⟩) (hz : (vcells te.zero).map (·.length) = some te.sz := by exact rfl) (hpos : 0 < te.sz := by exact Nat.lt_of_sub_eq_succ rfl) (hkeys : keysB [k] [k'] [(k, .arr te.sz n f)] fr gf mu E.A.ks G.ks = true := by exact rfl) (hne : hasK k' [k] = false := by exact rfl) (hob : Alls ob := by repeat (first | exact trivial | refine And.intro rfl ?_))
    (hg : o.guard = none := by exact rfl) (hd : o.dst = some t0 := by exact rfl) (ht : Nat.blt t0 E.N = true := by exact rfl) : OJ G E all Q J o fr gf mu := by
  refine OJ_B (ι := Unit) (ks := [k]) (nk := [k']) (mu1 := [(k, .arr te.sz n f)]) (φ := fun _ => True) (res := fun _ => .a (.g k')) (mu1' := fun _ => [(k', .arr te.sz (n + m) (appD n f g))]) (fun B a w H ff mm => ?_) hg hd ht hgd (fun _ => rfl) hkeys (fun _ => ?_) hmd hcut fun _ _ => kk
  · obtain ⟨d1, u2⟩ := slc_of hT h1 h2
    obtain ⟨v1, v2⟩ := hT.get h3
    obtain ⟨dx, dx1, dx2⟩ := v2.desc
    rw [h4] at dx2
    obtain rfl := shapeK_slc dx2
    rw [v1] at dx1
    have e1 : a.eval s = B k := (show _ ∧ _ from ff.ev (g := []) (fun _ _ hm => by cases hm) hs).1
    have sk : D.own (H k) (.sl te.sz n f) (B k) := mm.mm.sat k _ hk
    have hr := slR_spec mm.mr.ms hkx hob (show vx.rel B (Zf E.r H) (a.eval x) from ff.ev (g := []) (fun _ _ hm => by cases hm) hx)
    obtain ⟨A, c, ex, _, _, hcells⟩ := (show D.rd _ (.sl te.sz m g) _ from hr)
    have hrow : ∀ i, i < m → g i = (flatB g i).map D.v ∧ ∀ u ∈ flatB g i, oneV u = true := fun i hi => by
      obtain ⟨l, hl⟩ := hone i hi
      have := flatDs_ok hl
      unfold flatB
      rw [hl]; exact this
    have hlies : 0 < m → ∃ b o, A = some ⟨b, o, none⟩ ∧ ∀ i, i < m → (flatB g i).length = te.sz ∧ ∀ j, j < te.sz → Zf E.r H q b (o + i * te.sz + j) = (flatB g i)[j]? := fun h0 => by
      rcases hcells with h | ⟨b, o, rfl, hr⟩
      · omega
      · refine ⟨b, o, rfl, fun i hi => ?_⟩
        obtain ⟨row, r1, r2, r3⟩ := hr i hi
        rw [(hrow i hi).1] at r1
        rw [flat_rds r1] at r2 r3
        exact ⟨r2, r3⟩
    have src : Src E.P te.sz tx (a.eval x) m (flatR (flatB g) m) w := by
      rw [ex]
      exact Src_rd dx1 hlies (Zf_fit mm q) hpos fun i hi => (hrow i hi).2
    obtain ⟨v, w', h', r1, r2, r3, r4, r5, r6⟩ := run_appD (P := E.P) (w := w) (ty := o.type) d1 u2 hpos (zero_sz hz) sk (mm.mm.fit k) src (G := fun _ => PH.emp) (hx := PH.emp) (g := g) (fun i hi => ⟨by rw [(hrow i hi).1]; exact flat_owns, (hlies (by omega)).elim fun b h => h.elim fun o h => (h.2 i hi).1⟩) (fun i _ => PH.emp_le _) (fun _ _ _ => PH.emp_dj _) (Fit.emp _) (PH.dj_emp _) hb.1 hb.2
    refine ⟨(), v, w', _, _, ?_, Ret1.new (AllP_fit mm.mm) hne (onlyK_dj mm _) r2 r3 r4 (r5.mono fun b _ o h => ⟨k, by simp [keysO, Ch.own?, hasK, Nat.beq_refl], by unfold onlyK; simp only [keysO, Ch.own?, cond_true, hasK, Nat.beq_refl]; exact h⟩) fun b o h => ?_⟩
    · obtain ⟨dst, op, type, pos, after, guard⟩ := o
      simp only at hop r1
      subst hop
      simp only [execOp, resolve, Sem.run_bind, Sem.run_pure, Result.andThen_ok, invoke, builtin, List.map_toArray, List.map_cons, List.map_nil, e1, r1]
    · rcases r6 b o h with h | h | h
      · exact .inl ⟨k, by simp [keysO, Ch.own?, hasK, Nat.beq_refl], by unfold onlyK; simp only [keysO, Ch.own?, cond_true, hasK, Nat.beq_refl]; exact h⟩
      · exact absurd rfl h
      · exact .inr h
  · simp [SV.inK, V.inK, muIn, Ch.own?, Ch.rowL, allL, appK, hasK, Nat.beq_refl]
/-- an array that a literal makes -/
theorem OJ_bs (hT : TOk E.P TT) (k' : Nat) {t0 ts n : Nat} {parts : Array (Nat × Operand)} {ps : List (Nat × SV)} {id sz1 by1 e : Nat} {z : Value} {ef : Bool} {te : TI} {F0 : List V} {F : List D} {ks : List Nat} {mu1 md : Mu} {fr' : Fr} {gf2 : GF} (f : Nat → List D)
    (hop : o.op = .buildSlice ts n parts) (hp : evParts [] fr gf parts.toList = some ps)
    (h1 : tlk ts TT = some ⟨id, sz1, by1, .slc e, z, ef⟩) (h2 : tlk e TT = some te) (hgd : gdrop t0 gf = some gf') (hF : bsV te.sz ps (zerosV te.zero.cells.toList n) = some F0) (hA : absL mu F0 = some (F, ks)) (hf : ∀ i, i < n → (F.drop (i * te.sz)).take te.sz = f i)
    (hm1 : keysO mu1 = ks) (hmd : mdropKs (appK ks [k']) mu = some md) (hcut : cutKs ks fr gf' = some (fr', gf2))
    (kk : SJ G J E ((t0, .a (.g k')) :: fr') gf2 ((k', .arr te.sz n f) :: md)) (hz : (vcells te.zero).map (·.length) = some te.sz := by exact rfl) (hpos : 0 < te.sz := by exact Nat.lt_of_sub_eq_succ rfl) (hn : Nat.ble (n * te.sz) 16777216 = true := by exact rfl) (hkeys : keysB ks [k'] mu1 fr gf mu E.A.ks G.ks = true := by exact rfl) (hne : hasK k' ks = false := by exact rfl)
    (hg : o.guard = none := by exact rfl) (hd : o.dst = some t0 := by exact rfl) (ht : Nat.blt t0 E.N = true := by exact rfl) : OJ G E all Q J o fr gf mu := by
  subst hm1
  refine OJ_B (ι := Unit) (ks := keysO mu1) (nk := [k']) (mu1 := mu1) (φ := fun _ => True) (res := fun _ => .a (.g k')) (mu1' := fun _ => [(k', .arr te.sz n f)]) (fun B a w H ff mm => ?_) hg hd ht hgd (fun _ => rfl) hkeys (fun _ => ?_) hmd hcut fun _ _ => kk
  · obtain ⟨d1, u2⟩ := slc_of hT h1 h2
    obtain ⟨i, i1, i2, i3, i4⟩ := u2.info
    have hzs : te.zero.cells.toList.length = te.sz := by rw [Array.length_toList]; exact zero_sz hz
    have hzv : te.zero.cells = te.zero.cells.toList.toArray := by simp
    obtain ⟨p1, p2⟩ := evParts_rel ff (g := []) (fun _ _ hm => by cases hm) hp
    obtain ⟨ms, g1, g2⟩ := fill_bsV (P := E.P) (B := B) (Z := Zf E.r H) p1 p2 (zerosV_rels te.zero.cells.toList n) hF
    have hml : ms.length = n * te.sz := by rw [V.rels_length g2, bsV_length hF, zerosV_length, hzs]
    have hown := absL_ok mm.mm hA g2
    have hone := absL_one hA g2
    obtain ⟨Gr, r1, r2, r3⟩ := owns_rows te.sz n hown (by rw [absL_length hA, bsV_length hF, zerosV_length, hzs])
    have hn' : n * te.sz ≤ 16777216 := Nat.le_of_ble_eq_true hn
    have hfit : Fit (PH.row w.heap.size 0 ms) (w.alloc (.cells ms.toArray te.id)) := Fit.alloc w ms te.id
    have hfo : Fit (unK H (keysO mu1)) w := unK_fit mm.mm.fit _
    have hdd : (PH.row w.heap.size 0 ms).dj (unK H (keysO mu1)) := fun b o => by
      cases c : unK H (keysO mu1) b o with
      | none => exact .inr rfl
      | some u =>
        left
        have := hfo.lt (b := b) (o := o) (by rw [c]; simp)
        cases c2 : PH.row w.heap.size 0 ms b o with
        | none => rfl
        | some u2 => have := PH.row_ne (x := b) (y := o) (by rw [c2]; simp); omega
    have hfin : Fit ((PH.row w.heap.size 0 ms).un (unK H (keysO mu1))) (w.alloc (.cells ms.toArray te.id)) := hfit.un (hfo.ext (Below.ofAlloc w _))
    refine ⟨(), .slice (some ⟨w.heap.size, 0, none⟩) n n, w.alloc (.cells ms.toArray te.id), _, _, ?_, Ret1.new (AllP_fit mm.mm) hne (onlyK_dj mm _) rfl (h' := (PH.row w.heap.size 0 ms).un (unK H (keysO mu1))) (VA_own (hc := PH.row w.heap.size 0 ms) (hp := unK H (keysO mu1)) (G := Gr) (row := fun i => (ms.drop (i * te.sz)).take te.sz) ⟨Nat.le_refl _, fun i hi => ⟨_, _, rfl, ?_, fun j hj => ?_⟩, fun i q1 q2 => by omega⟩ ?_ (PH.le_un_left _ _) (PH.le_un_right hdd) hdd (fun i hi => by rw [← hf i hi]; exact r3 i hi) (fun i _ => r1 i) fun i j _ _ hij => r2 i j hij) hfin ((Keep.alloc w _).mono fun _ _ _ h => h.elim) fun b o h => ?_⟩
    · obtain ⟨dst, op, type, pos, after, guard⟩ := o
      simp only at hop
      subst hop
      have e2 : (parts.map fun p => (p.1, a.eval p.2)).toList = parts.toList.map fun p => (p.1, a.eval p.2) := Array.toList_map
      have hinit := fill_zero (n := n) hzs hpos
      simp only [execOp]
      have run2 : ∀ {s : Sem Value} {x : Value} {w' : World}, s.run E.P w = .ok x w' → (do pure (.value (← s)) : Sem Next).run E.P w = .ok (.value x) w' := fun h => by simp only [Sem.run_bind, h, Result.andThen_ok, Sem.run_pure]
      refine run2 ?_
      simp only [Instr.buildSlice, Sem.run_bind, run_underlying d1, Result.andThen_ok, run_size i1, i2]
      rw [if_neg (by omega)]
      by_cases c : n * te.sz = 0
      · rw [if_pos c] at hinit
        rw [if_pos c]
        simp only [Sem.run_bind, Sem.run_pure, Result.andThen_ok]
        rw [hinit, e2, g1]
        simp only [Sem.run_bind, newRow, run_newObj, Result.andThen_ok, Sem.run_pure]
        rfl
      · rw [if_neg c] at hinit
        rw [if_neg c]
        simp only [Sem.run_bind, zeroValue, run_info i1, i4, Sem.run_pure, Result.andThen_ok]
        rw [hzv, hinit, e2, g1]
        simp only [Sem.run_bind, newRow, run_newObj, Result.andThen_ok, Sem.run_pure]
        rfl
    · have h1 : (i + 1) * te.sz ≤ n * te.sz := Nat.mul_le_mul_right _ hi
      rw [Nat.add_mul, Nat.one_mul] at h1
      simp only [List.length_take, List.length_drop]; omega
    · have := PH.row_at (b := w.heap.size) (off := 0) (l := ms) (i * te.sz + j)
      rw [show (0 : Nat) + i * te.sz + j = 0 + (i * te.sz + j) from by omega, this]
      rw [List.getElem?_take_of_lt hj, List.getElem?_drop]
    · have : n ≤ n * te.sz := Nat.le_mul_of_pos_right _ hpos
      unfold maxL; omega
    · rcases PH.un_ne h with h | h
      · exact .inr (by rw [PH.row_ne h]; exact Nat.le_refl _)
      · obtain ⟨j, j1, j2⟩ := unK_ne h
        exact .inl ⟨j, j1, by unfold onlyK; rw [j1]; exact j2⟩
  · have : hasK k' (appK (keysO mu1) [k']) = true := hasK_app.2 (.inr (by simp [hasK, Nat.beq_refl]))
    simp [SV.inK, V.inK, muIn, Ch.own?, Ch.rowL, allL, this]
end
end Go.Proofs.YtiegllklalplnaaGreat
