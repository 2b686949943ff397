
/-
  The symbolic machine is right, continued: comparisons, fields, struct literals.
-/
import Derived.Test.YtiegllklalplnaaGreatW4
namespace Go.Proofs.YtiegllklalplnaaGreat
open Go Go.RowKit
set_option linter.unusedVariables false
set_option linter.unusedSimpArgs false

theorem wrap_in {x : Int} (h : InR x) : IntKind.i64.wrap x = x := IntWalk.i64_in _ h
theorem eqGuard_plain {P : Program} {w : World} {op : BinOp} {t : TypeId} {x y : Operand} {a b : Value} (h : (match a, b with | .nilIface, .nilIface => false | .agg _, .agg _ => false | _, _ => true) = true) : (eqGuard op t x y a b).run P w = .ok () w := by
  unfold eqGuard
  cases op <;> first
    | rfl
    | (cases a <;> cases b <;> first | rfl | (simp at h))
section
variable {P : Program} {w : World}
theorem run_cmp {op : BinOp} {x y : Int} {b : Bool} (h : cmpI op x y = some b) : (Op.intCmp op x y).run P w = .ok (.bool b) w := by
  cases op <;> simp [cmpI] at h <;> subst h <;> rfl
theorem shrI_ok {t : TypeId} {k : IntKind} {x y : Int} (hq : Alls (shrI k x y).2) (k' : IntKind) : (binOp .shr t (.int k x) (.int k' y)).run P w = .ok (shrI k x y).1 w := by
  unfold shrI at hq ⊢
  split at hq
  · have e : min (Int.ofNat 1).toNat k.bits = 1 := by cases k <;> rfl
    have e2 : ¬ (Int.ofNat 1 < 0) := by decide
    simp only [binOp, Op.shift, if_neg e2, e, Sem.run_pure]
    congr 2
    rw [Int.fdiv_eq_ediv_of_nonneg _ (by decide)]; rfl
  · rename_i n _
    have e2 : ¬ (Int.ofNat n < 0) := by have := Int.natCast_nonneg n; simp
    simp only [binOp, Op.shift, if_neg e2, Sem.run_pure]
    rfl
  · exact hq.1.elim
theorem bopI_ok {hg : Bool} {op : BinOp} {t : TypeId} {x y : Int} {v : Value} {q : Ob} (h : bopI hg op x y = some (v, q)) (hq : Alls q) : (binOp op t (.int .i64 x) (.int .i64 y)).run P w = .ok v w := by
  cases op <;> simp [bopI, cmpI] at h
  case add =>
    cases hg with
    | true => simp at h; obtain ⟨rfl, rfl⟩ := h; simp [binOp, Op.intArith, wr64]
    | false => simp at h; obtain ⟨rfl, rfl⟩ := h; simp [binOp, Op.intArith, wrap_in hq.1]
  case sub => obtain ⟨rfl, rfl⟩ := h; simp [binOp, Op.intArith, wrap_in hq.1]
  case mul =>
    cases hg with
    | true => simp at h; obtain ⟨rfl, rfl⟩ := h; simp [binOp, Op.intArith, wr64]
    | false => simp at h; obtain ⟨rfl, rfl⟩ := h; simp [binOp, Op.intArith, wrap_in hq.1]
  case quo => obtain ⟨rfl, rfl⟩ := h; have h0 : ¬ y = 0 := hq.1; simp [binOp, Op.intDiv, wrap_in hq.2.1, h0]
  case rem => obtain ⟨rfl, rfl⟩ := h; have h0 : ¬ y = 0 := hq.1; simp [binOp, Op.intDiv, h0]
  case and => obtain ⟨rfl, rfl⟩ := h; rfl
  case or => obtain ⟨rfl, rfl⟩ := h; rfl
  case xor => obtain ⟨rfl, rfl⟩ := h; rfl
  case andNot => obtain ⟨rfl, rfl⟩ := h; rfl
  case shr =>
    have := shrI_ok (P := P) (w := w) (t := t) (k := .i64) (x := x) (y := y) (by rw [h]; exact hq) .i64
    rw [h] at this
    exact this
  all_goals (obtain ⟨rfl, rfl⟩ := h; simp [binOp, Op.intCmp])
theorem bopU_ok {op : BinOp} {t : TypeId} {x y : Int} {v : Value} {q : Ob} (h : bopU op x y = some (v, q)) : (binOp op t (.int .u8 x) (.int .u8 y)).run P w = .ok v w := by
  cases op <;> simp [bopU, cmpI] at h
  all_goals (obtain ⟨rfl, rfl⟩ := h; simp [binOp, Op.intArith, Op.intCmp])
theorem bopS_ok {op : BinOp} {t : TypeId} {x y : ByteArray} {v : Value} {q : Ob} (h : bopS op x y = some (v, q)) (hq : Alls q) : (binOp op t (.string x) (.string y)).run P w = .ok v w := by
  cases op <;> simp [bopS] at h
  case add =>
    obtain ⟨rfl, rfl⟩ := h
    have : ((x.size + y.size : Nat) : Int) ≤ 9223372036854775807 := hq.1
    simp only [binOp, Op.stringOp]
    rw [if_neg (by
      have e : IntKind.i64.max = 9223372036854775807 := by decide
      rw [e]; simpa using this)]
    rfl
  all_goals (obtain ⟨rfl, rfl⟩ := h; simp [binOp, Op.stringOp, beq_toListBytes])
theorem equalIn_b (n : Nat) {t : TypeId} (h : P.underlying t = some .bool) (a b : Bool) : (Op.equalIn (n + 1) t (.bool a) (.bool b)).run P w = .ok (a == b) w := by
  simp only [Op.equalIn, Sem.run_bind, run_underlying h, Result.andThen_ok, Sem.run_pure]
theorem equal_bool {t : TypeId} (h : P.underlying t = some .bool) (a b : Bool) : (Op.equal t (.bool a) (.bool b)).run P w = .ok (a == b) w := equalIn_b 9999 h a b
theorem equalIn_slice (n : Nat) {t e : TypeId} (h : P.underlying t = some (.slice e)) (A : Option Addr) (l c m k : Nat) : (Op.equalIn (n + 1) t (.slice A l c) (.slice none m k)).run P w = .ok A.isNone w := by
  cases A <;> simp only [Op.equalIn, Sem.run_bind, run_underlying h, Result.andThen_ok, Sem.run_pure, Option.isNone]
theorem equal_slice {t e : TypeId} (h : P.underlying t = some (.slice e)) (A : Option Addr) (n c m k : Nat) : (Op.equal t (.slice A n c) (.slice none m k)).run P w = .ok A.isNone w := equalIn_slice 9999 h A n c m k
theorem equalIn_ptr (n : Nat) {t e : TypeId} (h : P.underlying t = some (.pointer e)) (A : Option Addr) : (Op.equalIn (n + 1) t (.pointer A) (.pointer none)).run P w = .ok A.isNone w := by
  cases A <;> simp only [Op.equalIn, Sem.run_bind, run_underlying h, Result.andThen_ok, Sem.run_pure, Option.isNone]
theorem equal_ptr {t e : TypeId} (h : P.underlying t = some (.pointer e)) (A : Option Addr) : (Op.equal t (.pointer A) (.pointer none)).run P w = .ok A.isNone w := equalIn_ptr 9999 h A

theorem fit_slice {h : PH} {sz n : Nat} {f : Nat → List D} {y : Value} (e : D.rd h (.sl sz n f) y) : ∃ A c, y = .slice A n c ∧ (0 < n → A.isNone = false) := by
  obtain ⟨A, c, e1, _, _, e4⟩ := e
  refine ⟨A, c, e1, fun hn => ?_⟩
  rcases e4 with e | ⟨b, o, e, _⟩
  · omega
  · subst e; rfl
theorem own_slice {h : PH} {sz n : Nat} {f : Nat → List D} {y : Value} (e : D.own h (.sl sz n f) y) : ∃ A c, y = .slice A n c ∧ (0 < n → A.isNone = false) := fit_slice (D.own_rd _ e)
theorem isNilS_spec {B : BE} {r : PH} {mu : Mu} {H : Nat → PH} (m : Ms B r mu H) {x : V} {b : Bool} {q : Ob} (h : isNilS mu x = some (b, q)) (hq : Alls q) {u : Value} (hu : x.rel B (Zf r H) u) : ∃ A n c, u = .slice A n c ∧ b = A.isNone := by
  cases x with
  | v x =>
    have hu : u = x := hu
    subst hu
    cases u <;> simp [isNilS] at h
    obtain ⟨rfl, rfl⟩ := h
    exact ⟨_, _, _, rfl, rfl⟩
  | _ => simp [isNilS] at h
theorem isNilP_spec {B : BE} {r : PH} {mu : Mu} {H : Nat → PH} (m : Ms B r mu H) {x : V} {b : Bool} (h : isNilP mu x = some b) {u : Value} (hu : x.rel B (Zf r H) u) : ∃ A, u = .pointer A ∧ b = A.isNone := by
  cases x with
  | p k o =>
    obtain ⟨rfl, _⟩ := (show u = addP (B k) o ∧ _ from hu)
    simp only [isNilP] at h
    split at h
    · rename_i l e
      injection h with h; subst h
      obtain ⟨b, o', vs, h', e1, _⟩ := m.sat k _ e
      rw [e1]; exact ⟨_, rfl, rfl⟩
    · rename_i l e
      injection h with h; subst h
      obtain ⟨b, o', vs, e1, _⟩ := m.sat k _ e
      rw [e1]; exact ⟨_, rfl, rfl⟩
    · cases h
  | rp q l o =>
    simp [isNilP] at h; subst h
    obtain ⟨b, x, vs, rfl, _⟩ := (show _ from hu)
    exact ⟨_, rfl, rfl⟩
  | pe k sz i o =>
    obtain ⟨rfl, _⟩ := (show u = elP (B k) sz i o ∧ _ from hu)
    simp only [isNilP] at h
    split at h
    · rename_i sz n f e
      injection h with h; subst h
      obtain ⟨A, c, e1, _⟩ := own_slice (m.sat k _ e)
      rw [e1]; exact ⟨_, rfl, rfl⟩
    · rename_i sz n f e
      injection h with h; subst h
      obtain ⟨A, c, e1, _⟩ := fit_slice (m.sat k _ e)
      rw [e1]; exact ⟨_, rfl, rfl⟩
    · rename_i sz n f j k2 e
      injection h with h; subst h
      obtain ⟨A, c, e1, _⟩ := m.sat k _ e
      rw [e1]; exact ⟨_, rfl, rfl⟩
    · cases h
  | v x =>
    have hu : u = x := hu
    subst hu
    cases u <;> simp [isNilP] at h
    subst h
    exact ⟨_, rfl, rfl⟩
  | _ => simp [isNilP] at h
theorem shapeK_bo {d : TypeDesc} (h : shapeK d = .bo) : d = .bool := by cases d <;> simp [shapeK] at h; rfl
theorem shapeK_ptr {d : TypeDesc} (h : shapeK d = .ptr) : ∃ e, d = .pointer e := by cases d <;> simp [shapeK] at h; exact ⟨_, rfl⟩
theorem shapeK_str {d : TypeDesc} (h : shapeK d = .str) : d = .string := by cases d <;> simp [shapeK] at h; rfl
theorem shapeK_it {d : TypeDesc} {k : IntKind} (h : shapeK d = .it k) : d = .int k := by cases d <;> simp [shapeK] at h; subst h; rfl
theorem shapeK_slc {d : TypeDesc} {e : Nat} (h : shapeK d = .slc e) : d = .slice e := by cases d <;> simp [shapeK] at h; subst h; rfl
theorem shapeK_st {d : TypeDesc} {l : List (Nat × Nat)} (h : shapeK d = .st l) : ∃ fs : Array Field, d = .struct fs ∧ fs.toList.map (fun f => (f.offset, f.type)) = l := by cases d <;> simp [shapeK] at h; exact ⟨_, rfl, h⟩

theorem bop_ok {B : BE} {r : PH} {mu : Mu} {H : Nat → PH} (m : Ms B r mu H) {hg : Bool} {op : BinOp} {t : TypeId} {d : TypeDesc} (hd : P.underlying t = some d) {k : TK} (hk : shapeK d = k) {x y : V} {v : Value} {q : Ob} (h : bop mu hg k op x y = some (v, q)) (hq : Alls q) (ox oy : Operand) {u u' : Value} (hu : x.rel B (Zf r H) u) (hu' : y.rel B (Zf r H) u') :
    (do eqGuard op t ox oy u u'; binOp op t u u' : Sem Value).run P w = .ok v w := by
  unfold bop at h
  split at h
  · obtain rfl : u = _ := hu
    obtain rfl : u' = _ := hu'
    rw [Sem.run_bind, eqGuard_plain rfl, Result.andThen_ok]; exact bopI_ok h hq
  · obtain rfl : u = _ := hu
    obtain rfl : u' = _ := hu'
    rw [Sem.run_bind, eqGuard_plain rfl, Result.andThen_ok]; exact bopU_ok h
  · obtain rfl : u = _ := hu
    obtain rfl : u' = _ := hu'
    rw [Sem.run_bind, eqGuard_plain rfl, Result.andThen_ok]
    split at h
    · injection h with h
      have := shrI_ok (P := P) (w := w) (t := t) (k := .u64) (by rw [h]; exact hq)
      rw [h] at this
      exact this _
    · cases h
  · obtain rfl : u = _ := hu
    obtain rfl : u' = _ := hu'
    rw [Sem.run_bind, eqGuard_plain rfl, Result.andThen_ok]
    split at h
    · injection h with h
      have := shrI_ok (P := P) (w := w) (t := t) (k := .i64) (by rw [h]; exact hq)
      rw [h] at this
      exact this _
    · cases h
  · obtain rfl : u = _ := hu
    obtain rfl : u' = _ := hu'
    rw [Sem.run_bind, eqGuard_plain rfl, Result.andThen_ok]; exact bopS_ok h hq
  · rename_i a b
    obtain rfl : u = _ := hu
    obtain rfl : u' = _ := hu'
    rw [Sem.run_bind, eqGuard_plain rfl, Result.andThen_ok]
    split at h
    · obtain rfl := shapeK_bo hk; simp at h; obtain ⟨rfl, rfl⟩ := h
      simp only [binOp, Sem.run_bind, equal_bool hd, Result.andThen_ok, Sem.run_pure]
    · obtain rfl := shapeK_bo hk; simp at h; obtain ⟨rfl, rfl⟩ := h
      simp only [binOp, Sem.run_bind, equal_bool hd, Result.andThen_ok, Sem.run_pure]
    · cases h
  · obtain rfl : u' = _ := hu'
    split at h
    · rename_i hb
      obtain rfl := shapeK_slc hk; simp at h; obtain ⟨rfl, rfl⟩ := h
      obtain ⟨A, n, c, rfl, rfl⟩ := isNilS_spec m hb hq hu
      rw [Sem.run_bind, eqGuard_plain rfl, Result.andThen_ok]
      simp only [binOp, Sem.run_bind, equal_slice hd, Result.andThen_ok, Sem.run_pure]
    · rename_i hb
      obtain rfl := shapeK_slc hk; simp at h; obtain ⟨rfl, rfl⟩ := h
      obtain ⟨A, n, c, rfl, rfl⟩ := isNilS_spec m hb hq hu
      rw [Sem.run_bind, eqGuard_plain rfl, Result.andThen_ok]
      simp only [binOp, Sem.run_bind, equal_slice hd, Result.andThen_ok, Sem.run_pure]
    · cases h
  · obtain rfl : u' = _ := hu'
    split at h
    · rename_i hb
      obtain ⟨e, rfl⟩ := shapeK_ptr hk; simp at h; obtain ⟨rfl, rfl⟩ := h
      obtain ⟨A, rfl, rfl⟩ := isNilP_spec m hb hu
      rw [Sem.run_bind, eqGuard_plain rfl, Result.andThen_ok]
      simp only [binOp, Sem.run_bind, equal_ptr hd, Result.andThen_ok, Sem.run_pure]
    · rename_i hb
      obtain ⟨e, rfl⟩ := shapeK_ptr hk; simp at h; obtain ⟨rfl, rfl⟩ := h
      obtain ⟨A, rfl, rfl⟩ := isNilP_spec m hb hu
      rw [Sem.run_bind, eqGuard_plain rfl, Result.andThen_ok]
      simp only [binOp, Sem.run_bind, equal_ptr hd, Result.andThen_ok, Sem.run_pure]
    · cases h
  · cases h
end
section
variable {P : Program} {w : World}
theorem run_value {s : Sem Value} {x : Value} (h : s.run P w = .ok x w) : (do pure (.value (← s)) : Sem Next).run P w = .ok (.value x) w := by
  simp only [Sem.run_bind, h, Result.andThen_ok, Sem.run_pure]
theorem TI.ok.stc {id sz by_ : Nat} {l : List (Nat × Nat)} {z : Value} {q : Bool} (h : (TI.mk id sz by_ (.st l) z q).ok P) : ∃ fs : Array Field, P.underlying id = some (.struct fs) ∧ fs.toList.map (fun f => (f.offset, f.type)) = l := by
  obtain ⟨d, h1, h2⟩ := TI.ok.desc h
  obtain ⟨fs, rfl, e⟩ := shapeK_st h2
  exact ⟨fs, h1, e⟩
theorem field_get {fs : Array Field} {l : List (Nat × Nat)} (e : fs.toList.map (fun f => (f.offset, f.type)) = l) {n d t : Nat} (h : nth l n = some (d, t)) : ∃ f, fs[n]? = some f ∧ f.offset = d ∧ f.type = t := by
  rw [nth_eq, ← e, List.getElem?_map] at h
  cases x : fs.toList[n]? with
  | none => rw [x] at h; cases h
  | some f => rw [x] at h; simp at h; exact ⟨f, by simpa using x, h.1, h.2⟩
theorem run_fieldAt {t : TypeId} {fs : Array Field} (hu : P.underlying t = some (.struct fs)) {n : Nat} {f : Field} (hf : fs[n]? = some f) {i : TypeInfo} (hi : P.info? f.type = some i) (hn : i.size ≠ 0) (a : Addr) :
    (Instr.fieldAt t (.pointer (some a)) n).run P w = .ok (.pointer (some (a.add f.offset))) w := by
  simp only [Instr.fieldAt, Sem.run_bind, run_underlying hu, Result.andThen_ok, hf, Instr.sureAddr, Sem.run_pure, fieldPlace, run_size hi]
  rw [if_neg hn]
  simp only [Sem.run_pure, Result.andThen_ok]
theorem run_indexAt {t e : TypeId} (hu : P.underlying t = some (.slice e)) {i : TypeInfo} (hi : P.info? e = some i) (b o n c : Nat) (k : IntKind) (j : Int) (h0 : 0 ≤ j ∧ j < n) :
    (Instr.indexAt t (.slice (some ⟨b, o, none⟩) n c) (.int k j)).run P w = .ok (.pointer (some ⟨b, o + j.toNat * i.size, none⟩)) w := by
  simp only [Instr.indexAt, asIntOf, Sem.run_bind, Sem.run_pure, run_underlying hu, Result.andThen_ok]
  rw [if_pos h0]
  simp only [Sem.run_bind, run_size hi, Result.andThen_ok, Sem.run_pure, add_mk]
theorem addr_add_add (a : Addr) (m n : Nat) : (a.add m).add n = if m + n = 0 then a else { a with off := a.off + m + n, spot := none } := by
  unfold Addr.add
  by_cases h1 : m = 0 <;> by_cases h2 : n = 0 <;> simp [h1, h2]
theorem p_add (a : Addr) (o d : Nat) : a.add (o + d) = (a.add o).add d := by
  rw [addr_add_add]; unfold Addr.add
  by_cases h : o + d = 0
  · rw [if_pos h, if_pos h]
  · rw [if_neg h, if_neg h]; simp [Nat.add_assoc]
theorem addP_add (x : Value) (o d : Nat) : addP (addP x o) d = addP x (o + d) := by
  cases x with
  | pointer a => cases a with
    | none => rfl
    | some a => simp only [addP, p_add]
  | _ => rfl
theorem run_part {ti : TI} (hti : ti.ok P) (cs : Array Value) (d : Nat) (l : List Value) (hl : cut cs.toList d ti.sz = some l) (x : Value) (hx : (ti.isAg = true ∧ x = .agg l.toArray) ∨ (ti.isAg = false ∧ l = [x])) :
    (part ti.id cs d).run P w = .ok x w := by
  obtain ⟨i, h1, h2, _, _⟩ := hti.info
  obtain ⟨c1, c2⟩ := cut_spec _ _ _ _ hl
  simp only [part, Sem.run_bind, run_isAgg hti, Result.andThen_ok]
  rcases hx with ⟨e, rfl⟩ | ⟨e, rfl⟩
  · rw [e, if_pos rfl]
    simp only [Sem.run_bind, run_size h1, Result.andThen_ok, Sem.run_pure, h2]
    congr 2
    apply Array.ext_getElem?
    intro j
    by_cases hj : j < ti.sz
    · have := c2 j hj
      simp only [Array.getElem?_toList] at this
      simp only [List.getElem?_toArray, this]
      rw [Array.getElem?_extract]
      rw [if_pos]
      have hs : (l[j]?).isSome := by rw [List.getElem?_eq_getElem (by omega)]; rfl
      rw [this] at hs
      have : d + j < cs.size := by
        cases hc : cs[d + j]? with
        | none => rw [hc] at hs; cases hs
        | some u => exact (Array.getElem?_eq_some_iff.1 hc).1
      omega
    · rw [Array.getElem?_eq_none (by simp; omega), Array.getElem?_eq_none (by simp; omega)]
  · rw [e, if_neg (by simp)]
    have hz : ti.sz = 1 := by simpa using c1.symm
    have := c2 0 (by omega)
    simp at this
    simp only [← this, Sem.run_pure]

/-! ### struct literals -/
theorem foldl_set (o : Nat) : ∀ (ys : List Value) (k : Nat) (cs : Array Value), ((ys.zipIdx k).foldl (fun cs p => cs.setIfInBounds (o + p.2) p.1) cs).size = cs.size ∧
    ∀ i, ((ys.zipIdx k).foldl (fun cs p => cs.setIfInBounds (o + p.2) p.1) cs)[i]? = if o + k ≤ i ∧ i < o + k + ys.length ∧ i < cs.size then ys[i - (o + k)]? else cs[i]?
  | [], k, cs => ⟨rfl, fun i => by simp only [List.zipIdx_nil, List.foldl_nil, List.length_nil]; rw [if_neg (by omega)]⟩
  | y :: ys, k, cs => by
    simp only [List.zipIdx_cons, List.foldl_cons]
    obtain ⟨h1, h2⟩ := foldl_set o ys (k + 1) (cs.setIfInBounds (o + k) y)
    refine ⟨by rw [h1]; simp, fun i => ?_⟩
    rw [h2 i]
    simp only [Array.size_setIfInBounds, List.length_cons]
    by_cases c1 : i = o + k
    · subst c1
      rw [if_neg (by omega)]
      by_cases c2 : o + k < cs.size
      · rw [if_pos (by omega)]; simp [c2]
      · rw [if_neg (by omega)]; rw [Array.getElem?_eq_none (by simp; omega), Array.getElem?_eq_none (by omega)]
    · by_cases c2 : o + (k + 1) ≤ i ∧ i < o + (k + 1) + ys.length ∧ i < cs.size
      · rw [if_pos c2, if_pos (by omega), show i - (o + k) = (i - (o + (k + 1))) + 1 from by omega, List.getElem?_cons_succ]
      · rw [if_neg c2, if_neg (by omega)]
        exact Array.getElem?_setIfInBounds_ne (by omega)
theorem paste_fold {l ys m : List Value} {o : Nat} (h : paste l o ys = some m) : (ys.toArray.zipIdx.foldl (fun cs p => cs.setIfInBounds (o + p.2) p.1) l.toArray) = m.toArray := by
  obtain ⟨h1, h2, h3, h4⟩ := paste_spec l o ys m h
  rw [← Array.foldl_toList]
  simp only [Array.toList_zipIdx]
  obtain ⟨e1, e2⟩ := foldl_set o ys 0 l.toArray
  apply Array.ext_getElem?
  intro i
  rw [e2 i]
  simp only [List.size_toArray, Nat.add_zero, List.getElem?_toArray]
  by_cases c : o ≤ i ∧ i < o + ys.length ∧ i < l.length
  · rw [if_pos c]
    have := h3 (i - o) (by omega)
    rw [show o + (i - o) = i from by omega] at this
    exact this.symm
  · rw [if_neg c]
    by_cases c2 : i < l.length
    · exact (h4 i (by omega)).symm
    · rw [List.getElem?_eq_none (by omega), List.getElem?_eq_none (by omega)]
theorem fill_ok {TT : List TI} (hT : TOk P TT) {fs : List (Nat × Nat)} {place : Nat → Option (Nat × Nat)} (hp : ∀ i o t ti, nth fs i = some (o, t) → tlk t TT = some ti → place i = some (o, ti.sz)) {B : BE} {Z : Tg → PH} :
    ∀ (ps : List (Nat × SV)) (qs : List (Nat × Value)) (l m : List V) (vs : List Value), (qs.map (·.1) = ps.map (·.1)) → SV.rels P B Z (ps.map (·.2)) (qs.map (·.2)) → V.rels B Z l vs → fillParts TT fs ps l = some m → ∃ ms, Instr.fill place vs.toArray qs = some ms.toArray ∧ V.rels B Z m ms
  | [], qs, l, m, vs, hq, _, hl, h => by
    have : qs = [] := by simpa using hq
    subst this
    simp [fillParts] at h; subst h; exact ⟨vs, rfl, hl⟩
  | (i, x) :: r, [], l, m, vs, hq, hr, hl, h => by simp at hq
  | (i, x) :: r, (i', y) :: qs, l, m, vs, hq, hr, hl, h => by
    simp only [List.map_cons, List.cons.injEq] at hq
    obtain ⟨rfl, hq⟩ := hq
    obtain ⟨y', t', e0, hx, hr⟩ := hr
    simp only [List.map_cons, List.cons.injEq] at e0
    obtain ⟨rfl, rfl⟩ := e0
    simp only [fillParts] at h
    cases e1 : nth fs i' with
    | none => rw [e1] at h; cases h
    | some q =>
      obtain ⟨o, ft⟩ := q
      cases e2 : x.cells with
      | none => rw [e1, e2] at h; cases h
      | some cs =>
        rw [e1, e2] at h
        simp only at h
        cases e3 : tlk ft TT with
        | none => rw [e3] at h; cases h
        | some tf =>
          rw [e3] at h
          simp only at h
          cases e4 : lenEq cs tf.sz with
          | false => rw [e4] at h; cases h
          | true =>
            rw [e4] at h
            simp only [cond_true] at h
            cases e5 : paste l o cs with
            | none => rw [e5] at h; cases h
            | some l' =>
              rw [e5] at h
              have hc := cells_rel e2 hx
              have hlen := lenEq_spec _ _ e4
              have hsz : y.cells.size = tf.sz := by rw [← Array.length_toList, V.rels_length hc]; exact hlen
              obtain ⟨ms, g1, g2⟩ := paste_rels hl hc e5
              obtain ⟨p1, p2, _, _⟩ := paste_spec _ _ _ _ g1
              have hA : y.cells = y.cells.toList.toArray := by simp
              simp only [Instr.fill, hp i' o ft tf e1 e3]
              rw [if_neg (by
                simp only [hsz, ne_eq, not_true_eq_false, decide_false, Bool.false_or, decide_eq_true_eq, List.size_toArray]
                rw [← hsz, ← Array.length_toList]; omega)]
              rw [hA, paste_fold g1]
              exact fill_ok hT hp r qs l' m ms hq hr g2 h
theorem vcellsL_rel {B : BE} {Z : Tg → PH} (z : Value) : V.rels B Z (vcellsL z) z.cells.toList := by
  cases z <;> first | exact rels_v [_] | exact rels_v _
theorem run_mapM_places : ∀ (fs : List Field), (∀ f ∈ fs, ∃ i, P.info? f.type = some i) → ∃ ps : List (Nat × Nat), (∀ w, (fs.mapM fun (f : Field) => do pure (f.offset, ← sizeOf f.type) : Sem (List (Nat × Nat))).run P w = .ok ps w) ∧ ∀ (i : Nat) (f : Field), fs[i]? = some f → ∀ inf, P.info? f.type = some inf → ps[i]? = some (f.offset, inf.size)
  | [], _ => ⟨[], by simp, fun i f h => by simp at h⟩
  | f :: r, h => by
    obtain ⟨i, hi⟩ := h f List.mem_cons_self
    obtain ⟨ps, h1, h2⟩ := run_mapM_places r (fun g hg => h g (List.mem_cons_of_mem _ hg))
    refine ⟨(f.offset, i.size) :: ps, ?_, ?_⟩
    · intro w; simp only [List.mapM_cons, Sem.run_bind, run_size hi, Result.andThen_ok, Sem.run_pure, h1]
    · intro j g hj inf hinf
      cases j with
      | zero => simp at hj; subst hj; rw [hi] at hinf; injection hinf with hinf; subst hinf; rfl
      | succ j => simp at hj ⊢; exact h2 j g hj inf hinf
end
end Go.Proofs.YtiegllklalplnaaGreat
