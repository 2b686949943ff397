/-
  The symbolic machine is right, continued: the pure operations.
-/
import Derived.Test.YtiilpopeognekaaM2
namespace Go.Proofs.Ytiilpopeognekaa
open Go Go.RowKit
set_option linter.unusedVariables false
set_option linter.unusedSimpArgs false

theorem wrap_in {x : Int} (h : InR x) : IntKind.i64.wrap x = x := IntWalk.i64_in _ h
theorem eqGuard_plain {P : Program} {w : World} {op : BinOp} {t : TypeId} {x y : Operand} {a b : Value} (h : (match a, b with | .nilIface, .nilIface => false | .agg _, .agg _ => false | _, _ => true) = true) : (eqGuard op t x y a b).run P w = .ok () w := by
  unfold eqGuard
  cases op <;> first
    | rfl
    | (cases a <;> cases b <;> first | rfl | (simp at h))
section
variable {P : Program} {w : World}
theorem run_cmp {op : BinOp} {x y : Int} {b : Bool} (h : cmpI op x y = some b) : (Op.intCmp op x y).run P w = .ok (.bool b) w := by
  cases op <;> simp [cmpI] at h <;> subst h <;> rfl
theorem bopI_ok {op : BinOp} {t : TypeId} {x y : Int} {v : Value} {q : Ob} (h : bopI op x y = some (v, q)) (hq : Alls q) : (binOp op t (.int .i64 x) (.int .i64 y)).run P w = .ok v w := by
  cases op <;> simp [bopI, cmpI] at h
  case add => obtain ⟨rfl, rfl⟩ := h; simp [binOp, Op.intArith, wrap_in hq.1]
  case sub => obtain ⟨rfl, rfl⟩ := h; simp [binOp, Op.intArith, wrap_in hq.1]
  case mul => obtain ⟨rfl, rfl⟩ := h; simp [binOp, Op.intArith, wrap_in hq.1]
  case quo => obtain ⟨rfl, rfl⟩ := h; have h0 : ¬ y = 0 := hq.1; simp [binOp, Op.intDiv, wrap_in hq.2.1, h0]
  case rem => obtain ⟨rfl, rfl⟩ := h; have h0 : ¬ y = 0 := hq.1; simp [binOp, Op.intDiv, h0]
  case and => obtain ⟨rfl, rfl⟩ := h; rfl
  case or => obtain ⟨rfl, rfl⟩ := h; rfl
  case andNot => obtain ⟨rfl, rfl⟩ := h; rfl
  all_goals (obtain ⟨rfl, rfl⟩ := h; simp [binOp, Op.intCmp])
theorem bopU_ok {op : BinOp} {t : TypeId} {x y : Int} {v : Value} {q : Ob} (h : bopU op x y = some (v, q)) : (binOp op t (.int .u8 x) (.int .u8 y)).run P w = .ok v w := by
  cases op <;> simp [bopU, cmpI] at h
  all_goals (obtain ⟨rfl, rfl⟩ := h; simp [binOp, Op.intArith, Op.intCmp])
theorem bopS_ok {op : BinOp} {t : TypeId} {x y : ByteArray} {v : Value} {q : Ob} (h : bopS op x y = some (v, q)) (hq : Alls q) : (binOp op t (.string x) (.string y)).run P w = .ok v w := by
  cases op <;> simp [bopS] at h
  case add =>
    obtain ⟨rfl, rfl⟩ := h
    have : ((x.size + y.size : Nat) : Int) ≤ 9223372036854775807 := hq.1
    simp only [binOp, Op.stringOp]
    rw [if_neg (by
      have e : IntKind.i64.max = 9223372036854775807 := by decide
      rw [e]; simpa using this)]
    rfl
  all_goals (obtain ⟨rfl, rfl⟩ := h; simp [binOp, Op.stringOp])
theorem equalIn_bool (n : Nat) {t : TypeId} (h : P.underlying t = some .bool) (a b : Bool) : (Op.equalIn (n + 1) t (.bool a) (.bool b)).run P w = .ok (a == b) w := by
  simp only [Op.equalIn, Sem.run_bind, run_underlying h, Result.andThen_ok, Sem.run_pure]
theorem equal_bool {t : TypeId} (h : P.underlying t = some .bool) (a b : Bool) : (Op.equal t (.bool a) (.bool b)).run P w = .ok (a == b) w := equalIn_bool 9999 h a b
theorem equalIn_slice (n : Nat) {t e : TypeId} (h : P.underlying t = some (.slice e)) (A : Option Addr) (l c m k : Nat) : (Op.equalIn (n + 1) t (.slice A l c) (.slice none m k)).run P w = .ok A.isNone w := by
  cases A <;> simp only [Op.equalIn, Sem.run_bind, run_underlying h, Result.andThen_ok, Sem.run_pure, Option.isNone]
theorem equal_slice {t e : TypeId} (h : P.underlying t = some (.slice e)) (A : Option Addr) (n c m k : Nat) : (Op.equal t (.slice A n c) (.slice none m k)).run P w = .ok A.isNone w := equalIn_slice 9999 h A n c m k
theorem equalIn_ptr (n : Nat) {t e : TypeId} (h : P.underlying t = some (.pointer e)) (A : Option Addr) : (Op.equalIn (n + 1) t (.pointer A) (.pointer none)).run P w = .ok A.isNone w := by
  cases A <;> simp only [Op.equalIn, Sem.run_bind, run_underlying h, Result.andThen_ok, Sem.run_pure, Option.isNone]
theorem equal_ptr {t e : TypeId} (h : P.underlying t = some (.pointer e)) (A : Option Addr) : (Op.equal t (.pointer A) (.pointer none)).run P w = .ok A.isNone w := equalIn_ptr 9999 h A
theorem isNilS_spec {x : AV} {b : Bool} (h : isNilS x = some b) (B : BE) : ∃ A n c, x.den B = .slice A n c ∧ b = A.isNone := by
  cases x with
  | sl k A n c => simp [isNilS] at h; exact ⟨A, n, c, rfl, h.symm⟩
  | rs k A n c => simp [isNilS] at h; exact ⟨A, n, c, rfl, h.symm⟩
  | v x => cases x <;> simp [isNilS] at h; exact ⟨_, _, _, rfl, h.symm⟩
  | _ => simp [isNilS] at h
theorem isNilP_spec {x : AV} {b : Bool} (h : isNilP x = some b) (B : BE) : ∃ A, x.den B = .pointer A ∧ b = A.isNone := by
  cases x with
  | p k o => simp [isNilP] at h; subst h; exact ⟨some _, rfl, rfl⟩
  | v x => cases x <;> simp [isNilP] at h; exact ⟨_, rfl, h.symm⟩
  | _ => simp [isNilP] at h
theorem shapeK_bo {d : TypeDesc} (h : shapeK d = .bo) : d = .bool := by cases d <;> simp [shapeK] at h; rfl
theorem shapeK_ptr {d : TypeDesc} (h : shapeK d = .ptr) : ∃ e, d = .pointer e := by cases d <;> simp [shapeK] at h; exact ⟨_, rfl⟩
theorem shapeK_str {d : TypeDesc} (h : shapeK d = .str) : d = .string := by cases d <;> simp [shapeK] at h; rfl
theorem shapeK_it {d : TypeDesc} {k : IntKind} (h : shapeK d = .it k) : d = .int k := by cases d <;> simp [shapeK] at h; subst h; rfl
theorem shapeK_slc {d : TypeDesc} {e : Nat} (h : shapeK d = .slc e) : d = .slice e := by cases d <;> simp [shapeK] at h; subst h; rfl
theorem shapeK_st {d : TypeDesc} {l : List (Nat × Nat)} (h : shapeK d = .st l) : ∃ fs : Array Field, d = .struct fs ∧ fs.toList.map (fun f => (f.offset, f.type)) = l := by cases d <;> simp [shapeK] at h; exact ⟨_, rfl, h⟩

theorem bop_ok {op : BinOp} {t : TypeId} {d : TypeDesc} (hd : P.underlying t = some d) {k : TK} (hk : shapeK d = k) {x y : AV} {v : Value} {q : Ob} (h : bop k op x y = some (v, q)) (hq : Alls q) (B : BE) (ox oy : Operand) :
    (do eqGuard op t ox oy (x.den B) (y.den B); binOp op t (x.den B) (y.den B) : Sem Value).run P w = .ok v w := by
  unfold bop at h
  split at h
  · rw [Sem.run_bind, eqGuard_plain rfl, Result.andThen_ok]; exact bopI_ok h hq
  · rw [Sem.run_bind, eqGuard_plain rfl, Result.andThen_ok]; exact bopU_ok h
  · rw [Sem.run_bind, eqGuard_plain rfl, Result.andThen_ok]; exact bopS_ok h hq
  · rename_i a b
    rw [Sem.run_bind, eqGuard_plain rfl, Result.andThen_ok]
    split at h
    · obtain rfl := shapeK_bo hk; simp at h; obtain ⟨rfl, rfl⟩ := h
      simp only [AV.den, binOp, Sem.run_bind, equal_bool hd, Result.andThen_ok, Sem.run_pure]
    · obtain rfl := shapeK_bo hk; simp at h; obtain ⟨rfl, rfl⟩ := h
      simp only [AV.den, binOp, Sem.run_bind, equal_bool hd, Result.andThen_ok, Sem.run_pure]
    · cases h
  · split at h
    · rename_i hb
      obtain rfl := shapeK_slc hk; simp at h; obtain ⟨rfl, rfl⟩ := h
      obtain ⟨A, n, c, e1, rfl⟩ := isNilS_spec hb B
      rw [e1, Sem.run_bind, eqGuard_plain rfl, Result.andThen_ok]
      simp only [AV.den, binOp, Sem.run_bind, equal_slice hd, Result.andThen_ok, Sem.run_pure]
    · rename_i hb
      obtain rfl := shapeK_slc hk; simp at h; obtain ⟨rfl, rfl⟩ := h
      obtain ⟨A, n, c, e1, rfl⟩ := isNilS_spec hb B
      rw [e1, Sem.run_bind, eqGuard_plain rfl, Result.andThen_ok]
      simp only [AV.den, binOp, Sem.run_bind, equal_slice hd, Result.andThen_ok, Sem.run_pure]
    · cases h
  · split at h
    · rename_i hb
      obtain ⟨e, rfl⟩ := shapeK_ptr hk; simp at h; obtain ⟨rfl, rfl⟩ := h
      obtain ⟨A, e1, rfl⟩ := isNilP_spec hb B
      rw [e1, Sem.run_bind, eqGuard_plain rfl, Result.andThen_ok]
      simp only [AV.den, binOp, Sem.run_bind, equal_ptr hd, Result.andThen_ok, Sem.run_pure]
    · rename_i hb
      obtain ⟨e, rfl⟩ := shapeK_ptr hk; simp at h; obtain ⟨rfl, rfl⟩ := h
      obtain ⟨A, e1, rfl⟩ := isNilP_spec hb B
      rw [e1, Sem.run_bind, eqGuard_plain rfl, Result.andThen_ok]
      simp only [AV.den, binOp, Sem.run_bind, equal_ptr hd, Result.andThen_ok, Sem.run_pure]
    · cases h
  · cases h
end
end Go.Proofs.Ytiilpopeognekaa
