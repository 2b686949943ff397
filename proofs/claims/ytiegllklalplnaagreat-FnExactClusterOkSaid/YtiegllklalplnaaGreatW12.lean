
/-
  Contracts: what a call does to the memory that it is handed; entry and return.
-/
import Derived.Test.YtiegllklalplnaaGreatW11
namespace Go.Proofs.YtiegllklalplnaaGreat
open Go Go.RowKit
set_option linter.unusedVariables false
set_option linter.unusedSimpArgs false

def resV : List Value → Value
  | [v] => v
  | l => .tuple l.toArray
theorem resV_eq : ∀ m : List Value, (if h : m.length = 1 then m[0] else .tuple m.toArray) = resV m
  | [] => rfl
  | [_] => rfl
  | _ :: _ :: _ => rfl
def keysOf : Mu → List Nat
  | [] => []
  | (k, _) :: r => k :: keysOf r
def Ch.own? : Ch → Bool
  | .ro .. => false
  | .rrow _ => false
  | _ => true
/-- keys of chunks that are owned -/
def keysO : Mu → List Nat
  | [] => []
  | (k, c) :: r => bif c.own? then k :: keysO r else keysO r
def ownD (mu : Mu) (H : Nat → PH) (b o : Nat) : Prop := ∃ k, hasK k (keysO mu) = true ∧ H k b o ≠ none
/-- A call of f: from args and a memory mu to results and a memory; keys ks stand for what they stood for. -/
def Con {ι : Type} (P : Program) (f : Nat) (ks : List Nat) (args : List SV) (mu : Mu) (φ : ι → Prop) (res : ι → List SV) (mu' : ι → Mu) : Prop :=
  ∀ (B : BE) (r : PH) (w : World) (H : Nat → PH) (vals : List Value), Mm B r mu w H → (∀ k, hasK k (keysO mu) = false → H k = PH.emp) → SV.rels P B (Zf r H) args vals →
    Calls P f vals.toArray w fun e w' => ∃ y B' H' out, φ y ∧ e = .returned (resV out) ∧ SV.rels P B' (Zf r H') (res y) out ∧ Mm B' r (mu' y) w' H' ∧ (∀ k, hasK k ks = true → B' k = B k) ∧ Keep (ownD mu H) w w' ∧ ∀ k b o, H' k b o ≠ none → ownD mu H b o ∨ w.heap.size ≤ b
/-- where a body's end must lead -/
def RetP {ι : Type} (E : Env) (φ : ι → Prop) (res : ι → List SV) (mu' : ι → Mu) (e : Ending) (w' : World) : Prop :=
  ∃ y B' H' out, φ y ∧ e = .returned (resV out) ∧ SV.rels E.P B' (Zf E.r H') (res y) out ∧ Mem E B' (mu' y) w' H'
def frOf : Nat → List SV → Fr
  | _, [] => []
  | i, x :: r => (i, x) :: frOf (i + 1) r
theorem frOf_get : ∀ (l : List SV) (i t : Nat) (x : SV), mlk t (frOf i l) = some x → i ≤ t ∧ l[t - i]? = some x
  | [], _, _, _, h => by cases h
  | y :: l, i, t, x, h => by
    simp only [frOf] at h
    rw [mlk_cons] at h
    by_cases e : i = t
    · subst e; rw [if_pos rfl] at h; injection h with h; subst h; simp
    · rw [if_neg e] at h
      obtain ⟨h1, h2⟩ := frOf_get l (i + 1) t x h
      refine ⟨by omega, ?_⟩
      rw [show t - i = (t - (i + 1)) + 1 from by omega, List.getElem?_cons_succ]
      exact h2
section
variable {E : Env} {B : BE} {mu mu' : Mu} {w : World} {H : Nat → PH} {TT : List TI} {fr fr' : Fr} {gf gf' : GF} {a : Act} {all rest : List Oper} {Q : Exit → Act → World → Prop} {R : Exit → Act → World → Prop} {K : List KF}
theorem con_enter {ι : Type} {P : Program} {f : FuncId} {fn : Func} {c : Code} {N : Nat} {ks : List Nat} {args : List SV} {φ : ι → Prop} {res : ι → List SV} {mu' : ι → Mu} (hf : P.funcs[f]? = some fn) (hb : fn.body = some c) (hN : fn.ntmps = N) (hlen : Nat.ble args.length N = true)
    (h : ∀ (B0 : BE) (r : PH) (D : Nat → Nat → Prop) (w0 : World), T ⟨P, ⟨ks, B0⟩, N, r, D, w0⟩ (bodyPost P fn (RetP ⟨P, ⟨ks, B0⟩, N, r, D, w0⟩ φ res mu')) c (frOf 0 args) mu []) : Con P f ks args mu φ res mu' := by
  intro B r w H vals m hemp hargs
  have hl := SV.rels_length hargs
  have hlen' : args.length ≤ N := Nat.le_of_ble_eq_true hlen
  have key : Calls P f vals.toArray w (RetP ⟨P, ⟨ks, B⟩, N, r, ownD mu H, w⟩ φ res mu') := by
    refine calls_of_wp hf hb ?_
    refine h B r (ownD mu H) w B _ w H ⟨?_, rfl, fun t x e _ => ?_, fun _ _ _ _ h => (by cases h), fun _ _ _ _ h => (by cases h), fun _ _ _ _ h => (by cases h)⟩ ⟨m, Keep.refl _ _, fun k b o e => ?_, fun _ _ => rfl⟩
    · simp [hN]; omega
    · obtain ⟨_, h2⟩ := frOf_get args 0 t x e
      simp only [Nat.sub_zero] at h2
      obtain ⟨v, h3, h4⟩ := SV.rels_get hargs h2
      have hlt : t < vals.length := (List.getElem?_eq_some_iff.1 h3).1
      rw [Array.getD_eq_getD_getElem?, Array.getElem?_append_left (by simpa using hlt)]
      simpa [h3] using h4
    · refine .inl ⟨k, ?_, e⟩
      cases hk : hasK k (keysO mu) with
      | true => rfl
      | false => rw [hemp k hk] at e; exact absurd rfl e
  refine key.mono fun e w' ⟨y, B', H', out, h1, h2, h3, m'⟩ => ⟨y, B', H', out, h1, h2, h3, m'.mm, m'.anch, m'.keep, m'.dom⟩
/-! ### return -/
def rvOf : Nat × Option Nat → ResultVar
  | (t, none) => .tmp t
  | (t, some ty) => .cell t ty
def allGetC (TT : List TI) (fr : Fr) (mu : Mu) : List (Nat × Option Nat) → Option (List SV)
  | [] => some []
  | (t, none) :: r => match mlk t fr, allGetC TT fr mu r with
    | some x, some l => some (x :: l)
    | _, _ => none
  | (t, some ty) :: r => match mlk t fr, tlk ty TT with
    | some y, some ti => match ld ti mu y, allGetC TT fr mu r with
      | some (x, []), some l => some (x :: l)
      | _, _ => none
    | _, _ => none
theorem allGetC_run (hT : TOk E.P TT) (f : FitsE E B H fr [] a) (m : Mr B E.r mu w H) : ∀ {ts : List (Nat × Option Nat)} {l : List SV}, allGetC TT fr mu ts = some l →
    ∃ out, ((ts.map rvOf).mapM (fun
      | .tmp t => pure (a.tmps.getD t undef)
      | .cell c t => do loadVar t (← asAddr (a.tmps.getD c undef)) : ResultVar → Sem Value)).run E.P w = .ok out w ∧ SV.rels E.P B (Zf E.r H) l out
  | [], l, h => by simp [allGetC] at h; subst h; exact ⟨[], by simp, rfl⟩
  | (t, none) :: ts, l, h => by
    simp only [allGetC] at h
    split at h
    · rename_i x l' e1 e2
      injection h with h; subst h
      obtain ⟨out, h1, h2⟩ := allGetC_run hT f m e2
      refine ⟨a.tmps.getD t undef :: out, ?_, _, _, rfl, f.vfr t x e1 rfl, h2⟩
      simp only [List.map_cons, rvOf, List.mapM_cons, Sem.run_bind, Sem.run_pure, Result.andThen_ok, h1]
    · cases h
  | (t, some ty) :: ts, l, h => by
    simp only [allGetC] at h
    split at h
    · rename_i y ti e1 e2
      split at h
      · rename_i x l' e3 e4
        injection h with h; subst h
        obtain ⟨out, h1, h2⟩ := allGetC_run hT f m e4
        obtain ⟨i1, i2⟩ := hT.get e2
        obtain ⟨A, v, d1, d2, d3⟩ := ld_ok m.ms i2 e3 trivial (f.vfr t y e1 rfl)
        subst i1
        have h0 : asAddr (.pointer (some A)) = pure A := rfl
        refine ⟨v :: out, ?_, _, _, rfl, d3, h2⟩
        simp only [List.map_cons, rvOf, List.mapM_cons, Sem.run_bind, d1, h0, Sem.run_pure, Result.andThen_ok, d2 w m.fw, h1]
      · cases h
    · cases h
def SVs.imp (P : Program) : List SV → List SV → Prop
  | [], l => l = []
  | x :: r, l => ∃ y t, l = y :: t ∧ x.imp P y ∧ SVs.imp P r t
theorem SVs.imp_refl {P : Program} : ∀ l : List SV, SVs.imp P l l
  | [] => rfl
  | x :: r => ⟨x, r, rfl, SV.imp_refl x, SVs.imp_refl r⟩
theorem SVs.imp_ok {P : Program} {Z : Tg → PH} : ∀ {l m : List SV} {vs : List Value}, SVs.imp P l m → SV.rels P B Z l vs → SV.rels P B Z m vs
  | [], m, vs, h, e => by have h : m = [] := h; subst h; exact e
  | x :: r, m, vs, h, e => by
    obtain ⟨y, t, rfl, h2, h3⟩ := h
    obtain ⟨v, us, rfl, e2, e3⟩ := e
    exact ⟨v, us, rfl, h2 _ _ _ e2, SVs.imp_ok h3 e3⟩
theorem T_ret {ι : Type} {fn : Func} {φ : ι → Prop} {res : ι → List SV} {mu' : ι → Mu} (hT : TOk E.P TT) (y : ι) (ts : List (Nat × Option Nat)) (hr : fn.results = (ts.map rvOf).toArray) {l : List SV} (hl : allGetC TT fr mu ts = some l) (h1 : SVs.imp E.P l (res y)) (h2 : WkMu mu (mu' y)) (h3 : φ y) :
    T E (bodyPost E.P fn (RetP E φ res mu')) .ret fr mu K := fun B a w H f m => by
  obtain ⟨out, r1, r2⟩ := allGetC_run hT f m.mr hl
  refine wp_ret (ret_ok ⟨f.defers, resV out, ?_, y, B, H, out, h3, rfl, SVs.imp_ok h1 r2, m.wk h2⟩)
  unfold results
  rw [hr, Sem.run_bind, Array.mapM_eq_mapM_toList, Sem.run_map, List.toList_toArray]
  erw [r1]
  have e : ∀ l : List Value, (if h : l.toArray.size = 1 then l.toArray[0] else Value.tuple l.toArray) = resV l := fun l => by
    rw [← resV_eq]; simp
  exact congrArg (Result.ok · w) (e out)
end

/-! ### calls -/
/-- the function has a body that can be entered -/
def Enters (P : Program) (f : FuncId) : Prop := ∀ args w, (callFunc f args).run P w = .ok (.enter f args) w
theorem enters_of {P : Program} {f : FuncId} {fn : Func} (hf : P.funcs[f]? = some fn) (hname : (fn.name == "runtime.NumGoroutine") = false) (hb : fn.body.isSome = true) : Enters P f := by
  intro args w
  have h1 : fn.name ≠ "runtime.NumGoroutine" := by simpa using hname
  obtain ⟨c, hc⟩ := Option.isSome_iff_exists.1 hb
  simp [callFunc, hf, h1, hc]
def entersB (P : Program) (f : Nat) : Bool := match P.funcs[f]? with
  | some fn => !(fn.name == "runtime.NumGoroutine") && fn.body.isSome
  | none => false
theorem enters_B {P : Program} {f : FuncId} (h : entersB P f = true) : Enters P f := by
  unfold entersB at h
  split at h
  · rename_i fn hf
    simp only [Bool.and_eq_true, Bool.not_eq_true'] at h
    exact enters_of hf h.1 h.2
  · cases h
/-- the operation calls f with these values, and what a closure has captured -/
def callsOf (g : Gd) (fr : Fr) (gf : GF) (o : Op) : Option (Nat × List SV) :=
  match o with
  | .call c => match c.callee with
    | .value x => match ev g fr gf x, evs g fr gf c.args.toList with
      | some (.fn f caps), some l => some (f, l ++ caps.map SV.a)
      | _, _ => none
    | _ => none
  | _ => none
theorem rels_append {P : Program} {B : BE} {Z : Tg → PH} : ∀ {l m : List SV} {vs us : List Value}, SV.rels P B Z l vs → SV.rels P B Z m us → SV.rels P B Z (l ++ m) (vs ++ us)
  | [], _, _, _, e, k => by have e : _ = [] := e; subst e; exact k
  | x :: r, _, _, _, e, k => by
    obtain ⟨a, t, rfl, e2, e3⟩ := e
    exact ⟨a, _, rfl, e2, rels_append e3 k⟩
theorem rels_sva {P : Program} {B : BE} {Z : Tg → PH} : ∀ {l : List V} {vs : List Value}, V.rels B Z l vs → SV.rels P B Z (l.map SV.a) vs
  | [], _, e => e
  | x :: r, _, e => by
    obtain ⟨a, t, rfl, e2, e3⟩ := e
    exact ⟨a, t, rfl, e2, rels_sva e3⟩
section
variable {E : Env} {B : BE} {mu mu' : Mu} {w : World} {H : Nat → PH} {TT : List TI} {fr fr' : Fr} {gf gf' : GF} {a : Act} {all rest : List Oper} {Q : Exit → Act → World → Prop} {o : Oper} {J : Act → World → Prop}
theorem callsOf_run (f : FitsE E B H fr gf a) {g : Gd} (hg : ∀ d w, (d, w) ∈ g → a.tmps.getD d undef = .bool w) {n : Nat} {svs : List SV} (h : callsOf g fr gf o.op = some (n, svs)) (he : Enters E.P n) :
    ∃ vals : List Value, (execOp a.eval o).run E.P w = .ok (.enter n vals.toArray) w ∧ SV.rels E.P B (Zf E.r H) svs vals := by
  obtain ⟨dst, op, type, pos, after, guard⟩ := o
  simp only at h
  unfold callsOf at h
  split at h
  · rename_i c
    obtain ⟨callee, args, ats⟩ := c
    simp only at h
    split at h
    · rename_i x hx
      split at h
      · rename_i n' caps l e1 e2
        simp only [Option.some.injEq, Prod.mk.injEq] at h
        obtain ⟨rfl, rfl⟩ := h
        obtain ⟨cv, h1, h3⟩ := (show ∃ vs, _ from f.ev hg e1)
        have h2 := f.evs hg e2
        refine ⟨args.toList.map a.eval ++ cv, ?_, rels_append h2 (rels_sva h3)⟩
        have ha : args.map a.eval = (args.toList.map a.eval).toArray := Array.ext' (by rw [Array.toList_map])
        simp only [execOp, resolve, h1, Deferred.ofValue, Sem.run_bind, Sem.run_pure, Result.andThen_ok, invoke, ha, Array.empty_append]
        rw [he]
        congr 2
        simp
      · cases h
    · cases h
  · cases h
/-- one operation, and what is to hold behind it -/
def One (P : Program) (ops : Array Oper) (Q : Exit → Act → World → Prop) (o : Oper) (J : Act → World → Prop) (a : Act) (w : World) : Prop :=
  if Region.wanted o (yielded ops a.tmps) then o.wp P a w J Q ∨ (o.asks P a w ∧ LetsOut Q) else J (a.put o.dst undef) w
theorem one_val (hw : Region.wanted o (yielded all.toArray a.tmps) = true) {v : Value} {w' : World} (hr : (execOp a.eval o).run E.P w = .ok (.value v) w') (h : J (a.put o.dst v) w') : One E.P all.toArray Q o J a w := by
  unfold One
  rw [if_pos hw]
  exact .inl (by unfold Oper.wp; rw [hr]; exact h)
theorem one_unit (hw : Region.wanted o (yielded all.toArray a.tmps) = true) {w' : World} (hr : (execOp a.eval o).run E.P w = .ok .skip w') (h : J (a.put o.dst undef) w') : One E.P all.toArray Q o J a w := by
  unfold One
  rw [if_pos hw]
  exact .inl (by unfold Oper.wp; rw [hr]; exact h)
theorem one_off (hw : Region.wanted o (yielded all.toArray a.tmps) = false) (h : J (a.put o.dst undef) w) : One E.P all.toArray Q o J a w := by
  unfold One
  rw [if_neg (by rw [hw]; simp)]
  exact h
theorem one_call (hw : Region.wanted o (yielded all.toArray a.tmps) = true) {n : Nat} {args : Array Value} (hr : (execOp a.eval o).run E.P w = .ok (.enter n args) w) (h : Calls E.P n args w fun e w' => ∃ v, e = .returned v ∧ J (a.put o.dst v) w') : One E.P all.toArray Q o J a w := by
  unfold One
  rw [if_pos hw]
  refine .inl ?_
  unfold Oper.wp
  rw [hr]
  exact h.mono fun e w' ⟨v, e1, h1⟩ => by subst e1; exact h1
/-- chunks that lie still: which, what stands for them, what lies there -/
structure AG where
  ks : List Nat
  B : BE
  H : Nat → PH
def AG.ok (G : AG) (B : BE) (H : Nat → PH) : Prop := ∀ k, hasK k G.ks = true → B k = G.B k ∧ H k = G.H k
def AG.nil : AG := ⟨[], fun _ => undef, fun _ => PH.emp⟩
theorem AG.nil_ok (B : BE) (H : Nat → PH) : AG.nil.ok B H := fun _ h => by cases h
/-- what is to hold, in every state that fits -/
def SJ (G : AG) (J : Act → World → Prop) (E : Env) (fr : Fr) (gf : GF) (mu : Mu) : Prop :=
  ∀ B a w H, FitsE E B H fr gf a → Mem E B mu w H → G.ok B H → J a w
/-- one operation, from every state that fits -/
def OJ (G : AG) (E : Env) (all : List Oper) (Q : Exit → Act → World → Prop) (J : Act → World → Prop) (o : Oper) (fr : Fr) (gf : GF) (mu : Mu) : Prop :=
  SJ G (One E.P all.toArray Q o J) E fr gf mu
variable {G : AG}
theorem RJ_of (h : OJ AG.nil E all Q (wpList E.P all.toArray Q rest) o fr gf mu) : RJ E all Q (o :: rest) fr gf mu := fun B a w H f m => by
  have h1 := h B a w H f m (AG.nil_ok B H)
  unfold One at h1
  unfold wpList
  exact h1
theorem SJ_of (k : RJ E all Q rest fr gf mu) : SJ G (wpList E.P all.toArray Q rest) E fr gf mu := fun B a w H f m _ => k B a w H f m
end
end Go.Proofs.YtiegllklalplnaaGreat
