/-
  Calls inside a region: a callee that only answers, one that makes memory, one that changes memory.
-/
import Derived.Test.YtiilpopeognekaaD
namespace Go.Proofs.Ytiilpopeognekaa
open Go Go.RowKit
set_option linter.unusedVariables false
set_option linter.unusedSimpArgs false

/-- all that there is to be read, in one -/
noncomputable def AllP (r : PH) (mu : Mu) (H : Nat → PH) : PH := fun b o => match r b o with
  | some v => some v
  | none => open Classical in if h : ∃ v k, (∃ c, mlk k mu = some c) ∧ H k b o = some v then some h.choose else none
theorem Mr.fitA {B : BE} {r : PH} {mu : Mu} {w : World} {H : Nat → PH} (m : Mr B r mu w H) : Fit (AllP r mu H) w := fun b o v e => by
  unfold AllP at e
  cases hr : r b o with
  | some u => rw [hr] at e; injection e with e; subst e; exact m.fitr b o _ hr
  | none =>
    rw [hr] at e
    simp only at e
    split at e
    · rename_i h
      injection e with e
      obtain ⟨k, ⟨c, hc⟩, hk⟩ := h.choose_spec
      rw [e] at hk
      exact m.fit k c hc b o v hk
    · cases e
theorem Mr.leA {B : BE} {r : PH} {mu : Mu} {w : World} {H : Nat → PH} (m : Mr B r mu w H) (k : Nat) {c : Ch} (hc : mlk k mu = some c) : (H k).le (AllP r mu H) := fun b o v e => by
  have hr : r b o = none := (m.djr k b o).resolve_left (by rw [e]; simp)
  have h : ∃ v k, (∃ c, mlk k mu = some c) ∧ H k b o = some v := ⟨v, k, ⟨c, hc⟩, e⟩
  unfold AllP
  rw [hr]
  simp only
  rw [dif_pos h]
  obtain ⟨k', _, hk⟩ := h.choose_spec
  by_cases hkk : k' = k
  · subst hkk; rw [e] at hk; injection hk with hk; rw [hk]
  · rcases m.dj k' k hkk b o with h1 | h1
    · rw [h1] at hk; cases hk
    · rw [h1] at e; cases e
theorem Mr.leR {B : BE} {r : PH} {mu : Mu} {w : World} {H : Nat → PH} (_ : Mr B r mu w H) : r.le (AllP r mu H) := fun b o v e => by
  unfold AllP
  rw [e]
/-- an owned slice, to be read beside all else -/
theorem Mr.srd {B : BE} {r : PH} {mu : Mu} {w : World} {H : Nat → PH} (m : Mr B r mu w H) (key : Nat) {α : Type} {k : Kd α} {v : Value} {xs : List α} (hk : mlk key mu = some (.own fun h => k.sown h v xs)) : k.srd (AllP r mu H) v xs :=
  Kd.srd_mono (Kd.sown_srd (show k.sown (H key) v xs from m.sat key _ hk)) (m.leA key hk)
/-- the function has a body that can be entered -/
def Enters (P : Program) (f : FuncId) : Prop := ∀ args w, (callFunc f args).run P w = .ok (.enter f args) w
theorem enters_of {P : Program} {f : FuncId} {fn : Func} (hf : P.funcs[f]? = some fn) (hname : (fn.name == "runtime.NumGoroutine") = false) (hb : fn.body.isSome = true) : Enters P f := by
  intro args w
  have h1 : fn.name ≠ "runtime.NumGoroutine" := by simpa using hname
  obtain ⟨c, hc⟩ := Option.isSome_iff_exists.1 hb
  simp [callFunc, hf, h1, hc]
/-- the operation calls f with these values, and what a closure has captured -/
def callsOf (g : Gd) (fr : Fr) (gf : GF) (o : Op) : Option (Nat × List SV × List AV) :=
  match o with
  | .call c => match c.callee with
    | .value x => match ev g fr gf x, evs g fr gf c.args.toList with
      | some (.fn f caps), some l => some (f, l, caps)
      | _, _ => none
    | _ => none
  | _ => none
section
variable {P : Program} {w w0 : World} {B : BE} {r : PH} {D : Nat → Nat → Prop} {mu mu' : Mu} {ga : Ga} {H : Nat → PH} {TT : List TI} {N : Nat} {fr fr' : Fr} {gf gf' : GF} {a : Act} {all : List Oper} {Q : Exit → Act → World → Prop} {rest : List Oper} {o : Oper}
theorem callsOf_run (f : Fits B N fr gf a) {g : Gd} (hg : ∀ d w, (d, w) ∈ g → a.tmps.getD d undef = .bool w) {n : Nat} {svs : List SV} {caps : List AV} (h : callsOf g fr gf o.op = some (n, svs, caps)) (he : Enters P n) :
    (execOp a.eval o).run P w = .ok (.enter n (svs.map (SV.den B) ++ caps.map (AV.den B)).toArray) w := by
  obtain ⟨dst, op, type, pos, after, guard⟩ := o
  simp only at h
  unfold callsOf at h
  split at h
  · rename_i c
    obtain ⟨callee, args, ats⟩ := c
    simp only at h
    split at h
    · rename_i x hx
      split at h
      · rename_i n' caps l e1 e2
        simp only [Option.some.injEq, Prod.mk.injEq] at h
        obtain ⟨rfl, rfl, rfl⟩ := h
        have h1 := f.ev hg e1
        have h2 := f.evs hg e2
        simp only [SV.den] at h1
        have ha : args.map a.eval = (l.map (SV.den B)).toArray := Array.ext' (by rw [Array.toList_map, h2])
        simp only [execOp, resolve, h1, Deferred.ofValue, Sem.run_bind, Sem.run_pure, Result.andThen_ok, invoke, ha, Array.empty_append]
        rw [he]
        congr 2
        simp
      · cases h
    · cases h
  · cases h
def hasK (k : Nat) : List Nat → Bool
  | [] => false
  | j :: r => bif Nat.beq j k then true else hasK k r
/-- one operation, and what is to hold behind it -/
def One (P : Program) (ops : Array Oper) (Q : Exit → Act → World → Prop) (o : Oper) (J : Act → World → Prop) (a : Act) (w : World) : Prop :=
  if Region.wanted o (yielded ops a.tmps) then o.wp P a w J Q ∨ (o.asks P a w ∧ LetsOut Q) else J (a.put o.dst undef) w
variable {J : Act → World → Prop}
theorem one_val (hw : Region.wanted o (yielded all.toArray a.tmps) = true) {v : Value} {w' : World} (hr : (execOp a.eval o).run P w = .ok (.value v) w') (h : J (a.put o.dst v) w') : One P all.toArray Q o J a w := by
  unfold One
  rw [if_pos hw]
  exact .inl (by unfold Oper.wp; rw [hr]; exact h)
theorem one_unit (hw : Region.wanted o (yielded all.toArray a.tmps) = true) {w' : World} (hr : (execOp a.eval o).run P w = .ok .skip w') (h : J (a.put o.dst undef) w') : One P all.toArray Q o J a w := by
  unfold One
  rw [if_pos hw]
  exact .inl (by unfold Oper.wp; rw [hr]; exact h)
theorem one_off (hw : Region.wanted o (yielded all.toArray a.tmps) = false) (h : J (a.put o.dst undef) w) : One P all.toArray Q o J a w := by
  unfold One
  rw [if_neg (by rw [hw]; simp)]
  exact h
theorem one_call (hw : Region.wanted o (yielded all.toArray a.tmps) = true) {n : Nat} {args : Array Value} (hr : (execOp a.eval o).run P w = .ok (.enter n args) w) (h : Calls P n args w fun e w' => ∃ v, e = .returned v ∧ J (a.put o.dst v) w') : One P all.toArray Q o J a w := by
  unfold One
  rw [if_pos hw]
  refine .inl ?_
  unfold Oper.wp
  rw [hr]
  exact h.mono fun e w' ⟨v, e1, h1⟩ => by subst e1; exact h1
/-- chunks that lie still: which, where, and what lies there -/
structure AG where
  ks : List Nat
  B : BE
  H : Nat → PH
def AG.ok (G : AG) (B : BE) (H : Nat → PH) : Prop := ∀ k, hasK k G.ks = true → B k = G.B k ∧ H k = G.H k
def AG.nil : AG := ⟨[], fun _ => ⟨0, 0, none⟩, fun _ => PH.emp⟩
theorem AG.nil_ok (B : BE) (H : Nat → PH) : AG.nil.ok B H := fun _ h => by cases h
theorem AG.ok.setB {G : AG} {B : BE} {H : Nat → PH} (h : G.ok B H) {k : Nat} (hk : hasK k G.ks = false) (p : Addr) (x : PH) : G.ok (BE.set B k p) (HF.set H k x) := fun j hj => by
  have : j ≠ k := fun e => by rw [e, hk] at hj; cases hj
  simp only [BE.set, HF.set, if_neg this]
  exact h j hj
theorem AG.ok.setH {G : AG} {B : BE} {H : Nat → PH} (h : G.ok B H) {k : Nat} (hk : hasK k G.ks = false) (x : PH) : G.ok B (HF.set H k x) := fun j hj => by
  have : j ≠ k := fun e => by rw [e, hk] at hj; cases hj
  simp only [HF.set, if_neg this]
  exact h j hj
/-- what is to hold, in every state that fits -/
def SJ (G : AG) (J : Act → World → Prop) (N : Nat) (r : PH) (D : Nat → Nat → Prop) (w0 : World) (fr : Fr) (gf : GF) (mu : Mu) (ga : Ga) : Prop :=
  ∀ B a w H, Fits B N fr gf a → Mem B r D w0 mu w H → GaOk r ga → G.ok B H → J a w
/-- one operation, from every state that fits -/
def OJ (G : AG) (P : Program) (N : Nat) (r : PH) (D : Nat → Nat → Prop) (w0 : World) (all : List Oper) (Q : Exit → Act → World → Prop) (J : Act → World → Prop) (o : Oper) (fr : Fr) (gf : GF) (mu : Mu) (ga : Ga) : Prop :=
  SJ G (One P all.toArray Q o J) N r D w0 fr gf mu ga
variable {G : AG}
theorem RJ_of (h : OJ AG.nil P N r D w0 all Q (wpList P all.toArray Q rest) o fr gf mu ga) : RJ P N r D w0 all Q (o :: rest) fr gf mu ga := fun B a w H f m g => by
  have h1 := h B a w H f m g (AG.nil_ok B H)
  unfold One at h1
  unfold wpList
  exact h1
theorem SJ_of (k : RJ P N r D w0 all Q rest fr gf mu ga) : SJ G (wpList P all.toArray Q rest) N r D w0 fr gf mu ga := fun B a w H f m g _ => k B a w H f m g
theorem OJ_call {n : Nat} {svs : List SV} {caps : List AV} (hg : o.guard = none) (hc : callsOf [] fr gf o.op = some (n, svs, caps)) (he : Enters P n)
    (h : ∀ B a w H, Fits B N fr gf a → Mem B r D w0 mu w H → GaOk r ga → G.ok B H → Calls P n (svs.map (SV.den B) ++ caps.map (AV.den B)).toArray w fun e w' => ∃ v, e = .returned v ∧ J (a.put o.dst v) w') :
    OJ G P N r D w0 all Q J o fr gf mu ga := fun B a w H f m g gg =>
  one_call (wanted_none hg) (callsOf_run f (fun _ _ hm => by cases hm) hc he) (h B a w H f m g gg)
/-- a call that only answers -/
theorem OJ_q {n t : Nat} {svs : List SV} {caps : List AV} {v : Value} (hg : o.guard = none) (hd : o.dst = some t) (ht : Nat.blt t N = true) (hc : callsOf [] fr gf o.op = some (n, svs, caps)) (he : Enters P n) (hgd : gdrop t gf = some gf')
    (h : ∀ B w H, Mr B r mu w H → Ret P n (svs.map (SV.den B) ++ caps.map (AV.den B)) w v) (k : SJ G J N r D w0 ((t, .a (.v v)) :: fr) gf' mu ga) :
    OJ G P N r D w0 all Q J o fr gf mu ga :=
  OJ_call hg hc he fun B a w H f m g gg => (h B w H m.mr).mono fun e w' ⟨e1, e2⟩ => ⟨v, e1, by
    rw [hd]
    exact k B _ w' H (f.put (by simpa [Nat.blt_eq] using ht) rfl hgd) (m.below e2) g gg⟩
theorem RJ_q {n t : Nat} {svs : List SV} {caps : List AV} {v : Value} (hg : o.guard = none) (hd : o.dst = some t) (ht : Nat.blt t N = true) (hc : callsOf [] fr gf o.op = some (n, svs, caps)) (he : Enters P n) (hgd : gdrop t gf = some gf')
    (h : ∀ B w H, Mr B r mu w H → Ret P n (svs.map (SV.den B) ++ caps.map (AV.den B)) w v) (k : RJ P N r D w0 all Q rest ((t, .a (.v v)) :: fr) gf' mu ga) :
    RJ P N r D w0 all Q (o :: rest) fr gf mu ga := RJ_of (OJ_q hg hd ht hc he hgd h (SJ_of k))
theorem gslot_ops {j d : Nat} (hs : gSlot all j = some d) : (all.toArray[j]?).bind (·.dst) = some d := by
  unfold gSlot at hs
  rw [nth_eq] at hs
  simp only [List.getElem?_toArray]
  cases e : all[j]? with
  | none => rw [e] at hs; cases hs
  | some o' => rw [e] at hs; exact hs
/-- the same under a guard -/
theorem OJ_qg {n t j d : Nat} {b : Bool} {svs : List SV} {caps : List AV} {v : Value} (hg : o.guard = some (j, b)) (hs : gSlot all j = some d) (hd : o.dst = some t) (ht : (Nat.blt t N && !(Nat.beq t d)) = true) (hn : mlk t fr = none) (hc : callsOf (acts 6 gf d b) fr gf o.op = some (n, svs, caps)) (he : Enters P n) (hgd : gdrop t gf = some gf') {q : Prop} {go : GO} (hq : nestG fr gf (acts 6 gf d b) q = go) (hgo : go.p)
    (h : q → ∀ B w H, Mr B r mu w H → Ret P n (svs.map (SV.den B) ++ caps.map (AV.den B)) w v) (k : SJ G J N r D w0 fr ((t, d, b, .a (.v v)) :: gf') mu ga) :
    OJ G P N r D w0 all Q J o fr gf mu ga := fun B a w H f m g gg => by
  simp only [Bool.and_eq_true, Bool.not_eq_true'] at ht
  have htd : t ≠ d := Nat.ne_of_beq_eq_false ht.2
  have htN : t < N := by simpa [Nat.blt_eq] using ht.1
  have hw := wanted_some (ops := all.toArray) (a := a) hg (gslot_ops hs)
  by_cases hyes : a.tmps.getD d undef = .bool b
  · have hacts := acts_ok f 6 d b hyes
    have hq' : q := nestG_ok f hacts (by rw [hq]; exact hgo)
    refine one_call (hw.2 hyes) (callsOf_run f hacts hc he) ((h hq' B w H m.mr).mono fun e w' ⟨e1, e2⟩ => ⟨v, e1, ?_⟩)
    rw [hd]
    exact k B _ w' H (f.putG htN htd hn hgd (.inl ⟨hyes, rfl⟩)) (m.below e2) g gg
  · refine one_off (by
      cases e : Region.wanted o (yielded all.toArray a.tmps) with
      | false => rfl
      | true => exact absurd (hw.1 e) hyes) ?_
    rw [hd]
    exact k B _ w H (f.putG htN htd hn hgd (.inr ⟨hyes, rfl⟩)) m g gg
theorem RJ_qg {n t j d : Nat} {b : Bool} {svs : List SV} {caps : List AV} {v : Value} (hg : o.guard = some (j, b)) (hs : gSlot all j = some d) (hd : o.dst = some t) (ht : (Nat.blt t N && !(Nat.beq t d)) = true) (hn : mlk t fr = none) (hc : callsOf (acts 6 gf d b) fr gf o.op = some (n, svs, caps)) (he : Enters P n) (hgd : gdrop t gf = some gf') {q : Prop} {go : GO} (hq : nestG fr gf (acts 6 gf d b) q = go) (hgo : go.p)
    (h : q → ∀ B w H, Mr B r mu w H → Ret P n (svs.map (SV.den B) ++ caps.map (AV.den B)) w v) (k : RJ P N r D w0 all Q rest fr ((t, d, b, .a (.v v)) :: gf') mu ga) :
    RJ P N r D w0 all Q (o :: rest) fr gf mu ga := RJ_of (OJ_qg hg hs hd ht hn hc he hgd hq hgo h (SJ_of k))
/-- what a maker answers: a value that owns a new part of memory -/
def Made (P : Program) (f : FuncId) (args : List Value) (w : World) (φ : Value → PH → Prop) : Prop :=
  Calls P f args.toArray w fun e w' => ∃ v h, e = .returned v ∧ φ v h ∧ Fit h w' ∧ Below w.heap.size w w' ∧ ∀ b o, h b o ≠ none → w.heap.size ≤ b
theorem Mem.add (m : Mem B r D w0 mu w H) {w' : World} (hb : Below w.heap.size w w') {k : Nat} {c : Ch} {h : PH} (hc : c.sat B k h) (hf : Fit h w') (hn : ∀ b o, h b o ≠ none → w.heap.size ≤ b) : Mem B r D w0 ((k, c) :: mu) w' (HF.set H k h) := by
  have m2 := m.below hb
  have lt : ∀ (g : PH), Fit g w → g.dj h := by
    intro g f x y
    cases e : g x y with
    | none => exact .inl rfl
    | some v =>
      right
      cases e2 : h x y with
      | none => rfl
      | some u =>
        have h1 := f.lt (b := x) (o := y) (by rw [e]; simp)
        have h2 := hn x y (by rw [e2]; simp)
        omega
  refine ⟨fun j d e => ?_, fun j => ?_, fun i j hij => ?_, fun j => ?_, m2.fitr, m2.keep, fun j b o e => ?_⟩
  · rw [mlk_cons] at e
    by_cases hj : k = j
    · subst hj
      rw [if_pos rfl] at e; injection e with e; subst e
      simp only [HF.set, if_true]; exact hc
    · rw [if_neg hj] at e
      simp only [HF.set, if_neg (Ne.symm hj)]
      exact m.sat j d e
  · by_cases hj : j = k
    · subst hj; simp only [HF.set, if_true]; exact hf
    · simp only [HF.set, if_neg hj]; exact m2.fit j
  · by_cases hi : i = k <;> by_cases hj : j = k
    · exact absurd (hi.trans hj.symm) hij
    · simp only [HF.set, if_pos hi, if_neg hj]; exact PH.dj_symm (lt _ (m.fit j))
    · simp only [HF.set, if_neg hi, if_pos hj]; exact lt _ (m.fit i)
    · simp only [HF.set, if_neg hi, if_neg hj]; exact m.dj i j hij
  · by_cases hj : j = k
    · simp only [HF.set, if_pos hj]; exact PH.dj_symm (lt _ m.fitr)
    · simp only [HF.set, if_neg hj]; exact m.djr j
  · by_cases hj : j = k
    · simp only [HF.set, if_pos hj] at e
      right; exact Nat.le_trans m.keep.size (hn b o e)
    · simp only [HF.set, if_neg hj] at e
      exact m.dom j b o e
/-- a call that makes memory -/
theorem OJ_m {n t : Nat} (key : Nat) (hkey : hasK key G.ks = false) {svs : List SV} {caps : List AV} {φ : Value → PH → Prop} (hg : o.guard = none) (hd : o.dst = some t) (ht : Nat.blt t N = true) (hc : callsOf [] fr gf o.op = some (n, svs, caps)) (he : Enters P n) (hgd : gdrop t gf = some gf')
    (h : ∀ B w H, Mr B r mu w H → Made P n (svs.map (SV.den B) ++ caps.map (AV.den B)) w φ) (k : ∀ v, SJ G J N r D w0 ((t, .a (.v v)) :: fr) gf' ((key, .own (φ v)) :: mu) ga) :
    OJ G P N r D w0 all Q J o fr gf mu ga :=
  OJ_call hg hc he fun B a w H f m g gg => (h B w H m.mr).mono fun e w' ⟨v, h', e1, e2, e3, e4, e5⟩ => ⟨v, e1, by
    rw [hd]
    exact k v B _ w' _ (f.put (by simpa [Nat.blt_eq] using ht) rfl hgd) (m.add (k := key) e4 (c := .own (φ v)) e2 e3 e5) g (gg.setH hkey _)⟩
theorem RJ_m {n t : Nat} (key : Nat) {svs : List SV} {caps : List AV} {φ : Value → PH → Prop} (hg : o.guard = none) (hd : o.dst = some t) (ht : Nat.blt t N = true) (hc : callsOf [] fr gf o.op = some (n, svs, caps)) (he : Enters P n) (hgd : gdrop t gf = some gf')
    (h : ∀ B w H, Mr B r mu w H → Made P n (svs.map (SV.den B) ++ caps.map (AV.den B)) w φ) (k : ∀ v, RJ P N r D w0 all Q rest ((t, .a (.v v)) :: fr) gf' ((key, .own (φ v)) :: mu) ga) :
    RJ P N r D w0 all Q (o :: rest) fr gf mu ga := RJ_of (OJ_m key rfl hg hd ht hc he hgd h fun v => SJ_of (k v))
/-- the same, where what it answers has a form -/
theorem OJ_mX {ι : Type} (val : ι → Value) {n t : Nat} (key : Nat) (hkey : hasK key G.ks = false) {svs : List SV} {caps : List AV} {φ : Value → PH → Prop} (hφ : ∀ v h, φ v h → ∃ x, v = val x) (hg : o.guard = none) (hd : o.dst = some t) (ht : Nat.blt t N = true) (hc : callsOf [] fr gf o.op = some (n, svs, caps)) (he : Enters P n) (hgd : gdrop t gf = some gf')
    (h : ∀ B w H, Mr B r mu w H → Made P n (svs.map (SV.den B) ++ caps.map (AV.den B)) w φ) (k : ∀ x, SJ G J N r D w0 ((t, .a (.v (val x))) :: fr) gf' ((key, .own (φ (val x))) :: mu) ga) :
    OJ G P N r D w0 all Q J o fr gf mu ga :=
  OJ_m key hkey hg hd ht hc he hgd h fun v B a w H f m g gg => by
    have hs : (Ch.own (φ v)).sat B key (H key) := m.sat key _ (by rw [mlk_cons, if_pos rfl])
    obtain ⟨x, rfl⟩ := hφ v _ (show φ v (H key) from hs)
    exact k x B a w H f m g gg
theorem RJ_mX {ι : Type} (val : ι → Value) {n t : Nat} (key : Nat) {svs : List SV} {caps : List AV} {φ : Value → PH → Prop} (hφ : ∀ v h, φ v h → ∃ x, v = val x) (hg : o.guard = none) (hd : o.dst = some t) (ht : Nat.blt t N = true) (hc : callsOf [] fr gf o.op = some (n, svs, caps)) (he : Enters P n) (hgd : gdrop t gf = some gf')
    (h : ∀ B w H, Mr B r mu w H → Made P n (svs.map (SV.den B) ++ caps.map (AV.den B)) w φ) (k : ∀ x, RJ P N r D w0 all Q rest ((t, .a (.v (val x))) :: fr) gf' ((key, .own (φ (val x))) :: mu) ga) :
    RJ P N r D w0 all Q (o :: rest) fr gf mu ga := RJ_of (OJ_mX val key rfl hφ hg hd ht hc he hgd h fun v => SJ_of (k v))
theorem Kd.sown_val {α : Type} {k : Kd α} {xs : List α} (v : Value) (h : PH) (s : k.sown h v xs) : ∃ x : Option Addr × Nat, v = .slice x.1 xs.length x.2 := by
  obtain ⟨A, c, e, _⟩ := s
  exact ⟨(A, c), e⟩
/-- what an owned part tells -/
theorem RJ_pure (key : Nat) {φ : PH → Prop} {p : Prop} (hk : mlk key mu = some (.own φ)) (hp : ∀ h, φ h → p) (k : p → RJ P N r D w0 all Q rest fr gf mu ga) : RJ P N r D w0 all Q rest fr gf mu ga := fun B a w H f m g =>
  k (hp _ (m.sat key _ hk)) B a w H f m g
/-- an owned part is given up: it is read from now on -/
theorem Mem.freeze (m : Mem B r D w0 mu w H) (key : Nat) {c : Ch} (hk : mlk key mu = some c) : Mem B (r.un (H key)) D w0 ((key, .own fun _ => True) :: mu) w (HF.set H key PH.emp) ∧ c.sat B key (H key) := by
  refine ⟨⟨fun j d e => ?_, fun j => ?_, fun i j hij => ?_, fun j => ?_, m.fitr.un (m.fit key), m.keep, fun j b o e => ?_⟩, m.sat key c hk⟩
  · rw [mlk_cons] at e
    by_cases hj : key = j
    · rw [if_pos hj] at e; injection e with e; subst e; trivial
    · rw [if_neg hj] at e
      simp only [HF.set, if_neg (Ne.symm hj)]
      exact m.sat j d e
  · by_cases hj : j = key
    · simp only [HF.set, if_pos hj]; exact Fit.emp _
    · simp only [HF.set, if_neg hj]; exact m.fit j
  · by_cases hi : i = key <;> by_cases hj : j = key
    · exact absurd (hi.trans hj.symm) hij
    · simp only [HF.set, if_pos hi, if_neg hj]; exact PH.emp_dj _
    · simp only [HF.set, if_neg hi, if_pos hj]; exact PH.dj_emp _
    · simp only [HF.set, if_neg hi, if_neg hj]; exact m.dj i j hij
  · by_cases hj : j = key
    · simp only [HF.set, if_pos hj]; exact PH.emp_dj _
    · simp only [HF.set, if_neg hj]; exact PH.dj_un (m.djr j) (m.dj j key hj)
  · by_cases hj : j = key
    · simp only [HF.set, if_pos hj] at e; exact absurd rfl e
    · simp only [HF.set, if_neg hj] at e; exact m.dom j b o e
theorem RJ_freeze (key : Nat) {φ : PH → Prop} (hk : mlk key mu = some (.own φ)) (k : ∀ r', r.le r' → (∃ h, h.le r' ∧ φ h) → RJ P N r' D w0 all Q rest fr gf ((key, .own fun _ => True) :: mu) ga) : RJ P N r D w0 all Q rest fr gf mu ga := fun B a w H f m g => by
  obtain ⟨m2, hs⟩ := m.freeze key hk
  have l1 : r.le (r.un (H key)) := PH.le_un_left _ _
  exact k _ l1 ⟨H key, PH.le_un_right (PH.dj_symm (m.djr key)), hs⟩ B a w _ f m2 (g.mono l1)
end
end Go.Proofs.Ytiilpopeognekaa
