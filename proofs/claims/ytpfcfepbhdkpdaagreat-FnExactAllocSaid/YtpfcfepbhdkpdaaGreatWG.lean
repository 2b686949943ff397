
/-
  Answers, in short.
  Lists in arrays; functions that make one.
  A function value called under a guard; helpers.
  Contracts told more weakly; arrays whose elements are told otherwise.
  A box that is only read from here on is told as what is read.
-/
import Derived.Test.YtpfcfepbhdkpdaaGreatTT
namespace Go.Proofs.YtpfcfepbhdkpdaaGreat
open Go Go.RowKit
set_option linter.unusedVariables false
set_option linter.unusedSimpArgs false

section
abbrev vI (n : Int) : SV := .a (.v (.int .i64 n))
abbrev vB (b : Bool) : SV := .a (.v (.bool b))
abbrev vT (s : ByteArray) : SV := .a (.v (.string s))
/-- a struct that is read -/
abbrev vR (l : List D) : SV := .ag (l.map (D.toV .r))
/-- a slice that is read -/
abbrev vL {α : Type} (sz : Nat) (enc : α → List D) (z : α) (xs : List α) : SV := .a (.s .r sz xs.length fun i => enc (xs.getD i z))
abbrev dL {α : Type} (sz : Nat) (enc : α → List D) (z : α) (xs : List α) : D := .sl sz xs.length fun i => enc (xs.getD i z)
/-- a pointer to a struct that is read -/
abbrev vP (l : List D) : SV := .a (.rp .r l 0)
section
variable {E : Env} {mu : Mu} {TT : List TI} {fr : Fr} {K : List KF}
theorem T_ans {fn : Func} {res : SV} (hT : TOk E.P TT) (ts : List (Nat × Option Nat)) (hr : fn.results = (ts.map rvOf).toArray) {x : SV} (hl : allGetC TT fr mu ts = some [x]) (hx : x = res) :
    T E (bodyPost E.P fn (RetP E (fun _ : Unit => True) (fun _ => [res]) fun _ => [])) .ret fr mu K :=
  T_ret hT () ts hr hl ⟨_, _, rfl, SV.imp_of hx, rfl⟩ trivial trivial
theorem T_ansB {fn : Func} {b b' : Bool} (hT : TOk E.P TT) (ts : List (Nat × Option Nat)) (hr : fn.results = (ts.map rvOf).toArray) (hl : allGetC TT fr mu ts = some [vB b]) (hx : b = b') :
    T E (bodyPost E.P fn (RetP E (fun _ : Unit => True) (fun _ => [vB b']) fun _ => [])) .ret fr mu K := T_ans hT ts hr hl (by rw [hx])
theorem T_ansI {fn : Func} {b b' : Int} (hT : TOk E.P TT) (ts : List (Nat × Option Nat)) (hr : fn.results = (ts.map rvOf).toArray) (hl : allGetC TT fr mu ts = some [vI b]) (hx : b = b') :
    T E (bodyPost E.P fn (RetP E (fun _ : Unit => True) (fun _ => [vI b']) fun _ => [])) .ret fr mu K := T_ans hT ts hr hl (by rw [hx])
end
end

section
abbrev arrC {α : Type} (sz : Nat) (enc : α → List D) (z : α) (xs : List α) : Ch := .arr sz xs.length fun i => enc (xs.getD i z)
/-- a function that makes a slice of what it reads -/
abbrev MkL {α : Type} (P : Program) (f : Nat) (args : List SV) (sz : Nat) (enc : α → List D) (z : α) (xs : List α) : Prop := Con P f [] args [] (fun _ : Unit => True) (fun _ => [.a (.g 900)]) fun _ => [(900, arrC sz enc z xs)]
theorem Ch.imp_len {sz n m : Nat} {f g : Nat → List D} (h : n = m) (e : ∀ i, i < n → f i = g i) : (Ch.arr sz n f).imp (.arr sz m g) := by subst h; exact Ch.imp_arr e
theorem imp_list {α : Type} {sz : Nat} {enc : α → List D} {z : α} {xs ys : List α} (h : xs = ys) : (arrC sz enc z xs).imp (arrC sz enc z ys) := by subst h; exact Ch.imp_refl _
theorem imp_app {α : Type} {sz : Nat} {enc : α → List D} {z : α} {ys zs rs : List α} (h : rs = ys ++ zs) : (Ch.arr sz (ys.length + zs.length) (appD ys.length (fun i => enc (ys.getD i z)) fun i => enc (zs.getD i z))).imp (arrC sz enc z rs) := by
  subst h
  refine Ch.imp_len (by simp) fun i hi => ?_
  by_cases c : i < ys.length
  · rw [appD_lt c]; congr 1; simp [List.getElem?_append_left c]
  · rw [appD_ge (by omega)]; congr 1; simp [List.getElem?_append_right (Nat.le_of_not_lt c)]
theorem imp_app1 {α : Type} {sz : Nat} {enc : α → List D} {z x : α} {ys rs : List α} {g : Nat → List D} (h : rs = ys ++ [x]) (hg : g 0 = enc x) : (Ch.arr sz (ys.length + 1) (appD ys.length (fun i => enc (ys.getD i z)) g)).imp (arrC sz enc z rs) := by
  subst h
  refine Ch.imp_len (by simp) fun i hi => ?_
  by_cases c : i < ys.length
  · rw [appD_lt c]; congr 1; simp [List.getElem?_append_left c]
  · have : i = ys.length := by omega
    subst this
    rw [appD_ge (by omega), Nat.sub_self, hg]; congr 1; simp
theorem take_succ_getD {α : Type} {z : α} {xs : List α} {i : Nat} (h : i < xs.length) : xs.take (i + 1) = xs.take i ++ [xs.getD i z] := by
  rw [List.take_add_one]; simp [h]
theorem filter_take {α : Type} {z : α} {xs : List α} {i : Nat} (h : i < xs.length) (p : α → Bool) : (xs.take (i + 1)).filter p = if p (xs.getD i z) then (xs.take i).filter p ++ [xs.getD i z] else (xs.take i).filter p := by
  rw [take_succ_getD (z := z) h, List.filter_append, List.filter_cons]
  split <;> simp
theorem filter_take_yes {α : Type} {z : α} {xs : List α} {i : Nat} (h : i < xs.length) {p : α → Bool} (e : p (xs.getD i z) = true) : (xs.take (i + 1)).filter p = (xs.take i).filter p ++ [xs.getD i z] := by rw [filter_take (z := z) h, if_pos e]
theorem filter_take_no {α : Type} {z : α} {xs : List α} {i : Nat} (h : i < xs.length) {p : α → Bool} (e : p (xs.getD i z) = false) : (xs.take i).filter p = (xs.take (i + 1)).filter p := by rw [filter_take (z := z) h, if_neg (by rw [e]; simp)]
theorem filter_take_len {α : Type} (xs : List α) (p : α → Bool) (i : Nat) : ((xs.take i).filter p).length ≤ xs.length := Nat.le_trans (List.length_filter_le _ _) (by rw [List.length_take]; exact Nat.min_le_right _ _)
/-- a function value that answers q -/
abbrev fbO {α : Type} (rd : α → List RD) (q : α → Value) : SV := .fb fun args v => ∃ x, args = rd x ∧ v = q x
def idxI {α : Type} (p : α → Bool) : List α → Int
  | [] => -1
  | x :: r => if p x then 0 else if idxI p r = -1 then -1 else idxI p r + 1
theorem idxI_no {α : Type} {p : α → Bool} {z : α} : ∀ {xs : List α}, (∀ j, j < xs.length → p (xs.getD j z) = false) → idxI p xs = -1
  | [], _ => rfl
  | x :: r, h => by
    have h0 : p x = false := by simpa using h 0 (by simp)
    have := idxI_no (p := p) (z := z) (xs := r) fun j hj => by simpa using h (j + 1) (by simpa using hj)
    simp [idxI, h0, this]
theorem idxI_at {α : Type} {p : α → Bool} {z : α} : ∀ {xs : List α} {i : Nat}, i < xs.length → (∀ j, j < i → p (xs.getD j z) = false) → p (xs.getD i z) = true → idxI p xs = i
  | x :: r, 0, _, _, h => by simp at h; simp [idxI, h]
  | x :: r, i + 1, hi, h0, h => by
    have hx : p x = false := by simpa using h0 0 (by omega)
    have := idxI_at (p := p) (z := z) (xs := r) (i := i) (by simpa using hi) (fun j hj => by simpa using h0 (j + 1) (by omega)) (by simpa using h)
    simp only [idxI, hx, this]
    simp
theorem idxI_cases {α : Type} (p : α → Bool) (z : α) (xs : List α) : (idxI p xs = -1 ∧ ∀ j, j < xs.length → p (xs.getD j z) = false) ∨ ∃ i : Nat, i < xs.length ∧ idxI p xs = i ∧ (∀ j, j < i → p (xs.getD j z) = false) ∧ p (xs.getD i z) = true := by
  by_cases h : ∃ i, i < xs.length ∧ p (xs.getD i z) = true
  · right
    have hw : ∃ i, (i < xs.length ∧ p (xs.getD i z) = true) ∧ ∀ j, j < i → ¬ (j < xs.length ∧ p (xs.getD j z) = true) := by
      obtain ⟨n, hn⟩ := h
      have : ∀ n, (n < xs.length ∧ p (xs.getD n z) = true) → ∃ i, (i < xs.length ∧ p (xs.getD i z) = true) ∧ ∀ j, j < i → ¬ (j < xs.length ∧ p (xs.getD j z) = true) := fun n => by
        induction n using Nat.strongRecOn with
        | ind n ih =>
          intro hn
          by_cases h : ∃ j, j < n ∧ (j < xs.length ∧ p (xs.getD j z) = true)
          · obtain ⟨j, h1, h2⟩ := h; exact ih j h1 h2
          · exact ⟨n, hn, fun j hj hc => h ⟨j, hj, hc⟩⟩
      exact this n hn
    obtain ⟨i, ⟨h1, h2⟩, h3⟩ := hw
    have h4 : ∀ j, j < i → p (xs.getD j z) = false := fun j hj => by
      cases c : p (xs.getD j z) with
      | false => rfl
      | true => exact absurd ⟨by omega, c⟩ (h3 j hj)
    exact ⟨i, h1, idxI_at h1 h4 h2, h4, h2⟩
  · left
    have h4 : ∀ j, j < xs.length → p (xs.getD j z) = false := fun j hj => by
      cases c : p (xs.getD j z) with
      | false => rfl
      | true => exact absurd ⟨j, hj, c⟩ h
    exact ⟨idxI_no h4, h4⟩
theorem filter_none {α : Type} {p : α → Bool} {z : α} {xs : List α} (h : ∀ j, j < xs.length → p (xs.getD j z) = false) : xs = xs.filter fun x => !p x := by
  symm
  rw [List.filter_eq_self]
  intro x hx
  obtain ⟨j, hj, rfl⟩ := List.mem_iff_getElem.1 hx
  have := h j hj
  simp at this ⊢
  rw [List.getElem?_eq_getElem hj] at this
  simpa using this
theorem filter_take_le {α : Type} (xs : List α) (p : α → Bool) (i : Nat) : ((xs.take i).filter p).length ≤ i := Nat.le_trans (List.length_filter_le _ _) (by rw [List.length_take]; exact Nat.min_le_left _ _)
theorem getD_take {α : Type} {z : α} {xs : List α} {i k : Nat} (h : k < (xs.take i).length) : (xs.take i).getD k z = xs.getD k z := by
  rw [List.length_take] at h
  simp only [List.getD_eq_getElem?_getD]
  rw [List.getElem?_take_of_lt (by omega)]
theorem del_start {α : Type} {p : α → Bool} {z : α} {xs : List α} {i : Nat} (h1 : i < xs.length) (h3 : ∀ j, j < i → p (xs.getD j z) = false) (h4 : p (xs.getD i z) = true) : ((xs.take (i + 1)).filter fun x => !p x) = xs.take i := by
  rw [filter_take (z := z) h1, if_neg (by rw [h4]; simp)]
  refine (filter_none (z := z) (xs := xs.take i) fun j hj => ?_).symm
  rw [getD_take hj]
  rw [List.length_take] at hj
  exact h3 j (by omega)
theorem getD_app_lt {α : Type} {z : α} {ys zs : List α} {k : Nat} (h : k < ys.length) : (ys ++ zs).getD k z = ys.getD k z := by simp [List.getElem?_append_left h]
theorem getD_app_eq {α : Type} {z x : α} {ys : List α} : (ys ++ [x]).getD ys.length z = x := by simp
def szI (l : Int) (n : Nat) : Int := if l - n < 0 then -1 else l - n
theorem szI_neg {l : Int} {n : Nat} : szI l n < 0 ↔ l < n := by
  unfold szI; split <;> omega
/-- an array is filled in order: one more -/
theorem fill_step {α : Type} {z : α} {xs : List α} {i k : Nat} (enc : α → List D) {l : List D} (h : l = enc (xs.getD i z)) : (bif Nat.beq k ((i : Int).toNat) then l else enc (if k < i then xs.getD k z else z)) = enc (if k < i + 1 then xs.getD k z else z) := by
  by_cases c : k = i
  · subst c
    rw [Int.toNat_natCast, Nat.beq_refl, h, if_pos (Nat.lt_succ_self _)]; rfl
  · have e : Nat.beq k ((i : Int).toNat) = false := by
      rw [Int.toNat_natCast]
      cases e : Nat.beq k i with
      | false => rfl
      | true => exact absurd (Nat.eq_of_beq_eq_true e) c
    rw [e]
    by_cases c2 : k < i
    · rw [if_pos c2, if_pos (by omega)]; rfl
    · rw [if_neg c2, if_neg (by omega)]; rfl
theorem vI_eq {a b : Int} (h : a = b) : vI a = vI b := by rw [h]
theorem fill_step2 {α : Type} {i k : Nat} (enc : α → List D) (g : Nat → α) {o : Nat → α} {l : List D} (h : l = enc (g i)) : (bif Nat.beq k ((i : Int).toNat) then l else enc (if k < i then g k else o k)) = enc (if k < i + 1 then g k else o k) := by
  by_cases c : k = i
  · subst c
    rw [Int.toNat_natCast, Nat.beq_refl, h, if_pos (Nat.lt_succ_self _)]; rfl
  · have e : Nat.beq k ((i : Int).toNat) = false := by
      rw [Int.toNat_natCast]
      cases e : Nat.beq k i with
      | false => rfl
      | true => exact absurd (Nat.eq_of_beq_eq_true e) c
    rw [e]
    by_cases c2 : k < i
    · rw [if_pos c2, if_pos (by omega)]; rfl
    · rw [if_neg c2, if_neg (by omega)]; rfl
section
variable {E : Env} {mu mu' : Mu} {TT : List TI} {fr fr' : Fr} {gf gf' : GF} {all rest : List Oper} {Q : Exit → Act → World → Prop} {o : Oper} {G : AG}
/-- any call, in a region that draws: nothing else may come up -/
theorem DJ_C {ι : Type} (i : Nat) {n : Nat} {tk : List Nat} {f : Nat} {ks nk : List Nat} {args : List SV} {mu1 : Mu} {φ : ι → Prop} {res : ι → List SV} {mu1' : ι → Mu} (C : Con E.P f ks args mu1 φ res mu1') {svs args' : List SV} {g : Option (Nat × Nat × Bool)} {t : Nat} {q : Ob} {es : List Prop} {gs : List GO} {md : Mu}
    (hi : nth all i = some o) (hc : callC E.N all fr gf o = some (f, svs, g, t, gf')) (hw : wkSL mu (keysO mu1) ks svs = some (args', q)) (ha : SVs.imp E.P args' args) (hnk : ∀ y, keysOf (mu1' y) = nk) (hs : splitO fr gf [] q [] [] = some (es, gs)) (hmd : mdropKs (appK (keysO mu1) nk) mu = some md) {fr' : Fr} {gf2 : GF} (hcut : cutKs (keysO mu1) fr gf' = some (fr', gf2))
    (k : ∀ y, φ y → DJ G E all Q n (i :: tk) ((t, resS (res y)) :: fr') gf2 (appM (mu1' y) md)) (hB : oneB all.toArray tk i = true := by kernel_rfl)
    (hin : WkIn mu mu1 := by repeat (first | exact trivial | refine And.intro ⟨_, rfl, ro_arr⟩ ?_ | refine And.intro ⟨_, rfl, ro_ro⟩ ?_ | refine And.intro ⟨_, rfl, ro_row⟩ ?_ | refine And.intro ⟨_, rfl, Ch.imp_refl _⟩ ?_)) (hg : litG fr gf g := by first | exact trivial | exact ⟨rfl, rfl⟩) (hkeys : keysB ks nk mu1 fr gf mu E.A.ks G.ks = true := by exact rfl) (hout : ∀ y, (SV.inKL (appK ks nk) (res y) && muIn (appK ks nk) (mu1' y)) = true := by exact fun _ => rfl) (hen : Enters E.P f := by exact enters_B (by kernel_rfl)) (he : PAlls es := by repeat (first | exact trivial | refine And.intro rfl ?_)) (ho : GAlls gs := by first | exact trivial | ((simp only [GAlls, GO.p, InR]; (repeat' (first | exact trivial | refine And.intro ?_ ?_ | refine fun _ => ?_)) <;> first | omega | (simp only [decide_eq_true_eq, decide_eq_false_iff_not, Int.toNat_natCast] at *; omega) | (simp at *; omega)))) :
    DJ G E all Q (n + 1) tk fr gf mu :=
  DJ_one i hi hB (OJ_C C hc hg hen hw ha hs he ho hin hnk hkeys hout hmd hcut fun y hy => SJ_dj (k y hy))
/-- a call that answers, in a region that draws: nothing else may come up, and all memory is read -/
theorem DJ_Q1 (i : Nat) {n : Nat} {tk : List Nat} {f : Nat} {ks : List Nat} {args : List SV} {mu1 : Mu} {res : SV} (C : Ans E.P f ks args mu1 res) {svs args' : List SV} {g : Option (Nat × Nat × Bool)} {t : Nat} {q : Ob} {es : List Prop} {gs : List GO}
    (hi : nth all i = some o) (hc : callC E.N all fr gf o = some (f, svs, g, t, gf')) (hw : wkSL mu [] ks svs = some (args', q)) (hae : args' = args) (hs : splitO fr gf (match g with | none => [] | some (_, d, b) => acts 6 gf d b) q [] [] = some (es, gs))
    (k : DJ G E all Q n (i :: tk) (frQ fr g t res) (gfQ gf' g t res) mu) (hB : oneB all.toArray tk i = true := by kernel_rfl) (hko : keysO mu1 = [] := by exact rfl) (hres : res.inK ks = true := by exact rfl) (hin : WkIn mu mu1 := by repeat (first | exact trivial | refine And.intro ⟨_, rfl, ro_arr⟩ ?_ | refine And.intro ⟨_, rfl, ro_ro⟩ ?_ | refine And.intro ⟨_, rfl, ro_row⟩ ?_ | refine And.intro ⟨_, rfl, Ch.imp_refl _⟩ ?_)) (hen : Enters E.P f := by exact enters_B (by kernel_rfl)) (he : PAlls es := by repeat (first | exact trivial | refine And.intro rfl ?_)) (ho : GAlls gs := by first | exact trivial | ((simp only [GAlls, GO.p, InR]; (repeat' (first | exact trivial | refine And.intro ?_ ?_ | refine fun _ => ?_)) <;> first | omega | (simp only [decide_eq_true_eq, decide_eq_false_iff_not, Int.toNat_natCast] at *; omega) | (simp at *; omega)))) :
    DJ G E all Q (n + 1) tk fr gf mu := by
  subst hae
  exact DJ_one i hi hB (OJ_Q C hc rfl hen hko hres hw (SVs.imp_refl _) hs he ho hin (SJ_dj k))
end
end

section
section
variable {E : Env} {mu mu' : Mu} {TT : List TI} {fr fr' : Fr} {gf gf' : GF} {all rest : List Oper} {Q : Exit → Act → World → Prop} {o : Oper} {J : Act → World → Prop} {G : AG}
theorem OJ_FG {φ : List RD → Value → Prop} {args : List SV} {rds : List RD} {t j d : Nat} {b : Bool} {x : Value} (hg : o.guard = some (j, b)) (hsl : gSlot all j = some d) (hc : fbOf (acts 6 gf d b) fr gf o.op = some (φ, args)) (hr : rdSs args = some rds) (hgd : gdrop t gf = some gf') (hx : φ rds x)
    (k : SJ G J E fr ((t, d, b, .a (.v x)) :: gf') mu) (hd : o.dst = some t := by exact rfl) (hn : mlk t fr = none := by exact rfl) (ht : (Nat.blt t E.N && !(Nat.beq t d)) = true := by exact rfl) : OJ G E all Q J o fr gf mu := fun B a w H f m gg => by
  simp only [Bool.and_eq_true, Bool.not_eq_true'] at ht
  have htd : t ≠ d := Nat.ne_of_beq_eq_false ht.2
  have htN : t < E.N := by simpa [Nat.blt_eq] using ht.1
  have hwt := wanted_some (ops := all.toArray) (a := a) hg (gslot_ops hsl)
  by_cases hyes : a.tmps.getD d undef = .bool b
  · have hacts := acts_ok f 6 d b hyes
    have hw := hwt.2 hyes
    obtain ⟨dst, op, type, pos, after, guard⟩ := o
    simp only at hc hd
    subst hd
    unfold fbOf at hc
    split at hc
    · rename_i c
      obtain ⟨callee, cargs, ats⟩ := c
      simp only at hc
      split at hc
      · rename_i y hy
        split at hc
        · rename_i φ' l e1 e2
          simp only [Option.some.injEq, Prod.mk.injEq] at hc
          obtain ⟨rfl, rfl⟩ := hc
          obtain ⟨fn, cv, h1, h3, h4⟩ := (show ∃ f vs, _ from f.ev hacts e1)
          have h2 := f.evs hacts e2
          have ha : cargs.map a.eval = (cargs.toList.map a.eval).toArray := Array.ext' (by rw [Array.toList_map])
          refine one_call (n := fn) (args := (cargs.toList.map a.eval ++ cv).toArray) hw ?_ ((h4 rds x hx w E.r _ (PH.le_refl _) m.mm.fitr (rdSs_ok hr h2)).mono fun e w' ⟨g1, g2⟩ => ⟨x, g1, ?_⟩)
          · simp only [execOp, resolve, h1, Deferred.ofValue, Sem.run_bind, Sem.run_pure, Result.andThen_ok, invoke, ha, Array.empty_append]
            rw [h3]
            congr 2
            simp
          · exact k B _ w' H (Fits.putG f htN htd hn hgd (.inl ⟨hyes, show SV.rel E.P B (Zf E.r H) (.a (.v x)) x from rfl⟩)) (m.below g2) gg
        · cases hc
      · cases hc
    · cases hc
  · refine one_off (by
      cases e : Region.wanted o (yielded all.toArray a.tmps) with
      | false => rfl
      | true => exact absurd (hwt.1 e) hyes) ?_
    rw [hd]
    exact k B _ w H (Fits.putG f htN htd hn hgd (.inr ⟨hyes, rfl⟩)) m gg
/-- slot t holds a slice that is read: it goes by a key from now on -/
theorem V_name (t k' : Nat) {sz n : Nat} {f : Nat → List D} (hx : mlk t fr = some (.a (.s .r sz n f))) (hg : glk t gf = none) (hmu : mset k' (.ro sz n f) mu = some mu') (hu : unnamed k' fr gf mu E.A.ks = true := by exact rfl) : View E fr gf mu ((t, .a (.g k')) :: fr) gf mu' := fun B w H a ff m => by
  obtain ⟨u1, u2, u3, u4⟩ := unnamed_spec hu
  have e1 : D.rd E.r (.sl sz n f) (a.tmps.getD t undef) := ff.vfr t _ hx hg
  have m2 := m.put (v := a.tmps.getD t undef) (h' := H k') (w' := w) hmu (.inr ⟨muAny_mono (fun x hx => (uses_out hx).1) u3, u4⟩) (by show D.rd _ _ (BE.set B k' _ k'); rw [BE.set_eq]; exact e1) (m.mm.fit k') (Keep.refl _ _) fun b o h => .inl h
  have f2 := FitsE.new (B := B) (H := H) ff (k := k') (a.tmps.getD t undef) (H k') u1 u2
  refine ⟨_, _, ⟨f2.size, f2.defers, fun t' x e2 e3 => ?_, f2.vgf, f2.vgu, fun t' d w x e2 => ?_⟩, m2⟩
  · rw [mlk_cons] at e2
    by_cases h : t = t'
    · subst h
      rw [if_pos rfl] at e2
      injection e2 with e2
      subst e2
      obtain ⟨A, c, e4, _⟩ := e1
      exact ⟨(BE.set_eq B k' _).symm, by rw [e4]; rfl⟩
    · rw [if_neg h] at e2; exact f2.vfr t' x e2 e3
  · rw [mlk_cons]
    have h1 := f2.vno t' d w x e2
    have h2 : t ≠ t' := fun h => by subst h; rw [hx] at h1; cases h1
    rw [if_neg h2]; exact h1
def V.isNil : V → Bool
  | .v (.slice none 0 0) => true
  | _ => false
theorem V.isNil_eq {x : V} (h : x.isNil = true) : x = .v (.slice none 0 0) := by
  unfold V.isNil at h
  split at h
  · rfl
  · cases h
/-- a row's nil slice is told as an array of no elements -/
def nilR (sz : Nat) (f : Nat → List D) : List V → Nat → Option (List V)
  | [], _ => none
  | x :: r, 0 => bif x.isNil then some (.s .o sz 0 f :: r) else none
  | x :: r, j + 1 => match nilR sz f r j with
    | some l => some (x :: l)
    | none => none
theorem nilR_ok {B : BE} {r : PH} {sz : Nat} {f : Nat → List D} : ∀ {l : List V} {j : Nat} {l' : List V}, nilR sz f l j = some l' → l'.length = l.length ∧ ∀ {h : PH} {vs : List Value}, V.owns B r h l vs → V.owns B r h l' vs
  | [], j, _, e => by simp [nilR] at e
  | x :: l, 0, l', e => by
    simp only [nilR] at e
    cases c : x.isNil with
    | false => rw [c] at e; cases e
    | true =>
      rw [c] at e
      injection e with e
      subst e
      refine ⟨rfl, fun {h vs} o => ?_⟩
      obtain ⟨v, t, h1, h2, rfl, e2, e3, e4, e5, e6⟩ := o
      rw [V.isNil_eq c] at e5
      have e5 : v = .slice none 0 0 := e5
      subst e5
      exact ⟨_, t, h1, h2, rfl, e2, e3, e4, .inl ⟨rfl, none, 0, rfl, Nat.le_refl _, Nat.zero_le _, .inl rfl⟩, e6⟩
  | x :: l, j + 1, l', e => by
    simp only [nilR] at e
    split at e
    · rename_i l2 e1
      injection e with e
      subst e
      obtain ⟨k1, k2⟩ := nilR_ok (B := B) (r := r) e1
      refine ⟨by rw [List.length_cons, List.length_cons, k1], fun {h vs} o => ?_⟩
      obtain ⟨v, t, h1, h2, rfl, e2, e3, e4, e5, e6⟩ := o
      exact ⟨v, t, h1, h2, rfl, e2, e3, e4, e5, k2 e6⟩
    · cases e
theorem V_nilR (k j sz : Nat) (f : Nat → List D) {l l' : List V} (hk : mlk k mu = some (.row l)) (hn : nilR sz f l j = some l') (hmu : mset k (.row l') mu = some mu') : View E fr gf mu fr gf mu' :=
  V_imp k hk (fun B r h k s => by
    obtain ⟨b, o, vs, h', e1, e2, e3, e4⟩ := s
    exact ⟨b, o, vs, h', e1, (nilR_ok hn).2 e2, e3, fun j hj => e4 j (by rw [← (nilR_ok (B := B) (r := r) hn).1]; exact hj)⟩) hmu
/-- slot t names own array k: its length and its capacity come along -/
theorem gl_cap (t k : Nat) {sz n : Nat} {f : Nat → List D} (hx : mlk t fr = some (.a (.g k))) (hg : glk t gf = none) (hk : mlk k mu = some (.arr sz n f)) {B : BE} {a : Act} {w : World} {H : Nat → PH} (ff : FitsE E B H fr gf a) (m : Mem E B mu w H) : ∃ cp, n ≤ cp ∧ FitsE E B H ((t, .a (.gl k n cp)) :: fr) gf a := by
  have e1 : a.tmps.getD t undef = B k ∧ oneV (a.tmps.getD t undef) = true := ff.vfr t _ hx hg
  obtain ⟨A, c, e2, e4⟩ := (show D.own (H k) (.sl sz n f) (B k) from m.mm.sat k _ hk)
  refine ⟨c, e4.1, ⟨ff.size, ff.defers, fun t' x e3 e4 => ?_, ff.vgf, ff.vgu, fun t' d w x e3 => ?_⟩⟩
  · rw [mlk_cons] at e3
    by_cases h : t = t'
    · subst h
      rw [if_pos rfl] at e3
      injection e3 with e3
      subst e3
      exact ⟨e1.1, e1.2, A, e1.1.trans e2⟩
    · rw [if_neg h] at e3; exact ff.vfr t' x e3 e4
  · rw [mlk_cons]
    have h1 := ff.vno t' d w x e3
    have h2 : t ≠ t' := fun h => by subst h; rw [hx] at h1; cases h1
    rw [if_neg h2]; exact h1
theorem T_cap (t k : Nat) {c : Code} {K : List KF} {R : Exit → Act → World → Prop} {sz n : Nat} {f : Nat → List D} (hx : mlk t fr = some (.a (.g k))) (hk : mlk k mu = some (.arr sz n f)) (h : ∀ cp, n ≤ cp → T E R c ((t, .a (.gl k n cp)) :: fr) mu K) : T E R c fr mu K := fun B a w H ff m => by
  obtain ⟨cp, h1, f'⟩ := gl_cap t k hx rfl hk ff m
  exact h cp h1 B a w H f' m
theorem imp_gl {P : Program} {k n c : Nat} : (SV.a (.gl k n c)).imp P (.a (.g k)) := fun _ _ _ e => ⟨e.1, e.2.1⟩
end
end

section
theorem Con.wkA {ι : Type} {P : Program} {f : Nat} {ks : List Nat} {args args' : List SV} {mu : Mu} {φ : ι → Prop} {res : ι → List SV} {mu' : ι → Mu} (C : Con P f ks args mu φ res mu') (h : SVs.imp P args' args) : Con P f ks args' mu φ res mu' :=
  fun B r w H vals m he ha => C B r w H vals m he (SVs.imp_ok h ha)
theorem Mm.wk {B : BE} {r : PH} {mu mu' : Mu} {w : World} {H : Nat → PH} (m : Mm B r mu w H) (h : WkMu mu mu') : Mm B r mu' w H := ⟨fun k c e => by
  obtain ⟨d, h1, h2⟩ := h.get k c e
  exact h2 _ _ _ _ (m.sat k d h1), m.fit, m.dj, m.djr, m.fitr⟩
theorem Con.wkM {ι : Type} {P : Program} {f : Nat} {ks : List Nat} {args : List SV} {mu : Mu} {φ : ι → Prop} {res : ι → List SV} {mu' mu'' : ι → Mu} (C : Con P f ks args mu φ res mu') (h : ∀ y, φ y → WkMu (mu' y) (mu'' y)) : Con P f ks args mu φ res mu'' :=
  fun B r w H vals m he ha => (C B r w H vals m he ha).mono fun e w' ⟨y, B', H', out, h1, h2, h3, h4, h5⟩ => ⟨y, B', H', out, h1, h2, h3, h4.wk (h y h1), h5⟩
theorem Con.wkR {ι : Type} {P : Program} {f : Nat} {ks : List Nat} {args : List SV} {mu : Mu} {φ : ι → Prop} {res res' : ι → List SV} {mu' : ι → Mu} (C : Con P f ks args mu φ res mu') (h : ∀ y, φ y → SVs.imp P (res y) (res' y)) : Con P f ks args mu φ res' mu' :=
  fun B r w H vals m he ha => (C B r w H vals m he ha).mono fun e w' ⟨y, B', H', out, h1, h2, h3, h4⟩ => ⟨y, B', H', out, h1, h2, SVs.imp_ok (h y h1) h3, h4⟩
theorem SV.imp.trans {P : Program} {x y z : SV} (h : x.imp P y) (k : y.imp P z) : x.imp P z := fun _ _ _ e => k _ _ _ (h _ _ _ e)
/-- cells owned as l are owned as m -/
def OwnI (l m : List D) : Prop := ∀ h vs, D.owns h l vs → D.owns h m vs
theorem OwnI.e : OwnI [] [] := fun _ _ e => e
theorem OwnI.refl (l : List D) : OwnI l l := fun _ _ e => e
theorem OwnI.c {x : D} {l m : List D} (k : OwnI l m) : OwnI (x :: l) (x :: m) := fun h vs ⟨y, t, h1, h2, e1, e2, e3, e4, e5, e6⟩ => ⟨y, t, h1, h2, e1, e2, e3, e4, e5, k _ _ e6⟩
theorem own_nil {h : PH} {sz : Nat} {f : Nat → List D} : D.own h (.sl sz 0 f) (.slice none 0 0) := ⟨none, 0, rfl, Nat.le_refl _, Nat.zero_le _, .inl rfl⟩
theorem OwnI.n {sz : Nat} {f : Nat → List D} {l m : List D} (k : OwnI l m) : OwnI (.v (.slice none 0 0) :: l) (.sl sz 0 f :: m) := fun h vs ⟨y, t, h1, h2, e1, e2, e3, e4, e5, e6⟩ => ⟨y, t, h1, h2, e1, e2, e3, e4, by
  have e5 : y = .slice none 0 0 := e5
  subst e5; exact own_nil, k _ _ e6⟩
theorem OwnI.of {l m : List D} (e : l = m) : OwnI l m := by subst e; exact OwnI.refl l
theorem Ch.imp_own {sz n m : Nat} {f g : Nat → List D} (hn : n = m) (k : ∀ i, i < n → OwnI (f i) (g i)) : (Ch.arr sz n f).imp (.arr sz m g) := by
  subst hn
  intro B r h j s
  obtain ⟨A, c, e1, e2, e3, e4⟩ := (show D.own _ _ _ from s)
  refine ⟨A, c, e1, e2, e3, e4.imp id fun ⟨b, o, rw0, H, e5, e6, e7, e8⟩ => ⟨b, o, rw0, H, e5, fun i hi => ?_, e7, e8⟩⟩
  obtain ⟨r1, r2, r3⟩ := e6 i hi
  exact ⟨k i hi _ _ r1, r2, r3⟩
/-- a function value that answers q on what S holds of -/
abbrev fbP {α : Type} (S : α → Prop) (rd : α → List RD) (q : α → Value) : SV := .fb fun args v => ∃ x, S x ∧ args = rd x ∧ v = q x
section
variable {E : Env} {B : BE} {mu mu' : Mu} {w : World} {H : Nat → PH} {TT : List TI} {fr fr' : Fr} {gf gf' : GF} {a : Act} {all rest : List Oper} {Q : Exit → Act → World → Prop} {o : Oper} {J : Act → World → Prop} {G : AG} {R : Exit → Act → World → Prop} {K : List KF}
/-- it leans on nothing but what is read -/
def V.rO : V → Bool
  | .v _ => true
  | .s .r _ _ _ => true
  | .rp .r _ _ => true
  | _ => false
def SV.rO : SV → Bool
  | .a x => x.rO
  | .ag l => allL V.rO l
  | .tu l => go l
  | _ => false
where go : List SV → Bool
  | [] => true
  | x :: r => SV.rO x && go r
theorem V.rO_rel {B B' : BE} {s : PH} {H H' : Nat → PH} : ∀ {x : V} {y : Value}, x.rO = true → x.rel B (Zf s H) y → x.rel B' (Zf s H') y
  | .v _, _, _, e => e
  | .s .r _ _ _, _, _, e => e
  | .rp .r _ _, _, _, e => e
theorem V.rO_rels {B B' : BE} {s : PH} {H H' : Nat → PH} : ∀ {l : List V} {y : List Value}, allL V.rO l = true → V.rels B (Zf s H) l y → V.rels B' (Zf s H') l y
  | [], _, _, e => e
  | x :: r, y, h, e => by
    obtain ⟨h1, h2⟩ := allL_cons h
    obtain ⟨a, t, e1, e2, e3⟩ := e
    exact ⟨a, t, e1, V.rO_rel h1 e2, V.rO_rels h2 e3⟩
mutual
theorem SV.rO_rel {P : Program} {B B' : BE} {s : PH} {H H' : Nat → PH} : ∀ (x : SV) {y : Value}, x.rO = true → SV.rel P B (Zf s H) x y → SV.rel P B' (Zf s H') x y
  | .a x, _, h, e => V.rO_rel h e
  | .ag l, _, h, e => by obtain ⟨vs, e1, e2⟩ := e; exact ⟨vs, e1, V.rO_rels h e2⟩
  | .tu l, _, h, e => by obtain ⟨vs, e1, e2⟩ := e; exact ⟨vs, e1, SV.rO_rels l h e2⟩
  | .fn _ _, _, h, _ => by cases h
  | .fb _, _, h, _ => by cases h
  | .un, _, h, _ => by cases h
theorem SV.rO_rels {P : Program} {B B' : BE} {s : PH} {H H' : Nat → PH} : ∀ (l : List SV) {y : List Value}, SV.rO.go l = true → SV.rels P B (Zf s H) l y → SV.rels P B' (Zf s H') l y
  | [], _, _, e => e
  | x :: r, y, h, e => by
    simp only [SV.rO.go, Bool.and_eq_true] at h
    obtain ⟨a, t, e1, e2, e3⟩ := e
    exact ⟨a, t, e1, SV.rO_rel x h.1 e2, SV.rO_rels r h.2 e3⟩
end
theorem Con.askR {P : Program} {f : Nat} {args : List SV} {res : SV} (C : Ans P f [] args [] res) (hres : res.rO = true) {B : BE} {s : PH} {w : World} {vals : List Value} (hf : Fit s w) (ha : SV.rels P B (Zf s fun _ => PH.emp) args vals) :
    Calls P f vals.toArray w fun e w' => ∃ v, e = .returned v ∧ (∀ B' H', SV.rel P B' (Zf s H') res v) ∧ Below w.heap.size w w' := by
  refine (C B s w (fun _ => PH.emp) vals ⟨(fun k c e => by cases e), fun _ => FitO.emp w, fun _ _ _ => PH.emp_dj _, fun _ => PH.emp_dj _, hf⟩ (fun _ _ => rfl) ha).mono ?_
  rintro e w' ⟨y, B1, H1, out, _, h2, h3, _, h5, h6, _⟩
  obtain ⟨v, t, rfl, h7, h8⟩ := h3
  have h8 : t = [] := h8
  subst h8
  exact ⟨v, h2, fun B' H' => SV.rO_rel res hres h7, Keep.none h6 fun b o ⟨k, h, _⟩ => by cases h⟩
theorem ans_runR {P : Program} {r : PH} {f : Nat} {args : List SV} {res : SV} (C : Ans P f [] args [] res) (hres : res.rO = true) (hf : Fit r w) {svs args' : List SV} {q : Ob} (hw : wkSL [] [] [] svs = some (args', q)) (ha : SVs.imp P args' args) (hq : Alls q) {vals : List Value} (hv : SV.rels P B (Zf r H) svs vals) :
    Calls P f vals.toArray w fun e w' => ∃ v, e = .returned v ∧ (∀ B' H', SV.rel P B' (Zf r H') res v) ∧ Below w.heap.size w w' := by
  have W : Wk B r [] H [] r := ⟨(fun k c e => by cases e), PH.le_refl _, (fun k c e => by cases e)⟩
  exact C.askR hres hf (SVs.imp_ok ha (wkSL_ok (Z := Zf r fun _ => PH.emp) W rfl hw hq hv))
/-- a query whose answer lies in what is read: all that it is handed lies there, too -/
theorem OJ_QR {f : Nat} {args : List SV} {res : SV} (C : Ans E.P f [] args [] res) {svs args' : List SV} {g : Option (Nat × Nat × Bool)} {t : Nat} {q : Ob} {gd : Gd} {es : List Prop} {gs : List GO}
    (hc : callC E.N all fr gf o = some (f, svs, g, t, gf')) (hgd : gd = match g with | none => [] | some (_, d, b) => acts 6 gf d b) (hen : Enters E.P f) (hres : res.rO = true)
    (hw : wkSL [] [] [] svs = some (args', q)) (ha : SVs.imp E.P args' args) (hs : splitO fr gf gd q [] [] = some (es, gs)) (he : PAlls es) (ho : GAlls gs)
    (k : SJ G J E (frQ fr g t res) (gfQ gf' g t res) mu) : OJ G E all Q J o fr gf mu := fun B a w H f m gg => by
  match g, hc, hgd with
  | none, hc, hgd =>
    subst hgd
    obtain ⟨h1, h2, h3, h4, h5⟩ := callC_none hc
    obtain ⟨vals, r1, r2⟩ := callsOf_run (w := w) f (fun _ _ hm => by cases hm) h4 hen
    refine one_call (wanted_none h1) r1 ((ans_runR C hres m.mr.fitr hw ha (splitO_ok f (fun _ _ hm => by cases hm) hs he ho) r2).mono fun e w' ⟨v, c1, c2, c3⟩ => ⟨v, c1, ?_⟩)
    rw [h2]
    exact k B _ w' H (Fits.put f (by simpa [Nat.blt_eq] using h3) (c2 _ _) h5) (m.below c3) gg
  | some (j, d, b), hc, hgd =>
    subst hgd
    obtain ⟨h1, h2, h3, h4, h5, h6, h7⟩ := callC_some hc
    simp only [Bool.and_eq_true, Bool.not_eq_true'] at h4
    have htd : t ≠ d := Nat.ne_of_beq_eq_false h4.2
    have htN : t < E.N := by simpa [Nat.blt_eq] using h4.1
    have hwt := wanted_some (ops := all.toArray) (a := a) h1 (gslot_ops h2)
    by_cases hyes : a.tmps.getD d undef = .bool b
    · have hacts := acts_ok f 6 d b hyes
      obtain ⟨vals, r1, r2⟩ := callsOf_run (w := w) f hacts h6 hen
      refine one_call (hwt.2 hyes) r1 ((ans_runR C hres m.mr.fitr hw ha (splitO_ok f hacts hs he ho) r2).mono fun e w' ⟨v, c1, c2, c3⟩ => ⟨v, c1, ?_⟩)
      rw [h3]
      exact k B _ w' H (Fits.putG f htN htd h5 h7 (.inl ⟨hyes, c2 _ _⟩)) (m.below c3) gg
    · refine one_off (by
        cases e : Region.wanted o (yielded all.toArray a.tmps) with
        | false => rfl
        | true => exact absurd (hwt.1 e) hyes) ?_
      rw [h3]
      exact k B _ w H (Fits.putG f htN htd h5 h7 (.inr ⟨hyes, rfl⟩)) m gg
theorem RJ_QR (hT : TOk E.P TT) {f : Nat} {args : List SV} {res : SV} (C : Ans E.P f [] args [] res) {svs args' : List SV} {g : Option (Nat × Nat × Bool)} {t : Nat} {q : Ob} {es0 : List Prop} {gs0 : List GO} {js : JS} {es : List Prop} {gs : List GO}
    (hc : callC E.N all fr gf o = some (f, svs, g, t, gf')) (hw : wkSL [] [] [] svs = some (args', q)) (ha : SVs.imp E.P args' args) (hs : splitO fr gf (match g with | none => [] | some (_, d, b) => acts 6 gf d b) q [] [] = some (es0, gs0))
    (hau : goR TT E.N E.A.ks (auto TT E.N E.A.ks 400) all rest (frQ fr g t res) (gfQ gf' g t res) mu K es0 gs0 = some (js, es, gs)) (k : js.ok E R)
    (hres : res.rO = true := by exact rfl) (hen : Enters E.P f := by exact enters_B (by kernel_rfl)) (he : PAlls es := by repeat (first | exact trivial | refine And.intro rfl ?_)) (ho : GAlls gs := by first | exact trivial | ((simp only [GAlls, GO.p, InR]; (repeat' (first | exact trivial | refine And.intro ?_ ?_ | refine fun _ => ?_)) <;> first | omega | (simp only [decide_eq_true_eq, decide_eq_false_iff_not, Int.toNat_natCast] at *; omega) | (simp at *; omega)))) :
    RJ E all (KQ E.P R K) (o :: rest) fr gf mu := by
  obtain ⟨h1, h2⟩ := goR_ok hT (auto_ok hT 400) hau ⟨he, ho⟩
  exact RJ_of (OJ_QR C hc rfl hen hres hw ha hs h1.1 h1.2 (SJ_of (h2 k)))
/-- a call that only answers, where a closure is handed on, in a region that draws -/
theorem DJ_QF (hT : TOk E.P TT) {n : Nat} {tk is' tk' : List Nat} {f : Nat} {ks : List Nat} {args : List SV} {mu1 : Mu} {res : SV} (C : Ans E.P f ks args mu1 res) {svs args' : List SV} {g : Option (Nat × Nat × Bool)} {t : Nat} {q : Ob} {es0 es : List Prop} {gs0 gs : List GO} (hi : nth all tk.length = some o)
    (hc : callC E.N all fr gf o = some (f, svs, g, t, gf')) (hw : wkSL (muR G.ks mu) [] ks svs = some (args', q)) (hae : SVs.imp E.P args' args) (hs : splitO fr gf (match g with | none => [] | some (_, d, b) => acts 6 gf d b) q [] [] = some (es0, gs0)) {gf3 : GF}
    (ha : drun TT E.N all (muR G.ks mu) (iota (tk.length + 1) n) (frQ fr g t res) (gfQ gf' g t res) (tk.length :: tk) es0 gs0 = some (is', fr', gf3, tk', es, gs)) (k : DJ G E all (KQ E.P R K) is'.length tk' fr' gf3 mu)
    {x : Value} (hx : exV res = some x := by exact rfl) (hR : PQ R := by exact pq_body _ _) (hb : (takeB all.toArray tk tk.length && tookB all.toArray (iota (tk.length + 1) n) is' (tk.length :: tk)) = true := by kernel_rfl)
    (hko : keysO mu1 = [] := by exact rfl) (hres : res.inK ks = true := by exact rfl) (hin : WkIn (muR G.ks mu) mu1 := by repeat (first | exact trivial | refine And.intro ⟨_, rfl, ro_arr⟩ ?_ | refine And.intro ⟨_, rfl, ro_ro⟩ ?_ | refine And.intro ⟨_, rfl, ro_row⟩ ?_ | refine And.intro ⟨_, rfl, Ch.imp_refl _⟩ ?_)) (hen : Enters E.P f := by exact enters_B (by kernel_rfl)) (he : PAlls es := by repeat (first | exact trivial | refine And.intro rfl ?_)) (ho : GAlls gs := by first | exact trivial | ((simp only [GAlls, GO.p, InR]; (repeat' (first | exact trivial | refine And.intro ?_ ?_ | refine fun _ => ?_)) <;> first | omega | (simp only [decide_eq_true_eq, decide_eq_false_iff_not, Int.toNat_natCast] at *; omega) | (simp at *; omega)))) : DJ G E all (KQ E.P R K) (n + 1) tk fr gf mu := by
  simp only [Bool.and_eq_true] at hb
  obtain ⟨h3, h2⟩ := (drun_took (G := G) (K := K) hT hR _ _ _ _ _ _ ha).2 hb.2 ⟨he, ho⟩
  have h2 := h2 k
  rw [iota_length] at h2
  exact DJ_q hR _ C hx hi hb.1 hc rfl hen hko hres hw hae hs h3.1 h3.2 hin h2
/-- under a guard: a slice that has an element is not nil -/
theorem RJ_nilG (hT : TOk E.P TT) {t0 ty : Nat} {x y : Operand} {yt : TypeId} {j d : Nat} {b : Bool} {sx : V} {q : Tg} {sz n : Nat} {f : Nat → List D} {ob : Ob} {n0 c0 : Nat} {id sz1 by1 e : Nat} {z : Value} {ef : Bool}
    (hop : o.op = .binOp .eql ty x y yt) (hg : o.guard = some (j, b)) (hsl : gSlot all j = some d) (hx : ev (acts 6 gf d b) fr gf x = some (.a sx)) (hy : ev (acts 6 gf d b) fr gf y = some (.a (.v (.slice none n0 c0)))) (h1 : tlk ty TT = some ⟨id, sz1, by1, .slc e, z, ef⟩) (hs : slR mu sx = some (q, sz, n, f, ob)) (hn : mlk t0 fr = none) (hgd : gdrop t0 gf = some gf') (hpos : 0 < n)
    (k : RJ E all (KQ E.P R K) rest fr ((t0, d, b, .a (.v (.bool false))) :: gf') mu) (hob : Alls ob := by repeat (first | exact trivial | refine And.intro rfl ?_)) (hd : o.dst = some t0 := by exact rfl) (ht : (Nat.blt t0 E.N && !(Nat.beq t0 d)) = true := by exact rfl) : RJ E all (KQ E.P R K) (o :: rest) fr gf mu := by
  refine RJ_of fun B a w H ff mm _ => ?_
  obtain ⟨t1, t2⟩ := hT.get h1
  obtain ⟨dd, d1, d2⟩ := t2.desc
  simp only at t1 d1 d2
  subst t1
  obtain rfl := shapeK_slc d2
  simp only [Bool.and_eq_true, Bool.not_eq_true'] at ht
  have htd : t0 ≠ d := Nat.ne_of_beq_eq_false ht.2
  have htN : t0 < E.N := by simpa [Nat.blt_eq] using ht.1
  have hw := wanted_some (ops := all.toArray) (a := a) hg (gslot_ops hsl)
  by_cases hyes : a.tmps.getD d undef = .bool b
  · have hacts := acts_ok ff 6 d b hyes
    have hr := slR_spec mm.mr.ms hs hob (show sx.rel B (Zf E.r H) (a.eval x) from ff.ev hacts hx)
    have ey : a.eval y = _ := ff.ev hacts hy
    obtain ⟨A, c, ex, e0⟩ := fit_slice hr
    refine one_val (hw.2 hyes) (v := .bool false) (w' := w) ?_ ?_
    · obtain ⟨dst, op', type, pos, after, guard⟩ := o
      simp only at hop
      subst hop
      simp only [execOp, ex, ey]
      refine run_value ?_
      show (do eqGuard .eql _ x y _ _; binOp .eql _ _ _ : Sem Value).run E.P w = _
      rw [Sem.run_bind, eqGuard_plain rfl, Result.andThen_ok]
      have hA : A.isNone = false := e0 hpos
      simp only [binOp, Sem.run_bind, equal_slice d1, Result.andThen_ok, Sem.run_pure, hA]
    · rw [hd]
      exact k B _ w H (Fits.putG ff htN htd hn hgd (.inl ⟨hyes, (show SV.rel _ _ _ (.a (.v _)) _ from rfl)⟩)) mm
  · refine one_off (by
      cases e : Region.wanted o (yielded all.toArray a.tmps) with
      | false => rfl
      | true => exact absurd (hw.1 e) hyes) ?_
    rw [hd]
    exact k B _ w H (Fits.putG ff htN htd hn hgd (.inr ⟨hyes, rfl⟩)) mm
end
end

section
/-- its meaning hangs on no read memory -/
def V.noR : V → Bool
  | .s (.k _) _ _ _ => true
  | .s _ _ _ _ => false
  | .rp (.k _) _ _ => true
  | .rp _ _ _ => false
  | _ => true
def V.noRo : V → Bool
  | .s .r _ _ _ => false
  | .rp _ _ _ => false
  | _ => true
def SV.noR : SV → Bool
  | .a x => x.noR
  | .ag l => allL V.noR l
  | .fn _ l => allL V.noR l
  | .tu l => go l
  | .un => true
  | .fb _ => false
where go : List SV → Bool
  | [] => true
  | x :: r => bif SV.noR x then go r else false
def Ch.noR : Ch → Bool
  | .row l => allL V.noRo l
  | .arr .. => true
  | .hole .. => true
  | _ => false
def muNoR : Mu → Bool
  | [] => true
  | (_, c) :: r => bif c.noR then muNoR r else false
theorem muNoR_get : ∀ {mu : Mu}, muNoR mu = true → ∀ k c, mlk k mu = some c → c.noR = true
  | [], _, _, _, h => by cases h
  | (j, d) :: r, h, k, c, e => by
    simp only [muNoR] at h
    cases hd : d.noR with
    | false => rw [hd] at h; cases h
    | true =>
      rw [hd] at h
      rw [mlk_cons] at e
      by_cases hj : j = k
      · rw [if_pos hj] at e; injection e with e; subst e; exact hd
      · rw [if_neg hj] at e; exact muNoR_get h k c e
section
variable {B : BE} {r s : PH} {H : Nat → PH}
theorem V.noR_rel : ∀ {x : V} {y : Value}, x.noR = true → x.rel B (Zf r H) y → x.rel B (Zf s H) y
  | .v _, _, _, e => e
  | .s (.k _) _ _ _, _, _, e => e
  | .g _, _, _, e => e
  | .p _ _, _, _, e => e
  | .pe _ _ _ _, _, _, e => e
  | .sb _ _ _ _, _, _, e => e
  | .gl _ _ _, _, _, e => e
  | .rp (.k _) _ _, _, _, e => e
  | .any, _, _, _ => trivial
theorem V.noR_rels : ∀ {l : List V} {y : List Value}, allL V.noR l = true → V.rels B (Zf r H) l y → V.rels B (Zf s H) l y
  | [], _, _, e => e
  | x :: l, y, h, e => by
    obtain ⟨h1, h2⟩ := allL_cons h
    obtain ⟨a, t, e1, e2, e3⟩ := e
    exact ⟨a, t, e1, V.noR_rel h1 e2, V.noR_rels h2 e3⟩
theorem V.noRo_own {h : PH} : ∀ {x : V} {y : Value}, x.noRo = true → x.own B r h y → x.own B s h y
  | .v _, _, _, e => e
  | .s .o _ _ _, _, _, e => by
    rcases e with e | ⟨e, _⟩
    · exact .inl e
    · cases e
  | .s (.k _) _ _ _, _, _, e => by rcases e with ⟨e, _⟩ | ⟨e, _⟩ <;> cases e
  | .g _, _, _, e => e
  | .p _ _, _, _, e => e
  | .pe _ _ _ _, _, _, e => e
  | .sb _ _ _ _, _, _, e => e
  | .gl _ _ _, _, _, e => e
  | .any, _, _, _ => trivial
theorem V.noRo_owns : ∀ {l : List V} {y : List Value} {h : PH}, allL V.noRo l = true → V.owns B r h l y → V.owns B s h l y
  | [], _, _, _, e => e
  | x :: l, y, _, h, e => by
    obtain ⟨h1, h2⟩ := allL_cons h
    obtain ⟨a, t, g1, g2, e1, e2, e3, e4, e5, e6⟩ := e
    exact ⟨a, t, g1, g2, e1, e2, e3, e4, V.noRo_own h1 e5, V.noRo_owns h2 e6⟩
mutual
theorem SV.noR_rel {P : Program} : ∀ (x : SV) {y : Value}, x.noR = true → SV.rel P B (Zf r H) x y → SV.rel P B (Zf s H) x y
  | .a x, _, h, e => V.noR_rel h e
  | .ag l, _, h, e => by obtain ⟨vs, e1, e2⟩ := e; exact ⟨vs, e1, V.noR_rels h e2⟩
  | .fn f l, _, h, e => by obtain ⟨vs, e1, e2⟩ := e; exact ⟨vs, e1, V.noR_rels h e2⟩
  | .tu l, _, h, e => by obtain ⟨vs, e1, e2⟩ := e; exact ⟨vs, e1, SV.noR_rels l h e2⟩
  | .un, _, _, e => e
  | .fb _, _, h, _ => by cases h
theorem SV.noR_rels {P : Program} : ∀ (l : List SV) {y : List Value}, SV.noR.go l = true → SV.rels P B (Zf r H) l y → SV.rels P B (Zf s H) l y
  | [], _, _, e => e
  | x :: l, y, h, e => by
    simp only [SV.noR.go] at h
    cases hx : x.noR with
    | false => rw [hx] at h; cases h
    | true =>
      rw [hx] at h
      obtain ⟨a, t, e1, e2, e3⟩ := e
      exact ⟨a, t, e1, SV.noR_rel x hx e2, SV.noR_rels l h e3⟩
end
theorem Ch.noR_sat {h : PH} {k : Nat} : ∀ {c : Ch}, c.noR = true → c.sat B r h k → c.sat B s h k
  | .row l, hc, ⟨b, o, vs, h', e1, e2, e3, e4⟩ => ⟨b, o, vs, h', e1, V.noRo_owns hc e2, e3, e4⟩
  | .arr .., _, e => e
  | .hole .., _, e => e
  | .ro .., h, _ => by cases h
  | .rrow _, h, _ => by cases h
theorem Ch.sat_monoR (l : r.le s) {h : PH} {k : Nat} : ∀ {c : Ch}, c.sat B r h k → c.sat B s h k
  | .row _, ⟨b, o, vs, h', e1, e2, e3, e4⟩ => ⟨b, o, vs, h', e1, V.owns_mono l (PH.le_refl _) e2, e3, e4⟩
  | .arr .., e => e
  | .hole .., e => e
  | .ro sz n f, e => D.rd_mono l (.sl sz n f) e
  | .rrow m, ⟨b, o, vs, e1, e2, e3⟩ => ⟨b, o, vs, e1, V.rels_mono (Zf_mono l fun _ => PH.le_refl _) e2, fun j hj => le_cell l (V.rels_length e2) hj (e3 j hj)⟩
end
theorem KQ_mono {P : Program} {R R' : Exit → Act → World → Prop} (h : ∀ e a w, R' e a w → R e a w) : ∀ {K : List KF} {e : Exit} {a : Act} {w : World}, KQ P R' K e a w → KQ P R K e a w
  | [], _, _, _, q => h _ _ _ q
  | .seq c :: K, e, a, w, q => by
    cases e with
    | normal => exact wp_mono (show c.wp P (KQ P R' K) a w from q) fun _ _ _ q => KQ_mono h q
    | exit id => exact KQ_mono (K := K) h (show KQ P R' K (.exit id) a w from q)
    | goto l => exact KQ_mono (K := K) h (show KQ P R' K (.goto l) a w from q)
    | ret => exact KQ_mono (K := K) h (show KQ P R' K .ret a w from q)
    | panic ch => exact KQ_mono (K := K) h (show KQ P R' K (.panic ch) a w from q)
    | outgrown => exact KQ_mono (K := K) h (show KQ P R' K .outgrown a w from q)
  | .blk id :: K, e, a, w, q => by
    cases e with
    | exit j =>
      simp only [KQ, Exit.inBlock] at q ⊢
      split
      · rename_i hj; rw [if_pos hj] at q; exact KQ_mono (K := K) h q
      · rename_i hj; rw [if_neg hj] at q; exact KQ_mono (K := K) h q
    | normal => exact KQ_mono (K := K) h q
    | goto l => exact KQ_mono (K := K) h q
    | ret => exact KQ_mono (K := K) h q
    | panic ch => exact KQ_mono (K := K) h q
    | outgrown => exact KQ_mono (K := K) h q
  | .loop I :: K, e, a, w, q => by
    cases e with
    | normal => exact q
    | exit id => exact KQ_mono (K := K) h (show KQ P R' K (.exit id) a w from q)
    | goto l => exact KQ_mono (K := K) h (show KQ P R' K (.goto l) a w from q)
    | ret => exact KQ_mono (K := K) h (show KQ P R' K .ret a w from q)
    | panic ch => exact KQ_mono (K := K) h (show KQ P R' K (.panic ch) a w from q)
    | outgrown => exact KQ_mono (K := K) h (show KQ P R' K .outgrown a w from q)
theorem bodyPost_mono {P : Program} {fn : Func} {R R' : Ending → World → Prop} (h : ∀ e w, R' e w → R e w) : ∀ e a w, bodyPost P fn R' e a w → bodyPost P fn R e a w := fun e a w q => by
  cases e with
  | ret =>
    simp only [bodyPost] at q ⊢
    obtain ⟨h1, v, h2, h3⟩ := q
    exact ⟨h1, v, h2, h _ _ h3⟩
  | _ => first | exact q | exact h _ _ q | (simp only [bodyPost] at q ⊢; first | exact q | exact h _ _ q | (obtain ⟨h1, h2⟩ := q; exact ⟨h1, h _ _ h2⟩) | (obtain ⟨h1, v, h2, h3⟩ := q; exact ⟨h1, v, h2, h _ _ h3⟩))
theorem RetP.noR {ι : Type} {E : Env} {r : PH} (hr : E.r.le r) {φ : ι → Prop} {res : ι → List SV} {mu' : ι → Mu} (h1 : ∀ y, SV.noR.go (res y) = true) (h2 : ∀ y, muNoR (mu' y) = true) {e : Ending} {w' : World} (q : RetP { E with r := r } φ res mu' e w') : RetP E φ res mu' e w' := by
  obtain ⟨y, B', H', out, q1, q2, q3, q4⟩ := q
  refine ⟨y, B', H', out, q1, q2, SV.noR_rels _ (h1 y) q3, ⟨⟨fun k c hc => Ch.noR_sat (muNoR_get (h2 y) k c hc) (q4.mm.sat k c hc), q4.mm.fit, q4.mm.dj, fun k => PH.dj_le (q4.mm.djr k) (PH.le_refl _) hr, q4.mm.fitr.le hr⟩, q4.keep, q4.dom, q4.anch⟩⟩
/-- a box's pointer, told as one to what is read -/
def zV (k : Nat) (m : List D) : SV → SV
  | .a (.p j o) => bif Nat.beq j k then .a (.rp .r m o) else .a (.p j o)
  | x => x
def frZ (k : Nat) (m : List D) : Fr → Fr
  | [] => []
  | (t, x) :: r => (t, zV k m x) :: frZ k m r
theorem mlk_frZ {k : Nat} {m : List D} (t : Nat) : ∀ fr : Fr, mlk t (frZ k m fr) = (mlk t fr).map (zV k m)
  | [] => rfl
  | (j, x) :: r => by
    simp only [frZ]
    rw [mlk_cons, mlk_cons]
    by_cases h : j = t
    · rw [if_pos h, if_pos h]; rfl
    · rw [if_neg h, if_neg h]; exact mlk_frZ t r
theorem owns_rdL {B : BE} {r : PH} {H : Nat → PH} : ∀ {l : List V} {m : List D}, rdL l = some m → ∀ {vs : List Value} {h : PH}, V.owns B r h l vs → V.rels B (Zf r H) l vs
  | [], _, _, _, _, e => e
  | x :: l, m, hm, vs, h, e => by
    obtain ⟨a, t, g1, g2, e1, e2, e3, e4, e5, e6⟩ := e
    simp only [rdL] at hm
    split at hm
    · rename_i y l' h1 h2
      refine ⟨a, t, e1, ?_, owns_rdL h2 e6⟩
      cases x with
      | v x => exact e5
      | s q sz n f =>
        cases q with
        | r => rcases e5 with ⟨c, _⟩ | ⟨_, e⟩
               · cases c
               · exact e
        | _ => simp [rdV] at h1
      | rp q l o =>
        cases q with
        | r => exact e5.2
        | _ => simp [rdV] at h1
      | _ => simp [rdV] at h1
    · cases hm
theorem T_freeze (k : Nat) {ι : Type} {E : Env} {fn : Func} {φ : ι → Prop} {res : ι → List SV} {mu1 : ι → Mu} {c : Code} {fr fr0 : Fr} {mu mu' : Mu} {K : List KF} {l : List V} {m : List D}
    (hk : mlk k mu = some (.row l)) (hm : rdL l = some m) (hmd : mdrop k mu = some mu') (hc : frCut (V.usesT k) fr = some fr0) (h1 : ∀ y, SV.noR.go (res y) = true) (h2 : ∀ y, muNoR (mu1 y) = true)
    (h : ∀ r', T { E with r := r' } (bodyPost E.P fn (RetP { E with r := r' } φ res mu1)) c (frZ k m fr0) mu' K) : T E (bodyPost E.P fn (RetP E φ res mu1)) c fr mu K := fun B a w H f me => by
  obtain ⟨b, off, vs, h', e1, e2, e3, e4⟩ := me.mm.sat k _ hk
  have hvl := V.owns_length e2
  have hdj : E.r.dj (H k) := PH.dj_symm (me.mm.djr k)
  have hr : E.r.le (E.r.un (H k)) := PH.le_un_left _ _
  have hkr : (H k).le (E.r.un (H k)) := PH.le_un_right hdj
  refine wp_mono (h (E.r.un (H k)) B a w (HF.set H k PH.emp) ?_ ?_) fun e a w q => KQ_mono (bodyPost_mono fun e w q => RetP.noR hr h1 h2 q) q
  · have f1 := FitsE.anew f (k := k) PH.emp hc (by rfl : gfCut (V.usesT k) [] = some [])
    rw [BE.set_self] at f1
    have hz : ∀ q, (Zf E.r (HF.set H k PH.emp) q).le (Zf (E.r.un (H k)) (HF.set H k PH.emp) q) := Zf_mono hr fun _ => PH.le_refl _
    refine ⟨f1.size, f1.defers, fun t x ex _ => ?_, fun _ _ _ _ h => (by cases h), fun _ _ _ _ h => (by cases h), fun _ _ _ _ h => (by cases h)⟩
    rw [mlk_frZ] at ex
    cases hx : mlk t fr0 with
    | none => rw [hx] at ex; cases ex
    | some x0 =>
      rw [hx] at ex
      simp only [Option.map_some, Option.some.injEq] at ex
      subst ex
      have g := SV.rel_mono hz x0 (f1.vfr t x0 hx rfl)
      unfold zV
      split
      · rename_i j o
        cases hj : Nat.beq j k with
        | false => exact g
        | true =>
          have hj := Nat.eq_of_beq_eq_true hj
          subst hj
          obtain ⟨g1, _⟩ := (show _ = addP (B j) o ∧ _ from g)
          simp only [cond_true]
          refine ⟨b, off, vs, ?_, D.rds_mono hr m (rdL_ok (Z := Zf E.r H) hm (owns_rdL hm e2)), fun i hi => ?_⟩
          · rw [g1, e1]; simp [addP, add_mk]
          · have hil : i < l.length := by omega
            exact le_cell hkr rfl hi (e4 i hil).1
      · exact g
  · refine ⟨⟨fun j cc hcc => ?_, fun j => ?_, fun i j hij => ?_, fun j => ?_, ?_⟩, me.keep, fun j b o hne => ?_, me.anch⟩
    · have hs := mdrop_spec hmd j
      by_cases hj : j = k
      · rw [if_pos hj] at hs; rw [hs] at hcc; cases hcc
      · rw [if_neg hj] at hs; rw [hs] at hcc
        rw [HF.set_ne _ _ hj]
        exact Ch.sat_monoR hr (me.mm.sat j cc hcc)
    · by_cases hj : j = k
      · subst hj; rw [HF.set_eq]; exact FitO.emp w
      · rw [HF.set_ne _ _ hj]; exact me.mm.fit j
    · by_cases hi : i = k
      · subst hi; rw [HF.set_eq]; exact PH.emp_dj _
      · rw [HF.set_ne _ _ hi]
        by_cases hj : j = k
        · subst hj; rw [HF.set_eq]; exact PH.dj_emp _
        · rw [HF.set_ne _ _ hj]; exact me.mm.dj i j hij
    · by_cases hj : j = k
      · subst hj; rw [HF.set_eq]; exact PH.emp_dj _
      · rw [HF.set_ne _ _ hj]; exact PH.dj_un (me.mm.djr j) (me.mm.dj j k hj)
    · exact me.mm.fitr.un (me.mm.fit k)
    · by_cases hj : j = k
      · subst hj; rw [HF.set_eq] at hne; exact absurd rfl hne
      · rw [HF.set_ne _ _ hj] at hne; exact me.dom j b o hne
end
section
/-- how far it is to the first region -/
def depth1 : Code → Nat
  | .seq a _ => depth1 a + 1
  | .block _ a => depth1 a + 1
  | _ => 1
/-- runs the first region alone -/
theorem T_auto1 {E : Env} {TT : List TI} {fr : Fr} {mu : Mu} {K : List KF} {R : Exit → Act → World → Prop} (hT : TOk E.P TT) {c : Code} {js : JS} {es : List Prop} {gs : List GO} (h : auto TT E.N E.A.ks (depth1 c) c fr mu K [] [] = some (js, es, gs)) (k : js.ok E R) (he : PAlls es := by repeat (first | exact trivial | refine And.intro rfl ?_)) (ho : GAlls gs := by first | exact trivial | ((simp only [GAlls, GO.p, InR]; (repeat' (first | exact trivial | refine And.intro ?_ ?_ | refine fun _ => ?_)) <;> first | omega | (simp only [decide_eq_true_eq, decide_eq_false_iff_not, Int.toNat_natCast] at *; omega) | (simp at *; omega)))) : T E R c fr mu K :=
  (auto_ok hT _ _ _ _ _ _ _ _ _ _ h ⟨he, ho⟩).2 k
/-- pointer to an element of what is read -/
theorem V_unro (t k : Nat) {E : Env} {fr fr' : Fr} {gf : GF} {mu : Mu} {sz n o : Nat} {f : Nat → List D} {i : Int} (hx : mlk t fr = some (.a (.pe k sz i o))) (hg : glk t gf = none) (hk : mlk k mu = some (.ro sz n f)) (hi : 0 ≤ i ∧ i < n) : View E fr gf mu ((t, .a (.rp .r (f i.toNat) o)) :: fr) gf mu := fun B w H a ff m => by
  refine ⟨B, H, ⟨ff.size, ff.defers, fun s x e1 e2 => ?_, ff.vgf, ff.vgu, fun s d w x e => ?_⟩, m⟩
  · rw [mlk_cons] at e1
    by_cases h : t = s
    · subst h
      rw [if_pos rfl] at e1
      injection e1 with e1; subst e1
      obtain ⟨h1, _⟩ := (show _ = elP (B k) sz i o ∧ _ from ff.vfr t _ hx e2)
      obtain ⟨A, c, g1, g2, g3, g4⟩ := (show D.rd _ _ _ from m.mm.sat k _ hk)
      rcases g4 with g4 | ⟨b, off, rfl, g5⟩
      · omega
      · obtain ⟨row, r1, r2, r3⟩ := g5 i.toNat (by omega)
        refine ⟨b, off + i.toNat * sz, row, ?_, r1, fun j hj => r3 j (by omega)⟩
        rw [h1, g1, elP_slice]
    · rw [if_neg h] at e1; exact ff.vfr s x e1 e2
  · rw [mlk_cons]
    by_cases h : t = s
    · subst h
      have := ff.vno t d w x e
      rw [hx] at this; cases this
    · rw [if_neg h]; exact ff.vno s d w x e
end
end Go.Proofs.YtpfcfepbhdkpdaaGreat
