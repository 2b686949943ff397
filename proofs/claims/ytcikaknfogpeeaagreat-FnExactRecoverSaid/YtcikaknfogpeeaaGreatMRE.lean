/-
  Part E of what the claim leans on: memory, data, walks through the program, plain laws.
-/
import Derived.Test.YtcikaknfogpeeaaGreatMRD
namespace Go.Proofs.YtcikaknfogpeeaaGreat
open Go Go.RowKit
set_option linter.unusedVariables false
set_option linter.unusedSimpArgs false
section
abbrev vI (n : Int) : SV := .a (.v (.int .i64 n))
abbrev vB (b : Bool) : SV := .a (.v (.bool b))
abbrev vR (l : List D) : SV := .ag (l.map (D.toV .r))
abbrev vL {α : Type} (sz : Nat) (enc : α → List D) (z : α) (xs : List α) : SV := .a (.s .r sz xs.length fun i => enc (xs.getD i z))
abbrev dL {α : Type} (sz : Nat) (enc : α → List D) (z : α) (xs : List α) : D := .sl sz xs.length fun i => enc (xs.getD i z)
abbrev vP (l : List D) : SV := .a (.rp .r l 0)
section
variable {E : Env} {mu : Mu} {TT : List TI} {fr : Fr} {K : List KF}
theorem T_ans {fn : Func} {res : SV} (hT : TOk E.P TT) (ts : List (Nat × Option Nat)) (hr : fn.results = (ts.map rvOf).toArray) {x : SV} (hl : allGetC TT fr mu ts = some [x]) (hx : x = res) :
    T E (bodyPost E.P fn (RetP E (fun _ : Unit => True) (fun _ => [res]) fun _ => [])) .ret fr mu K :=
  T_ret hT () ts hr hl ⟨_, _, rfl, SV.imp_of hx, rfl⟩ trivial trivial
theorem T_ansB {fn : Func} {b b' : Bool} (hT : TOk E.P TT) (ts : List (Nat × Option Nat)) (hr : fn.results = (ts.map rvOf).toArray) (hl : allGetC TT fr mu ts = some [vB b]) (hx : b = b') :
    T E (bodyPost E.P fn (RetP E (fun _ : Unit => True) (fun _ => [vB b']) fun _ => [])) .ret fr mu K := T_ans hT ts hr hl (by rw [hx])
theorem T_ansI {fn : Func} {b b' : Int} (hT : TOk E.P TT) (ts : List (Nat × Option Nat)) (hr : fn.results = (ts.map rvOf).toArray) (hl : allGetC TT fr mu ts = some [vI b]) (hx : b = b') :
    T E (bodyPost E.P fn (RetP E (fun _ : Unit => True) (fun _ => [vI b']) fun _ => [])) .ret fr mu K := T_ans hT ts hr hl (by rw [hx])
end
end
section
abbrev arrC {α : Type} (sz : Nat) (enc : α → List D) (z : α) (xs : List α) : Ch := .arr sz xs.length fun i => enc (xs.getD i z)
abbrev MkL {α : Type} (P : Program) (f : Nat) (args : List SV) (sz : Nat) (enc : α → List D) (z : α) (xs : List α) : Prop := Con P f [] args [] (fun _ : Unit => True) (fun _ => [.a (.g 900)]) fun _ => [(900, arrC sz enc z xs)]
theorem Ch.imp_len {sz n m : Nat} {f g : Nat → List D} (h : n = m) (e : ∀ i, i < n → f i = g i) : (Ch.arr sz n f).imp (.arr sz m g) := by subst h; exact Ch.imp_arr e
theorem imp_list {α : Type} {sz : Nat} {enc : α → List D} {z : α} {xs ys : List α} (h : xs = ys) : (arrC sz enc z xs).imp (arrC sz enc z ys) := by subst h; exact Ch.imp_refl _
theorem imp_app {α : Type} {sz : Nat} {enc : α → List D} {z : α} {ys zs rs : List α} (h : rs = ys ++ zs) : (Ch.arr sz (ys.length + zs.length) (appD ys.length (fun i => enc (ys.getD i z)) fun i => enc (zs.getD i z))).imp (arrC sz enc z rs) := by
  subst h
  refine Ch.imp_len (by simp) fun i hi => ?_
  by_cases c : i < ys.length
  · rw [appD_lt c]; congr 1; simp [List.getElem?_append_left c]
  · rw [appD_ge (by omega)]; congr 1; simp [List.getElem?_append_right (Nat.le_of_not_lt c)]
theorem imp_app1 {α : Type} {sz : Nat} {enc : α → List D} {z x : α} {ys rs : List α} {g : Nat → List D} (h : rs = ys ++ [x]) (hg : g 0 = enc x) : (Ch.arr sz (ys.length + 1) (appD ys.length (fun i => enc (ys.getD i z)) g)).imp (arrC sz enc z rs) := by
  subst h
  refine Ch.imp_len (by simp) fun i hi => ?_
  by_cases c : i < ys.length
  · rw [appD_lt c]; congr 1; simp [List.getElem?_append_left c]
  · have : i = ys.length := by omega
    subst this
    rw [appD_ge (by omega), Nat.sub_self, hg]; congr 1; simp
theorem take_succ_getD {α : Type} {z : α} {xs : List α} {i : Nat} (h : i < xs.length) : xs.take (i + 1) = xs.take i ++ [xs.getD i z] := by
  rw [List.take_add_one]; simp [h]
theorem filter_take {α : Type} {z : α} {xs : List α} {i : Nat} (h : i < xs.length) (p : α → Bool) : (xs.take (i + 1)).filter p = if p (xs.getD i z) then (xs.take i).filter p ++ [xs.getD i z] else (xs.take i).filter p := by
  rw [take_succ_getD (z := z) h, List.filter_append, List.filter_cons]
  split <;> simp
theorem filter_take_yes {α : Type} {z : α} {xs : List α} {i : Nat} (h : i < xs.length) {p : α → Bool} (e : p (xs.getD i z) = true) : (xs.take (i + 1)).filter p = (xs.take i).filter p ++ [xs.getD i z] := by rw [filter_take (z := z) h, if_pos e]
theorem filter_take_no {α : Type} {z : α} {xs : List α} {i : Nat} (h : i < xs.length) {p : α → Bool} (e : p (xs.getD i z) = false) : (xs.take i).filter p = (xs.take (i + 1)).filter p := by rw [filter_take (z := z) h, if_neg (by rw [e]; simp)]
theorem filter_take_len {α : Type} (xs : List α) (p : α → Bool) (i : Nat) : ((xs.take i).filter p).length ≤ xs.length := Nat.le_trans (List.length_filter_le _ _) (by rw [List.length_take]; exact Nat.min_le_right _ _)
abbrev fbO {α : Type} (rd : α → List RD) (q : α → Value) : SV := .fb fun args v => ∃ x, args = rd x ∧ v = q x
def idxI {α : Type} (p : α → Bool) : List α → Int
  | [] => -1
  | x :: r => if p x then 0 else if idxI p r = -1 then -1 else idxI p r + 1
theorem idxI_no {α : Type} {p : α → Bool} {z : α} : ∀ {xs : List α}, (∀ j, j < xs.length → p (xs.getD j z) = false) → idxI p xs = -1
  | [], _ => rfl
  | x :: r, h => by
    have h0 : p x = false := by simpa using h 0 (by simp)
    have := idxI_no (p := p) (z := z) (xs := r) fun j hj => by simpa using h (j + 1) (by simpa using hj)
    simp [idxI, h0, this]
theorem idxI_at {α : Type} {p : α → Bool} {z : α} : ∀ {xs : List α} {i : Nat}, i < xs.length → (∀ j, j < i → p (xs.getD j z) = false) → p (xs.getD i z) = true → idxI p xs = i
  | x :: r, 0, _, _, h => by simp at h; simp [idxI, h]
  | x :: r, i + 1, hi, h0, h => by
    have hx : p x = false := by simpa using h0 0 (by omega)
    have := idxI_at (p := p) (z := z) (xs := r) (i := i) (by simpa using hi) (fun j hj => by simpa using h0 (j + 1) (by omega)) (by simpa using h)
    simp only [idxI, hx, this]
    simp
theorem idxI_cases {α : Type} (p : α → Bool) (z : α) (xs : List α) : (idxI p xs = -1 ∧ ∀ j, j < xs.length → p (xs.getD j z) = false) ∨ ∃ i : Nat, i < xs.length ∧ idxI p xs = i ∧ (∀ j, j < i → p (xs.getD j z) = false) ∧ p (xs.getD i z) = true := by
  by_cases h : ∃ i, i < xs.length ∧ p (xs.getD i z) = true
  · right
    have hw : ∃ i, (i < xs.length ∧ p (xs.getD i z) = true) ∧ ∀ j, j < i → ¬ (j < xs.length ∧ p (xs.getD j z) = true) := by
      obtain ⟨n, hn⟩ := h
      have : ∀ n, (n < xs.length ∧ p (xs.getD n z) = true) → ∃ i, (i < xs.length ∧ p (xs.getD i z) = true) ∧ ∀ j, j < i → ¬ (j < xs.length ∧ p (xs.getD j z) = true) := fun n => by
        induction n using Nat.strongRecOn with
        | ind n ih =>
          intro hn
          by_cases h : ∃ j, j < n ∧ (j < xs.length ∧ p (xs.getD j z) = true)
          · obtain ⟨j, h1, h2⟩ := h; exact ih j h1 h2
          · exact ⟨n, hn, fun j hj hc => h ⟨j, hj, hc⟩⟩
      exact this n hn
    obtain ⟨i, ⟨h1, h2⟩, h3⟩ := hw
    have h4 : ∀ j, j < i → p (xs.getD j z) = false := fun j hj => by
      cases c : p (xs.getD j z) with
      | false => rfl
      | true => exact absurd ⟨by omega, c⟩ (h3 j hj)
    exact ⟨i, h1, idxI_at h1 h4 h2, h4, h2⟩
  · left
    have h4 : ∀ j, j < xs.length → p (xs.getD j z) = false := fun j hj => by
      cases c : p (xs.getD j z) with
      | false => rfl
      | true => exact absurd ⟨j, hj, c⟩ h
    exact ⟨idxI_no h4, h4⟩
theorem filter_none {α : Type} {p : α → Bool} {z : α} {xs : List α} (h : ∀ j, j < xs.length → p (xs.getD j z) = false) : xs = xs.filter fun x => !p x := by
  symm
  rw [List.filter_eq_self]
  intro x hx
  obtain ⟨j, hj, rfl⟩ := List.mem_iff_getElem.1 hx
  have := h j hj
  simp at this ⊢
  rw [List.getElem?_eq_getElem hj] at this
  simpa using this
theorem filter_take_le {α : Type} (xs : List α) (p : α → Bool) (i : Nat) : ((xs.take i).filter p).length ≤ i := Nat.le_trans (List.length_filter_le _ _) (by rw [List.length_take]; exact Nat.min_le_left _ _)
theorem getD_take {α : Type} {z : α} {xs : List α} {i k : Nat} (h : k < (xs.take i).length) : (xs.take i).getD k z = xs.getD k z := by
  rw [List.length_take] at h
  simp only [List.getD_eq_getElem?_getD]
  rw [List.getElem?_take_of_lt (by omega)]
theorem del_start {α : Type} {p : α → Bool} {z : α} {xs : List α} {i : Nat} (h1 : i < xs.length) (h3 : ∀ j, j < i → p (xs.getD j z) = false) (h4 : p (xs.getD i z) = true) : ((xs.take (i + 1)).filter fun x => !p x) = xs.take i := by
  rw [filter_take (z := z) h1, if_neg (by rw [h4]; simp)]
  refine (filter_none (z := z) (xs := xs.take i) fun j hj => ?_).symm
  rw [getD_take hj]
  rw [List.length_take] at hj
  exact h3 j (by omega)
theorem getD_app_lt {α : Type} {z : α} {ys zs : List α} {k : Nat} (h : k < ys.length) : (ys ++ zs).getD k z = ys.getD k z := by simp [List.getElem?_append_left h]
theorem getD_app_eq {α : Type} {z x : α} {ys : List α} : (ys ++ [x]).getD ys.length z = x := by simp
def szI (l : Int) (n : Nat) : Int := if l - n < 0 then -1 else l - n
theorem szI_neg {l : Int} {n : Nat} : szI l n < 0 ↔ l < n := by
  unfold szI; split <;> omega
theorem fill_step {α : Type} {z : α} {xs : List α} {i k : Nat} (enc : α → List D) {l : List D} (h : l = enc (xs.getD i z)) : (bif Nat.beq k ((i : Int).toNat) then l else enc (if k < i then xs.getD k z else z)) = enc (if k < i + 1 then xs.getD k z else z) := by
  by_cases c : k = i
  · subst c
    rw [Int.toNat_natCast, Nat.beq_refl, h, if_pos (Nat.lt_succ_self _)]; rfl
  · have e : Nat.beq k ((i : Int).toNat) = false := by
      rw [Int.toNat_natCast]
      cases e : Nat.beq k i with
      | false => rfl
      | true => exact absurd (Nat.eq_of_beq_eq_true e) c
    rw [e]
    by_cases c2 : k < i
    · rw [if_pos c2, if_pos (by omega)]; rfl
    · rw [if_neg c2, if_neg (by omega)]; rfl
theorem vI_eq {a b : Int} (h : a = b) : vI a = vI b := by rw [h]
theorem fill_step2 {α : Type} {i k : Nat} (enc : α → List D) (g : Nat → α) {o : Nat → α} {l : List D} (h : l = enc (g i)) : (bif Nat.beq k ((i : Int).toNat) then l else enc (if k < i then g k else o k)) = enc (if k < i + 1 then g k else o k) := by
  by_cases c : k = i
  · subst c
    rw [Int.toNat_natCast, Nat.beq_refl, h, if_pos (Nat.lt_succ_self _)]; rfl
  · have e : Nat.beq k ((i : Int).toNat) = false := by
      rw [Int.toNat_natCast]
      cases e : Nat.beq k i with
      | false => rfl
      | true => exact absurd (Nat.eq_of_beq_eq_true e) c
    rw [e]
    by_cases c2 : k < i
    · rw [if_pos c2, if_pos (by omega)]; rfl
    · rw [if_neg c2, if_neg (by omega)]; rfl
section
variable {E : Env} {mu mu' : Mu} {TT : List TI} {fr fr' : Fr} {gf gf' : GF} {all rest : List Oper} {Q : Exit → Act → World → Prop} {o : Oper} {G : AG}
theorem DJ_C {ι : Type} (i : Nat) {n : Nat} {tk : List Nat} {f : Nat} {ks nk : List Nat} {args : List SV} {mu1 : Mu} {φ : ι → Prop} {res : ι → List SV} {mu1' : ι → Mu} (C : Con E.P f ks args mu1 φ res mu1') {svs args' : List SV} {g : Option (Nat × Nat × Bool)} {t : Nat} {q : Ob} {es : List Prop} {gs : List GO} {md : Mu}
    (hi : nth all i = some o) (hc : callC E.N all fr gf o = some (f, svs, g, t, gf')) (hw : wkSL mu (keysO mu1) ks svs = some (args', q)) (ha : SVs.imp E.P args' args) (hnk : ∀ y, keysOf (mu1' y) = nk) (hs : splitO fr gf [] q [] [] = some (es, gs)) (hmd : mdropKs (appK (keysO mu1) nk) mu = some md) {fr' : Fr} {gf2 : GF} (hcut : cutKs (keysO mu1) fr gf' = some (fr', gf2))
    (k : ∀ y, φ y → DJ G E all Q n (i :: tk) ((t, resS (res y)) :: fr') gf2 (appM (mu1' y) md)) (hB : oneB all.toArray tk i = true := by kernel_rfl)
    (hin : WkIn mu mu1 := by repeat (first | exact trivial | refine And.intro ⟨_, rfl, ro_arr⟩ ?_ | refine And.intro ⟨_, rfl, ro_ro⟩ ?_ | refine And.intro ⟨_, rfl, ro_row⟩ ?_ | refine And.intro ⟨_, rfl, Ch.imp_refl _⟩ ?_)) (hg : litG fr gf g := by first | exact trivial | exact ⟨rfl, rfl⟩) (hkeys : keysB ks nk mu1 fr gf mu E.A.ks G.ks = true := by exact rfl) (hout : ∀ y, (SV.inKL (appK ks nk) (res y) && muIn (appK ks nk) (mu1' y)) = true := by exact fun _ => rfl) (hen : Enters E.P f := by exact enters_B (by kernel_rfl)) (he : PAlls es := by repeat (first | exact trivial | refine And.intro rfl ?_)) (ho : GAlls gs := by first | exact trivial | ((simp only [GAlls, GO.p, InR]; (repeat' (first | exact trivial | refine And.intro ?_ ?_ | refine fun _ => ?_)) <;> first | omega | (simp only [decide_eq_true_eq, decide_eq_false_iff_not, Int.toNat_natCast] at *; omega) | (simp at *; omega)))) :
    DJ G E all Q (n + 1) tk fr gf mu :=
  DJ_one i hi hB (OJ_C C hc hg hen hw ha hs he ho hin hnk hkeys hout hmd hcut fun y hy => SJ_dj (k y hy))
theorem DJ_Q1 (i : Nat) {n : Nat} {tk : List Nat} {f : Nat} {ks : List Nat} {args : List SV} {mu1 : Mu} {res : SV} (C : Ans E.P f ks args mu1 res) {svs args' : List SV} {g : Option (Nat × Nat × Bool)} {t : Nat} {q : Ob} {es : List Prop} {gs : List GO}
    (hi : nth all i = some o) (hc : callC E.N all fr gf o = some (f, svs, g, t, gf')) (hw : wkSL mu [] ks svs = some (args', q)) (hae : args' = args) (hs : splitO fr gf (match g with | none => [] | some (_, d, b) => acts 6 gf d b) q [] [] = some (es, gs))
    (k : DJ G E all Q n (i :: tk) (frQ fr g t res) (gfQ gf' g t res) mu) (hB : oneB all.toArray tk i = true := by kernel_rfl) (hko : keysO mu1 = [] := by exact rfl) (hres : res.inK ks = true := by exact rfl) (hin : WkIn mu mu1 := by repeat (first | exact trivial | refine And.intro ⟨_, rfl, ro_arr⟩ ?_ | refine And.intro ⟨_, rfl, ro_ro⟩ ?_ | refine And.intro ⟨_, rfl, ro_row⟩ ?_ | refine And.intro ⟨_, rfl, Ch.imp_refl _⟩ ?_)) (hen : Enters E.P f := by exact enters_B (by kernel_rfl)) (he : PAlls es := by repeat (first | exact trivial | refine And.intro rfl ?_)) (ho : GAlls gs := by first | exact trivial | ((simp only [GAlls, GO.p, InR]; (repeat' (first | exact trivial | refine And.intro ?_ ?_ | refine fun _ => ?_)) <;> first | omega | (simp only [decide_eq_true_eq, decide_eq_false_iff_not, Int.toNat_natCast] at *; omega) | (simp at *; omega)))) :
    DJ G E all Q (n + 1) tk fr gf mu := by
  subst hae
  exact DJ_one i hi hB (OJ_Q C hc rfl hen hko hres hw (SVs.imp_refl _) hs he ho hin (SJ_dj k))
end
end
section
section
variable {E : Env} {mu mu' : Mu} {TT : List TI} {fr fr' : Fr} {gf gf' : GF} {all rest : List Oper} {Q : Exit → Act → World → Prop} {o : Oper} {J : Act → World → Prop} {G : AG}
theorem OJ_FG {φ : List RD → Value → Prop} {args : List SV} {rds : List RD} {t j d : Nat} {b : Bool} {x : Value} (hg : o.guard = some (j, b)) (hsl : gSlot all j = some d) (hc : fbOf (acts 6 gf d b) fr gf o.op = some (φ, args)) (hr : rdSs args = some rds) (hgd : gdrop t gf = some gf') (hx : φ rds x)
    (k : SJ G J E fr ((t, d, b, .a (.v x)) :: gf') mu) (hd : o.dst = some t := by exact rfl) (hn : mlk t fr = none := by exact rfl) (ht : (Nat.blt t E.N && !(Nat.beq t d)) = true := by exact rfl) : OJ G E all Q J o fr gf mu := fun B a w H f m gg => by
  simp only [Bool.and_eq_true, Bool.not_eq_true'] at ht
  have htd : t ≠ d := Nat.ne_of_beq_eq_false ht.2
  have htN : t < E.N := by simpa [Nat.blt_eq] using ht.1
  have hwt := wanted_some (ops := all.toArray) (a := a) hg (gslot_ops hsl)
  by_cases hyes : a.tmps.getD d undef = .bool b
  · have hacts := acts_ok f 6 d b hyes
    have hw := hwt.2 hyes
    obtain ⟨dst, op, type, pos, after, guard⟩ := o
    simp only at hc hd
    subst hd
    unfold fbOf at hc
    split at hc
    · rename_i c
      obtain ⟨callee, cargs, ats⟩ := c
      simp only at hc
      split at hc
      · rename_i y hy
        split at hc
        · rename_i φ' l e1 e2
          simp only [Option.some.injEq, Prod.mk.injEq] at hc
          obtain ⟨rfl, rfl⟩ := hc
          obtain ⟨fn, cv, h1, h3, h4⟩ := (show ∃ f vs, _ from f.ev hacts e1)
          have h2 := f.evs hacts e2
          have ha : cargs.map a.eval = (cargs.toList.map a.eval).toArray := Array.ext' (by rw [Array.toList_map])
          refine one_call (n := fn) (args := (cargs.toList.map a.eval ++ cv).toArray) hw ?_ ((h4 rds x hx w E.r _ (PH.le_refl _) m.mm.fitr (rdSs_ok hr h2)).mono fun e w' ⟨g1, g2⟩ => ⟨x, g1, ?_⟩)
          · simp only [execOp, resolve, h1, Deferred.ofValue, Sem.run_bind, Sem.run_pure, Result.andThen_ok, invoke, ha, Array.empty_append]
            rw [h3]
            congr 2
            simp
          · exact k B _ w' H (Fits.putG f htN htd hn hgd (.inl ⟨hyes, show SV.rel E.P B (Zf E.r H) (.a (.v x)) x from rfl⟩)) (m.below g2) gg
        · cases hc
      · cases hc
    · cases hc
  · refine one_off (by
      cases e : Region.wanted o (yielded all.toArray a.tmps) with
      | false => rfl
      | true => exact absurd (hwt.1 e) hyes) ?_
    rw [hd]
    exact k B _ w H (Fits.putG f htN htd hn hgd (.inr ⟨hyes, rfl⟩)) m gg
def V.isNil : V → Bool
  | .v (.slice none 0 0) => true
  | _ => false
theorem V.isNil_eq {x : V} (h : x.isNil = true) : x = .v (.slice none 0 0) := by
  unfold V.isNil at h
  split at h
  · rfl
  · cases h
def nilR (sz : Nat) (f : Nat → List D) : List V → Nat → Option (List V)
  | [], _ => none
  | x :: r, 0 => bif x.isNil then some (.s .o sz 0 f :: r) else none
  | x :: r, j + 1 => match nilR sz f r j with
    | some l => some (x :: l)
    | none => none
theorem nilR_ok {B : BE} {r : PH} {sz : Nat} {f : Nat → List D} : ∀ {l : List V} {j : Nat} {l' : List V}, nilR sz f l j = some l' → l'.length = l.length ∧ ∀ {h : PH} {vs : List Value}, V.owns B r h l vs → V.owns B r h l' vs
  | [], j, _, e => by simp [nilR] at e
  | x :: l, 0, l', e => by
    simp only [nilR] at e
    cases c : x.isNil with
    | false => rw [c] at e; cases e
    | true =>
      rw [c] at e
      injection e with e
      subst e
      refine ⟨rfl, fun {h vs} o => ?_⟩
      obtain ⟨v, t, h1, h2, rfl, e2, e3, e4, e5, e6⟩ := o
      rw [V.isNil_eq c] at e5
      have e5 : v = .slice none 0 0 := e5
      subst e5
      exact ⟨_, t, h1, h2, rfl, e2, e3, e4, .inl ⟨rfl, none, 0, rfl, Nat.le_refl _, Nat.zero_le _, .inl rfl⟩, e6⟩
  | x :: l, j + 1, l', e => by
    simp only [nilR] at e
    split at e
    · rename_i l2 e1
      injection e with e
      subst e
      obtain ⟨k1, k2⟩ := nilR_ok (B := B) (r := r) e1
      refine ⟨by rw [List.length_cons, List.length_cons, k1], fun {h vs} o => ?_⟩
      obtain ⟨v, t, h1, h2, rfl, e2, e3, e4, e5, e6⟩ := o
      exact ⟨v, t, h1, h2, rfl, e2, e3, e4, e5, k2 e6⟩
    · cases e
theorem V_nilR (k j sz : Nat) (f : Nat → List D) {l l' : List V} (hk : mlk k mu = some (.row l)) (hn : nilR sz f l j = some l') (hmu : mset k (.row l') mu = some mu') : View E fr gf mu fr gf mu' :=
  V_imp k hk (fun B r h k s => by
    obtain ⟨b, o, vs, h', e1, e2, e3, e4⟩ := s
    exact ⟨b, o, vs, h', e1, (nilR_ok hn).2 e2, e3, fun j hj => e4 j (by rw [← (nilR_ok (B := B) (r := r) hn).1]; exact hj)⟩) hmu
theorem gl_cap (t k : Nat) {sz n : Nat} {f : Nat → List D} (hx : mlk t fr = some (.a (.g k))) (hg : glk t gf = none) (hk : mlk k mu = some (.arr sz n f)) {B : BE} {a : Act} {w : World} {H : Nat → PH} (ff : FitsE E B H fr gf a) (m : Mem E B mu w H) : ∃ cp, n ≤ cp ∧ FitsE E B H ((t, .a (.gl k n cp)) :: fr) gf a := by
  have e1 : a.tmps.getD t undef = B k ∧ oneV (a.tmps.getD t undef) = true := ff.vfr t _ hx hg
  obtain ⟨A, c, e2, e4⟩ := (show D.own (H k) (.sl sz n f) (B k) from m.mm.sat k _ hk)
  refine ⟨c, e4.1, ⟨ff.size, ff.defers, fun t' x e3 e4 => ?_, ff.vgf, ff.vgu, fun t' d w x e3 => ?_⟩⟩
  · rw [mlk_cons] at e3
    by_cases h : t = t'
    · subst h
      rw [if_pos rfl] at e3
      injection e3 with e3
      subst e3
      exact ⟨e1.1, e1.2, A, e1.1.trans e2⟩
    · rw [if_neg h] at e3; exact ff.vfr t' x e3 e4
  · rw [mlk_cons]
    have h1 := ff.vno t' d w x e3
    have h2 : t ≠ t' := fun h => by subst h; rw [hx] at h1; cases h1
    rw [if_neg h2]; exact h1
theorem T_cap (t k : Nat) {c : Code} {K : List KF} {R : Exit → Act → World → Prop} {sz n : Nat} {f : Nat → List D} (hx : mlk t fr = some (.a (.g k))) (hk : mlk k mu = some (.arr sz n f)) (h : ∀ cp, n ≤ cp → T E R c ((t, .a (.gl k n cp)) :: fr) mu K) : T E R c fr mu K := fun B a w H ff m => by
  obtain ⟨cp, h1, f'⟩ := gl_cap t k hx rfl hk ff m
  exact h cp h1 B a w H f' m
theorem imp_gl {P : Program} {k n c : Nat} : (SV.a (.gl k n c)).imp P (.a (.g k)) := fun _ _ _ e => ⟨e.1, e.2.1⟩
end
end
section
theorem Con.wkA {ι : Type} {P : Program} {f : Nat} {ks : List Nat} {args args' : List SV} {mu : Mu} {φ : ι → Prop} {res : ι → List SV} {mu' : ι → Mu} (C : Con P f ks args mu φ res mu') (h : SVs.imp P args' args) : Con P f ks args' mu φ res mu' :=
  fun B r w H vals m he ha => C B r w H vals m he (SVs.imp_ok h ha)
theorem Mm.wk {B : BE} {r : PH} {mu mu' : Mu} {w : World} {H : Nat → PH} (m : Mm B r mu w H) (h : WkMu mu mu') : Mm B r mu' w H := ⟨fun k c e => by
  obtain ⟨d, h1, h2⟩ := h.get k c e
  exact h2 _ _ _ _ (m.sat k d h1), m.fit, m.dj, m.djr, m.fitr⟩
theorem Con.wkM {ι : Type} {P : Program} {f : Nat} {ks : List Nat} {args : List SV} {mu : Mu} {φ : ι → Prop} {res : ι → List SV} {mu' mu'' : ι → Mu} (C : Con P f ks args mu φ res mu') (h : ∀ y, φ y → WkMu (mu' y) (mu'' y)) : Con P f ks args mu φ res mu'' :=
  fun B r w H vals m he ha => (C B r w H vals m he ha).mono fun e w' ⟨y, B', H', out, h1, h2, h3, h4, h5⟩ => ⟨y, B', H', out, h1, h2, h3, h4.wk (h y h1), h5⟩
theorem Con.wkR {ι : Type} {P : Program} {f : Nat} {ks : List Nat} {args : List SV} {mu : Mu} {φ : ι → Prop} {res res' : ι → List SV} {mu' : ι → Mu} (C : Con P f ks args mu φ res mu') (h : ∀ y, φ y → SVs.imp P (res y) (res' y)) : Con P f ks args mu φ res' mu' :=
  fun B r w H vals m he ha => (C B r w H vals m he ha).mono fun e w' ⟨y, B', H', out, h1, h2, h3, h4⟩ => ⟨y, B', H', out, h1, h2, SVs.imp_ok (h y h1) h3, h4⟩
theorem SV.imp.trans {P : Program} {x y z : SV} (h : x.imp P y) (k : y.imp P z) : x.imp P z := fun _ _ _ e => k _ _ _ (h _ _ _ e)
def OwnI (l m : List D) : Prop := ∀ h vs, D.owns h l vs → D.owns h m vs
theorem OwnI.e : OwnI [] [] := fun _ _ e => e
theorem OwnI.refl (l : List D) : OwnI l l := fun _ _ e => e
theorem OwnI.c {x : D} {l m : List D} (k : OwnI l m) : OwnI (x :: l) (x :: m) := fun h vs ⟨y, t, h1, h2, e1, e2, e3, e4, e5, e6⟩ => ⟨y, t, h1, h2, e1, e2, e3, e4, e5, k _ _ e6⟩
theorem own_nil {h : PH} {sz : Nat} {f : Nat → List D} : D.own h (.sl sz 0 f) (.slice none 0 0) := ⟨none, 0, rfl, Nat.le_refl _, Nat.zero_le _, .inl rfl⟩
theorem OwnI.n {sz : Nat} {f : Nat → List D} {l m : List D} (k : OwnI l m) : OwnI (.v (.slice none 0 0) :: l) (.sl sz 0 f :: m) := fun h vs ⟨y, t, h1, h2, e1, e2, e3, e4, e5, e6⟩ => ⟨y, t, h1, h2, e1, e2, e3, e4, by
  have e5 : y = .slice none 0 0 := e5
  subst e5; exact own_nil, k _ _ e6⟩
theorem OwnI.of {l m : List D} (e : l = m) : OwnI l m := by subst e; exact OwnI.refl l
theorem Ch.imp_own {sz n m : Nat} {f g : Nat → List D} (hn : n = m) (k : ∀ i, i < n → OwnI (f i) (g i)) : (Ch.arr sz n f).imp (.arr sz m g) := by
  subst hn
  intro B r h j s
  obtain ⟨A, c, e1, e2, e3, e4⟩ := (show D.own _ _ _ from s)
  refine ⟨A, c, e1, e2, e3, e4.imp id fun ⟨b, o, rw0, H, e5, e6, e7, e8⟩ => ⟨b, o, rw0, H, e5, fun i hi => ?_, e7, e8⟩⟩
  obtain ⟨r1, r2, r3⟩ := e6 i hi
  exact ⟨k i hi _ _ r1, r2, r3⟩
abbrev fbP {α : Type} (S : α → Prop) (rd : α → List RD) (q : α → Value) : SV := .fb fun args v => ∃ x, S x ∧ args = rd x ∧ v = q x
section
variable {E : Env} {B : BE} {mu mu' : Mu} {w : World} {H : Nat → PH} {TT : List TI} {fr fr' : Fr} {gf gf' : GF} {a : Act} {all rest : List Oper} {Q : Exit → Act → World → Prop} {o : Oper} {J : Act → World → Prop} {G : AG} {R : Exit → Act → World → Prop} {K : List KF}
def V.rO : V → Bool
  | .v _ => true
  | .s .r _ _ _ => true
  | .rp .r _ _ => true
  | _ => false
def SV.rO : SV → Bool
  | .a x => x.rO
  | .ag l => allL V.rO l
  | .tu l => go l
  | _ => false
where go : List SV → Bool
  | [] => true
  | x :: r => SV.rO x && go r
theorem V.rO_rel {B B' : BE} {s : PH} {H H' : Nat → PH} : ∀ {x : V} {y : Value}, x.rO = true → x.rel B (Zf s H) y → x.rel B' (Zf s H') y
  | .v _, _, _, e => e
  | .s .r _ _ _, _, _, e => e
  | .rp .r _ _, _, _, e => e
theorem V.rO_rels {B B' : BE} {s : PH} {H H' : Nat → PH} : ∀ {l : List V} {y : List Value}, allL V.rO l = true → V.rels B (Zf s H) l y → V.rels B' (Zf s H') l y
  | [], _, _, e => e
  | x :: r, y, h, e => by
    obtain ⟨h1, h2⟩ := allL_cons h
    obtain ⟨a, t, e1, e2, e3⟩ := e
    exact ⟨a, t, e1, V.rO_rel h1 e2, V.rO_rels h2 e3⟩
mutual
theorem SV.rO_rel {P : Program} {B B' : BE} {s : PH} {H H' : Nat → PH} : ∀ (x : SV) {y : Value}, x.rO = true → SV.rel P B (Zf s H) x y → SV.rel P B' (Zf s H') x y
  | .a x, _, h, e => V.rO_rel h e
  | .ag l, _, h, e => by obtain ⟨vs, e1, e2⟩ := e; exact ⟨vs, e1, V.rO_rels h e2⟩
  | .tu l, _, h, e => by obtain ⟨vs, e1, e2⟩ := e; exact ⟨vs, e1, SV.rO_rels l h e2⟩
  | .fn _ _, _, h, _ => by cases h
  | .fb _, _, h, _ => by cases h
  | .un, _, h, _ => by cases h
theorem SV.rO_rels {P : Program} {B B' : BE} {s : PH} {H H' : Nat → PH} : ∀ (l : List SV) {y : List Value}, SV.rO.go l = true → SV.rels P B (Zf s H) l y → SV.rels P B' (Zf s H') l y
  | [], _, _, e => e
  | x :: r, y, h, e => by
    simp only [SV.rO.go, Bool.and_eq_true] at h
    obtain ⟨a, t, e1, e2, e3⟩ := e
    exact ⟨a, t, e1, SV.rO_rel x h.1 e2, SV.rO_rels r h.2 e3⟩
end
theorem Con.askR {P : Program} {f : Nat} {args : List SV} {res : SV} (C : Ans P f [] args [] res) (hres : res.rO = true) {B : BE} {s : PH} {w : World} {vals : List Value} (hf : Fit s w) (ha : SV.rels P B (Zf s fun _ => PH.emp) args vals) :
    Calls P f vals.toArray w fun e w' => ∃ v, e = .returned v ∧ (∀ B' H', SV.rel P B' (Zf s H') res v) ∧ Below w.heap.size w w' := by
  refine (C B s w (fun _ => PH.emp) vals ⟨(fun k c e => by cases e), fun _ => FitO.emp w, fun _ _ _ => PH.emp_dj _, fun _ => PH.emp_dj _, hf⟩ (fun _ _ => rfl) ha).mono ?_
  rintro e w' ⟨y, B1, H1, out, _, h2, h3, _, h5, h6, _⟩
  obtain ⟨v, t, rfl, h7, h8⟩ := h3
  have h8 : t = [] := h8
  subst h8
  exact ⟨v, h2, fun B' H' => SV.rO_rel res hres h7, Keep.none h6 fun b o ⟨k, h, _⟩ => by cases h⟩
theorem ans_runR {P : Program} {r : PH} {f : Nat} {args : List SV} {res : SV} (C : Ans P f [] args [] res) (hres : res.rO = true) (hf : Fit r w) {svs args' : List SV} {q : Ob} (hw : wkSL [] [] [] svs = some (args', q)) (ha : SVs.imp P args' args) (hq : Alls q) {vals : List Value} (hv : SV.rels P B (Zf r H) svs vals) :
    Calls P f vals.toArray w fun e w' => ∃ v, e = .returned v ∧ (∀ B' H', SV.rel P B' (Zf r H') res v) ∧ Below w.heap.size w w' := by
  have W : Wk B r [] H [] r := ⟨(fun k c e => by cases e), PH.le_refl _, (fun k c e => by cases e)⟩
  exact C.askR hres hf (SVs.imp_ok ha (wkSL_ok (Z := Zf r fun _ => PH.emp) W rfl hw hq hv))
theorem OJ_QR {f : Nat} {args : List SV} {res : SV} (C : Ans E.P f [] args [] res) {svs args' : List SV} {g : Option (Nat × Nat × Bool)} {t : Nat} {q : Ob} {gd : Gd} {es : List Prop} {gs : List GO}
    (hc : callC E.N all fr gf o = some (f, svs, g, t, gf')) (hgd : gd = match g with | none => [] | some (_, d, b) => acts 6 gf d b) (hen : Enters E.P f) (hres : res.rO = true)
    (hw : wkSL [] [] [] svs = some (args', q)) (ha : SVs.imp E.P args' args) (hs : splitO fr gf gd q [] [] = some (es, gs)) (he : PAlls es) (ho : GAlls gs)
    (k : SJ G J E (frQ fr g t res) (gfQ gf' g t res) mu) : OJ G E all Q J o fr gf mu := fun B a w H f m gg => by
  match g, hc, hgd with
  | none, hc, hgd =>
    subst hgd
    obtain ⟨h1, h2, h3, h4, h5⟩ := callC_none hc
    obtain ⟨vals, r1, r2⟩ := callsOf_run (w := w) f (fun _ _ hm => by cases hm) h4 hen
    refine one_call (wanted_none h1) r1 ((ans_runR C hres m.mr.fitr hw ha (splitO_ok f (fun _ _ hm => by cases hm) hs he ho) r2).mono fun e w' ⟨v, c1, c2, c3⟩ => ⟨v, c1, ?_⟩)
    rw [h2]
    exact k B _ w' H (Fits.put f (by simpa [Nat.blt_eq] using h3) (c2 _ _) h5) (m.below c3) gg
  | some (j, d, b), hc, hgd =>
    subst hgd
    obtain ⟨h1, h2, h3, h4, h5, h6, h7⟩ := callC_some hc
    simp only [Bool.and_eq_true, Bool.not_eq_true'] at h4
    have htd : t ≠ d := Nat.ne_of_beq_eq_false h4.2
    have htN : t < E.N := by simpa [Nat.blt_eq] using h4.1
    have hwt := wanted_some (ops := all.toArray) (a := a) h1 (gslot_ops h2)
    by_cases hyes : a.tmps.getD d undef = .bool b
    · have hacts := acts_ok f 6 d b hyes
      obtain ⟨vals, r1, r2⟩ := callsOf_run (w := w) f hacts h6 hen
      refine one_call (hwt.2 hyes) r1 ((ans_runR C hres m.mr.fitr hw ha (splitO_ok f hacts hs he ho) r2).mono fun e w' ⟨v, c1, c2, c3⟩ => ⟨v, c1, ?_⟩)
      rw [h3]
      exact k B _ w' H (Fits.putG f htN htd h5 h7 (.inl ⟨hyes, c2 _ _⟩)) (m.below c3) gg
    · refine one_off (by
        cases e : Region.wanted o (yielded all.toArray a.tmps) with
        | false => rfl
        | true => exact absurd (hwt.1 e) hyes) ?_
      rw [h3]
      exact k B _ w H (Fits.putG f htN htd h5 h7 (.inr ⟨hyes, rfl⟩)) m gg
theorem RJ_QR (hT : TOk E.P TT) {f : Nat} {args : List SV} {res : SV} (C : Ans E.P f [] args [] res) {svs args' : List SV} {g : Option (Nat × Nat × Bool)} {t : Nat} {q : Ob} {es0 : List Prop} {gs0 : List GO} {js : JS} {es : List Prop} {gs : List GO}
    (hc : callC E.N all fr gf o = some (f, svs, g, t, gf')) (hw : wkSL [] [] [] svs = some (args', q)) (ha : SVs.imp E.P args' args) (hs : splitO fr gf (match g with | none => [] | some (_, d, b) => acts 6 gf d b) q [] [] = some (es0, gs0))
    (hau : goR TT E.N E.A.ks (auto TT E.N E.A.ks 400) all rest (frQ fr g t res) (gfQ gf' g t res) mu K es0 gs0 = some (js, es, gs)) (k : js.ok E R)
    (hres : res.rO = true := by exact rfl) (hen : Enters E.P f := by exact enters_B (by kernel_rfl)) (he : PAlls es := by repeat (first | exact trivial | refine And.intro rfl ?_)) (ho : GAlls gs := by first | exact trivial | ((simp only [GAlls, GO.p, InR]; (repeat' (first | exact trivial | refine And.intro ?_ ?_ | refine fun _ => ?_)) <;> first | omega | (simp only [decide_eq_true_eq, decide_eq_false_iff_not, Int.toNat_natCast] at *; omega) | (simp at *; omega)))) :
    RJ E all (KQ E.P R K) (o :: rest) fr gf mu := by
  obtain ⟨h1, h2⟩ := goR_ok hT (auto_ok hT 400) hau ⟨he, ho⟩
  exact RJ_of (OJ_QR C hc rfl hen hres hw ha hs h1.1 h1.2 (SJ_of (h2 k)))
theorem DJ_QF (hT : TOk E.P TT) {n : Nat} {tk is' tk' : List Nat} {f : Nat} {ks : List Nat} {args : List SV} {mu1 : Mu} {res : SV} (C : Ans E.P f ks args mu1 res) {svs args' : List SV} {g : Option (Nat × Nat × Bool)} {t : Nat} {q : Ob} {es0 es : List Prop} {gs0 gs : List GO} (hi : nth all tk.length = some o)
    (hc : callC E.N all fr gf o = some (f, svs, g, t, gf')) (hw : wkSL (muR G.ks mu) [] ks svs = some (args', q)) (hae : SVs.imp E.P args' args) (hs : splitO fr gf (match g with | none => [] | some (_, d, b) => acts 6 gf d b) q [] [] = some (es0, gs0)) {gf3 : GF}
    (ha : drun TT E.N all (muR G.ks mu) (iota (tk.length + 1) n) (frQ fr g t res) (gfQ gf' g t res) (tk.length :: tk) es0 gs0 = some (is', fr', gf3, tk', es, gs)) (k : DJ G E all (KQ E.P R K) is'.length tk' fr' gf3 mu)
    {x : Value} (hx : exV res = some x := by exact rfl) (hR : PQ R := by exact pq_body _ _) (hb : (takeB all.toArray tk tk.length && tookB all.toArray (iota (tk.length + 1) n) is' (tk.length :: tk)) = true := by kernel_rfl)
    (hko : keysO mu1 = [] := by exact rfl) (hres : res.inK ks = true := by exact rfl) (hin : WkIn (muR G.ks mu) mu1 := by repeat (first | exact trivial | refine And.intro ⟨_, rfl, ro_arr⟩ ?_ | refine And.intro ⟨_, rfl, ro_ro⟩ ?_ | refine And.intro ⟨_, rfl, ro_row⟩ ?_ | refine And.intro ⟨_, rfl, Ch.imp_refl _⟩ ?_)) (hen : Enters E.P f := by exact enters_B (by kernel_rfl)) (he : PAlls es := by repeat (first | exact trivial | refine And.intro rfl ?_)) (ho : GAlls gs := by first | exact trivial | ((simp only [GAlls, GO.p, InR]; (repeat' (first | exact trivial | refine And.intro ?_ ?_ | refine fun _ => ?_)) <;> first | omega | (simp only [decide_eq_true_eq, decide_eq_false_iff_not, Int.toNat_natCast] at *; omega) | (simp at *; omega)))) : DJ G E all (KQ E.P R K) (n + 1) tk fr gf mu := by
  simp only [Bool.and_eq_true] at hb
  obtain ⟨h3, h2⟩ := (drun_took (G := G) (K := K) hT hR _ _ _ _ _ _ ha).2 hb.2 ⟨he, ho⟩
  have h2 := h2 k
  rw [iota_length] at h2
  exact DJ_q hR _ C hx hi hb.1 hc rfl hen hko hres hw hae hs h3.1 h3.2 hin h2
theorem RJ_nilG (hT : TOk E.P TT) {t0 ty : Nat} {x y : Operand} {yt : TypeId} {j d : Nat} {b : Bool} {sx : V} {q : Tg} {sz n : Nat} {f : Nat → List D} {ob : Ob} {n0 c0 : Nat} {id sz1 by1 e : Nat} {z : Value} {ef : Bool}
    (hop : o.op = .binOp .eql ty x y yt) (hg : o.guard = some (j, b)) (hsl : gSlot all j = some d) (hx : ev (acts 6 gf d b) fr gf x = some (.a sx)) (hy : ev (acts 6 gf d b) fr gf y = some (.a (.v (.slice none n0 c0)))) (h1 : tlk ty TT = some ⟨id, sz1, by1, .slc e, z, ef⟩) (hs : slR mu sx = some (q, sz, n, f, ob)) (hn : mlk t0 fr = none) (hgd : gdrop t0 gf = some gf') (hpos : 0 < n)
    (k : RJ E all (KQ E.P R K) rest fr ((t0, d, b, .a (.v (.bool false))) :: gf') mu) (hob : Alls ob := by repeat (first | exact trivial | refine And.intro rfl ?_)) (hd : o.dst = some t0 := by exact rfl) (ht : (Nat.blt t0 E.N && !(Nat.beq t0 d)) = true := by exact rfl) : RJ E all (KQ E.P R K) (o :: rest) fr gf mu := by
  refine RJ_of fun B a w H ff mm _ => ?_
  obtain ⟨t1, t2⟩ := hT.get h1
  obtain ⟨dd, d1, d2⟩ := t2.desc
  simp only at t1 d1 d2
  subst t1
  obtain rfl := shapeK_slc d2
  simp only [Bool.and_eq_true, Bool.not_eq_true'] at ht
  have htd : t0 ≠ d := Nat.ne_of_beq_eq_false ht.2
  have htN : t0 < E.N := by simpa [Nat.blt_eq] using ht.1
  have hw := wanted_some (ops := all.toArray) (a := a) hg (gslot_ops hsl)
  by_cases hyes : a.tmps.getD d undef = .bool b
  · have hacts := acts_ok ff 6 d b hyes
    have hr := slR_spec mm.mr.ms hs hob (show sx.rel B (Zf E.r H) (a.eval x) from ff.ev hacts hx)
    have ey : a.eval y = _ := ff.ev hacts hy
    obtain ⟨A, c, ex, e0⟩ := fit_slice hr
    refine one_val (hw.2 hyes) (v := .bool false) (w' := w) ?_ ?_
    · obtain ⟨dst, op', type, pos, after, guard⟩ := o
      simp only at hop
      subst hop
      simp only [execOp, ex, ey]
      refine run_value ?_
      show (do eqGuard .eql _ x y _ _; binOp .eql _ _ _ : Sem Value).run E.P w = _
      rw [Sem.run_bind, eqGuard_plain rfl, Result.andThen_ok]
      have hA : A.isNone = false := e0 hpos
      simp only [binOp, Sem.run_bind, equal_slice d1, Result.andThen_ok, Sem.run_pure, hA]
    · rw [hd]
      exact k B _ w H (Fits.putG ff htN htd hn hgd (.inl ⟨hyes, (show SV.rel _ _ _ (.a (.v _)) _ from rfl)⟩)) mm
  · refine one_off (by
      cases e : Region.wanted o (yielded all.toArray a.tmps) with
      | false => rfl
      | true => exact absurd (hw.1 e) hyes) ?_
    rw [hd]
    exact k B _ w H (Fits.putG ff htN htd hn hgd (.inr ⟨hyes, rfl⟩)) mm
end
end
section
def V.noR : V → Bool
  | .s (.k _) _ _ _ => true
  | .s _ _ _ _ => false
  | .rp (.k _) _ _ => true
  | .rp _ _ _ => false
  | _ => true
def V.noRo : V → Bool
  | .s .r _ _ _ => false
  | .rp _ _ _ => false
  | _ => true
def SV.noR : SV → Bool
  | .a x => x.noR
  | .ag l => allL V.noR l
  | .fn _ l => allL V.noR l
  | .tu l => go l
  | .un => true
  | .fb _ => false
where go : List SV → Bool
  | [] => true
  | x :: r => bif SV.noR x then go r else false
def Ch.noR : Ch → Bool
  | .row l => allL V.noRo l
  | .arr .. => true
  | .hole .. => true
  | _ => false
def muNoR : Mu → Bool
  | [] => true
  | (_, c) :: r => bif c.noR then muNoR r else false
theorem muNoR_get : ∀ {mu : Mu}, muNoR mu = true → ∀ k c, mlk k mu = some c → c.noR = true
  | [], _, _, _, h => by cases h
  | (j, d) :: r, h, k, c, e => by
    simp only [muNoR] at h
    cases hd : d.noR with
    | false => rw [hd] at h; cases h
    | true =>
      rw [hd] at h
      rw [mlk_cons] at e
      by_cases hj : j = k
      · rw [if_pos hj] at e; injection e with e; subst e; exact hd
      · rw [if_neg hj] at e; exact muNoR_get h k c e
section
variable {B : BE} {r s : PH} {H : Nat → PH}
theorem V.noR_rel : ∀ {x : V} {y : Value}, x.noR = true → x.rel B (Zf r H) y → x.rel B (Zf s H) y
  | .v _, _, _, e => e
  | .s (.k _) _ _ _, _, _, e => e
  | .g _, _, _, e => e
  | .p _ _, _, _, e => e
  | .pe _ _ _ _, _, _, e => e
  | .sb _ _ _ _, _, _, e => e
  | .gl _ _ _, _, _, e => e
  | .rp (.k _) _ _, _, _, e => e
  | .any, _, _, _ => trivial
theorem V.noR_rels : ∀ {l : List V} {y : List Value}, allL V.noR l = true → V.rels B (Zf r H) l y → V.rels B (Zf s H) l y
  | [], _, _, e => e
  | x :: l, y, h, e => by
    obtain ⟨h1, h2⟩ := allL_cons h
    obtain ⟨a, t, e1, e2, e3⟩ := e
    exact ⟨a, t, e1, V.noR_rel h1 e2, V.noR_rels h2 e3⟩
theorem V.noRo_own {h : PH} : ∀ {x : V} {y : Value}, x.noRo = true → x.own B r h y → x.own B s h y
  | .v _, _, _, e => e
  | .s .o _ _ _, _, _, e => by
    rcases e with e | ⟨e, _⟩
    · exact .inl e
    · cases e
  | .s (.k _) _ _ _, _, _, e => by rcases e with ⟨e, _⟩ | ⟨e, _⟩ <;> cases e
  | .g _, _, _, e => e
  | .p _ _, _, _, e => e
  | .pe _ _ _ _, _, _, e => e
  | .sb _ _ _ _, _, _, e => e
  | .gl _ _ _, _, _, e => e
  | .any, _, _, _ => trivial
theorem V.noRo_owns : ∀ {l : List V} {y : List Value} {h : PH}, allL V.noRo l = true → V.owns B r h l y → V.owns B s h l y
  | [], _, _, _, e => e
  | x :: l, y, _, h, e => by
    obtain ⟨h1, h2⟩ := allL_cons h
    obtain ⟨a, t, g1, g2, e1, e2, e3, e4, e5, e6⟩ := e
    exact ⟨a, t, g1, g2, e1, e2, e3, e4, V.noRo_own h1 e5, V.noRo_owns h2 e6⟩
mutual
theorem SV.noR_rel {P : Program} : ∀ (x : SV) {y : Value}, x.noR = true → SV.rel P B (Zf r H) x y → SV.rel P B (Zf s H) x y
  | .a x, _, h, e => V.noR_rel h e
  | .ag l, _, h, e => by obtain ⟨vs, e1, e2⟩ := e; exact ⟨vs, e1, V.noR_rels h e2⟩
  | .fn f l, _, h, e => by obtain ⟨vs, e1, e2⟩ := e; exact ⟨vs, e1, V.noR_rels h e2⟩
  | .tu l, _, h, e => by obtain ⟨vs, e1, e2⟩ := e; exact ⟨vs, e1, SV.noR_rels l h e2⟩
  | .un, _, _, e => e
  | .fb _, _, h, _ => by cases h
theorem SV.noR_rels {P : Program} : ∀ (l : List SV) {y : List Value}, SV.noR.go l = true → SV.rels P B (Zf r H) l y → SV.rels P B (Zf s H) l y
  | [], _, _, e => e
  | x :: l, y, h, e => by
    simp only [SV.noR.go] at h
    cases hx : x.noR with
    | false => rw [hx] at h; cases h
    | true =>
      rw [hx] at h
      obtain ⟨a, t, e1, e2, e3⟩ := e
      exact ⟨a, t, e1, SV.noR_rel x hx e2, SV.noR_rels l h e3⟩
end
theorem Ch.noR_sat {h : PH} {k : Nat} : ∀ {c : Ch}, c.noR = true → c.sat B r h k → c.sat B s h k
  | .row l, hc, ⟨b, o, vs, h', e1, e2, e3, e4⟩ => ⟨b, o, vs, h', e1, V.noRo_owns hc e2, e3, e4⟩
  | .arr .., _, e => e
  | .hole .., _, e => e
  | .ro .., h, _ => by cases h
  | .rrow _, h, _ => by cases h
theorem Ch.sat_monoR (l : r.le s) {h : PH} {k : Nat} : ∀ {c : Ch}, c.sat B r h k → c.sat B s h k
  | .row _, ⟨b, o, vs, h', e1, e2, e3, e4⟩ => ⟨b, o, vs, h', e1, V.owns_mono l (PH.le_refl _) e2, e3, e4⟩
  | .arr .., e => e
  | .hole .., e => e
  | .ro sz n f, e => D.rd_mono l (.sl sz n f) e
  | .rrow m, ⟨b, o, vs, e1, e2, e3⟩ => ⟨b, o, vs, e1, V.rels_mono (Zf_mono l fun _ => PH.le_refl _) e2, fun j hj => le_cell l (V.rels_length e2) hj (e3 j hj)⟩
end
theorem KQ_mono {P : Program} {R R' : Exit → Act → World → Prop} (h : ∀ e a w, R' e a w → R e a w) : ∀ {K : List KF} {e : Exit} {a : Act} {w : World}, KQ P R' K e a w → KQ P R K e a w
  | [], _, _, _, q => h _ _ _ q
  | .seq c :: K, e, a, w, q => by
    cases e with
    | normal => exact wp_mono (show c.wp P (KQ P R' K) a w from q) fun _ _ _ q => KQ_mono h q
    | exit id => exact KQ_mono (K := K) h (show KQ P R' K (.exit id) a w from q)
    | goto l => exact KQ_mono (K := K) h (show KQ P R' K (.goto l) a w from q)
    | ret => exact KQ_mono (K := K) h (show KQ P R' K .ret a w from q)
    | panic ch => exact KQ_mono (K := K) h (show KQ P R' K (.panic ch) a w from q)
    | outgrown => exact KQ_mono (K := K) h (show KQ P R' K .outgrown a w from q)
  | .blk id :: K, e, a, w, q => by
    cases e with
    | exit j =>
      simp only [KQ, Exit.inBlock] at q ⊢
      split
      · rename_i hj; rw [if_pos hj] at q; exact KQ_mono (K := K) h q
      · rename_i hj; rw [if_neg hj] at q; exact KQ_mono (K := K) h q
    | normal => exact KQ_mono (K := K) h q
    | goto l => exact KQ_mono (K := K) h q
    | ret => exact KQ_mono (K := K) h q
    | panic ch => exact KQ_mono (K := K) h q
    | outgrown => exact KQ_mono (K := K) h q
  | .loop I :: K, e, a, w, q => by
    cases e with
    | normal => exact q
    | exit id => exact KQ_mono (K := K) h (show KQ P R' K (.exit id) a w from q)
    | goto l => exact KQ_mono (K := K) h (show KQ P R' K (.goto l) a w from q)
    | ret => exact KQ_mono (K := K) h (show KQ P R' K .ret a w from q)
    | panic ch => exact KQ_mono (K := K) h (show KQ P R' K (.panic ch) a w from q)
    | outgrown => exact KQ_mono (K := K) h (show KQ P R' K .outgrown a w from q)
theorem bodyPost_mono {P : Program} {fn : Func} {R R' : Ending → World → Prop} (h : ∀ e w, R' e w → R e w) : ∀ e a w, bodyPost P fn R' e a w → bodyPost P fn R e a w := fun e a w q => by
  cases e with
  | ret =>
    simp only [bodyPost] at q ⊢
    obtain ⟨h1, v, h2, h3⟩ := q
    exact ⟨h1, v, h2, h _ _ h3⟩
  | _ => first | exact q | exact h _ _ q | (simp only [bodyPost] at q ⊢; first | exact q | exact h _ _ q | (obtain ⟨h1, h2⟩ := q; exact ⟨h1, h _ _ h2⟩) | (obtain ⟨h1, v, h2, h3⟩ := q; exact ⟨h1, v, h2, h _ _ h3⟩))
theorem RetP.noR {ι : Type} {E : Env} {r : PH} (hr : E.r.le r) {φ : ι → Prop} {res : ι → List SV} {mu' : ι → Mu} (h1 : ∀ y, SV.noR.go (res y) = true) (h2 : ∀ y, muNoR (mu' y) = true) {e : Ending} {w' : World} (q : RetP { E with r := r } φ res mu' e w') : RetP E φ res mu' e w' := by
  obtain ⟨y, B', H', out, q1, q2, q3, q4⟩ := q
  refine ⟨y, B', H', out, q1, q2, SV.noR_rels _ (h1 y) q3, ⟨⟨fun k c hc => Ch.noR_sat (muNoR_get (h2 y) k c hc) (q4.mm.sat k c hc), q4.mm.fit, q4.mm.dj, fun k => PH.dj_le (q4.mm.djr k) (PH.le_refl _) hr, q4.mm.fitr.le hr⟩, q4.keep, q4.dom, q4.anch⟩⟩
def zV (k : Nat) (m : List D) : SV → SV
  | .a (.p j o) => bif Nat.beq j k then .a (.rp .r m o) else .a (.p j o)
  | x => x
def frZ (k : Nat) (m : List D) : Fr → Fr
  | [] => []
  | (t, x) :: r => (t, zV k m x) :: frZ k m r
theorem mlk_frZ {k : Nat} {m : List D} (t : Nat) : ∀ fr : Fr, mlk t (frZ k m fr) = (mlk t fr).map (zV k m)
  | [] => rfl
  | (j, x) :: r => by
    simp only [frZ]
    rw [mlk_cons, mlk_cons]
    by_cases h : j = t
    · rw [if_pos h, if_pos h]; rfl
    · rw [if_neg h, if_neg h]; exact mlk_frZ t r
theorem owns_rdL {B : BE} {r : PH} {H : Nat → PH} : ∀ {l : List V} {m : List D}, rdL l = some m → ∀ {vs : List Value} {h : PH}, V.owns B r h l vs → V.rels B (Zf r H) l vs
  | [], _, _, _, _, e => e
  | x :: l, m, hm, vs, h, e => by
    obtain ⟨a, t, g1, g2, e1, e2, e3, e4, e5, e6⟩ := e
    simp only [rdL] at hm
    split at hm
    · rename_i y l' h1 h2
      refine ⟨a, t, e1, ?_, owns_rdL h2 e6⟩
      cases x with
      | v x => exact e5
      | s q sz n f =>
        cases q with
        | r => rcases e5 with ⟨c, _⟩ | ⟨_, e⟩
               · cases c
               · exact e
        | _ => simp [rdV] at h1
      | rp q l o =>
        cases q with
        | r => exact e5.2
        | _ => simp [rdV] at h1
      | _ => simp [rdV] at h1
    · cases hm
theorem T_freeze (k : Nat) {ι : Type} {E : Env} {fn : Func} {φ : ι → Prop} {res : ι → List SV} {mu1 : ι → Mu} {c : Code} {fr fr0 : Fr} {mu mu' : Mu} {K : List KF} {l : List V} {m : List D}
    (hk : mlk k mu = some (.row l)) (hm : rdL l = some m) (hmd : mdrop k mu = some mu') (hc : frCut (V.usesT k) fr = some fr0) (h1 : ∀ y, SV.noR.go (res y) = true) (h2 : ∀ y, muNoR (mu1 y) = true)
    (h : ∀ r', T { E with r := r' } (bodyPost E.P fn (RetP { E with r := r' } φ res mu1)) c (frZ k m fr0) mu' K) : T E (bodyPost E.P fn (RetP E φ res mu1)) c fr mu K := fun B a w H f me => by
  obtain ⟨b, off, vs, h', e1, e2, e3, e4⟩ := me.mm.sat k _ hk
  have hvl := V.owns_length e2
  have hdj : E.r.dj (H k) := PH.dj_symm (me.mm.djr k)
  have hr : E.r.le (E.r.un (H k)) := PH.le_un_left _ _
  have hkr : (H k).le (E.r.un (H k)) := PH.le_un_right hdj
  refine wp_mono (h (E.r.un (H k)) B a w (HF.set H k PH.emp) ?_ ?_) fun e a w q => KQ_mono (bodyPost_mono fun e w q => RetP.noR hr h1 h2 q) q
  · have f1 := FitsE.anew f (k := k) PH.emp hc (by rfl : gfCut (V.usesT k) [] = some [])
    rw [BE.set_self] at f1
    have hz : ∀ q, (Zf E.r (HF.set H k PH.emp) q).le (Zf (E.r.un (H k)) (HF.set H k PH.emp) q) := Zf_mono hr fun _ => PH.le_refl _
    refine ⟨f1.size, f1.defers, fun t x ex _ => ?_, fun _ _ _ _ h => (by cases h), fun _ _ _ _ h => (by cases h), fun _ _ _ _ h => (by cases h)⟩
    rw [mlk_frZ] at ex
    cases hx : mlk t fr0 with
    | none => rw [hx] at ex; cases ex
    | some x0 =>
      rw [hx] at ex
      simp only [Option.map_some, Option.some.injEq] at ex
      subst ex
      have g := SV.rel_mono hz x0 (f1.vfr t x0 hx rfl)
      unfold zV
      split
      · rename_i j o
        cases hj : Nat.beq j k with
        | false => exact g
        | true =>
          have hj := Nat.eq_of_beq_eq_true hj
          subst hj
          obtain ⟨g1, _⟩ := (show _ = addP (B j) o ∧ _ from g)
          simp only [cond_true]
          refine ⟨b, off, vs, ?_, D.rds_mono hr m (rdL_ok (Z := Zf E.r H) hm (owns_rdL hm e2)), fun i hi => ?_⟩
          · rw [g1, e1]; simp [addP, add_mk]
          · have hil : i < l.length := by omega
            exact le_cell hkr rfl hi (e4 i hil).1
      · exact g
  · refine ⟨⟨fun j cc hcc => ?_, fun j => ?_, fun i j hij => ?_, fun j => ?_, ?_⟩, me.keep, fun j b o hne => ?_, me.anch⟩
    · have hs := mdrop_spec hmd j
      by_cases hj : j = k
      · rw [if_pos hj] at hs; rw [hs] at hcc; cases hcc
      · rw [if_neg hj] at hs; rw [hs] at hcc
        rw [HF.set_ne _ _ hj]
        exact Ch.sat_monoR hr (me.mm.sat j cc hcc)
    · by_cases hj : j = k
      · subst hj; rw [HF.set_eq]; exact FitO.emp w
      · rw [HF.set_ne _ _ hj]; exact me.mm.fit j
    · by_cases hi : i = k
      · subst hi; rw [HF.set_eq]; exact PH.emp_dj _
      · rw [HF.set_ne _ _ hi]
        by_cases hj : j = k
        · subst hj; rw [HF.set_eq]; exact PH.dj_emp _
        · rw [HF.set_ne _ _ hj]; exact me.mm.dj i j hij
    · by_cases hj : j = k
      · subst hj; rw [HF.set_eq]; exact PH.emp_dj _
      · rw [HF.set_ne _ _ hj]; exact PH.dj_un (me.mm.djr j) (me.mm.dj j k hj)
    · exact me.mm.fitr.un (me.mm.fit k)
    · by_cases hj : j = k
      · subst hj; rw [HF.set_eq] at hne; exact absurd rfl hne
      · rw [HF.set_ne _ _ hj] at hne; exact me.dom j b o hne
end
section
def depth1 : Code → Nat
  | .seq a _ => depth1 a + 1
  | .block _ a => depth1 a + 1
  | _ => 1
theorem T_auto1 {E : Env} {TT : List TI} {fr : Fr} {mu : Mu} {K : List KF} {R : Exit → Act → World → Prop} (hT : TOk E.P TT) {c : Code} {js : JS} {es : List Prop} {gs : List GO} (h : auto TT E.N E.A.ks (depth1 c) c fr mu K [] [] = some (js, es, gs)) (k : js.ok E R) (he : PAlls es := by repeat (first | exact trivial | refine And.intro rfl ?_)) (ho : GAlls gs := by first | exact trivial | ((simp only [GAlls, GO.p, InR]; (repeat' (first | exact trivial | refine And.intro ?_ ?_ | refine fun _ => ?_)) <;> first | omega | (simp only [decide_eq_true_eq, decide_eq_false_iff_not, Int.toNat_natCast] at *; omega) | (simp at *; omega)))) : T E R c fr mu K :=
  (auto_ok hT _ _ _ _ _ _ _ _ _ _ h ⟨he, ho⟩).2 k
end
end Go.Proofs.YtcikaknfogpeeaaGreat
namespace Go.Proofs.YtcikaknfogpeeaaGreat
open Go Go.RowKit
set_option linter.unusedVariables false
set_option linter.unusedSimpArgs false
section
set_option maxRecDepth 4000
structure GSet where
  region : Int
  slot : Int
  value : Int
  used : Bool
  version : Int
def GSet.z : GSet := ⟨0, 0, 0, false, 0⟩
structure GNote where
  region : Int
  slot : Int
  version : Int
  value : Int
  used : Bool
def GNote.z : GNote := ⟨0, 0, 0, 0, false⟩
structure GCell where
  head : Int
  value : Int
def GCell.z : GCell := ⟨0, 0⟩
structure GOp where
  kind : Int
  id : Int
  a : Int
  b : Int
  c : Int
def GOp.z : GOp := ⟨0, 0, 0, 0, 0⟩
structure GTx where
  id : Int
  home : Int
  phase : Int
  done : Int
  reads : List GNote
  sets : List GSet
  stamp : Int
def GTx.z : GTx := ⟨0, 0, 0, 0, [], [], 0⟩
abbrev dI (x : Int) : D := .v (.int .i64 x)
abbrev dB (x : Bool) : D := .v (.bool x)
def cInt (n : Int) : List D := [dI n]
def cBool (n : Bool) : List D := [dB n]
def cSet (n : GSet) : List D := [dI n.region, dI n.slot, dI n.value, dB n.used, dI n.version]
def cNote (n : GNote) : List D := [dI n.region, dI n.slot, dI n.version, dI n.value, dB n.used]
def cCell (n : GCell) : List D := [dI n.head, dI n.value]
def cTx (t : GTx) : List D := [dI t.id, dI t.home, dI t.phase, dI t.done, dL 5 cNote GNote.z t.reads, dL 5 cSet GSet.z t.sets, dI t.stamp]
def inB (x lo hi : Int) : Bool := bif decide (x ≥ lo) then decide (x ≤ hi) else false
theorem inB_iff {x lo hi : Int} : inB x lo hi = true ↔ lo ≤ x ∧ x ≤ hi := by
  unfold inB
  by_cases h : x ≥ lo <;> simp [h]
theorem inB_not {x lo hi : Int} : inB x lo hi = false ↔ ¬ (lo ≤ x ∧ x ≤ hi) := by rw [← inB_iff]; simp
theorem spec_l1In_q (x lo hi : Int) : Ans Tryz.prog 106 [] [vI x, vI lo, vI hi] [] (vB (inB x lo hi)) := by
  refine con_enter Tryz.func106 rfl rfl rfl fun B0 r_ D_ w0 => ?_
  refine T_auto TT_ok rfl ?_
  exact T_ansB TT_ok [(6, none)] rfl rfl (rfl)
theorem impl_within_q (x lo hi : Int) : Ans Tryz.prog 72 [] [vI x, vI lo, vI hi] [] (vB (inB x lo hi)) := by
  refine con_enter Tryz.func72 rfl rfl rfl fun B0 r_ D_ w0 => ?_
  refine T_auto TT_ok rfl ?_
  exact T_ansB TT_ok [(6, none)] rfl rfl (rfl)
theorem spec_l1Id_q (x : Int) : Ans Tryz.prog 105 [] [vI x] [] (vB (inB x (1) 1000000)) := by
  refine con_enter Tryz.func105 rfl rfl rfl fun B0 r_ D_ w0 => ?_
  refine T_auto TT_ok rfl ?_
  refine RJ_Q TT_ok (spec_l1In_q _ _ _) rfl rfl rfl rfl rfl ?_
  exact T_ansB TT_ok [(2, none)] rfl rfl (rfl)
theorem spec_l1Machine_q (x : Int) : Ans Tryz.prog 177 [] [vI x] [] (vB (inB x (0) 7)) := by
  refine con_enter Tryz.func177 rfl rfl rfl fun B0 r_ D_ w0 => ?_
  refine T_auto TT_ok rfl ?_
  refine RJ_Q TT_ok (spec_l1In_q _ _ _) rfl rfl rfl rfl rfl ?_
  exact T_ansB TT_ok [(2, none)] rfl rfl (rfl)
theorem spec_l1Region_q (x : Int) : Ans Tryz.prog 179 [] [vI x] [] (vB (inB x (0) 5)) := by
  refine con_enter Tryz.func179 rfl rfl rfl fun B0 r_ D_ w0 => ?_
  refine T_auto TT_ok rfl ?_
  refine RJ_Q TT_ok (spec_l1In_q _ _ _) rfl rfl rfl rfl rfl ?_
  exact T_ansB TT_ok [(2, none)] rfl rfl (rfl)
theorem spec_l1Slot_q (x : Int) : Ans Tryz.prog 233 [] [vI x] [] (vB (inB x (0) 5)) := by
  refine con_enter Tryz.func233 rfl rfl rfl fun B0 r_ D_ w0 => ?_
  refine T_auto TT_ok rfl ?_
  refine RJ_Q TT_ok (spec_l1In_q _ _ _) rfl rfl rfl rfl rfl ?_
  exact T_ansB TT_ok [(2, none)] rfl rfl (rfl)
theorem spec_l1Value_q (x : Int) : Ans Tryz.prog 200 [] [vI x] [] (vB (inB x (-1000000000) 1000000000)) := by
  refine con_enter Tryz.func200 rfl rfl rfl fun B0 r_ D_ w0 => ?_
  refine T_auto TT_ok rfl ?_
  refine RJ_Q TT_ok (spec_l1In_q _ _ _) rfl rfl rfl rfl rfl ?_
  exact T_ansB TT_ok [(2, none)] rfl rfl (rfl)
theorem spec_l1Version_q (x : Int) : Ans Tryz.prog 234 [] [vI x] [] (vB (inB x (0) 1000000)) := by
  refine con_enter Tryz.func234 rfl rfl rfl fun B0 r_ D_ w0 => ?_
  refine T_auto TT_ok rfl ?_
  refine RJ_Q TT_ok (spec_l1In_q _ _ _) rfl rfl rfl rfl rfl ?_
  exact T_ansB TT_ok [(2, none)] rfl rfl (rfl)
theorem spec_HeadOk_q (x : Int) : Ans Tryz.prog 130 [] [vI x] [] (vB (inB x (0) 4000003)) := by
  refine con_enter Tryz.func130 rfl rfl rfl fun B0 r_ D_ w0 => ?_
  refine T_auto TT_ok rfl ?_
  refine RJ_Q TT_ok (spec_l1In_q _ _ _) rfl rfl rfl rfl rfl ?_
  exact T_ansB TT_ok [(2, none)] rfl rfl (rfl)
theorem impl_isId_q (x : Int) : Ans Tryz.prog 71 [] [vI x] [] (vB (inB x (1) 1000000)) := by
  refine con_enter Tryz.func71 rfl rfl rfl fun B0 r_ D_ w0 => ?_
  refine T_auto TT_ok rfl ?_
  refine RJ_Q TT_ok (impl_within_q _ _ _) rfl rfl rfl rfl rfl ?_
  exact T_ansB TT_ok [(2, none)] rfl rfl (rfl)
theorem impl_isMachine_q (x : Int) : Ans Tryz.prog 139 [] [vI x] [] (vB (inB x (0) 7)) := by
  refine con_enter Tryz.func139 rfl rfl rfl fun B0 r_ D_ w0 => ?_
  refine T_auto TT_ok rfl ?_
  refine RJ_Q TT_ok (impl_within_q _ _ _) rfl rfl rfl rfl rfl ?_
  exact T_ansB TT_ok [(2, none)] rfl rfl (rfl)
theorem impl_isRegion_q (x : Int) : Ans Tryz.prog 144 [] [vI x] [] (vB (inB x (0) 5)) := by
  refine con_enter Tryz.func144 rfl rfl rfl fun B0 r_ D_ w0 => ?_
  refine T_auto TT_ok rfl ?_
  refine RJ_Q TT_ok (impl_within_q _ _ _) rfl rfl rfl rfl rfl ?_
  exact T_ansB TT_ok [(2, none)] rfl rfl (rfl)
theorem impl_isSlot_q (x : Int) : Ans Tryz.prog 214 [] [vI x] [] (vB (inB x (0) 5)) := by
  refine con_enter Tryz.func214 rfl rfl rfl fun B0 r_ D_ w0 => ?_
  refine T_auto TT_ok rfl ?_
  refine RJ_Q TT_ok (impl_within_q _ _ _) rfl rfl rfl rfl rfl ?_
  exact T_ansB TT_ok [(2, none)] rfl rfl (rfl)
theorem impl_isValue_q (x : Int) : Ans Tryz.prog 213 [] [vI x] [] (vB (inB x (-1000000000) 1000000000)) := by
  refine con_enter Tryz.func213 rfl rfl rfl fun B0 r_ D_ w0 => ?_
  refine T_auto TT_ok rfl ?_
  refine RJ_Q TT_ok (impl_within_q _ _ _) rfl rfl rfl rfl rfl ?_
  exact T_ansB TT_ok [(2, none)] rfl rfl (rfl)
theorem impl_isHead_q (x : Int) : Ans Tryz.prog 212 [] [vI x] [] (vB (inB x (0) 4000003)) := by
  refine con_enter Tryz.func212 rfl rfl rfl fun B0 r_ D_ w0 => ?_
  refine T_auto TT_ok rfl ?_
  refine RJ_Q TT_ok (impl_within_q _ _ _) rfl rfl rfl rfl rfl ?_
  exact T_ansB TT_ok [(2, none)] rfl rfl (rfl)
def noteB (n : GNote) : Bool := bif (bif (bif inB n.region 0 5 then inB n.slot 0 5 else false) then inB n.version 0 1000000 else false) then inB n.value (-1000000000) 1000000000 else false
def setB (s : GSet) : Bool := bif (bif (bif inB s.region 0 5 then inB s.slot 0 5 else false) then inB s.value (-1000000000) 1000000000 else false) then inB s.version 0 999999 else false
theorem spec_l7Note_q (n : GNote) : Ans Tryz.prog 181 [] [vR (cNote n)] [] (vB (noteB n)) := by
  refine con_enter Tryz.func181 rfl rfl rfl fun B0 r_ D_ w0 => ?_
  refine T_auto TT_ok rfl ?_
  refine RJ_Q TT_ok (spec_l1Region_q _) rfl rfl rfl rfl rfl ?_
  refine RJ_Q TT_ok (spec_l1Slot_q _) rfl rfl rfl rfl rfl ?_
  refine RJ_Q TT_ok (spec_l1Version_q _) rfl rfl rfl rfl rfl ?_
  refine RJ_Q TT_ok (spec_l1Value_q _) rfl rfl rfl rfl rfl ?_
  exact T_ansB TT_ok [(2, none)] rfl rfl (rfl)
theorem impl_isNote_q (n : GNote) : Ans Tryz.prog 146 [] [vR (cNote n)] [] (vB (noteB n)) := by
  refine con_enter Tryz.func146 rfl rfl rfl fun B0 r_ D_ w0 => ?_
  refine T_auto TT_ok rfl ?_
  refine RJ_Q TT_ok (impl_isRegion_q _) rfl rfl rfl rfl rfl ?_
  refine RJ_Q TT_ok (impl_isSlot_q _) rfl rfl rfl rfl rfl ?_
  refine RJ_Q TT_ok (impl_within_q _ _ _) rfl rfl rfl rfl rfl ?_
  refine RJ_Q TT_ok (impl_isValue_q _) rfl rfl rfl rfl rfl ?_
  exact T_ansB TT_ok [(2, none)] rfl rfl (rfl)
theorem spec_SetOk_q (n : GSet) : Ans Tryz.prog 183 [] [vR (cSet n)] [] (vB (setB n)) := by
  refine con_enter Tryz.func183 rfl rfl rfl fun B0 r_ D_ w0 => ?_
  refine T_auto TT_ok rfl ?_
  refine RJ_Q TT_ok (spec_l1Region_q _) rfl rfl rfl rfl rfl ?_
  refine RJ_Q TT_ok (spec_l1Slot_q _) rfl rfl rfl rfl rfl ?_
  refine RJ_Q TT_ok (spec_l1Value_q _) rfl rfl rfl rfl rfl ?_
  refine RJ_Q TT_ok (spec_l1In_q _ _ _) rfl rfl rfl rfl rfl ?_
  exact T_ansB TT_ok [(2, none)] rfl rfl (rfl)
theorem impl_isSet_q (n : GSet) : Ans Tryz.prog 148 [] [vR (cSet n)] [] (vB (setB n)) := by
  refine con_enter Tryz.func148 rfl rfl rfl fun B0 r_ D_ w0 => ?_
  refine T_auto TT_ok rfl ?_
  refine RJ_Q TT_ok (impl_isRegion_q _) rfl rfl rfl rfl rfl ?_
  refine RJ_Q TT_ok (impl_isSlot_q _) rfl rfl rfl rfl rfl ?_
  refine RJ_Q TT_ok (impl_isValue_q _) rfl rfl rfl rfl rfl ?_
  refine RJ_Q TT_ok (impl_within_q _ _ _) rfl rfl rfl rfl rfl ?_
  exact T_ansB TT_ok [(2, none)] rfl rfl (rfl)
def lessB (r s q t : Int) : Bool := bif decide (r < q) then true else bif r == q then decide (s < t) else false
theorem lessB_iff {r s q t : Int} : lessB r s q t = true ↔ r < q ∨ r = q ∧ s < t := by
  unfold lessB
  by_cases h : r < q <;> by_cases h2 : r = q <;> simp [h, h2]
theorem spec_l7Less_q (a b c d : Int) : Ans Tryz.prog 182 [] [vI a, vI b, vI c, vI d] [] (vB (lessB a b c d)) := by
  refine con_enter Tryz.func182 rfl rfl rfl fun B0 r_ D_ w0 => ?_
  refine T_auto TT_ok rfl ?_
  exact T_ansB TT_ok [(8, none)] rfl rfl (rfl)
def ordI (a b : Int) : Int := if a < b then -1 else if a > b then 1 else 0
theorem isNaN_q (a : Int) : Ans Tryz.prog 237 [] [vI a] [] (vB false) := by
  refine con_enter Tryz.func237 rfl rfl rfl fun B0 r_ D_ w0 => ?_
  refine T_auto TT_ok rfl ?_
  exact T_ansB TT_ok [(2, none)] rfl rfl (by simp)
theorem compare_q (a b : Int) : Ans Tryz.prog 196 [] [vI a, vI b] [] (vI (ordI a b)) := by
  refine con_enter Tryz.func196 rfl rfl rfl fun B0 r_ D_ w0 => ?_
  refine T_auto TT_ok rfl ?_
  refine RJ_Q TT_ok (isNaN_q _) rfl rfl rfl rfl rfl ?_
  refine RJ_Q TT_ok (isNaN_q _) rfl rfl rfl rfl rfl ?_
  refine T_cond rfl (fun e => by cases e) (fun _ => ?_)
  refine T_auto TT_ok rfl ?_
  refine T_cond rfl (fun e => by cases e) (fun _ => ?_)
  refine T_auto TT_ok rfl ?_
  refine T_condD rfl (fun e => ?_) (fun e => ?_)
  · refine T_auto TT_ok rfl ?_
    exact T_ansI TT_ok [(4, none)] rfl rfl (by rw [ordI, if_pos e])
  refine T_auto TT_ok rfl ?_
  refine T_condD rfl (fun e2 => ?_) (fun e2 => ?_)
  · refine T_auto TT_ok rfl ?_
    exact T_ansI TT_ok [(4, none)] rfl rfl (by rw [ordI, if_neg e, if_pos e2])
  refine T_auto TT_ok rfl ?_
  exact T_ansI TT_ok [(4, none)] rfl rfl (by rw [ordI, if_neg e, if_neg e2])
def orL : List Int → Int
  | [] => 0
  | x :: r => if x ≠ 0 then x else orL r
theorem orL_at : ∀ {xs : List Int} {i : Nat}, i < xs.length → (∀ j, j < i → xs.getD j 0 = 0) → xs.getD i 0 ≠ 0 → orL xs = xs.getD i 0
  | x :: r, 0, _, _, h => by simp at h; simp [orL, h]
  | x :: r, i + 1, hi, h0, h => by
    have hx : x = 0 := by simpa using h0 0 (by omega)
    simp only [orL, hx]
    simp only [ne_eq, not_true_eq_false, if_false]
    rw [orL_at (by simpa using hi) (fun j hj => by simpa using h0 (j + 1) (by omega)) (by simpa using h)]
    simp
theorem orL_no : ∀ {xs : List Int}, (∀ j, j < xs.length → xs.getD j 0 = 0) → orL xs = 0
  | [], _ => rfl
  | x :: r, h => by
    have hx : x = 0 := by simpa using h 0 (by simp)
    simp only [orL, hx, ne_eq, not_true_eq_false, if_false]
    exact orL_no fun j hj => by simpa using h (j + 1) (by simpa using hj)
theorem before_succ {P : Nat → Prop} {i : Nat} (h : ∀ j, j < i → P j) (k : P i) : ∀ j, j < i + 1 → P j := fun j hj => by
  by_cases e : j = i
  · subst e; exact k
  · exact h j (by omega)
theorem cmpOr_q (xs : List Int) (hl : xs.length ≤ maxL) : Ans Tryz.prog 215 [] [vL 1 cInt 0 xs] [] (vI (orL xs)) := by
  unfold maxL at hl
  refine con_enter Tryz.func215 rfl rfl rfl fun B0 r_ D_ w0 => ?_
  refine T_auto TT_ok rfl ?_
  refine T_loopA (ι := Nat) (fun i => [(8, vI i)]) (fun _ => []) (fun i => i ≤ xs.length ∧ ∀ j, j < i → xs.getD j 0 = 0) (fun i => xs.length - i) 0 [] [] rfl rfl ⟨Nat.zero_le _, fun j hj => absurd hj (Nat.not_lt_zero _)⟩ (by repeat (first | exact trivial | refine And.intro ⟨_, rfl, SV.imp_refl _⟩ ?_)) (by repeat (first | exact trivial | refine And.intro ⟨_, rfl, Ch.imp_refl _⟩ ?_)) ?_
  intro i ⟨h1, h2⟩
  refine T_auto TT_ok rfl ?_
  refine T_condD rfl (fun e => ?_) (fun e => ?_)
  · refine T_auto TT_ok rfl ?_
    refine T_condN rfl (fun e2 => ?_) (fun e2 => ?_)
    · refine T_auto TT_ok rfl ?_
      exact T_ansI TT_ok [(2, none)] rfl rfl ((orL_at (by omega) h2 (by simpa using e2)).symm)
    · refine T_auto TT_ok rfl ?_
      exact X_inv (i + 1) ⟨by omega, before_succ h2 (by simpa using e2)⟩ (by omega) (by repeat (first | exact trivial | refine And.intro ⟨_, rfl, SV.imp_refl _⟩ ?_)) (by repeat (first | exact trivial | refine And.intro ⟨_, rfl, Ch.imp_refl _⟩ ?_))
  · refine T_auto TT_ok rfl ?_
    exact T_ansI TT_ok [(2, none)] rfl rfl ((orL_no fun j hj => h2 j (by omega)).symm)
def cmpC (r s q t : Int) : Int := orL [ordI r q, ordI s t]
theorem cmpC_less {r s q t : Int} : decide (cmpC r s q t < 0) = lessB r s q t := by
  unfold cmpC lessB orL orL ordI
  by_cases h : r < q
  · simp [h]
  · by_cases h2 : r = q
    · subst h2; by_cases h3 : s < t <;> by_cases h4 : s > t <;> simp [h3, h4, orL]
    · have : r > q := by omega
      simp [h, h2, this, orL]
theorem cmpC_ge {r s q t : Int} : decide (cmpC r s q t ≥ 0) = !lessB r s q t := by
  rw [← cmpC_less]
  by_cases h : cmpC r s q t < 0
  · rw [decide_eq_true h, decide_eq_false (by omega)]; rfl
  · rw [decide_eq_false h, decide_eq_true (by omega)]; rfl
theorem compareCells_q (a b c d : Int) : Ans Tryz.prog 147 [] [vI a, vI b, vI c, vI d] [] (vI (cmpC a b c d)) := by
  refine con_enter Tryz.func147 rfl rfl rfl fun B0 r_ D_ w0 => ?_
  refine T_auto TT_ok rfl ?_
  refine RJ_Q TT_ok (compare_q _ _) rfl rfl rfl rfl rfl ?_
  refine RJ_Q TT_ok (compare_q _ _) rfl rfl rfl rfl rfl ?_
  refine RJ_bs TT_ok 900 (fun i => cInt ([ordI a c, ordI b d].getD i 0)) rfl rfl rfl rfl rfl rfl rfl (fun i hi => by rcases i with _ | _ | i <;> first | rfl | omega) (mu1 := []) rfl rfl rfl ?_
  refine RJ_auto TT_ok rfl ?_
  refine RJ_Q TT_ok (cmpOr_q [ordI a c, ordI b d] (Nat.le_of_ble_eq_true rfl)) rfl rfl rfl rfl rfl ?_
  exact T_ansI TT_ok [(8, none)] rfl rfl (rfl)
end
section
set_option maxRecDepth 4000
open Classical in
noncomputable def dec (p : Prop) : Bool := if p then true else false
theorem dec_true {p : Prop} (h : p) : dec p = true := by simp [dec, h]
theorem dec_false {p : Prop} (h : ¬ p) : dec p = false := by simp [dec, h]
theorem dec_iff {p : Prop} : dec p = true ↔ p := by simp [dec]
theorem dec_not {p : Prop} : dec p = false ↔ ¬ p := by simp [dec]
def lessN (a b : GNote) : Prop := a.region < b.region ∨ a.region = b.region ∧ a.slot < b.slot
def lessS (a b : GSet) : Prop := a.region < b.region ∨ a.region = b.region ∧ a.slot < b.slot
def readsOk (xs : List GNote) (n : Nat) : Prop := ∀ j, j < n → noteB (xs.getD j GNote.z) = true ∧ (0 < j → lessN (xs.getD (j - 1) GNote.z) (xs.getD j GNote.z))
def setsOk (xs : List GSet) (n : Nat) : Prop := ∀ j, j < n → setB (xs.getD j GSet.z) = true ∧ (0 < j → lessS (xs.getD (j - 1) GSet.z) (xs.getD j GSet.z))
def headOk (t : GTx) : Prop := (1 ≤ t.id ∧ t.id ≤ 1000000) ∧ (0 ≤ t.home ∧ t.home ≤ 7) ∧ (1 ≤ t.phase ∧ t.phase ≤ 9) ∧ (0 ≤ t.done ∧ t.done ≤ 1000) ∧ (0 ≤ t.stamp ∧ t.stamp ≤ 1000000) ∧ t.reads.length ≤ 12 ∧ t.sets.length ≤ 12
def TxOk (t : GTx) : Prop := headOk t ∧ readsOk t.reads t.reads.length ∧ setsOk t.sets t.sets.length
theorem readsOk.succ {xs : List GNote} {i : Nat} (h : readsOk xs i) (h1 : noteB (xs.getD i GNote.z) = true) (h2 : 0 < i → lessN (xs.getD (i - 1) GNote.z) (xs.getD i GNote.z)) : readsOk xs (i + 1) := fun j hj => by
  rcases Nat.lt_succ_iff_lt_or_eq.1 hj with h3 | h3
  · exact h j h3
  · subst h3; exact ⟨h1, h2⟩
theorem setsOk.succ {xs : List GSet} {i : Nat} (h : setsOk xs i) (h1 : setB (xs.getD i GSet.z) = true) (h2 : 0 < i → lessS (xs.getD (i - 1) GSet.z) (xs.getD i GSet.z)) : setsOk xs (i + 1) := fun j hj => by
  rcases Nat.lt_succ_iff_lt_or_eq.1 hj with h3 | h3
  · exact h j h3
  · subst h3; exact ⟨h1, h2⟩
theorem toNat_pred {i : Nat} (h : 0 < i) : ((i : Int) - 1).toNat = i - 1 := by omega
theorem spec_TxOk_q (t : GTx) : Ans Tryz.prog 109 [] [vR (cTx t)] [] (vB (dec (TxOk t))) := by
  refine con_enter Tryz.func109 rfl rfl rfl fun B0 r_ D_ w0 => ?_
  refine T_auto TT_ok rfl ?_
  refine RJ_Q TT_ok (spec_l1Id_q _) rfl rfl rfl rfl rfl ?_
  refine RJ_Q TT_ok (spec_l1Machine_q _) rfl rfl rfl rfl rfl ?_
  refine RJ_Q TT_ok (spec_l1In_q _ _ _) rfl rfl rfl rfl rfl ?_
  refine RJ_Q TT_ok (spec_l1In_q _ _ _) rfl rfl rfl rfl rfl ?_
  refine RJ_Q TT_ok (spec_l1In_q _ _ _) rfl rfl rfl rfl rfl ?_
  refine T_cond rfl (fun e => ?_) (fun e => ?_)
  · refine T_auto TT_ok rfl ?_
    refine (?_ : ¬ TxOk t → _) ?_
    · intro hf
      exact T_ansB TT_ok [(2, none)] rfl rfl ((dec_false hf).symm)
    intro h
    obtain ⟨⟨h1, h2, h3, h4, h5, h6, h7⟩, _⟩ := h
    simp only [inB_iff.2 h1, inB_iff.2 h2, inB_iff.2 h3, inB_iff.2 h4, inB_iff.2 h5] at e
    simp at e
    omega
  have hH : headOk t := by
    simp only [Bool.cond_true_left, Bool.or_eq_false_iff, Bool.not_eq_false', inB_iff, decide_eq_false_iff_not] at e
    unfold headOk
    omega
  clear e
  have hr1 : t.reads.length ≤ 12 := hH.2.2.2.2.2.1
  have hr2 : t.sets.length ≤ 12 := hH.2.2.2.2.2.2
  refine T_auto TT_ok rfl ?_
  refine T_loopA (ι := Nat) (fun i => [(3, vI i)]) (fun _ => []) (fun i => i ≤ t.reads.length ∧ readsOk t.reads i) (fun i => t.reads.length - i) 0 [] [] rfl rfl ⟨Nat.zero_le _, fun j hj => absurd hj (Nat.not_lt_zero _)⟩ (by repeat (first | exact trivial | refine And.intro ⟨_, rfl, SV.imp_refl _⟩ ?_)) (by repeat (first | exact trivial | refine And.intro ⟨_, rfl, Ch.imp_refl _⟩ ?_)) ?_
  intro i ⟨h1, h2⟩
  refine T_auto TT_ok rfl ?_
  refine T_condD rfl (fun e => ?_) (fun e => ?_)
  · have hi : i < t.reads.length := by omega
    refine T_auto TT_ok rfl ?_
    refine T_drawA TT_ok [] rfl rfl fun B0 H0 => ?_
    refine DJ_Q TT_ok (spec_l7Note_q _) rfl rfl rfl rfl rfl rfl ?_
    refine DJ_Q TT_ok (spec_l7Less_q _ _ _ _) rfl rfl rfl rfl rfl rfl ?_
    refine DJ_endA TT_ok rfl ?_
    refine T_cond rfl (fun e1 => ?_) (fun e1 => ?_) <;> simp only [Int.toNat_natCast] at e1
    · refine T_auto TT_ok rfl ?_
      refine (?_ : ¬ TxOk t → _) ?_
      · intro hf
        exact T_ansB TT_ok [(2, none)] rfl rfl ((dec_false hf).symm)
      intro h
      obtain ⟨g1, g2⟩ := h.2.1 i hi
      simp only [g1] at e1
      by_cases hp : 0 < i
      · rw [toNat_pred hp, lessB_iff.2 (g2 hp)] at e1
        simp at e1
      · simp [show i = 0 from by omega] at e1
    · have g1 : noteB (t.reads.getD i GNote.z) = true := by
        cases hb : noteB (t.reads.getD i GNote.z) with
        | true => rfl
        | false => rw [hb] at e1; simp at e1
      have g2 : 0 < i → lessN (t.reads.getD (i - 1) GNote.z) (t.reads.getD i GNote.z) := fun hp => by
        rw [toNat_pred hp] at e1
        simp only [g1] at e1
        refine lessB_iff.1 ?_
        simpa [hp] using e1
      refine T_auto TT_ok rfl ?_
      exact X_inv (i + 1) ⟨hi, readsOk.succ h2 g1 g2⟩ (by omega) (by repeat (first | exact trivial | refine And.intro ⟨_, rfl, SV.imp_refl _⟩ ?_)) (by repeat (first | exact trivial | refine And.intro ⟨_, rfl, Ch.imp_refl _⟩ ?_))
  have hi : i = t.reads.length := by omega
  subst hi
  have h3 : readsOk t.reads t.reads.length := h2
  clear h2 h1 e
  refine T_auto TT_ok rfl ?_
  refine T_loopA (ι := Nat) (fun i => [(5, vI i)]) (fun _ => []) (fun i => i ≤ t.sets.length ∧ setsOk t.sets i) (fun i => t.sets.length - i) 0 [] [] rfl rfl ⟨Nat.zero_le _, fun j hj => absurd hj (Nat.not_lt_zero _)⟩ (by repeat (first | exact trivial | refine And.intro ⟨_, rfl, SV.imp_refl _⟩ ?_)) (by repeat (first | exact trivial | refine And.intro ⟨_, rfl, Ch.imp_refl _⟩ ?_)) ?_
  intro i ⟨h1, h4⟩
  refine T_auto TT_ok rfl ?_
  refine T_condD rfl (fun e => ?_) (fun e => ?_)
  · have hi : i < t.sets.length := by omega
    refine T_auto TT_ok rfl ?_
    refine T_drawA TT_ok [] rfl rfl fun B0 H0 => ?_
    refine DJ_Q TT_ok (spec_SetOk_q _) rfl rfl rfl rfl rfl rfl ?_
    refine DJ_Q TT_ok (spec_l7Less_q _ _ _ _) rfl rfl rfl rfl rfl rfl ?_
    refine DJ_endA TT_ok rfl ?_
    refine T_cond rfl (fun e1 => ?_) (fun e1 => ?_) <;> simp only [Int.toNat_natCast] at e1
    · refine T_auto TT_ok rfl ?_
      refine (?_ : ¬ TxOk t → _) ?_
      · intro hf
        exact T_ansB TT_ok [(2, none)] rfl rfl ((dec_false hf).symm)
      intro h
      obtain ⟨g1, g2⟩ := h.2.2 i hi
      simp only [g1] at e1
      by_cases hp : 0 < i
      · rw [toNat_pred hp, lessB_iff.2 (g2 hp)] at e1
        simp at e1
      · simp [show i = 0 from by omega] at e1
    · have g1 : setB (t.sets.getD i GSet.z) = true := by
        cases hb : setB (t.sets.getD i GSet.z) with
        | true => rfl
        | false => rw [hb] at e1; simp at e1
      have g2 : 0 < i → lessS (t.sets.getD (i - 1) GSet.z) (t.sets.getD i GSet.z) := fun hp => by
        rw [toNat_pred hp] at e1
        simp only [g1] at e1
        refine lessB_iff.1 ?_
        simpa [hp] using e1
      refine T_auto TT_ok rfl ?_
      exact X_inv (i + 1) ⟨hi, setsOk.succ h4 g1 g2⟩ (by omega) (by repeat (first | exact trivial | refine And.intro ⟨_, rfl, SV.imp_refl _⟩ ?_)) (by repeat (first | exact trivial | refine And.intro ⟨_, rfl, Ch.imp_refl _⟩ ?_))
  have hi : i = t.sets.length := by omega
  subst hi
  have h5 : setsOk t.sets t.sets.length := h4
  clear h4 h1 e
  refine T_auto TT_ok rfl ?_
  exact T_ansB TT_ok [(2, none)] rfl rfl ((dec_true ⟨hH, h3, h5⟩).symm)
theorem impl_isTx_q (t : GTx) : Ans Tryz.prog 79 [] [vR (cTx t)] [] (vB (dec (TxOk t))) := by
  refine con_enter Tryz.func79 rfl rfl rfl fun B0 r_ D_ w0 => ?_
  refine T_auto TT_ok rfl ?_
  refine RJ_Q TT_ok (impl_isId_q _) rfl rfl rfl rfl rfl ?_
  refine RJ_Q TT_ok (impl_isMachine_q _) rfl rfl rfl rfl rfl ?_
  refine RJ_Q TT_ok (impl_within_q _ _ _) rfl rfl rfl rfl rfl ?_
  refine RJ_Q TT_ok (impl_within_q _ _ _) rfl rfl rfl rfl rfl ?_
  refine RJ_Q TT_ok (impl_within_q _ _ _) rfl rfl rfl rfl rfl ?_
  refine T_cond rfl (fun e => ?_) (fun e => ?_)
  · refine T_auto TT_ok rfl ?_
    refine (?_ : ¬ TxOk t → _) ?_
    · intro hf
      exact T_ansB TT_ok [(2, none)] rfl rfl ((dec_false hf).symm)
    intro h
    obtain ⟨⟨h1, h2, h3, h4, h5, h6, h7⟩, _⟩ := h
    simp only [inB_iff.2 h1, inB_iff.2 h2, inB_iff.2 h3, inB_iff.2 h4, inB_iff.2 h5] at e
    simp at e
    omega
  have hH : headOk t := by
    simp only [Bool.cond_true_left, Bool.or_eq_false_iff, Bool.not_eq_false', inB_iff, decide_eq_false_iff_not] at e
    unfold headOk
    omega
  clear e
  have hr1 : t.reads.length ≤ 12 := hH.2.2.2.2.2.1
  have hr2 : t.sets.length ≤ 12 := hH.2.2.2.2.2.2
  refine T_auto TT_ok rfl ?_
  refine T_loopA (ι := Nat) (fun i => [(50, vI i)]) (fun _ => []) (fun i => i ≤ t.reads.length ∧ readsOk t.reads i) (fun i => t.reads.length - i) 0 [] [] rfl rfl ⟨Nat.zero_le _, fun j hj => absurd hj (Nat.not_lt_zero _)⟩ (by repeat (first | exact trivial | refine And.intro ⟨_, rfl, SV.imp_refl _⟩ ?_)) (by repeat (first | exact trivial | refine And.intro ⟨_, rfl, Ch.imp_refl _⟩ ?_)) ?_
  intro i ⟨h1, h2⟩
  refine T_auto TT_ok rfl ?_
  refine T_condD rfl (fun e => ?_) (fun e => ?_)
  · have hi : i < t.reads.length := by omega
    refine T_auto TT_ok rfl ?_
    refine T_drawA TT_ok [] rfl rfl fun B0 H0 => ?_
    refine DJ_Q TT_ok (impl_isNote_q _) rfl rfl rfl rfl rfl rfl ?_
    refine DJ_Q TT_ok (compareCells_q _ _ _ _) rfl rfl rfl rfl rfl rfl ?_
    refine DJ_endA TT_ok rfl ?_
    refine T_cond rfl (fun e1 => ?_) (fun e1 => ?_) <;> simp only [Int.toNat_natCast] at e1
    · refine T_auto TT_ok rfl ?_
      refine (?_ : ¬ TxOk t → _) ?_
      · intro hf
        exact T_ansB TT_ok [(2, none)] rfl rfl ((dec_false hf).symm)
      intro h
      obtain ⟨g1, g2⟩ := h.2.1 i hi
      simp only [cmpC_ge, g1] at e1
      by_cases hp : 0 < i
      · rw [toNat_pred hp, lessB_iff.2 (g2 hp)] at e1
        simp at e1
      · simp [show i = 0 from by omega] at e1
    · have g1 : noteB (t.reads.getD i GNote.z) = true := by
        cases hb : noteB (t.reads.getD i GNote.z) with
        | true => rfl
        | false => rw [hb] at e1; simp at e1
      have g2 : 0 < i → lessN (t.reads.getD (i - 1) GNote.z) (t.reads.getD i GNote.z) := fun hp => by
        rw [toNat_pred hp] at e1
        simp only [cmpC_ge, g1] at e1
        refine lessB_iff.1 ?_
        simpa [hp] using e1
      refine T_auto TT_ok rfl ?_
      exact X_inv (i + 1) ⟨hi, readsOk.succ h2 g1 g2⟩ (by omega) (by repeat (first | exact trivial | refine And.intro ⟨_, rfl, SV.imp_refl _⟩ ?_)) (by repeat (first | exact trivial | refine And.intro ⟨_, rfl, Ch.imp_refl _⟩ ?_))
  have hi : i = t.reads.length := by omega
  subst hi
  have h3 : readsOk t.reads t.reads.length := h2
  clear h2 h1 e
  refine T_auto TT_ok rfl ?_
  refine T_loopA (ι := Nat) (fun i => [(88, vI i)]) (fun _ => []) (fun i => i ≤ t.sets.length ∧ setsOk t.sets i) (fun i => t.sets.length - i) 0 [] [] rfl rfl ⟨Nat.zero_le _, fun j hj => absurd hj (Nat.not_lt_zero _)⟩ (by repeat (first | exact trivial | refine And.intro ⟨_, rfl, SV.imp_refl _⟩ ?_)) (by repeat (first | exact trivial | refine And.intro ⟨_, rfl, Ch.imp_refl _⟩ ?_)) ?_
  intro i ⟨h1, h4⟩
  refine T_auto TT_ok rfl ?_
  refine T_condD rfl (fun e => ?_) (fun e => ?_)
  · have hi : i < t.sets.length := by omega
    refine T_auto TT_ok rfl ?_
    refine T_drawA TT_ok [] rfl rfl fun B0 H0 => ?_
    refine DJ_Q TT_ok (impl_isSet_q _) rfl rfl rfl rfl rfl rfl ?_
    refine DJ_Q TT_ok (compareCells_q _ _ _ _) rfl rfl rfl rfl rfl rfl ?_
    refine DJ_endA TT_ok rfl ?_
    refine T_cond rfl (fun e1 => ?_) (fun e1 => ?_) <;> simp only [Int.toNat_natCast] at e1
    · refine T_auto TT_ok rfl ?_
      refine (?_ : ¬ TxOk t → _) ?_
      · intro hf
        exact T_ansB TT_ok [(2, none)] rfl rfl ((dec_false hf).symm)
      intro h
      obtain ⟨g1, g2⟩ := h.2.2 i hi
      simp only [cmpC_ge, g1] at e1
      by_cases hp : 0 < i
      · rw [toNat_pred hp, lessB_iff.2 (g2 hp)] at e1
        simp at e1
      · simp [show i = 0 from by omega] at e1
    · have g1 : setB (t.sets.getD i GSet.z) = true := by
        cases hb : setB (t.sets.getD i GSet.z) with
        | true => rfl
        | false => rw [hb] at e1; simp at e1
      have g2 : 0 < i → lessS (t.sets.getD (i - 1) GSet.z) (t.sets.getD i GSet.z) := fun hp => by
        rw [toNat_pred hp] at e1
        simp only [cmpC_ge, g1] at e1
        refine lessB_iff.1 ?_
        simpa [hp] using e1
      refine T_auto TT_ok rfl ?_
      exact X_inv (i + 1) ⟨hi, setsOk.succ h4 g1 g2⟩ (by omega) (by repeat (first | exact trivial | refine And.intro ⟨_, rfl, SV.imp_refl _⟩ ?_)) (by repeat (first | exact trivial | refine And.intro ⟨_, rfl, Ch.imp_refl _⟩ ?_))
  have hi : i = t.sets.length := by omega
  subst hi
  have h5 : setsOk t.sets t.sets.length := h4
  clear h4 h1 e
  refine T_auto TT_ok rfl ?_
  exact T_ansB TT_ok [(2, none)] rfl rfl ((dec_true ⟨hH, h3, h5⟩).symm)
end
end Go.Proofs.YtcikaknfogpeeaaGreat
namespace Go.Proofs.YtcikaknfogpeeaaGreat
open Go Go.RowKit
set_option linter.unusedVariables false
set_option linter.unusedSimpArgs false
section
set_option maxRecDepth 4000
theorem toSet_q (a : GSet) : Ans Tryz.prog 205 [] [vR (cSet a)] [] (vR (cSet a)) := by
  refine con_enter Tryz.func205 rfl rfl rfl fun B0 r_ D_ w0 => ?_
  refine T_auto TT_ok rfl ?_
  exact T_ans TT_ok [(2, some 132)] rfl rfl (rfl)
theorem eqSet_q (a : GSet) : Ans Tryz.prog 232 [] [vR (cSet a), vR (cSet a)] [] (vB true) := by
  refine con_enter Tryz.func232 rfl rfl rfl fun B0 r_ D_ w0 => ?_
  refine T_auto TT_ok rfl ?_
  refine T_condN rfl (fun e => absurd rfl e) (fun _ => ?_)
  refine T_auto TT_ok rfl ?_
  refine T_condN rfl (fun e => absurd rfl e) (fun _ => ?_)
  refine T_auto TT_ok rfl ?_
  refine T_condN rfl (fun e => absurd rfl e) (fun _ => ?_)
  refine T_auto TT_ok rfl ?_
  refine T_condX rfl (fun e => by simp at e) (fun _ => ?_)
  refine T_auto TT_ok rfl ?_
  refine T_condN rfl (fun e => absurd rfl e) (fun _ => ?_)
  refine T_auto TT_ok rfl ?_
  exact T_ansB TT_ok [(4, none)] rfl rfl (rfl)
theorem toSetS_m (xs : List GSet) (hl : xs.length ≤ 1048576) : MkL Tryz.prog 137 [vL 5 cSet GSet.z xs] 5 cSet GSet.z xs := by
  refine con_enter Tryz.func137 rfl rfl rfl fun B0 r_ D_ w0 => ?_
  refine T_auto TT_ok rfl ?_
  refine RJ_make TT_ok 7 xs.length rfl rfl rfl rfl rfl rfl rfl ⟨by simp; omega, by unfold maxL; omega⟩ ?_
  refine RJ_auto TT_ok rfl ?_
  refine T_loopA (ι := Nat) (fun i => [(4, vI i)]) (fun i => [(7, .arr 5 xs.length fun k => cSet (if k < i then xs.getD k GSet.z else GSet.z))]) (fun i => i ≤ xs.length) (fun i => xs.length - i) 0 [7] [] rfl rfl (Nat.zero_le _) (by repeat (first | exact trivial | refine And.intro ⟨_, rfl, SV.imp_refl _⟩ ?_)) ⟨⟨_, rfl, Ch.imp_arr fun k hk => by rw [if_neg (Nat.not_lt_zero _)]; rfl⟩, trivial⟩ ?_
  intro i h1
  refine T_auto TT_ok rfl ?_
  refine T_condD rfl (fun e => ?_) (fun e => ?_)
  · have hi : i < xs.length := by omega
    refine T_auto TT_ok rfl ?_
    refine RJ_Q TT_ok (toSet_q _) rfl rfl rfl rfl rfl ?_
    exact X_inv (i + 1) hi (by omega) (by repeat (first | exact trivial | refine And.intro ⟨_, rfl, SV.imp_refl _⟩ ?_)) ⟨⟨_, rfl, Ch.imp_arr fun k hk => fill_step (fun x => cSet x) rfl⟩, (by repeat (first | exact trivial | refine And.intro ⟨_, rfl, Ch.imp_refl _⟩ ?_))⟩
  · have hi : i = xs.length := by omega
    subst hi
    refine T_auto TT_ok rfl ?_
    refine T_view (V_sw 7 900) ?_
    refine T_ret TT_ok (()) [(2, none)] rfl rfl ?_ ?_ ?_
    · exact SVs.imp_refl _
    · exact ⟨⟨_, rfl, Ch.imp_arr fun k hk => by rw [if_pos hk]⟩, trivial⟩
    · trivial
theorem szSetS_q (xs : List GSet) (hx : xs.length ≤ maxL) (l : Int) (h1 : 0 ≤ l) (h2 : l ≤ 1048576) : Ans Tryz.prog 125 [] [vL 5 cSet GSet.z xs, vI l] [] (vI (szI l xs.length)) := by
  unfold maxL at hx
  refine con_enter Tryz.func125 rfl rfl rfl fun B0 r_ D_ w0 => ?_
  refine T_auto TT_ok rfl ?_
  refine T_condD rfl (fun e => ?_) (fun e => ?_)
  · refine T_auto TT_ok rfl ?_
    exact T_ansI TT_ok [(4, none)] rfl rfl (by rw [szI, if_pos e])
  · refine T_auto TT_ok rfl ?_
    exact T_ansI TT_ok [(4, none)] rfl rfl (by rw [szI, if_neg e])
theorem eqSetS_q (xs : List GSet) (hl : xs.length ≤ 1048576) : Ans Tryz.prog 174 [] [vL 5 cSet GSet.z xs, vL 5 cSet GSet.z xs] [] (vB true) := by
  refine con_enter Tryz.func174 rfl rfl rfl fun B0 r_ D_ w0 => ?_
  refine T_auto TT_ok rfl ?_
  refine T_condN rfl (fun e => absurd rfl e) (fun _ => ?_)
  refine T_auto TT_ok rfl ?_
  refine T_loopA (ι := Nat) (fun i => [(5, vI i)]) (fun _ => []) (fun i => i ≤ xs.length) (fun i => xs.length - i) 0 [] [] rfl rfl (Nat.zero_le _) (by repeat (first | exact trivial | refine And.intro ⟨_, rfl, SV.imp_refl _⟩ ?_)) (by repeat (first | exact trivial | refine And.intro ⟨_, rfl, Ch.imp_refl _⟩ ?_)) ?_
  intro i h1
  refine T_auto TT_ok rfl ?_
  refine T_condD rfl (fun e => ?_) (fun e => ?_)
  · have hi : i < xs.length := by omega
    refine T_auto TT_ok rfl ?_
    refine T_drawA TT_ok [] rfl rfl fun B0 H0 => ?_
    refine DJ_Q TT_ok (eqSet_q _) rfl rfl rfl rfl rfl rfl ?_
    refine DJ_endA TT_ok rfl ?_
    refine T_cond rfl (fun e => by cases e) (fun _ => ?_)
    refine T_auto TT_ok rfl ?_
    exact X_inv (i + 1) hi (by omega) (by repeat (first | exact trivial | refine And.intro ⟨_, rfl, SV.imp_refl _⟩ ?_)) (by repeat (first | exact trivial | refine And.intro ⟨_, rfl, Ch.imp_refl _⟩ ?_))
  · refine T_auto TT_ok rfl ?_
    exact T_ansB TT_ok [(4, none)] rfl rfl (rfl)
def mkSet (k : Int) : GSet := ⟨k, k + 1, k + 1 + 1, (k + 1 + 1 + 1).tmod 3 == 0, k + 1 + 1 + 1 + 1⟩
theorem markSetS_c (xs : List GSet) (hl : xs.length ≤ 1048576) (k0 : Int) (h1 : 0 ≤ k0) (h2 : k0 ≤ 1099511627776) : Con Tryz.prog 97 [900] [.a (.g 900), vI k0] [(900, arrC 5 cSet GSet.z xs)] (fun _ : Unit => True) (fun _ => [vI (k0 + 5 * xs.length)]) fun _ => [(900, .arr 5 xs.length fun j => cSet (mkSet (k0 + 5 * j)))] := by
  refine con_enter Tryz.func97 rfl rfl rfl fun B0 r_ D_ w0 => ?_
  refine T_auto TT_ok rfl ?_
  refine T_loopA (ι := Nat) (fun i => [(5, vI i), (1, vI (k0 + 5 * i))]) (fun i => [(900, .arr 5 xs.length fun j => cSet (if j < i then mkSet (k0 + 5 * j) else xs.getD j GSet.z))]) (fun i => i ≤ xs.length) (fun i => xs.length - i) 0 [900] [] rfl rfl (Nat.zero_le _) ⟨⟨_, rfl, SV.imp_refl _⟩, ⟨_, rfl, SV.imp_of (vI_eq (by simp))⟩, trivial⟩ ⟨⟨_, rfl, Ch.imp_arr fun k hk => by rw [if_neg (Nat.not_lt_zero _)]⟩, trivial⟩ ?_
  intro i h3
  refine T_auto TT_ok rfl ?_
  refine T_condD rfl (fun e => ?_) (fun e => ?_)
  · have hi : i < xs.length := by omega
    refine T_view (V_carve 900 i 7000 rfl rfl rfl rfl rfl rfl ⟨by omega, by omega⟩) ?_
    refine T_auto TT_ok rfl ?_
    refine RJ_view (V_pe 16 rfl rfl rfl) ?_
    refine RJ_auto TT_ok rfl ?_
    refine RJ_view (V_pe 23 rfl rfl rfl) ?_
    refine RJ_auto TT_ok rfl ?_
    refine RJ_view (V_pe 30 rfl rfl rfl) ?_
    refine RJ_auto TT_ok rfl ?_
    refine RJ_view (V_pe 39 rfl rfl rfl) ?_
    refine RJ_auto TT_ok rfl ?_
    refine RJ_view (V_pe 46 rfl rfl rfl) ?_
    refine RJ_auto TT_ok rfl ?_
    refine X_view (V_uncarve 900 7000 rfl rfl rfl rfl rfl rfl rfl) ?_
    exact X_inv (i + 1) hi (by omega) ⟨⟨_, rfl, SV.imp_refl _⟩, ⟨_, rfl, SV.imp_of (vI_eq (by omega))⟩, (by repeat (first | exact trivial | refine And.intro ⟨_, rfl, SV.imp_refl _⟩ ?_))⟩ ⟨⟨_, rfl, Ch.imp_arr fun k hk => fill_step2 (i := i) (k := k) (fun x => cSet x) (fun j => mkSet (k0 + 5 * (j : Nat))) (o := fun j => xs.getD j GSet.z) (by rfl)⟩, (by repeat (first | exact trivial | refine And.intro ⟨_, rfl, Ch.imp_refl _⟩ ?_))⟩
  · have hi : i = xs.length := by omega
    subst hi
    refine T_auto TT_ok rfl ?_
    refine T_ret TT_ok (()) [(4, none)] rfl rfl ?_ ?_ ?_
    · exact SVs.imp_refl _
    · exact ⟨⟨_, rfl, Ch.imp_arr fun k hk => by rw [if_pos hk]⟩, trivial⟩
    · trivial
theorem heldSetS_q (n : Nat) (hl : n ≤ 1048576) (k0 : Int) (h1 : 0 ≤ k0) (h2 : k0 ≤ 1099511627776) : Ans Tryz.prog 102 [] [.a (.s .r 5 n fun j => cSet (mkSet (k0 + 5 * j))), vI k0] [] (vI (k0 + 5 * n)) := by
  refine con_enter Tryz.func102 rfl rfl rfl fun B0 r_ D_ w0 => ?_
  refine T_auto TT_ok rfl ?_
  refine T_loopA (ι := Nat) (fun i => [(5, vI i), (1, vI (k0 + 5 * i))]) (fun _ => []) (fun i => i ≤ n) (fun i => n - i) 0 [] [] rfl rfl (Nat.zero_le _) ⟨⟨_, rfl, SV.imp_refl _⟩, ⟨_, rfl, SV.imp_of (vI_eq (by simp))⟩, trivial⟩ (by repeat (first | exact trivial | refine And.intro ⟨_, rfl, Ch.imp_refl _⟩ ?_)) ?_
  intro i h3
  refine T_auto TT_ok rfl ?_
  refine T_condD rfl (fun e => ?_) (fun e => ?_)
  · have hi : i < n := by omega
    refine T_auto TT_ok rfl ?_
    refine T_condN rfl (fun e => absurd rfl e) (fun _ => ?_)
    refine T_auto TT_ok rfl ?_
    refine T_condN rfl (fun e => absurd rfl e) (fun _ => ?_)
    refine T_auto TT_ok rfl ?_
    refine T_condN rfl (fun e => absurd rfl e) (fun _ => ?_)
    refine T_auto TT_ok rfl ?_
    refine T_condX rfl (fun e => absurd ((beq_self_eq_true _).symm.trans e) (by decide)) (fun _ => ?_)
    refine T_auto TT_ok rfl ?_
    refine T_condN rfl (fun e => absurd rfl e) (fun _ => ?_)
    refine T_auto TT_ok rfl ?_
    exact X_inv (i + 1) hi (by omega) ⟨⟨_, rfl, SV.imp_refl _⟩, ⟨_, rfl, SV.imp_of (vI_eq (by omega))⟩, (by repeat (first | exact trivial | refine And.intro ⟨_, rfl, SV.imp_refl _⟩ ?_))⟩ (by repeat (first | exact trivial | refine And.intro ⟨_, rfl, Ch.imp_refl _⟩ ?_))
  · have hi : i = n := by omega
    subst hi
    refine T_auto TT_ok rfl ?_
    exact T_ansI TT_ok [(4, none)] rfl rfl (rfl)
theorem toNote_q (a : GNote) : Ans Tryz.prog 204 [] [vR (cNote a)] [] (vR (cNote a)) := by
  refine con_enter Tryz.func204 rfl rfl rfl fun B0 r_ D_ w0 => ?_
  refine T_auto TT_ok rfl ?_
  exact T_ans TT_ok [(2, some 108)] rfl rfl (rfl)
theorem eqNote_q (a : GNote) : Ans Tryz.prog 231 [] [vR (cNote a), vR (cNote a)] [] (vB true) := by
  refine con_enter Tryz.func231 rfl rfl rfl fun B0 r_ D_ w0 => ?_
  refine T_auto TT_ok rfl ?_
  refine T_condN rfl (fun e => absurd rfl e) (fun _ => ?_)
  refine T_auto TT_ok rfl ?_
  refine T_condN rfl (fun e => absurd rfl e) (fun _ => ?_)
  refine T_auto TT_ok rfl ?_
  refine T_condN rfl (fun e => absurd rfl e) (fun _ => ?_)
  refine T_auto TT_ok rfl ?_
  refine T_condN rfl (fun e => absurd rfl e) (fun _ => ?_)
  refine T_auto TT_ok rfl ?_
  refine T_condX rfl (fun e => by simp at e) (fun _ => ?_)
  refine T_auto TT_ok rfl ?_
  exact T_ansB TT_ok [(4, none)] rfl rfl (rfl)
theorem toNoteS_m (xs : List GNote) (hl : xs.length ≤ 1048576) : MkL Tryz.prog 136 [vL 5 cNote GNote.z xs] 5 cNote GNote.z xs := by
  refine con_enter Tryz.func136 rfl rfl rfl fun B0 r_ D_ w0 => ?_
  refine T_auto TT_ok rfl ?_
  refine RJ_make TT_ok 7 xs.length rfl rfl rfl rfl rfl rfl rfl ⟨by simp; omega, by unfold maxL; omega⟩ ?_
  refine RJ_auto TT_ok rfl ?_
  refine T_loopA (ι := Nat) (fun i => [(4, vI i)]) (fun i => [(7, .arr 5 xs.length fun k => cNote (if k < i then xs.getD k GNote.z else GNote.z))]) (fun i => i ≤ xs.length) (fun i => xs.length - i) 0 [7] [] rfl rfl (Nat.zero_le _) (by repeat (first | exact trivial | refine And.intro ⟨_, rfl, SV.imp_refl _⟩ ?_)) ⟨⟨_, rfl, Ch.imp_arr fun k hk => by rw [if_neg (Nat.not_lt_zero _)]; rfl⟩, trivial⟩ ?_
  intro i h1
  refine T_auto TT_ok rfl ?_
  refine T_condD rfl (fun e => ?_) (fun e => ?_)
  · have hi : i < xs.length := by omega
    refine T_auto TT_ok rfl ?_
    refine RJ_Q TT_ok (toNote_q _) rfl rfl rfl rfl rfl ?_
    exact X_inv (i + 1) hi (by omega) (by repeat (first | exact trivial | refine And.intro ⟨_, rfl, SV.imp_refl _⟩ ?_)) ⟨⟨_, rfl, Ch.imp_arr fun k hk => fill_step (fun x => cNote x) rfl⟩, (by repeat (first | exact trivial | refine And.intro ⟨_, rfl, Ch.imp_refl _⟩ ?_))⟩
  · have hi : i = xs.length := by omega
    subst hi
    refine T_auto TT_ok rfl ?_
    refine T_view (V_sw 7 900) ?_
    refine T_ret TT_ok (()) [(2, none)] rfl rfl ?_ ?_ ?_
    · exact SVs.imp_refl _
    · exact ⟨⟨_, rfl, Ch.imp_arr fun k hk => by rw [if_pos hk]⟩, trivial⟩
    · trivial
theorem szNoteS_q (xs : List GNote) (hx : xs.length ≤ maxL) (l : Int) (h1 : 0 ≤ l) (h2 : l ≤ 1048576) : Ans Tryz.prog 124 [] [vL 5 cNote GNote.z xs, vI l] [] (vI (szI l xs.length)) := by
  unfold maxL at hx
  refine con_enter Tryz.func124 rfl rfl rfl fun B0 r_ D_ w0 => ?_
  refine T_auto TT_ok rfl ?_
  refine T_condD rfl (fun e => ?_) (fun e => ?_)
  · refine T_auto TT_ok rfl ?_
    exact T_ansI TT_ok [(4, none)] rfl rfl (by rw [szI, if_pos e])
  · refine T_auto TT_ok rfl ?_
    exact T_ansI TT_ok [(4, none)] rfl rfl (by rw [szI, if_neg e])
theorem eqNoteS_q (xs : List GNote) (hl : xs.length ≤ 1048576) : Ans Tryz.prog 173 [] [vL 5 cNote GNote.z xs, vL 5 cNote GNote.z xs] [] (vB true) := by
  refine con_enter Tryz.func173 rfl rfl rfl fun B0 r_ D_ w0 => ?_
  refine T_auto TT_ok rfl ?_
  refine T_condN rfl (fun e => absurd rfl e) (fun _ => ?_)
  refine T_auto TT_ok rfl ?_
  refine T_loopA (ι := Nat) (fun i => [(5, vI i)]) (fun _ => []) (fun i => i ≤ xs.length) (fun i => xs.length - i) 0 [] [] rfl rfl (Nat.zero_le _) (by repeat (first | exact trivial | refine And.intro ⟨_, rfl, SV.imp_refl _⟩ ?_)) (by repeat (first | exact trivial | refine And.intro ⟨_, rfl, Ch.imp_refl _⟩ ?_)) ?_
  intro i h1
  refine T_auto TT_ok rfl ?_
  refine T_condD rfl (fun e => ?_) (fun e => ?_)
  · have hi : i < xs.length := by omega
    refine T_auto TT_ok rfl ?_
    refine T_drawA TT_ok [] rfl rfl fun B0 H0 => ?_
    refine DJ_Q TT_ok (eqNote_q _) rfl rfl rfl rfl rfl rfl ?_
    refine DJ_endA TT_ok rfl ?_
    refine T_cond rfl (fun e => by cases e) (fun _ => ?_)
    refine T_auto TT_ok rfl ?_
    exact X_inv (i + 1) hi (by omega) (by repeat (first | exact trivial | refine And.intro ⟨_, rfl, SV.imp_refl _⟩ ?_)) (by repeat (first | exact trivial | refine And.intro ⟨_, rfl, Ch.imp_refl _⟩ ?_))
  · refine T_auto TT_ok rfl ?_
    exact T_ansB TT_ok [(4, none)] rfl rfl (rfl)
def mkNote (k : Int) : GNote := ⟨k, k + 1, k + 1 + 1, k + 1 + 1 + 1, (k + 1 + 1 + 1 + 1).tmod 3 == 0⟩
theorem markNoteS_c (xs : List GNote) (hl : xs.length ≤ 1048576) (k0 : Int) (h1 : 0 ≤ k0) (h2 : k0 ≤ 1099511627776) : Con Tryz.prog 96 [900] [.a (.g 900), vI k0] [(900, arrC 5 cNote GNote.z xs)] (fun _ : Unit => True) (fun _ => [vI (k0 + 5 * xs.length)]) fun _ => [(900, .arr 5 xs.length fun j => cNote (mkNote (k0 + 5 * j)))] := by
  refine con_enter Tryz.func96 rfl rfl rfl fun B0 r_ D_ w0 => ?_
  refine T_auto TT_ok rfl ?_
  refine T_loopA (ι := Nat) (fun i => [(5, vI i), (1, vI (k0 + 5 * i))]) (fun i => [(900, .arr 5 xs.length fun j => cNote (if j < i then mkNote (k0 + 5 * j) else xs.getD j GNote.z))]) (fun i => i ≤ xs.length) (fun i => xs.length - i) 0 [900] [] rfl rfl (Nat.zero_le _) ⟨⟨_, rfl, SV.imp_refl _⟩, ⟨_, rfl, SV.imp_of (vI_eq (by simp))⟩, trivial⟩ ⟨⟨_, rfl, Ch.imp_arr fun k hk => by rw [if_neg (Nat.not_lt_zero _)]⟩, trivial⟩ ?_
  intro i h3
  refine T_auto TT_ok rfl ?_
  refine T_condD rfl (fun e => ?_) (fun e => ?_)
  · have hi : i < xs.length := by omega
    refine T_view (V_carve 900 i 7000 rfl rfl rfl rfl rfl rfl ⟨by omega, by omega⟩) ?_
    refine T_auto TT_ok rfl ?_
    refine RJ_view (V_pe 16 rfl rfl rfl) ?_
    refine RJ_auto TT_ok rfl ?_
    refine RJ_view (V_pe 23 rfl rfl rfl) ?_
    refine RJ_auto TT_ok rfl ?_
    refine RJ_view (V_pe 30 rfl rfl rfl) ?_
    refine RJ_auto TT_ok rfl ?_
    refine RJ_view (V_pe 37 rfl rfl rfl) ?_
    refine RJ_auto TT_ok rfl ?_
    refine RJ_view (V_pe 46 rfl rfl rfl) ?_
    refine RJ_auto TT_ok rfl ?_
    refine X_view (V_uncarve 900 7000 rfl rfl rfl rfl rfl rfl rfl) ?_
    exact X_inv (i + 1) hi (by omega) ⟨⟨_, rfl, SV.imp_refl _⟩, ⟨_, rfl, SV.imp_of (vI_eq (by omega))⟩, (by repeat (first | exact trivial | refine And.intro ⟨_, rfl, SV.imp_refl _⟩ ?_))⟩ ⟨⟨_, rfl, Ch.imp_arr fun k hk => fill_step2 (i := i) (k := k) (fun x => cNote x) (fun j => mkNote (k0 + 5 * (j : Nat))) (o := fun j => xs.getD j GNote.z) (by rfl)⟩, (by repeat (first | exact trivial | refine And.intro ⟨_, rfl, Ch.imp_refl _⟩ ?_))⟩
  · have hi : i = xs.length := by omega
    subst hi
    refine T_auto TT_ok rfl ?_
    refine T_ret TT_ok (()) [(4, none)] rfl rfl ?_ ?_ ?_
    · exact SVs.imp_refl _
    · exact ⟨⟨_, rfl, Ch.imp_arr fun k hk => by rw [if_pos hk]⟩, trivial⟩
    · trivial
theorem heldNoteS_q (n : Nat) (hl : n ≤ 1048576) (k0 : Int) (h1 : 0 ≤ k0) (h2 : k0 ≤ 1099511627776) : Ans Tryz.prog 101 [] [.a (.s .r 5 n fun j => cNote (mkNote (k0 + 5 * j))), vI k0] [] (vI (k0 + 5 * n)) := by
  refine con_enter Tryz.func101 rfl rfl rfl fun B0 r_ D_ w0 => ?_
  refine T_auto TT_ok rfl ?_
  refine T_loopA (ι := Nat) (fun i => [(5, vI i), (1, vI (k0 + 5 * i))]) (fun _ => []) (fun i => i ≤ n) (fun i => n - i) 0 [] [] rfl rfl (Nat.zero_le _) ⟨⟨_, rfl, SV.imp_refl _⟩, ⟨_, rfl, SV.imp_of (vI_eq (by simp))⟩, trivial⟩ (by repeat (first | exact trivial | refine And.intro ⟨_, rfl, Ch.imp_refl _⟩ ?_)) ?_
  intro i h3
  refine T_auto TT_ok rfl ?_
  refine T_condD rfl (fun e => ?_) (fun e => ?_)
  · have hi : i < n := by omega
    refine T_auto TT_ok rfl ?_
    refine T_condN rfl (fun e => absurd rfl e) (fun _ => ?_)
    refine T_auto TT_ok rfl ?_
    refine T_condN rfl (fun e => absurd rfl e) (fun _ => ?_)
    refine T_auto TT_ok rfl ?_
    refine T_condN rfl (fun e => absurd rfl e) (fun _ => ?_)
    refine T_auto TT_ok rfl ?_
    refine T_condN rfl (fun e => absurd rfl e) (fun _ => ?_)
    refine T_auto TT_ok rfl ?_
    refine T_condX rfl (fun e => absurd ((beq_self_eq_true _).symm.trans e) (by decide)) (fun _ => ?_)
    refine T_auto TT_ok rfl ?_
    exact X_inv (i + 1) hi (by omega) ⟨⟨_, rfl, SV.imp_refl _⟩, ⟨_, rfl, SV.imp_of (vI_eq (by omega))⟩, (by repeat (first | exact trivial | refine And.intro ⟨_, rfl, SV.imp_refl _⟩ ?_))⟩ (by repeat (first | exact trivial | refine And.intro ⟨_, rfl, Ch.imp_refl _⟩ ?_))
  · have hi : i = n := by omega
    subst hi
    refine T_auto TT_ok rfl ?_
    exact T_ansI TT_ok [(4, none)] rfl rfl (rfl)
theorem toCell_q (a : GCell) : Ans Tryz.prog 251 [] [vR (cCell a)] [] (vR (cCell a)) := by
  refine con_enter Tryz.func251 rfl rfl rfl fun B0 r_ D_ w0 => ?_
  refine T_auto TT_ok rfl ?_
  exact T_ans TT_ok [(2, some 111)] rfl rfl (rfl)
theorem eqCell_q (a : GCell) : Ans Tryz.prog 253 [] [vR (cCell a), vR (cCell a)] [] (vB true) := by
  refine con_enter Tryz.func253 rfl rfl rfl fun B0 r_ D_ w0 => ?_
  refine T_auto TT_ok rfl ?_
  refine T_condN rfl (fun e => absurd rfl e) (fun _ => ?_)
  refine T_auto TT_ok rfl ?_
  refine T_condN rfl (fun e => absurd rfl e) (fun _ => ?_)
  refine T_auto TT_ok rfl ?_
  exact T_ansB TT_ok [(4, none)] rfl rfl (rfl)
theorem toCellS_m (xs : List GCell) (hl : xs.length ≤ 1048576) : MkL Tryz.prog 241 [vL 2 cCell GCell.z xs] 2 cCell GCell.z xs := by
  refine con_enter Tryz.func241 rfl rfl rfl fun B0 r_ D_ w0 => ?_
  refine T_auto TT_ok rfl ?_
  refine RJ_make TT_ok 7 xs.length rfl rfl rfl rfl rfl rfl rfl ⟨by simp; omega, by unfold maxL; omega⟩ ?_
  refine RJ_auto TT_ok rfl ?_
  refine T_loopA (ι := Nat) (fun i => [(4, vI i)]) (fun i => [(7, .arr 2 xs.length fun k => cCell (if k < i then xs.getD k GCell.z else GCell.z))]) (fun i => i ≤ xs.length) (fun i => xs.length - i) 0 [7] [] rfl rfl (Nat.zero_le _) (by repeat (first | exact trivial | refine And.intro ⟨_, rfl, SV.imp_refl _⟩ ?_)) ⟨⟨_, rfl, Ch.imp_arr fun k hk => by rw [if_neg (Nat.not_lt_zero _)]; rfl⟩, trivial⟩ ?_
  intro i h1
  refine T_auto TT_ok rfl ?_
  refine T_condD rfl (fun e => ?_) (fun e => ?_)
  · have hi : i < xs.length := by omega
    refine T_auto TT_ok rfl ?_
    refine RJ_Q TT_ok (toCell_q _) rfl rfl rfl rfl rfl ?_
    exact X_inv (i + 1) hi (by omega) (by repeat (first | exact trivial | refine And.intro ⟨_, rfl, SV.imp_refl _⟩ ?_)) ⟨⟨_, rfl, Ch.imp_arr fun k hk => fill_step (fun x => cCell x) rfl⟩, (by repeat (first | exact trivial | refine And.intro ⟨_, rfl, Ch.imp_refl _⟩ ?_))⟩
  · have hi : i = xs.length := by omega
    subst hi
    refine T_auto TT_ok rfl ?_
    refine T_view (V_sw 7 900) ?_
    refine T_ret TT_ok (()) [(2, none)] rfl rfl ?_ ?_ ?_
    · exact SVs.imp_refl _
    · exact ⟨⟨_, rfl, Ch.imp_arr fun k hk => by rw [if_pos hk]⟩, trivial⟩
    · trivial
theorem szCellS_q (xs : List GCell) (hx : xs.length ≤ maxL) (l : Int) (h1 : 0 ≤ l) (h2 : l ≤ 1048576) : Ans Tryz.prog 240 [] [vL 2 cCell GCell.z xs, vI l] [] (vI (szI l xs.length)) := by
  unfold maxL at hx
  refine con_enter Tryz.func240 rfl rfl rfl fun B0 r_ D_ w0 => ?_
  refine T_auto TT_ok rfl ?_
  refine T_condD rfl (fun e => ?_) (fun e => ?_)
  · refine T_auto TT_ok rfl ?_
    exact T_ansI TT_ok [(4, none)] rfl rfl (by rw [szI, if_pos e])
  · refine T_auto TT_ok rfl ?_
    exact T_ansI TT_ok [(4, none)] rfl rfl (by rw [szI, if_neg e])
theorem eqCellS_q (xs : List GCell) (hl : xs.length ≤ 1048576) : Ans Tryz.prog 249 [] [vL 2 cCell GCell.z xs, vL 2 cCell GCell.z xs] [] (vB true) := by
  refine con_enter Tryz.func249 rfl rfl rfl fun B0 r_ D_ w0 => ?_
  refine T_auto TT_ok rfl ?_
  refine T_condN rfl (fun e => absurd rfl e) (fun _ => ?_)
  refine T_auto TT_ok rfl ?_
  refine T_loopA (ι := Nat) (fun i => [(5, vI i)]) (fun _ => []) (fun i => i ≤ xs.length) (fun i => xs.length - i) 0 [] [] rfl rfl (Nat.zero_le _) (by repeat (first | exact trivial | refine And.intro ⟨_, rfl, SV.imp_refl _⟩ ?_)) (by repeat (first | exact trivial | refine And.intro ⟨_, rfl, Ch.imp_refl _⟩ ?_)) ?_
  intro i h1
  refine T_auto TT_ok rfl ?_
  refine T_condD rfl (fun e => ?_) (fun e => ?_)
  · have hi : i < xs.length := by omega
    refine T_auto TT_ok rfl ?_
    refine T_drawA TT_ok [] rfl rfl fun B0 H0 => ?_
    refine DJ_Q TT_ok (eqCell_q _) rfl rfl rfl rfl rfl rfl ?_
    refine DJ_endA TT_ok rfl ?_
    refine T_cond rfl (fun e => by cases e) (fun _ => ?_)
    refine T_auto TT_ok rfl ?_
    exact X_inv (i + 1) hi (by omega) (by repeat (first | exact trivial | refine And.intro ⟨_, rfl, SV.imp_refl _⟩ ?_)) (by repeat (first | exact trivial | refine And.intro ⟨_, rfl, Ch.imp_refl _⟩ ?_))
  · refine T_auto TT_ok rfl ?_
    exact T_ansB TT_ok [(4, none)] rfl rfl (rfl)
def mkCell (k : Int) : GCell := ⟨k, k + 1⟩
theorem markCellS_c (xs : List GCell) (hl : xs.length ≤ 1048576) (k0 : Int) (h1 : 0 ≤ k0) (h2 : k0 ≤ 1099511627776) : Con Tryz.prog 175 [900] [.a (.g 900), vI k0] [(900, arrC 2 cCell GCell.z xs)] (fun _ : Unit => True) (fun _ => [vI (k0 + 2 * xs.length)]) fun _ => [(900, .arr 2 xs.length fun j => cCell (mkCell (k0 + 2 * j)))] := by
  refine con_enter Tryz.func175 rfl rfl rfl fun B0 r_ D_ w0 => ?_
  refine T_auto TT_ok rfl ?_
  refine T_loopA (ι := Nat) (fun i => [(5, vI i), (1, vI (k0 + 2 * i))]) (fun i => [(900, .arr 2 xs.length fun j => cCell (if j < i then mkCell (k0 + 2 * j) else xs.getD j GCell.z))]) (fun i => i ≤ xs.length) (fun i => xs.length - i) 0 [900] [] rfl rfl (Nat.zero_le _) ⟨⟨_, rfl, SV.imp_refl _⟩, ⟨_, rfl, SV.imp_of (vI_eq (by simp))⟩, trivial⟩ ⟨⟨_, rfl, Ch.imp_arr fun k hk => by rw [if_neg (Nat.not_lt_zero _)]⟩, trivial⟩ ?_
  intro i h3
  refine T_auto TT_ok rfl ?_
  refine T_condD rfl (fun e => ?_) (fun e => ?_)
  · have hi : i < xs.length := by omega
    refine T_view (V_carve 900 i 7000 rfl rfl rfl rfl rfl rfl ⟨by omega, by omega⟩) ?_
    refine T_auto TT_ok rfl ?_
    refine RJ_view (V_pe 16 rfl rfl rfl) ?_
    refine RJ_auto TT_ok rfl ?_
    refine RJ_view (V_pe 23 rfl rfl rfl) ?_
    refine RJ_auto TT_ok rfl ?_
    refine X_view (V_uncarve 900 7000 rfl rfl rfl rfl rfl rfl rfl) ?_
    exact X_inv (i + 1) hi (by omega) ⟨⟨_, rfl, SV.imp_refl _⟩, ⟨_, rfl, SV.imp_of (vI_eq (by omega))⟩, (by repeat (first | exact trivial | refine And.intro ⟨_, rfl, SV.imp_refl _⟩ ?_))⟩ ⟨⟨_, rfl, Ch.imp_arr fun k hk => fill_step2 (i := i) (k := k) (fun x => cCell x) (fun j => mkCell (k0 + 2 * (j : Nat))) (o := fun j => xs.getD j GCell.z) (by rfl)⟩, (by repeat (first | exact trivial | refine And.intro ⟨_, rfl, Ch.imp_refl _⟩ ?_))⟩
  · have hi : i = xs.length := by omega
    subst hi
    refine T_auto TT_ok rfl ?_
    refine T_ret TT_ok (()) [(4, none)] rfl rfl ?_ ?_ ?_
    · exact SVs.imp_refl _
    · exact ⟨⟨_, rfl, Ch.imp_arr fun k hk => by rw [if_pos hk]⟩, trivial⟩
    · trivial
theorem heldCellS_q (n : Nat) (hl : n ≤ 1048576) (k0 : Int) (h1 : 0 ≤ k0) (h2 : k0 ≤ 1099511627776) : Ans Tryz.prog 176 [] [.a (.s .r 2 n fun j => cCell (mkCell (k0 + 2 * j))), vI k0] [] (vI (k0 + 2 * n)) := by
  refine con_enter Tryz.func176 rfl rfl rfl fun B0 r_ D_ w0 => ?_
  refine T_auto TT_ok rfl ?_
  refine T_loopA (ι := Nat) (fun i => [(5, vI i), (1, vI (k0 + 2 * i))]) (fun _ => []) (fun i => i ≤ n) (fun i => n - i) 0 [] [] rfl rfl (Nat.zero_le _) ⟨⟨_, rfl, SV.imp_refl _⟩, ⟨_, rfl, SV.imp_of (vI_eq (by simp))⟩, trivial⟩ (by repeat (first | exact trivial | refine And.intro ⟨_, rfl, Ch.imp_refl _⟩ ?_)) ?_
  intro i h3
  refine T_auto TT_ok rfl ?_
  refine T_condD rfl (fun e => ?_) (fun e => ?_)
  · have hi : i < n := by omega
    refine T_auto TT_ok rfl ?_
    refine T_condN rfl (fun e => absurd rfl e) (fun _ => ?_)
    refine T_auto TT_ok rfl ?_
    refine T_condN rfl (fun e => absurd rfl e) (fun _ => ?_)
    refine T_auto TT_ok rfl ?_
    exact X_inv (i + 1) hi (by omega) ⟨⟨_, rfl, SV.imp_refl _⟩, ⟨_, rfl, SV.imp_of (vI_eq (by omega))⟩, (by repeat (first | exact trivial | refine And.intro ⟨_, rfl, SV.imp_refl _⟩ ?_))⟩ (by repeat (first | exact trivial | refine And.intro ⟨_, rfl, Ch.imp_refl _⟩ ?_))
  · have hi : i = n := by omega
    subst hi
    refine T_auto TT_ok rfl ?_
    exact T_ansI TT_ok [(4, none)] rfl rfl (rfl)
end
section
set_option maxRecDepth 4000
end
end Go.Proofs.YtcikaknfogpeeaaGreat
namespace Go.Proofs.YtcikaknfogpeeaaGreat
open Go Go.RowKit
set_option linter.unusedVariables false
set_option linter.unusedSimpArgs false
section
set_option maxRecDepth 4000
def setsAt (r : Int) (xs : List GSet) : List GSet := xs.filter fun s => s.region == r
theorem l7SetsOf_m (t : GTx) (r0 : Int) (hl : t.sets.length ≤ 1048576) : MkL Tryz.prog 57 [vR (cTx t), vI r0] 5 cSet GSet.z (setsAt r0 t.sets) := by
  refine con_enter Tryz.func57 rfl rfl rfl fun B0 r_ D_ w0 => ?_
  refine T_auto TT_ok rfl ?_
  refine RJ_bs TT_ok 7 (fun i => cSet (([] : List GSet).getD i GSet.z)) rfl rfl rfl rfl rfl rfl rfl (fun i hi => absurd hi (Nat.not_lt_zero _)) (mu1 := []) rfl rfl rfl ?_
  refine RJ_auto TT_ok rfl ?_
  refine T_loopA (ι := Nat) (fun i => [(6, vI i), (5, .a (.g 7))]) (fun i => [(7, arrC 5 cSet GSet.z ((t.sets.take i).filter fun s => s.region == r0))]) (fun i => i ≤ t.sets.length) (fun i => t.sets.length - i) 0 [7] [7] rfl rfl (Nat.zero_le _) (by repeat (first | exact trivial | refine And.intro ⟨_, rfl, SV.imp_refl _⟩ ?_)) (by repeat (first | exact trivial | refine And.intro ⟨_, rfl, Ch.imp_refl _⟩ ?_)) ?_
  intro i h1
  refine T_auto TT_ok rfl ?_
  refine T_condD rfl (fun e => ?_) (fun e => ?_)
  · have hi : i < t.sets.length := by omega
    have hle := filter_take_len t.sets (fun s => s.region == r0) i
    refine T_auto TT_ok rfl ?_
    refine T_condE rfl (fun e2 => ?_) (fun e2 => ?_)
    · refine T_auto TT_ok rfl ?_
      refine RJ_bs TT_ok 29 (fun _ => cSet (t.sets.getD i GSet.z)) rfl rfl rfl rfl rfl rfl rfl (fun i hi => by rcases i with _ | i <;> first | rfl | omega) (mu1 := []) rfl rfl rfl ?_
      refine RJ_auto TT_ok rfl ?_
      refine RJ_appM TT_ok 7 29 30 rfl rfl rfl rfl rfl rfl rfl rfl rfl rfl rfl rfl ⟨by simp; omega, by unfold maxL; omega⟩ ?_
      refine RJ_auto TT_ok rfl ?_
      refine X_view (V_sw 7 30) ?_
      exact X_inv (i + 1) hi (by omega) (by repeat (first | exact trivial | refine And.intro ⟨_, rfl, SV.imp_refl _⟩ ?_)) ⟨⟨_, rfl, imp_app1 (filter_take_yes hi (by simpa using e2)) rfl⟩, (by repeat (first | exact trivial | refine And.intro ⟨_, rfl, Ch.imp_refl _⟩ ?_))⟩
    · refine T_auto TT_ok rfl ?_
      exact X_inv (i + 1) hi (by omega) (by repeat (first | exact trivial | refine And.intro ⟨_, rfl, SV.imp_refl _⟩ ?_)) ⟨⟨_, rfl, imp_list (filter_take_no hi (by simpa using e2))⟩, (by repeat (first | exact trivial | refine And.intro ⟨_, rfl, Ch.imp_refl _⟩ ?_))⟩
  · have hi : i = t.sets.length := by omega
    subst hi
    refine T_auto TT_ok rfl ?_
    refine T_view (V_sw 7 900) ?_
    refine T_ret TT_ok (()) [(4, none)] rfl rfl ?_ ?_ ?_
    · exact SVs.imp_refl _
    · exact ⟨⟨_, rfl, imp_list (by rw [List.take_length]; rfl)⟩, trivial⟩
    · trivial
end
section
set_option maxRecDepth 4000
theorem indexFuncSet_q (xs : List GSet) (hl : xs.length ≤ 1048576) (p : GSet → Bool) : Ans Tryz.prog 150 [] [vL 5 cSet GSet.z xs, fbO (fun x => [RD.ag (cSet x)]) fun x => .bool (p x)] [] (vI (idxI p xs)) := by
  refine con_enter Tryz.func150 rfl rfl rfl fun B0 r_ D_ w0 => ?_
  refine T_auto TT_ok rfl ?_
  refine T_loopA (ι := Nat) (fun i => [(8, vI i)]) (fun _ => []) (fun i => i ≤ xs.length ∧ ∀ j, j < i → p (xs.getD j GSet.z) = false) (fun i => xs.length - i) 0 [] [] rfl rfl ⟨Nat.zero_le _, fun j hj => absurd hj (Nat.not_lt_zero _)⟩ (by repeat (first | exact trivial | refine And.intro ⟨_, rfl, SV.imp_refl _⟩ ?_)) (by repeat (first | exact trivial | refine And.intro ⟨_, rfl, Ch.imp_refl _⟩ ?_)) ?_
  intro i ⟨h1, h2⟩
  refine T_auto TT_ok rfl ?_
  refine T_condD rfl (fun e => ?_) (fun e => ?_)
  · have hi : i < xs.length := by omega
    refine T_auto TT_ok rfl ?_
    refine RJ_F rfl rfl rfl ⟨xs.getD i GSet.z, rfl, rfl⟩ ?_
    refine RJ_auto TT_ok rfl ?_
    refine T_cond rfl (fun e2 => ?_) (fun e2 => ?_)
    · refine T_auto TT_ok rfl ?_
      exact T_ansI TT_ok [(4, none)] rfl rfl ((idxI_at hi h2 e2).symm)
    · refine T_auto TT_ok rfl ?_
      exact X_inv (i + 1) ⟨hi, before_succ h2 e2⟩ (by omega) (by repeat (first | exact trivial | refine And.intro ⟨_, rfl, SV.imp_refl _⟩ ?_)) (by repeat (first | exact trivial | refine And.intro ⟨_, rfl, Ch.imp_refl _⟩ ?_))
  · refine T_auto TT_ok rfl ?_
    exact T_ansI TT_ok [(4, none)] rfl rfl ((idxI_no fun j hj => h2 j (by omega)).symm)
theorem cloneSet_m (xs : List GSet) (hl : xs.length ≤ 1048576) : MkL Tryz.prog 154 [vL 5 cSet GSet.z xs] 5 cSet GSet.z xs := by
  refine con_enter Tryz.func154 rfl rfl rfl fun B0 r_ D_ w0 => ?_
  refine T_auto TT_ok rfl ?_
  refine RJ_nil TT_ok false rfl rfl rfl rfl rfl rfl fun b hb => ?_
  refine RJ_auto TT_ok rfl ?_
  refine T_cond rfl (fun e => ?_) (fun e => ?_)
  · have h0 := hb e
    refine T_auto TT_ok rfl ?_
    refine T_view (V_nil 2 900 5 (fun i => cSet (([] : List GSet).getD i GSet.z)) rfl rfl rfl rfl) ?_
    refine T_ret TT_ok (()) [(2, none)] rfl rfl ?_ ?_ ?_
    · exact SVs.imp_refl _
    · exact ⟨⟨_, rfl, imp_list (List.length_eq_zero_iff.1 h0).symm⟩, trivial⟩
    · trivial
  · refine T_auto TT_ok rfl ?_
    refine RJ_bs TT_ok 5 (fun i => cSet (([] : List GSet).getD i GSet.z)) rfl rfl rfl rfl rfl rfl rfl (fun i hi => absurd hi (Nat.not_lt_zero _)) (mu1 := []) rfl rfl rfl ?_
    refine RJ_auto TT_ok rfl ?_
    refine RJ_appC TT_ok 5 900 rfl rfl rfl rfl rfl rfl rfl rfl rfl rfl rfl rfl ⟨by simp; omega, by unfold maxL; omega⟩ ?_
    refine RJ_auto TT_ok rfl ?_
    refine T_ret TT_ok (()) [(2, none)] rfl rfl ?_ ?_ ?_
    · exact SVs.imp_refl _
    · exact ⟨⟨_, rfl, imp_app (ys := ([] : List GSet)) (by simp)⟩, trivial⟩
    · trivial
theorem deleteFuncSet_c (xs : List GSet) (hl : xs.length ≤ 1048576) (p : GSet → Bool) : Con Tryz.prog 221 [900] [.a (.g 900), fbO (fun x => [RD.ag (cSet x)]) fun x => .bool (p x)] [(900, arrC 5 cSet GSet.z xs)] (fun _ : Unit => True) (fun _ => [.a (.g 901)]) fun _ => [(901, arrC 5 cSet GSet.z (xs.filter fun x => !p x))] := by
  refine con_enter Tryz.func221 rfl rfl rfl fun B0 r_ D_ w0 => ?_
  refine T_auto TT_ok rfl ?_
  refine RJ_Q TT_ok (indexFuncSet_q xs hl p) rfl rfl rfl rfl rfl ?_
  rcases idxI_cases p GSet.z xs with ⟨h1, h2⟩ | ⟨i0, h1, h2, h3, h4⟩
  · refine T_condE rfl (fun _ => ?_) (fun e => absurd h1 e)
    refine T_auto TT_ok rfl ?_
    refine T_view (V_ren 4 900 901 rfl rfl rfl rfl rfl rfl) ?_
    refine T_ret TT_ok (()) [(4, none)] rfl rfl ?_ ?_ ?_
    · exact SVs.imp_refl _
    · exact ⟨⟨_, rfl, imp_list (filter_none h2)⟩, trivial⟩
    · trivial
  rw [h2]
  refine T_condE rfl (fun e => by omega) (fun _ => ?_)
  refine T_auto TT_ok rfl ?_
  refine T_loopA (ι := Nat × (Nat → GSet)) (fun y => [(6, vI y.1), (5, vI ((xs.take y.1).filter fun x => !p x).length)]) (fun y => [(900, .arr 5 xs.length fun k => cSet (y.2 k))])
    (fun y => i0 < y.1 ∧ y.1 ≤ xs.length ∧ (∀ k, k < ((xs.take y.1).filter fun x => !p x).length → y.2 k = ((xs.take y.1).filter fun x => !p x).getD k GSet.z) ∧ ∀ k, y.1 ≤ k → k < xs.length → y.2 k = xs.getD k GSet.z)
    (fun y => xs.length - y.1) (i0 + 1, fun k => xs.getD k GSet.z) [900] [] rfl rfl ⟨Nat.lt_succ_self _, h1, ?_, fun _ _ _ => rfl⟩ ?_ (by repeat (first | exact trivial | refine And.intro ⟨_, rfl, Ch.imp_refl _⟩ ?_)) ?_
  · intro k hk
    rw [del_start h1 h3 h4] at hk ⊢
    exact (getD_take hk).symm
  · refine And.intro ⟨_, rfl, SV.imp_of ?_⟩ (And.intro ⟨_, rfl, SV.imp_of ?_⟩ trivial)
    · simp
    · rw [del_start h1 h3 h4]; simp; omega
  rintro ⟨j, h⟩ ⟨g1, g2, g3, g4⟩
  dsimp only at g1 g2 g3 g4 ⊢
  have hle := filter_take_le xs (fun x => !p x) j
  refine T_auto TT_ok rfl ?_
  refine T_condD rfl (fun e => ?_) (fun e => ?_)
  · have hj : j < xs.length := by omega
    refine T_auto TT_ok rfl ?_
    refine RJ_F rfl rfl rfl ⟨h j, rfl, rfl⟩ ?_
    refine RJ_auto TT_ok rfl ?_
    refine T_condX rfl (fun e2 => ?_) (fun e2 => ?_)
    · have hF := filter_take_yes (z := GSet.z) hj (p := fun x => !p x) (by rw [← g4 j (Nat.le_refl _) hj, e2]; rfl)
      refine T_auto TT_ok rfl ?_
      refine X_inv (j + 1, fun k => if k = ((xs.take j).filter fun x => !p x).length then h j else h k) ⟨by omega, hj, fun k hk => ?_, fun k k1 k2 => ?_⟩ (by show xs.length - (j + 1) < xs.length - j; omega) ?_ ⟨⟨_, rfl, Ch.imp_arr fun k hk => ?_⟩, (by repeat (first | exact trivial | refine And.intro ⟨_, rfl, Ch.imp_refl _⟩ ?_))⟩
      · dsimp only at hk ⊢
        rw [hF, List.length_append, List.length_singleton] at hk
        rw [hF]
        by_cases c : k = ((xs.take j).filter fun x => !p x).length
        · rw [if_pos c, c, getD_app_eq, g4 j (Nat.le_refl _) hj]
        · rw [if_neg c, getD_app_lt (by omega)]; exact g3 k (by omega)
      · dsimp only at k1 ⊢
        rw [if_neg (by omega)]; exact g4 k (by omega) k2
      · refine And.intro ⟨_, rfl, SV.imp_of ?_⟩ (And.intro ⟨_, rfl, SV.imp_of ?_⟩ (by repeat (first | exact trivial | refine And.intro ⟨_, rfl, SV.imp_refl _⟩ ?_)))
        · simp
        · dsimp only; rw [hF]; simp
      · dsimp only
        by_cases c : k = ((xs.take j).filter fun x => !p x).length
        · subst c
          simp only [Int.toNat_natCast, Nat.beq_refl, cond_true, if_true]
          rfl
        · rw [if_neg c]
          have : Nat.beq k (((xs.take j).filter fun x => !p x).length : Int).toNat = false := by
            simp only [Int.toNat_natCast]
            cases e : Nat.beq k ((xs.take j).filter fun x => !p x).length with
            | false => rfl
            | true => exact absurd (Nat.eq_of_beq_eq_true e) c
          rw [this]; rfl
    · have hF := filter_take_no (z := GSet.z) hj (p := fun x => !p x) (by rw [← g4 j (Nat.le_refl _) hj, e2]; rfl)
      refine T_auto TT_ok rfl ?_
      refine X_inv (j + 1, h) ⟨by omega, hj, fun k hk => ?_, fun k k1 k2 => g4 k (by dsimp only at k1; omega) k2⟩ (by show xs.length - (j + 1) < xs.length - j; omega) ?_ (by repeat (first | exact trivial | refine And.intro ⟨_, rfl, Ch.imp_refl _⟩ ?_))
      · dsimp only at hk ⊢
        rw [← hF] at hk ⊢; exact g3 k hk
      · refine And.intro ⟨_, rfl, SV.imp_of ?_⟩ (And.intro ⟨_, rfl, SV.imp_of ?_⟩ (by repeat (first | exact trivial | refine And.intro ⟨_, rfl, SV.imp_refl _⟩ ?_)))
        · simp
        · dsimp only; rw [← hF]
  · have hj : j = xs.length := by omega
    subst hj
    rw [List.take_length] at g3 hle ⊢
    refine T_auto TT_ok rfl ?_
    refine RJ_clear TT_ok 38 900 rfl rfl rfl rfl rfl rfl ⟨by omega, by omega, by omega⟩ rfl rfl rfl rfl ?_
    refine RJ_auto TT_ok rfl ?_
    refine T_view (V_cut 4 900 901 rfl rfl rfl ⟨by omega, by omega, by omega⟩ rfl rfl rfl) ?_
    refine T_ret TT_ok (()) [(4, none)] rfl rfl ?_ ?_ ?_
    · exact SVs.imp_refl _
    · refine ⟨⟨_, rfl, Ch.imp_len (by omega) fun k hk => ?_⟩, trivial⟩
      dsimp only
      rw [if_neg (by omega), g3 _ (by omega)]
      congr 2; omega
    · trivial
theorem indexFuncNote_q (xs : List GNote) (hl : xs.length ≤ 1048576) (p : GNote → Bool) : Ans Tryz.prog 149 [] [vL 5 cNote GNote.z xs, fbO (fun x => [RD.ag (cNote x)]) fun x => .bool (p x)] [] (vI (idxI p xs)) := by
  refine con_enter Tryz.func149 rfl rfl rfl fun B0 r_ D_ w0 => ?_
  refine T_auto TT_ok rfl ?_
  refine T_loopA (ι := Nat) (fun i => [(8, vI i)]) (fun _ => []) (fun i => i ≤ xs.length ∧ ∀ j, j < i → p (xs.getD j GNote.z) = false) (fun i => xs.length - i) 0 [] [] rfl rfl ⟨Nat.zero_le _, fun j hj => absurd hj (Nat.not_lt_zero _)⟩ (by repeat (first | exact trivial | refine And.intro ⟨_, rfl, SV.imp_refl _⟩ ?_)) (by repeat (first | exact trivial | refine And.intro ⟨_, rfl, Ch.imp_refl _⟩ ?_)) ?_
  intro i ⟨h1, h2⟩
  refine T_auto TT_ok rfl ?_
  refine T_condD rfl (fun e => ?_) (fun e => ?_)
  · have hi : i < xs.length := by omega
    refine T_auto TT_ok rfl ?_
    refine RJ_F rfl rfl rfl ⟨xs.getD i GNote.z, rfl, rfl⟩ ?_
    refine RJ_auto TT_ok rfl ?_
    refine T_cond rfl (fun e2 => ?_) (fun e2 => ?_)
    · refine T_auto TT_ok rfl ?_
      exact T_ansI TT_ok [(4, none)] rfl rfl ((idxI_at hi h2 e2).symm)
    · refine T_auto TT_ok rfl ?_
      exact X_inv (i + 1) ⟨hi, before_succ h2 e2⟩ (by omega) (by repeat (first | exact trivial | refine And.intro ⟨_, rfl, SV.imp_refl _⟩ ?_)) (by repeat (first | exact trivial | refine And.intro ⟨_, rfl, Ch.imp_refl _⟩ ?_))
  · refine T_auto TT_ok rfl ?_
    exact T_ansI TT_ok [(4, none)] rfl rfl ((idxI_no fun j hj => h2 j (by omega)).symm)
theorem cloneNote_m (xs : List GNote) (hl : xs.length ≤ 1048576) : MkL Tryz.prog 153 [vL 5 cNote GNote.z xs] 5 cNote GNote.z xs := by
  refine con_enter Tryz.func153 rfl rfl rfl fun B0 r_ D_ w0 => ?_
  refine T_auto TT_ok rfl ?_
  refine RJ_nil TT_ok false rfl rfl rfl rfl rfl rfl fun b hb => ?_
  refine RJ_auto TT_ok rfl ?_
  refine T_cond rfl (fun e => ?_) (fun e => ?_)
  · have h0 := hb e
    refine T_auto TT_ok rfl ?_
    refine T_view (V_nil 2 900 5 (fun i => cNote (([] : List GNote).getD i GNote.z)) rfl rfl rfl rfl) ?_
    refine T_ret TT_ok (()) [(2, none)] rfl rfl ?_ ?_ ?_
    · exact SVs.imp_refl _
    · exact ⟨⟨_, rfl, imp_list (List.length_eq_zero_iff.1 h0).symm⟩, trivial⟩
    · trivial
  · refine T_auto TT_ok rfl ?_
    refine RJ_bs TT_ok 5 (fun i => cNote (([] : List GNote).getD i GNote.z)) rfl rfl rfl rfl rfl rfl rfl (fun i hi => absurd hi (Nat.not_lt_zero _)) (mu1 := []) rfl rfl rfl ?_
    refine RJ_auto TT_ok rfl ?_
    refine RJ_appC TT_ok 5 900 rfl rfl rfl rfl rfl rfl rfl rfl rfl rfl rfl rfl ⟨by simp; omega, by unfold maxL; omega⟩ ?_
    refine RJ_auto TT_ok rfl ?_
    refine T_ret TT_ok (()) [(2, none)] rfl rfl ?_ ?_ ?_
    · exact SVs.imp_refl _
    · exact ⟨⟨_, rfl, imp_app (ys := ([] : List GNote)) (by simp)⟩, trivial⟩
    · trivial
theorem deleteFuncNote_c (xs : List GNote) (hl : xs.length ≤ 1048576) (p : GNote → Bool) : Con Tryz.prog 217 [900] [.a (.g 900), fbO (fun x => [RD.ag (cNote x)]) fun x => .bool (p x)] [(900, arrC 5 cNote GNote.z xs)] (fun _ : Unit => True) (fun _ => [.a (.g 901)]) fun _ => [(901, arrC 5 cNote GNote.z (xs.filter fun x => !p x))] := by
  refine con_enter Tryz.func217 rfl rfl rfl fun B0 r_ D_ w0 => ?_
  refine T_auto TT_ok rfl ?_
  refine RJ_Q TT_ok (indexFuncNote_q xs hl p) rfl rfl rfl rfl rfl ?_
  rcases idxI_cases p GNote.z xs with ⟨h1, h2⟩ | ⟨i0, h1, h2, h3, h4⟩
  · refine T_condE rfl (fun _ => ?_) (fun e => absurd h1 e)
    refine T_auto TT_ok rfl ?_
    refine T_view (V_ren 4 900 901 rfl rfl rfl rfl rfl rfl) ?_
    refine T_ret TT_ok (()) [(4, none)] rfl rfl ?_ ?_ ?_
    · exact SVs.imp_refl _
    · exact ⟨⟨_, rfl, imp_list (filter_none h2)⟩, trivial⟩
    · trivial
  rw [h2]
  refine T_condE rfl (fun e => by omega) (fun _ => ?_)
  refine T_auto TT_ok rfl ?_
  refine T_loopA (ι := Nat × (Nat → GNote)) (fun y => [(6, vI y.1), (5, vI ((xs.take y.1).filter fun x => !p x).length)]) (fun y => [(900, .arr 5 xs.length fun k => cNote (y.2 k))])
    (fun y => i0 < y.1 ∧ y.1 ≤ xs.length ∧ (∀ k, k < ((xs.take y.1).filter fun x => !p x).length → y.2 k = ((xs.take y.1).filter fun x => !p x).getD k GNote.z) ∧ ∀ k, y.1 ≤ k → k < xs.length → y.2 k = xs.getD k GNote.z)
    (fun y => xs.length - y.1) (i0 + 1, fun k => xs.getD k GNote.z) [900] [] rfl rfl ⟨Nat.lt_succ_self _, h1, ?_, fun _ _ _ => rfl⟩ ?_ (by repeat (first | exact trivial | refine And.intro ⟨_, rfl, Ch.imp_refl _⟩ ?_)) ?_
  · intro k hk
    rw [del_start h1 h3 h4] at hk ⊢
    exact (getD_take hk).symm
  · refine And.intro ⟨_, rfl, SV.imp_of ?_⟩ (And.intro ⟨_, rfl, SV.imp_of ?_⟩ trivial)
    · simp
    · rw [del_start h1 h3 h4]; simp; omega
  rintro ⟨j, h⟩ ⟨g1, g2, g3, g4⟩
  dsimp only at g1 g2 g3 g4 ⊢
  have hle := filter_take_le xs (fun x => !p x) j
  refine T_auto TT_ok rfl ?_
  refine T_condD rfl (fun e => ?_) (fun e => ?_)
  · have hj : j < xs.length := by omega
    refine T_auto TT_ok rfl ?_
    refine RJ_F rfl rfl rfl ⟨h j, rfl, rfl⟩ ?_
    refine RJ_auto TT_ok rfl ?_
    refine T_condX rfl (fun e2 => ?_) (fun e2 => ?_)
    · have hF := filter_take_yes (z := GNote.z) hj (p := fun x => !p x) (by rw [← g4 j (Nat.le_refl _) hj, e2]; rfl)
      refine T_auto TT_ok rfl ?_
      refine X_inv (j + 1, fun k => if k = ((xs.take j).filter fun x => !p x).length then h j else h k) ⟨by omega, hj, fun k hk => ?_, fun k k1 k2 => ?_⟩ (by show xs.length - (j + 1) < xs.length - j; omega) ?_ ⟨⟨_, rfl, Ch.imp_arr fun k hk => ?_⟩, (by repeat (first | exact trivial | refine And.intro ⟨_, rfl, Ch.imp_refl _⟩ ?_))⟩
      · dsimp only at hk ⊢
        rw [hF, List.length_append, List.length_singleton] at hk
        rw [hF]
        by_cases c : k = ((xs.take j).filter fun x => !p x).length
        · rw [if_pos c, c, getD_app_eq, g4 j (Nat.le_refl _) hj]
        · rw [if_neg c, getD_app_lt (by omega)]; exact g3 k (by omega)
      · dsimp only at k1 ⊢
        rw [if_neg (by omega)]; exact g4 k (by omega) k2
      · refine And.intro ⟨_, rfl, SV.imp_of ?_⟩ (And.intro ⟨_, rfl, SV.imp_of ?_⟩ (by repeat (first | exact trivial | refine And.intro ⟨_, rfl, SV.imp_refl _⟩ ?_)))
        · simp
        · dsimp only; rw [hF]; simp
      · dsimp only
        by_cases c : k = ((xs.take j).filter fun x => !p x).length
        · subst c
          simp only [Int.toNat_natCast, Nat.beq_refl, cond_true, if_true]
          rfl
        · rw [if_neg c]
          have : Nat.beq k (((xs.take j).filter fun x => !p x).length : Int).toNat = false := by
            simp only [Int.toNat_natCast]
            cases e : Nat.beq k ((xs.take j).filter fun x => !p x).length with
            | false => rfl
            | true => exact absurd (Nat.eq_of_beq_eq_true e) c
          rw [this]; rfl
    · have hF := filter_take_no (z := GNote.z) hj (p := fun x => !p x) (by rw [← g4 j (Nat.le_refl _) hj, e2]; rfl)
      refine T_auto TT_ok rfl ?_
      refine X_inv (j + 1, h) ⟨by omega, hj, fun k hk => ?_, fun k k1 k2 => g4 k (by dsimp only at k1; omega) k2⟩ (by show xs.length - (j + 1) < xs.length - j; omega) ?_ (by repeat (first | exact trivial | refine And.intro ⟨_, rfl, Ch.imp_refl _⟩ ?_))
      · dsimp only at hk ⊢
        rw [← hF] at hk ⊢; exact g3 k hk
      · refine And.intro ⟨_, rfl, SV.imp_of ?_⟩ (And.intro ⟨_, rfl, SV.imp_of ?_⟩ (by repeat (first | exact trivial | refine And.intro ⟨_, rfl, SV.imp_refl _⟩ ?_)))
        · simp
        · dsimp only; rw [← hF]
  · have hj : j = xs.length := by omega
    subst hj
    rw [List.take_length] at g3 hle ⊢
    refine T_auto TT_ok rfl ?_
    refine RJ_clear TT_ok 38 900 rfl rfl rfl rfl rfl rfl ⟨by omega, by omega, by omega⟩ rfl rfl rfl rfl ?_
    refine RJ_auto TT_ok rfl ?_
    refine T_view (V_cut 4 900 901 rfl rfl rfl ⟨by omega, by omega, by omega⟩ rfl rfl rfl) ?_
    refine T_ret TT_ok (()) [(4, none)] rfl rfl ?_ ?_ ?_
    · exact SVs.imp_refl _
    · refine ⟨⟨_, rfl, Ch.imp_len (by omega) fun k hk => ?_⟩, trivial⟩
      dsimp only
      rw [if_neg (by omega), g3 _ (by omega)]
      congr 2; omega
    · trivial
end
section
set_option maxRecDepth 4000
theorem setsOf1_q (s : GSet) (r0 : Int) : Ans Tryz.prog 222 [] [vR (cSet s), vP [dI r0]] [] (vB (s.region != r0)) := by
  refine con_enter Tryz.func222 rfl rfl rfl fun B0 r_ D_ w0 => ?_
  refine T_auto TT_ok rfl ?_
  exact T_ansB TT_ok [(3, none)] rfl rfl (rfl)
theorem setsOf_m (t : GTx) (r0 : Int) (hl : t.sets.length ≤ 1048576) : MkL Tryz.prog 162 [vP (cTx t), vI r0] 5 cSet GSet.z (setsAt r0 t.sets) := by
  refine con_enter Tryz.func162 rfl rfl rfl fun B0 r_ D_ w0 => ?_
  refine T_auto TT_ok rfl ?_
  refine RJ_C TT_ok (Con.sw 900 9 (cloneSet_m t.sets hl)) rfl rfl (SVs.imp_refl _) (fun _ => rfl) rfl rfl rfl fun _ _ => ?_
  refine RJ_auto TT_ok rfl ?_
  refine RJ_C TT_ok (Con.sw 900 9 (Con.sw 901 11 (deleteFuncSet_c t.sets hl fun s => s.region != r0))) rfl rfl (SVs.cons (SV.imp_refl _) (SVs.cons (imp_fb (enters_B (by kernel_rfl)) rfl fun args x ⟨s, h1, h2⟩ => by subst h1; subst h2; exact setsOf1_q s r0) rfl)) (fun _ => rfl) rfl rfl rfl fun _ _ => ?_
  refine RJ_auto TT_ok rfl ?_
  refine T_view (V_sw 11 900) ?_
  refine T_ret TT_ok (()) [(4, none)] rfl rfl ?_ ?_ ?_
  · exact SVs.imp_refl _
  · exact ⟨⟨_, rfl, imp_list (by simp [setsAt, bne])⟩, trivial⟩
  · trivial
end
end Go.Proofs.YtcikaknfogpeeaaGreat
namespace Go.Proofs.YtcikaknfogpeeaaGreat
open Go Go.RowKit
set_option linter.unusedVariables false
set_option linter.unusedSimpArgs false
section
set_option maxRecDepth 4000
def cmI (xs : List Int) : Nat → List Int
  | 0 => []
  | i + 1 => if i = 0 ∨ xs.getD i 0 ≠ xs.getD (i - 1) 0 then cmI xs i ++ [xs.getD i 0] else cmI xs i
theorem cmI_yes {xs : List Int} {i : Nat} (h : i = 0 ∨ xs.getD i 0 ≠ xs.getD (i - 1) 0) : cmI xs (i + 1) = cmI xs i ++ [xs.getD i 0] := by rw [cmI, if_pos h]
theorem cmI_no {xs : List Int} {i : Nat} (h : 0 < i) (e : xs.getD i 0 = xs.getD (i - 1) 0) : cmI xs (i + 1) = cmI xs i := by
  rw [cmI, if_neg]
  rintro (h1 | h1)
  · omega
  · exact h1 e
theorem cmI_take {xs : List Int} : ∀ {k : Nat}, k ≤ xs.length → (∀ j, 1 ≤ j → j < k → xs.getD j 0 ≠ xs.getD (j - 1) 0) → cmI xs k = xs.take k
  | 0, _, _ => by simp [cmI]
  | k + 1, hk, h => by
    rw [cmI_yes, cmI_take (by omega) fun j h1 h2 => h j h1 (by omega), take_succ_getD (z := 0) (by omega)]
    by_cases c : k = 0
    · exact .inl c
    · exact .inr (h k (by omega) (by omega))
theorem cmI_le {xs : List Int} : ∀ {k : Nat}, (cmI xs k).length ≤ k
  | 0 => Nat.le_refl _
  | k + 1 => by
    have := cmI_le (xs := xs) (k := k)
    rw [cmI]; split
    · simp; omega
    · omega
theorem compact_c (xs : List Int) (hl : xs.length ≤ 1048576) : Con Tryz.prog 216 [900] [.a (.g 900)] [(900, arrC 1 cInt 0 xs)] (fun _ : Unit => True) (fun _ => [.a (.g 901)]) fun _ => [(901, arrC 1 cInt 0 (cmI xs xs.length))] := by
  refine con_enter Tryz.func216 rfl rfl rfl fun B0 r_ D_ w0 => ?_
  refine T_auto TT_ok rfl ?_
  refine T_condD rfl (fun e => ?_) (fun e => ?_)
  · have hq : cmI xs xs.length = xs := by
      rw [cmI_take (Nat.le_refl _) fun j h1 h2 => by omega, List.take_length]
    refine T_auto TT_ok rfl ?_
    refine T_view (V_ren 2 900 901 rfl rfl rfl rfl rfl rfl) ?_
    refine T_ret TT_ok (()) [(2, none)] rfl rfl ?_ ?_ ?_
    · exact SVs.imp_refl _
    · exact ⟨⟨_, rfl, imp_list hq.symm⟩, trivial⟩
    · trivial
  refine T_auto TT_ok rfl ?_
  refine T_loopA (ι := Nat) (fun k => [(3, vI k)]) (fun _ => []) (fun k => 1 ≤ k ∧ k ≤ xs.length ∧ ∀ j, 1 ≤ j → j < k → xs.getD j 0 ≠ xs.getD (j - 1) 0) (fun k => xs.length - k) 1 [] [] rfl rfl ⟨Nat.le_refl _, by omega, fun j h1 h2 => by omega⟩ (by repeat (first | exact trivial | refine And.intro ⟨_, rfl, SV.imp_refl _⟩ ?_)) (by repeat (first | exact trivial | refine And.intro ⟨_, rfl, Ch.imp_refl _⟩ ?_)) ?_
  intro k ⟨h1, h2, h3⟩
  have hpred : ((k : Int) - 1).toNat = k - 1 := by omega
  refine T_auto TT_ok rfl ?_
  refine T_condD rfl (fun e => ?_) (fun e => ?_)
  · have hk : k < xs.length := by omega
    refine T_auto TT_ok rfl ?_
    refine T_drawA TT_ok [] rfl rfl fun B0 H0 => ?_
    refine DJ_endA TT_ok rfl ?_
    refine T_condE rfl (fun e2 => ?_) (fun e2 => ?_)
    · rw [hpred] at e2
      have e2 : xs.getD k 0 = xs.getD (k - 1) 0 := e2
      have hC : cmI xs (k + 1) = xs.take k := by rw [cmI_no h1 e2, cmI_take h2 h3]
      refine T_auto TT_ok rfl ?_
      refine T_loopA (ι := Nat × (Nat → Int)) (fun y => [(5, vI y.1), (3, vI (cmI xs (k + y.1)).length)]) (fun y => [(900, .arr 1 xs.length fun i => cInt (y.2 i))])
        (fun y => 1 ≤ y.1 ∧ k + y.1 ≤ xs.length ∧ (cmI xs (k + y.1)).length < k + y.1 ∧ (∀ i, i < (cmI xs (k + y.1)).length → y.2 i = (cmI xs (k + y.1)).getD i 0) ∧ ∀ i, (cmI xs (k + y.1)).length ≤ i → i < xs.length → y.2 i = xs.getD i 0)
        (fun y => xs.length - y.1) (1, fun i => xs.getD i 0) [900] [] rfl rfl ⟨Nat.le_refl _, hk, by dsimp only; rw [hC, List.length_take]; omega, fun i hi => ?_, fun _ _ _ => rfl⟩ ⟨⟨_, rfl, SV.imp_refl _⟩, ⟨_, rfl, SV.imp_of (vI_eq ?_)⟩, trivial⟩ (by repeat (first | exact trivial | refine And.intro ⟨_, rfl, Ch.imp_refl _⟩ ?_)) ?_
      · dsimp only at hi ⊢
        rw [hC] at hi ⊢
        exact (getD_take hi).symm
      · dsimp only
        rw [hC, List.length_take, Nat.min_eq_left h2]
      rintro ⟨j, h⟩ ⟨g1, g2, g3, g4, g5⟩
      dsimp only at g1 g2 g3 g4 g5 ⊢
      refine T_auto TT_ok rfl ?_
      refine T_condD rfl (fun e3 => ?_) (fun e3 => ?_)
      · have hj : k + j < xs.length := by omega
        have hpj : ((k : Int) + ((j : Int) - 1)).toNat = k + j - 1 := by omega
        refine T_auto TT_ok rfl ?_
        refine T_drawA TT_ok [] rfl rfl fun B0 H0 => ?_
        refine DJ_endA TT_ok rfl ?_
        refine T_condN rfl (fun e4 => ?_) (fun e4 => ?_)
        · rw [hpj] at e4
          have e4 : h (k + j) ≠ h (k + j - 1) := e4
          rw [g5 _ (by omega) hj, g5 _ (by omega) (by omega)] at e4
          have hF := cmI_yes (.inr e4)
          refine T_auto TT_ok rfl ?_
          refine X_inv (j + 1, fun i => if i = (cmI xs (k + j)).length then h (k + j) else h i) ⟨by omega, hj, ?_, fun i hi => ?_, fun i i1 i2 => ?_⟩ (by show xs.length - (j + 1) < xs.length - j; omega) ?_ ⟨⟨_, rfl, Ch.imp_arr fun i hi => ?_⟩, (by repeat (first | exact trivial | refine And.intro ⟨_, rfl, Ch.imp_refl _⟩ ?_))⟩
          · show (cmI xs (k + j + 1)).length < _
            rw [hF, List.length_append, List.length_singleton]; omega
          · have hi : i < (cmI xs (k + j + 1)).length := hi
            show (if _ then _ else _) = (cmI xs (k + j + 1)).getD i 0
            rw [hF, List.length_append, List.length_singleton] at hi
            rw [hF]
            by_cases c : i = (cmI xs (k + j)).length
            · rw [if_pos c, c, getD_app_eq, g5 _ (by omega) hj]
            · rw [if_neg c, getD_app_lt (by omega)]; exact g4 i (by omega)
          · have i1 : (cmI xs (k + j + 1)).length ≤ i := i1
            rw [hF, List.length_append, List.length_singleton] at i1
            show (if _ then _ else _) = _
            rw [if_neg (by omega)]; exact g5 i (by omega) i2
          · refine And.intro ⟨_, rfl, SV.imp_refl _⟩ (And.intro ⟨_, rfl, SV.imp_of (vI_eq ?_)⟩ (by repeat (first | exact trivial | refine And.intro ⟨_, rfl, SV.imp_refl _⟩ ?_)))
            show _ = (((cmI xs (k + j + 1)).length : Nat) : Int)
            rw [hF, List.length_append, List.length_singleton]; simp
          · dsimp only
            by_cases c : i = (cmI xs (k + j)).length
            · subst c
              simp only [Int.toNat_natCast, Nat.beq_refl, cond_true, if_true]
              rfl
            · rw [if_neg c]
              have : Nat.beq i (((cmI xs (k + j)).length : Nat) : Int).toNat = false := by
                simp only [Int.toNat_natCast]
                cases e : Nat.beq i (cmI xs (k + j)).length with
                | false => rfl
                | true => exact absurd (Nat.eq_of_beq_eq_true e) c
              rw [this]; rfl
        · rw [hpj] at e4
          have e4 : h (k + j) = h (k + j - 1) := e4
          rw [g5 _ (by omega) hj, g5 _ (by omega) (by omega)] at e4
          have hF := cmI_no (by omega) e4
          refine T_auto TT_ok rfl ?_
          refine X_inv (j + 1, h) ⟨by omega, hj, by show (cmI xs (k + j + 1)).length < _; rw [hF]; omega, fun i hi => ?_, fun i i1 i2 => ?_⟩ (by show xs.length - (j + 1) < xs.length - j; omega) ?_ (by repeat (first | exact trivial | refine And.intro ⟨_, rfl, Ch.imp_refl _⟩ ?_))
          · have hi : i < (cmI xs (k + j + 1)).length := hi
            show _ = (cmI xs (k + j + 1)).getD i 0
            rw [hF] at hi ⊢; exact g4 i hi
          · have i1 : (cmI xs (k + j + 1)).length ≤ i := i1
            rw [hF] at i1; exact g5 i i1 i2
          · refine And.intro ⟨_, rfl, SV.imp_refl _⟩ (And.intro ⟨_, rfl, SV.imp_of (vI_eq ?_)⟩ (by repeat (first | exact trivial | refine And.intro ⟨_, rfl, SV.imp_refl _⟩ ?_)))
            show _ = (((cmI xs (k + j + 1)).length : Nat) : Int)
            rw [hF]
      · have hj : k + j = xs.length := by omega
        rw [hj] at g3 g4 g5 ⊢
        refine T_auto TT_ok rfl ?_
        refine RJ_clear TT_ok 56 900 rfl rfl rfl rfl rfl rfl ⟨by omega, by omega, by omega⟩ rfl rfl rfl rfl ?_
        refine RJ_auto TT_ok rfl ?_
        refine T_view (V_cut 2 900 901 rfl rfl rfl ⟨by omega, by omega, by omega⟩ rfl rfl rfl) ?_
        refine T_ret TT_ok (()) [(2, none)] rfl rfl ?_ ?_ ?_
        · exact SVs.imp_refl _
        · refine ⟨⟨_, rfl, Ch.imp_len (by omega) fun i hi => ?_⟩, trivial⟩
          dsimp only
          rw [if_neg (by omega), g4 _ (by omega)]
          congr 2; omega
        · trivial
    · rw [hpred] at e2
      refine T_auto TT_ok rfl ?_
      refine X_inv (k + 1) ⟨by omega, hk, fun j j1 j2 => ?_⟩ (by omega) (by repeat (first | exact trivial | refine And.intro ⟨_, rfl, SV.imp_refl _⟩ ?_)) (by repeat (first | exact trivial | refine And.intro ⟨_, rfl, Ch.imp_refl _⟩ ?_))
      by_cases c : j = k
      · subst c; exact e2
      · exact h3 j j1 (by omega)
  · have hk : k = xs.length := by omega
    subst hk
    refine T_auto TT_ok rfl ?_
    refine T_view (V_ren 2 900 901 rfl rfl rfl rfl rfl rfl) ?_
    refine T_ret TT_ok (()) [(2, none)] rfl rfl ?_ ?_ ?_
    · exact SVs.imp_refl _
    · exact ⟨⟨_, rfl, imp_list (by rw [cmI_take h2 h3, List.take_length])⟩, trivial⟩
    · trivial
def wantsF (l : List Int) : Nat → List Int
  | 0 => []
  | i + 1 => if l.getD i 0 ∈ wantsF l i then wantsF l i else wantsF l i ++ [l.getD i 0]
theorem wantsF_le {xs : List Int} : ∀ {k : Nat}, (wantsF xs k).length ≤ k
  | 0 => Nat.le_refl _
  | k + 1 => by
    have := wantsF_le (xs := xs) (k := k)
    rw [wantsF]; split
    · omega
    · simp; omega
theorem wantsF_cm {l : List Int} : ∀ {k : Nat}, k ≤ l.length → (∀ j, 0 < j → j < k → l.getD (j - 1) 0 ≤ l.getD j 0) → wantsF l k = cmI l k ∧ (0 < k → l.getD (k - 1) 0 ∈ wantsF l k ∧ ∀ x ∈ wantsF l k, x ≤ l.getD (k - 1) 0)
  | 0, _, _ => ⟨rfl, fun h => absurd h (Nat.lt_irrefl _)⟩
  | k + 1, hk, h => by
    obtain ⟨h1, h2⟩ := wantsF_cm (l := l) (k := k) (by omega) fun j j1 j2 => h j j1 (by omega)
    by_cases c : l.getD k 0 ∈ wantsF l k
    · have hk0 : 0 < k := by
        rcases Nat.eq_zero_or_pos k with e | e
        · subst e; cases c
        · exact e
      have e : l.getD k 0 = l.getD (k - 1) 0 := Int.le_antisymm ((h2 hk0).2 _ c) (h k hk0 (by omega))
      refine ⟨by rw [wantsF, if_pos c, h1, cmI_no hk0 e], fun _ => ?_⟩
      rw [wantsF, if_pos c, Nat.add_sub_cancel, e]
      exact h2 hk0
    · refine ⟨?_, fun _ => ?_⟩
      · rw [wantsF, if_neg c, h1, cmI_yes]
        rcases Nat.eq_zero_or_pos k with e | e
        · exact .inl e
        · right; intro e2; rw [e2] at c; exact c (h2 e).1
      · rw [wantsF, if_neg c, Nat.add_sub_cancel]
        refine ⟨by simp, fun x hx => ?_⟩
        rw [List.mem_append] at hx
        rcases hx with hx | hx
        · rcases Nat.eq_zero_or_pos k with e | e
          · subst e; cases hx
          · exact Int.le_trans ((h2 e).2 x hx) (h k e (by omega))
        · simp at hx; rw [hx]; exact Int.le_refl _
end
section
set_option maxRecDepth 4000
theorem mem_getD {xs : List Int} {i : Nat} (h : i < xs.length) : xs.getD i 0 ∈ xs := by simp [h]
theorem mem_iff_getD {xs : List Int} {n : Int} : n ∈ xs ↔ ∃ i, i < xs.length ∧ xs.getD i 0 = n := by
  rw [List.mem_iff_getElem]
  constructor
  · rintro ⟨i, h, e⟩; exact ⟨i, h, by simp [h, e]⟩
  · rintro ⟨i, h, e⟩; exact ⟨i, h, by simpa [h] using e⟩
theorem l3Has_q (xs : List Int) (hl : xs.length ≤ 1048576) (n : Int) : Ans Tryz.prog 46 [] [vL 1 cInt 0 xs, vI n] [] (vB (decide (n ∈ xs))) := by
  refine con_enter Tryz.func46 rfl rfl rfl fun B0 r_ D_ w0 => ?_
  refine T_auto TT_ok rfl ?_
  refine T_loopA (ι := Nat) (fun i => [(5, vI i)]) (fun _ => []) (fun i => i ≤ xs.length ∧ ∀ j, j < i → xs.getD j 0 ≠ n) (fun i => xs.length - i) 0 [] [] rfl rfl ⟨Nat.zero_le _, fun j hj => absurd hj (Nat.not_lt_zero _)⟩ (by repeat (first | exact trivial | refine And.intro ⟨_, rfl, SV.imp_refl _⟩ ?_)) (by repeat (first | exact trivial | refine And.intro ⟨_, rfl, Ch.imp_refl _⟩ ?_)) ?_
  intro i ⟨h1, h2⟩
  refine T_auto TT_ok rfl ?_
  refine T_condD rfl (fun e => ?_) (fun e => ?_)
  · have hi : i < xs.length := by omega
    refine T_auto TT_ok rfl ?_
    refine T_condE rfl (fun e2 => ?_) (fun e2 => ?_)
    · refine T_auto TT_ok rfl ?_
      exact T_ansB TT_ok [(4, none)] rfl rfl ((decide_eq_true (mem_iff_getD.2 ⟨i, hi, e2⟩)).symm)
    · refine T_auto TT_ok rfl ?_
      exact X_inv (i + 1) ⟨hi, before_succ h2 e2⟩ (by omega) (by repeat (first | exact trivial | refine And.intro ⟨_, rfl, SV.imp_refl _⟩ ?_)) (by repeat (first | exact trivial | refine And.intro ⟨_, rfl, Ch.imp_refl _⟩ ?_))
  · refine T_auto TT_ok rfl ?_
    exact T_ansB TT_ok [(4, none)] rfl rfl ((decide_eq_false fun h => by obtain ⟨j, j1, j2⟩ := mem_iff_getD.1 h; exact h2 j (by omega) j2).symm)
abbrev regsOf (t : GTx) : List Int := t.sets.map GSet.region
theorem regsOf_at (t : GTx) (i : Nat) : (regsOf t).getD i 0 = (t.sets.getD i GSet.z).region := by
  simp only [regsOf, List.getD_eq_getElem?_getD, List.getElem?_map]
  cases t.sets[i]? <;> rfl
theorem regsOf_len (t : GTx) : (regsOf t).length = t.sets.length := List.length_map _
theorem l7Wants_m (t : GTx) (hl : t.sets.length ≤ 1048576) : MkL Tryz.prog 112 [vR (cTx t)] 1 cInt 0 (wantsF (regsOf t) t.sets.length) := by
  refine con_enter Tryz.func112 rfl rfl rfl fun B0 r_ D_ w0 => ?_
  refine T_auto TT_ok rfl ?_
  refine RJ_bs TT_ok 5 (fun i => cInt (([] : List Int).getD i 0)) rfl rfl rfl rfl rfl rfl rfl (fun i hi => absurd hi (Nat.not_lt_zero _)) (mu1 := []) rfl rfl rfl ?_
  refine RJ_auto TT_ok rfl ?_
  refine T_loopA (ι := Nat) (fun i => [(4, vI i), (3, .a (.g 5))]) (fun i => [(5, arrC 1 cInt 0 (wantsF (regsOf t) i))]) (fun i => i ≤ t.sets.length) (fun i => t.sets.length - i) 0 [5] [5] rfl rfl (Nat.zero_le _) (by repeat (first | exact trivial | refine And.intro ⟨_, rfl, SV.imp_refl _⟩ ?_)) (by repeat (first | exact trivial | refine And.intro ⟨_, rfl, Ch.imp_refl _⟩ ?_)) ?_
  intro i h1
  refine T_auto TT_ok rfl ?_
  refine T_condD rfl (fun e => ?_) (fun e => ?_)
  · have hi : i < t.sets.length := by omega
    have hle := wantsF_le (xs := regsOf t) (k := i)
    refine T_auto TT_ok rfl ?_
    refine RJ_Q TT_ok (l3Has_q _ (by omega) _) rfl rfl rfl rfl rfl ?_
    refine T_condX rfl (fun e2 => ?_) (fun e2 => ?_)
    · have e3 : ¬ (regsOf t).getD i 0 ∈ wantsF (regsOf t) i := by rw [regsOf_at]; exact of_decide_eq_false e2
      refine T_auto TT_ok rfl ?_
      refine RJ_bs TT_ok 29 (fun _ => cInt (t.sets.getD i GSet.z).region) rfl rfl rfl rfl rfl rfl rfl (fun i hi => by rcases i with _ | i <;> first | rfl | omega) (mu1 := []) rfl rfl rfl ?_
      refine RJ_auto TT_ok rfl ?_
      refine RJ_appM TT_ok 5 29 30 rfl rfl rfl rfl rfl rfl rfl rfl rfl rfl rfl rfl ⟨by simp; omega, by unfold maxL; omega⟩ ?_
      refine RJ_auto TT_ok rfl ?_
      refine X_view (V_sw 5 30) ?_
      exact X_inv (i + 1) hi (by omega) (by repeat (first | exact trivial | refine And.intro ⟨_, rfl, SV.imp_refl _⟩ ?_)) ⟨⟨_, rfl, imp_app1 (x := (t.sets.getD i GSet.z).region) (by rw [wantsF, if_neg e3, regsOf_at]) rfl⟩, (by repeat (first | exact trivial | refine And.intro ⟨_, rfl, Ch.imp_refl _⟩ ?_))⟩
    · have e3 : (regsOf t).getD i 0 ∈ wantsF (regsOf t) i := by rw [regsOf_at]; exact of_decide_eq_true e2
      refine T_auto TT_ok rfl ?_
      exact X_inv (i + 1) hi (by omega) (by repeat (first | exact trivial | refine And.intro ⟨_, rfl, SV.imp_refl _⟩ ?_)) ⟨⟨_, rfl, imp_list (by rw [wantsF, if_pos e3])⟩, (by repeat (first | exact trivial | refine And.intro ⟨_, rfl, Ch.imp_refl _⟩ ?_))⟩
  · have hi : i = t.sets.length := by omega
    subst hi
    refine T_auto TT_ok rfl ?_
    refine T_view (V_sw 5 900) ?_
    refine T_ret TT_ok (()) [(2, none)] rfl rfl ?_ ?_ ?_
    · exact SVs.imp_refl _
    · exact ⟨⟨_, rfl, Ch.imp_refl _⟩, trivial⟩
    · trivial
theorem wants_m (t : GTx) (hl : t.sets.length ≤ 1048576) : MkL Tryz.prog 155 [vP (cTx t)] 1 cInt 0 (cmI (regsOf t) (regsOf t).length) := by
  have hln := regsOf_len t
  refine con_enter Tryz.func155 rfl rfl rfl fun B0 r_ D_ w0 => ?_
  refine T_auto TT_ok rfl ?_
  refine T_view (V_nil 3 7 1 (fun i => cInt (([] : List Int).getD i 0)) rfl rfl rfl rfl) ?_
  refine T_loopA (ι := Nat) (fun i => [(11, vI i), (3, .a (.g 7))]) (fun i => [(7, arrC 1 cInt 0 ((regsOf t).take i))]) (fun i => i ≤ t.sets.length) (fun i => t.sets.length - i) 0 [7] [7] rfl rfl (Nat.zero_le _) (by repeat (first | exact trivial | refine And.intro ⟨_, rfl, SV.imp_refl _⟩ ?_)) (by repeat (first | exact trivial | refine And.intro ⟨_, rfl, Ch.imp_refl _⟩ ?_)) ?_
  intro i h1
  refine T_auto TT_ok rfl ?_
  refine T_condD rfl (fun e => ?_) (fun e => ?_)
  · have hi : i < t.sets.length := by omega
    have hle : ((regsOf t).take i).length ≤ i := by rw [List.length_take]; omega
    refine T_auto TT_ok rfl ?_
    refine RJ_bs TT_ok 18 (fun _ => cInt (t.sets.getD i GSet.z).region) rfl rfl rfl rfl rfl rfl rfl (fun i hi => by rcases i with _ | i <;> first | rfl | omega) (mu1 := []) rfl rfl rfl ?_
    refine RJ_auto TT_ok rfl ?_
    refine RJ_appM TT_ok 7 18 19 rfl rfl rfl rfl rfl rfl rfl rfl rfl rfl rfl rfl ⟨by simp; omega, by unfold maxL; omega⟩ ?_
    refine RJ_auto TT_ok rfl ?_
    refine X_view (V_sw 7 19) ?_
    exact X_inv (i + 1) hi (by omega) (by repeat (first | exact trivial | refine And.intro ⟨_, rfl, SV.imp_refl _⟩ ?_)) ⟨⟨_, rfl, imp_app1 (x := (t.sets.getD i GSet.z).region) (by rw [take_succ_getD (z := 0) (by omega), regsOf_at]) rfl⟩, (by repeat (first | exact trivial | refine And.intro ⟨_, rfl, Ch.imp_refl _⟩ ?_))⟩
  · have hi : i = t.sets.length := by omega
    subst hi
    rw [List.take_of_length_le (by omega)]
    refine T_auto TT_ok rfl ?_
    refine RJ_C TT_ok (Con.sw 900 7 (Con.sw 901 22 (compact_c (regsOf t) (by omega)))) rfl rfl (SVs.imp_refl _) (fun _ => rfl) rfl rfl rfl fun _ _ => ?_
    refine RJ_auto TT_ok rfl ?_
    refine T_view (V_sw 22 900) ?_
    refine T_ret TT_ok (()) [(2, none)] rfl rfl ?_ ?_ ?_
    · exact SVs.imp_refl _
    · exact ⟨⟨_, rfl, Ch.imp_refl _⟩, trivial⟩
    · trivial
theorem wants_eq {t : GTx} (h : TxOk t) : wantsF (regsOf t) t.sets.length = cmI (regsOf t) (regsOf t).length := by
  rw [regsOf_len]
  refine (wantsF_cm (by rw [regsOf_len]; exact Nat.le_refl _) fun j h1 h2 => ?_).1
  rw [regsOf_at, regsOf_at]
  have := (h.2.2 j h2).2 h1
  unfold lessS at this
  omega
theorem eqInt64S_q (xs : List Int) (hl : xs.length ≤ 1048576) : Ans Tryz.prog 170 [] [vL 1 cInt 0 xs, vL 1 cInt 0 xs] [] (vB true) := by
  refine con_enter Tryz.func170 rfl rfl rfl fun B0 r_ D_ w0 => ?_
  refine T_auto TT_ok rfl ?_
  refine T_condN rfl (fun e => absurd rfl e) (fun _ => ?_)
  refine T_auto TT_ok rfl ?_
  refine T_loopA (ι := Nat) (fun i => [(5, vI i)]) (fun _ => []) (fun i => i ≤ xs.length) (fun i => xs.length - i) 0 [] [] rfl rfl (Nat.zero_le _) (by repeat (first | exact trivial | refine And.intro ⟨_, rfl, SV.imp_refl _⟩ ?_)) (by repeat (first | exact trivial | refine And.intro ⟨_, rfl, Ch.imp_refl _⟩ ?_)) ?_
  intro i h1
  refine T_auto TT_ok rfl ?_
  refine T_condD rfl (fun e => ?_) (fun e => ?_)
  · have hi : i < xs.length := by omega
    refine T_auto TT_ok rfl ?_
    refine T_drawA TT_ok [] rfl rfl fun B0 H0 => ?_
    refine DJ_endA TT_ok rfl ?_
    refine T_condN rfl (fun e => absurd rfl e) (fun _ => ?_)
    refine T_auto TT_ok rfl ?_
    exact X_inv (i + 1) hi (by omega) (by repeat (first | exact trivial | refine And.intro ⟨_, rfl, SV.imp_refl _⟩ ?_)) (by repeat (first | exact trivial | refine And.intro ⟨_, rfl, Ch.imp_refl _⟩ ?_))
  · refine T_auto TT_ok rfl ?_
    exact T_ansB TT_ok [(4, none)] rfl rfl (rfl)
theorem markInt64S_c (xs : List Int) (hl : xs.length ≤ 1048576) (k0 : Int) (h1 : 0 ≤ k0) (h2 : k0 ≤ 1099511627776) : Con Tryz.prog 93 [900] [.a (.g 900), vI k0] [(900, arrC 1 cInt 0 xs)] (fun _ : Unit => True) (fun _ => [vI (k0 + 1 * xs.length)]) fun _ => [(900, .arr 1 xs.length fun j => cInt (k0 + 1 * j))] := by
  refine con_enter Tryz.func93 rfl rfl rfl fun B0 r_ D_ w0 => ?_
  refine T_auto TT_ok rfl ?_
  refine T_loopA (ι := Nat) (fun i => [(5, vI i), (1, vI (k0 + 1 * i))]) (fun i => [(900, .arr 1 xs.length fun j => cInt (if j < i then k0 + 1 * (j : Nat) else xs.getD j 0))]) (fun i => i ≤ xs.length) (fun i => xs.length - i) 0 [900] [] rfl rfl (Nat.zero_le _) ⟨⟨_, rfl, SV.imp_refl _⟩, ⟨_, rfl, SV.imp_of (vI_eq (by simp))⟩, trivial⟩ ⟨⟨_, rfl, Ch.imp_arr fun k hk => by rw [if_neg (Nat.not_lt_zero _)]⟩, trivial⟩ ?_
  intro i h3
  refine T_auto TT_ok rfl ?_
  refine T_condD rfl (fun e => ?_) (fun e => ?_)
  · have hi : i < xs.length := by omega
    refine T_auto TT_ok rfl ?_
    exact X_inv (i + 1) hi (by omega) ⟨⟨_, rfl, SV.imp_refl _⟩, ⟨_, rfl, SV.imp_of (vI_eq (by omega))⟩, (by repeat (first | exact trivial | refine And.intro ⟨_, rfl, SV.imp_refl _⟩ ?_))⟩ ⟨⟨_, rfl, Ch.imp_arr fun k hk => fill_step2 (i := i) (k := k) (fun x => cInt x) (fun j => k0 + 1 * (j : Nat)) (o := fun j => xs.getD j 0) (by rfl)⟩, (by repeat (first | exact trivial | refine And.intro ⟨_, rfl, Ch.imp_refl _⟩ ?_))⟩
  · have hi : i = xs.length := by omega
    subst hi
    refine T_auto TT_ok rfl ?_
    refine T_ret TT_ok (()) [(4, none)] rfl rfl ?_ ?_ ?_
    · exact SVs.imp_refl _
    · exact ⟨⟨_, rfl, Ch.imp_arr fun k hk => by rw [if_pos hk]⟩, trivial⟩
    · trivial
theorem heldInt64S_q (n : Nat) (hl : n ≤ 1048576) (k0 : Int) (h1 : 0 ≤ k0) (h2 : k0 ≤ 1099511627776) : Ans Tryz.prog 98 [] [.a (.s .r 1 n fun j => cInt (k0 + 1 * j)), vI k0] [] (vI (k0 + 1 * n)) := by
  refine con_enter Tryz.func98 rfl rfl rfl fun B0 r_ D_ w0 => ?_
  refine T_auto TT_ok rfl ?_
  refine T_loopA (ι := Nat) (fun i => [(5, vI i), (1, vI (k0 + 1 * i))]) (fun _ => []) (fun i => i ≤ n) (fun i => n - i) 0 [] [] rfl rfl (Nat.zero_le _) ⟨⟨_, rfl, SV.imp_refl _⟩, ⟨_, rfl, SV.imp_of (vI_eq (by simp))⟩, trivial⟩ (by repeat (first | exact trivial | refine And.intro ⟨_, rfl, Ch.imp_refl _⟩ ?_)) ?_
  intro i h3
  refine T_auto TT_ok rfl ?_
  refine T_condD rfl (fun e => ?_) (fun e => ?_)
  · have hi : i < n := by omega
    refine T_auto TT_ok rfl ?_
    refine T_condN rfl (fun e => absurd rfl e) (fun _ => ?_)
    refine T_auto TT_ok rfl ?_
    exact X_inv (i + 1) hi (by omega) ⟨⟨_, rfl, SV.imp_refl _⟩, ⟨_, rfl, SV.imp_of (vI_eq (by omega))⟩, (by repeat (first | exact trivial | refine And.intro ⟨_, rfl, SV.imp_refl _⟩ ?_))⟩ (by repeat (first | exact trivial | refine And.intro ⟨_, rfl, Ch.imp_refl _⟩ ?_))
  · have hi : i = n := by omega
    subst hi
    refine T_auto TT_ok rfl ?_
    exact T_ansI TT_ok [(4, none)] rfl rfl (rfl)
end
end Go.Proofs.YtcikaknfogpeeaaGreat
namespace Go.Proofs.YtcikaknfogpeeaaGreat
open Go Go.RowKit
set_option linter.unusedVariables false
set_option linter.unusedSimpArgs false
set_option maxRecDepth 4000
structure GPlace where
  machines : List Int
def GPlace.z : GPlace := ⟨[]⟩
structure GRecord where
  kind : Int
  tx : Int
  region : Int
  sets : List GSet
def GRecord.z : GRecord := ⟨0, 0, 0, []⟩
structure GCopy where
  region : Int
  cells : List GCell
def GCopy.z : GCopy := ⟨0, []⟩
structure GMachine where
  alive : Bool
  copies : List GCopy
  log : List GRecord
  cleared : List Int
def GMachine.z : GMachine := ⟨false, [], [], []⟩
structure GCluster where
  config : Int
  clock : Int
  places : List GPlace
  machines : List GMachine
  txs : List GTx
  lost : Bool
def GCluster.z : GCluster := ⟨0, 0, [], [], [], false⟩
def cPlace (p : GPlace) : List D := [dL 1 cInt 0 p.machines]
def cRecord (r : GRecord) : List D := [dI r.kind, dI r.tx, dI r.region, dL 5 cSet GSet.z r.sets]
def cCopy (c : GCopy) : List D := [dI c.region, dL 2 cCell GCell.z c.cells]
def cMachine (m : GMachine) : List D := [dB m.alive, dL 2 cCopy GCopy.z m.copies, dL 4 cRecord GRecord.z m.log, dL 1 cInt 0 m.cleared]
def cCluster (c : GCluster) : List D := [dI c.config, dI c.clock, dL 1 cPlace GPlace.z c.places, dL 4 cMachine GMachine.z c.machines, dL 7 cTx GTx.z c.txs, dB c.lost]
mutual
def D.bd (N : Nat) : D → Prop
  | .v _ => True
  | .sl _ n f => n ≤ N ∧ ∀ i, i < n → D.bds N (f i)
  | .pt l _ => D.bds N l
def D.bds (N : Nat) : List D → Prop
  | [] => True
  | x :: r => D.bd N x ∧ D.bds N r
end
mutual
theorem D.rd_bd {h : PH} : ∀ (x : D) {y : Value}, D.rd h x y → D.bd maxL x
  | .v _, _, _ => trivial
  | .sl sz n f, y, e => by
    obtain ⟨A, c, e1, e2, e3, e4⟩ := e
    refine ⟨e3, fun i hi => ?_⟩
    rcases e4 with e4 | ⟨b, o, _, e6⟩
    · omega
    · obtain ⟨row, r1, _⟩ := e6 i hi
      exact D.rds_bd (f i) r1
  | .pt l o, y, e => by
    obtain ⟨b, x, vs, e1, e2, e3⟩ := e
    exact D.rds_bd l e2
theorem D.rds_bd {h : PH} : ∀ (x : List D) {y : List Value}, D.rds h x y → D.bds maxL x
  | [], _, _ => trivial
  | x :: r, y, e => by
    obtain ⟨a, t, e1, e2, e3⟩ := e
    exact ⟨D.rd_bd x e2, D.rds_bd r e3⟩
end
def sumW {α : Type} (w : α → Nat) : List α → Nat
  | [] => 0
  | x :: r => w x + sumW w r
section
variable {α : Type} {w : α → Nat} {z : α}
theorem sumW_append : ∀ (l m : List α), sumW w (l ++ m) = sumW w l + sumW w m
  | [], m => by simp [sumW]
  | x :: r, m => by simp [sumW, sumW_append r m]; omega
theorem sumW_take {xs : List α} {i : Nat} (h : i < xs.length) : sumW w (xs.take (i + 1)) = sumW w (xs.take i) + w (xs.getD i z) := by
  rw [take_succ_getD (z := z) h, sumW_append]; simp [sumW]
theorem sumW_take_le (xs : List α) (i : Nat) : sumW w (xs.take i) ≤ sumW w xs := by
  conv => rhs; rw [← List.take_append_drop i xs]
  rw [sumW_append]; omega
theorem sumW_get {xs : List α} {i : Nat} (h : i < xs.length) : w (xs.getD i z) ≤ sumW w xs := by
  have h1 := sumW_take (w := w) (z := z) h
  have h2 := sumW_take_le (w := w) xs (i + 1)
  omega
theorem sumW_bound {m : α → Nat} {c : Nat} (h : ∀ x, m x ≤ c * (1 + w x)) : ∀ xs : List α, sumW m xs ≤ c * (xs.length + sumW w xs)
  | [] => by simp [sumW]
  | x :: r => by
    have h1 := h x
    have h2 := sumW_bound h r
    simp only [sumW, List.length_cons]
    have : c * (r.length + 1 + (w x + sumW w r)) = c * (1 + w x) + c * (r.length + sumW w r) := by rw [← Nat.mul_add]; congr 1; omega
    omega
end
def wL {α : Type} (w : α → Nat) (xs : List α) : Nat := xs.length + sumW w xs
def wPlace (p : GPlace) : Nat := p.machines.length
def wRecord (r : GRecord) : Nat := r.sets.length
def wCopy (c : GCopy) : Nat := c.cells.length
def wMachine (m : GMachine) : Nat := wL wCopy m.copies + wL wRecord m.log + m.cleared.length
def wTx (t : GTx) : Nat := t.reads.length + t.sets.length
def wCluster (c : GCluster) : Nat := wL wPlace c.places + wL wMachine c.machines + wL wTx c.txs
abbrev bigN : Nat := 1048576
theorem bd_flat {α : Type} {N sz : Nat} {enc : α → List D} {z : α} {xs : List α} (h : xs.length ≤ N) (hf : ∀ x, D.bds N (enc x)) : D.bd N (dL sz enc z xs) := ⟨h, fun _ _ => hf _⟩
theorem bd_list {α : Type} {N sz : Nat} {enc : α → List D} {z : α} {w : α → Nat} {xs : List α} (h : wL w xs ≤ N) (hf : ∀ x, w x ≤ N → D.bds N (enc x)) : D.bd N (dL sz enc z xs) := by
  unfold wL at h
  exact ⟨by omega, fun i hi => hf _ (by have := sumW_get (w := w) (z := z) hi; omega)⟩
theorem bd_Int {N : Nat} (x : Int) : D.bds N (cInt x) := ⟨trivial, trivial⟩
theorem bd_Set {N : Nat} (x : GSet) : D.bds N (cSet x) := ⟨trivial, trivial, trivial, trivial, trivial, trivial⟩
theorem bd_Note {N : Nat} (x : GNote) : D.bds N (cNote x) := ⟨trivial, trivial, trivial, trivial, trivial, trivial⟩
theorem bd_Cell {N : Nat} (x : GCell) : D.bds N (cCell x) := ⟨trivial, trivial, trivial⟩
theorem bd_Place {N : Nat} (x : GPlace) (h : wPlace x ≤ N) : D.bds N (cPlace x) := ⟨bd_flat h bd_Int, trivial⟩
theorem bd_Record {N : Nat} (x : GRecord) (h : wRecord x ≤ N) : D.bds N (cRecord x) := ⟨trivial, trivial, trivial, bd_flat h bd_Set, trivial⟩
theorem bd_Copy {N : Nat} (x : GCopy) (h : wCopy x ≤ N) : D.bds N (cCopy x) := ⟨trivial, bd_flat h bd_Cell, trivial⟩
theorem bd_Machine {N : Nat} (x : GMachine) (h : wMachine x ≤ N) : D.bds N (cMachine x) := by
  unfold wMachine at h
  exact ⟨trivial, bd_list (w := wCopy) (by omega) fun x h => bd_Copy x h, bd_list (w := wRecord) (by omega) fun x h => bd_Record x h, bd_flat (by omega) bd_Int, trivial⟩
theorem bd_Tx {N : Nat} (x : GTx) (h : wTx x ≤ N) : D.bds N (cTx x) := by
  unfold wTx at h
  exact ⟨trivial, trivial, trivial, trivial, bd_flat (by omega) bd_Note, bd_flat (by omega) bd_Set, trivial, trivial⟩
theorem bd_Cluster {N : Nat} (x : GCluster) (h : wCluster x ≤ N) : D.bds N (cCluster x) := by
  unfold wCluster at h
  exact ⟨trivial, trivial, bd_list (w := wPlace) (by omega) fun x h => bd_Place x h, bd_list (w := wMachine) (by omega) fun x h => bd_Machine x h, bd_list (w := wTx) (by omega) fun x h => bd_Tx x h, trivial, trivial⟩
def tab {α : Type} (n : Nat) (g : Nat → α) : List α := (List.range n).map g
theorem tab_length {α : Type} (n : Nat) (g : Nat → α) : (tab n g).length = n := by simp [tab]
theorem tab_getD {α : Type} {n : Nat} {g : Nat → α} {z : α} {i : Nat} (h : i < n) : (tab n g).getD i z = g i := by simp [tab, h]
theorem imp_tab {α : Type} {sz n : Nat} {enc : α → List D} {z : α} {g : Nat → α} : (Ch.arr sz n fun i => enc (g i)).imp (arrC sz enc z (tab n g)) := Ch.imp_len (tab_length n g).symm fun i hi => by rw [tab_getD hi]
def mkInt64L (xs : List Int) (k : Int) : List Int := tab xs.length fun j => k + (j : Nat)
def mkSetL (xs : List GSet) (k : Int) : List GSet := tab xs.length fun j => mkSet (k + 5 * (j : Nat))
def mkNoteL (xs : List GNote) (k : Int) : List GNote := tab xs.length fun j => mkNote (k + 5 * (j : Nat))
def mkCellL (xs : List GCell) (k : Int) : List GCell := tab xs.length fun j => mkCell (k + 2 * (j : Nat))
def mkL {α : Type} (mk : α → Int → α) (m : α → Nat) (z : α) (xs : List α) (k : Int) : List α := tab xs.length fun j => mk (xs.getD j z) (k + (sumW m (xs.take j) : Nat))
def mPlace (x : GPlace) : Nat := x.machines.length
def mkPlace (x : GPlace) (k : Int) : GPlace := ⟨mkInt64L x.machines k⟩
def mRecord (x : GRecord) : Nat := 3 + 5 * x.sets.length
def mkRecord (x : GRecord) (k : Int) : GRecord := ⟨k, k + 1, k + 1 + 1, mkSetL x.sets (k + 1 + 1 + 1)⟩
def mCopy (x : GCopy) : Nat := 1 + 2 * x.cells.length
def mkCopy (x : GCopy) (k : Int) : GCopy := ⟨k, mkCellL x.cells (k + 1)⟩
def mMachine (x : GMachine) : Nat := 1 + sumW mCopy x.copies + sumW mRecord x.log + x.cleared.length
def mkMachine (x : GMachine) (k : Int) : GMachine := ⟨k.tmod 3 == 0, mkL mkCopy mCopy GCopy.z x.copies (k + 1), mkL mkRecord mRecord GRecord.z x.log (k + 1 + sumW mCopy x.copies), mkInt64L x.cleared (k + 1 + sumW mCopy x.copies + sumW mRecord x.log)⟩
def mTx (x : GTx) : Nat := 5 + 5 * x.reads.length + 5 * x.sets.length
def mkTx (x : GTx) (k : Int) : GTx := ⟨k, k + 1, k + 1 + 1, k + 1 + 1 + 1, mkNoteL x.reads (k + 1 + 1 + 1 + 1), mkSetL x.sets (k + 1 + 1 + 1 + 1 + 5 * x.reads.length), k + 1 + 1 + 1 + 1 + 5 * x.reads.length + 5 * x.sets.length⟩
def mCluster (x : GCluster) : Nat := sumW mPlace x.places + sumW mMachine x.machines + sumW mTx x.txs
def mkCluster (x : GCluster) (k : Int) : GCluster := { x with places := mkL mkPlace mPlace GPlace.z x.places k, machines := mkL mkMachine mMachine GMachine.z x.machines (k + sumW mPlace x.places), txs := mkL mkTx mTx GTx.z x.txs (k + sumW mPlace x.places + sumW mMachine x.machines) }
theorem mPlace_le (x : GPlace) : mPlace x ≤ 7 * (1 + wPlace x) := by unfold mPlace wPlace; omega
theorem mRecord_le (x : GRecord) : mRecord x ≤ 7 * (1 + wRecord x) := by unfold mRecord wRecord; omega
theorem mCopy_le (x : GCopy) : mCopy x ≤ 7 * (1 + wCopy x) := by unfold mCopy wCopy; omega
theorem mMachine_le (x : GMachine) : mMachine x ≤ 7 * (1 + wMachine x) := by
  have h1 := sumW_bound mCopy_le x.copies
  have h2 := sumW_bound mRecord_le x.log
  unfold mMachine wMachine wL; omega
theorem mTx_le (x : GTx) : mTx x ≤ 7 * (1 + wTx x) := by unfold mTx wTx; omega
theorem mCluster_le (x : GCluster) : mCluster x ≤ 7 * wCluster x := by
  have h1 := sumW_bound mPlace_le x.places
  have h2 := sumW_bound mMachine_le x.machines
  have h3 := sumW_bound mTx_le x.txs
  unfold mCluster wCluster wL; omega
theorem szI_mono {l : Int} {a n : Nat} (h : szI l a < 0) (hn : a ≤ n) : szI l n = -1 := by
  unfold szI at h ⊢
  split at h
  · rw [if_pos (by omega)]
  · omega
theorem szI_ge {l : Int} {a b : Nat} (h : ¬ szI l a < 0) : szI (szI l a) b = szI l (a + b) := by
  unfold szI at h ⊢
  split at h
  · omega
  · rename_i h1
    rw [if_neg h1]
    by_cases c : l - a - b < 0
    · rw [if_pos c, if_pos (by omega)]
    · rw [if_neg c, if_neg (by omega)]; omega
theorem szI_in {l : Int} {a : Nat} (h : ¬ szI l a < 0) : 0 ≤ szI l a ∧ szI l a ≤ l ∧ szI l a = l - a ∧ (a : Int) ≤ l := by
  unfold szI at h ⊢
  split at h
  · omega
  · rename_i h1
    rw [if_neg h1]; omega
theorem szI_no {l : Int} {a : Nat} (h : l - a < 0) : szI l a < 0 := by unfold szI; rw [if_pos h]; omega
theorem szI_yes {l : Int} {a : Nat} (h : (a : Int) ≤ l) : szI l a = l - a := by unfold szI; rw [if_neg (by omega)]
theorem imp_untabS {P : Program} {α : Type} {sz n : Nat} {enc : α → List D} {z : α} {g : Nat → α} : (SV.a (.s .r sz (tab n g).length fun i => enc ((tab n g).getD i z))).imp P (.a (.s .r sz n fun i => enc (g i))) := by
  have h : (SV.a (.s .r sz n fun i => enc ((tab n g).getD i z))).imp P (.a (.s .r sz n fun i => enc (g i))) := SV.imp_s fun i hi => by rw [tab_getD hi]
  rwa [show (SV.a (.s .r sz (tab n g).length fun i => enc ((tab n g).getD i z))) = .a (.s .r sz n fun i => enc ((tab n g).getD i z)) from by rw [tab_length]]
theorem markSetS_w (xs : List GSet) (hl : xs.length ≤ 1048576) (k0 : Int) (h1 : 0 ≤ k0) (h2 : k0 ≤ 1099511627776) : Con Tryz.prog 97 [900] [.a (.g 900), vI k0] [(900, arrC 5 cSet GSet.z xs)] (fun _ : Unit => True) (fun _ => [vI (k0 + 5 * xs.length)]) fun _ => [(900, arrC 5 cSet GSet.z (mkSetL xs k0))] :=
  (markSetS_c xs hl k0 h1 h2).wkM fun _ _ => ⟨⟨_, rfl, imp_tab⟩, trivial⟩
theorem heldSetS_w (xs : List GSet) (hl : xs.length ≤ 1048576) (k0 : Int) (h1 : 0 ≤ k0) (h2 : k0 ≤ 1099511627776) : Ans Tryz.prog 102 [] [vL 5 cSet GSet.z (mkSetL xs k0), vI k0] [] (vI (k0 + 5 * xs.length)) :=
  (heldSetS_q xs.length hl k0 h1 h2).wkA ⟨_, _, rfl, imp_untabS, SVs.imp_refl _⟩
theorem markNoteS_w (xs : List GNote) (hl : xs.length ≤ 1048576) (k0 : Int) (h1 : 0 ≤ k0) (h2 : k0 ≤ 1099511627776) : Con Tryz.prog 96 [900] [.a (.g 900), vI k0] [(900, arrC 5 cNote GNote.z xs)] (fun _ : Unit => True) (fun _ => [vI (k0 + 5 * xs.length)]) fun _ => [(900, arrC 5 cNote GNote.z (mkNoteL xs k0))] :=
  (markNoteS_c xs hl k0 h1 h2).wkM fun _ _ => ⟨⟨_, rfl, imp_tab⟩, trivial⟩
theorem heldNoteS_w (xs : List GNote) (hl : xs.length ≤ 1048576) (k0 : Int) (h1 : 0 ≤ k0) (h2 : k0 ≤ 1099511627776) : Ans Tryz.prog 101 [] [vL 5 cNote GNote.z (mkNoteL xs k0), vI k0] [] (vI (k0 + 5 * xs.length)) :=
  (heldNoteS_q xs.length hl k0 h1 h2).wkA ⟨_, _, rfl, imp_untabS, SVs.imp_refl _⟩
theorem markCellS_w (xs : List GCell) (hl : xs.length ≤ 1048576) (k0 : Int) (h1 : 0 ≤ k0) (h2 : k0 ≤ 1099511627776) : Con Tryz.prog 175 [900] [.a (.g 900), vI k0] [(900, arrC 2 cCell GCell.z xs)] (fun _ : Unit => True) (fun _ => [vI (k0 + 2 * xs.length)]) fun _ => [(900, arrC 2 cCell GCell.z (mkCellL xs k0))] :=
  (markCellS_c xs hl k0 h1 h2).wkM fun _ _ => ⟨⟨_, rfl, imp_tab⟩, trivial⟩
theorem heldCellS_w (xs : List GCell) (hl : xs.length ≤ 1048576) (k0 : Int) (h1 : 0 ≤ k0) (h2 : k0 ≤ 1099511627776) : Ans Tryz.prog 176 [] [vL 2 cCell GCell.z (mkCellL xs k0), vI k0] [] (vI (k0 + 2 * xs.length)) :=
  (heldCellS_q xs.length hl k0 h1 h2).wkA ⟨_, _, rfl, imp_untabS, SVs.imp_refl _⟩
theorem markInt64S_w (xs : List Int) (hl : xs.length ≤ 1048576) (k0 : Int) (h1 : 0 ≤ k0) (h2 : k0 ≤ 1099511627776) : Con Tryz.prog 93 [900] [.a (.g 900), vI k0] [(900, arrC 1 cInt 0 xs)] (fun _ : Unit => True) (fun _ => [vI (k0 + xs.length)]) fun _ => [(900, arrC 1 cInt 0 (mkInt64L xs k0))] :=
  ((markInt64S_c xs hl k0 h1 h2).wkM (mu'' := fun _ => [(900, arrC 1 cInt 0 (mkInt64L xs k0))]) fun _ _ => ⟨⟨_, rfl, Ch.imp_len (tab_length _ _).symm fun i hi => by rw [mkInt64L, tab_getD hi, Int.one_mul]⟩, trivial⟩).wkR fun _ _ => ⟨_, _, rfl, SV.imp_of (vI_eq (by omega)), rfl⟩
theorem heldInt64S_w (xs : List Int) (hl : xs.length ≤ 1048576) (k0 : Int) (h1 : 0 ≤ k0) (h2 : k0 ≤ 1099511627776) : Ans Tryz.prog 98 [] [vL 1 cInt 0 (mkInt64L xs k0), vI k0] [] (vI (k0 + xs.length)) :=
  ((heldInt64S_q xs.length hl k0 h1 h2).wkA (args' := [vL 1 cInt 0 (mkInt64L xs k0), vI k0]) ⟨_, _, rfl, (imp_untabS (enc := cInt) (z := 0) (g := fun j => k0 + (j : Nat))).trans (SV.imp_s (g := fun j => cInt (k0 + 1 * (j : Nat))) fun i hi => by rw [Int.one_mul]), SVs.imp_refl _⟩).wkR fun _ _ => ⟨_, _, rfl, SV.imp_of (vI_eq (by omega)), rfl⟩
theorem toInt64S_m (xs : List Int) (hl : xs.length ≤ 1048576) : MkL Tryz.prog 133 [vL 1 cInt 0 xs] 1 cInt 0 xs := by
  refine con_enter Tryz.func133 rfl rfl rfl fun B0 r_ D_ w0 => ?_
  refine T_auto TT_ok rfl ?_
  refine RJ_make TT_ok 7 xs.length rfl rfl rfl rfl rfl rfl rfl ⟨by simp; omega, by unfold maxL; omega⟩ ?_
  refine RJ_auto TT_ok rfl ?_
  refine T_loopA (ι := Nat) (fun i => [(4, vI i)]) (fun i => [(7, .arr 1 xs.length fun k => cInt (if k < i then xs.getD k 0 else 0))]) (fun i => i ≤ xs.length) (fun i => xs.length - i) 0 [7] [] rfl rfl (Nat.zero_le _) (by repeat (first | exact trivial | refine And.intro ⟨_, rfl, SV.imp_refl _⟩ ?_)) ⟨⟨_, rfl, Ch.imp_arr fun k hk => by rw [if_neg (Nat.not_lt_zero _)]; rfl⟩, trivial⟩ ?_
  intro i h1
  refine T_auto TT_ok rfl ?_
  refine T_condD rfl (fun e => ?_) (fun e => ?_)
  · have hi : i < xs.length := by omega
    refine T_auto TT_ok rfl ?_
    exact X_inv (i + 1) hi (by omega) (by repeat (first | exact trivial | refine And.intro ⟨_, rfl, SV.imp_refl _⟩ ?_)) ⟨⟨_, rfl, Ch.imp_arr fun k hk => fill_step (fun x => cInt x) rfl⟩, (by repeat (first | exact trivial | refine And.intro ⟨_, rfl, Ch.imp_refl _⟩ ?_))⟩
  · have hi : i = xs.length := by omega
    subst hi
    refine T_auto TT_ok rfl ?_
    refine T_view (V_sw 7 900) ?_
    refine T_ret TT_ok (()) [(2, none)] rfl rfl ?_ ?_ ?_
    · exact SVs.imp_refl _
    · exact ⟨⟨_, rfl, Ch.imp_arr fun k hk => by rw [if_pos hk]⟩, trivial⟩
    · trivial
theorem szInt64S_q (xs : List Int) (hx : xs.length ≤ maxL) (l : Int) (h1 : 0 ≤ l) (h2 : l ≤ 1048576) : Ans Tryz.prog 121 [] [vL 1 cInt 0 xs, vI l] [] (vI (szI l xs.length)) := by
  unfold maxL at hx
  refine con_enter Tryz.func121 rfl rfl rfl fun B0 r_ D_ w0 => ?_
  refine T_auto TT_ok rfl ?_
  refine T_condD rfl (fun e => ?_) (fun e => ?_)
  · refine T_auto TT_ok rfl ?_
    exact T_ansI TT_ok [(4, none)] rfl rfl (by rw [szI, if_pos e])
  · refine T_auto TT_ok rfl ?_
    exact T_ansI TT_ok [(4, none)] rfl rfl (by rw [szI, if_neg e])
end Go.Proofs.YtcikaknfogpeeaaGreat
