
/-
  Lists in arrays; functions that make one.
-/
import Derived.Test.YtiegllklalplnaaGreatW19
namespace Go.Proofs.YtiegllklalplnaaGreat
open Go Go.RowKit
set_option linter.unusedVariables false
set_option linter.unusedSimpArgs false

abbrev arrC {α : Type} (sz : Nat) (enc : α → List D) (z : α) (xs : List α) : Ch := .arr sz xs.length fun i => enc (xs.getD i z)
/-- a function that makes a slice of what it reads -/
abbrev MkL {α : Type} (P : Program) (f : Nat) (args : List SV) (sz : Nat) (enc : α → List D) (z : α) (xs : List α) : Prop := Con P f [] args [] (fun _ : Unit => True) (fun _ => [.a (.g 900)]) fun _ => [(900, arrC sz enc z xs)]
theorem Ch.imp_len {sz n m : Nat} {f g : Nat → List D} (h : n = m) (e : ∀ i, i < n → f i = g i) : (Ch.arr sz n f).imp (.arr sz m g) := by subst h; exact Ch.imp_arr e
theorem imp_list {α : Type} {sz : Nat} {enc : α → List D} {z : α} {xs ys : List α} (h : xs = ys) : (arrC sz enc z xs).imp (arrC sz enc z ys) := by subst h; exact Ch.imp_refl _
theorem imp_app {α : Type} {sz : Nat} {enc : α → List D} {z : α} {ys zs rs : List α} (h : rs = ys ++ zs) : (Ch.arr sz (ys.length + zs.length) (appD ys.length (fun i => enc (ys.getD i z)) fun i => enc (zs.getD i z))).imp (arrC sz enc z rs) := by
  subst h
  refine Ch.imp_len (by simp) fun i hi => ?_
  by_cases c : i < ys.length
  · rw [appD_lt c]; congr 1; simp [List.getElem?_append_left c]
  · rw [appD_ge (by omega)]; congr 1; simp [List.getElem?_append_right (Nat.le_of_not_lt c)]
theorem imp_app1 {α : Type} {sz : Nat} {enc : α → List D} {z x : α} {ys rs : List α} {g : Nat → List D} (h : rs = ys ++ [x]) (hg : g 0 = enc x) : (Ch.arr sz (ys.length + 1) (appD ys.length (fun i => enc (ys.getD i z)) g)).imp (arrC sz enc z rs) := by
  subst h
  refine Ch.imp_len (by simp) fun i hi => ?_
  by_cases c : i < ys.length
  · rw [appD_lt c]; congr 1; simp [List.getElem?_append_left c]
  · have : i = ys.length := by omega
    subst this
    rw [appD_ge (by omega), Nat.sub_self, hg]; congr 1; simp
theorem take_succ_getD {α : Type} {z : α} {xs : List α} {i : Nat} (h : i < xs.length) : xs.take (i + 1) = xs.take i ++ [xs.getD i z] := by
  rw [List.take_add_one]; simp [h]
theorem filter_take {α : Type} {z : α} {xs : List α} {i : Nat} (h : i < xs.length) (p : α → Bool) : (xs.take (i + 1)).filter p = if p (xs.getD i z) then (xs.take i).filter p ++ [xs.getD i z] else (xs.take i).filter p := by
  rw [take_succ_getD (z := z) h, List.filter_append, List.filter_cons]
  split <;> simp
theorem filter_take_yes {α : Type} {z : α} {xs : List α} {i : Nat} (h : i < xs.length) {p : α → Bool} (e : p (xs.getD i z) = true) : (xs.take (i + 1)).filter p = (xs.take i).filter p ++ [xs.getD i z] := by rw [filter_take (z := z) h, if_pos e]
theorem filter_take_no {α : Type} {z : α} {xs : List α} {i : Nat} (h : i < xs.length) {p : α → Bool} (e : p (xs.getD i z) = false) : (xs.take i).filter p = (xs.take (i + 1)).filter p := by rw [filter_take (z := z) h, if_neg (by rw [e]; simp)]
theorem filter_take_len {α : Type} (xs : List α) (p : α → Bool) (i : Nat) : ((xs.take i).filter p).length ≤ xs.length := Nat.le_trans (List.length_filter_le _ _) (by rw [List.length_take]; exact Nat.min_le_right _ _)
/-- a function value that answers q -/
abbrev fbO {α : Type} (rd : α → List RD) (q : α → Value) : SV := .fb fun args v => ∃ x, args = rd x ∧ v = q x
def idxI {α : Type} (p : α → Bool) : List α → Int
  | [] => -1
  | x :: r => if p x then 0 else if idxI p r = -1 then -1 else idxI p r + 1
theorem idxI_no {α : Type} {p : α → Bool} {z : α} : ∀ {xs : List α}, (∀ j, j < xs.length → p (xs.getD j z) = false) → idxI p xs = -1
  | [], _ => rfl
  | x :: r, h => by
    have h0 : p x = false := by simpa using h 0 (by simp)
    have := idxI_no (p := p) (z := z) (xs := r) fun j hj => by simpa using h (j + 1) (by simpa using hj)
    simp [idxI, h0, this]
theorem idxI_at {α : Type} {p : α → Bool} {z : α} : ∀ {xs : List α} {i : Nat}, i < xs.length → (∀ j, j < i → p (xs.getD j z) = false) → p (xs.getD i z) = true → idxI p xs = i
  | x :: r, 0, _, _, h => by simp at h; simp [idxI, h]
  | x :: r, i + 1, hi, h0, h => by
    have hx : p x = false := by simpa using h0 0 (by omega)
    have := idxI_at (p := p) (z := z) (xs := r) (i := i) (by simpa using hi) (fun j hj => by simpa using h0 (j + 1) (by omega)) (by simpa using h)
    simp only [idxI, hx, this]
    simp
theorem idxI_cases {α : Type} (p : α → Bool) (z : α) (xs : List α) : (idxI p xs = -1 ∧ ∀ j, j < xs.length → p (xs.getD j z) = false) ∨ ∃ i : Nat, i < xs.length ∧ idxI p xs = i ∧ (∀ j, j < i → p (xs.getD j z) = false) ∧ p (xs.getD i z) = true := by
  by_cases h : ∃ i, i < xs.length ∧ p (xs.getD i z) = true
  · right
    have hw : ∃ i, (i < xs.length ∧ p (xs.getD i z) = true) ∧ ∀ j, j < i → ¬ (j < xs.length ∧ p (xs.getD j z) = true) := by
      obtain ⟨n, hn⟩ := h
      have : ∀ n, (n < xs.length ∧ p (xs.getD n z) = true) → ∃ i, (i < xs.length ∧ p (xs.getD i z) = true) ∧ ∀ j, j < i → ¬ (j < xs.length ∧ p (xs.getD j z) = true) := fun n => by
        induction n using Nat.strongRecOn with
        | ind n ih =>
          intro hn
          by_cases h : ∃ j, j < n ∧ (j < xs.length ∧ p (xs.getD j z) = true)
          · obtain ⟨j, h1, h2⟩ := h; exact ih j h1 h2
          · exact ⟨n, hn, fun j hj hc => h ⟨j, hj, hc⟩⟩
      exact this n hn
    obtain ⟨i, ⟨h1, h2⟩, h3⟩ := hw
    have h4 : ∀ j, j < i → p (xs.getD j z) = false := fun j hj => by
      cases c : p (xs.getD j z) with
      | false => rfl
      | true => exact absurd ⟨by omega, c⟩ (h3 j hj)
    exact ⟨i, h1, idxI_at h1 h4 h2, h4, h2⟩
  · left
    have h4 : ∀ j, j < xs.length → p (xs.getD j z) = false := fun j hj => by
      cases c : p (xs.getD j z) with
      | false => rfl
      | true => exact absurd ⟨j, hj, c⟩ h
    exact ⟨idxI_no h4, h4⟩
theorem filter_none {α : Type} {p : α → Bool} {z : α} {xs : List α} (h : ∀ j, j < xs.length → p (xs.getD j z) = false) : xs = xs.filter fun x => !p x := by
  symm
  rw [List.filter_eq_self]
  intro x hx
  obtain ⟨j, hj, rfl⟩ := List.mem_iff_getElem.1 hx
  have := h j hj
  simp at this ⊢
  rw [List.getElem?_eq_getElem hj] at this
  simpa using this
theorem filter_take_le {α : Type} (xs : List α) (p : α → Bool) (i : Nat) : ((xs.take i).filter p).length ≤ i := Nat.le_trans (List.length_filter_le _ _) (by rw [List.length_take]; exact Nat.min_le_left _ _)
theorem getD_take {α : Type} {z : α} {xs : List α} {i k : Nat} (h : k < (xs.take i).length) : (xs.take i).getD k z = xs.getD k z := by
  rw [List.length_take] at h
  simp only [List.getD_eq_getElem?_getD]
  rw [List.getElem?_take_of_lt (by omega)]
theorem del_start {α : Type} {p : α → Bool} {z : α} {xs : List α} {i : Nat} (h1 : i < xs.length) (h3 : ∀ j, j < i → p (xs.getD j z) = false) (h4 : p (xs.getD i z) = true) : ((xs.take (i + 1)).filter fun x => !p x) = xs.take i := by
  rw [filter_take (z := z) h1, if_neg (by rw [h4]; simp)]
  refine (filter_none (z := z) (xs := xs.take i) fun j hj => ?_).symm
  rw [getD_take hj]
  rw [List.length_take] at hj
  exact h3 j (by omega)
theorem getD_app_lt {α : Type} {z : α} {ys zs : List α} {k : Nat} (h : k < ys.length) : (ys ++ zs).getD k z = ys.getD k z := by simp [List.getElem?_append_left h]
theorem getD_app_eq {α : Type} {z x : α} {ys : List α} : (ys ++ [x]).getD ys.length z = x := by simp
def szI (l : Int) (n : Nat) : Int := if l - n < 0 then -1 else l - n
theorem szI_neg {l : Int} {n : Nat} : szI l n < 0 ↔ l < n := by
  unfold szI; split <;> omega
/-- an array is filled in order: one more -/
theorem fill_step {α : Type} {z : α} {xs : List α} {i k : Nat} (enc : α → List D) {l : List D} (h : l = enc (xs.getD i z)) : (bif Nat.beq k ((i : Int).toNat) then l else enc (if k < i then xs.getD k z else z)) = enc (if k < i + 1 then xs.getD k z else z) := by
  by_cases c : k = i
  · subst c
    rw [Int.toNat_natCast, Nat.beq_refl, h, if_pos (Nat.lt_succ_self _)]; rfl
  · have e : Nat.beq k ((i : Int).toNat) = false := by
      rw [Int.toNat_natCast]
      cases e : Nat.beq k i with
      | false => rfl
      | true => exact absurd (Nat.eq_of_beq_eq_true e) c
    rw [e]
    by_cases c2 : k < i
    · rw [if_pos c2, if_pos (by omega)]; rfl
    · rw [if_neg c2, if_neg (by omega)]; rfl
theorem vI_eq {a b : Int} (h : a = b) : vI a = vI b := by rw [h]
theorem fill_step2 {α : Type} {i k : Nat} (enc : α → List D) (g : Nat → α) {o : Nat → α} {l : List D} (h : l = enc (g i)) : (bif Nat.beq k ((i : Int).toNat) then l else enc (if k < i then g k else o k)) = enc (if k < i + 1 then g k else o k) := by
  by_cases c : k = i
  · subst c
    rw [Int.toNat_natCast, Nat.beq_refl, h, if_pos (Nat.lt_succ_self _)]; rfl
  · have e : Nat.beq k ((i : Int).toNat) = false := by
      rw [Int.toNat_natCast]
      cases e : Nat.beq k i with
      | false => rfl
      | true => exact absurd (Nat.eq_of_beq_eq_true e) c
    rw [e]
    by_cases c2 : k < i
    · rw [if_pos c2, if_pos (by omega)]; rfl
    · rw [if_neg c2, if_neg (by omega)]; rfl
section
variable {E : Env} {mu mu' : Mu} {TT : List TI} {fr fr' : Fr} {gf gf' : GF} {all rest : List Oper} {Q : Exit → Act → World → Prop} {o : Oper} {G : AG}
/-- any call, in a region that draws: nothing else may come up -/
theorem DJ_C {ι : Type} (i : Nat) {n : Nat} {tk : List Nat} {f : Nat} {ks nk : List Nat} {args : List SV} {mu1 : Mu} {φ : ι → Prop} {res : ι → List SV} {mu1' : ι → Mu} (C : Con E.P f ks args mu1 φ res mu1') {svs args' : List SV} {g : Option (Nat × Nat × Bool)} {t : Nat} {q : Ob} {es : List Prop} {gs : List GO} {md : Mu}
    (hi : nth all i = some o) (hc : callC E.N all fr gf o = some (f, svs, g, t, gf')) (hw : wkSL mu (keysO mu1) ks svs = some (args', q)) (ha : SVs.imp E.P args' args) (hnk : ∀ y, keysOf (mu1' y) = nk) (hs : splitO fr gf [] q [] [] = some (es, gs)) (hmd : mdropKs (appK (keysO mu1) nk) mu = some md) {fr' : Fr} {gf2 : GF} (hcut : cutKs (keysO mu1) fr gf' = some (fr', gf2))
    (k : ∀ y, φ y → DJ G E all Q n (i :: tk) ((t, resS (res y)) :: fr') gf2 (appM (mu1' y) md)) (hB : oneB all.toArray tk i = true := by kernel_rfl)
    (hin : WkIn mu mu1 := by repeat (first | exact trivial | refine And.intro ⟨_, rfl, ro_arr⟩ ?_ | refine And.intro ⟨_, rfl, ro_ro⟩ ?_ | refine And.intro ⟨_, rfl, Ch.imp_refl _⟩ ?_)) (hg : litG fr gf g := by first | exact trivial | exact ⟨rfl, rfl⟩) (hkeys : keysB ks nk mu1 fr gf mu E.A.ks G.ks = true := by exact rfl) (hout : ∀ y, (SV.inKL (appK ks nk) (res y) && muIn (appK ks nk) (mu1' y)) = true := by exact fun _ => rfl) (hen : Enters E.P f := by exact enters_B (by kernel_rfl)) (he : PAlls es := by repeat (first | exact trivial | refine And.intro rfl ?_)) (ho : GAlls gs := by first | exact trivial | ((simp only [GAlls, GO.p, InR]; (repeat' (first | exact trivial | refine And.intro ?_ ?_ | refine fun _ => ?_)) <;> first | omega | (simp only [decide_eq_true_eq, decide_eq_false_iff_not, Int.toNat_natCast] at *; omega) | (simp at *; omega)))) :
    DJ G E all Q (n + 1) tk fr gf mu :=
  DJ_one i hi hB (OJ_C C hc hg hen hw ha hs he ho hin hnk hkeys hout hmd hcut fun y hy => SJ_dj (k y hy))
/-- a call that answers, in a region that draws: nothing else may come up, and all memory is read -/
theorem DJ_Q1 (i : Nat) {n : Nat} {tk : List Nat} {f : Nat} {ks : List Nat} {args : List SV} {mu1 : Mu} {res : SV} (C : Ans E.P f ks args mu1 res) {svs args' : List SV} {g : Option (Nat × Nat × Bool)} {t : Nat} {q : Ob} {es : List Prop} {gs : List GO}
    (hi : nth all i = some o) (hc : callC E.N all fr gf o = some (f, svs, g, t, gf')) (hw : wkSL mu [] ks svs = some (args', q)) (hae : args' = args) (hs : splitO fr gf (match g with | none => [] | some (_, d, b) => acts 6 gf d b) q [] [] = some (es, gs))
    (k : DJ G E all Q n (i :: tk) (frQ fr g t res) (gfQ gf' g t res) mu) (hB : oneB all.toArray tk i = true := by kernel_rfl) (hko : keysO mu1 = [] := by exact rfl) (hres : res.inK ks = true := by exact rfl) (hin : WkIn mu mu1 := by repeat (first | exact trivial | refine And.intro ⟨_, rfl, ro_arr⟩ ?_ | refine And.intro ⟨_, rfl, ro_ro⟩ ?_ | refine And.intro ⟨_, rfl, Ch.imp_refl _⟩ ?_)) (hen : Enters E.P f := by exact enters_B (by kernel_rfl)) (he : PAlls es := by repeat (first | exact trivial | refine And.intro rfl ?_)) (ho : GAlls gs := by first | exact trivial | ((simp only [GAlls, GO.p, InR]; (repeat' (first | exact trivial | refine And.intro ?_ ?_ | refine fun _ => ?_)) <;> first | omega | (simp only [decide_eq_true_eq, decide_eq_false_iff_not, Int.toNat_natCast] at *; omega) | (simp at *; omega)))) :
    DJ G E all Q (n + 1) tk fr gf mu := by
  subst hae
  exact DJ_one i hi hB (OJ_Q C hc rfl hen hko hres hw (SVs.imp_refl _) hs he ho hin (SJ_dj k))
end
end Go.Proofs.YtiegllklalplnaaGreat
