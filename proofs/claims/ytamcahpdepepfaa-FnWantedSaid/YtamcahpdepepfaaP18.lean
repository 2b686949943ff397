
/-
  Copies of machines and clusters.
-/
import Derived.Test.YtamcahpdepepfaaP16
namespace Go.Proofs.Ytamcahpdepepfaa
open Go Go.RowKit
set_option linter.unusedVariables false
set_option linter.unusedSimpArgs false
set_option maxRecDepth 4000

section
variable {E : Env} {B : BE} {mu mu' : Mu} {w : World} {H : Nat → PH} {TT : List TI} {fr fr' : Fr} {gf gf' : GF} {a : Act} {all rest : List Oper} {Q : Exit → Act → World → Prop} {o : Oper} {J : Act → World → Prop} {G : AG}
/-- a call that makes, for %D2 -/
theorem DJ_Cc {ι : Type} {f : Nat} {ks nk : List Nat} {args : List SV} {mu1 : Mu} {φ : ι → Prop} {res : ι → List SV} {mu1' : ι → Mu} (C : Con E.P f ks args mu1 φ res mu1') {svs args' : List SV} {g : Option (Nat × Nat × Bool)} {t : Nat} {q : Ob} {es : List Prop} {gs : List GO} {md : Mu}
    (hc : callC E.N all fr gf o = some (f, svs, g, t, gf')) (hw : wkSL mu (keysO mu1) ks svs = some (args', q)) (ha : SVs.imp E.P args' args) (hnk : ∀ y, keysOf (mu1' y) = nk) (hs : splitO fr gf [] q [] [] = some (es, gs)) (hmd : mdropKs (appK (keysO mu1) nk) mu = some md) {gf2 : GF} (hcut : cutKs (keysO mu1) fr gf' = some (fr', gf2))
    (k : ∀ y, φ y → SJ G J E ((t, resS (res y)) :: fr') gf2 (appM (mu1' y) md))
    (hin : WkIn mu mu1 := by repeat (first | exact trivial | refine And.intro ⟨_, rfl, ro_arr⟩ ?_ | refine And.intro ⟨_, rfl, ro_ro⟩ ?_ | refine And.intro ⟨_, rfl, ro_row⟩ ?_ | refine And.intro ⟨_, rfl, Ch.imp_refl _⟩ ?_)) (hg : litG fr gf g := by first | exact trivial | exact ⟨rfl, rfl⟩) (hkeys : keysB ks nk mu1 fr gf mu E.A.ks G.ks = true := by exact rfl) (hout : ∀ y, (SV.inKL (appK ks nk) (res y) && muIn (appK ks nk) (mu1' y)) = true := by exact fun _ => rfl) (hen : Enters E.P f := by exact enters_B (by kernel_rfl)) (he : PAlls es := by repeat (first | exact trivial | refine And.intro rfl ?_)) (ho : GAlls gs := by first | exact trivial | ((simp only [GAlls, GO.p, InR]; (repeat' (first | exact trivial | refine And.intro ?_ ?_ | refine fun _ => ?_)) <;> first | omega | (simp only [decide_eq_true_eq, decide_eq_false_iff_not, Int.toNat_natCast] at *; omega) | (simp at *; omega)))) : OJ G E all Q J o fr gf mu :=
  OJ_C C hc hg hen hw ha hs he ho hin hnk hkeys hout hmd hcut k
end
theorem imp_app1' {α : Type} {sz : Nat} {enc : α → List D} {z x : α} {ys rs : List α} {g : Nat → List D} (h : rs = ys ++ [x]) (hg : OwnI (g 0) (enc x)) : (Ch.arr sz (ys.length + 1) (appD ys.length (fun i => enc (ys.getD i z)) g)).imp (arrC sz enc z rs) := by
  subst h
  refine Ch.imp_own (by simp) fun i hi => ?_
  by_cases c : i < ys.length
  · rw [appD_lt c]; exact OwnI.of (by congr 1; simp [List.getElem?_append_left c])
  · have : i = ys.length := by omega
    subst this
    rw [appD_ge (by omega), Nat.sub_self]
    have e : (ys ++ [x]).getD ys.length z = x := by simp
    rw [e]; exact hg
theorem OwnI.sl {l m : List D} {sz n n' : Nat} {f g : Nat → List D} (hn : n = n') (h : ∀ i, i < n → f i = g i) (k : OwnI l m) : OwnI (.sl sz n f :: l) (.sl sz n' g :: m) := fun hh vs ⟨y, t, h1, h2, e1, e2, e3, e4, e5, e6⟩ =>
  ⟨y, t, h1, h2, e1, e2, e3, e4, by subst hn; exact D.own_congr h e5, k _ _ e6⟩

end Go.Proofs.Ytamcahpdepepfaa
