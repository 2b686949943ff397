/-
  Part I of what the claim leans on: memory, data, walks through the program, plain laws.
-/
import Derived.Test.YtcikaknfogpeeaaGreatMSH
namespace Go.Proofs.YtcikaknfogpeeaaGreat
open Go Go.RowKit
set_option linter.unusedVariables false
set_option linter.unusedSimpArgs false
set_option maxRecDepth 4000
theorem isNaNs_q (a : Int) : Ans Tryz.prog 246 [] [vI a] [] (vB false) := by
  refine con_enter Tryz.func246 rfl rfl rfl fun B0 r_ D_ w0 => ?_
  refine T_auto TT_ok rfl ?_
  exact T_ansB TT_ok [(2, none)] rfl rfl (by simp)
theorem less_q (a b : Int) : Ans Tryz.prog 245 [] [vI a, vI b] [] (vB (decide (a < b))) := by
  refine con_enter Tryz.func245 rfl rfl rfl fun B0 r_ D_ w0 => ?_
  refine T_auto TT_ok rfl ?_
  refine RJ_Q TT_ok (isNaN_q _) rfl rfl rfl rfl rfl ?_
  refine RJ_Q TT_ok (isNaN_q _) rfl rfl rfl rfl rfl ?_
  exact T_ansB TT_ok [(4, none)] rfl rfl (rfl)
theorem found_int {xs : List Int} (hs : xs.Pairwise (· < ·)) {n : Int} {i : Nat} (h : cutAt (cmpZ n) 0 xs i) : (bif decide ((i : Int) < xs.length) then (bif xs.getD i 0 == n then true else false) else false) = decide (n ∈ xs) := by
  obtain ⟨h1, h2, h3⟩ := h
  by_cases c : n ∈ xs
  · rw [decide_eq_true c]
    obtain ⟨a, ha, e⟩ := mem_iff_getD.1 c
    have hia : i ≤ a := by
      rcases Nat.lt_or_ge a i with h | h
      · have := h2 a h; unfold cmpZ at this; omega
      · exact h
    have hi : i < xs.length := by omega
    have : xs.getD i 0 = n := by
      by_cases c2 : i = a
      · subst c2; exact e
      · have h4 := pair_get (z := 0) hs (a := i) (b := a) (by omega) ha
        have h5 := h3 i (Nat.le_refl _) hi
        unfold cmpZ at h5
        omega
    rw [decide_eq_true (by omega), this]
    simp
  · rw [decide_eq_false c]
    by_cases hi : (i : Int) < xs.length
    · rw [decide_eq_true hi]
      have : xs.getD i 0 ≠ n := fun e => c (e ▸ mem_getD (by omega))
      rw [beq_eq_false_iff_ne.2 this]; rfl
    · rw [decide_eq_false hi]; rfl
theorem searchInt_c (xs : List Int) (hl : xs.length ≤ 1048576) (n : Int) (hs : xs.Pairwise (· < ·)) : Con Tryz.prog 227 [] [vL 1 cInt 0 xs, vI n] [] (fun _ : Unit => True)
    (fun _ => [vI (posA (cmpZ n) 0 xs : Nat), vB (decide (n ∈ xs))]) fun _ => [] := by
  have hm := cmpZ_rising hs n
  refine con_enter Tryz.func227 rfl rfl rfl fun B0 r_ D_ w0 => ?_
  refine T_auto TT_ok rfl ?_
  refine T_loopA (ι := Nat × Nat) (fun y => [(7, vI y.1), (8, vI y.2)]) (fun _ => []) (fun y => y.1 ≤ y.2 ∧ y.2 ≤ xs.length ∧ (∀ a, a < y.1 → cmpZ n (xs.getD a 0) < 0) ∧ ∀ a, y.2 ≤ a → a < xs.length → ¬ cmpZ n (xs.getD a 0) < 0) (fun y => y.2 - y.1) (0, xs.length) [] [] rfl rfl ⟨Nat.zero_le _, Nat.le_refl _, fun a h => absurd h (Nat.not_lt_zero _), fun a h1 h2 => by omega⟩ (by repeat (first | exact trivial | refine And.intro ⟨_, rfl, SV.imp_refl _⟩ ?_)) (by repeat (first | exact trivial | refine And.intro ⟨_, rfl, Ch.imp_refl _⟩ ?_)) ?_
  rintro ⟨i, j⟩ ⟨h1, h2, h3, h4⟩
  dsimp only at h1 h2 h3 h4 ⊢
  refine T_auto TT_ok rfl ?_
  refine T_condD rfl (fun e => ?_) (fun e => ?_)
  · have hij : i < j := by omega
    have hh : (((i : Int) + j) / 2).toNat = (i + j) / 2 := by omega
    refine T_auto TT_ok rfl ?_
    refine RJ_Q TT_ok (less_q _ _) rfl rfl rfl rfl rfl ?_
    refine T_condD rfl (fun e2 => ?_) (fun e2 => ?_)
    · rw [hh] at e2
      refine T_auto TT_ok rfl ?_
      refine X_inv ((i + j) / 2 + 1, j) ⟨by dsimp only; omega, h2, fun a ha => ?_, h4⟩ (by show j - ((i + j) / 2 + 1) < j - i; omega) ⟨⟨_, rfl, SV.imp_of (vI_eq (by dsimp only; omega))⟩, ⟨_, rfl, SV.imp_refl _⟩, (by repeat (first | exact trivial | refine And.intro ⟨_, rfl, SV.imp_refl _⟩ ?_))⟩ (by repeat (first | exact trivial | refine And.intro ⟨_, rfl, Ch.imp_refl _⟩ ?_))
      exact hm a ((i + j) / 2) (by dsimp only at ha; omega) (by omega) (by unfold cmpZ; omega)
    · rw [hh] at e2
      refine T_auto TT_ok rfl ?_
      refine X_inv (i, (i + j) / 2) ⟨by dsimp only; omega, by dsimp only; omega, h3, fun a a1 a2 hc => ?_⟩ (by show (i + j) / 2 - i < j - i; omega) ⟨⟨_, rfl, SV.imp_refl _⟩, ⟨_, rfl, SV.imp_of (vI_eq (by dsimp only; omega))⟩, (by repeat (first | exact trivial | refine And.intro ⟨_, rfl, SV.imp_refl _⟩ ?_))⟩ (by repeat (first | exact trivial | refine And.intro ⟨_, rfl, Ch.imp_refl _⟩ ?_))
      have := hm ((i + j) / 2) a (by dsimp only at a1; omega) a2 hc
      unfold cmpZ at this
      omega
  · have hij : i = j := by omega
    subst hij
    have hcut : cutAt (cmpZ n) 0 xs i := ⟨h2, h3, h4⟩
    have hf := found_int hs hcut
    refine T_auto TT_ok rfl ?_
    refine RJ_Q TT_ok (isNaNs_q _) rfl rfl rfl rfl rfl ?_
    refine RJ_Q TT_ok (isNaNs_q _) rfl rfl rfl rfl rfl ?_
    rw [← posA_eq hcut] at hf ⊢
    refine T_ret TT_ok (()) [(4, none), (5, none)] rfl rfl ?_ ?_ ?_
    · exact SVs.cons (SV.imp_refl _) (SVs.cons (SV.imp_of (congrArg (fun b => SV.a (.v (.bool b))) hf)) rfl)
    · trivial
    · trivial
end Go.Proofs.YtcikaknfogpeeaaGreat
namespace Go.Proofs.YtcikaknfogpeeaaGreat
open Go Go.RowKit
set_option linter.unusedVariables false
set_option linter.unusedSimpArgs false
section
variable {E : Env} {mu mu' : Mu} {TT : List TI} {fr fr' : Fr} {gf gf' : GF} {all rest : List Oper} {R : Exit → Act → World → Prop} {K : List KF}
theorem Ch.imp_trans {x y z : Ch} (h : x.imp y) (k : y.imp z) : x.imp z := fun _ _ _ _ s => k _ _ _ _ (h _ _ _ _ s)
theorem RJ_fin (hT : TOk E.P TT) {es : List Prop} {gs : List GO} (h : run TT E.N E.A.ks all rest fr gf mu [] [] = some ([], fr', gf', mu', es, gs)) (k : X E R (nxN K) fr' mu') (he : PAlls es := by repeat (first | exact trivial | refine And.intro rfl ?_)) (ho : GAlls gs := by first | exact trivial | ((simp only [GAlls, GO.p, InR]; (repeat' (first | exact trivial | refine And.intro ?_ ?_ | refine fun _ => ?_)) <;> first | omega | (simp only [decide_eq_true_eq, decide_eq_false_iff_not, Int.toNat_natCast] at *; omega) | (simp at *; omega)))) : RJ E all (KQ E.P R K) rest fr gf mu :=
  (run_ok hT _ _ _ _ _ _ h ⟨he, ho⟩).2 (RJ_end k)
end
section
variable {P : Program}
theorem keysO_in {l : Mu} {j : Nat} : hasK j (keysO l) = true → ∃ c, (j, c) ∈ l ∧ c.own? = true := by
  induction l with
  | nil => intro h; cases h
  | cons x r ih =>
    obtain ⟨i, c⟩ := x
    intro h
    simp only [keysO] at h
    cases hc : c.own? with
    | false => rw [hc] at h; obtain ⟨d, d1, d2⟩ := ih h; exact ⟨d, List.mem_cons_of_mem _ d1, d2⟩
    | true =>
      rw [hc] at h
      simp only [cond_true] at h
      rcases (hasK_cons j i _).1 h with e | e
      · subst e; exact ⟨c, List.mem_cons_self, hc⟩
      · obtain ⟨d, d1, d2⟩ := ih e; exact ⟨d, List.mem_cons_of_mem _ d1, d2⟩
theorem Con.liftR {ι : Type} {f sz n k ko : Nat} {g : Nat → List D} {ks : List Nat} {args : List SV} {args' : (Nat → List Value) → List SV} {rest : Mu} {rest' : ι → Mu} {φ : ι → Prop} {res : ι → List SV} {m : ι → Nat} {ρ : ι → Nat → Nat}
    (hro : ∀ j c, mlk j rest = some c → c.own? = true ∧ j ≠ k)
    (hgo : ∀ i, i < n → oneDs (g i) = true)
    (hσ : ∀ y, φ y → ∀ j, j < m y → ρ y j < n) (hin : ∀ y, φ y → ∀ i j, i < m y → j < m y → i ≠ j → ρ y i ≠ ρ y j)
    (hA : ∀ (B : BE) (r r' : PH) (H H' : Nat → PH) (vals : List Value) (row : Nat → List Value), r.le r' → (∀ i, i < n → D.rds r' (g i) (row i)) → SV.rels P B (Zf r H) args vals → SV.rels P B (Zf r' H') (args' row) vals)
    (hR : ∀ y (B : BE) (r r' : PH) (H H' : Nat → PH) (out : List Value), SV.rels P B (Zf r H) (res y) out → SV.rels P B (Zf r' H') (res y) out)
    (hrest : ∀ y (B : BE) (r r' h : PH) j c, mlk j (rest' y) = some c → c.sat B r' h j → c.sat B r h j)
    (C : ∀ row : Nat → List Value, (∀ i, i < n → (row i).length = sz) → (∀ i, i < n → ∀ u ∈ row i, oneV u = true) → (∃ hh, ∀ i, i < n → D.rds hh (g i) (row i)) → Con P f ks (args' row) ((k, .arr sz n fun i => (row i).map D.v) :: rest) φ res fun y => (ko, .arr sz (m y) fun j => (row (ρ y j)).map D.v) :: rest' y) :
    Con P f ks args ((k, .arr sz n g) :: rest) φ res fun y => (ko, .arr sz (m y) fun j => g (ρ y j)) :: rest' y := fun B r w H vals mm hemp hargs => by
  have s1 : D.own (H k) (.sl sz n g) (B k) := mm.sat k (.arr sz n g) (by rw [mlk_cons, if_pos rfl])
  obtain ⟨A, c, row, hc, hp, G, e1, e2, va, lc, lp, dcp, ho, hG, hd⟩ := own_VA s1
  have drp : r.dj hp := PH.dj_symm (PH.dj_le (mm.djr k) lp (PH.le_refl _))
  have ro := PH.le_un_left r hp
  have rp := PH.le_un_right drp
  have hrow : ∀ i, i < n → D.rds (r.un hp) (g i) (row i) := fun i hi => D.rds_mono (PH.le_trans (hG i) rp) _ (D.owns_rds _ (ho i hi).1)
  let H1 : Nat → PH := fun j => if j = k then hc else H j
  have hk1 : H1 k = hc := by simp [H1]
  have hne : ∀ j, j ≠ k → H1 j = H j := fun j hj => by simp [H1, hj]
  have hle : ∀ j, (H1 j).le (H j) := fun j => by
    by_cases h : j = k
    · subst h; rw [hk1]; exact lc
    · rw [hne j h]; exact PH.le_refl _
  have hdj : ∀ j, (H1 j).dj hp := fun j => by
    by_cases h : j = k
    · subst h; rw [hk1]; exact dcp
    · exact PH.dj_le (mm.dj j k h) (hle j) lp
  have satup : ∀ (c : Ch) (h : PH) j, c.own? = true → c.sat B r h j → c.sat B (r.un hp) h j := fun c h j hc hs => by
    cases c with
    | row l => obtain ⟨b, o, vs, h', a1, a2, a3⟩ := hs; exact ⟨b, o, vs, h', a1, V.owns_mono ro (PH.le_refl _) a2, a3⟩
    | arr => exact hs
    | hole => exact hs
    | ro => cases hc
    | rrow => cases hc
  have mm1 : Mm B (r.un hp) ((k, .arr sz n fun i => (row i).map D.v) :: rest) w H1 := by
    refine ⟨fun j d e => ?_, fun j => (mm.fit j).le (hle j), fun i j hij => PH.dj_le (mm.dj i j hij) (hle i) (hle j), fun j => PH.dj_un (PH.dj_le (mm.djr j) (hle j) (PH.le_refl _)) (hdj j), Fit.un mm.fitr ((mm.fit k).fit.le lp)⟩
    rw [mlk_cons] at e
    by_cases hj : k = j
    · subst hj
      rw [if_pos rfl] at e; injection e with e; subst e
      rw [hk1]
      show D.own hc _ (B k)
      rw [e1]
      exact VA_own (hp := PH.emp) (G := fun _ => PH.emp) va e2 (PH.le_refl _) (PH.emp_le _) (PH.dj_emp _) (fun i _ => flat_owns) (fun _ _ => PH.le_refl _) fun _ _ _ _ _ => PH.emp_dj _
    · rw [if_neg hj] at e
      obtain ⟨q1, q2⟩ := hro j d e
      rw [hne j q2]
      exact satup d _ j q1 (mm.sat j d (by rw [mlk_cons, if_neg hj]; exact e))
  have up : ∀ b o, ownD ((k, .arr sz n fun i => (row i).map D.v) :: rest) H1 b o → ownD ((k, .arr sz n g) :: rest) H b o := fun b o ⟨j, h1, h2⟩ => by
    obtain ⟨c, c1, c2⟩ := keysO_in h1
    refine ⟨j, ?_, PH.le_ne (hle j) h2⟩
    rcases List.mem_cons.1 c1 with e | e
    · obtain ⟨e1, _⟩ := Prod.mk.inj e
      rw [e1]
      exact keysO_has List.mem_cons_self rfl
    · exact keysO_has (List.mem_cons_of_mem _ e) c2
  have own0 : ∀ b o, H k b o ≠ none → ownD ((k, .arr sz n g) :: rest) H b o := fun b o h => ⟨k, keysO_has List.mem_cons_self rfl, h⟩
  refine (C row (fun i hi => (ho i hi).2) (fun i hi => owns_one (ho i hi).1 (oneDs_ok (hgo i hi))) ⟨_, hrow⟩ B _ w H1 vals mm1 (fun j hj => ?_) (hA B r _ H H1 vals row ro hrow hargs)).mono ?_
  · by_cases h : j = k
    · subst h; rw [keysO_has (c := .arr sz n fun i => (row i).map D.v) List.mem_cons_self rfl] at hj; cases hj
    · rw [hne j h]
      refine hemp j ?_
      cases e : hasK j (keysO ((k, .arr sz n g) :: rest)) with
      | false => rfl
      | true =>
        obtain ⟨c, q1, q2⟩ := keysO_in e
        rcases List.mem_cons.1 q1 with e | e
        · injection e with e1 e2; exact absurd e1 h
        · rw [keysO_has (List.mem_cons_of_mem _ e) q2] at hj; cases hj
  rintro e w' ⟨y, B', H', out, hy, he, hres, mm2, hB, hkeep, hdom⟩
  have s2 : D.own (H' ko) (.sl sz (m y) fun j => (row (ρ y j)).map D.v) (B' ko) := mm2.sat ko (.arr sz (m y) fun j => (row (ρ y j)).map D.v) (by rw [mlk_cons, if_pos rfl])
  obtain ⟨A2, c2, row2, hc2, hp2, G2, f1, f2, va2, lc2, lp2, dcp2, ho2, hG2, hd2⟩ := own_VA s2
  have heq : ∀ j, j < m y → row2 j = row (ρ y j) := fun j hj => owns_flat (ho2 j hj).1
  have dk : ∀ j, (H' j).dj hp := fun j => PH.dj_le (mm2.djr j) (PH.le_refl _) rp
  let H3 : Nat → PH := fun j => if j = ko then (H' ko).un hp else H' j
  have h3 : H3 ko = (H' ko).un hp := by simp [H3]
  have h3n : ∀ j, j ≠ ko → H3 j = H' j := fun j hj => by simp [H3, hj]
  have fitp : FitO hp w' := ((mm.fit k).le lp).keep hkeep fun b o h ⟨j, _, h2⟩ => by
    rcases hdj j b o with h4 | h4
    · exact h2 h4
    · exact h h4
  refine ⟨y, B', H3, out, hy, he, hR y B' _ _ H' H3 out hres, ⟨fun j d e => ?_, fun j => ?_, fun i j hij => ?_, fun j => ?_, mm2.fitr.le ro⟩, hB, hkeep.mono fun b _ o h => up b o h, fun j b o h => ?_⟩
  · rw [mlk_cons] at e
    by_cases hj : ko = j
    · subst hj
      rw [if_pos rfl] at e; injection e with e; subst e
      rw [h3]
      show D.own _ _ (B' ko)
      rw [f1]
      refine VA_own (hc := hc2) (hp := hp) (G := fun j => G (ρ y j)) (row := row2) va2 f2 (PH.le_trans lc2 (PH.le_un_left _ _)) (PH.le_un_right (dk ko)) (PH.dj_le (dk ko) lc2 (PH.le_refl _)) (fun j hj => ?_) (fun j _ => hG _) fun i j hi hj hij => hd _ _ (hin y hy i j hi hj hij)
      rw [heq j hj]; exact (ho _ (hσ y hy j hj)).1
    · rw [if_neg hj] at e
      rw [h3n j (Ne.symm hj)]
      exact hrest y B' r _ _ j d e (mm2.sat j d (by rw [mlk_cons, if_neg hj]; exact e))
  · by_cases hj : j = ko
    · subst hj; rw [h3]; exact (mm2.fit j).un fitp
    · rw [h3n j hj]; exact mm2.fit j
  · by_cases hi : i = ko
    · subst hi
      rw [h3, h3n j (Ne.symm hij)]
      exact PH.un_dj (mm2.dj i j hij) (PH.dj_symm (dk j))
    · by_cases hj : j = ko
      · subst hj
        rw [h3, h3n i hi]
        exact PH.dj_un (mm2.dj i j hij) (dk i)
      · rw [h3n i hi, h3n j hj]; exact mm2.dj i j hij
  · by_cases hj : j = ko
    · subst hj; rw [h3]; exact PH.un_dj (PH.dj_le (mm2.djr j) (PH.le_refl _) ro) (PH.dj_symm drp)
    · rw [h3n j hj]; exact PH.dj_le (mm2.djr j) (PH.le_refl _) ro
  · by_cases hj : j = ko
    · subst hj
      rw [h3] at h
      rcases PH.un_ne h with h1 | h1
      · rcases hdom j b o h1 with h2 | h2
        · exact .inl (up b o h2)
        · exact .inr h2
      · exact .inl (own0 b o (PH.le_ne lp h1))
    · rw [h3n j hj] at h
      rcases hdom j b o h with h2 | h2
      · exact .inl (up b o h2)
      · exact .inr h2
end
end Go.Proofs.YtcikaknfogpeeaaGreat
namespace Go.Proofs.YtcikaknfogpeeaaGreat
open Go Go.RowKit
set_option linter.unusedVariables false
set_option linter.unusedSimpArgs false
set_option maxRecDepth 4000
theorem posZ_le {xs : List Int} (hs : xs.Pairwise (· < ·)) (n : Int) : posA (cmpZ n) 0 xs ≤ xs.length := (posA_cut (cmpZ_rising hs n)).1
theorem logged_k (m : GMachine) (hl : m.log.length ≤ 1048576) (tx r0 kind : Int) : Con Tryz.prog 167 [900, 902] [.a (.p 900 0), vI tx, vI r0, vI kind] [(900, .rrow (rowM m 901 902 903)), (902, .ro 4 m.log.length fun i => cRecord (m.log.getD i GRecord.z))] (fun _ : Unit => True) (fun _ => [vI (logI m tx r0 kind)]) fun _ => [] := by
  refine con_enter Tryz.func167 rfl rfl rfl fun B0 r_ D_ w0 => ?_
  refine T_auto TT_ok rfl ?_
  refine RJ_QF TT_ok (indexFuncRecord_p m.log hl (fun _ => True) (fun _ _ => trivial) (atLog tx r0 kind)) rfl rfl (SVs.cons (SV.imp_refl _) (SVs.cons (imp_fb (enters_B (by kernel_rfl)) rfl fun args x ⟨n, _, e1, e2⟩ => by subst e1; subst e2; exact logged1_q n _ _ _) rfl)) rfl rfl ?_
  refine T_ret TT_ok (()) [(8, none)] rfl rfl ?_ ?_ ?_
  · exact SVs.imp_refl _
  · trivial
  · trivial
theorem clear1_q (x : GRecord) (tx r0 : Int) : Ans Tryz.prog 226 [] [vR (cRecord x), vP [dI tx], vP [dI r0]] [] (vB (bif x.tx == tx then x.region == r0 else false)) := by
  refine con_enter Tryz.func226 rfl rfl rfl fun B0 r_ D_ w0 => ?_
  refine T_auto TT_ok rfl ?_
  exact T_ansB TT_ok [(4, none)] rfl rfl (rfl)
theorem clear_k (m : GMachine) (hm : m.log.length ≤ 1048576) (hc : m.cleared.length ≤ 1000) (hs : m.cleared.Pairwise (· < ·)) (tx r : Int) (d : Bool) :
    Con Tryz.prog 169 [900, 901, 902, 903] [.a (.p 900 0), vI tx, vI r, vB d] [(900, .row (rowM m 901 902 903)), (902, arrC 4 cRecord GRecord.z m.log), (903, arrC 1 cInt 0 m.cleared)] (fun _ : Unit => True) (fun _ => [])
      fun _ => [(900, .row (rowM m 901 904 905)), (904, arrC 4 cRecord GRecord.z (clearR m tx r d).log), (905, arrC 1 cInt 0 (clearR m tx r d).cleared)] := by
  have hp := posZ_le hs tx
  refine con_enter Tryz.func169 rfl rfl rfl fun B0 r_ D_ w0 => ?_
  refine T_auto TT_ok rfl ?_
  refine RJ_C TT_ok (Con.sw 901 904 (Con.sw 900 902 (deleteFuncRecord_c m.log hm fun x => bif x.tx == tx then x.region == r else false))) rfl rfl (SVs.cons (SV.imp_refl _) (SVs.cons (imp_fb (enters_B (by kernel_rfl)) rfl fun args x ⟨s, h1, h2⟩ => by subst h1; subst h2; exact clear1_q s tx r) rfl)) (fun _ => rfl) rfl rfl rfl fun _ _ => ?_
  refine RJ_auto TT_ok rfl ?_
  refine T_drawL TT_ok [] [0, 1, 2, 3, 4, 5, 6, 7, 8, 9, 10] rfl rfl fun B0 H0 => ?_
  refine DJ_C 5 (searchInt_c m.cleared (by omega) tx hs) rfl rfl rfl (SVs.imp_refl _) (fun _ => rfl) rfl rfl rfl fun _ _ => ?_
  refine DJ_onL TT_ok [6, 7, 8, 9, 10] rfl ?_
  refine DJ_endA TT_ok rfl ?_
  refine T_cond rfl (fun e => ?_) (fun e => ?_)
  · cases d with
    | false => cases e
    | true =>
      have hn : tx ∉ m.cleared := by
        intro h
        rw [decide_eq_true h] at e; cases e
      refine T_auto TT_ok rfl ?_
      refine T_drawL TT_ok [903] [0, 1, 2, 3, 4, 5, 6, 7, 8, 9, 10, 11] rfl rfl fun B0 H0 => ?_
      refine DJ_one 7 rfl (by kernel_rfl) (OJ_bs TT_ok 30 (fun _ => cInt tx) rfl rfl rfl rfl rfl rfl rfl (fun j hj => by rcases j with _ | j <;> first | rfl | omega) (mu1 := []) rfl rfl rfl (SJ_dj ?_))
      refine DJ_C 8 (Con.sw 902 905 (Con.sw 900 903 (Con.sw 901 30 (insertInt64_c m.cleared.length 1 (posA (cmpZ tx) 0 m.cleared) (fun j => cInt (m.cleared.getD j 0)) (fun _ => cInt tx) (by omega) (by omega) (by omega) hp (fun _ _ => ⟨_, rfl⟩) (fun _ _ => ⟨_, rfl⟩))))) rfl rfl rfl (SVs.imp_refl _) (fun _ => rfl) rfl rfl rfl fun _ _ => ?_
      refine DJ_onL TT_ok [9, 10, 11] rfl ?_
      refine DJ_sw2 11 rfl (by kernel_rfl) (by kernel_rfl) (OJ_M TT_ok rfl rfl rfl rfl rfl rfl (SJ_sw [] fun B0 H0 => ?_))
      refine DJ_end (by kernel_rfl) ?_
      refine X_fin TT_ok () [] rfl rfl ?_ ?_ ?_
      · exact SVs.imp_refl _
      · exact ⟨⟨_, rfl, Ch.imp_refl _⟩, ⟨_, rfl, Ch.imp_refl _⟩, ⟨_, rfl, Ch.imp_trans (imp_ins hp) (imp_list (by show _ = putCl m.cleared tx; unfold putCl; rw [if_neg hn]))⟩, trivial⟩
      · trivial
  · have hk : (clearR m tx r d).cleared = m.cleared := by
      cases d with
      | false => rfl
      | true =>
        show putCl m.cleared tx = _
        unfold putCl
        by_cases h : tx ∈ m.cleared
        · rw [if_pos h]
        · rw [decide_eq_false h] at e; cases e
    refine T_view (V_fold 900 3 903 rfl rfl rfl rfl rfl rfl rfl) ?_
    refine T_view (V_open 900 3 905 rfl rfl rfl rfl rfl rfl) ?_
    refine T_skip ?_
    refine X_fin TT_ok () [] rfl rfl ?_ ?_ ?_
    · exact SVs.imp_refl _
    · exact ⟨⟨_, rfl, Ch.imp_refl _⟩, ⟨_, rfl, Ch.imp_refl _⟩, ⟨_, rfl, imp_list hk.symm⟩, trivial⟩
    · trivial
theorem l6Put_c (xs : List Int) (hl : xs.length ≤ 1000) (hs : xs.Pairwise (· < ·)) (n : Int) : Con Tryz.prog 132 [900] [.a (.g 900), vI n] [(900, arrC 1 cInt 0 xs)] (fun _ : Unit => True) (fun _ => [.a (.g 901)]) fun _ => [(901, arrC 1 cInt 0 (putCl xs n))] := by
  refine con_enter Tryz.func132 rfl rfl rfl fun B0 r_ D_ w0 => ?_
  refine T_auto TT_ok rfl ?_
  refine RJ_Q TT_ok (l3Has_q xs (by omega) n) rfl rfl rfl rfl rfl ?_
  by_cases c : n ∈ xs
  · rw [decide_eq_true c]
    refine T_cond rfl (fun _ => ?_) (fun e => by cases e)
    refine T_auto TT_ok rfl ?_
    refine T_view (V_ren 4 900 901 rfl rfl rfl rfl rfl rfl) ?_
    refine T_ret TT_ok (()) [(4, none)] rfl rfl ?_ ?_ ?_
    · exact SVs.imp_refl _
    · exact ⟨⟨_, rfl, imp_list (by unfold putCl; rw [if_pos c])⟩, trivial⟩
    · trivial
  rw [decide_eq_false c]
  refine T_cond rfl (fun e => by cases e) (fun _ => ?_)
  refine T_auto TT_ok rfl ?_
  refine RJ_bs TT_ok 33 (fun i => cInt (([] : List Int).getD i 0)) rfl rfl rfl rfl rfl rfl rfl (fun i hi => absurd hi (Nat.not_lt_zero _)) (mu1 := []) rfl rfl rfl ?_
  refine RJ_auto TT_ok rfl ?_
  refine T_loopA (ι := Nat) (fun i => [(6, vI i), (5, .a (.g 33))]) (fun i => [(33, arrC 1 cInt 0 (xs.take i))]) (fun i => i ≤ xs.length ∧ ∀ a, a < i → cmpZ n (xs.getD a 0) < 0) (fun i => xs.length - i) 0 [33] [33] rfl rfl ⟨Nat.zero_le _, fun a ha => absurd ha (Nat.not_lt_zero _)⟩ (by repeat (first | exact trivial | refine And.intro ⟨_, rfl, SV.imp_refl _⟩ ?_)) ⟨⟨_, rfl, imp_list (sz := 1) (enc := cInt) (z := 0) (xs := []) rfl⟩, (by repeat (first | exact trivial | refine And.intro ⟨_, rfl, Ch.imp_refl _⟩ ?_))⟩ ?_
  intro i ⟨h1, h2⟩
  refine T_auto TT_ok rfl ?_
  refine T_cond rfl (fun e3 => ?_) (fun e3 => ?_)
  · have hi : i < xs.length := by
      rcases Nat.lt_or_ge i xs.length with h | h
      · exact h
      · rw [decide_eq_false (by omega)] at e3; cases e3
    have hlt : (xs.take i).length = i := by rw [List.length_take]; omega
    rw [decide_eq_true (by omega)] at e3
    have e4 : xs.getD i 0 < n := of_decide_eq_true e3
    refine T_auto TT_ok rfl ?_
    refine RJ_bs TT_ok 66 (fun _ => cInt (xs.getD i 0)) rfl rfl rfl rfl rfl rfl rfl (fun i hi => by rcases i with _ | i <;> first | rfl | omega) (mu1 := []) rfl rfl rfl ?_
    refine RJ_auto TT_ok rfl ?_
    refine RJ_appM TT_ok 33 66 67 rfl rfl rfl rfl rfl rfl rfl rfl rfl rfl rfl rfl ⟨by show ((xs.take i).length + 1) * 8 ≤ _; omega, by unfold maxL; omega⟩ ?_
    refine RJ_auto TT_ok rfl ?_
    refine X_view (V_sw 33 67) ?_
    refine X_inv (i + 1) ⟨hi, fun a ha => ?_⟩ (by omega) (by repeat (first | exact trivial | refine And.intro ⟨_, rfl, SV.imp_refl _⟩ ?_)) ⟨⟨_, rfl, imp_app1 (x := xs.getD i 0) (take_succ_getD hi) rfl⟩, (by repeat (first | exact trivial | refine And.intro ⟨_, rfl, Ch.imp_refl _⟩ ?_))⟩
    by_cases c : a < i
    · exact h2 a c
    · have : a = i := by omega
      subst this
      unfold cmpZ; omega
  have hc : cutAt (cmpZ n) 0 xs i := ⟨h1, h2, fun a ha hb2 hlt => by
    have h3 := cmpZ_rising hs n i a ha hb2 hlt
    rw [decide_eq_true (by omega)] at e3
    have e4 : ¬ xs.getD i 0 < n := of_decide_eq_false e3
    unfold cmpZ at h3
    omega⟩
  have hM : putCl xs n = insL i n xs := by unfold putCl; rw [if_neg c, posA_eq hc]
  have hlt : (xs.take i).length = i := by rw [List.length_take]; omega
  rw [hM]
  refine T_auto TT_ok rfl ?_
  refine T_cap 5 33 rfl rfl fun cp _ => ?_
  refine T_drawL TT_ok [33] [0, 1, 4, 5, 6, 7, 2, 3, 8, 9] rfl rfl fun B0 H0 => ?_
  refine DJ_one 2 rfl (by kernel_rfl) (OJ_bs TT_ok 70 (fun _ => cInt n) rfl rfl rfl rfl rfl rfl rfl (fun j hj => by rcases j with _ | j <;> first | rfl | omega) (mu1 := []) rfl rfl rfl (SJ_dj ?_))
  refine DJ_one 3 rfl (by kernel_rfl) (OJ_appM TT_ok 33 70 71 rfl rfl rfl rfl rfl rfl rfl rfl rfl rfl rfl rfl ⟨by show ((xs.take i).length + 1) * 8 ≤ _; omega, by unfold maxL; omega⟩ (SJ_dj ?_))
  refine DJ_one 8 rfl (by kernel_rfl) (OJ_appC TT_ok 71 77 rfl rfl rfl rfl rfl rfl rfl rfl rfl rfl rfl rfl ⟨by show ((xs.take i).length + 1 + _) * 8 ≤ _; omega, by unfold maxL; omega⟩ (hob := ⟨rfl, ⟨by omega, by omega, by omega⟩, trivial⟩) (SJ_dj ?_))
  refine DJ_onL TT_ok [9] rfl ?_
  refine DJ_endA TT_ok rfl ?_
  refine T_view (V_sw 77 901) ?_
  refine T_ret TT_ok (()) [(4, none)] rfl rfl ?_ ?_ ?_
  · exact SVs.imp_refl _
  · exact ⟨⟨_, rfl, imp_ins2 h1⟩, trivial⟩
  · trivial
theorem l6Turn_k (m : GMachine) (hl : m.log.length ≤ 1048576) (tx r : Int) :
    Con Tryz.prog 63 [900, 902] [.a (.p 900 0), vI tx, vI r] [(900, .rrow (rowM m 901 902 903)), (902, arrC 4 cRecord GRecord.z m.log)] (fun _ : Unit => True) (fun _ => []) fun _ => [(902, arrC 4 cRecord GRecord.z (m.log.map (turnF tx r)))] := by
  refine con_enter Tryz.func63 rfl rfl rfl fun B0 r_ D_ w0 => ?_
  refine T_auto TT_ok rfl ?_
  refine T_loopA (ι := Nat) (fun i => [(6, vI i)]) (fun i => [(902, .arr 4 m.log.length fun j => cRecord (turnN tx r m.log i j))]) (fun i => i ≤ m.log.length) (fun i => m.log.length - i) 0 [902] [] rfl rfl (Nat.zero_le _) (by repeat (first | exact trivial | refine And.intro ⟨_, rfl, SV.imp_refl _⟩ ?_)) ⟨⟨_, rfl, Ch.imp_arr fun j hj => by rw [turnN, if_neg (Nat.not_lt_zero _)]⟩, (by repeat (first | exact trivial | refine And.intro ⟨_, rfl, Ch.imp_refl _⟩ ?_))⟩ ?_
  intro i h1
  refine T_auto TT_ok rfl ?_
  refine T_condD rfl (fun e => ?_) (fun e => ?_)
  · have hi : i < m.log.length := by omega
    refine T_auto TT_ok rfl ?_
    refine T_cond rfl (fun e2 => ?_) (fun e2 => ?_)
    · simp only [Int.toNat_natCast, turnN_at] at e2
      have hF : turnF tx r (m.log.getD i GRecord.z) = ⟨3, (m.log.getD i GRecord.z).tx, (m.log.getD i GRecord.z).region, (m.log.getD i GRecord.z).sets⟩ := by unfold turnF; rw [if_pos (show atLog tx r 1 _ = true from e2)]
      refine T_auto TT_ok rfl ?_
      exact X_inv (i + 1) hi (by omega) (by repeat (first | exact trivial | refine And.intro ⟨_, rfl, SV.imp_refl _⟩ ?_)) ⟨⟨_, rfl, Ch.imp_arr fun j hj => by
        by_cases c : j = i
        · subst c
          simp only [Int.toNat_natCast, Nat.beq_refl, cond_true, turnN_at, turnN_next, hF]
          rfl
        · rw [turnN_ne c, beqN, decide_eq_false (by rw [Int.toNat_natCast]; exact c)]
          rfl⟩, (by repeat (first | exact trivial | refine And.intro ⟨_, rfl, Ch.imp_refl _⟩ ?_))⟩
    · simp only [Int.toNat_natCast, turnN_at] at e2
      have hF : turnF tx r (m.log.getD i GRecord.z) = m.log.getD i GRecord.z := by unfold turnF; rw [if_neg (fun h => by have := (show atLog tx r 1 _ = false from e2).symm.trans h; cases this)]
      refine T_auto TT_ok rfl ?_
      exact X_inv (i + 1) hi (by omega) (by repeat (first | exact trivial | refine And.intro ⟨_, rfl, SV.imp_refl _⟩ ?_)) ⟨⟨_, rfl, Ch.imp_arr fun j hj => by
        by_cases c : j = i
        · subst c; rw [turnN_next, hF, turnN_at]
        · rw [turnN_ne c]⟩, (by repeat (first | exact trivial | refine And.intro ⟨_, rfl, Ch.imp_refl _⟩ ?_))⟩
  · have hi : i = m.log.length := by omega
    subst hi
    refine T_exit rfl ?_
    refine X_fin TT_ok () [] rfl rfl ?_ ?_ ?_
    · exact SVs.imp_refl _
    · refine ⟨⟨_, rfl, Ch.imp_len (List.length_map _).symm fun j hj => ?_⟩, trivial⟩
      rw [turnN, if_pos hj]
      congr 1
      simp [List.getD_eq_getElem?_getD, hj]
    · trivial
def rawP (f : Nat → Nat → Value) (tx r : Int) (i : Nat) : Bool := !(bif nI (f i 1) == tx then nI (f i 2) == r else false)
theorem l6Clear_r (al : Bool) (n : Nat) (hl : n ≤ 1000000) (f : Nat → Nat → Value) (cl : List Int) (hc : cl.length ≤ 1000) (hs : cl.Pairwise (· < ·)) (tx r : Int) (d : Bool) :
    Con Tryz.prog 64 [902, 900, 901, 903] [.a (.p 900 0), vI tx, vI r, vB d] [(902, .arr 4 n (raw4 f)), (900, .row [.v (.bool al), .g 901, .g 902, .g 903]), (903, arrC 1 cInt 0 cl)] (fun _ : Unit => True) (fun _ => [])
      fun _ => [(904, .arr 4 ((List.range n).filter (rawP f tx r)).length fun j => raw4 f (((List.range n).filter (rawP f tx r)).getD j 0)), (900, .row [.v (.bool al), .g 901, .g 904, .g 905]), (905, arrC 1 cInt 0 (bif d then putCl cl tx else cl))] := by
  have hR : (List.range n).length = n := List.length_range
  refine con_enter Tryz.func64 rfl rfl rfl fun B0 r_ D_ w0 => ?_
  refine T_auto TT_ok rfl ?_
  refine RJ_bs TT_ok 33 (fun j => raw4 f ((([] : List Nat).filter (rawP f tx r)).getD j 0)) rfl rfl rfl rfl rfl rfl rfl (fun i hi => absurd hi (Nat.not_lt_zero _)) (mu1 := []) rfl rfl rfl ?_
  refine RJ_auto TT_ok rfl ?_
  refine T_loopA (ι := Nat) (fun i => [(9, vI i), (8, .a (.g 33))]) (fun i => [(33, .arr 4 (((List.range n).take i).filter (rawP f tx r)).length fun j => raw4 f ((((List.range n).take i).filter (rawP f tx r)).getD j 0))]) (fun i => i ≤ n) (fun i => n - i) 0 [33] [33] rfl rfl (Nat.zero_le _) (by repeat (first | exact trivial | refine And.intro ⟨_, rfl, SV.imp_refl _⟩ ?_)) ⟨⟨_, rfl, Ch.imp_refl _⟩, (by repeat (first | exact trivial | refine And.intro ⟨_, rfl, Ch.imp_refl _⟩ ?_))⟩ ?_
  intro i h1
  have hle := filter_take_le (List.range n) (rawP f tx r) i
  refine T_auto TT_ok rfl ?_
  refine T_condD rfl (fun e => ?_) (fun e => ?_)
  · have hi : i < n := by omega
    refine T_auto TT_ok rfl ?_
    refine T_cond rfl (fun e2 => ?_) (fun e2 => ?_)
    · have hp : rawP f tx r i = true := by
        unfold rawP
        cases c1 : nI (f i 1) == tx <;> cases c2 : nI (f i 2) == r <;> simp [c1, c2, bne] at e2 ⊢
      have hF := filter_take_yes (z := 0) (by rw [hR]; exact hi) (p := rawP f tx r) (by rw [range_getD hi]; exact hp)
      rw [range_getD hi] at hF
      refine T_auto TT_ok rfl ?_
      refine RJ_bs TT_ok 66 (fun _ => raw4 f i) rfl rfl rfl rfl rfl rfl rfl (fun i hi => by rcases i with _ | i <;> first | rfl | omega) (mu1 := []) rfl rfl rfl ?_
      refine RJ_auto TT_ok rfl ?_
      refine RJ_appM TT_ok 33 66 67 rfl rfl rfl rfl rfl rfl rfl rfl rfl rfl rfl rfl ⟨by show ((((List.range n).take i).filter (rawP f tx r)).length + 1) * 48 ≤ _; omega, by unfold maxL; omega⟩ ?_
      refine RJ_auto TT_ok rfl ?_
      refine X_view (V_sw 33 67) ?_
      refine X_inv (i + 1) hi (by omega) (by repeat (first | exact trivial | refine And.intro ⟨_, rfl, SV.imp_refl _⟩ ?_)) ⟨⟨_, rfl, Ch.imp_len (by rw [hF]; simp) fun j hj => ?_⟩, (by repeat (first | exact trivial | refine And.intro ⟨_, rfl, Ch.imp_refl _⟩ ?_))⟩
      rw [hF]
      by_cases c : j < (((List.range n).take i).filter (rawP f tx r)).length
      · rw [appD_lt c, getD_app_lt c]
      · have : j = (((List.range n).take i).filter (rawP f tx r)).length := by omega
        subst this
        rw [appD_ge (Nat.le_refl _), getD_app_eq]
    · have hp : rawP f tx r i = false := by
        unfold rawP
        cases c1 : nI (f i 1) == tx <;> cases c2 : nI (f i 2) == r <;> simp [c1, c2, bne] at e2 ⊢
      have hF := filter_take_no (z := 0) (by rw [hR]; exact hi) (p := rawP f tx r) (by rw [range_getD hi]; exact hp)
      refine T_auto TT_ok rfl ?_
      exact X_inv (i + 1) hi (by omega) (by repeat (first | exact trivial | refine And.intro ⟨_, rfl, SV.imp_refl _⟩ ?_)) ⟨⟨_, rfl, Ch.imp_len (by rw [hF]) fun j hj => by rw [hF]⟩, (by repeat (first | exact trivial | refine And.intro ⟨_, rfl, Ch.imp_refl _⟩ ?_))⟩
  · have hi : i = n := by omega
    subst hi
    rw [show (List.range i).take i = List.range i from List.take_of_length_le (by simp)]
    refine T_auto TT_ok rfl ?_
    refine T_cond rfl (fun e2 => ?_) (fun e2 => ?_)
    · subst e2
      refine T_auto TT_ok rfl ?_
      refine RJ_C TT_ok (Con.sw 901 905 (Con.sw 900 903 (l6Put_c cl hc hs tx))) rfl rfl (SVs.imp_refl _) (fun _ => rfl) rfl rfl rfl fun _ _ => ?_
      refine RJ_fin TT_ok rfl ?_
      refine X_view (V_sw 33 904) ?_
      refine X_fin TT_ok () [] rfl rfl ?_ ?_ ?_
      · exact SVs.imp_refl _
      · exact ⟨⟨_, rfl, Ch.imp_refl _⟩, ⟨_, rfl, Ch.imp_refl _⟩, ⟨_, rfl, Ch.imp_refl _⟩, trivial⟩
      · trivial
    · subst e2
      refine T_view (V_sw 33 904) ?_
      refine T_view (V_fold 900 3 903 rfl rfl rfl rfl rfl rfl rfl) ?_
      refine T_view (V_open 900 3 905 rfl rfl rfl rfl rfl rfl) ?_
      refine T_skip ?_
      refine X_fin TT_ok () [] rfl rfl ?_ ?_ ?_
      · exact SVs.imp_refl _
      · exact ⟨⟨_, rfl, Ch.imp_refl _⟩, ⟨_, rfl, Ch.imp_refl _⟩, ⟨_, rfl, Ch.imp_refl _⟩, trivial⟩
      · trivial
theorem row_ids {h : PH} {x : GRecord} {l : List Value} (e : D.rds h (cRecord x) l) : nI (l.getD 1 undef) = x.tx ∧ nI (l.getD 2 undef) = x.region := by
  obtain ⟨y1, t1, rfl, e1, y2, t2, rfl, e2, y3, t3, rfl, e3, y4, t4, rfl, ⟨A, c, e4, _⟩, e5⟩ := e
  have e2 : y2 = .int .i64 x.tx := e2
  have e3 : y3 = .int .i64 x.region := e3
  subst e2; subst e3
  exact ⟨rfl, rfl⟩
theorem l6Clear_k (m : GMachine) (hm : m.log.length ≤ 1000000) (hc : m.cleared.length ≤ 1000) (hs : m.cleared.Pairwise (· < ·)) (tx r : Int) (d : Bool) :
    Con Tryz.prog 64 [902, 900, 901, 903] [.a (.p 900 0), vI tx, vI r, vB d] [(902, arrC 4 cRecord GRecord.z m.log), (900, .row (rowM m 901 902 903)), (903, arrC 1 cInt 0 m.cleared)] (fun _ : Unit => True) (fun _ => [])
      fun _ => [(904, arrC 4 cRecord GRecord.z (clearR m tx r d).log), (900, .row (rowM m 901 904 905)), (905, arrC 1 cInt 0 (clearR m tx r d).cleared)] := by
  have hmem : ∀ j, j < ((List.range m.log.length).filter fun i => keepR tx r (m.log.getD i GRecord.z)).length → ((List.range m.log.length).filter fun i => keepR tx r (m.log.getD i GRecord.z)).getD j 0 < m.log.length := fun j hj => by
    rw [gd0 hj]
    have h1 := (List.mem_filter.1 (List.getElem_mem hj)).1
    exact List.mem_range.1 h1
  have hC := Con.liftR (P := Tryz.prog) (ι := Unit) (f := 64) (sz := 4) (n := m.log.length) (k := 902) (ko := 904) (g := fun i => cRecord (m.log.getD i GRecord.z)) (ks := [902, 900, 901, 903])
    (args := [.a (.p 900 0), vI tx, vI r, vB d]) (args' := fun _ => [.a (.p 900 0), vI tx, vI r, vB d]) (rest := [(900, .row (rowM m 901 902 903)), (903, arrC 1 cInt 0 m.cleared)]) (rest' := fun _ => [(900, .row (rowM m 901 904 905)), (905, arrC 1 cInt 0 (clearR m tx r d).cleared)]) (φ := fun _ => True) (res := fun _ => [])
    (m := fun _ => ((List.range m.log.length).filter fun i => keepR tx r (m.log.getD i GRecord.z)).length) (ρ := fun _ j => ((List.range m.log.length).filter fun i => keepR tx r (m.log.getD i GRecord.z)).getD j 0)
    (fun j c e => by
      rw [mlk_cons] at e
      split at e
      · rename_i h; subst h; injection e with e; subst e; exact ⟨rfl, by decide⟩
      · rw [mlk_cons] at e
        split at e
        · rename_i h; subst h; injection e with e; subst e; exact ⟨rfl, by decide⟩
        · cases e)
    (fun _ _ => rfl) (fun _ _ j hj => hmem j hj)
    (fun _ _ i j hi hj hij e => by
      have hn : ((List.range m.log.length).filter fun i => keepR tx r (m.log.getD i GRecord.z)).Nodup := List.nodup_range.filter _
      have h1 := List.pairwise_iff_getElem.1 hn
      rw [gd0 hi, gd0 hj] at e
      rcases Nat.lt_or_gt_of_ne hij with h | h
      · exact h1 i j hi hj h e
      · exact h1 j i hj hi h e.symm)
    (fun B r r' H H' vals row _ _ e => e)
    (fun _ B r r' H H' out e => e)
    (fun _ B r r' h j c e s => by
      rw [mlk_cons] at e
      split at e
      · rename_i hj; subst hj; injection e with e; subst e; exact s
      · rw [mlk_cons] at e
        split at e
        · rename_i hj; subst hj; injection e with e; subst e; exact s
        · cases e)
    (fun row hrow _ hrd => ?_)
  · refine hC.wkM fun _ _ => ⟨⟨_, rfl, ?_⟩, ⟨_, rfl, Ch.imp_refl _⟩, ⟨_, rfl, Ch.imp_refl _⟩, trivial⟩
    have e := filter_range (z := GRecord.z) (keepR tx r) m.log
    show Ch.imp _ (arrC 4 cRecord GRecord.z (m.log.filter (keepR tx r)))
    refine Ch.imp_len (by rw [e, List.length_map]) fun j hj => ?_
    rw [e]
    congr 1
    exact (gmap (f := fun i => m.log.getD i GRecord.z) hj).symm
  · obtain ⟨hh, hrd⟩ := hrd
    have hD := l6Clear_r m.alive m.log.length hm (fun i j => (row i).getD j undef) m.cleared hc hs tx r d
    have hr : ∀ i, i < m.log.length → raw4 (fun i j => (row i).getD j undef) i = (row i).map D.v := fun i hi => (row_raw (hrd i hi)).symm
    have hp : (List.range m.log.length).filter (rawP (fun i j => (row i).getD j undef) tx r) = (List.range m.log.length).filter fun i => keepR tx r (m.log.getD i GRecord.z) := by
      refine List.filter_congr fun i hi => ?_
      obtain ⟨q1, q2⟩ := row_ids (hrd i (List.mem_range.1 hi))
      unfold rawP keepR
      rw [q1, q2]
    rw [hp] at hD
    refine Con.wkM (Con.inM hD (mu0 := (902, .arr 4 m.log.length fun i => (row i).map D.v) :: [(900, .row (rowM m 901 902 903)), (903, arrC 1 cInt 0 m.cleared)]) rfl ⟨⟨_, rfl, Ch.imp_arr fun i hi => (hr i hi).symm⟩, ⟨_, rfl, Ch.imp_refl _⟩, ⟨_, rfl, Ch.imp_refl _⟩, trivial⟩) fun _ _ => ⟨⟨_, rfl, Ch.imp_arr fun j hj => hr _ (hmem j hj)⟩, ⟨_, rfl, Ch.imp_refl _⟩, ⟨_, rfl, Ch.imp_refl _⟩, trivial⟩
end Go.Proofs.YtcikaknfogpeeaaGreat
namespace Go.Proofs.YtcikaknfogpeeaaGreat
open Go Go.RowKit
set_option linter.unusedVariables false
set_option linter.unusedSimpArgs false
set_option maxRecDepth 4000
abbrev cAt (x : GCopyAt) : List D := [dI x.region, dI x.machine, dB x.backup]
abbrev clk (c : GCluster) (n : Int) : GCluster := { c with clock := n }
theorem wantsK_m (t : GTx) (hl : t.sets.length ≤ 1048576) : MkL Tryz.prog 155 [vP (cTx t)] 1 cInt 0 (wantsL t) := wants_m t hl
theorem checksK_m (t : GTx) (h1 : t.reads.length ≤ 1048576) (h2 : t.sets.length ≤ 1048576) (hs : sortedS t.sets) : MkL Tryz.prog 156 [vP (cTx t)] 5 cNote GNote.z (checksL t) := checks_m t h1 h2 hs
theorem copies_k (c : GCluster) (hok : ClusOk c) (t : GTx) (ht : TxIn c t) (n : Int) (b : Bool) :
    Con Tryz.prog 157 [900, 901] [.a (.p 900 0), vP (cTx t), vB b] [(900, .rrow (rowC (clk c n) 901 902 903)), (901, roC 1 cPlace GPlace.z c.places)] (fun _ : Unit => True) (fun _ => [.a (.g 910)]) fun _ => [(910, arrC 3 cAt GCopyAt.z (copiesP c t b))] := by
  have hw := wants_le ht.ok
  have hs := ht.ok.1.2.2.2.2.2.2
  refine con_enter Tryz.func157 rfl rfl rfl fun B0 r_ D_ w0 => ?_
  refine T_auto TT_ok rfl ?_
  refine RJ_C TT_ok (Con.sw 900 13 (wantsK_m t (by omega))) rfl rfl (SVs.imp_refl _) (fun _ => rfl) rfl rfl rfl fun _ _ => ?_
  refine RJ_auto TT_ok rfl ?_
  refine T_view (V_nil 7 40 3 (fun i => cAt (([] : List GCopyAt).getD i GCopyAt.z)) rfl rfl rfl rfl) ?_
  refine T_loopA (ι := Nat) (fun k => [(15, vI k), (7, .a (.g 40))]) (fun k => [(40, arrC 3 cAt GCopyAt.z (copN c (wantsL t) b k))]) (fun k => k ≤ (wantsL t).length) (fun k => (wantsL t).length - k) 0 [40] [40] rfl rfl (Nat.zero_le _) (by repeat (first | exact trivial | refine And.intro ⟨_, rfl, SV.imp_refl _⟩ ?_)) (by repeat (first | exact trivial | refine And.intro ⟨_, rfl, Ch.imp_refl _⟩ ?_)) ?_
  intro k h1
  refine T_auto TT_ok rfl ?_
  refine T_condD rfl (fun e => ?_) (fun e => ?_)
  · have hk : k < (wantsL t).length := by omega
    have hr := wants_in ht hk
    have hp := place_le hok hr
    have hc := copN_le hok (fun k hk => wants_in ht hk) (b := b) (k := k) (by omega)
    refine T_auto TT_ok rfl ?_
    refine T_loopA (ι := Nat) (fun i => [(28, vI i), (7, .a (.g 40))]) (fun i => [(40, arrC 3 cAt GCopyAt.z (copN c (wantsL t) b k ++ rowP b ((wantsL t).getD k 0) (placeM c ((wantsL t).getD k 0)) i))]) (fun i => i ≤ (placeM c ((wantsL t).getD k 0)).length) (fun i => (placeM c ((wantsL t).getD k 0)).length - i) 0 [40] [40] rfl rfl (Nat.zero_le _) (by repeat (first | exact trivial | refine And.intro ⟨_, rfl, SV.imp_refl _⟩ ?_)) ⟨⟨_, rfl, imp_list (by simp [rowP])⟩, (by repeat (first | exact trivial | refine And.intro ⟨_, rfl, Ch.imp_refl _⟩ ?_))⟩ ?_
    intro i h2
    have hrl := rowP_le (b := b) (r := (wantsL t).getD k 0) (ms := placeM c ((wantsL t).getD k 0)) (i := i)
    refine T_auto TT_ok rfl ?_
    refine T_condD rfl (fun e2 => ?_) (fun e2 => ?_)
    · simp only [Int.toNat_natCast] at e2
      have e2 : (i : Int) < (placeM c ((wantsL t).getD k 0)).length := e2
      have hi : i < (placeM c ((wantsL t).getD k 0)).length := by omega
      refine T_auto TT_ok rfl ?_
      refine T_cond (b := bif decide ((i : Int) > 0) then true else !b) rfl (fun e3 => ?_) (fun e3 => ?_)
      · refine T_auto TT_ok rfl ?_
        refine RJ_bs TT_ok 45 (fun _ => cAt ⟨(wantsL t).getD k 0, (placeM c ((wantsL t).getD k 0)).getD i 0, decide ((i : Int) > 0)⟩) rfl rfl rfl rfl rfl rfl rfl (fun i hi => by rcases i with _ | i <;> first | rfl | omega) (mu1 := []) rfl rfl rfl ?_
        refine RJ_auto TT_ok rfl ?_
        refine RJ_appM TT_ok 40 45 46 rfl rfl rfl rfl rfl rfl rfl rfl rfl rfl rfl rfl ⟨by show ((copN c (wantsL t) b k ++ rowP b ((wantsL t).getD k 0) (placeM c ((wantsL t).getD k 0)) i).length + 1) * 24 ≤ _; rw [List.length_append]; omega, by rw [List.length_append]; unfold maxL; omega⟩ ?_
        refine RJ_auto TT_ok rfl ?_
        refine X_view (V_sw 40 46) ?_
        exact X_inv (i + 1) hi (by omega) (by repeat (first | exact trivial | refine And.intro ⟨_, rfl, SV.imp_refl _⟩ ?_)) ⟨⟨_, rfl, imp_app1 (x := (⟨(wantsL t).getD k 0, (placeM c ((wantsL t).getD k 0)).getD i 0, decide ((i : Int) > 0)⟩ : GCopyAt)) (by rw [rowP, e3, cond_true, List.append_assoc]) rfl⟩, (by repeat (first | exact trivial | refine And.intro ⟨_, rfl, Ch.imp_refl _⟩ ?_))⟩
      · refine T_auto TT_ok rfl ?_
        exact X_inv (i + 1) hi (by omega) (by repeat (first | exact trivial | refine And.intro ⟨_, rfl, SV.imp_refl _⟩ ?_)) ⟨⟨_, rfl, imp_list (by rw [rowP, e3]; rfl)⟩, (by repeat (first | exact trivial | refine And.intro ⟨_, rfl, Ch.imp_refl _⟩ ?_))⟩
    · simp only [Int.toNat_natCast] at e2
      have e2 : ¬ (i : Int) < (placeM c ((wantsL t).getD k 0)).length := e2
      have hi : i = (placeM c ((wantsL t).getD k 0)).length := by omega
      subst hi
      refine T_auto TT_ok rfl ?_
      exact X_inv (k + 1) hk (by omega) (by repeat (first | exact trivial | refine And.intro ⟨_, rfl, SV.imp_refl _⟩ ?_)) ⟨⟨_, rfl, imp_list (by rw [copN])⟩, (by repeat (first | exact trivial | refine And.intro ⟨_, rfl, Ch.imp_refl _⟩ ?_))⟩
  · have hk : k = (wantsL t).length := by omega
    subst hk
    refine T_auto TT_ok rfl ?_
    refine T_view (V_sw 40 910) ?_
    refine T_ret TT_ok (()) [(6, none)] rfl rfl ?_ ?_ ?_
    · exact SVs.imp_refl _
    · exact ⟨⟨_, rfl, Ch.imp_refl _⟩, trivial⟩
    · trivial
abbrev tw (t : GTx) (p d s : Int) : GTx := { t with phase := p, done := d, stamp := s }
theorem TxIn.tw {c : GCluster} {t : GTx} (h : TxIn c t) {p d s : Int} (h4 : 1 ≤ p ∧ p ≤ 9) (h5 : 0 ≤ d ∧ d ≤ 1000) (h6 : 0 ≤ s ∧ s ≤ 1000000) : TxIn c (tw t p d s) := h.same ⟨rfl, rfl, rfl, rfl⟩ h4 h5 h6
theorem plan2 {c : GCluster} {t : GTx} (h : t.phase = 2 ∨ t.phase = 5 ∨ t.phase = 8) : (planL c t).length = (wantsL t).length := by
  unfold planL
  rw [if_neg (by omega), if_neg (by omega), if_neg (by omega), if_neg (by omega), List.length_map]
theorem plan3 {c : GCluster} {t : GTx} (h : t.phase = 3) : (planL c t).length = (checksL t).length := by
  unfold planL
  rw [if_pos h, List.length_map]
theorem plan4 {c : GCluster} {t : GTx} (h : t.phase = 4) : planL c t = copiesP c t true := by
  unfold planL
  rw [if_neg (by omega), if_pos h]
theorem plan6 {c : GCluster} {t : GTx} (h : t.phase = 6) : planL c t = copiesP c t false := by
  unfold planL
  rw [if_neg (by omega), if_neg (by omega), if_pos h]
theorem advance_k (c : GCluster) (hok : ClusOk c) (y : Int × GTx) (hx : TxIn c y.2) (hp : 2 ≤ y.2.phase ∧ y.2.phase ≤ 9) (hc : 0 ≤ y.1 ∧ y.1 ≤ 1000000) (hl : y.2.phase = 2 → y.1 < 1000000) :
    Con Tryz.prog 88 [900, 901, 902, 903, 77, 78, 79] [.a (.p 900 0), .a (.p 77 0)] [(900, .row (rowC (clk c y.1) 901 902 903)), (901, roC 1 cPlace GPlace.z c.places), (77, .row (rowT y.2 78 79)), (78, roC 5 cNote GNote.z y.2.reads), (79, roC 5 cSet GSet.z y.2.sets)]
      (fun _ : Unit => True) (fun _ => [vI 0]) fun _ => [(900, .row (rowC (clk c (advP c y).1) 901 902 903)), (77, .row (rowT (advP c y).2 78 79))] := by
  have hs1 := hx.ok.1.2.2.2.2.2.1
  have hs2 := hx.ok.1.2.2.2.2.2.2
  have hst := hx.ok.1.2.2.2.2.1
  refine con_enter Tryz.func88 rfl rfl rfl fun B0 r_ D_ w0 => ?_
  refine T_auto TT_ok rfl ?_
  refine T_loopA (ι := Nat × Int × Int × Int × Int) (fun _ => []) (fun z => [(900, .row (rowC (clk c z.2.1) 901 902 903)), (77, .row (rowT (tw y.2 z.2.2.1 z.2.2.2.1 z.2.2.2.2) 78 79))])
    (fun z => advF c z.1 (z.2.1, tw y.2 z.2.2.1 z.2.2.2.1 z.2.2.2.2) = advP c y ∧ 9 - z.2.2.1 < z.1 ∧ (2 ≤ z.2.2.1 ∧ z.2.2.1 ≤ 9) ∧ (0 ≤ z.2.2.2.1 ∧ z.2.2.2.1 ≤ 1000) ∧ (0 ≤ z.2.2.2.2 ∧ z.2.2.2.2 ≤ 1000000) ∧ (0 ≤ z.2.1 ∧ z.2.1 ≤ 1000000) ∧ (z.2.2.1 = 2 → z.2.1 < 1000000))
    (fun z => z.1) (8, y.1, y.2.phase, y.2.done, y.2.stamp) [900, 77] [] rfl rfl ⟨rfl, by show 9 - y.2.phase < ((8 : Nat) : Int); omega, hp, hx.ok.1.2.2.2.1, hst, hc, hl⟩ (by repeat (first | exact trivial | refine And.intro ⟨_, rfl, SV.imp_refl _⟩ ?_)) (by repeat (first | exact trivial | refine And.intro ⟨_, rfl, Ch.imp_refl _⟩ ?_)) ?_
  rintro ⟨n, k, p, d, s⟩ ⟨h1, h2, h3, h4, h5, h6, h7⟩
  dsimp only at h1 h2 h3 h4 h5 h6 h7 ⊢
  have hT : TxIn c (tw y.2 p d s) := hx.tw (by omega) h4 h5
  have hle := planL_le hok hT
  have hso := sortedS_of hT.ok.2.2
  refine T_auto TT_ok rfl ?_
  refine T_joinA (ι := Unit) (fun _ => [(5, vI (nextP (tw y.2 p d s))), (6, vI (planL c (tw y.2 p d s)).length)]) (fun _ => []) (fun _ => p ≠ 7 ∧ p ≠ 9) [] [] rfl rfl ?_ ?_
  · refine T_condE rfl (fun e => ?_) (fun e => ?_)
    · have e : p = 2 := e
      refine T_auto TT_ok rfl ?_
      refine RJ_C TT_ok (Con.sw 900 14 (wantsK_m (tw y.2 p d s) (by show y.2.sets.length ≤ _; omega))) rfl rfl (SVs.imp_refl _) (fun _ => rfl) rfl rfl rfl fun _ _ => ?_
      refine RJ_auto TT_ok rfl ?_
      exact X_inv () ⟨by omega, by omega⟩ Nat.zero_lt_one ⟨⟨_, rfl, SV.imp_of (vI_eq (by unfold nextP; rw [if_pos e]))⟩, ⟨_, rfl, SV.imp_of (vI_eq (by rw [plan2 (.inl e)]))⟩, (by repeat (first | exact trivial | refine And.intro ⟨_, rfl, SV.imp_refl _⟩ ?_))⟩ (by repeat (first | exact trivial | refine And.intro ⟨_, rfl, Ch.imp_refl _⟩ ?_))
    refine T_auto TT_ok rfl ?_
    refine T_condE rfl (fun e3 => ?_) (fun e3 => ?_)
    · have e3 : p = 3 := e3
      refine T_auto TT_ok rfl ?_
      refine RJ_C TT_ok (Con.sw 900 19 (checksK_m (tw y.2 p d s) (by show y.2.reads.length ≤ _; omega) (by show y.2.sets.length ≤ _; omega) hso)) rfl rfl (SVs.imp_refl _) (fun _ => rfl) rfl rfl rfl fun _ _ => ?_
      refine RJ_auto TT_ok rfl ?_
      refine T_condE rfl (fun e4 => ?_) (fun e4 => ?_)
      · refine T_auto TT_ok rfl ?_
        exact X_inv () ⟨by omega, by omega⟩ Nat.zero_lt_one ⟨⟨_, rfl, SV.imp_of (vI_eq (by unfold nextP; rw [if_neg e, if_pos e3, if_pos (show y.2.sets.length = 0 by omega)]))⟩, ⟨_, rfl, SV.imp_of (vI_eq (by rw [plan3 e3]))⟩, (by repeat (first | exact trivial | refine And.intro ⟨_, rfl, SV.imp_refl _⟩ ?_))⟩ (by repeat (first | exact trivial | refine And.intro ⟨_, rfl, Ch.imp_refl _⟩ ?_))
      · refine T_auto TT_ok rfl ?_
        exact X_inv () ⟨by omega, by omega⟩ Nat.zero_lt_one ⟨⟨_, rfl, SV.imp_of (vI_eq (by unfold nextP; rw [if_neg e, if_pos e3, if_neg (show ¬ y.2.sets.length = 0 by omega)]))⟩, ⟨_, rfl, SV.imp_of (vI_eq (by rw [plan3 e3]))⟩, (by repeat (first | exact trivial | refine And.intro ⟨_, rfl, SV.imp_refl _⟩ ?_))⟩ (by repeat (first | exact trivial | refine And.intro ⟨_, rfl, Ch.imp_refl _⟩ ?_))
    refine T_auto TT_ok rfl ?_
    refine T_condE rfl (fun e4 => ?_) (fun e4 => ?_)
    · have e4 : p = 4 := e4
      refine T_auto TT_ok rfl ?_
      refine RJ_C TT_ok (Con.sw 910 31 (copies_k c hok (tw y.2 p d s) hT k true)) rfl rfl (SVs.imp_refl _) (fun _ => rfl) rfl rfl rfl fun _ _ => ?_
      refine RJ_auto TT_ok rfl ?_
      exact X_inv () ⟨by omega, by omega⟩ Nat.zero_lt_one ⟨⟨_, rfl, SV.imp_of (vI_eq (by unfold nextP; rw [if_neg e, if_neg e3, if_pos e4]))⟩, ⟨_, rfl, SV.imp_of (vI_eq (by rw [plan4 e4]))⟩, (by repeat (first | exact trivial | refine And.intro ⟨_, rfl, SV.imp_refl _⟩ ?_))⟩ (by repeat (first | exact trivial | refine And.intro ⟨_, rfl, Ch.imp_refl _⟩ ?_))
    refine T_auto TT_ok rfl ?_
    refine T_condE rfl (fun e5 => ?_) (fun e5 => ?_)
    · have e5 : p = 5 := e5
      refine T_auto TT_ok rfl ?_
      refine RJ_C TT_ok (Con.sw 900 36 (wantsK_m (tw y.2 p d s) (by show y.2.sets.length ≤ _; omega))) rfl rfl (SVs.imp_refl _) (fun _ => rfl) rfl rfl rfl fun _ _ => ?_
      refine RJ_auto TT_ok rfl ?_
      exact X_inv () ⟨by omega, by omega⟩ Nat.zero_lt_one ⟨⟨_, rfl, SV.imp_of (vI_eq (by unfold nextP; rw [if_neg e, if_neg e3, if_neg e4, if_pos e5]))⟩, ⟨_, rfl, SV.imp_of (vI_eq (by rw [plan2 (.inr (.inl e5))]))⟩, (by repeat (first | exact trivial | refine And.intro ⟨_, rfl, SV.imp_refl _⟩ ?_))⟩ (by repeat (first | exact trivial | refine And.intro ⟨_, rfl, Ch.imp_refl _⟩ ?_))
    refine T_auto TT_ok rfl ?_
    refine T_condE rfl (fun e6 => ?_) (fun e6 => ?_)
    · have e6 : p = 6 := e6
      refine T_auto TT_ok rfl ?_
      refine RJ_C TT_ok (Con.sw 910 42 (copies_k c hok (tw y.2 p d s) hT k false)) rfl rfl (SVs.imp_refl _) (fun _ => rfl) rfl rfl rfl fun _ _ => ?_
      refine RJ_auto TT_ok rfl ?_
      exact X_inv () ⟨by omega, by omega⟩ Nat.zero_lt_one ⟨⟨_, rfl, SV.imp_of (vI_eq (by unfold nextP; rw [if_neg e, if_neg e3, if_neg e4, if_neg e5, if_pos e6]))⟩, ⟨_, rfl, SV.imp_of (vI_eq (by rw [plan6 e6]))⟩, (by repeat (first | exact trivial | refine And.intro ⟨_, rfl, SV.imp_refl _⟩ ?_))⟩ (by repeat (first | exact trivial | refine And.intro ⟨_, rfl, Ch.imp_refl _⟩ ?_))
    refine T_auto TT_ok rfl ?_
    refine T_condE rfl (fun e8 => ?_) (fun e8 => ?_)
    · have e8 : p = 8 := e8
      refine T_auto TT_ok rfl ?_
      refine RJ_C TT_ok (Con.sw 900 47 (wantsK_m (tw y.2 p d s) (by show y.2.sets.length ≤ _; omega))) rfl rfl (SVs.imp_refl _) (fun _ => rfl) rfl rfl rfl fun _ _ => ?_
      refine RJ_auto TT_ok rfl ?_
      exact X_inv () ⟨by omega, by omega⟩ Nat.zero_lt_one ⟨⟨_, rfl, SV.imp_of (vI_eq (by unfold nextP; rw [if_neg e, if_neg e3, if_neg e4, if_neg e5, if_neg e6]))⟩, ⟨_, rfl, SV.imp_of (vI_eq (by rw [plan2 (.inr (.inr e8))]))⟩, (by repeat (first | exact trivial | refine And.intro ⟨_, rfl, SV.imp_refl _⟩ ?_))⟩ (by repeat (first | exact trivial | refine And.intro ⟨_, rfl, Ch.imp_refl _⟩ ?_))
    have e : p ≠ 2 := e
    have e3 : p ≠ 3 := e3
    have e4 : p ≠ 4 := e4
    have e5 : p ≠ 5 := e5
    have e6 : p ≠ 6 := e6
    have e8 : p ≠ 8 := e8
    have hA : advP c y = (k, tw y.2 p d s) := by rw [← h1]; exact adv_stop (y := (k, tw y.2 p d s)) (show p = 7 ∨ p = 9 ∨ d < (planL c (tw y.2 p d s)).length from by omega) n
    rw [hA]
    refine T_auto TT_ok rfl ?_
    refine T_ret TT_ok (()) [(4, none)] rfl rfl ?_ ?_ ?_
    · exact SVs.imp_refl _
    · exact ⟨⟨_, rfl, Ch.imp_refl _⟩, ⟨_, rfl, Ch.imp_refl _⟩, trivial⟩
    · trivial
  rintro ⟨⟩ ⟨h7n, h9n⟩
  refine X_go TT_ok rfl ?_
  refine T_condD rfl (fun e => ?_) (fun e => ?_)
  · have hA : advP c y = (k, tw y.2 p d s) := by rw [← h1]; exact adv_stop (.inr (.inr e)) n
    rw [hA]
    refine T_auto TT_ok rfl ?_
    refine T_ret TT_ok (()) [(4, none)] rfl rfl ?_ ?_ ?_
    · exact SVs.imp_refl _
    · exact ⟨⟨_, rfl, Ch.imp_refl _⟩, ⟨_, rfl, Ch.imp_refl _⟩, trivial⟩
    · trivial
  have hns : ¬ stopP c (k, tw y.2 p d s).2 := fun h => by
    rcases h with h | h | h
    · exact h7n h
    · exact h9n h
    · exact e h
  obtain ⟨m, rfl⟩ : ∃ m, n = m + 1 := ⟨n - 1, by omega⟩
  rw [adv_go hns] at h1
  have hnx := nextP_in (t := tw y.2 p d s) h3 h7n h9n
  have hnx1 : p < nextP (tw y.2 p d s) := hnx.1
  refine T_auto TT_ok rfl ?_
  refine T_condE rfl (fun e2 => ?_) (fun e2 => ?_)
  · have hk := h7 e2
    refine T_auto TT_ok rfl ?_
    refine T_condE rfl (fun e3 => absurd e3 (by show ¬ k = 1000000; omega)) (fun e3 => ?_)
    refine T_auto TT_ok rfl ?_
    refine X_inv (m, k + 1, nextP (tw y.2 p d s), 0, k + 1) ⟨?_, ?_, ⟨?_, hnx.2⟩, ?_, ?_, ?_, ?_⟩ (Nat.lt_succ_self m) (by repeat (first | exact trivial | refine And.intro ⟨_, rfl, SV.imp_refl _⟩ ?_)) (by repeat (first | exact trivial | refine And.intro ⟨_, rfl, Ch.imp_refl _⟩ ?_))
    · rw [← h1]; congr 1; unfold advS; rw [if_pos e2, if_pos e2]
    · dsimp only; omega
    · dsimp only; omega
    · dsimp only; omega
    · dsimp only; omega
    · dsimp only; omega
    · intro h; dsimp only at h; omega
  · refine T_auto TT_ok rfl ?_
    refine X_inv (m, k, nextP (tw y.2 p d s), 0, s) ⟨?_, ?_, ⟨?_, hnx.2⟩, ?_, h5, h6, ?_⟩ (Nat.lt_succ_self m) (by repeat (first | exact trivial | refine And.intro ⟨_, rfl, SV.imp_refl _⟩ ?_)) (by repeat (first | exact trivial | refine And.intro ⟨_, rfl, Ch.imp_refl _⟩ ?_))
    · rw [← h1]; congr 1; unfold advS; rw [if_neg e2, if_neg e2]
    · dsimp only; omega
    · dsimp only; omega
    · dsimp only; omega
    · intro h; dsimp only at h; omega
end Go.Proofs.YtcikaknfogpeeaaGreat
namespace Go.Proofs.YtcikaknfogpeeaaGreat
open Go Go.RowKit
set_option linter.unusedVariables false
set_option linter.unusedSimpArgs false
set_option maxRecDepth 4000
section
variable {E : Env} {B : BE} {mu mu' : Mu} {w : World} {H : Nat → PH} {TT : List TI} {fr fr' : Fr} {gf gf' : GF} {a : Act} {all rest : List Oper} {Q : Exit → Act → World → Prop} {o : Oper} {J : Act → World → Prop} {G : AG}
theorem OJ_QRc {f : Nat} {args : List SV} {res : SV} (C : Ans E.P f [] args [] res) {svs args' : List SV} {g : Option (Nat × Nat × Bool)} {t : Nat} {q : Ob} {es : List Prop} {gs : List GO}
    (hc : callC E.N all fr gf o = some (f, svs, g, t, gf')) (hw : wkSL [] [] [] svs = some (args', q)) (ha : SVs.imp E.P args' args) (hs : splitO fr gf (match g with | none => [] | some (_, d, b) => acts 6 gf d b) q [] [] = some (es, gs))
    (k : SJ G J E (frQ fr g t res) (gfQ gf' g t res) mu) (hres : res.rO = true := by exact rfl) (hen : Enters E.P f := by exact enters_B (by kernel_rfl)) (he : PAlls es := by repeat (first | exact trivial | refine And.intro rfl ?_)) (ho : GAlls gs := by first | exact trivial | ((simp only [GAlls, GO.p, InR]; (repeat' (first | exact trivial | refine And.intro ?_ ?_ | refine fun _ => ?_)) <;> first | omega | (simp only [decide_eq_true_eq, decide_eq_false_iff_not, Int.toNat_natCast] at *; omega) | (simp at *; omega)))) : OJ G E all Q J o fr gf mu :=
  OJ_QR C hc rfl hen hres hw ha hs he ho k
end
theorem primary_n (c : GCluster) (hok : ClusOk c) (n : Int) (r0 : Int) (hr : 0 ≤ r0 ∧ r0 < c.places.length) : Con Tryz.prog 161 [900, 901, 902] [.a (.p 900 0), vI r0] [(900, .rrow (rowC (clk c n) 901 902 903)), (901, roC 1 cPlace GPlace.z c.places), (902, roC 4 cMachine GMachine.z c.machines)] (fun _ : Unit => True) (fun _ => [.a (.pe 902 4 (mAt c r0.toNat 0) 0)]) fun _ => [] := by
  have hpl := hok.pl (r := r0.toNat) (by omega)
  have hm := (hok.at (r := r0.toNat) (k := 0) (by omega) (by omega)).1
  refine con_enter Tryz.func161 rfl rfl rfl fun B0 r_ D_ w0 => ?_
  refine T_auto TT_ok rfl ?_
  refine T_drawL TT_ok [] [0, 1, 2, 3, 4, 5, 6, 7, 8, 9, 10, 11, 12, 13, 14, 15] rfl rfl fun B0 H0 => ?_
  refine DJ_endA TT_ok rfl ?_
  refine T_ret TT_ok (()) [(4, none)] rfl rfl ?_ ?_ ?_
  · exact SVs.imp_refl _
  · trivial
  · trivial
def badN (m : GMachine) (n : GNote) : Bool := bif lockedB ((cellsOf m n.region).getD n.slot.toNat GCell.z).head then true else ((cellsOf m n.region).getD n.slot.toNat GCell.z).head.tdiv 4 != n.version
def checkN (m : GMachine) : Int := bif !m.alive then 6 else 0
theorem check_k (c : GCluster) (hok : ClusOk c) (k : Int) (t : GTx) (n : GNote) (hr : 0 ≤ n.region ∧ n.region < c.places.length) (hs : 0 ≤ n.slot ∧ n.slot ≤ 5) :
    Con Tryz.prog 158 [900, 901, 902, 77, 78, 79] [.a (.p 900 0), .a (.p 77 0), vR (cNote n)] [(900, .rrow (rowC (clk c k) 901 902 903)), (901, roC 1 cPlace GPlace.z c.places), (902, roC 4 cMachine GMachine.z c.machines), (77, .row (rowT t 78 79))]
      (fun _ : Unit => True) (fun _ => [vI (checkN (machAt c n.region.toNat 0))]) fun _ => [(77, .row (rowT (bif (machAt c n.region.toNat 0).alive then (bif badN (machAt c n.region.toNat 0) n then backT t else t) else t) 78 79))] := by
  have hpl := hok.pl (r := n.region.toNat) (by omega)
  have hm := (hok.at (r := n.region.toNat) (k := 0) (by omega) (by omega)).1
  have bm := (hok.mach (r := n.region.toNat) (k := 0) (by omega) (by omega)).1.1
  refine con_enter Tryz.func158 rfl rfl rfl fun B0 r_ D_ w0 => ?_
  refine T_auto1 TT_ok rfl ?_
  refine T_freeze 5 rfl rfl rfl rfl (fun _ => rfl) (fun _ => rfl) fun r_ => ?_
  refine T_auto TT_ok rfl ?_
  refine RJ_C TT_ok (primary_n c hok k n.region hr) rfl rfl (SVs.imp_refl _) (fun _ => rfl) rfl rfl rfl (fun _ _ => ?_) (hin := ⟨⟨_, rfl, ro_rrow⟩, ⟨_, rfl, ro_ro⟩, ⟨_, rfl, ro_ro⟩, trivial⟩)
  refine RJ_auto TT_ok rfl ?_
  refine T_cond (b := !(machAt c n.region.toNat 0).alive) rfl (fun e3 => ?_) (fun e3 => ?_)
  · have ha : (machAt c n.region.toNat 0).alive = false := by simpa using e3
    rw [show checkN (machAt c n.region.toNat 0) = 6 from by unfold checkN; rw [ha]; rfl, ha]
    refine T_auto TT_ok rfl ?_
    refine T_ret TT_ok (()) [(6, none)] rfl rfl ?_ ?_ ?_
    · exact SVs.imp_refl _
    · exact ⟨⟨_, rfl, Ch.imp_refl _⟩, trivial⟩
    · trivial
  have ha : (machAt c n.region.toNat 0).alive = true := by simpa using e3
  rw [show checkN (machAt c n.region.toNat 0) = 0 from by unfold checkN; rw [ha]; rfl, ha]
  obtain ⟨c1, c2, c3⟩ := cell_ok hok hr hs ha
  have hh := headB_iff.1 c2
  have hv : 0 ≤ (cellAt c n.region n.slot).head.tdiv 4 ∧ (cellAt c n.region n.slot).head.tdiv 4 ≤ 1000000 := by rw [Int.tdiv_eq_ediv_of_nonneg hh.1]; omega
  have k1 := locked1 c2
  unfold cellAt at hv k1
  refine T_view (V_unro (fr' := []) 7 902 rfl rfl rfl hm) ?_
  refine T_auto TT_ok rfl ?_
  refine T_joinA (ι := Unit) (fun _ => [(8, .a (.p 8 0))]) (fun _ => [(8, .row [.v (.int .i64 ((cellsOf (machAt c n.region.toNat 0) n.region).getD n.slot.toNat GCell.z).head), .v (.int .i64 ((cellsOf (machAt c n.region.toNat 0) n.region).getD n.slot.toNat GCell.z).value)])]) (fun _ => True) [] [] rfl rfl ?_ ?_
  · refine T_drawL TT_ok [] [0, 1, 2, 4, 5, 3, 6, 7, 8, 9] rfl rfl fun B0 H0 => ?_
    refine DJ_two 3 8 rfl rfl (by kernel_rfl) (OJ_QRc (cells_q (machAt c n.region.toNat 0) (by omega) n.region) rfl rfl (SVs.imp_refl _) rfl (SJ_dj ?_)) (OJ_M TT_ok rfl rfl rfl rfl rfl rfl (SJ_dj ?_))
    · refine DJ_onL TT_ok [6, 7, 8, 9] rfl ?_
      refine DJ_one 8 rfl (by kernel_rfl) (OJ_M TT_ok rfl rfl rfl rfl rfl rfl (SJ_dj ?_))
      refine DJ_one 9 rfl (by kernel_rfl) (OJ_M TT_ok rfl rfl rfl rfl rfl rfl (SJ_dj ?_))
      refine DJ_endA TT_ok rfl ?_
      exact X_inv () trivial Nat.zero_lt_one (by repeat (first | exact trivial | refine And.intro ⟨_, rfl, SV.imp_refl _⟩ ?_)) (by repeat (first | exact trivial | refine And.intro ⟨_, rfl, Ch.imp_refl _⟩ ?_))
    · skip
      refine DJ_one 3 rfl (by kernel_rfl) (OJ_QRc (cells_q (machAt c n.region.toNat 0) (by omega) n.region) rfl rfl (SVs.imp_refl _) rfl (SJ_dj ?_))
      refine DJ_onL TT_ok [6, 7, 9] rfl ?_
      refine DJ_one 9 rfl (by kernel_rfl) (OJ_M TT_ok rfl rfl rfl rfl rfl rfl (SJ_dj ?_))
      refine DJ_endA TT_ok rfl ?_
      exact X_inv () trivial Nat.zero_lt_one (by repeat (first | exact trivial | refine And.intro ⟨_, rfl, SV.imp_refl _⟩ ?_)) (by repeat (first | exact trivial | refine And.intro ⟨_, rfl, Ch.imp_refl _⟩ ?_))
  rintro ⟨⟩ _
  refine X_go TT_ok rfl ?_
  rw [k1]
  refine T_cond (b := badN (machAt c n.region.toNat 0) n) rfl (fun e4 => ?_) (fun e4 => ?_)
  · rw [e4]
    refine T_auto TT_ok rfl ?_
    refine T_ret TT_ok (()) [(6, none)] rfl rfl ?_ ?_ ?_
    · exact SVs.imp_refl _
    · exact ⟨⟨_, rfl, Ch.imp_refl _⟩, trivial⟩
    · trivial
  · rw [e4]
    refine T_auto TT_ok rfl ?_
    refine T_ret TT_ok (()) [(6, none)] rfl rfl ?_ ?_ ?_
    · exact SVs.imp_refl _
    · exact ⟨⟨_, rfl, Ch.imp_refl _⟩, trivial⟩
    · trivial
abbrev mOf (c : GCluster) (i : Int) : GMachine := c.machines.getD i.toNat GMachine.z
def backN (m : GMachine) : Int := bif !m.alive then 6 else bif decide ((m.log.length : Int) = 200) then 9 else 0
theorem backup_k (c : GCluster) (hok : ClusOk c) (k : Int) (t : GTx) (ht : TxOk t) (x : GCopyAt) (hx : 0 ≤ x.machine ∧ x.machine < c.machines.length) :
    Con Tryz.prog 159 [900, 902, 77, 78, 79] [.a (.p 900 0), .a (.p 77 0), vR (cAt x)] [(900, .rrow (rowC (clk c k) 901 902 903)), (902, arrC 4 cMachine GMachine.z c.machines), (77, .rrow (rowT t 78 79)), (78, roC 5 cNote GNote.z t.reads), (79, roC 5 cSet GSet.z t.sets)]
      (fun _ : Unit => True) (fun _ => [vI (backN (mOf c x.machine))]) fun _ => [(902, arrC 4 cMachine GMachine.z (if backN (mOf c x.machine) = 0 then c.machines.set x.machine.toNat (appLog (mOf c x.machine) ⟨2, t.id, x.region, setsAt x.region t.sets⟩) else c.machines))] := by
  have hs2 := ht.1.2.2.2.2.2.2
  have hsl : (setsAt x.region t.sets).length ≤ t.sets.length := List.length_filter_le _ _
  have hM := hok.2.2.1 x.machine.toNat (by omega)
  have bl : (mOf c x.machine).log.length ≤ 200 := hM.1.2.1
  refine con_enter Tryz.func159 rfl rfl rfl fun B0 r_ D_ w0 => ?_
  refine T_auto1 TT_ok rfl ?_
  refine T_freeze 5 rfl rfl rfl rfl (fun _ => rfl) (fun _ => rfl) fun r_ => ?_
  refine T_auto TT_ok rfl ?_
  refine T_drawL TT_ok [] [0, 1, 2, 3, 4, 5, 6, 7] rfl rfl fun B0 H0 => ?_
  refine DJ_endA TT_ok rfl ?_
  refine T_cond (b := !(mOf c x.machine).alive) rfl (fun e3 => ?_) (fun e3 => ?_)
  · rw [show backN (mOf c x.machine) = 6 from by unfold backN; rw [e3]; rfl, if_neg (by decide)]
    refine T_auto TT_ok rfl ?_
    refine T_ret TT_ok (()) [(6, none)] rfl rfl ?_ ?_ ?_
    · exact SVs.imp_refl _
    · exact ⟨⟨_, rfl, Ch.imp_refl _⟩, trivial⟩
    · trivial
  refine T_auto TT_ok rfl ?_
  refine T_condE rfl (fun e4 => ?_) (fun e4 => ?_)
  · rw [show backN (mOf c x.machine) = 9 from by unfold backN; rw [e3, decide_eq_true e4]; rfl, if_neg (by decide)]
    refine T_auto TT_ok rfl ?_
    refine T_ret TT_ok (()) [(6, none)] rfl rfl ?_ ?_ ?_
    · exact SVs.imp_refl _
    · exact ⟨⟨_, rfl, Ch.imp_refl _⟩, trivial⟩
    · trivial
  rw [show backN (mOf c x.machine) = 0 from by unfold backN; rw [e3, decide_eq_false e4]; rfl, if_pos rfl]
  refine T_auto TT_ok rfl ?_
  refine T_view (V_carve 902 x.machine 60 rfl rfl rfl rfl rfl rfl hx) ?_
  refine T_view (V_pe 7 rfl rfl rfl) ?_
  refine T_view (V_open 60 1 61 rfl rfl rfl rfl rfl rfl) ?_
  refine T_view (V_open 60 2 62 rfl rfl rfl rfl rfl rfl) ?_
  refine T_view (V_open 60 3 63 rfl rfl rfl rfl rfl rfl) ?_
  refine T_drawL TT_ok [60, 62] [0, 1, 2, 3, 4, 5, 6, 7, 8, 9, 10, 11, 12] rfl rfl fun B0 H0 => ?_
  refine DJ_C 10 (Con.sw 900 38 (setsOf_m t x.region (by omega))) rfl rfl rfl (SVs.imp_refl _) (fun _ => rfl) rfl rfl rfl fun _ _ => ?_
  refine DJ_onL TT_ok [11, 12] rfl ?_
  refine DJ_C 12 (Con.sw 904 64 (Con.sw 903 63 (Con.sw 902 62 (Con.sw 901 61 (Con.sw 900 60 (append_k (mOf c x.machine) (by omega) ⟨2, t.id, x.region, setsAt x.region t.sets⟩ (by show (setsAt x.region t.sets).length ≤ _; omega))))))) rfl rfl rfl (SVs.imp_refl _) (fun _ => rfl) rfl rfl rfl fun _ _ => ?_
  refine DJ_endA TT_ok rfl ?_
  refine T_view (V_fold 60 1 61 rfl rfl rfl rfl rfl rfl rfl) ?_
  refine T_view (V_fold 60 2 64 rfl rfl rfl rfl rfl rfl rfl) ?_
  refine T_view (V_fold 60 3 63 rfl rfl rfl rfl rfl rfl rfl) ?_
  refine T_view (V_uncarve 902 60 rfl rfl rfl rfl rfl rfl rfl) ?_
  refine T_ret TT_ok (()) [(6, none)] rfl rfl ?_ ?_ ?_
  · exact SVs.imp_refl _
  · exact ⟨⟨_, rfl, imp_set (y := appLog (mOf c x.machine) ⟨2, t.id, x.region, setsAt x.region t.sets⟩) (OwnI.refl _)⟩, trivial⟩
  · trivial
end Go.Proofs.YtcikaknfogpeeaaGreat
namespace Go.Proofs.YtcikaknfogpeeaaGreat
open Go Go.RowKit
set_option linter.unusedVariables false
set_option linter.unusedSimpArgs false
set_option maxRecDepth 4000
theorem set_self {α : Type} {z : α} {xs : List α} {i : Nat} (h : i < xs.length) : xs.set i (xs.getD i z) = xs := by
  rw [show xs.getD i z = xs[i] from by simp [h]]
  exact List.set_getElem_self h
theorem canClear_q (m : GMachine) (hl : m.cleared.length ≤ 1048576) (tx : Int) : Ans Tryz.prog 220 [] [vP (cMachine m), vI tx] [] (vB (canClear m tx)) := by
  refine con_enter Tryz.func220 rfl rfl rfl fun B0 r_ D_ w0 => ?_
  refine T_auto TT_ok rfl ?_
  refine RJ_Q TT_ok (contains_Int_q m.cleared hl tx) rfl rfl rfl rfl rfl ?_
  exact T_ansB TT_ok [(4, none)] rfl rfl (rfl)
def clrN (m : GMachine) (tx : Int) : Int := bif !m.alive then 6 else bif !canClear m tx then 9 else 0
abbrev putX (m : GMachine) (r : Int) (xs : List GCell) : GCopy := ⟨(m.copies.getD (copyI m r).toNat GCopy.z).region, xs⟩
noncomputable def clrM (t : GTx) (x : GCopyAt) (m : GMachine) : GMachine := clearR (bif x.backup then setCells m x.region (instL (cellsOf m x.region) (setsAt x.region t.sets)) else m) t.id x.region true
theorem clearAt_k (c : GCluster) (hok : ClusOk c) (k : Int) (t : GTx) (ht : TxOk t) (x : GCopyAt) (hx : 0 ≤ x.machine ∧ x.machine < c.machines.length) (hh : (mOf c x.machine).alive = true → hasB (mOf c x.machine) x.region = true) :
    Con Tryz.prog 160 [900, 902, 77, 78, 79] [.a (.p 900 0), .a (.p 77 0), vR (cAt x)] [(900, .rrow (rowC (clk c k) 901 902 903)), (902, arrC 4 cMachine GMachine.z c.machines), (77, .rrow (rowT t 78 79)), (78, roC 5 cNote GNote.z t.reads), (79, roC 5 cSet GSet.z t.sets)]
      (fun _ : Unit => True) (fun _ => [vI (clrN (mOf c x.machine) t.id)]) fun _ => [(902, arrC 4 cMachine GMachine.z (if clrN (mOf c x.machine) t.id = 0 then c.machines.set x.machine.toNat (clrM t x (mOf c x.machine)) else c.machines))] := by
  have hs2 := ht.1.2.2.2.2.2.2
  have hsl : (setsAt x.region t.sets).length ≤ t.sets.length := List.length_filter_le _ _
  have hM := hok.2.2.1 x.machine.toNat (by omega)
  have bl : (mOf c x.machine).log.length ≤ 200 := hM.1.2.1
  have bc : (mOf c x.machine).cleared.length ≤ 60 := hM.1.2.2
  have bk : (mOf c x.machine).copies.length ≤ 6 := hM.1.1
  have hrs := (risesB_iff.1 hM.2.1).2
  obtain ⟨s1, s2, s3⟩ := setsAt_ok ht x.region
  refine con_enter Tryz.func160 rfl rfl rfl fun B0 r_ D_ w0 => ?_
  refine T_auto1 TT_ok rfl ?_
  refine T_freeze 5 rfl rfl rfl rfl (fun _ => rfl) (fun _ => rfl) fun r_ => ?_
  refine T_auto TT_ok rfl ?_
  refine T_drawL TT_ok [] [0, 1, 2, 3, 4, 5, 6, 7] rfl rfl fun B0 H0 => ?_
  refine DJ_endA TT_ok rfl ?_
  refine T_cond (b := !(mOf c x.machine).alive) rfl (fun e3 => ?_) (fun e3 => ?_)
  · rw [show clrN (mOf c x.machine) t.id = 6 from by unfold clrN; rw [e3]; rfl, if_neg (by decide)]
    refine T_auto TT_ok rfl ?_
    refine T_ret TT_ok (()) [(6, none)] rfl rfl ?_ ?_ ?_
    · exact SVs.imp_refl _
    · exact ⟨⟨_, rfl, Ch.imp_refl _⟩, trivial⟩
    · trivial
  have ha : (mOf c x.machine).alive = true := by simpa using e3
  have hhas := hh ha
  have hcb := (cellsOf_len hM hhas).2
  refine T_auto TT_ok rfl ?_
  refine RJ_Q TT_ok (canClear_q (mOf c x.machine) (by omega) t.id) rfl rfl rfl rfl rfl ?_
  refine T_cond (b := !canClear (mOf c x.machine) t.id) rfl (fun e4 => ?_) (fun e4 => ?_)
  · rw [show clrN (mOf c x.machine) t.id = 9 from by unfold clrN; rw [e3, e4]; rfl, if_neg (by decide)]
    refine T_auto TT_ok rfl ?_
    refine T_ret TT_ok (()) [(6, none)] rfl rfl ?_ ?_ ?_
    · exact SVs.imp_refl _
    · exact ⟨⟨_, rfl, Ch.imp_refl _⟩, trivial⟩
    · trivial
  rw [show clrN (mOf c x.machine) t.id = 0 from by unfold clrN; rw [e3, e4]; rfl, if_pos rfl]
  refine T_auto TT_ok rfl ?_
  refine T_view (V_carve 902 x.machine 60 rfl rfl rfl rfl rfl rfl hx) ?_
  refine T_view (V_pe 7 rfl rfl rfl) ?_
  refine T_view (V_open 60 1 61 rfl rfl rfl rfl rfl rfl) ?_
  refine T_view (V_open 60 2 62 rfl rfl rfl rfl rfl rfl) ?_
  refine T_view (V_open 60 3 63 rfl rfl rfl rfl rfl rfl) ?_
  refine T_joinA (ι := Unit) (fun _ => []) (fun _ => [(61, arrC 2 cCopy GCopy.z (bif x.backup then setCells (mOf c x.machine) x.region (instL (cellsOf (mOf c x.machine) x.region) (setsAt x.region t.sets)) else mOf c x.machine).copies)]) (fun _ => True) [61] [] rfl rfl ?_ ?_
  · refine T_cond (b := x.backup) rfl (fun e5 => ?_) (fun e5 => ?_)
    · rw [e5]
      refine T_drawL TT_ok [61] [0, 1, 2, 4, 5, 6, 3, 7, 8] rfl rfl fun B0 H0 => ?_
      refine DJ_C 3 (Con.sw 905 65 (Con.sw 904 64 (Con.sw 903 63 (Con.sw 902 62 (Con.sw 901 61 (Con.sw 900 60 (cells_k (mOf c x.machine) (by omega) x.region hhas))))))) rfl rfl rfl (SVs.imp_refl _) (fun _ => rfl) rfl rfl rfl fun _ _ => ?_
      refine DJ_C 7 (Con.sw 900 38 (setsOf_m t x.region (by omega))) rfl rfl rfl (SVs.imp_refl _) (fun _ => rfl) rfl rfl rfl fun _ _ => ?_
      refine DJ_C 8 (Con.sw 900 65 (install_k (cellsOf (mOf c x.machine) x.region) (setsAt x.region t.sets) (by omega) hcb s1)) rfl rfl rfl (SVs.imp_refl _) (fun _ => rfl) rfl rfl rfl fun _ _ => ?_
      refine DJ_endA TT_ok rfl ?_
      refine X_view (V_fold 64 1 65 rfl rfl rfl rfl rfl rfl rfl) ?_
      refine X_view (V_uncarve 61 64 rfl rfl rfl rfl rfl rfl rfl) ?_
      exact X_inv () trivial Nat.zero_lt_one (by repeat (first | exact trivial | refine And.intro ⟨_, rfl, SV.imp_refl _⟩ ?_)) ⟨⟨_, rfl, imp_set (y := putX (mOf c x.machine) x.region (instL (cellsOf (mOf c x.machine) x.region) (setsAt x.region t.sets))) (OwnI.refl _)⟩, (by repeat (first | exact trivial | refine And.intro ⟨_, rfl, Ch.imp_refl _⟩ ?_))⟩
    · rw [e5]
      refine T_auto TT_ok rfl ?_
      exact X_inv () trivial Nat.zero_lt_one (by repeat (first | exact trivial | refine And.intro ⟨_, rfl, SV.imp_refl _⟩ ?_)) (by repeat (first | exact trivial | refine And.intro ⟨_, rfl, Ch.imp_refl _⟩ ?_))
  rintro ⟨⟩ _
  refine X_go TT_ok rfl ?_
  refine T_drawL TT_ok [60, 62, 63] [0, 1, 2, 3, 4, 5, 6, 7] rfl rfl fun B0 H0 => ?_
  refine DJ_C 7 (Con.sw 905 67 (Con.sw 904 66 (Con.sw 903 63 (Con.sw 902 62 (Con.sw 901 61 (Con.sw 900 60 (clear_k (mOf c x.machine) (by omega) (by omega) hrs t.id x.region true))))))) rfl rfl rfl (SVs.imp_refl _) (fun _ => rfl) rfl rfl rfl fun _ _ => ?_
  refine DJ_endA TT_ok rfl ?_
  refine T_view (V_fold 60 1 61 rfl rfl rfl rfl rfl rfl rfl) ?_
  refine T_view (V_fold 60 2 66 rfl rfl rfl rfl rfl rfl rfl) ?_
  refine T_view (V_fold 60 3 67 rfl rfl rfl rfl rfl rfl rfl) ?_
  refine T_view (V_uncarve 902 60 rfl rfl rfl rfl rfl rfl rfl) ?_
  refine T_ret TT_ok (()) [(6, none)] rfl rfl ?_ ?_ ?_
  · exact SVs.imp_refl _
  · exact ⟨⟨_, rfl, imp_set (y := clrM t x (mOf c x.machine)) (OwnI.of (by unfold clrM; cases x.backup <;> rfl))⟩, trivial⟩
  · trivial
end Go.Proofs.YtcikaknfogpeeaaGreat
namespace Go.Proofs.YtcikaknfogpeeaaGreat
open Go Go.RowKit
set_option linter.unusedVariables false
set_option linter.unusedSimpArgs false
set_option maxRecDepth 4000
theorem getD_map' {α β : Type} {za : α} {zb : β} (f : α → β) {xs : List α} {i : Nat} (h : i < xs.length) : (xs.map f).getD i zb = f (xs.getD i za) := by
  simp [List.getD_eq_getElem?_getD, h]
theorem plan3A {c : GCluster} {t : GTx} (h : t.phase = 3) (hd : t.done.toNat < (planL c t).length) : planA c t = primP c ((checksL t).getD t.done.toNat GNote.z).region := by
  rw [plan3 h] at hd
  unfold planA planL
  rw [if_pos h]
  exact getD_map' (za := GNote.z) (fun n => primP c n.region) hd
theorem planWA {c : GCluster} {t : GTx} (h : t.phase = 2 ∨ t.phase = 5 ∨ t.phase = 8) (hd : t.done.toNat < (planL c t).length) : planA c t = primP c ((wantsL t).getD t.done.toNat 0) := by
  rw [plan2 h] at hd
  unfold planA planL
  rw [if_neg (by omega), if_neg (by omega), if_neg (by omega), if_neg (by omega)]
  exact getD_map' (za := 0) (primP c) hd
theorem plan4A {c : GCluster} {t : GTx} (h : t.phase = 4) : planA c t = (copiesP c t true).getD t.done.toNat GCopyAt.z := by unfold planA; rw [plan4 h]
theorem plan6A {c : GCluster} {t : GTx} (h : t.phase = 6) : planA c t = (copiesP c t false).getD t.done.toNat GCopyAt.z := by unfold planA; rw [plan6 h]
section
variable {t : GTx} {x : GCopyAt} {n : GNote} {m : GMachine}
theorem actP_dead (ha : m.alive = false) : actP t x n m = (6, m, t) := by unfold actP; rw [ha]; rfl
theorem actP_2 (ha : m.alive = true) (h : t.phase = 2) : actP t x n m = (bif !lockB (cellsOf m x.region) (setsAt x.region t.sets) then (0, m, backT t) else bif decide ((m.log.length : Int) = 200) then (9, m, t) else (0, appLog (setCells m x.region (lockL (cellsOf m x.region) (setsAt x.region t.sets))) ⟨1, t.id, x.region, setsAt x.region t.sets⟩, incT t)) := by
  unfold actP; rw [ha, if_pos h]; rfl
theorem actP_3 (ha : m.alive = true) (h : t.phase = 3) (hn : x.region = n.region) : actP t x n m = (bif badN m n then (0, m, backT t) else (0, m, incT t)) := by
  unfold actP; rw [ha, if_neg (by omega), if_pos h, hn]; rfl
theorem actP_4 (ha : m.alive = true) (h : t.phase = 4) : actP t x n m = (bif decide ((m.log.length : Int) = 200) then (9, m, t) else (0, appLog m ⟨2, t.id, x.region, setsAt x.region t.sets⟩, incT t)) := by
  unfold actP; rw [ha, if_neg (by omega), if_neg (by omega), if_pos h]; rfl
theorem actP_5 (ha : m.alive = true) (h : t.phase = 5) : actP t x n m = (0, turnR (setCells m x.region (instL (cellsOf m x.region) (setsAt x.region t.sets))) t.id x.region, incT t) := by
  unfold actP; rw [ha, if_neg (by omega), if_neg (by omega), if_neg (by omega), if_pos h]; rfl
theorem actP_6 (ha : m.alive = true) (h : t.phase = 6) : actP t x n m = (bif !canClear m t.id then (9, m, t) else (0, clrM t x m, incT t)) := by
  unfold actP; rw [ha, if_neg (by omega), if_neg (by omega), if_neg (by omega), if_neg (by omega), if_pos h]; rfl
theorem actP_8 (ha : m.alive = true) (h : t.phase = 8) : actP t x n m = (if 0 ≤ logI m t.id x.region 1 then (0, clearR (setCells m x.region (unlkL (cellsOf m x.region) (setsAt x.region t.sets))) t.id x.region false, incT t) else (0, m, incT t)) := by
  unfold actP; rw [ha, if_neg (by omega), if_neg (by omega), if_neg (by omega), if_neg (by omega), if_neg (by omega)]; rfl
theorem setCells_self {r : Int} (h : hasB m r = true) : setCells m r (cellsOf m r) = m := by
  have hi := idxI_in (z := GCopy.z) ((any_idx (z := GCopy.z)).2 (show m.copies.any (atB r) = true from h))
  unfold setCells
  rw [cellsOf_has h]
  have := set_self (z := GCopy.z) hi.1
  rw [show (⟨(m.copies.getD (idxI (atB r) m.copies).toNat GCopy.z).region, (m.copies.getD (idxI (atB r) m.copies).toNat GCopy.z).cells⟩ : GCopy) = m.copies.getD (idxI (atB r) m.copies).toNat GCopy.z from rfl, this]
end
theorem noteB_slot {n : GNote} (h : noteB n = true) : 0 ≤ n.slot ∧ n.slot ≤ 5 := by
  unfold noteB at h
  cases c1 : inB n.region 0 5 with
  | false => rw [c1] at h; cases h
  | true =>
    cases c2 : inB n.slot 0 5 with
    | false => rw [c1, c2] at h; cases h
    | true => exact inB_iff.1 c2
set_option maxHeartbeats 1000000 in
theorem act_k (c : GCluster) (hok : ClusOk c) (k : Int) (t : GTx) (hx : TxIn c t) (hp : 2 ≤ t.phase ∧ t.phase ≤ 9) (hn79 : ¬ (t.phase = 7 ∨ t.phase = 9)) (hd : 0 ≤ t.done ∧ t.done.toNat < (planL c t).length) :
    Con Tryz.prog 89 [900, 901, 902, 77, 78, 79] [.a (.p 900 0), .a (.p 77 0), vI t.done] [(900, .rrow (rowC (clk c k) 901 902 903)), (901, roC 1 cPlace GPlace.z c.places), (902, arrC 4 cMachine GMachine.z c.machines), (77, .row (rowT (incT t) 78 79)), (78, roC 5 cNote GNote.z t.reads), (79, roC 5 cSet GSet.z t.sets)]
      (fun _ : Unit => True) (fun _ => [vI (actC c t).1]) fun _ => if (actC c t).1 = 0 then [(902, arrC 4 cMachine GMachine.z (c.machines.set (planA c t).machine.toNat (actC c t).2.1)), (77, .row (rowT (actC c t).2.2 78 79))] else [] := by
  have hs1 := hx.ok.1.2.2.2.2.2.1
  have hs2 := hx.ok.1.2.2.2.2.2.2
  have hle := planL_le hok hx
  have hT1 : TxIn c (incT t) := hx.same ⟨rfl, rfl, rfl, rfl⟩ hx.ok.1.2.2.1 (by show 0 ≤ t.done + 1 ∧ t.done + 1 ≤ 1000; omega) hx.ok.1.2.2.2.2.1
  have hso := sortedS_of hx.ok.2.2
  have hpm : planA c t ∈ planL c t := getD_mem hd.2
  have hin := planL_in hok hx _ hpm
  have hmi : 0 ≤ (planA c t).machine ∧ (planA c t).machine < c.machines.length ∧ ((mOf c (planA c t).machine).alive = true → hasB (mOf c (planA c t).machine) (planA c t).region = true) := by
    obtain ⟨j, h2, h3, h4⟩ := hin.at'
    have h5 := hok.at (r := (planA c t).region.toNat) (k := j) (by have := hin.region; omega) h2
    rw [← h3, Int.toNat_of_nonneg hin.region.1] at h5
    have h6 := h5.2
    unfold machAt at h6
    rw [← h3] at h6
    exact ⟨h5.1.1, h5.1.2, h6⟩
  have hC0 : actC c t = actP t (planA c t) ((checksL t).getD t.done.toNat GNote.z) (mOf c (planA c t).machine) := rfl
  refine con_enter Tryz.func89 rfl rfl rfl fun B0 r_ D_ w0 => ?_
  refine T_auto TT_ok rfl ?_
  refine T_condE rfl (fun e3 => ?_) (fun e3 => ?_)
  · have e3 : t.phase = 3 := e3
    have hA := plan3A e3 hd.2
    have hk : t.done.toNat < (checksL t).length := by rw [← plan3 (c := c) e3]; exact hd.2
    have hk2 : 0 ≤ t.done ∧ t.done.toNat < (checksL (incT t)).length := ⟨hd.1, hk⟩
    have hr := checksL_in hx hk
    have hnb := noteB_slot ((readsOk_iff.1 hx.ok.2.1).1 _ (List.mem_filter.1 (getD_mem (z := GNote.z) hk)).1)
    rw [hA] at hC0 ⊢
    have hC0 : actC c t = actP t (primP c ((checksL t).getD t.done.toNat GNote.z).region) ((checksL t).getD t.done.toNat GNote.z) (machAt c ((checksL t).getD t.done.toNat GNote.z).region.toNat 0) := hC0
    have hmm := (hok.at (r := ((checksL t).getD t.done.toNat GNote.z).region.toNat) (k := 0) (by omega) (by have := place_le hok hr; show 0 < (placeM c _).length; omega)).1
    refine T_auto TT_ok rfl ?_
    refine RJ_C TT_ok (Con.sw 900 20 (checksK_m (incT t) (by show t.reads.length ≤ _; omega) (by show t.sets.length ≤ _; omega) hso)) rfl rfl (SVs.imp_refl _) (fun _ => rfl) rfl rfl rfl fun _ _ => ?_
    refine RJ_auto TT_ok rfl ?_
    refine RJ_C TT_ok (check_k c hok k (incT t) ((checksL t).getD t.done.toNat GNote.z) hr hnb) rfl rfl (SVs.imp_refl _) (fun _ => rfl) rfl rfl rfl (fun _ _ => ?_) (hin := by repeat (first | exact trivial | refine And.intro ⟨_, rfl, ro_arr⟩ ?_ | refine And.intro ⟨_, rfl, ro_ro⟩ ?_ | refine And.intro ⟨_, rfl, ro_row⟩ ?_ | refine And.intro ⟨_, rfl, ro_rrow⟩ ?_ | refine And.intro ⟨_, rfl, Ch.imp_refl _⟩ ?_))
    refine RJ_auto TT_ok rfl ?_
    cases ha : (machAt c ((checksL t).getD t.done.toNat GNote.z).region.toNat 0).alive with
    | false =>
      have hC := hC0.trans (actP_dead ha)
      rw [show checkN (machAt c ((checksL t).getD t.done.toNat GNote.z).region.toNat 0) = 6 from by unfold checkN; rw [ha]; rfl]
      rw [show (actC c t).1 = 6 from by rw [hC], if_neg (by decide)]
      refine T_ret TT_ok (()) [(6, none)] rfl rfl ?_ ?_ ?_
      · exact SVs.imp_refl _
      · trivial
      · trivial
    | true =>
      have hC := hC0.trans (actP_3 ha e3 rfl)
      rw [show checkN (machAt c ((checksL t).getD t.done.toNat GNote.z).region.toNat 0) = 0 from by unfold checkN; rw [ha]; rfl]
      have hself : c.machines.set (mAt c ((checksL t).getD t.done.toNat GNote.z).region.toNat 0).toNat (machAt c ((checksL t).getD t.done.toNat GNote.z).region.toNat 0) = c.machines := set_self (z := GMachine.z) (by omega)
      cases hb : badN (machAt c ((checksL t).getD t.done.toNat GNote.z).region.toNat 0) ((checksL t).getD t.done.toNat GNote.z) with
      | false =>
        rw [hb] at hC
        rw [show (actC c t).1 = 0 from by rw [hC]; rfl, if_pos rfl, show (actC c t).2.1 = machAt c ((checksL t).getD t.done.toNat GNote.z).region.toNat 0 from by rw [hC]; rfl, show (actC c t).2.2 = incT t from by rw [hC]; rfl]
        refine T_ret TT_ok (()) [(6, none)] rfl rfl ?_ ?_ ?_
        · exact SVs.imp_refl _
        · exact ⟨⟨_, rfl, imp_list hself.symm⟩, ⟨_, rfl, Ch.imp_refl _⟩, trivial⟩
        · trivial
      | true =>
        rw [hb] at hC
        rw [show (actC c t).1 = 0 from by rw [hC]; rfl, if_pos rfl, show (actC c t).2.1 = machAt c ((checksL t).getD t.done.toNat GNote.z).region.toNat 0 from by rw [hC]; rfl, show (actC c t).2.2 = backT t from by rw [hC]; rfl]
        refine T_ret TT_ok (()) [(6, none)] rfl rfl ?_ ?_ ?_
        · exact SVs.imp_refl _
        · exact ⟨⟨_, rfl, imp_list hself.symm⟩, ⟨_, rfl, Ch.imp_refl _⟩, trivial⟩
        · trivial
  refine T_auto TT_ok rfl ?_
  refine T_condE rfl (fun e4 => ?_) (fun e4 => ?_)
  · have e4 : t.phase = 4 := e4
    have hA := plan4A (c := c) e4
    have hk : t.done.toNat < (copiesP c t true).length := by rw [← plan4 (c := c) e4]; exact hd.2
    have hk2 : 0 ≤ t.done ∧ t.done.toNat < (copiesP c (incT t) true).length := ⟨hd.1, hk⟩
    rw [hA] at hC0 hmi ⊢
    refine T_auto TT_ok rfl ?_
    refine RJ_C TT_ok (Con.sw 910 31 (copies_k c hok (incT t) hT1 k true)) rfl rfl (SVs.imp_refl _) (fun _ => rfl) rfl rfl rfl (fun _ _ => ?_) (hin := by repeat (first | exact trivial | refine And.intro ⟨_, rfl, ro_arr⟩ ?_ | refine And.intro ⟨_, rfl, ro_ro⟩ ?_ | refine And.intro ⟨_, rfl, ro_row⟩ ?_ | refine And.intro ⟨_, rfl, ro_rrow⟩ ?_ | refine And.intro ⟨_, rfl, Ch.imp_refl _⟩ ?_))
    refine RJ_auto TT_ok rfl ?_
    refine RJ_C TT_ok (backup_k c hok k (incT t) hT1.ok ((copiesP c t true).getD t.done.toNat GCopyAt.z) ⟨hmi.1, hmi.2.1⟩) rfl rfl (SVs.imp_refl _) (fun _ => rfl) rfl rfl rfl (fun _ _ => ?_) (hin := by repeat (first | exact trivial | refine And.intro ⟨_, rfl, ro_arr⟩ ?_ | refine And.intro ⟨_, rfl, ro_ro⟩ ?_ | refine And.intro ⟨_, rfl, ro_row⟩ ?_ | refine And.intro ⟨_, rfl, ro_rrow⟩ ?_ | refine And.intro ⟨_, rfl, Ch.imp_refl _⟩ ?_))
    refine RJ_auto TT_ok rfl ?_
    by_cases h0 : backN (mOf c ((copiesP c t true).getD t.done.toNat GCopyAt.z).machine) = 0
    · have ha : (mOf c ((copiesP c t true).getD t.done.toNat GCopyAt.z).machine).alive = true := by
        unfold backN at h0
        cases e : (mOf c ((copiesP c t true).getD t.done.toNat GCopyAt.z).machine).alive with
        | true => rfl
        | false => rw [e] at h0; cases h0
      have hl : decide (((mOf c ((copiesP c t true).getD t.done.toNat GCopyAt.z).machine).log.length : Int) = 200) = false := by
        unfold backN at h0
        cases e : decide (((mOf c ((copiesP c t true).getD t.done.toNat GCopyAt.z).machine).log.length : Int) = 200) with
        | false => rfl
        | true => rw [ha, e] at h0; cases h0
      have hC := hC0.trans (actP_4 ha e4)
      rw [hl] at hC
      rw [h0, if_pos rfl]
      rw [show (actC c t).1 = 0 from by rw [hC]; rfl, if_pos rfl, show (actC c t).2.1 = appLog (mOf c ((copiesP c t true).getD t.done.toNat GCopyAt.z).machine) ⟨2, t.id, ((copiesP c t true).getD t.done.toNat GCopyAt.z).region, setsAt ((copiesP c t true).getD t.done.toNat GCopyAt.z).region t.sets⟩ from by rw [hC]; rfl, show (actC c t).2.2 = incT t from by rw [hC]; rfl]
      refine T_ret TT_ok (()) [(6, none)] rfl rfl ?_ ?_ ?_
      · exact SVs.imp_refl _
      · exact ⟨⟨_, rfl, Ch.imp_refl _⟩, ⟨_, rfl, Ch.imp_refl _⟩, trivial⟩
      · trivial
    · have hC : (actC c t).1 = backN (mOf c ((copiesP c t true).getD t.done.toNat GCopyAt.z).machine) := by
        rw [hC0]
        unfold backN at h0 ⊢
        cases ha : (mOf c ((copiesP c t true).getD t.done.toNat GCopyAt.z).machine).alive with
        | false => rw [actP_dead ha]; rfl
        | true =>
          rw [actP_4 ha e4]
          cases decide (((mOf c ((copiesP c t true).getD t.done.toNat GCopyAt.z).machine).log.length : Int) = 200) <;> rfl
      rw [hC, if_neg h0]
      refine T_ret TT_ok (()) [(6, none)] rfl rfl ?_ ?_ ?_
      · exact SVs.imp_refl _
      · trivial
      · trivial
  refine T_auto TT_ok rfl ?_
  refine T_condE rfl (fun e6 => ?_) (fun e6 => ?_)
  · have e6 : t.phase = 6 := e6
    have hA := plan6A (c := c) e6
    have hk : t.done.toNat < (copiesP c t false).length := by rw [← plan6 (c := c) e6]; exact hd.2
    have hk2 : 0 ≤ t.done ∧ t.done.toNat < (copiesP c (incT t) false).length := ⟨hd.1, hk⟩
    rw [hA] at hC0 hmi ⊢
    refine T_auto TT_ok rfl ?_
    refine RJ_C TT_ok (Con.sw 910 42 (copies_k c hok (incT t) hT1 k false)) rfl rfl (SVs.imp_refl _) (fun _ => rfl) rfl rfl rfl (fun _ _ => ?_) (hin := by repeat (first | exact trivial | refine And.intro ⟨_, rfl, ro_arr⟩ ?_ | refine And.intro ⟨_, rfl, ro_ro⟩ ?_ | refine And.intro ⟨_, rfl, ro_row⟩ ?_ | refine And.intro ⟨_, rfl, ro_rrow⟩ ?_ | refine And.intro ⟨_, rfl, Ch.imp_refl _⟩ ?_))
    refine RJ_auto TT_ok rfl ?_
    refine RJ_C TT_ok (clearAt_k c hok k (incT t) hT1.ok ((copiesP c t false).getD t.done.toNat GCopyAt.z) ⟨hmi.1, hmi.2.1⟩ hmi.2.2) rfl rfl (SVs.imp_refl _) (fun _ => rfl) rfl rfl rfl (fun _ _ => ?_) (hin := by repeat (first | exact trivial | refine And.intro ⟨_, rfl, ro_arr⟩ ?_ | refine And.intro ⟨_, rfl, ro_ro⟩ ?_ | refine And.intro ⟨_, rfl, ro_row⟩ ?_ | refine And.intro ⟨_, rfl, ro_rrow⟩ ?_ | refine And.intro ⟨_, rfl, Ch.imp_refl _⟩ ?_))
    refine RJ_auto TT_ok rfl ?_
    by_cases h0 : clrN (mOf c ((copiesP c t false).getD t.done.toNat GCopyAt.z).machine) t.id = 0
    · have ha : (mOf c ((copiesP c t false).getD t.done.toNat GCopyAt.z).machine).alive = true := by
        unfold clrN at h0
        cases e : (mOf c ((copiesP c t false).getD t.done.toNat GCopyAt.z).machine).alive with
        | true => rfl
        | false => rw [e] at h0; cases h0
      have hl : canClear (mOf c ((copiesP c t false).getD t.done.toNat GCopyAt.z).machine) t.id = true := by
        unfold clrN at h0
        cases e : canClear (mOf c ((copiesP c t false).getD t.done.toNat GCopyAt.z).machine) t.id with
        | true => rfl
        | false => rw [ha, e] at h0; cases h0
      have hC := hC0.trans (actP_6 ha e6)
      rw [hl] at hC
      rw [show clrN (mOf c ((copiesP c t false).getD t.done.toNat GCopyAt.z).machine) (incT t).id = 0 from h0, if_pos rfl]
      rw [show (actC c t).1 = 0 from by rw [hC]; rfl, if_pos rfl, show (actC c t).2.1 = clrM t ((copiesP c t false).getD t.done.toNat GCopyAt.z) (mOf c ((copiesP c t false).getD t.done.toNat GCopyAt.z).machine) from by rw [hC]; rfl, show (actC c t).2.2 = incT t from by rw [hC]; rfl]
      refine T_ret TT_ok (()) [(6, none)] rfl rfl ?_ ?_ ?_
      · exact SVs.imp_refl _
      · exact ⟨⟨_, rfl, Ch.imp_refl _⟩, ⟨_, rfl, Ch.imp_refl _⟩, trivial⟩
      · trivial
    · have hC : (actC c t).1 = clrN (mOf c ((copiesP c t false).getD t.done.toNat GCopyAt.z).machine) t.id := by
        rw [hC0]
        unfold clrN at h0 ⊢
        cases ha : (mOf c ((copiesP c t false).getD t.done.toNat GCopyAt.z).machine).alive with
        | false => rw [actP_dead ha]; rfl
        | true =>
          rw [actP_6 ha e6]
          cases canClear (mOf c ((copiesP c t false).getD t.done.toNat GCopyAt.z).machine) t.id <;> rfl
      rw [hC, if_neg h0]
      refine T_ret TT_ok (()) [(6, none)] rfl rfl ?_ ?_ ?_
      · exact SVs.imp_refl _
      · trivial
      · trivial
  have hph : t.phase = 2 ∨ t.phase = 5 ∨ t.phase = 8 := by
    have e3 : t.phase ≠ 3 := e3
    have e4 : t.phase ≠ 4 := e4
    have e6 : t.phase ≠ 6 := e6
    omega
  have hA := planWA hph hd.2
  have hk : t.done.toNat < (wantsL t).length := by rw [← plan2 (c := c) hph]; exact hd.2
  have hk2 : 0 ≤ t.done ∧ t.done.toNat < (wantsL (incT t)).length := ⟨hd.1, hk⟩
  have hr := wants_in hx hk
  have hpl := place_le hok hr
  rw [hA] at hC0 hmi ⊢
  generalize hrr : (wantsL t).getD t.done.toNat 0 = r at hr hpl hA hC0 hmi ⊢
  have hC0 : actC c t = actP t (primP c r) ((checksL t).getD t.done.toNat GNote.z) (machAt c r.toNat 0) := hC0
  have hmi : 0 ≤ mAt c r.toNat 0 ∧ mAt c r.toNat 0 < c.machines.length ∧ ((machAt c r.toNat 0).alive = true → hasB (machAt c r.toNat 0) r = true) := hmi
  have hM := hok.2.2.1 (mAt c r.toNat 0).toNat (by omega)
  have bl : (machAt c r.toNat 0).log.length ≤ 200 := hM.1.2.1
  have bc : (machAt c r.toNat 0).cleared.length ≤ 60 := hM.1.2.2
  have bk : (machAt c r.toNat 0).copies.length ≤ 6 := hM.1.1
  have hrs := (risesB_iff.1 hM.2.1).2
  obtain ⟨s1, s2, s3⟩ := setsAt_ok hx.ok r
  have hsl : (setsAt r t.sets).length ≤ t.sets.length := List.length_filter_le _ _
  refine T_auto TT_ok rfl ?_
  refine RJ_C TT_ok (Con.sw 900 48 (wantsK_m (incT t) (by show t.sets.length ≤ _; omega))) rfl rfl (SVs.imp_refl _) (fun _ => rfl) rfl rfl rfl fun _ _ => ?_
  refine RJ_auto TT_ok rfl ?_
  rw [show (wantsL (incT t)).getD t.done.toNat 0 = r from hrr]
  refine RJ_C TT_ok (primary_n c hok k r hr) rfl rfl (SVs.imp_refl _) (fun _ => rfl) rfl rfl rfl (fun _ _ => ?_) (hin := by repeat (first | exact trivial | refine And.intro ⟨_, rfl, ro_arr⟩ ?_ | refine And.intro ⟨_, rfl, ro_ro⟩ ?_ | refine And.intro ⟨_, rfl, ro_row⟩ ?_ | refine And.intro ⟨_, rfl, ro_rrow⟩ ?_ | refine And.intro ⟨_, rfl, Ch.imp_refl _⟩ ?_))
  refine RJ_auto TT_ok rfl ?_
  refine T_cond (b := !(machAt c r.toNat 0).alive) rfl (fun e => ?_) (fun e => ?_)
  · have ha : (machAt c r.toNat 0).alive = false := by simpa using e
    have hC := hC0.trans (actP_dead ha)
    rw [show (actC c t).1 = 6 from by rw [hC], if_neg (by decide)]
    refine T_auto TT_ok rfl ?_
    refine T_ret TT_ok (()) [(6, none)] rfl rfl ?_ ?_ ?_
    · exact SVs.imp_refl _
    · trivial
    · trivial
  have ha : (machAt c r.toNat 0).alive = true := by simpa using e
  have hhas := hmi.2.2 ha
  have hcb := (cellsOf_len hM hhas).2
  have hself := setCells_self hhas
  refine T_view (V_carve 902 (mAt c r.toNat 0) 60 rfl rfl rfl rfl rfl rfl ⟨hmi.1, hmi.2.1⟩) ?_
  refine T_view (V_pe 8 rfl rfl rfl) ?_
  refine T_view (V_open 60 1 61 rfl rfl rfl rfl rfl rfl) ?_
  refine T_view (V_open 60 2 62 rfl rfl rfl rfl rfl rfl) ?_
  refine T_view (V_open 60 3 63 rfl rfl rfl rfl rfl rfl) ?_
  refine T_auto TT_ok rfl ?_
  refine RJ_C TT_ok (Con.sw 900 30 (setsOf_m (incT t) r (by show t.sets.length ≤ _; omega))) rfl rfl (SVs.imp_refl _) (fun _ => rfl) rfl rfl rfl fun _ _ => ?_
  refine RJ_auto TT_ok rfl ?_
  refine RJ_C TT_ok (Con.sw 905 65 (Con.sw 904 64 (Con.sw 903 63 (Con.sw 902 62 (Con.sw 901 61 (Con.sw 900 60 (cells_k (machAt c r.toNat 0) (by omega) r hhas))))))) rfl rfl (SVs.imp_refl _) (fun _ => rfl) rfl rfl rfl fun _ _ => ?_
  refine RJ_auto TT_ok rfl ?_
  refine T_condE rfl (fun e2 => ?_) (fun e2 => ?_)
  · have e2 : t.phase = 2 := e2
    have hC := hC0.trans (actP_2 ha e2)
    refine T_auto TT_ok rfl ?_
    refine RJ_C TT_ok (Con.sw 900 65 (lock_k (cellsOf (machAt c r.toNat 0) r) (setsAt r t.sets) (by omega) hcb s1 s2)) rfl rfl (SVs.imp_refl _) (fun _ => rfl) rfl rfl rfl fun _ _ => ?_
    refine RJ_auto TT_ok rfl ?_
    refine T_condX rfl (fun e => ?_) (fun e => ?_)
    · have hC : actC c t = (0, machAt c r.toNat 0, backT t) := by rw [hC, show lockB (cellsOf (machAt c r.toNat 0) (primP c r).region) (setsAt (primP c r).region t.sets) = false from e]; rfl
      rw [show lockM (cellsOf (machAt c r.toNat 0) r) (setsAt r t.sets) = cellsOf (machAt c r.toNat 0) r from by unfold lockM; rw [e]; rfl]
      rw [show (actC c t).1 = 0 from by rw [hC], if_pos rfl, show (actC c t).2.1 = setCells (machAt c r.toNat 0) r (cellsOf (machAt c r.toNat 0) r) from by rw [hC, hself], show (actC c t).2.2 = backT t from by rw [hC]]
      refine T_auto TT_ok rfl ?_
      refine T_view (V_fold 64 1 65 rfl rfl rfl rfl rfl rfl rfl) ?_
      refine T_view (V_uncarve 61 64 rfl rfl rfl rfl rfl rfl rfl) ?_
      refine T_view (V_imp 61 rfl (imp_set (y := (putX (machAt c r.toNat 0) r (cellsOf (machAt c r.toNat 0) r))) (OwnI.refl _)) rfl) ?_
      refine T_view (V_fold 60 1 61 rfl rfl rfl rfl rfl rfl rfl) ?_
      refine T_view (V_fold 60 2 62 rfl rfl rfl rfl rfl rfl rfl) ?_
      refine T_view (V_fold 60 3 63 rfl rfl rfl rfl rfl rfl rfl) ?_
      refine T_view (V_uncarve 902 60 rfl rfl rfl rfl rfl rfl rfl) ?_
      refine T_ret TT_ok (()) [(6, none)] rfl rfl ?_ ?_ ?_
      · exact SVs.imp_refl _
      · exact ⟨⟨_, rfl, imp_set (y := setCells (machAt c r.toNat 0) r (cellsOf (machAt c r.toNat 0) r)) (OwnI.refl _)⟩, ⟨_, rfl, Ch.imp_refl _⟩, trivial⟩
      · trivial
    rw [show lockM (cellsOf (machAt c r.toNat 0) r) (setsAt r t.sets) = lockL (cellsOf (machAt c r.toNat 0) r) (setsAt r t.sets) from by unfold lockM; rw [e]; rfl]
    refine T_auto TT_ok rfl ?_
    refine T_condE rfl (fun e5 => ?_) (fun e5 => ?_)
    · have hC : actC c t = (9, machAt c r.toNat 0, t) := by rw [hC, show lockB (cellsOf (machAt c r.toNat 0) (primP c r).region) (setsAt (primP c r).region t.sets) = true from e, decide_eq_true e5]; rfl
      rw [show (actC c t).1 = 9 from by rw [hC], if_neg (by decide)]
      refine T_auto TT_ok rfl ?_
      refine T_ret TT_ok (()) [(6, none)] rfl rfl ?_ ?_ ?_
      · exact SVs.imp_refl _
      · trivial
      · trivial
    have hC : actC c t = (0, appLog (setCells (machAt c r.toNat 0) r (lockL (cellsOf (machAt c r.toNat 0) r) (setsAt r t.sets))) ⟨1, t.id, r, setsAt r t.sets⟩, incT t) := by rw [hC, show lockB (cellsOf (machAt c r.toNat 0) (primP c r).region) (setsAt (primP c r).region t.sets) = true from e, decide_eq_false e5]; rfl
    rw [show (actC c t).1 = 0 from by rw [hC], if_pos rfl, show (actC c t).2.1 = appLog (setCells (machAt c r.toNat 0) r (lockL (cellsOf (machAt c r.toNat 0) r) (setsAt r t.sets))) ⟨1, t.id, r, setsAt r t.sets⟩ from by rw [hC], show (actC c t).2.2 = incT t from by rw [hC]]
    refine T_auto TT_ok rfl ?_
    refine RJ_C TT_ok (Con.sw 904 66 (Con.sw 903 63 (Con.sw 902 62 (Con.sw 901 61 (Con.sw 900 60 (append_k (machAt c r.toNat 0) (by omega) ⟨1, t.id, r, setsAt r t.sets⟩ (by show (setsAt r t.sets).length ≤ _; omega))))))) rfl rfl (SVs.imp_refl _) (fun _ => rfl) rfl rfl rfl fun _ _ => ?_
    refine RJ_auto TT_ok rfl ?_
    refine T_view (V_fold 64 1 65 rfl rfl rfl rfl rfl rfl rfl) ?_
    refine T_view (V_uncarve 61 64 rfl rfl rfl rfl rfl rfl rfl) ?_
    refine T_view (V_imp 61 rfl (imp_set (y := (putX (machAt c r.toNat 0) r (lockL (cellsOf (machAt c r.toNat 0) r) (setsAt r t.sets)))) (OwnI.refl _)) rfl) ?_
    refine T_view (V_fold 60 1 61 rfl rfl rfl rfl rfl rfl rfl) ?_
    refine T_view (V_fold 60 2 66 rfl rfl rfl rfl rfl rfl rfl) ?_
    refine T_view (V_fold 60 3 63 rfl rfl rfl rfl rfl rfl rfl) ?_
    refine T_view (V_uncarve 902 60 rfl rfl rfl rfl rfl rfl rfl) ?_
    refine T_ret TT_ok (()) [(6, none)] rfl rfl ?_ ?_ ?_
    · exact SVs.imp_refl _
    · exact ⟨⟨_, rfl, imp_set (y := appLog (setCells (machAt c r.toNat 0) r (lockL (cellsOf (machAt c r.toNat 0) r) (setsAt r t.sets))) ⟨1, t.id, r, setsAt r t.sets⟩) (OwnI.refl _)⟩, ⟨_, rfl, Ch.imp_refl _⟩, trivial⟩
    · trivial
  refine T_auto TT_ok rfl ?_
  refine T_condE rfl (fun e5 => ?_) (fun e5 => ?_)
  · have e5 : t.phase = 5 := e5
    have hC : actC c t = (0, turnR (setCells (machAt c r.toNat 0) r (instL (cellsOf (machAt c r.toNat 0) r) (setsAt r t.sets))) t.id r, incT t) := hC0.trans (actP_5 ha e5)
    rw [show (actC c t).1 = 0 from by rw [hC], if_pos rfl, show (actC c t).2.1 = turnR (setCells (machAt c r.toNat 0) r (instL (cellsOf (machAt c r.toNat 0) r) (setsAt r t.sets))) t.id r from by rw [hC], show (actC c t).2.2 = incT t from by rw [hC]]
    refine T_auto TT_ok rfl ?_
    refine RJ_C TT_ok (Con.sw 900 65 (install_k (cellsOf (machAt c r.toNat 0) r) (setsAt r t.sets) (by omega) hcb s1)) rfl rfl (SVs.imp_refl _) (fun _ => rfl) rfl rfl rfl fun _ _ => ?_
    refine RJ_auto TT_ok rfl ?_
    refine RJ_C TT_ok (Con.sw 903 63 (Con.sw 902 62 (Con.sw 901 61 (Con.sw 900 60 (turn_k (machAt c r.toNat 0) (by omega) t.id r))))) rfl rfl (SVs.imp_refl _) (fun _ => rfl) rfl rfl rfl fun _ _ => ?_
    refine RJ_auto TT_ok rfl ?_
    refine T_view (V_fold 64 1 65 rfl rfl rfl rfl rfl rfl rfl) ?_
    refine T_view (V_uncarve 61 64 rfl rfl rfl rfl rfl rfl rfl) ?_
    refine T_view (V_imp 61 rfl (imp_set (y := (putX (machAt c r.toNat 0) r (instL (cellsOf (machAt c r.toNat 0) r) (setsAt r t.sets)))) (OwnI.refl _)) rfl) ?_
    refine T_view (V_fold 60 1 61 rfl rfl rfl rfl rfl rfl rfl) ?_
    refine T_view (V_fold 60 2 62 rfl rfl rfl rfl rfl rfl rfl) ?_
    refine T_view (V_fold 60 3 63 rfl rfl rfl rfl rfl rfl rfl) ?_
    refine T_view (V_uncarve 902 60 rfl rfl rfl rfl rfl rfl rfl) ?_
    refine T_ret TT_ok (()) [(6, none)] rfl rfl ?_ ?_ ?_
    · exact SVs.imp_refl _
    · exact ⟨⟨_, rfl, imp_set (y := turnR (setCells (machAt c r.toNat 0) r (instL (cellsOf (machAt c r.toNat 0) r) (setsAt r t.sets))) t.id r) (OwnI.refl _)⟩, ⟨_, rfl, Ch.imp_refl _⟩, trivial⟩
    · trivial
  have e8 : t.phase = 8 := by
    have e2 : t.phase ≠ 2 := e2
    have e5 : t.phase ≠ 5 := e5
    omega
  have hC := hC0.trans (actP_8 ha e8)
  refine T_auto TT_ok rfl ?_
  refine RJ_C TT_ok (Con.sw 903 63 (Con.sw 902 62 (Con.sw 901 61 (Con.sw 900 60 (logged_k (machAt c r.toNat 0) (by omega) t.id r 1))))) rfl rfl (SVs.imp_refl _) (fun _ => rfl) rfl rfl rfl fun _ _ => ?_
  refine RJ_auto TT_ok rfl ?_
  refine T_condD rfl (fun e => ?_) (fun e => ?_)
  · have hC : actC c t = (0, clearR (setCells (machAt c r.toNat 0) r (unlkL (cellsOf (machAt c r.toNat 0) r) (setsAt r t.sets))) t.id r false, incT t) := by rw [hC, if_pos (show 0 ≤ logI (machAt c r.toNat 0) t.id (primP c r).region 1 from e)]; rfl
    rw [show (actC c t).1 = 0 from by rw [hC], if_pos rfl, show (actC c t).2.1 = clearR (setCells (machAt c r.toNat 0) r (unlkL (cellsOf (machAt c r.toNat 0) r) (setsAt r t.sets))) t.id r false from by rw [hC], show (actC c t).2.2 = incT t from by rw [hC]]
    refine T_auto TT_ok rfl ?_
    refine RJ_C TT_ok (Con.sw 900 65 (unlock_k (cellsOf (machAt c r.toNat 0) r) (setsAt r t.sets) (by omega) hcb s1)) rfl rfl (SVs.imp_refl _) (fun _ => rfl) rfl rfl rfl fun _ _ => ?_
    refine RJ_auto TT_ok rfl ?_
    refine RJ_C TT_ok (Con.sw 905 67 (Con.sw 904 66 (Con.sw 903 63 (Con.sw 902 62 (Con.sw 901 61 (Con.sw 900 60 (clear_k (machAt c r.toNat 0) (by omega) (by omega) hrs t.id r false))))))) rfl rfl (SVs.imp_refl _) (fun _ => rfl) rfl rfl rfl fun _ _ => ?_
    refine RJ_auto TT_ok rfl ?_
    refine T_view (V_fold 64 1 65 rfl rfl rfl rfl rfl rfl rfl) ?_
    refine T_view (V_uncarve 61 64 rfl rfl rfl rfl rfl rfl rfl) ?_
    refine T_view (V_imp 61 rfl (imp_set (y := (putX (machAt c r.toNat 0) r (unlkL (cellsOf (machAt c r.toNat 0) r) (setsAt r t.sets)))) (OwnI.refl _)) rfl) ?_
    refine T_view (V_fold 60 1 61 rfl rfl rfl rfl rfl rfl rfl) ?_
    refine T_view (V_fold 60 2 66 rfl rfl rfl rfl rfl rfl rfl) ?_
    refine T_view (V_fold 60 3 67 rfl rfl rfl rfl rfl rfl rfl) ?_
    refine T_view (V_uncarve 902 60 rfl rfl rfl rfl rfl rfl rfl) ?_
    refine T_ret TT_ok (()) [(6, none)] rfl rfl ?_ ?_ ?_
    · exact SVs.imp_refl _
    · exact ⟨⟨_, rfl, imp_set (y := clearR (setCells (machAt c r.toNat 0) r (unlkL (cellsOf (machAt c r.toNat 0) r) (setsAt r t.sets))) t.id r false) (OwnI.refl _)⟩, ⟨_, rfl, Ch.imp_refl _⟩, trivial⟩
    · trivial
  · have hC : actC c t = (0, machAt c r.toNat 0, incT t) := by rw [hC, if_neg (show ¬ 0 ≤ logI (machAt c r.toNat 0) t.id (primP c r).region 1 from e)]
    rw [show (actC c t).1 = 0 from by rw [hC], if_pos rfl, show (actC c t).2.1 = setCells (machAt c r.toNat 0) r (cellsOf (machAt c r.toNat 0) r) from by rw [hC, hself], show (actC c t).2.2 = incT t from by rw [hC]]
    refine T_auto TT_ok rfl ?_
    refine T_view (V_fold 64 1 65 rfl rfl rfl rfl rfl rfl rfl) ?_
    refine T_view (V_uncarve 61 64 rfl rfl rfl rfl rfl rfl rfl) ?_
    refine T_view (V_imp 61 rfl (imp_set (y := (putX (machAt c r.toNat 0) r (cellsOf (machAt c r.toNat 0) r))) (OwnI.refl _)) rfl) ?_
    refine T_view (V_fold 60 1 61 rfl rfl rfl rfl rfl rfl rfl) ?_
    refine T_view (V_fold 60 2 62 rfl rfl rfl rfl rfl rfl rfl) ?_
    refine T_view (V_fold 60 3 63 rfl rfl rfl rfl rfl rfl rfl) ?_
    refine T_view (V_uncarve 902 60 rfl rfl rfl rfl rfl rfl rfl) ?_
    refine T_ret TT_ok (()) [(6, none)] rfl rfl ?_ ?_ ?_
    · exact SVs.imp_refl _
    · exact ⟨⟨_, rfl, imp_set (y := setCells (machAt c r.toNat 0) r (cellsOf (machAt c r.toNat 0) r)) (OwnI.refl _)⟩, ⟨_, rfl, Ch.imp_refl _⟩, trivial⟩
    · trivial
end Go.Proofs.YtcikaknfogpeeaaGreat
namespace Go.Proofs.YtcikaknfogpeeaaGreat
open Go Go.RowKit
set_option linter.unusedVariables false
set_option linter.unusedSimpArgs false
set_option maxRecDepth 4000
theorem stepM_live {c : GCluster} (hok : ClusOk c) {id : Int} (h : liveC c id ≠ 0) : stepM c id = (c, liveC c id) := by
  have hm : moveC c id = liveC c id := by
    unfold liveC at h ⊢
    unfold moveC
    by_cases hf : findI c id < 0
    · rw [decide_eq_true hf]; rfl
    · rw [decide_eq_false hf] at h ⊢
      cases h2 : homeUp c id with
      | false => rfl
      | true => rw [h2] at h; exact absurd rfl h
  unfold stepM
  rw [if_pos hok, if_pos (by rw [hm]; exact h), hm]
theorem move_live {c : GCluster} {id : Int} (h : liveC c id = 0) : moveC c id = bif (bif (txAt c id).phase == 1 then true else bif (txAt c id).phase == 7 then true else (txAt c id).phase == 9) then 4 else 0 := by
  have hf := live_in h
  unfold liveC at h
  unfold moveC
  rw [decide_eq_false (by omega)] at h ⊢
  cases h2 : homeUp c id with
  | false => rw [h2] at h; cases h
  | true => rfl
theorem stepM_zero' {c : GCluster} (hok : ClusOk c) {id : Int} (h1 : moveC c id = 0) (h2 : c.clock ≠ 1000000) : stepM c id = if (stepR c (findI c id).toNat).1 = 0 then ((stepR c (findI c id).toNat).2, 0) else (c, (stepR c (findI c id).toNat).1) := by
  unfold stepM
  rw [if_pos hok, if_neg (by omega), if_neg h2]
theorem stepR_over {c : GCluster} {i : Nat} (h : (advP c (c.clock, c.txs.getD i GTx.z)).2.phase = 7 ∨ (advP c (c.clock, c.txs.getD i GTx.z)).2.phase = 9) : stepR c i = (0, outC c i (advP c (c.clock, c.txs.getD i GTx.z)) c.machines) := by
  unfold stepR; dsimp only; rw [if_pos h]
theorem stepR_no {c : GCluster} {i : Nat} (h : ¬ ((advP c (c.clock, c.txs.getD i GTx.z)).2.phase = 7 ∨ (advP c (c.clock, c.txs.getD i GTx.z)).2.phase = 9)) (h2 : (actC c (advP c (c.clock, c.txs.getD i GTx.z)).2).1 ≠ 0) : stepR c i = ((actC c (advP c (c.clock, c.txs.getD i GTx.z)).2).1, c) := by
  unfold stepR; dsimp only; rw [if_neg h, if_neg h2]
theorem stepR_yes {c : GCluster} {i : Nat} (h : ¬ ((advP c (c.clock, c.txs.getD i GTx.z)).2.phase = 7 ∨ (advP c (c.clock, c.txs.getD i GTx.z)).2.phase = 9)) (h2 : (actC c (advP c (c.clock, c.txs.getD i GTx.z)).2).1 = 0) :
    stepR c i = (0, outC c i (advP c ((advP c (c.clock, c.txs.getD i GTx.z)).1, (actC c (advP c (c.clock, c.txs.getD i GTx.z)).2).2.2)) (c.machines.set (planA c (advP c (c.clock, c.txs.getD i GTx.z)).2).machine.toNat (actC c (advP c (c.clock, c.txs.getD i GTx.z)).2).2.1)) := by
  unfold stepR; dsimp only; rw [if_neg h, if_pos h2]
set_option maxHeartbeats 1000000 in
theorem step_k (c : GCluster) (hok : ClusOk c) (id : Int) :
    Con Tryz.prog 29 [900, 901, 902, 903] [.a (.p 900 0), vI id] [(900, .row (rowC c 901 902 903)), (901, roC 1 cPlace GPlace.z c.places), (902, arrC 4 cMachine GMachine.z c.machines), (903, arrC 7 cTx GTx.z c.txs)]
      (fun _ : Unit => True) (fun _ => [vI (stepM c id).2]) fun _ => if (stepM c id).2 = 0 then [(900, .row (rowC (stepM c id).1 901 902 903)), (902, arrC 4 cMachine GMachine.z (stepM c id).1.machines), (903, arrC 7 cTx GTx.z (stepM c id).1.txs)] else [] := by
  have b3 : c.txs.length ≤ 1048576 := by have := hok.1.2.2.2; omega
  refine con_enter Tryz.func29 rfl rfl rfl fun B0 r_ D_ w0 => ?_
  refine T_auto TT_ok rfl ?_
  by_cases hL : liveC c id = 0
  · have hge := live_in hL
    have hlt := findI_lt (c := c) (id := id)
    have hin := findI_in hge
    have hi := hin.1
    refine RJ_C TT_ok (living_yes c b3 hok id hL) rfl rfl (SVs.imp_refl _) (fun _ => rfl) rfl rfl rfl (fun _ _ => ?_) (hin := by repeat (first | exact trivial | refine And.intro ⟨_, rfl, ro_arr⟩ ?_ | refine And.intro ⟨_, rfl, ro_ro⟩ ?_ | refine And.intro ⟨_, rfl, ro_row⟩ ?_ | refine And.intro ⟨_, rfl, ro_rrow⟩ ?_ | refine And.intro ⟨_, rfl, Ch.imp_refl _⟩ ?_))
    refine RJ_auto TT_ok rfl ?_
    refine T_cond rfl (fun e => by cases e) (fun _ => ?_)
    refine T_view (V_carve 903 (findI c id) 77 rfl rfl rfl rfl rfl rfl ⟨hge, hlt⟩) ?_
    refine T_view (V_pe 5 rfl rfl rfl) ?_
    refine T_view (V_open 77 4 78 rfl rfl rfl rfl rfl rfl) ?_
    refine T_view (V_open 77 5 79 rfl rfl rfl rfl rfl rfl) ?_
    refine T_auto TT_ok rfl ?_
    refine T_cond (b := bif (bif (txAt c id).phase == 1 then true else (txAt c id).phase == 7) then true else (txAt c id).phase == 9) rfl (fun e => ?_) (fun e => ?_)
    · have hm : moveC c id = 4 := by
        rw [move_live hL]
        cases c1 : (txAt c id).phase == 1 <;> cases c2 : (txAt c id).phase == 7 <;> cases c3 : (txAt c id).phase == 9 <;> rw [c1, c2, c3] at e <;> first | rfl | cases e
      have hS : (stepM c id).2 = 4 := by unfold stepM; rw [if_pos hok, if_pos (by omega), hm]
      rw [hS, if_neg (by decide)]
      refine T_auto TT_ok rfl ?_
      refine T_ret TT_ok (()) [(4, none)] rfl rfl ?_ ?_ ?_
      · exact SVs.imp_refl _
      · trivial
      · trivial
    have hm : moveC c id = 0 := by
      rw [move_live hL]
      cases c1 : (txAt c id).phase == 1 <;> cases c2 : (txAt c id).phase == 7 <;> cases c3 : (txAt c id).phase == 9 <;> rw [c1, c2, c3] at e <;> first | rfl | cases e
    have hp := move_phase hok hm
    refine T_auto TT_ok rfl ?_
    refine T_condE rfl (fun e2 => ?_) (fun e2 => ?_)
    · have hS : (stepM c id).2 = 9 := by unfold stepM; rw [if_pos hok, if_neg (by omega), if_pos e2]
      rw [hS, if_neg (by decide)]
      refine T_auto TT_ok rfl ?_
      refine T_ret TT_ok (()) [(4, none)] rfl rfl ?_ ?_ ?_
      · exact SVs.imp_refl _
      · trivial
      · trivial
    have hclk := hok.1.2.1
    have hmid := mid_first hok hi hp e2
    have hS := stepM_zero' hok hm e2
    have hx := hok.txIn hi
    refine T_auto TT_ok rfl ?_
    refine RJ_C TT_ok (advance_k c hok (c.clock, txAt c id) hx hp hclk (fun _ => by show c.clock < 1000000; omega)) rfl rfl (SVs.imp_refl _) (fun _ => rfl) rfl rfl rfl fun _ _ => ?_
    refine RJ_auto TT_ok rfl ?_
    refine T_cond rfl (fun e => by cases e) (fun _ => ?_)
    generalize hy : advP c (c.clock, txAt c id) = y
    have hy' : advP c (c.clock, c.txs.getD (findI c id).toNat GTx.z) = y := hy
    rw [hy'] at hmid
    refine T_view (V_imp 78 rfl (imp_list (sz := 5) (enc := cNote) (z := GNote.z) hmid.same.reads.symm) rfl) ?_
    refine T_view (V_imp 79 rfl (imp_list (sz := 5) (enc := cSet) (z := GSet.z) hmid.same.sets.symm) rfl) ?_
    refine T_auto TT_ok rfl ?_
    refine T_cond (b := bif y.2.phase == 7 then true else y.2.phase == 9) rfl (fun e => ?_) (fun e => ?_)
    · have h79 : y.2.phase = 7 ∨ y.2.phase = 9 := by
        cases c2 : y.2.phase == 7 with
        | true => exact .inl (by simpa using c2)
        | false => rw [c2] at e; exact .inr (by simpa using e)
      have hR := stepR_over (c := c) (i := (findI c id).toNat) (by rw [hy']; exact h79)
      rw [hy'] at hR
      rw [hR, if_pos rfl] at hS
      rw [hS, if_pos rfl]
      refine T_auto TT_ok rfl ?_
      refine T_view (V_fold 77 4 78 rfl rfl rfl rfl rfl rfl rfl) ?_
      refine T_view (V_fold 77 5 79 rfl rfl rfl rfl rfl rfl rfl) ?_
      refine T_view (V_uncarve 903 77 rfl rfl rfl rfl rfl rfl rfl) ?_
      refine T_ret TT_ok (()) [(4, none)] rfl rfl ?_ ?_ ?_
      · exact SVs.imp_refl _
      · exact ⟨⟨_, rfl, Ch.imp_refl _⟩, ⟨_, rfl, Ch.imp_refl _⟩, ⟨_, rfl, imp_set (y := y.2) (OwnI.refl _)⟩, trivial⟩
      · trivial
    have h79 : ¬ (y.2.phase = 7 ∨ y.2.phase = 9) := by
      rintro (h | h) <;> rw [h] at e <;> cases e
    have hd := hmid.done h79
    have hle := planL_le hok hmid.tx
    refine T_auto TT_ok rfl ?_
    rw [show y.2.done + 1 - 1 = y.2.done from by omega]
    have hact := act_k c hok y.1 y.2 hmid.tx hmid.phase h79 hd
    by_cases h0 : (actC c y.2).1 = 0
    · rw [if_pos h0, h0] at hact
      have ha := act_ok hok hmid h79 h0
      have hmid2 := mid_second hok hmid h79 ha
      have hR := stepR_yes (c := c) (i := (findI c id).toNat) (by rw [hy']; exact h79) (by rw [hy']; exact h0)
      rw [hy'] at hR
      rw [hR, if_pos rfl] at hS
      rw [hS, if_pos rfl]
      have hx2 : TxIn c (actC c y.2).2.2 := by
        have hp2 := hmid.phase
        have hst := hmid.stamp
        have hck := hmid.clock
        refine hmid.tx.same ha.same ?_ ?_ (by rw [ha.stamp]; omega)
        · rcases ha.phase with q | q <;> omega
        · rcases ha.phase with q | q <;> omega
      have hp2 : 2 ≤ (actC c y.2).2.2.phase ∧ (actC c y.2).2.2.phase ≤ 9 := by have := hmid.phase; rcases ha.phase with q | q <;> omega
      refine RJ_C TT_ok (hact) rfl rfl (SVs.imp_refl _) (fun _ => rfl) rfl rfl rfl (fun _ _ => ?_) (hin := by repeat (first | exact trivial | refine And.intro ⟨_, rfl, ro_arr⟩ ?_ | refine And.intro ⟨_, rfl, ro_ro⟩ ?_ | refine And.intro ⟨_, rfl, ro_row⟩ ?_ | refine And.intro ⟨_, rfl, ro_rrow⟩ ?_ | refine And.intro ⟨_, rfl, Ch.imp_refl _⟩ ?_))
      refine RJ_auto TT_ok rfl ?_
      refine T_cond rfl (fun e => by cases e) (fun _ => ?_)
      refine T_view (V_imp 78 rfl (imp_list (sz := 5) (enc := cNote) (z := GNote.z) ha.same.reads.symm) rfl) ?_
      refine T_view (V_imp 79 rfl (imp_list (sz := 5) (enc := cSet) (z := GSet.z) ha.same.sets.symm) rfl) ?_
      refine T_auto TT_ok rfl ?_
      refine RJ_C TT_ok (advance_k c hok (y.1, (actC c y.2).2.2) hx2 hp2 (by have := hmid.clock; show 0 ≤ y.1 ∧ y.1 ≤ 1000000; omega) (fun h => hmid.lock (by have h : (actC c y.2).2.2.phase = 2 := h; rcases ha.phase with q | q <;> omega))) rfl rfl (SVs.imp_refl _) (fun _ => rfl) rfl rfl rfl fun _ _ => ?_
      refine RJ_auto TT_ok rfl ?_
      have hsm : Same (actC c y.2).2.2 (advP c (y.1, (actC c y.2).2.2)).2 := advF_same (y := (y.1, (actC c y.2).2.2))
      generalize advP c (y.1, (actC c y.2).2.2) = z at hsm ⊢
      refine T_view (V_imp 78 rfl (imp_list (sz := 5) (enc := cNote) (z := GNote.z) hsm.reads.symm) rfl) ?_
      refine T_view (V_imp 79 rfl (imp_list (sz := 5) (enc := cSet) (z := GSet.z) hsm.sets.symm) rfl) ?_
      refine T_view (V_fold 77 4 78 rfl rfl rfl rfl rfl rfl rfl) ?_
      refine T_view (V_fold 77 5 79 rfl rfl rfl rfl rfl rfl rfl) ?_
      refine T_view (V_uncarve 903 77 rfl rfl rfl rfl rfl rfl rfl) ?_
      refine T_ret TT_ok (()) [(4, none)] rfl rfl ?_ ?_ ?_
      · exact SVs.imp_refl _
      · exact ⟨⟨_, rfl, Ch.imp_refl _⟩, ⟨_, rfl, Ch.imp_refl _⟩, ⟨_, rfl, imp_set (y := z.2) (OwnI.refl _)⟩, trivial⟩
      · trivial
    · rw [if_neg h0] at hact
      have hR := stepR_no (c := c) (i := (findI c id).toNat) (by rw [hy']; exact h79) (by rw [hy']; exact h0)
      rw [hy'] at hR
      rw [hR, if_neg h0] at hS
      rw [hS, if_neg h0]
      refine RJ_C TT_ok (hact) rfl rfl (SVs.imp_refl _) (fun _ => rfl) rfl rfl rfl (fun _ _ => ?_) (hin := by repeat (first | exact trivial | refine And.intro ⟨_, rfl, ro_arr⟩ ?_ | refine And.intro ⟨_, rfl, ro_ro⟩ ?_ | refine And.intro ⟨_, rfl, ro_row⟩ ?_ | refine And.intro ⟨_, rfl, ro_rrow⟩ ?_ | refine And.intro ⟨_, rfl, Ch.imp_refl _⟩ ?_))
      refine RJ_auto TT_ok rfl ?_
      refine T_condN rfl (fun _ => ?_) (fun e => absurd e h0)
      refine T_auto TT_ok rfl ?_
      refine T_ret TT_ok (()) [(4, none)] rfl rfl ?_ ?_ ?_
      · exact SVs.imp_refl _
      · trivial
      · trivial
  · have hS := stepM_live hok hL
    rw [hS, if_neg hL]
    refine RJ_C TT_ok (living_no c b3 hok id hL) rfl rfl (SVs.imp_refl _) (fun _ => rfl) rfl rfl rfl (fun _ _ => ?_) (hin := by repeat (first | exact trivial | refine And.intro ⟨_, rfl, ro_arr⟩ ?_ | refine And.intro ⟨_, rfl, ro_ro⟩ ?_ | refine And.intro ⟨_, rfl, ro_row⟩ ?_ | refine And.intro ⟨_, rfl, ro_rrow⟩ ?_ | refine And.intro ⟨_, rfl, Ch.imp_refl _⟩ ?_))
    refine RJ_auto TT_ok rfl ?_
    refine T_condN rfl (fun _ => ?_) (fun e => absurd e hL)
    refine T_auto TT_ok rfl ?_
    refine T_ret TT_ok (()) [(4, none)] rfl rfl ?_ ?_ ?_
    · exact SVs.imp_refl _
    · trivial
    · trivial
end Go.Proofs.YtcikaknfogpeeaaGreat
namespace Go.Proofs.YtcikaknfogpeeaaGreat
open Go Go.RowKit
set_option linter.unusedVariables false
set_option linter.unusedSimpArgs false
set_option maxRecDepth 4000
theorem clusOk_bd {c : GCluster} (h : ClusOk c) : D.bds bigN (cCluster c) := bd_Cluster c (by have := clusOk_w0 h; unfold bigN; omega)
theorem stepM_code {c : GCluster} (hok : ClusOk c) {id : Int} (h : (stepM c id).2 ≠ 0) : (stepM c id).1 = c := by
  unfold stepM at h ⊢
  rw [if_pos hok] at h ⊢
  by_cases h1 : moveC c id = 0
  · rw [if_neg (by omega)] at h ⊢
    by_cases h2 : c.clock = 1000000
    · rw [if_pos h2]
    · rw [if_neg h2] at h ⊢
      by_cases h3 : (stepR c (findI c id).toNat).1 = 0
      · rw [if_pos h3] at h; exact absurd rfl h
      · rw [if_neg h3]
  · rw [if_pos h1]
theorem stepR_places (c : GCluster) (i : Nat) : (stepR c i).2.places = c.places := by
  unfold stepR
  dsimp only
  split
  · rfl
  · split <;> rfl
theorem stepM_places {c : GCluster} (hok : ClusOk c) (id : Int) : (stepM c id).1.places = c.places := by
  unfold stepM
  rw [if_pos hok]
  split
  · rfl
  · split
    · rfl
    · split
      · exact stepR_places c _
      · rfl
theorem impl_Step_m (c : GCluster) (hb : D.bds bigN (cCluster c)) (id : Int) : MkCI Tryz.prog 9 [vR (cCluster c), vI id] (stepM c id).1 (stepM c id).2 := by
  refine con_enter Tryz.func9 rfl rfl rfl fun B0 r_ D_ w0 => ?_
  refine T_auto1 TT_ok rfl ?_
  refine T_freeze 2 rfl rfl rfl rfl (fun _ => rfl) (fun _ => rfl) fun r_ => ?_
  refine T_auto TT_ok rfl ?_
  refine RJ_Q TT_ok (impl_isCluster_q c hb) rfl rfl rfl rfl rfl ?_
  refine T_condX rfl (fun e => ?_) (fun e => ?_)
  · rw [show stepM c id = (GCluster.z, 1) from by unfold stepM; rw [if_neg (dec_not.1 e)]]
    refine T_auto TT_ok rfl ?_
    refine T_view (V_nilR 4 2 1 (fun i => cPlace (([] : List GPlace).getD i GPlace.z)) rfl rfl rfl) ?_
    refine T_view (V_nilR 4 3 4 (fun i => cMachine (([] : List GMachine).getD i GMachine.z)) rfl rfl rfl) ?_
    refine T_view (V_nilR 4 4 7 (fun i => cTx (([] : List GTx).getD i GTx.z)) rfl rfl rfl) ?_
    refine T_view (V_open 4 2 901 rfl rfl rfl rfl rfl rfl) ?_
    refine T_view (V_open 4 3 902 rfl rfl rfl rfl rfl rfl) ?_
    refine T_view (V_open 4 4 903 rfl rfl rfl rfl rfl rfl) ?_
    refine T_ret TT_ok (()) [(4, some 32), (5, none)] rfl rfl ?_ ?_ ?_
    · exact SVs.imp_refl _
    · exact ⟨⟨_, rfl, Ch.imp_refl _⟩, ⟨_, rfl, Ch.imp_refl _⟩, ⟨_, rfl, Ch.imp_refl _⟩, trivial⟩
    · trivial
  have hok := dec_iff.1 e
  refine T_auto TT_ok rfl ?_
  refine RJ_C TT_ok (cloneCluster_m c hb) rfl rfl (SVs.imp_refl _) (fun _ => rfl) rfl rfl rfl fun _ _ => ?_
  refine RJ_auto TT_ok rfl ?_
  have hst := step_k c hok id
  by_cases h0 : (stepM c id).2 = 0
  · rw [if_pos h0, h0] at hst
    rw [h0]
    have hpl := stepM_places hok id
    refine RJ_C TT_ok (Con.sw 900 6 hst) rfl rfl (SVs.imp_refl _) (fun _ => rfl) rfl rfl rfl (fun _ _ => ?_) (hin := by repeat (first | exact trivial | refine And.intro ⟨_, rfl, ro_arr⟩ ?_ | refine And.intro ⟨_, rfl, ro_ro⟩ ?_ | refine And.intro ⟨_, rfl, ro_row⟩ ?_ | refine And.intro ⟨_, rfl, ro_rrow⟩ ?_ | refine And.intro ⟨_, rfl, Ch.imp_refl _⟩ ?_))
    refine RJ_auto TT_ok rfl ?_
    refine T_cond rfl (fun e => by cases e) (fun _ => ?_)
    refine T_auto TT_ok rfl ?_
    refine T_ret TT_ok (()) [(4, some 32), (5, none)] rfl rfl ?_ ?_ ?_
    · exact SVs.imp_refl _
    · exact ⟨⟨_, rfl, imp_list hpl.symm⟩, ⟨_, rfl, Ch.imp_refl _⟩, ⟨_, rfl, Ch.imp_refl _⟩, trivial⟩
    · trivial
  · rw [if_neg h0] at hst
    rw [stepM_code hok h0]
    refine RJ_C TT_ok (Con.sw 900 6 hst) rfl rfl (SVs.imp_refl _) (fun _ => rfl) rfl rfl rfl (fun _ _ => ?_) (hin := by repeat (first | exact trivial | refine And.intro ⟨_, rfl, ro_arr⟩ ?_ | refine And.intro ⟨_, rfl, ro_ro⟩ ?_ | refine And.intro ⟨_, rfl, ro_row⟩ ?_ | refine And.intro ⟨_, rfl, ro_rrow⟩ ?_ | refine And.intro ⟨_, rfl, Ch.imp_refl _⟩ ?_))
    refine RJ_auto TT_ok rfl ?_
    refine T_condN rfl (fun _ => ?_) (fun e => absurd e h0)
    refine T_auto TT_ok rfl ?_
    refine RJ_C TT_ok (Con.sw 901 911 (Con.sw 902 912 (Con.sw 903 913 (cloneCluster_m c hb)))) rfl rfl (SVs.imp_refl _) (fun _ => rfl) rfl rfl rfl fun _ _ => ?_
    refine RJ_auto TT_ok rfl ?_
    refine T_view (V_sw 911 901) ?_
    refine T_view (V_sw 912 902) ?_
    refine T_view (V_sw 913 903) ?_
    refine T_ret TT_ok (()) [(4, some 32), (5, none)] rfl rfl ?_ ?_ ?_
    · exact SVs.imp_refl _
    · exact ⟨⟨_, rfl, Ch.imp_refl _⟩, ⟨_, rfl, Ch.imp_refl _⟩, ⟨_, rfl, Ch.imp_refl _⟩, trivial⟩
    · trivial
section
variable {E : Env} {mu : Mu} {TT : List TI} {fr : Fr} {gf gf' : GF} {all rest : List Oper} {Q : Exit → Act → World → Prop} {o : Oper}
theorem RJ_skipG {t j d d0 : Nat} {b b0 x : Bool} {u : SV} (v : SV) (hg : o.guard = some (j, b)) (hsl : gSlot all j = some d) (hgd0 : glk d gf = some (d0, b0, u)) (hx : mlk d0 fr = some (.a (.v (.bool x)))) (hgx : glk d0 gf = none) (hne : x = !b0) (hn : mlk t fr = none) (hgd : gdrop t gf = some gf')
    (k : RJ E all Q rest fr ((t, d, b, v) :: gf') mu) (hd : o.dst = some t := by exact rfl) (ht : (Nat.blt t E.N && !(Nat.beq t d)) = true := by exact rfl) : RJ E all Q (o :: rest) fr gf mu := by
  refine RJ_of fun B a w H ff mm _ => ?_
  simp only [Bool.and_eq_true, Bool.not_eq_true'] at ht
  have htd : t ≠ d := Nat.ne_of_beq_eq_false ht.2
  have htN : t < E.N := by simpa [Nat.blt_eq] using ht.1
  have hv : a.tmps.getD d0 undef = .bool x := ff.vfr d0 _ hx hgx
  have hu := ff.vgu d d0 b0 u (glk_mem hgd0) (by rw [hv, hne]; cases b0 <;> simp)
  have hyes : a.tmps.getD d undef ≠ .bool b := by rw [hu]; intro h; cases h
  have hw := wanted_some (ops := all.toArray) (a := a) hg (gslot_ops hsl)
  refine one_off (by
    cases e : Region.wanted o (yielded all.toArray a.tmps) with
    | false => rfl
    | true => exact absurd (hw.1 e) hyes) ?_
  rw [hd]
  exact k B _ w H (Fits.putG ff htN htd hn hgd (.inr ⟨hyes, rfl⟩)) mm
end
theorem over_find {d : GCluster} {id : Int} (i : Nat) : finN id (200 - i) d = (if i < 200 then (if (stepM d id).2 = 0 then (if overB (txAt (stepM d id).1 id) = true then ((stepM d id).1, 0) else finN id (200 - (i + 1)) (stepM d id).1) else (d, (stepM d id).2)) else (d, 0)) := by
  by_cases h : i < 200
  · rw [if_pos h, show 200 - i = (200 - (i + 1)) + 1 by omega, finN]
  · rw [if_neg h, show 200 - i = 0 by omega, finN]
set_option maxHeartbeats 1000000 in
theorem impl_Finish_m (c : GCluster) (hb : D.bds bigN (cCluster c)) (id : Int) : MkCI Tryz.prog 14 [vR (cCluster c), vI id] (finishM c id).1 (finishM c id).2 := by
  refine con_enter Tryz.func14 rfl rfl rfl fun B0 r_ D_ w0 => ?_
  refine T_auto1 TT_ok rfl ?_
  refine T_freeze 2 rfl rfl rfl rfl (fun _ => rfl) (fun _ => rfl) fun r_ => ?_
  refine T_auto TT_ok rfl ?_
  refine RJ_Q TT_ok (impl_isCluster_q c hb) rfl rfl rfl rfl rfl ?_
  refine T_condX rfl (fun e => ?_) (fun e => ?_)
  · rw [show finishM c id = (GCluster.z, 1) from by unfold finishM; rw [if_neg (dec_not.1 e)]]
    refine T_auto TT_ok rfl ?_
    refine T_view (V_nilR 4 2 1 (fun i => cPlace (([] : List GPlace).getD i GPlace.z)) rfl rfl rfl) ?_
    refine T_view (V_nilR 4 3 4 (fun i => cMachine (([] : List GMachine).getD i GMachine.z)) rfl rfl rfl) ?_
    refine T_view (V_nilR 4 4 7 (fun i => cTx (([] : List GTx).getD i GTx.z)) rfl rfl rfl) ?_
    refine T_view (V_open 4 2 901 rfl rfl rfl rfl rfl rfl) ?_
    refine T_view (V_open 4 3 902 rfl rfl rfl rfl rfl rfl) ?_
    refine T_view (V_open 4 4 903 rfl rfl rfl rfl rfl rfl) ?_
    refine T_ret TT_ok (()) [(4, some 32), (5, none)] rfl rfl ?_ ?_ ?_
    · exact SVs.imp_refl _
    · exact ⟨⟨_, rfl, Ch.imp_refl _⟩, ⟨_, rfl, Ch.imp_refl _⟩, ⟨_, rfl, Ch.imp_refl _⟩, trivial⟩
    · trivial
  have hok := dec_iff.1 e
  have hF : finishM c id = finN id 200 c := by unfold finishM; rw [if_pos hok]
  rw [hF]
  refine T_auto TT_ok rfl ?_
  refine RJ_C TT_ok (cloneCluster_m c hb) rfl rfl (SVs.imp_refl _) (fun _ => rfl) rfl rfl rfl fun _ _ => ?_
  refine RJ_auto TT_ok rfl ?_
  refine T_loopA (ι := Nat × GCluster) (fun z => [(17, vI z.1)]) (fun z => [(6, .row (rowC z.2 901 902 903)), (901, arrC 1 cPlace GPlace.z z.2.places), (902, arrC 4 cMachine GMachine.z z.2.machines), (903, arrC 7 cTx GTx.z z.2.txs)])
    (fun z => z.1 ≤ 200 ∧ ClusOk z.2 ∧ (0 < z.1 → 0 ≤ findI z.2 id) ∧ finN id 200 c = (if 0 < z.1 ∧ overB (txAt z.2 id) = true then (z.2, 0) else finN id (200 - z.1) z.2)) (fun z => 200 - z.1) (0, c) [6, 901, 902, 903] [901, 902, 903] rfl rfl ⟨Nat.zero_le _, hok, fun h => absurd h (Nat.lt_irrefl 0), by rw [if_neg (fun h => absurd h.1 (Nat.lt_irrefl 0))]; rfl⟩ (by repeat (first | exact trivial | refine And.intro ⟨_, rfl, SV.imp_refl _⟩ ?_)) (by repeat (first | exact trivial | refine And.intro ⟨_, rfl, Ch.imp_refl _⟩ ?_)) ?_
  rintro ⟨i, d⟩ ⟨h1, h2, h3, h4⟩
  dsimp only at h1 h2 h3 h4 ⊢
  have b3 : d.txs.length ≤ 1048576 := by have := h2.1.2.2.2; omega
  have hst := step_k d h2 id
  refine T_auto TT_ok rfl ?_
  refine T_condD rfl (fun e => ?_) (fun e => ?_)
  · have hi : i < 200 := by omega
    refine T_auto TT_ok rfl ?_
    by_cases hf : 0 ≤ findI d id
    · have hin := findI_in hf
      have hlt := findI_lt (c := d) (id := id)
      refine RJ_C TT_ok (Con.sw 900 6 (tx_some_k d b3 id hf)) rfl rfl (SVs.imp_refl _) (fun _ => rfl) rfl rfl rfl (fun _ _ => ?_) (hin := by repeat (first | exact trivial | refine And.intro ⟨_, rfl, ro_arr⟩ ?_ | refine And.intro ⟨_, rfl, ro_ro⟩ ?_ | refine And.intro ⟨_, rfl, ro_row⟩ ?_ | refine And.intro ⟨_, rfl, ro_rrow⟩ ?_ | refine And.intro ⟨_, rfl, Ch.imp_refl _⟩ ?_))
      refine RJ_auto TT_ok rfl ?_
      refine T_cond (b := bif (bif decide ((i : Int) > 0) then true else false) then overB (txAt d id) else false) rfl (fun e2 => ?_) (fun e2 => ?_)
      · have hcase : 0 < i ∧ overB (txAt d id) = true := by
          cases c1 : decide ((i : Int) > 0) with
          | false => rw [c1] at e2; cases e2
          | true => rw [c1] at e2; exact ⟨by have := of_decide_eq_true c1; omega, e2⟩
        rw [h4, if_pos hcase]
        refine T_auto TT_ok rfl ?_
        refine T_ret TT_ok (()) [(4, some 32), (5, none)] rfl rfl ?_ ?_ ?_
        · exact SVs.imp_refl _
        · exact ⟨⟨_, rfl, Ch.imp_refl _⟩, ⟨_, rfl, Ch.imp_refl _⟩, ⟨_, rfl, Ch.imp_refl _⟩, trivial⟩
        · trivial
      have hcase : ¬ (0 < i ∧ overB (txAt d id) = true) := by
        rintro ⟨q1, q2⟩
        rw [decide_eq_true (by omega), q2] at e2; cases e2
      rw [if_neg hcase, over_find (d := d) i, if_pos hi] at h4
      refine T_auto TT_ok rfl ?_
      refine RJ_C TT_ok (Con.sw 901 911 (Con.sw 902 912 (Con.sw 903 913 (cloneCluster_m d (clusOk_bd h2))))) rfl rfl (SVs.imp_refl _) (fun _ => rfl) rfl rfl rfl fun _ _ => ?_
      refine RJ_auto TT_ok rfl ?_
      by_cases h0 : (stepM d id).2 = 0
      · rw [if_pos h0, h0] at hst
        have hpl := stepM_places h2 id
        rw [if_pos h0] at h4
        refine RJ_C TT_ok (Con.sw 900 9 (Con.sw 901 911 (Con.sw 902 912 (Con.sw 903 913 hst)))) rfl rfl (SVs.imp_refl _) (fun _ => rfl) rfl rfl rfl (fun _ _ => ?_) (hin := by repeat (first | exact trivial | refine And.intro ⟨_, rfl, ro_arr⟩ ?_ | refine And.intro ⟨_, rfl, ro_ro⟩ ?_ | refine And.intro ⟨_, rfl, ro_row⟩ ?_ | refine And.intro ⟨_, rfl, ro_rrow⟩ ?_ | refine And.intro ⟨_, rfl, Ch.imp_refl _⟩ ?_))
        refine RJ_auto TT_ok rfl ?_
        refine T_cond rfl (fun e => by cases e) (fun _ => ?_)
        refine T_view (V_imp 911 rfl (imp_list (sz := 1) (enc := cPlace) (z := GPlace.z) hpl.symm) rfl) ?_
        refine T_auto TT_ok rfl ?_
        refine X_view (V_sw 911 901) ?_
        refine X_view (V_sw 912 902) ?_
        refine X_view (V_sw 913 903) ?_
        refine X_inv (i + 1, (stepM d id).1) ⟨hi, stepM_ok h2 id, fun _ => by rw [stepM_find h2]; exact hf, ?_⟩ (by show 200 - (i + 1) < 200 - i; omega) (by repeat (first | exact trivial | refine And.intro ⟨_, rfl, SV.imp_refl _⟩ ?_)) (by repeat (first | exact trivial | refine And.intro ⟨_, rfl, Ch.imp_refl _⟩ ?_))
        dsimp only
        rw [h4]
        by_cases ho : overB (txAt (stepM d id).1 id) = true
        · rw [if_pos ho, if_pos ⟨Nat.succ_pos i, ho⟩]
        · rw [if_neg ho, if_neg fun h => ho h.2]
      · rw [if_neg h0] at hst h4
        rw [h4]
        refine RJ_C TT_ok (Con.sw 900 9 (Con.sw 901 911 (Con.sw 902 912 (Con.sw 903 913 hst)))) rfl rfl (SVs.imp_refl _) (fun _ => rfl) rfl rfl rfl (fun _ _ => ?_) (hin := by repeat (first | exact trivial | refine And.intro ⟨_, rfl, ro_arr⟩ ?_ | refine And.intro ⟨_, rfl, ro_ro⟩ ?_ | refine And.intro ⟨_, rfl, ro_row⟩ ?_ | refine And.intro ⟨_, rfl, ro_rrow⟩ ?_ | refine And.intro ⟨_, rfl, Ch.imp_refl _⟩ ?_))
        refine RJ_auto TT_ok rfl ?_
        refine T_condN rfl (fun _ => ?_) (fun e => absurd e h0)
        refine T_auto TT_ok rfl ?_
        refine T_ret TT_ok (()) [(4, some 32), (5, none)] rfl rfl ?_ ?_ ?_
        · exact SVs.imp_refl _
        · exact ⟨⟨_, rfl, Ch.imp_refl _⟩, ⟨_, rfl, Ch.imp_refl _⟩, ⟨_, rfl, Ch.imp_refl _⟩, trivial⟩
        · trivial
    · have hi0 : i = 0 := by
        rcases Nat.eq_zero_or_pos i with h | h
        · exact h
        · exact absurd (h3 h) hf
      subst hi0
      have hL : liveC d id = 2 := by unfold liveC; rw [decide_eq_true (by omega)]; rfl
      have hS := stepM_live h2 (id := id) (by rw [hL]; decide)
      rw [hL] at hS
      rw [if_neg (fun h => absurd h.1 (Nat.lt_irrefl 0)), over_find (d := d) 0, if_pos hi, hS, if_neg (show ¬ (2 : Int) = 0 by decide)] at h4
      rw [hS, if_neg (show ¬ (2 : Int) = 0 by decide)] at hst
      rw [h4]
      refine RJ_C TT_ok (Con.sw 900 6 (tx_none_k d b3 id (by omega))) rfl rfl (SVs.imp_refl _) (fun _ => rfl) rfl rfl rfl (fun _ _ => ?_) (hin := by repeat (first | exact trivial | refine And.intro ⟨_, rfl, ro_arr⟩ ?_ | refine And.intro ⟨_, rfl, ro_ro⟩ ?_ | refine And.intro ⟨_, rfl, ro_row⟩ ?_ | refine And.intro ⟨_, rfl, ro_rrow⟩ ?_ | refine And.intro ⟨_, rfl, Ch.imp_refl _⟩ ?_))
      refine RJ_auto TT_ok rfl ?_
      refine RJ_skip (.a (.v (.slice none 0 0))) rfl rfl rfl rfl ((by rfl)) rfl rfl ?_
      refine RJ_auto TT_ok rfl ?_
      refine RJ_skip (.a (.v (.slice none 0 0))) rfl rfl rfl rfl ((by rfl)) rfl rfl ?_
      refine RJ_auto TT_ok rfl ?_
      refine RJ_skip (vI 0) rfl rfl rfl rfl ((by rfl)) rfl rfl ?_
      refine RJ_auto TT_ok rfl ?_
      refine RJ_skipG (.a (.v (.slice none 0 0))) rfl rfl rfl rfl rfl rfl rfl rfl ?_
      refine RJ_auto TT_ok rfl ?_
      refine RJ_skipG (.a (.v (.slice none 0 0))) rfl rfl rfl rfl rfl rfl rfl rfl ?_
      refine RJ_auto TT_ok rfl ?_
      refine RJ_skipG (vI 0) rfl rfl rfl rfl rfl rfl rfl rfl ?_
      refine RJ_auto TT_ok rfl ?_
      refine T_cond rfl (fun e => by have e : false = true := e; cases e) (fun _ => ?_)
      refine T_auto TT_ok rfl ?_
      refine RJ_C TT_ok (Con.sw 901 911 (Con.sw 902 912 (Con.sw 903 913 (cloneCluster_m d (clusOk_bd h2))))) rfl rfl (SVs.imp_refl _) (fun _ => rfl) rfl rfl rfl fun _ _ => ?_
      refine RJ_auto TT_ok rfl ?_
      refine RJ_C TT_ok (Con.sw 900 9 (Con.sw 901 911 (Con.sw 902 912 (Con.sw 903 913 hst)))) rfl rfl (SVs.imp_refl _) (fun _ => rfl) rfl rfl rfl (fun _ _ => ?_) (hin := by repeat (first | exact trivial | refine And.intro ⟨_, rfl, ro_arr⟩ ?_ | refine And.intro ⟨_, rfl, ro_ro⟩ ?_ | refine And.intro ⟨_, rfl, ro_row⟩ ?_ | refine And.intro ⟨_, rfl, ro_rrow⟩ ?_ | refine And.intro ⟨_, rfl, Ch.imp_refl _⟩ ?_))
      refine RJ_auto TT_ok rfl ?_
      refine T_cond rfl (fun _ => ?_) (fun e => by cases e)
      refine T_auto TT_ok rfl ?_
      refine T_ret TT_ok (()) [(4, some 32), (5, none)] rfl rfl ?_ ?_ ?_
      · exact SVs.imp_refl _
      · exact ⟨⟨_, rfl, Ch.imp_refl _⟩, ⟨_, rfl, Ch.imp_refl _⟩, ⟨_, rfl, Ch.imp_refl _⟩, trivial⟩
      · trivial
  · have hi : i = 200 := by omega
    subst hi
    have h5 : finN id 200 c = (d, 0) := by
      rw [h4]
      split
      · rfl
      · rfl
    rw [h5]
    refine T_auto TT_ok rfl ?_
    refine T_ret TT_ok (()) [(4, some 32), (5, none)] rfl rfl ?_ ?_ ?_
    · exact SVs.imp_refl _
    · exact ⟨⟨_, rfl, Ch.imp_refl _⟩, ⟨_, rfl, Ch.imp_refl _⟩, ⟨_, rfl, Ch.imp_refl _⟩, trivial⟩
    · trivial
end Go.Proofs.YtcikaknfogpeeaaGreat
namespace Go.Proofs.YtcikaknfogpeeaaGreat
open Go Go.RowKit
set_option linter.unusedVariables false
set_option linter.unusedSimpArgs false
section
variable {E : Env} {mu mu' : Mu} {TT : List TI} {fr fr' : Fr} {gf gf' : GF} {all : List Oper} {R : Exit → Act → World → Prop} {K : List KF} {G : AG} {Q : Exit → Act → World → Prop}
def DP (G : AG) (E : Env) (all : List Oper) (Q : Exit → Act → World → Prop) (n : Nat) (tk : List Nat) (fr : Fr) (gf : GF) (mu : Mu) : Prop :=
  ∀ B a w H, FitsE E B H fr gf a → Mem E B mu w H → Sr G E.r w → Lw E.P all.toArray Q (Sr G E.r) n (mk all.toArray.size tk) a w
theorem DJ_dp {n : Nat} {tk : List Nat} (h : DP G E all Q n tk fr gf mu) : DJ G E all Q n tk fr gf mu := fun B a w H f m gg => h B a w H f m (m.sr gg)
theorem DP_view {n : Nat} {tk : List Nat} (v : View E fr gf mu fr' gf' mu') (h : DP G E all Q n tk fr' gf' mu') : DP G E all Q n tk fr gf mu := fun B a w H f m s => by
  obtain ⟨B', H', f', m'⟩ := v B w H a f m
  exact h B' a w H' f' m' s
theorem DP_op (hT : TOk E.P TT) (i : Nat) {n : Nat} {tk : List Nat} {o : Oper} {t : Nat} {x : SV} {q : Ob} {es : List Prop} {gs : List GO} (hi : nth all i = some o) (hp : pst TT fr gf mu [] o.op = some (x, q)) (hs : splitO fr gf [] q [] [] = some (es, gs)) (hgd : gdrop t gf = some gf')
    (k : DP G E all Q n (i :: tk) ((t, x) :: fr) gf' mu) (hg : o.guard = none := by exact rfl) (hd : o.dst = some t := by exact rfl) (ht : Nat.blt t E.N = true := by exact rfl) (hB : oneB all.toArray tk i = true := by kernel_rfl) (he : PAlls es := by repeat (first | exact trivial | refine And.intro rfl ?_)) (ho : GAlls gs := by first | exact trivial | ((simp only [GAlls, GO.p, InR]; (repeat' (first | exact trivial | refine And.intro ?_ ?_ | refine fun _ => ?_)) <;> first | omega | (simp only [decide_eq_true_eq, decide_eq_false_iff_not, Int.toNat_natCast] at *; omega) | (simp at *; omega)))) : DP G E all Q (n + 1) tk fr gf mu := fun B a w H f m s w2 hb => by
  have hr := oneB_spec hB
  have hi' : all.toArray[i]? = some o := by rw [nth_eq] at hi; simpa using hi
  refine ⟨fun h0 => (by rw [hr] at h0; cases h0), fun j hj => ?_⟩
  rw [hr] at hj
  obtain rfl := List.mem_singleton.1 hj
  have m2 := m.below hb
  obtain ⟨v, r1, r2⟩ := pst_ok hT f m2.mr.ms (g := []) (fun _ _ hm => by cases hm) hp (splitO_ok f (fun _ _ hm => by cases hm) hs he ho)
  unfold wpOp
  rw [hi', mk_set]
  refine one_val (wanted_none hg) (r1 w2 m2.mr.fw) ?_
  rw [hd]
  exact ⟨_, .inl rfl, s.up hb, k B _ w2 H (Fits.put f (by simpa [Nat.blt_eq] using ht) r2 hgd) m2 (s.up hb)⟩
theorem DP_end {n : Nat} {tk : List Nat} (hr : (Region.ready .any all.toArray (mk all.toArray.size tk)).isEmpty = true) (h : X E R (nxN K) fr mu) : DP G E all (KQ E.P R K) n tk fr gf mu := fun B a w H f m _ => by
  have hr' : Region.ready .any all.toArray (mk all.toArray.size tk) = [] := by simpa using hr
  have hq := fun w' hb => nxN_ok (h B a w' H (Fits.ungf f) (m.below hb))
  cases n with
  | zero => exact fun w' hb => ⟨hr', hq w' hb⟩
  | succ n => exact fun w' hb => ⟨fun _ => hq w' hb, fun i hi => by rw [hr'] at hi; cases hi⟩
theorem DP_endA (hT : TOk E.P TT) {n : Nat} {tk : List Nat} {js : JS} {es : List Prop} {gs : List GO} (ha : goNx (auto TT E.N E.A.ks 400) (nxN K) fr mu [] [] = some (js, es, gs)) (k : js.ok E R) (hr : (Region.ready .any all.toArray (mk all.toArray.size tk)).isEmpty = true := by kernel_rfl)
    (he : PAlls es := by repeat (first | exact trivial | refine And.intro rfl ?_)) (ho : GAlls gs := by first | exact trivial | ((simp only [GAlls, GO.p, InR]; (repeat' (first | exact trivial | refine And.intro ?_ ?_ | refine fun _ => ?_)) <;> first | omega | (simp only [decide_eq_true_eq, decide_eq_false_iff_not, Int.toNat_natCast] at *; omega) | (simp at *; omega)))) : DP G E all (KQ E.P R K) n tk fr gf mu := DP_end hr ((goNx_ok (auto_ok hT 400) ha ⟨he, ho⟩).2 k)
end
def nameL (k : Nat) : List V → Nat → Option (List V)
  | .s _ _ _ _ :: r, 0 => some (.g k :: r)
  | x :: r, j + 1 => match nameL k r j with
    | some l => some (x :: l)
    | none => none
  | _, _ => none
theorem rels_setB {B : BE} {Z : Tg → PH} {k : Nat} (v : Value) : ∀ {l : List V} {vs : List Value}, anyL (V.usesB k) l = false → V.rels B Z l vs → V.rels (BE.set B k v) Z l vs
  | [], _, _, e => e
  | x :: r, _, h, e => by
    obtain ⟨y, t, rfl, e1, e2⟩ := e
    obtain ⟨h1, h2⟩ := anyL_cons h
    exact ⟨y, t, rfl, V.rel_setB v h1 e1, rels_setB v h2 e2⟩
theorem nameL_ok {B : BE} {Z : Tg → PH} {k : Nat} : ∀ {l l' : List V} {j : Nat} {vs : List Value}, nameL k l j = some l' → anyL (V.usesB k) l = false → V.rels B Z l vs → ∃ v, V.rels (BE.set B k v) Z l' vs
  | [], _, j, _, h, _, _ => by cases j <;> simp [nameL] at h
  | x :: r, l', 0, vs, h, hu, e => by
    cases x with
    | s q sz n f =>
      simp only [nameL, Option.some.injEq] at h
      subst h
      obtain ⟨y, t, rfl, e1, e2⟩ := e
      obtain ⟨A, c, e3, _⟩ := (show ∃ A c, y = .slice A n c ∧ _ from e1)
      obtain ⟨h1, h2⟩ := anyL_cons hu
      exact ⟨y, y, t, rfl, ⟨(BE.set_eq _ _ _).symm, by rw [e3]; rfl⟩, rels_setB y h2 e2⟩
    | _ => simp [nameL] at h
  | x :: r, l', j + 1, vs, h, hu, e => by
    have h' : (match nameL k r j with | some l => some (x :: l) | none => none) = some l' := by cases x <;> exact h
    cases c : nameL k r j with
    | none => rw [c] at h'; cases h'
    | some l =>
      rw [c] at h'
      injection h' with h'
      subst h'
      obtain ⟨y, t, rfl, e1, e2⟩ := e
      obtain ⟨h1, h2⟩ := anyL_cons hu
      obtain ⟨v, h3⟩ := nameL_ok c h2 e2
      exact ⟨v, y, t, rfl, V.rel_setB v h1 e1, h3⟩
section
variable {E : Env} {mu : Mu} {fr : Fr} {gf : GF} {all : List Oper} {G : AG} {Q : Exit → Act → World → Prop} {B : BE} {w : World} {H : Nat → PH} {a : Act}
theorem Mem.name (m : Mem E B mu w H) {k : Nat} (v : Value) (h1 : muAny (V.uses k) k mu = false) (h2 : hasK k E.A.ks = false) (h3 : mlk k mu = none) : Mem E (BE.set B k v) mu w H := by
  refine ⟨⟨fun j d e => ?_, m.mm.fit, m.mm.dj, m.mm.djr, m.mm.fitr⟩, m.keep, m.dom, fun j hj => ?_⟩
  · have hj : j ≠ k := fun e2 => by subst e2; rw [h3] at e; cases e
    exact Ch.sat_setB v hj (muAny_get (muAny_mono (fun x hx => (uses_out hx).1) h1) j d hj e) (m.mm.sat j d e)
  · have : j ≠ k := fun e => by rw [e, h2] at hj; cases hj
    rw [BE.set_ne B v this]; exact m.anch j hj
theorem FitsE.name (f : FitsE E B H fr gf a) {k : Nat} (v : Value) (h1 : frAny (V.uses k) fr = false) (h2 : gfAny (V.uses k) gf = false) : FitsE E (BE.set B k v) H fr gf a :=
  Fits.keep f h1 h2 (PH.le_refl _) fun _ _ hx e => V.rel_setB v (uses_out hx).1 e
theorem DJ_name (t j k : Nat) {n : Nat} {tk : List Nat} {l l' : List V} (ht : mlk t fr = some (.ag l)) (hg : glk t gf = none) (hl : nameL k l j = some l') (hu : unnamed k fr gf mu E.A.ks = true) (hm : mlk k mu = none) (hG : hasK k G.ks = false) (h : DJ G E all Q n tk ((t, .ag l') :: fr) gf mu) : DJ G E all Q n tk fr gf mu := fun B a w H f m gg => by
  obtain ⟨u1, u2, u3, u4⟩ := unnamed_spec hu
  obtain ⟨vs, e1, e2⟩ := (show ∃ vs, a.tmps.getD t undef = _ ∧ V.rels B (Zf E.r H) l vs from f.vfr t _ ht hg)
  have hL : anyL (V.uses k) l = false := frAny_get u1 t _ ht
  obtain ⟨v, e3⟩ := nameL_ok hl (anyL_mono (fun x hx => (uses_out hx).1) hL) e2
  have f2 := f.name v u1 u2
  refine h (BE.set B k v) a w H ⟨f2.size, f2.defers, fun t' x q1 q2 => ?_, f2.vgf, f2.vgu, fun t' d w x q1 => ?_⟩ (m.name v u3 u4 hm) fun i hi => ?_
  · rw [mlk_cons] at q1
    by_cases hh : t = t'
    · subst hh
      rw [if_pos rfl] at q1
      injection q1 with q1
      subst q1
      exact ⟨vs, e1, e3⟩
    · rw [if_neg hh] at q1; exact f2.vfr t' x q1 q2
  · rw [mlk_cons]
    by_cases hh : t = t'
    · subst hh
      have := f2.vno t d w x q1
      rw [ht] at this; cases this
    · rw [if_neg hh]; exact f2.vno t' d w x q1
  · have : i ≠ k := fun e => by rw [e, hG] at hi; cases hi
    rw [BE.set_ne B v this]; exact gg i hi
end
end Go.Proofs.YtcikaknfogpeeaaGreat
namespace Go.Proofs.YtcikaknfogpeeaaGreat
open Go Go.RowKit
set_option linter.unusedVariables false
set_option linter.unusedSimpArgs false
set_option maxRecDepth 4000
theorem setsB_of {xs : List GSet} (h1 : ∀ s ∈ xs, setB s = true) (h2 : riseS xs) {r : Int} (h3 : ∀ s ∈ xs, s.region = r) : setsB xs = true := by
  unfold setsB
  rw [anyN_no fun j hj => ?_]; · rfl
  unfold badSets
  rw [h1 _ (getD_mem hj)]
  by_cases c : (j : Int) > 0
  · rw [decide_eq_true c, show ((j : Int) - 1).toNat = j - 1 by omega]
    have := pair_get (z := GSet.z) h2 (a := j - 1) (b := j) (by omega) hj
    rw [decide_eq_false (show ¬ (xs.getD j GSet.z).slot ≤ (xs.getD (j - 1) GSet.z).slot by omega)]
    rw [h3 _ (getD_mem hj), h3 _ (getD_mem (show 0 < xs.length by omega))]
    simp
  · rw [decide_eq_false c]; rfl
theorem spec_Lock_m (xs : List GCell) (sets : List GSet) (hl : sets.length ≤ 1048576) (hx : cellsB xs = true) (hs : ∀ s ∈ sets, setB s = true) (hr : riseS sets) (hS : setsB sets = true) :
    Con Tryz.prog 58 [] [vL 2 cCell GCell.z xs, vL 5 cSet GSet.z sets] [] (fun _ : Unit => True) (fun _ => [.a (.g 901), vB (lockB xs sets)]) fun _ => [(901, arrC 2 cCell GCell.z (lockM xs sets))] := by
  have hx6 := (cellsB_iff.1 hx).1
  refine con_enter Tryz.func58 rfl rfl rfl fun B0 r_ D_ w0 => ?_
  refine T_auto TT_ok rfl ?_
  refine RJ_Q TT_ok (spec_CellsOk_q xs) rfl rfl rfl rfl rfl ?_
  refine RJ_Q TT_ok (spec_l2Sets_q sets hl) rfl rfl rfl rfl rfl ?_
  refine T_cond rfl (fun e => by rw [hx, hS] at e; cases e) (fun _ => ?_)
  refine T_auto TT_ok rfl ?_
  refine RJ_C TT_ok (Con.sw 900 40 (l3Copy_m xs (by omega))) rfl rfl (SVs.imp_refl _) (fun _ => rfl) rfl rfl rfl fun _ _ => ?_
  refine RJ_auto TT_ok rfl ?_
  refine T_loopA (ι := Nat) (fun i => [(7, vI i)]) (fun i => [(40, arrC 2 cCell GCell.z ((sets.take i).foldl lockF xs))]) (fun i => i ≤ sets.length ∧ ∀ j, j < i → lockNo xs (sets.getD j GSet.z) = false) (fun i => sets.length - i) 0 [40] [] rfl rfl ⟨Nat.zero_le _, fun j hj => absurd hj (Nat.not_lt_zero _)⟩ (by repeat (first | exact trivial | refine And.intro ⟨_, rfl, SV.imp_refl _⟩ ?_)) (by repeat (first | exact trivial | refine And.intro ⟨_, rfl, Ch.imp_refl _⟩ ?_)) ?_
  intro i ⟨h1, h2⟩
  refine T_auto TT_ok rfl ?_
  refine T_condD rfl (fun e => ?_) (fun e => ?_)
  · have hi : i < sets.length := by omega
    have hsb := hs _ (getD_mem (z := GSet.z) hi)
    obtain ⟨c1, c2, c3, c4, c5, c6, c7, c8⟩ := cell_at hx hsb
    have hV := ver4 c4
    have hat := lock_at hs hr xs hi
    have hlen : ((sets.take i).foldl lockF xs).length = 6 := by rw [foldl_len lockF_len]; exact c1
    have hF := foldl_take (z := GSet.z) lockF xs hi
    unfold cellS at c5 c6 c7 c8 hV
    refine T_auto TT_ok rfl ?_
    refine T_drawL TT_ok [] [0, 1, 2, 3, 4, 5, 6, 7, 8, 9, 10, 11] rfl rfl fun B0 H0 => ?_
    refine DJ_Qi 1 (spec_Locked_q _) rfl rfl rfl (SVs.imp_refl _) rfl ?_
    refine DJ_onL TT_ok [2, 3, 5, 6, 7, 8, 9, 4, 10, 11] rfl ?_
    refine DJ_Qi 4 (spec_Version_q _) rfl rfl rfl (SVs.imp_refl _) rfl ?_
    refine DJ_onL TT_ok [10, 11] rfl ?_
    refine DJ_endA TT_ok rfl ?_
    refine T_cond rfl (fun e2 => ?_) (fun e2 => ?_)
    · simp only [Int.toNat_natCast] at e2
      rw [hV] at e2
      have hB : lockB xs sets = false := by unfold lockB; rw [any_at (p := lockNo xs) hi e2]; rfl
      rw [show lockM xs sets = xs from by unfold lockM; rw [hB]; rfl, hB]
      refine T_auto TT_ok rfl ?_
      refine RJ_C TT_ok (Con.sw 900 901 (l3Copy_m xs (by omega))) rfl rfl (SVs.imp_refl _) (fun _ => rfl) rfl rfl rfl fun _ _ => ?_
      refine RJ_auto TT_ok rfl ?_
      refine T_ret TT_ok (()) [(4, none), (5, none)] rfl rfl ?_ ?_ ?_
      · exact SVs.imp_refl _
      · exact ⟨⟨_, rfl, Ch.imp_refl _⟩, trivial⟩
      · trivial
    · simp only [Int.toNat_natCast] at e2
      rw [hV] at e2
      refine T_auto TT_ok rfl ?_
      refine X_inv (i + 1) ⟨hi, before_succ h2 e2⟩ (by omega) (by repeat (first | exact trivial | refine And.intro ⟨_, rfl, SV.imp_refl _⟩ ?_)) ⟨⟨_, rfl, ?_⟩, (by repeat (first | exact trivial | refine And.intro ⟨_, rfl, Ch.imp_refl _⟩ ?_))⟩
      rw [hF, show lockF ((sets.take i).foldl lockF xs) (sets.getD i GSet.z) = ((sets.take i).foldl lockF xs).set (sets.getD i GSet.z).slot.toNat ⟨(cellS ((sets.take i).foldl lockF xs) (sets.getD i GSet.z)).head + 1, (cellS ((sets.take i).foldl lockF xs) (sets.getD i GSet.z)).value⟩ from rfl, hat]
      simp only [Int.toNat_natCast]
      refine imp_set (OwnI.of ?_)
      show [dI _, dI (((sets.take i).foldl lockF xs).getD _ GCell.z).value] = [dI _, dI _]
      rw [show (((sets.take i).foldl lockF xs).getD (sets.getD i GSet.z).slot.toNat GCell.z) = cellS xs (sets.getD i GSet.z) from hat]
      rfl
  · have hi : i = sets.length := by omega
    subst hi
    have hB : lockB xs sets = true := by unfold lockB; rw [any_no (z := GSet.z) (p := lockNo xs) fun j hj => h2 j hj]; rfl
    rw [show lockM xs sets = lockL xs sets from by unfold lockM; rw [hB]; rfl, hB, List.take_length]
    refine T_auto TT_ok rfl ?_
    refine T_view (V_sw 40 901) ?_
    refine T_ret TT_ok (()) [(4, none), (5, none)] rfl rfl ?_ ?_ ?_
    · exact SVs.imp_refl _
    · exact ⟨⟨_, rfl, Ch.imp_refl _⟩, trivial⟩
    · trivial
theorem l6Replace_k (m : GMachine) (hl : m.copies.length ≤ 1048576) (hl2 : m.log.length ≤ 1048576) (hl3 : m.cleared.length ≤ 1048576) (r : Int) (hh : hasB m r = true) (xs : List GCell) :
    Con Tryz.prog 47 [900, 901, 902, 903, 905] [.a (.p 900 0), vI r, .a (.g 905)] [(900, .rrow (rowM m 901 902 903)), (901, arrC 2 cCopy GCopy.z m.copies), (902, .ro 4 m.log.length fun i => cRecord (m.log.getD i GRecord.z)), (903, .ro 1 m.cleared.length fun i => cInt (m.cleared.getD i 0)), (905, arrC 2 cCell GCell.z xs)]
      (fun _ : Unit => True) (fun _ => []) fun _ => [(901, arrC 2 cCopy GCopy.z (setCells m r xs).copies)] := by
  have hix := idxI_in (z := GCopy.z) ((any_idx (z := GCopy.z)).2 (show m.copies.any (atB r) = true from hh))
  have hix2 : 0 ≤ copyI m r ∧ copyI m r < m.copies.length := ⟨(any_idx (z := GCopy.z)).2 hh, by have := hix.1; have := (any_idx (z := GCopy.z)).2 hh; show idxI (atB r) m.copies < _; omega⟩
  refine con_enter Tryz.func47 rfl rfl rfl fun B0 r_ D_ w0 => ?_
  refine T_auto TT_ok rfl ?_
  refine RJ_Q TT_ok (l6At_q m hl r) rfl rfl rfl rfl rfl ?_
  refine T_condD rfl (fun e => ?_) (fun e => absurd hix2.1 e)
  refine T_view (V_carve 901 (copyI m r) 64 rfl rfl rfl rfl rfl rfl hix2) ?_
  refine T_view (V_open 64 1 65 rfl rfl rfl rfl rfl rfl) ?_
  refine T_auto TT_ok rfl ?_
  refine RJ_view (V_pe 23 rfl rfl rfl) ?_
  refine RJ_auto TT_ok rfl ?_
  refine T_view (V_fold 64 1 905 rfl rfl rfl rfl rfl rfl rfl) ?_
  refine T_view (V_uncarve 901 64 rfl rfl rfl rfl rfl rfl rfl) ?_
  refine T_ret TT_ok (()) [] rfl rfl ?_ ?_ ?_
  · exact SVs.imp_refl _
  · exact ⟨⟨_, rfl, imp_set (y := putX m r xs) (OwnI.refl _)⟩, trivial⟩
  · trivial
theorem l6Logged_k (al : Bool) (log : List GRecord) (hl : log.length ≤ 1048576) (tx r0 kind : Int) :
    Con Tryz.prog 65 [901, 902, 903] [.ag [.v (.bool al), .g 901, .g 902, .g 903], vI tx, vI r0, vI kind] [(902, .ro 4 log.length fun i => cRecord (log.getD i GRecord.z))] (fun _ : Unit => True) (fun _ => [vI (idxI (atLog tx r0 kind) log)]) fun _ => [] := by
  refine con_enter Tryz.func65 rfl rfl rfl fun B0 r_ D_ w0 => ?_
  refine T_auto TT_ok rfl ?_
  refine T_loopA (ι := Nat) (fun i => [(9, vI i)]) (fun _ => []) (fun i => i ≤ log.length ∧ ∀ j, j < i → atLog tx r0 kind (log.getD j GRecord.z) = false) (fun i => log.length - i) 0 [] [] rfl rfl ⟨Nat.zero_le _, fun j hj => absurd hj (Nat.not_lt_zero _)⟩ (by repeat (first | exact trivial | refine And.intro ⟨_, rfl, SV.imp_refl _⟩ ?_)) (by repeat (first | exact trivial | refine And.intro ⟨_, rfl, Ch.imp_refl _⟩ ?_)) ?_
  intro i ⟨h1, h2⟩
  refine T_auto TT_ok rfl ?_
  refine T_condD rfl (fun e => ?_) (fun e => ?_)
  · have hi : i < log.length := by omega
    refine T_auto TT_ok rfl ?_
    refine T_cond rfl (fun e2 => ?_) (fun e2 => ?_)
    · refine T_auto TT_ok rfl ?_
      refine T_ret TT_ok (()) [(8, none)] rfl rfl ?_ ?_ ?_
      · exact SVs.cons (SV.imp_of (vI_eq (idxI_at (p := atLog tx r0 kind) hi h2 e2).symm)) rfl
      · trivial
      · trivial
    · refine T_auto TT_ok rfl ?_
      exact X_inv (i + 1) ⟨hi, before_succ h2 e2⟩ (by omega) (by repeat (first | exact trivial | refine And.intro ⟨_, rfl, SV.imp_refl _⟩ ?_)) (by repeat (first | exact trivial | refine And.intro ⟨_, rfl, Ch.imp_refl _⟩ ?_))
  · refine T_auto TT_ok rfl ?_
    refine T_ret TT_ok (()) [(8, none)] rfl rfl ?_ ?_ ?_
    · exact SVs.cons (SV.imp_of (vI_eq (idxI_no fun j hj => h2 j (by omega)).symm)) rfl
    · trivial
    · trivial
end Go.Proofs.YtcikaknfogpeeaaGreat
namespace Go.Proofs.YtcikaknfogpeeaaGreat
open Go Go.RowKit
set_option linter.unusedVariables false
set_option linter.unusedSimpArgs false
set_option maxRecDepth 4000
theorem SV.imp_sl {P : Program} {sz n m : Nat} {f g : Nat → List D} (h : n = m) (e : ∀ i, i < n → f i = g i) : (SV.a (.s .r sz n f)).imp P (.a (.s .r sz m g)) := by
  subst h; exact SV.imp_s e
abbrev cwt (c : GCluster) (n : Int) (ms : List GMachine) (ts : List GTx) : GCluster := { c with clock := n, machines := ms, txs := ts }
theorem l7WantsK_m {t : GTx} (h : TxOk t) : MkL Tryz.prog 112 [vR (cTx t)] 1 cInt 0 (wantsL t) := by
  have hs := h.1.2.2.2.2.2.2
  have := l7Wants_m t (by omega)
  rw [wants_eq h] at this
  exact this
theorem l7ChecksK_m {t : GTx} (h : TxOk t) : MkL Tryz.prog 59 [vR (cTx t)] 5 cNote GNote.z (checksL t) := by
  have h1 := h.1.2.2.2.2.2.1
  have h2 := h.1.2.2.2.2.2.2
  exact l7Checks_m t (by omega) (by omega)
theorem rowP_true_m {r : Int} {ms : List Int} : ∀ {i : Nat}, i ≤ ms.length → (rowP true r ms i).map GCopyAt.machine = (ms.take i).drop 1 ∧ (rowP true r ms i).map GCopyAt.region = List.replicate (i - 1) r
  | 0, _ => ⟨by simp [rowP], by simp [rowP]⟩
  | i + 1, h => by
    obtain ⟨h1, h2⟩ := rowP_true_m (r := r) (ms := ms) (i := i) (by omega)
    rw [rowP]
    by_cases c : i = 0
    · subst c
      refine ⟨?_, ?_⟩
      · simp [rowP]
      · simp [rowP]
    · rw [decide_eq_true (by omega), cond_true, cond_true, List.map_append, List.map_append, h1, h2]
      refine ⟨?_, ?_⟩
      · rw [take_succ_getD (z := 0) (by omega), List.drop_append_of_le_length (by rw [List.length_take]; omega)]
        rfl
      · show List.replicate (i - 1) r ++ List.replicate 1 r = _
        rw [List.replicate_append_replicate]
        congr 1; omega
theorem rowP_false_m {r : Int} {ms : List Int} : ∀ {i : Nat}, i ≤ ms.length → (rowP false r ms i).map GCopyAt.machine = ms.take i ∧ (rowP false r ms i).map GCopyAt.region = List.replicate i r
  | 0, _ => ⟨by simp [rowP], by simp [rowP]⟩
  | i + 1, h => by
    obtain ⟨h1, h2⟩ := rowP_false_m (r := r) (ms := ms) (i := i) (by omega)
    rw [rowP]
    have hb : (bif decide ((i : Int) > 0) then true else !false) = true := by cases decide ((i : Int) > 0) <;> rfl
    rw [hb, cond_true, List.map_append, List.map_append, h1, h2]
    refine ⟨?_, ?_⟩
    · rw [take_succ_getD (z := 0) (by omega)]; rfl
    · show List.replicate i r ++ List.replicate 1 r = _
      rw [List.replicate_append_replicate]
def selL (p : Int) (ms : List Int) : List Int := if p = 4 then ms.drop 1 else if p = 6 then ms else ms.take 1
def planN (c : GCluster) (t : GTx) (k : Nat) : List GCopyAt := if t.phase = 4 then copN c (wantsL t) true k else if t.phase = 6 then copN c (wantsL t) false k else ((wantsL t).take k).map (primP c)
theorem planN_succ {c : GCluster} (hok : ClusOk c) {t : GTx} (ht : TxIn c t) {k : Nat} (hk : k < (wantsL t).length) :
    (planN c t (k + 1)).map GCopyAt.machine = (planN c t k).map GCopyAt.machine ++ selL t.phase (placeM c ((wantsL t).getD k 0)) ∧ (planN c t (k + 1)).map GCopyAt.region = (planN c t k).map GCopyAt.region ++ List.replicate (selL t.phase (placeM c ((wantsL t).getD k 0))).length ((wantsL t).getD k 0) := by
  have hp := place_le hok (wants_in ht hk)
  unfold planN selL
  by_cases h4 : t.phase = 4
  · rw [if_pos h4, if_pos h4, if_pos h4, copN, List.map_append, List.map_append]
    obtain ⟨h1, h2⟩ := rowP_true_m (r := (wantsL t).getD k 0) (ms := placeM c ((wantsL t).getD k 0)) (Nat.le_refl _)
    rw [h1, h2, List.take_length, List.length_drop]
    exact ⟨rfl, rfl⟩
  · by_cases h6 : t.phase = 6
    · rw [if_neg h4, if_neg h4, if_neg h4, if_pos h6, if_pos h6, if_pos h6, copN, List.map_append, List.map_append]
      obtain ⟨h1, h2⟩ := rowP_false_m (r := (wantsL t).getD k 0) (ms := placeM c ((wantsL t).getD k 0)) (Nat.le_refl _)
      rw [h1, h2, List.take_length]
      exact ⟨rfl, rfl⟩
    · rw [if_neg h4, if_neg h4, if_neg h4, if_neg h6, if_neg h6, if_neg h6, take_succ_getD (z := 0) hk, List.map_append, List.map_append, List.map_append]
      have hl : ((placeM c ((wantsL t).getD k 0)).take 1).length = 1 := by rw [List.length_take]; omega
      rw [hl]
      refine ⟨?_, rfl⟩
      congr 1
      show [mAt c ((wantsL t).getD k 0).toNat 0] = (placeM c ((wantsL t).getD k 0)).take 1
      cases e : placeM c ((wantsL t).getD k 0) with
      | nil => rw [e] at hp; simp at hp
      | cons a l => unfold mAt; rw [show (c.places.getD ((wantsL t).getD k 0).toNat GPlace.z).machines = a :: l from e]; rfl
theorem drop_at (xs : List Int) (i : Nat) : cInt (xs.getD ((1 : Int).toNat + i) 0) = cInt ((xs.drop 1).getD i 0) := by
  show cInt (xs.getD (1 + i) 0) = _
  rw [List.getD_eq_getElem?_getD, List.getD_eq_getElem?_getD, List.getElem?_drop]
theorem planN_zero (c : GCluster) (t : GTx) (f : GCopyAt → Int) : (planN c t 0).map f = [] := by
  unfold planN
  split
  · rfl
  · split <;> rfl
theorem planN_all {c : GCluster} {t : GTx} (h : ¬ (t.phase = 3 ∨ t.phase = 1 ∨ t.phase = 7 ∨ t.phase = 9)) : planN c t (wantsL t).length = planL c t := by
  unfold planN planL
  rw [if_neg (show ¬ t.phase = 3 by omega), if_neg (show ¬ (t.phase = 1 ∨ t.phase = 7 ∨ t.phase = 9) by omega), List.take_length]
  rfl
theorem planN_le {c : GCluster} (hok : ClusOk c) {t : GTx} (ht : TxIn c t) {k : Nat} (hk : k ≤ (wantsL t).length) : (planN c t k).length ≤ 36 := by
  have h1 := wants_le ht.ok
  have h2 := fun b => copN_le hok (ws := wantsL t) (fun k hk => wants_in ht hk) (b := b) hk
  unfold planN
  split
  · have := h2 true; omega
  · split
    · have := h2 false; omega
    · rw [List.length_map, List.length_take]; omega
theorem planL_none {c : GCluster} {t : GTx} (h : t.phase = 1 ∨ t.phase = 7 ∨ t.phase = 9) : planL c t = [] := by
  unfold planL
  rw [if_neg (by omega), if_neg (by omega), if_neg (by omega), if_pos h]
set_option maxHeartbeats 1000000 in
theorem l10Plan_m (c : GCluster) (hok : ClusOk c) (n : Int) (ms : List GMachine) (ts : List GTx) (t : GTx) (ht : TxIn c t) :
    Con Tryz.prog 56 [] [vR (cCluster (cwt c n ms ts)), vR (cTx t)] [] (fun _ : Unit => True) (fun _ => [.a (.g 901), .a (.g 902)]) fun _ => [(901, arrC 1 cInt 0 ((planL c t).map GCopyAt.region)), (902, arrC 1 cInt 0 ((planL c t).map GCopyAt.machine))] := by
  have hs1 := ht.ok.1.2.2.2.2.2.1
  have hs2 := ht.ok.1.2.2.2.2.2.2
  have hwl := wants_le ht.ok
  refine con_enter Tryz.func56 rfl rfl rfl fun B0 r_ D_ w0 => ?_
  refine T_auto TT_ok rfl ?_
  refine RJ_bs TT_ok 14 (fun i => cInt (([] : List Int).getD i 0)) rfl rfl rfl rfl rfl rfl rfl (fun i hi => absurd hi (Nat.not_lt_zero _)) (mu1 := []) rfl rfl rfl ?_
  refine RJ_auto TT_ok rfl ?_
  refine RJ_bs TT_ok 15 (fun i => cInt (([] : List Int).getD i 0)) rfl rfl rfl rfl rfl rfl rfl (fun i hi => absurd hi (Nat.not_lt_zero _)) (mu1 := []) rfl rfl rfl ?_
  refine RJ_auto TT_ok rfl ?_
  refine RJ_C TT_ok (Con.sw 900 17 (l7WantsK_m ht.ok)) rfl rfl (SVs.imp_refl _) (fun _ => rfl) rfl rfl rfl fun _ _ => ?_
  refine RJ_auto TT_ok rfl ?_
  refine T_condE rfl (fun e3 => ?_) (fun e3 => ?_)
  · have hC : (checksL t).length ≤ 12 := Nat.le_trans (List.length_filter_le _ _) hs1
    have hP : planL c t = (checksL t).map fun n => primP c n.region := by unfold planL; rw [if_pos e3]
    refine T_auto TT_ok rfl ?_
    refine RJ_C TT_ok (Con.sw 900 23 (l7ChecksK_m ht.ok)) rfl rfl (SVs.imp_refl _) (fun _ => rfl) rfl rfl rfl fun _ _ => ?_
    refine RJ_auto TT_ok rfl ?_
    refine T_loopA (ι := Nat) (fun i => [(10, vI i), (6, .a (.g 14)), (7, .a (.g 15))]) (fun i => [(14, arrC 1 cInt 0 (((checksL t).take i).map GNote.region)), (15, arrC 1 cInt 0 (((checksL t).take i).map fun n => mAt c n.region.toNat 0))]) (fun i => i ≤ (checksL t).length) (fun i => (checksL t).length - i) 0 [14, 15] [14, 15] rfl rfl (Nat.zero_le _) (by repeat (first | exact trivial | refine And.intro ⟨_, rfl, SV.imp_refl _⟩ ?_)) ⟨⟨_, rfl, imp_list (sz := 1) (enc := cInt) (z := 0) (xs := []) rfl⟩, ⟨_, rfl, imp_list (sz := 1) (enc := cInt) (z := 0) (xs := []) rfl⟩, (by repeat (first | exact trivial | refine And.intro ⟨_, rfl, Ch.imp_refl _⟩ ?_))⟩ ?_
    intro i h1
    have hle : ((checksL t).take i).length ≤ i := by rw [List.length_take]; omega
    refine T_auto TT_ok rfl ?_
    refine T_condD rfl (fun e => ?_) (fun e => ?_)
    · have hi : i < (checksL t).length := by omega
      have hr := checksL_in ht hi
      have hp := place_le hok hr
      have hp0 : 0 < (c.places.getD ((checksL t).getD i GNote.z).region.toNat GPlace.z).machines.length := hp.1
      refine T_auto TT_ok rfl ?_
      refine RJ_bs TT_ok 36 (fun _ => cInt ((checksL t).getD i GNote.z).region) rfl rfl rfl rfl rfl rfl rfl (fun i hi => by rcases i with _ | i <;> first | rfl | omega) (mu1 := []) rfl rfl rfl ?_
      refine RJ_auto TT_ok rfl ?_
      refine RJ_appM TT_ok 14 36 37 rfl rfl rfl rfl rfl rfl rfl rfl rfl rfl rfl rfl ⟨by show ((((checksL t).take i).map GNote.region).length + 1) * 8 ≤ _; rw [List.length_map]; omega, by rw [List.length_map]; unfold maxL; omega⟩ ?_
      refine RJ_auto TT_ok rfl ?_
      refine T_drawL TT_ok [15] [0, 1, 2, 3, 4, 5, 6, 7, 8, 9, 10, 11, 12, 13, 14, 15] rfl rfl fun B0 H0 => ?_
      refine DJ_one 13 rfl (by kernel_rfl) (OJ_bs TT_ok 51 (fun _ => cInt (mAt c ((checksL t).getD i GNote.z).region.toNat 0)) rfl rfl rfl rfl rfl rfl rfl (fun j hj => by rcases j with _ | j <;> first | rfl | omega) (mu1 := []) rfl rfl rfl (SJ_dj ?_))
      refine DJ_one 14 rfl (by kernel_rfl) (OJ_appM TT_ok 15 51 52 rfl rfl rfl rfl rfl rfl rfl rfl rfl rfl rfl rfl ⟨by show ((((checksL t).take i).map fun n => mAt c n.region.toNat 0).length + 1) * 8 ≤ _; rw [List.length_map]; omega, by rw [List.length_map]; unfold maxL; omega⟩ (SJ_dj ?_))
      refine DJ_onL TT_ok [15] rfl ?_
      refine DJ_endA TT_ok rfl ?_
      refine X_view (V_sw 14 37) ?_
      refine X_view (V_sw 15 52) ?_
      exact X_inv (i + 1) hi (by omega) (by repeat (first | exact trivial | refine And.intro ⟨_, rfl, SV.imp_refl _⟩ ?_)) ⟨⟨_, rfl, imp_app1 (x := ((checksL t).getD i GNote.z).region) (by rw [take_succ_getD (z := GNote.z) hi, List.map_append]; rfl) rfl⟩, ⟨_, rfl, imp_app1 (x := mAt c ((checksL t).getD i GNote.z).region.toNat 0) (by rw [take_succ_getD (z := GNote.z) hi, List.map_append]; rfl) rfl⟩, (by repeat (first | exact trivial | refine And.intro ⟨_, rfl, Ch.imp_refl _⟩ ?_))⟩
    · have hi : i = (checksL t).length := by omega
      subst hi
      rw [List.take_length, hP, List.map_map, List.map_map]
      refine T_auto TT_ok rfl ?_
      refine T_view (V_sw 14 901) ?_
      refine T_view (V_sw 15 902) ?_
      refine T_ret TT_ok (()) [(4, none), (5, none)] rfl rfl ?_ ?_ ?_
      · exact SVs.imp_refl _
      · exact ⟨⟨_, rfl, Ch.imp_refl _⟩, ⟨_, rfl, Ch.imp_refl _⟩, trivial⟩
      · trivial
  have hend : ∀ p, t.phase = p → (p = 1 ∨ p = 7 ∨ p = 9) → planL c t = [] := fun p h1 h2 => planL_none (by omega)
  refine T_auto TT_ok rfl ?_
  refine T_joinA (ι := Unit) (fun _ => [(55, vB (decide (t.phase = 1 ∨ t.phase = 7 ∨ t.phase = 9)))]) (fun _ => []) (fun _ => True) [] [] rfl rfl ?_ ?_
  · refine T_condE rfl (fun e1 => ?_) (fun e1 => ?_)
    · refine T_auto TT_ok rfl ?_
      exact X_inv () trivial Nat.zero_lt_one ⟨⟨_, rfl, SV.imp_of (congrArg (fun b => SV.a (.v (.bool b))) (by rw [decide_eq_true (p := t.phase = 1 ∨ t.phase = 7 ∨ t.phase = 9) (.inl e1)]; exact beq_iff_eq.2 e1))⟩, (by repeat (first | exact trivial | refine And.intro ⟨_, rfl, SV.imp_refl _⟩ ?_))⟩ (by repeat (first | exact trivial | refine And.intro ⟨_, rfl, Ch.imp_refl _⟩ ?_))
    · refine T_auto TT_ok rfl ?_
      refine T_condE rfl (fun e7 => ?_) (fun e7 => ?_)
      · refine T_auto TT_ok rfl ?_
        exact X_inv () trivial Nat.zero_lt_one ⟨⟨_, rfl, SV.imp_of (congrArg (fun b => SV.a (.v (.bool b))) (by rw [decide_eq_true (p := t.phase = 1 ∨ t.phase = 7 ∨ t.phase = 9) (.inr (.inl e7))]; exact beq_iff_eq.2 e7))⟩, (by repeat (first | exact trivial | refine And.intro ⟨_, rfl, SV.imp_refl _⟩ ?_))⟩ (by repeat (first | exact trivial | refine And.intro ⟨_, rfl, Ch.imp_refl _⟩ ?_))
      · refine T_auto TT_ok rfl ?_
        exact X_inv () trivial Nat.zero_lt_one ⟨⟨_, rfl, SV.imp_of (congrArg (fun b => SV.a (.v (.bool b))) (by
          by_cases e9 : t.phase = 9
          · rw [decide_eq_true (p := t.phase = 1 ∨ t.phase = 7 ∨ t.phase = 9) (.inr (.inr e9))]; exact beq_iff_eq.2 e9
          · rw [decide_eq_false (p := t.phase = 1 ∨ t.phase = 7 ∨ t.phase = 9) (fun h => by omega)]; exact beq_eq_false_iff_ne.2 e9))⟩, (by repeat (first | exact trivial | refine And.intro ⟨_, rfl, SV.imp_refl _⟩ ?_))⟩ (by repeat (first | exact trivial | refine And.intro ⟨_, rfl, Ch.imp_refl _⟩ ?_))
  rintro ⟨⟩ _
  refine X_go TT_ok rfl ?_
  refine T_condD rfl (fun e => ?_) (fun e => ?_)
  · rw [planL_none e]
    refine T_auto TT_ok rfl ?_
    refine T_view (V_sw 14 901) ?_
    refine T_view (V_sw 15 902) ?_
    refine T_ret TT_ok (()) [(4, none), (5, none)] rfl rfl ?_ ?_ ?_
    · exact SVs.imp_refl _
    · exact ⟨⟨_, rfl, imp_list (sz := 1) (enc := cInt) (z := 0) (xs := []) rfl⟩, ⟨_, rfl, imp_list (sz := 1) (enc := cInt) (z := 0) (xs := []) rfl⟩, trivial⟩
    · trivial
  have hph : ¬ (t.phase = 3 ∨ t.phase = 1 ∨ t.phase = 7 ∨ t.phase = 9) := by
    have e3 : t.phase ≠ 3 := e3
    omega
  refine T_auto TT_ok rfl ?_
  refine T_loopA (ι := Nat) (fun k => [(11, vI k), (6, .a (.g 14)), (7, .a (.g 15))]) (fun k => [(14, arrC 1 cInt 0 ((planN c t k).map GCopyAt.region)), (15, arrC 1 cInt 0 ((planN c t k).map GCopyAt.machine))]) (fun k => k ≤ (wantsL t).length) (fun k => (wantsL t).length - k) 0 [14, 15] [14, 15] rfl rfl (Nat.zero_le _) (by repeat (first | exact trivial | refine And.intro ⟨_, rfl, SV.imp_refl _⟩ ?_)) ⟨⟨_, rfl, imp_list (sz := 1) (enc := cInt) (z := 0) (xs := []) (planN_zero c t GCopyAt.region).symm⟩, ⟨_, rfl, imp_list (sz := 1) (enc := cInt) (z := 0) (xs := []) (planN_zero c t GCopyAt.machine).symm⟩, (by repeat (first | exact trivial | refine And.intro ⟨_, rfl, Ch.imp_refl _⟩ ?_))⟩ ?_
  intro k h1
  refine T_auto TT_ok rfl ?_
  refine T_condD rfl (fun e => ?_) (fun e => ?_)
  · have hk : k < (wantsL t).length := by omega
    have hr := wants_in ht hk
    have hp := place_le hok hr
    have hle := planN_le hok ht (k := k) (by omega)
    obtain ⟨q1, q2⟩ := planN_succ hok ht hk
    have hsel : (selL t.phase (placeM c ((wantsL t).getD k 0))).length ≤ 3 := by
      unfold selL
      split
      · rw [List.length_drop]; omega
      · split
        · omega
        · rw [List.length_take]; omega
    have hp1 : 1 ≤ (c.places.getD ((wantsL t).getD k 0).toNat GPlace.z).machines.length ∧ (c.places.getD ((wantsL t).getD k 0).toNat GPlace.z).machines.length ≤ 3 := hp
    refine T_auto TT_ok rfl ?_
    refine T_drawL TT_ok [] [0, 1, 2, 3, 4, 5, 6, 7, 8, 9] rfl rfl fun B0 H0 => ?_
    refine DJ_endA TT_ok rfl ?_
    refine T_joinA (ι := Unit) (fun _ => [(12, vL 1 cInt 0 (selL t.phase (placeM c ((wantsL t).getD k 0))))]) (fun _ => []) (fun _ => True) [] [] rfl rfl ?_ ?_
    · refine T_condE rfl (fun e4 => ?_) (fun e4 => ?_)
      · refine T_auto TT_ok rfl ?_
        exact X_inv () trivial Nat.zero_lt_one ⟨⟨_, rfl, SV.imp_sl (by unfold selL; rw [if_pos e4, List.length_drop]; simp only [Int.toNat_natCast]; show _ = (c.places.getD ((wantsL t).getD k 0).toNat GPlace.z).machines.length - 1; omega) fun i hi => by unfold selL; rw [if_pos e4]; simp only [Int.toNat_natCast]; exact drop_at _ i⟩, (by repeat (first | exact trivial | refine And.intro ⟨_, rfl, SV.imp_refl _⟩ ?_))⟩ (by repeat (first | exact trivial | refine And.intro ⟨_, rfl, Ch.imp_refl _⟩ ?_))
      · refine T_auto TT_ok rfl ?_
        refine T_condE rfl (fun e6 => ?_) (fun e6 => ?_)
        · refine T_auto TT_ok rfl ?_
          exact X_inv () trivial Nat.zero_lt_one ⟨⟨_, rfl, SV.imp_sl (by unfold selL; rw [if_neg e4, if_pos e6]; simp only [Int.toNat_natCast]) fun i hi => by unfold selL; rw [if_neg e4, if_pos e6]; simp only [Int.toNat_natCast]⟩, (by repeat (first | exact trivial | refine And.intro ⟨_, rfl, SV.imp_refl _⟩ ?_))⟩ (by repeat (first | exact trivial | refine And.intro ⟨_, rfl, Ch.imp_refl _⟩ ?_))
        · refine T_auto TT_ok rfl ?_
          exact X_inv () trivial Nat.zero_lt_one ⟨⟨_, rfl, SV.imp_sl (by unfold selL; rw [if_neg e4, if_neg e6, List.length_take]; show (1 : Nat) = min 1 (c.places.getD ((wantsL t).getD k 0).toNat GPlace.z).machines.length; omega) fun i hi => by
            unfold selL
            have hi0 : i = 0 := by have hi : i < 1 := hi; omega
            subst hi0
            rw [if_neg e4, if_neg e6]
            simp only [Int.toNat_natCast]
            show cInt ((c.places.getD ((wantsL t).getD k 0).toNat GPlace.z).machines.getD 0 0) = cInt (((c.places.getD ((wantsL t).getD k 0).toNat GPlace.z).machines.take 1).getD 0 0)
            congr 1
            cases (c.places.getD ((wantsL t).getD k 0).toNat GPlace.z).machines <;> rfl⟩, (by repeat (first | exact trivial | refine And.intro ⟨_, rfl, SV.imp_refl _⟩ ?_))⟩ (by repeat (first | exact trivial | refine And.intro ⟨_, rfl, Ch.imp_refl _⟩ ?_))
    rintro ⟨⟩ _
    refine X_go TT_ok rfl ?_
    generalize hL : selL t.phase (placeM c ((wantsL t).getD k 0)) = L at hsel q1 q2 ⊢
    refine T_loopA (ι := Nat) (fun j => [(13, vI j), (6, .a (.g 14)), (7, .a (.g 15))]) (fun j => [(14, arrC 1 cInt 0 ((planN c t k).map GCopyAt.region ++ List.replicate j ((wantsL t).getD k 0))), (15, arrC 1 cInt 0 ((planN c t k).map GCopyAt.machine ++ L.take j))]) (fun j => j ≤ L.length) (fun j => L.length - j) 0 [14, 15] [14, 15] rfl rfl (Nat.zero_le _) (by repeat (first | exact trivial | refine And.intro ⟨_, rfl, SV.imp_refl _⟩ ?_)) ⟨⟨_, rfl, imp_list (by simp)⟩, ⟨_, rfl, imp_list (by simp)⟩, (by repeat (first | exact trivial | refine And.intro ⟨_, rfl, Ch.imp_refl _⟩ ?_))⟩ ?_
    intro j h2
    have hl1 : ((planN c t k).map GCopyAt.region ++ List.replicate j ((wantsL t).getD k 0)).length = (planN c t k).length + j := by simp
    have hl2 : ((planN c t k).map GCopyAt.machine ++ L.take j).length ≤ (planN c t k).length + j := by simp; omega
    refine T_auto TT_ok rfl ?_
    refine T_condD rfl (fun e2 => ?_) (fun e2 => ?_)
    · have hj : j < L.length := by omega
      refine T_auto TT_ok rfl ?_
      refine RJ_bs TT_ok 97 (fun _ => cInt ((wantsL t).getD k 0)) rfl rfl rfl rfl rfl rfl rfl (fun i hi => by rcases i with _ | i <;> first | rfl | omega) (mu1 := []) rfl rfl rfl ?_
      refine RJ_auto TT_ok rfl ?_
      refine RJ_appM TT_ok 14 97 98 rfl rfl rfl rfl rfl rfl rfl rfl rfl rfl rfl rfl ⟨by show (((planN c t k).map GCopyAt.region ++ List.replicate j ((wantsL t).getD k 0)).length + 1) * 8 ≤ _; omega, by unfold maxL; omega⟩ ?_
      refine RJ_auto TT_ok rfl ?_
      refine RJ_bs TT_ok 104 (fun _ => cInt (L.getD j 0)) rfl rfl rfl rfl rfl rfl rfl (fun i hi => by rcases i with _ | i <;> first | rfl | omega) (mu1 := []) rfl rfl rfl ?_
      refine RJ_auto TT_ok rfl ?_
      refine RJ_appM TT_ok 15 104 105 rfl rfl rfl rfl rfl rfl rfl rfl rfl rfl rfl rfl ⟨by show (((planN c t k).map GCopyAt.machine ++ L.take j).length + 1) * 8 ≤ _; omega, by unfold maxL; omega⟩ ?_
      refine RJ_auto TT_ok rfl ?_
      refine X_view (V_sw 14 98) ?_
      refine X_view (V_sw 15 105) ?_
      exact X_inv (j + 1) hj (by omega) (by repeat (first | exact trivial | refine And.intro ⟨_, rfl, SV.imp_refl _⟩ ?_)) ⟨⟨_, rfl, imp_app1 (x := (wantsL t).getD k 0) (by rw [List.append_assoc, ← List.replicate_succ']) rfl⟩, ⟨_, rfl, imp_app1 (x := L.getD j 0) (by rw [take_succ_getD (z := 0) hj, List.append_assoc]) rfl⟩, (by repeat (first | exact trivial | refine And.intro ⟨_, rfl, Ch.imp_refl _⟩ ?_))⟩
    · have hj : j = L.length := by omega
      subst hj
      refine T_auto TT_ok rfl ?_
      exact X_inv (k + 1) hk (by omega) (by repeat (first | exact trivial | refine And.intro ⟨_, rfl, SV.imp_refl _⟩ ?_)) ⟨⟨_, rfl, imp_list q2.symm⟩, ⟨_, rfl, imp_list (by rw [List.take_length]; exact q1.symm)⟩, (by repeat (first | exact trivial | refine And.intro ⟨_, rfl, Ch.imp_refl _⟩ ?_))⟩
  · have hk : k = (wantsL t).length := by omega
    subst hk
    rw [planN_all hph]
    refine T_auto TT_ok rfl ?_
    refine T_view (V_sw 14 901) ?_
    refine T_view (V_sw 15 902) ?_
    refine T_ret TT_ok (()) [(4, none), (5, none)] rfl rfl ?_ ?_ ?_
    · exact SVs.imp_refl _
    · exact ⟨⟨_, rfl, Ch.imp_refl _⟩, ⟨_, rfl, Ch.imp_refl _⟩, trivial⟩
    · trivial
end Go.Proofs.YtcikaknfogpeeaaGreat
namespace Go.Proofs.YtcikaknfogpeeaaGreat
open Go Go.RowKit
set_option linter.unusedVariables false
set_option linter.unusedSimpArgs false
set_option maxRecDepth 4000
theorem set_at {c : GCluster} {i : Nat} (hi : i < c.txs.length) (t : GTx) : (c.txs.set i t).getD (i : Int).toNat GTx.z = t := by
  simp [hi]
theorem imp_set2 {c : GCluster} {i : Nat} {t u : GTx} {l : List D} (hl : OwnI l (cTx u)) : (Ch.arr 7 (c.txs.set i t).length fun j => bif Nat.beq j (i : Int).toNat then l else cTx ((c.txs.set i t).getD j GTx.z)).imp (arrC 7 cTx GTx.z (c.txs.set i u)) :=
  Ch.imp_trans (imp_set hl) (imp_list (by simp))
set_option maxHeartbeats 1000000 in
theorem l10Through_k (c : GCluster) (hok : ClusOk c) (i : Nat) (hi : i < c.txs.length) (ms : List GMachine) (y : Int × GTx) (hx : TxIn c y.2) (hp : 2 ≤ y.2.phase ∧ y.2.phase ≤ 9) (hc : 0 ≤ y.1 ∧ y.1 ≤ 1000000) (hl : y.2.phase = 2 → y.1 < 1000000) :
    Con Tryz.prog 55 [900, 901, 902, 903] [.a (.p 900 0), vI i] [(900, .row (rowC (clk c y.1) 901 902 903)), (901, roC 1 cPlace GPlace.z c.places), (902, roC 4 cMachine GMachine.z ms), (903, arrC 7 cTx GTx.z (c.txs.set i y.2))]
      (fun _ : Unit => True) (fun _ => []) fun _ => [(900, .row (rowC (clk c (advP c y).1) 901 902 903)), (903, arrC 7 cTx GTx.z (c.txs.set i (advP c y).2))] := by
  have hs2 := hx.ok.1.2.2.2.2.2.2
  have hst := hx.ok.1.2.2.2.2.1
  refine con_enter Tryz.func55 rfl rfl rfl fun B0 r_ D_ w0 => ?_
  refine T_auto TT_ok rfl ?_
  refine T_loopA (ι := Nat × Int × Int × Int × Int) (fun _ => []) (fun z => [(900, .row (rowC (clk c z.2.1) 901 902 903)), (903, arrC 7 cTx GTx.z (c.txs.set i (tw y.2 z.2.2.1 z.2.2.2.1 z.2.2.2.2)))])
    (fun z => advF c z.1 (z.2.1, tw y.2 z.2.2.1 z.2.2.2.1 z.2.2.2.2) = advP c y ∧ 9 - z.2.2.1 < z.1 ∧ (2 ≤ z.2.2.1 ∧ z.2.2.1 ≤ 9) ∧ (0 ≤ z.2.2.2.1 ∧ z.2.2.2.1 ≤ 1000) ∧ (0 ≤ z.2.2.2.2 ∧ z.2.2.2.2 ≤ 1000000) ∧ (0 ≤ z.2.1 ∧ z.2.1 ≤ 1000000) ∧ (z.2.2.1 = 2 → z.2.1 < 1000000))
    (fun z => z.1) (8, y.1, y.2.phase, y.2.done, y.2.stamp) [900, 903] [] rfl rfl ⟨rfl, by show 9 - y.2.phase < ((8 : Nat) : Int); omega, hp, hx.ok.1.2.2.2.1, hst, hc, hl⟩ (by repeat (first | exact trivial | refine And.intro ⟨_, rfl, SV.imp_refl _⟩ ?_)) (by repeat (first | exact trivial | refine And.intro ⟨_, rfl, Ch.imp_refl _⟩ ?_)) ?_
  rintro ⟨n, k, p, d, s⟩ ⟨h1, h2, h3, h4, h5, h6, h7⟩
  dsimp only at h1 h2 h3 h4 h5 h6 h7 ⊢
  have hT : TxIn c (tw y.2 p d s) := hx.tw (by omega) h4 h5
  have hle := planL_le hok hT
  have hlen : (c.txs.set i (tw y.2 p d s)).length = c.txs.length := List.length_set
  have hget := set_at hi (tw y.2 p d s)
  refine T_auto TT_ok rfl ?_
  refine T_drawL TT_ok [] [0, 1, 2, 3, 4, 5, 6, 7, 8, 9, 10, 11] rfl rfl fun B0 H0 => ?_
  rw [hget]
  refine DJ_C 6 (Con.sw 901 14 (Con.sw 902 15 (l10Plan_m c hok k ms (c.txs.set i (tw y.2 p d s)) (tw y.2 p d s) hT))) rfl rfl rfl (SVs.imp_refl _) (fun _ => rfl) rfl rfl rfl fun _ _ => ?_
  refine DJ_onL TT_ok [7, 8, 9, 10, 11] rfl ?_
  refine DJ_endA TT_ok rfl ?_
  refine T_view (V_carve 903 (i : Int) 77 rfl rfl rfl rfl rfl rfl ⟨by omega, by omega⟩) ?_
  refine T_view (V_pe 4 rfl rfl rfl) ?_
  rw [hget]
  refine T_auto TT_ok rfl ?_
  refine T_cond rfl (fun e => ?_) (fun e => ?_)
  · have hA : advP c y = (k, tw y.2 p d s) := by
      rw [← h1]
      refine adv_stop (y := (k, tw y.2 p d s)) (show p = 7 ∨ p = 9 ∨ d < (planL c (tw y.2 p d s)).length from ?_) n
      simp only [List.length_map] at e
      cases c1 : p == 7 with
      | true => exact .inl (by simpa using c1)
      | false =>
        cases c2 : p == 9 with
        | true => exact .inr (.inl (by simpa using c2))
        | false =>
          have e : (bif (bif p == 7 then true else p == 9) then true else decide (d < ((planL c (tw y.2 p d s)).length : Int))) = true := e
          rw [c1, c2] at e
          exact .inr (.inr (of_decide_eq_true e))
    rw [hA]
    refine T_auto TT_ok rfl ?_
    refine T_view (V_uncarve 903 77 rfl rfl rfl rfl rfl rfl rfl) ?_
    refine T_ret TT_ok (()) [] rfl rfl ?_ ?_ ?_
    · exact SVs.imp_refl _
    · exact ⟨⟨_, rfl, Ch.imp_refl _⟩, ⟨_, rfl, imp_set2 (OwnI.refl _)⟩, trivial⟩
    · trivial
  have h79 : p ≠ 7 ∧ p ≠ 9 := by
    have e : (bif (bif p == 7 then true else p == 9) then true else decide (d < (((planL c (tw y.2 p d s)).map GCopyAt.region).length : Int))) = false := e
    refine ⟨fun h => ?_, fun h => ?_⟩
    · rw [h] at e; cases e
    · rw [h] at e; cases e
  have hns : ¬ stopP c (k, tw y.2 p d s).2 := fun h => by
    rcases h with h | h | h
    · exact h79.1 h
    · exact h79.2 h
    · have e : (bif (bif p == 7 then true else p == 9) then true else decide (d < (((planL c (tw y.2 p d s)).map GCopyAt.region).length : Int))) = false := e
      rw [List.length_map, beq_eq_false_iff_ne.2 h79.1, beq_eq_false_iff_ne.2 h79.2] at e
      exact of_decide_eq_false e h
  obtain ⟨m, rfl⟩ : ∃ m, n = m + 1 := ⟨n - 1, by omega⟩
  rw [adv_go hns] at h1
  have go : ∀ (p' k' s' : Int), (p = 2 → k' = k + 1 ∧ s' = k + 1) → (p ≠ 2 → k' = k ∧ s' = s) → p' = nextP (tw y.2 p d s) → advF c m (k', tw y.2 p' 0 s') = advP c y := fun p' k' s' g1 g2 g3 => by
    rw [← h1]
    congr 1
    unfold advS
    by_cases c2 : p = 2
    · obtain ⟨q1, q2⟩ := g1 c2
      rw [if_pos (show (k, tw y.2 p d s).2.phase = 2 from c2), if_pos (show (k, tw y.2 p d s).2.phase = 2 from c2), q1, q2, g3]
    · obtain ⟨q1, q2⟩ := g2 c2
      rw [if_neg (show ¬ (k, tw y.2 p d s).2.phase = 2 from c2), if_neg (show ¬ (k, tw y.2 p d s).2.phase = 2 from c2), q1, q2, g3]
  refine T_auto TT_ok rfl ?_
  refine T_condE rfl (fun e2 => ?_) (fun e2 => ?_)
  · have e2 : p = 2 := e2
    have hk := h7 e2
    refine T_auto TT_ok rfl ?_
    refine X_view (V_uncarve 903 77 rfl rfl rfl rfl rfl rfl rfl) ?_
    exact X_inv (m, k + 1, 3, 0, k + 1) ⟨go _ _ _ (fun _ => ⟨rfl, rfl⟩) (fun h => absurd e2 h) (by unfold nextP; rw [if_pos e2]), by dsimp only; omega, ⟨by dsimp only; omega, by dsimp only; omega⟩, ⟨by dsimp only; omega, by dsimp only; omega⟩, ⟨by dsimp only; omega, by dsimp only; omega⟩, ⟨by dsimp only; omega, by dsimp only; omega⟩, fun h => by dsimp only at h; omega⟩ (Nat.lt_succ_self m) (by repeat (first | exact trivial | refine And.intro ⟨_, rfl, SV.imp_refl _⟩ ?_)) ⟨⟨_, rfl, Ch.imp_refl _⟩, ⟨_, rfl, imp_set2 (OwnI.refl _)⟩, (by repeat (first | exact trivial | refine And.intro ⟨_, rfl, Ch.imp_refl _⟩ ?_))⟩
  have e2 : p ≠ 2 := e2
  have mk2 : ∀ p' : Int, p < p' → p' ≤ 9 → p' = nextP (tw y.2 p d s) → (fun z : Nat × Int × Int × Int × Int => advF c z.1 (z.2.1, tw y.2 z.2.2.1 z.2.2.2.1 z.2.2.2.2) = advP c y ∧ 9 - z.2.2.1 < z.1 ∧ (2 ≤ z.2.2.1 ∧ z.2.2.1 ≤ 9) ∧ (0 ≤ z.2.2.2.1 ∧ z.2.2.2.1 ≤ 1000) ∧ (0 ≤ z.2.2.2.2 ∧ z.2.2.2.2 ≤ 1000000) ∧ (0 ≤ z.2.1 ∧ z.2.1 ≤ 1000000) ∧ (z.2.2.1 = 2 → z.2.1 < 1000000)) (m, k, p', 0, s) := fun p' q1 q2 q3 =>
    ⟨go _ _ _ (fun h => absurd h e2) (fun _ => ⟨rfl, rfl⟩) q3, by dsimp only; omega, ⟨by dsimp only; omega, q2⟩, ⟨by dsimp only; omega, by dsimp only; omega⟩, h5, h6, fun h => by dsimp only at h; omega⟩
  refine T_auto TT_ok rfl ?_
  refine T_condE rfl (fun e3 => ?_) (fun e3 => ?_)
  · have e3 : p = 3 := e3
    refine T_auto TT_ok rfl ?_
    refine T_condE rfl (fun e4 => ?_) (fun e4 => ?_)
    · have e4 : (y.2.sets.length : Int) = 0 := e4
      refine T_auto TT_ok rfl ?_
      refine X_view (V_uncarve 903 77 rfl rfl rfl rfl rfl rfl rfl) ?_
      exact X_inv (m, k, 7, 0, s) (mk2 7 (by omega) (by omega) (by unfold nextP; rw [if_neg e2, if_pos e3, if_pos (show y.2.sets.length = 0 by omega)])) (Nat.lt_succ_self m) (by repeat (first | exact trivial | refine And.intro ⟨_, rfl, SV.imp_refl _⟩ ?_)) ⟨⟨_, rfl, Ch.imp_refl _⟩, ⟨_, rfl, imp_set2 (OwnI.refl _)⟩, (by repeat (first | exact trivial | refine And.intro ⟨_, rfl, Ch.imp_refl _⟩ ?_))⟩
    · have e4 : (y.2.sets.length : Int) ≠ 0 := e4
      refine T_auto TT_ok rfl ?_
      refine X_view (V_uncarve 903 77 rfl rfl rfl rfl rfl rfl rfl) ?_
      exact X_inv (m, k, 4, 0, s) (mk2 4 (by omega) (by omega) (by unfold nextP; rw [if_neg e2, if_pos e3, if_neg (show ¬ y.2.sets.length = 0 by omega)])) (Nat.lt_succ_self m) (by repeat (first | exact trivial | refine And.intro ⟨_, rfl, SV.imp_refl _⟩ ?_)) ⟨⟨_, rfl, Ch.imp_refl _⟩, ⟨_, rfl, imp_set2 (OwnI.refl _)⟩, (by repeat (first | exact trivial | refine And.intro ⟨_, rfl, Ch.imp_refl _⟩ ?_))⟩
  have e3 : p ≠ 3 := e3
  refine T_auto TT_ok rfl ?_
  refine T_condE rfl (fun e4 => ?_) (fun e4 => ?_)
  · have e4 : p = 4 := e4
    refine T_auto TT_ok rfl ?_
    refine X_view (V_uncarve 903 77 rfl rfl rfl rfl rfl rfl rfl) ?_
    exact X_inv (m, k, 5, 0, s) (mk2 5 (by omega) (by omega) (by unfold nextP; rw [if_neg e2, if_neg e3, if_pos e4])) (Nat.lt_succ_self m) (by repeat (first | exact trivial | refine And.intro ⟨_, rfl, SV.imp_refl _⟩ ?_)) ⟨⟨_, rfl, Ch.imp_refl _⟩, ⟨_, rfl, imp_set2 (OwnI.refl _)⟩, (by repeat (first | exact trivial | refine And.intro ⟨_, rfl, Ch.imp_refl _⟩ ?_))⟩
  have e4 : p ≠ 4 := e4
  refine T_auto TT_ok rfl ?_
  refine T_condE rfl (fun e5 => ?_) (fun e5 => ?_)
  · have e5 : p = 5 := e5
    refine T_auto TT_ok rfl ?_
    refine X_view (V_uncarve 903 77 rfl rfl rfl rfl rfl rfl rfl) ?_
    exact X_inv (m, k, 6, 0, s) (mk2 6 (by omega) (by omega) (by unfold nextP; rw [if_neg e2, if_neg e3, if_neg e4, if_pos e5])) (Nat.lt_succ_self m) (by repeat (first | exact trivial | refine And.intro ⟨_, rfl, SV.imp_refl _⟩ ?_)) ⟨⟨_, rfl, Ch.imp_refl _⟩, ⟨_, rfl, imp_set2 (OwnI.refl _)⟩, (by repeat (first | exact trivial | refine And.intro ⟨_, rfl, Ch.imp_refl _⟩ ?_))⟩
  have e5 : p ≠ 5 := e5
  refine T_auto TT_ok rfl ?_
  refine T_condE rfl (fun e6 => ?_) (fun e6 => ?_)
  · have e6 : p = 6 := e6
    refine T_auto TT_ok rfl ?_
    refine X_view (V_uncarve 903 77 rfl rfl rfl rfl rfl rfl rfl) ?_
    exact X_inv (m, k, 7, 0, s) (mk2 7 (by omega) (by omega) (by unfold nextP; rw [if_neg e2, if_neg e3, if_neg e4, if_neg e5, if_pos e6])) (Nat.lt_succ_self m) (by repeat (first | exact trivial | refine And.intro ⟨_, rfl, SV.imp_refl _⟩ ?_)) ⟨⟨_, rfl, Ch.imp_refl _⟩, ⟨_, rfl, imp_set2 (OwnI.refl _)⟩, (by repeat (first | exact trivial | refine And.intro ⟨_, rfl, Ch.imp_refl _⟩ ?_))⟩
  have e6 : p ≠ 6 := e6
  refine T_auto TT_ok rfl ?_
  refine T_condE rfl (fun e8 => ?_) (fun e8 => ?_)
  · have e8 : p = 8 := e8
    refine T_auto TT_ok rfl ?_
    refine X_view (V_uncarve 903 77 rfl rfl rfl rfl rfl rfl rfl) ?_
    exact X_inv (m, k, 9, 0, s) (mk2 9 (by omega) (by omega) (by unfold nextP; rw [if_neg e2, if_neg e3, if_neg e4, if_neg e5, if_neg e6])) (Nat.lt_succ_self m) (by repeat (first | exact trivial | refine And.intro ⟨_, rfl, SV.imp_refl _⟩ ?_)) ⟨⟨_, rfl, Ch.imp_refl _⟩, ⟨_, rfl, imp_set2 (OwnI.refl _)⟩, (by repeat (first | exact trivial | refine And.intro ⟨_, rfl, Ch.imp_refl _⟩ ?_))⟩
  · have e8 : p ≠ 8 := e8
    omega
end Go.Proofs.YtcikaknfogpeeaaGreat
