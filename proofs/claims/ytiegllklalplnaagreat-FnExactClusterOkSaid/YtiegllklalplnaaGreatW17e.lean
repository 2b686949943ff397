
/-
  Views that take a chunk and give a chunk; clear; a slice against nil.
-/
import Derived.Test.YtiegllklalplnaaGreatW17d
namespace Go.Proofs.YtiegllklalplnaaGreat
open Go Go.RowKit
set_option linter.unusedVariables false
set_option linter.unusedSimpArgs false

theorem put_self {a : Act} {t : Nat} (h : t < a.tmps.size) : a.put (some t) (a.tmps.getD t undef) = a := by
  have : a.tmps.setIfInBounds t (a.tmps.getD t undef) = a.tmps := by
    apply Array.ext_getElem?
    intro i
    rw [Array.getElem?_setIfInBounds]
    split
    · rename_i e; subst e; simp [h]
    · rfl
  simp only [Act.put]
  rw [this]
def zsD (z : Value) : List D := z.cells.toList.map D.v
section
variable {E : Env} {B : BE} {mu mu' : Mu} {w : World} {H : Nat → PH} {TT : List TI} {fr fr' : Fr} {gf gf' : GF} {a : Act} {all rest : List Oper} {Q : Exit → Act → World → Prop} {o : Oper} {J : Act → World → Prop} {G : AG} {R : Exit → Act → World → Prop} {K : List KF}
/-- an operation without a place for its value; what is known of slot t is forgotten -/
theorem OJ_B0 {ι : Type} {ks nk : List Nat} {mu1 : Mu} {φ : ι → Prop} {res : ι → SV} {mu1' : ι → Mu} (t : Nat) {md : Mu}
    (hop : ∀ B a w H, FitsE E B H fr gf a → Mem E B mu w H → ∃ y v w' B' H', (execOp a.eval o).run E.P w = .ok (.value v) w' ∧ Ret1 E.P ks B (AllP E.r (keysO mu1) H) mu1 w (onlyK (keysO mu1) H) φ res mu1' y (a.tmps.getD t undef) w' B' H')
    (hg : o.guard = none) (hd : o.dst = none) (ht : Nat.blt t E.N = true) (hgd : gdrop t gf = some gf') (hnk : ∀ y, keysOf (mu1' y) = nk) (hkeys : keysB ks nk mu1 fr gf mu E.A.ks G.ks = true) (hout : ∀ y, ((res y).inK (appK ks nk) && muIn (appK ks nk) (mu1' y)) = true)
    (hmd : mdropKs (appK (keysO mu1) nk) mu = some md) {fr' : Fr} {gf2 : GF} (hcut : cutKs (keysO mu1) fr gf' = some (fr', gf2))
    (k : ∀ y, φ y → SJ G J E ((t, res y) :: fr') gf2 (appM (mu1' y) md)) : OJ G E all Q J o fr gf mu := fun B a w H f m gg => by
  obtain ⟨y, v, w', B', H', h1, h2⟩ := hop B a w H f m
  refine one_val (wanted_none hg) h1 ?_
  rw [hd]
  have ht : t < E.N := by simpa [Nat.blt_eq] using ht
  have := back_J hgd ht f m gg hnk hkeys hout hmd hcut k h2
  rw [put_self (by rw [f.size]; exact ht)] at this
  exact this
/-- the world lies still: slot t and a chunk are told anew -/
theorem V_B {ks nk : List Nat} {mu1 : Mu} {res : SV} {mu1' : Mu} (t : Nat) {md : Mu}
    (hop : ∀ B a w H, FitsE E B H fr gf a → Mem E B mu w H → ∃ B' H', Ret1 E.P ks B (AllP E.r (keysO mu1) H) mu1 w (onlyK (keysO mu1) H) (fun _ : Unit => True) (fun _ => res) (fun _ => mu1') () (a.tmps.getD t undef) w B' H')
    (ht : Nat.blt t E.N = true) (hgd : gdrop t gf = some gf') (hnk : keysOf mu1' = nk) (hkeys : keysB ks nk mu1 fr gf mu E.A.ks [] = true) (hout : (res.inK (appK ks nk) && muIn (appK ks nk) mu1') = true)
    (hmd : mdropKs (appK (keysO mu1) nk) mu = some md) {fr' : Fr} {gf2 : GF} (hcut : cutKs (keysO mu1) fr gf' = some (fr', gf2)) : View E fr gf mu ((t, res) :: fr') gf2 (appM mu1' md) := fun B w H a f m => by
  obtain ⟨B', H', h2⟩ := hop B a w H f m
  have ht : t < E.N := by simpa [Nat.blt_eq] using ht
  have := back_J (J := fun a w => ∃ B H, FitsE E B H ((t, res) :: fr') gf2 a ∧ Mem E B (appM mu1' md) w H) hgd ht f m (AG.nil_ok B H) (fun _ => hnk) hkeys (fun _ => hout) hmd hcut (fun y _ B a w H f m _ => ⟨B, H, f, m⟩) h2
  rw [put_self (by rw [f.size]; exact ht)] at this
  exact this
theorem V_imp (k : Nat) {c c' : Ch} (hk : mlk k mu = some c) (h : c.imp c') (hmu : mset k c' mu = some mu') : View E fr gf mu fr gf mu' := fun B w H a f m =>
  ⟨B, H, f, ⟨⟨fun j d e => by
    rw [mset_spec hmu j] at e
    by_cases hj : j = k
    · rw [if_pos hj] at e; injection e with e; subst e; subst hj; exact h _ _ _ _ (m.mm.sat j c hk)
    · rw [if_neg hj] at e; exact m.mm.sat j d e, m.mm.fit, m.mm.dj, m.mm.djr, m.mm.fitr⟩, m.keep, m.dom, m.anch⟩⟩
theorem onlyK_self (k : Nat) {ko : List Nat} (h : hasK k ko = true) (H : Nat → PH) : onlyK ko H k = H k := by unfold onlyK; rw [h]; rfl
theorem own_new {sz n : Nat} {f : Nat → List D} {y : Value} {h : PH} (e : D.own h (.sl sz n f) y) : oneV y = true := by obtain ⟨A, c, rfl, _⟩ := e; rfl
/-- a part of an own array becomes the whole -/
theorem own_cut {h : PH} {sz n : Nat} {f : Nat → List D} {y : Value} {lo hi : Int} (e : D.own h (.sl sz n f) y) (h1 : 0 ≤ lo) (h2 : lo ≤ hi) (h3 : hi ≤ n) : D.own h (.sl sz (hi - lo).toNat fun i => f (lo.toNat + i)) (sbV y sz lo.toNat (hi - lo).toNat) := by
  obtain ⟨A, c, rfl, e2, e3, e4⟩ := e
  refine ⟨_, _, rfl, by omega, by omega, ?_⟩
  by_cases hc : c = lo.toNat
  · exact .inl (by omega)
  rcases e4 with e4 | ⟨b, o, row, G, rfl, g1, g2, g3, g4, g5⟩
  · omega
  refine .inr ⟨b, o + lo.toNat * sz, fun i => row (lo.toNat + i), fun i => G (lo.toNat + i), ?_, fun i hi' => ?_, fun i hi1 hi2 j hj => ?_, fun i => g3 _, fun i j hij => g4 _ _ (by omega), fun i x x1 x2 => g5 _ _ (by omega) ?_⟩
  · rw [if_neg hc]; simp [add_mk]
  · obtain ⟨r1, r2, r3⟩ := g1 (lo.toNat + i) (by omega)
    refine ⟨r1, r2, fun j hj => ?_⟩
    have := r3 j hj
    rwa [Nat.add_mul, ← Nat.add_assoc] at this
  · by_cases hin : lo.toNat + i < n
    · obtain ⟨r1, r2, r3⟩ := g1 _ hin
      have := r3 j hj
      rw [Nat.add_mul, ← Nat.add_assoc] at this
      rw [this, List.getElem?_eq_getElem (by omega)]; simp
    · have := g2 (lo.toNat + i) (by omega) (by omega) j hj
      rwa [Nat.add_mul, ← Nat.add_assoc] at this
  · have : lo.toNat * sz + (c - lo.toNat) * sz = c * sz := by rw [← Nat.add_mul]; congr 1; omega
    omega
/-- slot t holds a part of own array k: it becomes an array of its own; what else was there of k is lost -/
theorem V_cut (t k k' : Nat) {sz n : Nat} {f : Nat → List D} {lo hi : Int} {md : Mu} {fr' : Fr} {gf2 : GF} (hx : mlk t fr = some (.a (.sb k sz lo hi))) (hg : glk t gf = none) (hk : mlk k mu = some (.arr sz n f)) (hb : 0 ≤ lo ∧ lo ≤ hi ∧ hi ≤ n)
    (hgd : gdrop t gf = some gf') (hmd : mdropKs [k, k'] mu = some md) (hcut : cutKs [k] fr gf' = some (fr', gf2)) (ht : Nat.blt t E.N = true := by exact rfl) (hkeys : keysB [k] [k'] [(k, .arr sz n f)] fr gf mu E.A.ks [] = true := by exact rfl) (hne : hasK k' [k] = false := by exact rfl) :
    View E fr gf mu ((t, .a (.g k')) :: fr') gf2 ((k', .arr sz (hi - lo).toNat fun i => f (lo.toNat + i)) :: md) := by
  refine V_B (ks := [k]) (nk := [k']) (mu1 := [(k, .arr sz n f)]) (res := .a (.g k')) (mu1' := [(k', .arr sz (hi - lo).toNat fun i => f (lo.toNat + i))]) t (fun B a w H ff m => ?_) ht hgd rfl hkeys ?_ hmd hcut
  · have sk : D.own (H k) (.sl sz n f) (B k) := m.mm.sat k _ hk
    have e1 : a.tmps.getD t undef = _ ∧ _ := ff.vfr t _ hx hg
    rw [e1.1]
    refine ⟨_, _, Ret1.new (AllP_fit m.mm) hne (onlyK_dj m _) (own_new (own_cut sk hb.1 hb.2.1 hb.2.2)) (own_cut sk hb.1 hb.2.1 hb.2.2) (m.mm.fit k) (Keep.refl _ _) fun b o h => .inl ⟨k, by simp [keysO, Ch.own?, hasK, Nat.beq_refl], by rw [onlyK_self k (by simp [keysO, Ch.own?, hasK, Nat.beq_refl])]; exact h⟩⟩
  · simp [SV.inK, V.inK, muIn, Ch.own?, Ch.rowL, allL, appK, hasK, Nat.beq_refl]
/-- slot t names own array k: it goes by another key from now on -/
theorem V_ren (t k k' : Nat) {sz n : Nat} {f : Nat → List D} {md : Mu} {fr' : Fr} {gf2 : GF} (hx : mlk t fr = some (.a (.g k))) (hg : glk t gf = none) (hk : mlk k mu = some (.arr sz n f))
    (hgd : gdrop t gf = some gf') (hmd : mdropKs [k, k'] mu = some md) (hcut : cutKs [k] fr gf' = some (fr', gf2)) (ht : Nat.blt t E.N = true := by exact rfl) (hkeys : keysB [k] [k'] [(k, .arr sz n f)] fr gf mu E.A.ks [] = true := by exact rfl) (hne : hasK k' [k] = false := by exact rfl) :
    View E fr gf mu ((t, .a (.g k')) :: fr') gf2 ((k', .arr sz n f) :: md) := by
  refine V_B (ks := [k]) (nk := [k']) (mu1 := [(k, .arr sz n f)]) (res := .a (.g k')) (mu1' := [(k', .arr sz n f)]) t (fun B a w H ff m => ?_) ht hgd rfl hkeys ?_ hmd hcut
  · have sk : D.own (H k) (.sl sz n f) (B k) := m.mm.sat k _ hk
    have e1 : a.tmps.getD t undef = _ ∧ _ := ff.vfr t _ hx hg
    rw [e1.1]
    refine ⟨_, _, Ret1.new (AllP_fit m.mm) hne (onlyK_dj m _) (own_new sk) sk (m.mm.fit k) (Keep.refl _ _) fun b o h => .inl ⟨k, by simp [keysO, Ch.own?, hasK, Nat.beq_refl], by rw [onlyK_self k (by simp [keysO, Ch.own?, hasK, Nat.beq_refl])]; exact h⟩⟩
  · simp [SV.inK, V.inK, muIn, Ch.own?, Ch.rowL, allL, appK, hasK, Nat.beq_refl]
/-- slot t holds nil: an array of no elements -/
theorem V_nil (t k' sz : Nat) (f : Nat → List D) {A : Option Addr} {md : Mu} (hx : mlk t fr = some (.a (.v (.slice A 0 0)))) (hg : glk t gf = none)
    (hgd : gdrop t gf = some gf') (hmd : mdropKs [k'] mu = some md) (ht : Nat.blt t E.N = true := by exact rfl) (hkeys : keysB [] [k'] [] fr gf mu E.A.ks [] = true := by exact rfl) :
    View E fr gf mu ((t, .a (.g k')) :: fr) gf' ((k', .arr sz 0 f) :: md) := by
  refine V_B (ks := []) (nk := [k']) (mu1 := []) (res := .a (.g k')) (mu1' := [(k', .arr sz 0 f)]) t (fun B a w H ff m => ?_) ht hgd rfl hkeys ?_ hmd rfl
  · have e1 : a.tmps.getD t undef = _ := ff.vfr t _ hx hg
    rw [e1]
    exact ⟨_, _, Ret1.new (AllP_fit m.mm) rfl (onlyK_dj m _) rfl (h' := PH.emp) ⟨A, 0, rfl, Nat.le_refl _, Nat.zero_le _, .inl rfl⟩ (Fit.emp _) (Keep.refl _ _) fun b o h => absurd rfl h⟩
  · simp [SV.inK, V.inK, muIn, Ch.own?, Ch.rowL, allL, appK, hasK, Nat.beq_refl]
/-- the chunk is changed in its place -/
theorem Ret1.sameK {k : Nat} {s : PH} {c c' : Ch} {H1 : Nat → PH} {v : Value} {w w' : World} {h' : PH} {P : Program} (hs : Fit s w) (hc : keysO [(k, c)] = [k]) (hds : ∀ j, hasK j (keysO [(k, c)]) = true → (H1 j).dj s) (h2 : c'.sat B s h' k) (h3 : Fit h' w') (h4 : Keep (fun b o => H1 k b o ≠ none) w w') (h5 : ∀ b o, h' b o ≠ none → H1 k b o ≠ none ∨ w.heap.size ≤ b) :
    Ret1 P [k] B s [(k, c)] w H1 (fun _ : Unit => True) (fun _ => .a .any) (fun _ => [(k, c')]) () v w' B (fun j => if j = k then h' else PH.emp) := by
  have kk : hasK k (keysO [(k, c)]) = true := by rw [hc]; simp [hasK, Nat.beq_refl]
  have hfs : Fit s w' := hs.keep h4 fun b o e h => by
    rcases hds k kk b o with h' | h'
    · exact h h'
    · exact e h'
  refine ⟨trivial, trivial, ⟨fun j d e => ?_, fun k => ?_, fun i j hij => ?_, fun j => ?_, hfs⟩, fun _ _ => rfl, h4.mono fun b _ o h => ⟨k, kk, h⟩, fun j b o e => ?_⟩
  · rw [mlk_cons] at e
    by_cases h : k = j
    · subst h
      rw [if_pos rfl] at e
      injection e with e
      subst e
      rw [if_pos rfl]; exact h2
    · rw [if_neg h] at e; cases e
  · split
    · exact h3
    · exact Fit.emp w'
  · by_cases h : i = k
    · rw [if_pos h, if_neg (fun e => hij (h.trans e.symm))]; exact PH.dj_emp _
    · rw [if_neg h]; exact PH.emp_dj _
  · split
    · intro b o
      cases e : s b o with
      | none => exact .inr rfl
      | some u =>
        left
        cases e2 : h' b o with
        | none => rfl
        | some u2 =>
          rcases h5 b o (by rw [e2]; simp) with h | h
          · rcases hds k kk b o with h' | h'
            · exact absurd h' h
            · rw [e] at h'; cases h'
          · have := hs.lt (b := b) (o := o) (by rw [e]; simp)
            omega
    · exact PH.emp_dj _
  · by_cases h : j = k
    · rw [if_pos h] at e
      rcases h5 b o e with h | h
      · exact .inl ⟨k, kk, h⟩
      · exact .inr h
    · rw [if_neg h] at e; exact absurd rfl e
theorem zeroCells_get {z : Array Value} {n i j : Nat} (hi : i < n) (hj : j < z.size) : (Builtin.zeroCells z n).toList[i * z.size + j]? = z.toList[j]? := by
  have h1 : (i + 1) * z.size ≤ n * z.size := Nat.mul_le_mul_right _ hi
  rw [Nat.add_mul, Nat.one_mul] at h1
  have h2 : (i * z.size + j) % z.size = j := by rw [Nat.mul_comm, Nat.mul_add_mod]; exact Nat.mod_eq_of_lt hj
  simp only [Builtin.zeroCells, Array.toList_map, List.getElem?_map, Array.toList_range, List.getElem?_range (show i * z.size + j < n * z.size by omega), Option.map_some, h2]
  simp [hj]
theorem zeroCells_mem {z : Array Value} {n : Nat} {v : Value} (h : v ∈ (Builtin.zeroCells z n).toList) : v ∈ z.toList := by
  simp only [Builtin.zeroCells, Array.toList_map, List.mem_map] at h
  obtain ⟨i, hi, rfl⟩ := h
  have hi : i < n * z.size := by simpa using hi
  have hz : 0 < z.size := by
    rcases Nat.eq_zero_or_pos z.size with h | h
    · rw [h] at hi; omega
    · exact h
  have : i % z.size < z.size := Nat.mod_lt _ hz
  simp [this]
/-- zeros are laid over elements lo .. hi of an own array -/
theorem own_clear {h : PH} {sz n : Nat} {f : Nat → List D} {A : Option Addr} {m c : Nat} {lo hi : Int} {z : Value} (e : D.own h (.sl sz n f) (.slice A m c)) (h1 : 0 ≤ lo) (h2 : lo ≤ hi) (h3 : hi ≤ n) (hpos : lo < hi) (hz : z.cells.size = sz) (hsz : 0 < sz) :
    ∃ b o, A = some ⟨b, o, none⟩ ∧ (∀ j, j < (Builtin.zeroCells z.cells (hi - lo).toNat).toList.length → h b (o + lo.toNat * sz + j) ≠ none) ∧
      D.own (h.updL b (o + lo.toNat * sz) (Builtin.zeroCells z.cells (hi - lo).toNat).toList) (.sl sz n fun (i : Nat) => if lo ≤ (i : Int) ∧ (i : Int) < hi then zsD z else f i) (.slice A m c) := by
  obtain ⟨A', c', e1, e2, e3, e4⟩ := e
  injection e1 with e5 e6 e7
  subst e5; subst e6; subst e7
  rcases e4 with e4 | ⟨b, o, row, G, rfl, g1, g2, g3, g4, g5⟩
  · omega
  have hl : (Builtin.zeroCells z.cells (hi - lo).toNat).toList.length = (hi - lo).toNat * sz := by rw [Array.length_toList, size_zeroCells, hz]
  have hin : ∀ j, j < (hi - lo).toNat * sz → ∃ i p, i < (hi - lo).toNat ∧ p < sz ∧ j = i * sz + p := fun j hj =>
    ⟨j / sz, j % sz, Nat.div_lt_of_lt_mul (by rwa [Nat.mul_comm]), Nat.mod_lt _ hsz, by rw [Nat.mul_comm]; exact (Nat.div_add_mod j sz).symm⟩
  have hcell : ∀ i p, i < (hi - lo).toNat → p < sz → o + lo.toNat * sz + (i * sz + p) = o + (lo.toNat + i) * sz + p := fun i p _ _ => by rw [Nat.add_mul]; omega
  have hlen : (hi - lo).toNat * sz + lo.toNat * sz ≤ m * sz := by rw [← Nat.add_mul]; exact Nat.mul_le_mul_right _ (by omega)
  refine ⟨b, o, rfl, fun j hj => ?_, ?_⟩
  · rw [hl] at hj
    obtain ⟨i, p, i1, i2, rfl⟩ := hin j hj
    rw [hcell i p i1 i2]
    obtain ⟨r1, r2, r3⟩ := g1 (lo.toNat + i) (by omega)
    rw [r3 p i2, List.getElem?_eq_getElem (by omega)]; simp
  · have Gle : ∀ i, (G i).le (h.updL b (o + lo.toNat * sz) (Builtin.zeroCells z.cells (hi - lo).toNat).toList) := fun i x y v hv => by
      rw [PH.updL_out]
      · exact g3 i x y v hv
      · rintro ⟨rfl, q1, q2⟩
        rw [hl] at q2
        have hcs : m * sz ≤ c * sz := Nat.mul_le_mul_right _ e2
        rw [g5 i y (by omega) (by omega)] at hv; cases hv
    refine ⟨_, c, rfl, e2, e3, .inr ⟨b, o, fun (i : Nat) => if lo ≤ (i : Int) ∧ (i : Int) < hi then z.cells.toList else row i, fun (i : Nat) => if lo ≤ (i : Int) ∧ (i : Int) < hi then PH.emp else G i, rfl, fun i hi' => ?_, fun i hi1 hi2 j hj => ?_, fun i => ?_, fun i j hij => ?_, fun i x x1 x2 => ?_⟩⟩
    · dsimp only
      by_cases c1 : lo ≤ (i : Int) ∧ (i : Int) < hi
      · rw [if_pos c1, if_pos c1, if_pos c1]
        refine ⟨flat_owns, by rw [Array.length_toList, hz], fun j hj => ?_⟩
        have hi2 : i - lo.toNat < (hi - lo).toNat := by omega
        have e := hcell (i - lo.toNat) j hi2 hj
        have hii : lo.toNat + (i - lo.toNat) = i := by omega
        have h4 : (i - lo.toNat + 1) * sz ≤ (hi - lo).toNat * sz := Nat.mul_le_mul_right _ hi2
        rw [Nat.add_mul, Nat.one_mul] at h4
        rw [hii] at e
        rw [← e, PH.updL_in _ _ _ _ (by rw [hl]; omega)]
        have := zeroCells_get (z := z.cells) hi2 (j := j) (by omega)
        rw [hz] at this
        exact this
      · rw [if_neg c1, if_neg c1, if_neg c1]
        obtain ⟨r1, r2, r3⟩ := g1 i hi'
        refine ⟨r1, r2, fun j hj => ?_⟩
        rw [PH.updL_out, r3 j hj]
        rintro ⟨_, q1, q2⟩
        rw [hl] at q2
        apply c1
        have k1 : lo.toNat ≤ i := by
          rcases Nat.lt_or_ge i lo.toNat with h | h
          · have := Nat.mul_le_mul_right sz (show i + 1 ≤ lo.toNat from h)
            rw [Nat.add_mul, Nat.one_mul] at this; omega
          · exact h
        have k2 : i < hi.toNat := by
          rcases Nat.lt_or_ge i hi.toNat with h | h
          · exact h
          · have := Nat.mul_le_mul_right sz h
            have e : hi.toNat * sz = lo.toNat * sz + (hi - lo).toNat * sz := by rw [← Nat.add_mul]; congr 1; omega
            omega
        omega
    · have := g2 i hi1 hi2 j hj
      rw [PH.updL_out]
      · exact this
      · rintro ⟨_, q1, q2⟩
        rw [hl] at q2
        have := Nat.mul_le_mul_right sz hi1
        omega
    · dsimp only
      split
      · exact PH.emp_le _
      · exact Gle i
    · dsimp only
      split
      · exact PH.emp_dj _
      · split
        · exact PH.dj_emp _
        · exact g4 i j hij
    · dsimp only
      split
      · rfl
      · exact g5 i x x1 x2
end
end Go.Proofs.YtiegllklalplnaaGreat
