
/-
  Operations that make or turn arrays.
-/
import Derived.Test.YtiegllklalplnaaGreatW17c
namespace Go.Proofs.YtiegllklalplnaaGreat
open Go Go.RowKit
set_option linter.unusedVariables false
set_option linter.unusedSimpArgs false

def oneDs : List D → Bool
  | [] => true
  | .v x :: r => bif oneV x then oneDs r else false
  | _ :: r => oneDs r
def flatDs : List D → Option (List Value)
  | [] => some []
  | .v x :: r => match flatDs r with
    | some l => bif oneV x then some (x :: l) else none
    | none => none
  | _ :: _ => none
theorem oneDs_ok : ∀ {l : List D}, oneDs l = true → ∀ x ∈ l, ∀ v, x = .v v → oneV v = true
  | [], _, x, h, _, _ => by cases h
  | y :: r, h, x, hm, v, e => by
    cases y with
    | v u =>
      simp only [oneDs] at h
      cases c : oneV u with
      | false => rw [c] at h; cases h
      | true =>
        rw [c] at h
        cases hm with
        | head => injection e with e; rw [← e]; exact c
        | tail _ hm => exact oneDs_ok h x hm v e
    | sl sz n f =>
      cases hm with
      | head => cases e
      | tail _ hm => exact oneDs_ok (l := r) h x hm v e
    | pt l o =>
      cases hm with
      | head => cases e
      | tail _ hm => exact oneDs_ok (l := r) h x hm v e
theorem flatDs_ok : ∀ {l : List D} {m : List Value}, flatDs l = some m → l = m.map D.v ∧ ∀ u ∈ m, oneV u = true
  | [], m, h => by simp [flatDs] at h; subst h; exact ⟨rfl, fun u h => by cases h⟩
  | .v x :: r, m, h => by
    simp only [flatDs] at h
    cases c : flatDs r with
    | none => rw [c] at h; cases h
    | some l =>
      rw [c] at h
      simp only at h
      cases c2 : oneV x with
      | false => rw [c2] at h; cases h
      | true =>
        rw [c2] at h; simp at h; subst h
        obtain ⟨h1, h2⟩ := flatDs_ok c
        exact ⟨by rw [h1]; rfl, fun u hu => by cases hu with | head => exact c2 | tail _ hu => exact h2 u hu⟩
  | .sl _ _ _ :: _, _, h => by simp [flatDs] at h
  | .pt _ _ :: _, _, h => by simp [flatDs] at h
section
variable {E : Env} {B : BE} {mu mu' : Mu} {w : World} {H : Nat → PH} {TT : List TI} {fr fr' : Fr} {gf gf' : GF} {a : Act} {all rest : List Oper} {Q : Exit → Act → World → Prop} {o : Oper} {J : Act → World → Prop} {G : AG} {R : Exit → Act → World → Prop} {K : List KF}
theorem OJ_B {ι : Type} {ks nk : List Nat} {mu1 : Mu} {φ : ι → Prop} {res : ι → SV} {mu1' : ι → Mu} {t : Nat} {md : Mu}
    (hop : ∀ B a w H, FitsE E B H fr gf a → Mem E B mu w H → ∃ y v w' B' H', (execOp a.eval o).run E.P w = .ok (.value v) w' ∧ Ret1 E.P ks B (AllP E.r (keysO mu1) H) mu1 w (onlyK (keysO mu1) H) φ res mu1' y v w' B' H')
    (hg : o.guard = none) (hd : o.dst = some t) (ht : Nat.blt t E.N = true) (hgd : gdrop t gf = some gf') (hnk : ∀ y, keysOf (mu1' y) = nk) (hkeys : keysB ks nk mu1 fr gf mu E.A.ks G.ks = true) (hout : ∀ y, ((res y).inK (appK ks nk) && muIn (appK ks nk) (mu1' y)) = true)
    (hmd : mdropKs (appK (keysO mu1) nk) mu = some md) {fr' : Fr} {gf2 : GF} (hcut : cutKs (keysO mu1) fr gf' = some (fr', gf2))
    (k : ∀ y, φ y → SJ G J E ((t, res y) :: fr') gf2 (appM (mu1' y) md)) : OJ G E all Q J o fr gf mu := fun B a w H f m gg => by
  obtain ⟨y, v, w', B', H', h1, h2⟩ := hop B a w H f m
  refine one_val (wanted_none hg) h1 ?_
  rw [hd]
  exact back_J hgd (by simpa [Nat.blt_eq] using ht) f m gg hnk hkeys hout hmd hcut k h2
/-- a new array that holds what it holds -/
theorem Ret1.new {k' : Nat} {ks : List Nat} {s : PH} {mu1 : Mu} {H1 : Nat → PH} {sz n : Nat} {f : Nat → List D} {v : Value} {w w' : World} {h' : PH} {P : Program} (hs : Fit s w) (hk : hasK k' ks = false) (hds : ∀ j, hasK j (keysO mu1) = true → (H1 j).dj s) (h1 : oneV v = true) (h2 : D.own h' (.sl sz n f) v) (h3 : Fit h' w') (h4 : Keep (ownD mu1 H1) w w') (h5 : ∀ b o, h' b o ≠ none → ownD mu1 H1 b o ∨ w.heap.size ≤ b) :
    Ret1 P ks B s mu1 w H1 (fun _ : Unit => True) (fun _ => .a (.g k')) (fun _ => [(k', .arr sz n f)]) () v w' (BE.set B k' v) (fun j => if j = k' then h' else PH.emp) := by
  have hfs : Fit s w' := hs.keep h4 fun b o e ⟨j, j1, j2⟩ => by
    rcases hds j j1 b o with h | h
    · exact j2 h
    · exact e h
  refine ⟨trivial, ⟨(BE.set_eq B k' v).symm, h1⟩, ⟨fun k c e => ?_, fun k => ?_, fun i j hij => ?_, fun k => ?_, hfs⟩, fun k hk2 => ?_, h4, fun k b o e => ?_⟩
  · rw [mlk_cons] at e
    by_cases h : k' = k
    · subst h
      rw [if_pos rfl] at e
      injection e with e
      subst e
      rw [if_pos rfl]
      show D.own h' _ (BE.set B _ v _)
      rw [BE.set_eq]; exact h2
    · rw [if_neg h] at e; cases e
  · split
    · exact h3
    · exact Fit.emp w'
  · by_cases h : i = k'
    · rw [if_pos h, if_neg (fun e => hij (h.trans e.symm))]; exact PH.dj_emp _
    · rw [if_neg h]; exact PH.emp_dj _
  · split
    · intro b o
      cases e : s b o with
      | none => exact .inr rfl
      | some u =>
        left
        cases e2 : h' b o with
        | none => rfl
        | some u2 =>
          rcases h5 b o (by rw [e2]; simp) with ⟨j, j1, j2⟩ | h
          · rcases hds j j1 b o with h | h
            · exact absurd h j2
            · rw [e] at h; cases h
          · have := hs.lt (b := b) (o := o) (by rw [e]; simp)
            omega
    · exact PH.emp_dj _
  · exact BE.set_ne B v fun e => by rw [e, hk] at hk2; cases hk2
  · by_cases h : k = k'
    · rw [if_pos h] at e; exact h5 b o e
    · rw [if_neg h] at e; exact absurd rfl e
theorem onlyK_dj (m : Mem E B mu w H) (ko : List Nat) : ∀ j, hasK j ko = true → (onlyK ko H j).dj (AllP E.r ko H) := fun j hj => by
  unfold onlyK; rw [hj]; exact AllP_dj m.mm hj
theorem zero_sz {te : TI} (hz : (vcells te.zero).map (·.length) = some te.sz) : te.zero.cells.size = te.sz := by
  have h := V.rels_length (vcellsL_rel (B := fun _ => undef) (Z := fun _ => PH.emp) te.zero)
  rw [vcells_eq] at hz
  simp only [Option.map_some, Option.some.injEq] at hz
  rw [← hz, ← h, Array.length_toList]
/-- append: another array's elements come along -/
theorem OJ_appM (hT : TOk E.P TT) (k kb k' : Nat) {t0 ts tx : Nat} {s x : Operand} {n m : Nat} {f g : Nat → List D} {id sz1 by1 e : Nat} {z : Value} {ef : Bool} {te ti2 : TI} {md : Mu} {fr' : Fr} {gf2 : GF}
    (hop : o.op = .call { callee := .builtin .append, args := #[s, x], argTypes := #[ts, tx] }) (hs : ev [] fr gf s = some (.a (.g k))) (hx : ev [] fr gf x = some (.a (.g kb))) (h1 : tlk ts TT = some ⟨id, sz1, by1, .slc e, z, ef⟩) (h2 : tlk e TT = some te) (h3 : tlk tx TT = some ti2) (h4 : ti2.kind = .slc e) (hk : mlk k mu = some (.arr te.sz n f)) (hkb : mlk kb mu = some (.arr te.sz m g)) (hgd : gdrop t0 gf = some gf')
    (hmd : mdropKs [k, kb, k'] mu = some md) (hcut : cutKs [k, kb] fr gf' = some (fr', gf2)) (hb : (n + m) * te.by_ ≤ 140737488355328 ∧ n + m ≤ maxL)
    (kk : SJ G J E ((t0, .a (.g k')) :: fr') gf2 ((k', .arr te.sz (n + m) (appD n f g)) :: md)) (hone : ∀ i, i < m → oneDs (g i) = true := by exact fun _ _ => rfl) (hz : (vcells te.zero).map (·.length) = some te.sz := by exact rfl) (hpos : 0 < te.sz := by exact Nat.lt_of_sub_eq_succ rfl) (hkeys : keysB [k, kb] [k'] [(k, .arr te.sz n f), (kb, .arr te.sz m g)] fr gf mu E.A.ks G.ks = true := by exact rfl) (hne : (Nat.beq k kb || hasK k' [k, kb]) = false := by exact rfl)
    (hg : o.guard = none := by exact rfl) (hd : o.dst = some t0 := by exact rfl) (ht : Nat.blt t0 E.N = true := by exact rfl) : OJ G E all Q J o fr gf mu := by
  simp only [Bool.or_eq_false_iff] at hne
  refine OJ_B (ι := Unit) (ks := [k, kb]) (nk := [k']) (mu1 := [(k, .arr te.sz n f), (kb, .arr te.sz m g)]) (φ := fun _ => True) (res := fun _ => .a (.g k')) (mu1' := fun _ => [(k', .arr te.sz (n + m) (appD n f g))]) (fun B a w H ff mm => ?_) hg hd ht hgd (fun _ => rfl) hkeys (fun _ => ?_) hmd hcut fun _ _ => kk
  · obtain ⟨t1, t2⟩ := hT.get h1
    obtain ⟨d, d1, d2⟩ := t2.desc
    simp only at t1 d1 d2
    subst t1
    obtain rfl := shapeK_slc d2
    obtain ⟨u1, u2⟩ := hT.get h2
    subst u1
    obtain ⟨v1, v2⟩ := hT.get h3
    obtain ⟨dx, dx1, dx2⟩ := v2.desc
    rw [h4] at dx2
    obtain rfl := shapeK_slc dx2
    rw [v1] at dx1
    have e1 : a.eval s = B k := (show _ ∧ _ from ff.ev (g := []) (fun _ _ hm => by cases hm) hs).1
    have e2 : a.eval x = B kb := (show _ ∧ _ from ff.ev (g := []) (fun _ _ hm => by cases hm) hx).1
    have sk : D.own (H k) (.sl te.sz n f) (B k) := mm.mm.sat k _ hk
    obtain ⟨Ax, cx, rx, hcx, hpx, Gx, bx, q1, va, lcx, lpx, dcpx, q2, q3, q4⟩ := own_VA (show D.own (H kb) (.sl te.sz m g) (B kb) from mm.mm.sat kb _ hkb)
    have hdd : (H k).dj (H kb) := mm.mm.dj k kb (beq_ne hne.1)
    have src : Src E.P te.sz tx (B kb) m (flatR rx m) w := by
      rw [bx]
      refine Src_rd dx1 (fun h0 => ?_) ((mm.mm.fit kb).le lcx) hpos fun i hi => owns_one (q2 i hi).1 (oneDs_ok (hone i hi))
      obtain ⟨b, o, e, _⟩ := va.2.1 0 h0
      refine ⟨b, o, e, fun i hi => ?_⟩
      obtain ⟨b', o', e', g1, g2⟩ := va.2.1 i hi
      rw [e] at e'
      injection e' with e'
      injection e' with e5 e6
      subst e5; subst e6
      exact ⟨g1, g2⟩
    obtain ⟨v, w', h', r1, r2, r3, r4, r5, r6⟩ := run_appD (P := E.P) (w := w) (ty := o.type) d1 u2 hpos (zero_sz hz) sk (mm.mm.fit k) src q2 (fun i _ => q3 i) q4 ((mm.mm.fit kb).le lpx) (PH.dj_le hdd (PH.le_refl _) lpx) hb.1 hb.2
    refine ⟨(), v, w', _, _, ?_, Ret1.new (AllP_fit mm.mm) hne.2 (onlyK_dj mm _) r2 r3 r4 (r5.mono fun b _ o h => ⟨k, by simp [keysO, Ch.own?, hasK, Nat.beq_refl], by unfold onlyK; simp only [keysO, Ch.own?, cond_true, hasK, Nat.beq_refl]; exact h⟩) fun b o h => ?_⟩
    · obtain ⟨dst, op, type, pos, after, guard⟩ := o
      simp only at hop r1
      subst hop
      simp only [execOp, resolve, Sem.run_bind, Sem.run_pure, Result.andThen_ok, invoke, builtin, List.map_toArray, List.map_cons, List.map_nil, e1, e2, r1]
    · rcases r6 b o h with h | h | h
      · exact .inl ⟨k, by simp [keysO, Ch.own?, hasK, Nat.beq_refl], by unfold onlyK; simp only [keysO, Ch.own?, cond_true, hasK, Nat.beq_refl]; exact h⟩
      · refine .inl ⟨kb, by simp [keysO, Ch.own?, hasK, Nat.beq_refl], ?_⟩
        unfold onlyK
        rw [show hasK kb (keysO [(k, .arr te.sz n f), (kb, .arr te.sz m g)]) = true from by simp [keysO, Ch.own?, hasK, Nat.beq_refl]]
        exact le_ne lpx h
      · exact .inr h
  · simp [SV.inK, V.inK, muIn, Ch.own?, Ch.rowL, allL, appK, hasK, Nat.beq_refl]
end
end Go.Proofs.YtiegllklalplnaaGreat
