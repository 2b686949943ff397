
/-
  Places, records, copies, machines, clusters; weights, marks, bounds.
-/
import Derived.Test.YtpfcfepbhdkpdaaGreatPB
import Derived.Test.YtpfcfepbhdkpdaaGreatPD
import Derived.Test.YtpfcfepbhdkpdaaGreatWG
namespace Go.Proofs.YtpfcfepbhdkpdaaGreat
open Go Go.RowKit
set_option linter.unusedVariables false
set_option linter.unusedSimpArgs false
set_option maxRecDepth 4000

structure GPlace where
  machines : List Int
def GPlace.z : GPlace := ⟨[]⟩
structure GRecord where
  kind : Int
  tx : Int
  region : Int
  sets : List GSet
def GRecord.z : GRecord := ⟨0, 0, 0, []⟩
structure GCopy where
  region : Int
  cells : List GCell
def GCopy.z : GCopy := ⟨0, []⟩
structure GMachine where
  alive : Bool
  copies : List GCopy
  log : List GRecord
  cleared : List Int
def GMachine.z : GMachine := ⟨false, [], [], []⟩
structure GCluster where
  config : Int
  clock : Int
  places : List GPlace
  machines : List GMachine
  txs : List GTx
  lost : Bool
def GCluster.z : GCluster := ⟨0, 0, [], [], [], false⟩
def cPlace (p : GPlace) : List D := [dL 1 cInt 0 p.machines]
def cRecord (r : GRecord) : List D := [dI r.kind, dI r.tx, dI r.region, dL 5 cSet GSet.z r.sets]
def cCopy (c : GCopy) : List D := [dI c.region, dL 2 cCell GCell.z c.cells]
def cMachine (m : GMachine) : List D := [dB m.alive, dL 2 cCopy GCopy.z m.copies, dL 4 cRecord GRecord.z m.log, dL 1 cInt 0 m.cleared]
def cCluster (c : GCluster) : List D := [dI c.config, dI c.clock, dL 1 cPlace GPlace.z c.places, dL 4 cMachine GMachine.z c.machines, dL 7 cTx GTx.z c.txs, dB c.lost]

/-! ### bounds -/
mutual
/-- all lists in it have at most N elements -/
def D.bd (N : Nat) : D → Prop
  | .v _ => True
  | .sl _ n f => n ≤ N ∧ ∀ i, i < n → D.bds N (f i)
  | .pt l _ => D.bds N l
def D.bds (N : Nat) : List D → Prop
  | [] => True
  | x :: r => D.bd N x ∧ D.bds N r
end
mutual
theorem D.rd_bd {h : PH} : ∀ (x : D) {y : Value}, D.rd h x y → D.bd maxL x
  | .v _, _, _ => trivial
  | .sl sz n f, y, e => by
    obtain ⟨A, c, e1, e2, e3, e4⟩ := e
    refine ⟨e3, fun i hi => ?_⟩
    rcases e4 with e4 | ⟨b, o, _, e6⟩
    · omega
    · obtain ⟨row, r1, _⟩ := e6 i hi
      exact D.rds_bd (f i) r1
  | .pt l o, y, e => by
    obtain ⟨b, x, vs, e1, e2, e3⟩ := e
    exact D.rds_bd l e2
theorem D.rds_bd {h : PH} : ∀ (x : List D) {y : List Value}, D.rds h x y → D.bds maxL x
  | [], _, _ => trivial
  | x :: r, y, e => by
    obtain ⟨a, t, e1, e2, e3⟩ := e
    exact ⟨D.rd_bd x e2, D.rds_bd r e3⟩
end

/-! ### weights -/
def sumW {α : Type} (w : α → Nat) : List α → Nat
  | [] => 0
  | x :: r => w x + sumW w r
section
variable {α : Type} {w : α → Nat} {z : α}
theorem sumW_append : ∀ (l m : List α), sumW w (l ++ m) = sumW w l + sumW w m
  | [], m => by simp [sumW]
  | x :: r, m => by simp [sumW, sumW_append r m]; omega
theorem sumW_take {xs : List α} {i : Nat} (h : i < xs.length) : sumW w (xs.take (i + 1)) = sumW w (xs.take i) + w (xs.getD i z) := by
  rw [take_succ_getD (z := z) h, sumW_append]; simp [sumW]
theorem sumW_take_le (xs : List α) (i : Nat) : sumW w (xs.take i) ≤ sumW w xs := by
  conv => rhs; rw [← List.take_append_drop i xs]
  rw [sumW_append]; omega
theorem sumW_get {xs : List α} {i : Nat} (h : i < xs.length) : w (xs.getD i z) ≤ sumW w xs := by
  have h1 := sumW_take (w := w) (z := z) h
  have h2 := sumW_take_le (w := w) xs (i + 1)
  omega
theorem sumW_bound {m : α → Nat} {c : Nat} (h : ∀ x, m x ≤ c * (1 + w x)) : ∀ xs : List α, sumW m xs ≤ c * (xs.length + sumW w xs)
  | [] => by simp [sumW]
  | x :: r => by
    have h1 := h x
    have h2 := sumW_bound h r
    simp only [sumW, List.length_cons]
    have : c * (r.length + 1 + (w x + sumW w r)) = c * (1 + w x) + c * (r.length + sumW w r) := by rw [← Nat.mul_add]; congr 1; omega
    omega
end
def wL {α : Type} (w : α → Nat) (xs : List α) : Nat := xs.length + sumW w xs
def wPlace (p : GPlace) : Nat := p.machines.length
def wRecord (r : GRecord) : Nat := r.sets.length
def wCopy (c : GCopy) : Nat := c.cells.length
def wMachine (m : GMachine) : Nat := wL wCopy m.copies + wL wRecord m.log + m.cleared.length
def wTx (t : GTx) : Nat := t.reads.length + t.sets.length
def wCluster (c : GCluster) : Nat := wL wPlace c.places + wL wMachine c.machines + wL wTx c.txs
/-- few enough to be counted -/
abbrev bigN : Nat := 1048576
theorem bd_flat {α : Type} {N sz : Nat} {enc : α → List D} {z : α} {xs : List α} (h : xs.length ≤ N) (hf : ∀ x, D.bds N (enc x)) : D.bd N (dL sz enc z xs) := ⟨h, fun _ _ => hf _⟩
theorem bd_list {α : Type} {N sz : Nat} {enc : α → List D} {z : α} {w : α → Nat} {xs : List α} (h : wL w xs ≤ N) (hf : ∀ x, w x ≤ N → D.bds N (enc x)) : D.bd N (dL sz enc z xs) := by
  unfold wL at h
  exact ⟨by omega, fun i hi => hf _ (by have := sumW_get (w := w) (z := z) hi; omega)⟩
theorem bd_Int {N : Nat} (x : Int) : D.bds N (cInt x) := ⟨trivial, trivial⟩
theorem bd_Set {N : Nat} (x : GSet) : D.bds N (cSet x) := ⟨trivial, trivial, trivial, trivial, trivial, trivial⟩
theorem bd_Note {N : Nat} (x : GNote) : D.bds N (cNote x) := ⟨trivial, trivial, trivial, trivial, trivial, trivial⟩
theorem bd_Cell {N : Nat} (x : GCell) : D.bds N (cCell x) := ⟨trivial, trivial, trivial⟩
theorem bd_Place {N : Nat} (x : GPlace) (h : wPlace x ≤ N) : D.bds N (cPlace x) := ⟨bd_flat h bd_Int, trivial⟩
theorem bd_Record {N : Nat} (x : GRecord) (h : wRecord x ≤ N) : D.bds N (cRecord x) := ⟨trivial, trivial, trivial, bd_flat h bd_Set, trivial⟩
theorem bd_Copy {N : Nat} (x : GCopy) (h : wCopy x ≤ N) : D.bds N (cCopy x) := ⟨trivial, bd_flat h bd_Cell, trivial⟩
theorem bd_Machine {N : Nat} (x : GMachine) (h : wMachine x ≤ N) : D.bds N (cMachine x) := by
  unfold wMachine at h
  exact ⟨trivial, bd_list (w := wCopy) (by omega) fun x h => bd_Copy x h, bd_list (w := wRecord) (by omega) fun x h => bd_Record x h, bd_flat (by omega) bd_Int, trivial⟩
theorem bd_Tx {N : Nat} (x : GTx) (h : wTx x ≤ N) : D.bds N (cTx x) := by
  unfold wTx at h
  exact ⟨trivial, trivial, trivial, trivial, bd_flat (by omega) bd_Note, bd_flat (by omega) bd_Set, trivial, trivial⟩
theorem bd_Cluster {N : Nat} (x : GCluster) (h : wCluster x ≤ N) : D.bds N (cCluster x) := by
  unfold wCluster at h
  exact ⟨trivial, trivial, bd_list (w := wPlace) (by omega) fun x h => bd_Place x h, bd_list (w := wMachine) (by omega) fun x h => bd_Machine x h, bd_list (w := wTx) (by omega) fun x h => bd_Tx x h, trivial, trivial⟩

/-! ### marks -/
def tab {α : Type} (n : Nat) (g : Nat → α) : List α := (List.range n).map g
theorem tab_length {α : Type} (n : Nat) (g : Nat → α) : (tab n g).length = n := by simp [tab]
theorem tab_getD {α : Type} {n : Nat} {g : Nat → α} {z : α} {i : Nat} (h : i < n) : (tab n g).getD i z = g i := by simp [tab, h]
theorem imp_tab {α : Type} {sz n : Nat} {enc : α → List D} {z : α} {g : Nat → α} : (Ch.arr sz n fun i => enc (g i)).imp (arrC sz enc z (tab n g)) := Ch.imp_len (tab_length n g).symm fun i hi => by rw [tab_getD hi]
theorem imp_untab {α : Type} {sz n : Nat} {enc : α → List D} {z : α} {g : Nat → α} : (arrC sz enc z (tab n g)).imp (Ch.arr sz n fun i => enc (g i)) := Ch.imp_len (tab_length n g) fun i hi => by rw [tab_length] at hi; rw [tab_getD hi]
def mkInt64L (xs : List Int) (k : Int) : List Int := tab xs.length fun j => k + (j : Nat)
def mkSetL (xs : List GSet) (k : Int) : List GSet := tab xs.length fun j => mkSet (k + 5 * (j : Nat))
def mkNoteL (xs : List GNote) (k : Int) : List GNote := tab xs.length fun j => mkNote (k + 5 * (j : Nat))
def mkCellL (xs : List GCell) (k : Int) : List GCell := tab xs.length fun j => mkCell (k + 2 * (j : Nat))
def mkL {α : Type} (mk : α → Int → α) (m : α → Nat) (z : α) (xs : List α) (k : Int) : List α := tab xs.length fun j => mk (xs.getD j z) (k + (sumW m (xs.take j) : Nat))
def mPlace (x : GPlace) : Nat := x.machines.length
def mkPlace (x : GPlace) (k : Int) : GPlace := ⟨mkInt64L x.machines k⟩
def mRecord (x : GRecord) : Nat := 3 + 5 * x.sets.length
def mkRecord (x : GRecord) (k : Int) : GRecord := ⟨k, k + 1, k + 1 + 1, mkSetL x.sets (k + 1 + 1 + 1)⟩
def mCopy (x : GCopy) : Nat := 1 + 2 * x.cells.length
def mkCopy (x : GCopy) (k : Int) : GCopy := ⟨k, mkCellL x.cells (k + 1)⟩
def mMachine (x : GMachine) : Nat := 1 + sumW mCopy x.copies + sumW mRecord x.log + x.cleared.length
def mkMachine (x : GMachine) (k : Int) : GMachine := ⟨k.tmod 3 == 0, mkL mkCopy mCopy GCopy.z x.copies (k + 1), mkL mkRecord mRecord GRecord.z x.log (k + 1 + sumW mCopy x.copies), mkInt64L x.cleared (k + 1 + sumW mCopy x.copies + sumW mRecord x.log)⟩
def mTx (x : GTx) : Nat := 5 + 5 * x.reads.length + 5 * x.sets.length
def mkTx (x : GTx) (k : Int) : GTx := ⟨k, k + 1, k + 1 + 1, k + 1 + 1 + 1, mkNoteL x.reads (k + 1 + 1 + 1 + 1), mkSetL x.sets (k + 1 + 1 + 1 + 1 + 5 * x.reads.length), k + 1 + 1 + 1 + 1 + 5 * x.reads.length + 5 * x.sets.length⟩
/-- the marks of a transaction's parts alone -/
def mkTx0 (x : GTx) (k : Int) : GTx := { x with reads := mkNoteL x.reads k, sets := mkSetL x.sets (k + 5 * x.reads.length) }
def mCluster (x : GCluster) : Nat := sumW mPlace x.places + sumW mMachine x.machines + sumW mTx x.txs
def mkCluster (x : GCluster) (k : Int) : GCluster := { x with places := mkL mkPlace mPlace GPlace.z x.places k, machines := mkL mkMachine mMachine GMachine.z x.machines (k + sumW mPlace x.places), txs := mkL mkTx mTx GTx.z x.txs (k + sumW mPlace x.places + sumW mMachine x.machines) }
theorem mPlace_le (x : GPlace) : mPlace x ≤ 7 * (1 + wPlace x) := by unfold mPlace wPlace; omega
theorem mRecord_le (x : GRecord) : mRecord x ≤ 7 * (1 + wRecord x) := by unfold mRecord wRecord; omega
theorem mCopy_le (x : GCopy) : mCopy x ≤ 7 * (1 + wCopy x) := by unfold mCopy wCopy; omega
theorem mMachine_le (x : GMachine) : mMachine x ≤ 7 * (1 + wMachine x) := by
  have h1 := sumW_bound mCopy_le x.copies
  have h2 := sumW_bound mRecord_le x.log
  unfold mMachine wMachine wL; omega
theorem mTx_le (x : GTx) : mTx x ≤ 7 * (1 + wTx x) := by unfold mTx wTx; omega
theorem mCluster_le (x : GCluster) : mCluster x ≤ 7 * wCluster x := by
  have h1 := sumW_bound mPlace_le x.places
  have h2 := sumW_bound mMachine_le x.machines
  have h3 := sumW_bound mTx_le x.txs
  unfold mCluster wCluster wL; omega

/-! ### what is left of a count -/
theorem szI_mono {l : Int} {a n : Nat} (h : szI l a < 0) (hn : a ≤ n) : szI l n = -1 := by
  unfold szI at h ⊢
  split at h
  · rw [if_pos (by omega)]
  · omega
theorem szI_ge {l : Int} {a b : Nat} (h : ¬ szI l a < 0) : szI (szI l a) b = szI l (a + b) := by
  unfold szI at h ⊢
  split at h
  · omega
  · rename_i h1
    rw [if_neg h1]
    by_cases c : l - a - b < 0
    · rw [if_pos c, if_pos (by omega)]
    · rw [if_neg c, if_neg (by omega)]; omega
theorem szI_in {l : Int} {a : Nat} (h : ¬ szI l a < 0) : 0 ≤ szI l a ∧ szI l a ≤ l ∧ szI l a = l - a ∧ (a : Int) ≤ l := by
  unfold szI at h ⊢
  split at h
  · omega
  · rename_i h1
    rw [if_neg h1]; omega
theorem szI_no {l : Int} {a : Nat} (h : l - a < 0) : szI l a < 0 := by unfold szI; rw [if_pos h]; omega
theorem szI_yes {l : Int} {a : Nat} (h : (a : Int) ≤ l) : szI l a = l - a := by unfold szI; rw [if_neg (by omega)]

/-! ### plain kinds, told as lists -/
theorem imp_untabS {P : Program} {α : Type} {sz n : Nat} {enc : α → List D} {z : α} {g : Nat → α} : (SV.a (.s .r sz (tab n g).length fun i => enc ((tab n g).getD i z))).imp P (.a (.s .r sz n fun i => enc (g i))) := by
  have h : (SV.a (.s .r sz n fun i => enc ((tab n g).getD i z))).imp P (.a (.s .r sz n fun i => enc (g i))) := SV.imp_s fun i hi => by rw [tab_getD hi]
  rwa [show (SV.a (.s .r sz (tab n g).length fun i => enc ((tab n g).getD i z))) = .a (.s .r sz n fun i => enc ((tab n g).getD i z)) from by rw [tab_length]]
theorem markSetS_w (xs : List GSet) (hl : xs.length ≤ 1048576) (k0 : Int) (h1 : 0 ≤ k0) (h2 : k0 ≤ 1099511627776) : Con Tryz.prog 95 [900] [.a (.g 900), vI k0] [(900, arrC 5 cSet GSet.z xs)] (fun _ : Unit => True) (fun _ => [vI (k0 + 5 * xs.length)]) fun _ => [(900, arrC 5 cSet GSet.z (mkSetL xs k0))] :=
  (markSetS_c xs hl k0 h1 h2).wkM fun _ _ => ⟨⟨_, rfl, imp_tab⟩, trivial⟩
theorem heldSetS_w (xs : List GSet) (hl : xs.length ≤ 1048576) (k0 : Int) (h1 : 0 ≤ k0) (h2 : k0 ≤ 1099511627776) : Ans Tryz.prog 100 [] [vL 5 cSet GSet.z (mkSetL xs k0), vI k0] [] (vI (k0 + 5 * xs.length)) :=
  (heldSetS_q xs.length hl k0 h1 h2).wkA ⟨_, _, rfl, imp_untabS, SVs.imp_refl _⟩
theorem markNoteS_w (xs : List GNote) (hl : xs.length ≤ 1048576) (k0 : Int) (h1 : 0 ≤ k0) (h2 : k0 ≤ 1099511627776) : Con Tryz.prog 94 [900] [.a (.g 900), vI k0] [(900, arrC 5 cNote GNote.z xs)] (fun _ : Unit => True) (fun _ => [vI (k0 + 5 * xs.length)]) fun _ => [(900, arrC 5 cNote GNote.z (mkNoteL xs k0))] :=
  (markNoteS_c xs hl k0 h1 h2).wkM fun _ _ => ⟨⟨_, rfl, imp_tab⟩, trivial⟩
theorem heldNoteS_w (xs : List GNote) (hl : xs.length ≤ 1048576) (k0 : Int) (h1 : 0 ≤ k0) (h2 : k0 ≤ 1099511627776) : Ans Tryz.prog 99 [] [vL 5 cNote GNote.z (mkNoteL xs k0), vI k0] [] (vI (k0 + 5 * xs.length)) :=
  (heldNoteS_q xs.length hl k0 h1 h2).wkA ⟨_, _, rfl, imp_untabS, SVs.imp_refl _⟩
theorem markCellS_w (xs : List GCell) (hl : xs.length ≤ 1048576) (k0 : Int) (h1 : 0 ≤ k0) (h2 : k0 ≤ 1099511627776) : Con Tryz.prog 159 [900] [.a (.g 900), vI k0] [(900, arrC 2 cCell GCell.z xs)] (fun _ : Unit => True) (fun _ => [vI (k0 + 2 * xs.length)]) fun _ => [(900, arrC 2 cCell GCell.z (mkCellL xs k0))] :=
  (markCellS_c xs hl k0 h1 h2).wkM fun _ _ => ⟨⟨_, rfl, imp_tab⟩, trivial⟩
theorem heldCellS_w (xs : List GCell) (hl : xs.length ≤ 1048576) (k0 : Int) (h1 : 0 ≤ k0) (h2 : k0 ≤ 1099511627776) : Ans Tryz.prog 160 [] [vL 2 cCell GCell.z (mkCellL xs k0), vI k0] [] (vI (k0 + 2 * xs.length)) :=
  (heldCellS_q xs.length hl k0 h1 h2).wkA ⟨_, _, rfl, imp_untabS, SVs.imp_refl _⟩
theorem markInt64S_w (xs : List Int) (hl : xs.length ≤ 1048576) (k0 : Int) (h1 : 0 ≤ k0) (h2 : k0 ≤ 1099511627776) : Con Tryz.prog 91 [900] [.a (.g 900), vI k0] [(900, arrC 1 cInt 0 xs)] (fun _ : Unit => True) (fun _ => [vI (k0 + xs.length)]) fun _ => [(900, arrC 1 cInt 0 (mkInt64L xs k0))] :=
  ((markInt64S_c xs hl k0 h1 h2).wkM (mu'' := fun _ => [(900, arrC 1 cInt 0 (mkInt64L xs k0))]) fun _ _ => ⟨⟨_, rfl, Ch.imp_len (tab_length _ _).symm fun i hi => by rw [mkInt64L, tab_getD hi, Int.one_mul]⟩, trivial⟩).wkR fun _ _ => ⟨_, _, rfl, SV.imp_of (vI_eq (by omega)), rfl⟩
theorem heldInt64S_w (xs : List Int) (hl : xs.length ≤ 1048576) (k0 : Int) (h1 : 0 ≤ k0) (h2 : k0 ≤ 1099511627776) : Ans Tryz.prog 96 [] [vL 1 cInt 0 (mkInt64L xs k0), vI k0] [] (vI (k0 + xs.length)) :=
  ((heldInt64S_q xs.length hl k0 h1 h2).wkA (args' := [vL 1 cInt 0 (mkInt64L xs k0), vI k0]) ⟨_, _, rfl, (imp_untabS (enc := cInt) (z := 0) (g := fun j => k0 + (j : Nat))).trans (SV.imp_s (g := fun j => cInt (k0 + 1 * (j : Nat))) fun i hi => by rw [Int.one_mul]), SVs.imp_refl _⟩).wkR fun _ _ => ⟨_, _, rfl, SV.imp_of (vI_eq (by omega)), rfl⟩
theorem toInt64S_m (xs : List Int) (hl : xs.length ≤ 1048576) : MkL Tryz.prog 131 [vL 1 cInt 0 xs] 1 cInt 0 xs := by
  refine con_enter Tryz.func131 rfl rfl rfl fun B0 r_ D_ w0 => ?_
  refine T_auto TT_ok rfl ?_
  refine RJ_make TT_ok 7 xs.length rfl rfl rfl rfl rfl rfl rfl ⟨by simp; omega, by unfold maxL; omega⟩ ?_
  refine RJ_auto TT_ok rfl ?_
  refine T_loopA (ι := Nat) (fun i => [(4, vI i)]) (fun i => [(7, .arr 1 xs.length fun k => cInt (if k < i then xs.getD k 0 else 0))]) (fun i => i ≤ xs.length) (fun i => xs.length - i) 0 [7] [] rfl rfl (Nat.zero_le _) (by repeat (first | exact trivial | refine And.intro ⟨_, rfl, SV.imp_refl _⟩ ?_)) ⟨⟨_, rfl, Ch.imp_arr fun k hk => by rw [if_neg (Nat.not_lt_zero _)]; rfl⟩, trivial⟩ ?_
  intro i h1
  refine T_auto TT_ok rfl ?_
  refine T_condD rfl (fun e => ?_) (fun e => ?_)
  · have hi : i < xs.length := by omega
    refine T_auto TT_ok rfl ?_
    exact X_inv (i + 1) hi (by omega) (by repeat (first | exact trivial | refine And.intro ⟨_, rfl, SV.imp_refl _⟩ ?_)) ⟨⟨_, rfl, Ch.imp_arr fun k hk => fill_step (fun x => cInt x) rfl⟩, (by repeat (first | exact trivial | refine And.intro ⟨_, rfl, Ch.imp_refl _⟩ ?_))⟩
  · have hi : i = xs.length := by omega
    subst hi
    refine T_auto TT_ok rfl ?_
    refine T_view (V_sw 7 900) ?_
    refine T_ret TT_ok (()) [(2, none)] rfl rfl ?_ ?_ ?_
    · exact SVs.imp_refl _
    · exact ⟨⟨_, rfl, Ch.imp_arr fun k hk => by rw [if_pos hk]⟩, trivial⟩
    · trivial
theorem szInt64S_q (xs : List Int) (hx : xs.length ≤ maxL) (l : Int) (h1 : 0 ≤ l) (h2 : l ≤ 1048576) : Ans Tryz.prog 121 [] [vL 1 cInt 0 xs, vI l] [] (vI (szI l xs.length)) := by
  unfold maxL at hx
  refine con_enter Tryz.func121 rfl rfl rfl fun B0 r_ D_ w0 => ?_
  refine T_auto TT_ok rfl ?_
  refine T_condD rfl (fun e => ?_) (fun e => ?_)
  · refine T_auto TT_ok rfl ?_
    exact T_ansI TT_ok [(4, none)] rfl rfl (by rw [szI, if_pos e])
  · refine T_auto TT_ok rfl ?_
    exact T_ansI TT_ok [(4, none)] rfl rfl (by rw [szI, if_neg e])
end Go.Proofs.YtpfcfepbhdkpdaaGreat
