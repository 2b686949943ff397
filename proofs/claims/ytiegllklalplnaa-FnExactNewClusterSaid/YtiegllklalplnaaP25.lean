
/-
  A new cluster, in the program, continued.
-/
import Derived.Test.YtiegllklalplnaaP24
namespace Go.Proofs.Ytiegllklalplnaa
open Go Go.RowKit
set_option linter.unusedVariables false
set_option linter.unusedSimpArgs false
set_option maxRecDepth 4000

section
variable {E : Env} {mu mu' : Mu} {fr fr' : Fr} {gf gf' : GF} {all : List Oper} {G : AG} {J : Act → World → Prop}
/-- three operations may come up -/
theorem DJ_three (i j l : Nat) {n : Nat} {tk : List Nat} {o p q : Oper} {Q : Exit → Act → World → Prop} (hi : nth all i = some o) (hj : nth all j = some p) (hl : nth all l = some q) (hB : Region.ready .any all.toArray (mk all.toArray.size tk) = [i, j, l])
    (h : OJ G E all Q (fun a' w' => Sr G E.r w' ∧ Lw E.P all.toArray Q (Sr G E.r) n (mk all.toArray.size (i :: tk)) a' w') o fr gf mu)
    (h2 : OJ G E all Q (fun a' w' => Sr G E.r w' ∧ Lw E.P all.toArray Q (Sr G E.r) n (mk all.toArray.size (j :: tk)) a' w') p fr gf mu)
    (h3 : OJ G E all Q (fun a' w' => Sr G E.r w' ∧ Lw E.P all.toArray Q (Sr G E.r) n (mk all.toArray.size (l :: tk)) a' w') q fr gf mu) : DJ G E all Q (n + 1) tk fr gf mu := fun B a w H f m gg w2 hb => by
  have key : ∀ k o, nth all k = some o → OJ G E all Q (fun a' w' => Sr G E.r w' ∧ Lw E.P all.toArray Q (Sr G E.r) n (mk all.toArray.size (k :: tk)) a' w') o fr gf mu → wpOp E.P all.toArray Q k (fun a' w' => ∃ S', (S' = Sr G E.r ∨ cmpB all.toArray k = true) ∧ S' w' ∧ Lw E.P all.toArray Q S' n ((mk all.toArray.size tk).setIfInBounds k true) a' w') a w2 := fun k o hk h => by
    have hk' : all.toArray[k]? = some o := by rw [nth_eq] at hk; simpa using hk
    have h1 := One.mono (fun a' w' (h : Sr G E.r w' ∧ Lw E.P all.toArray Q (Sr G E.r) n (mk all.toArray.size (k :: tk)) a' w') => (⟨_, .inl rfl, h.1, h.2⟩ : ∃ S', (S' = Sr G E.r ∨ cmpB all.toArray k = true) ∧ S' w' ∧ Lw E.P all.toArray Q S' n (mk all.toArray.size (k :: tk)) a' w')) (h B a w2 H f (m.below hb) gg)
    unfold One at h1
    unfold wpOp
    rw [hk', mk_set]
    exact h1
  refine ⟨fun h0 => (by rw [hB] at h0; cases h0), fun k hk => ?_⟩
  rw [hB] at hk
  rcases List.mem_cons.1 hk with rfl | hk
  · exact key _ _ hi h
  rcases List.mem_cons.1 hk with rfl | hk
  · exact key _ _ hj h2
  · obtain rfl := List.mem_singleton.1 hk
    exact key _ _ hl h3
theorem SJ_view (v : View E fr gf mu fr' gf' mu') (h : SJ AG.nil J E fr' gf' mu') : SJ AG.nil J E fr gf mu := fun B a w H f m _ => by
  obtain ⟨B', H', f', m'⟩ := v B w H a f m
  exact h B' a w H' f' m' (AG.nil_ok B' H')
end
def aliveD (b : Bool) : List D := [dB b, .v (.slice none 0 0), .v (.slice none 0 0), .v (.slice none 0 0)]
/-- the copies of machine j behind regions below r, and the first k copies of region r -/
def copK (m r k : Nat) (j : Nat) : List GCopy := copiesL m j r ++ if (j : Int) ∈ (spL m r).take k then [⟨r, cells0⟩] else []
def machK (m r k : Nat) (j : Nat) : GMachine := ⟨true, copK m r k j, [], []⟩
theorem spL_get {m r k : Nat} (h : k < min m 3) : (spL m r).getD k 0 = ((r : Int) + (k : Nat)).tmod m := by simp [spL, h]
theorem spL_len (m r : Nat) : (spL m r).length = min m 3 := by simp [spL]
theorem spL_in {m r k : Nat} (hm : 1 ≤ m) (h : k < min m 3) : 0 ≤ (spL m r).getD k 0 ∧ (spL m r).getD k 0 < m := by
  rw [spL_get h]
  have e : ((r : Int) + (k : Nat)) = ((r + k : Nat) : Int) := by omega
  rw [e, ← Int.ofNat_tmod]
  have := Nat.mod_lt (r + k) (show 0 < m by omega)
  omega
theorem spL_new {m r k : Nat} (hm : 1 ≤ m) (h : k < min m 3) : (spL m r).getD k 0 ∉ (spL m r).take k := fun hx => by
  obtain ⟨a, ha, e⟩ := List.mem_iff_getElem.1 hx
  have hak : a < k := by rw [List.length_take] at ha; omega
  rw [List.getElem_take] at e
  have e2 : (spL m r).getD a 0 = (spL m r).getD k 0 := by
    rw [← e]
    have : a < (spL m r).length := by rw [spL_len]; omega
    simp [this]
  rw [spL_get (by omega), spL_get h] at e2
  have e3 : ((r : Int) + (a : Nat)) = ((r + a : Nat) : Int) := by omega
  have e4 : ((r : Int) + (k : Nat)) = ((r + k : Nat) : Int) := by omega
  rw [e3, e4, ← Int.ofNat_tmod, ← Int.ofNat_tmod] at e2
  have e5 : (r + k) % m = (r + a) % m := by omega
  have e6 := Nat.sub_mod_eq_zero_of_mod_eq e5
  have e7 : r + k - (r + a) = k - a := by omega
  rw [e7, Nat.mod_eq_of_lt (by omega)] at e6
  omega
theorem copK_same {m r k : Nat} (hm : 1 ≤ m) (h : k < min m 3) {q : Nat} (hq : (q : Int) = (spL m r).getD k 0) : copK m r k q = copiesL m q r ∧ copK m r (k + 1) q = copiesL m q r ++ [⟨r, cells0⟩] := by
  have hl : k < (spL m r).length := by rw [spL_len]; exact h
  have h1 := spL_new (r := r) hm h
  rw [← hq] at h1
  refine ⟨by unfold copK; rw [if_neg h1, List.append_nil], ?_⟩
  unfold copK
  rw [if_pos]
  rw [take_succ_getD (z := 0) hl, hq]
  simp
theorem copK_other {m r k : Nat} (h : k < min m 3) {j : Nat} (hq : (j : Int) ≠ (spL m r).getD k 0) : copK m r (k + 1) j = copK m r k j := by
  have hl : k < (spL m r).length := by rw [spL_len]; exact h
  unfold copK
  rw [take_succ_getD (z := 0) hl]
  congr 1
  have : ((j : Int) ∈ (spL m r).take k ++ [(spL m r).getD k 0]) ↔ (j : Int) ∈ (spL m r).take k := by
    rw [List.mem_append, List.mem_singleton]
    exact ⟨fun h => h.resolve_right hq, .inl⟩
  simp only [this]
theorem copK_end (m r : Nat) (j : Nat) : copK m r (min m 3) j = copK m (r + 1) 0 j := by
  unfold copK
  have h1 : (spL m r).take (min m 3) = spL m r := List.take_of_length_le (by rw [spL_len]; exact Nat.le_refl _)
  rw [h1, copiesL_succ]
  unfold isIn
  by_cases h : (j : Int) ∈ spL m r
  · simp [h]
  · simp [h]
theorem copiesL_lt (m : Nat) (i : Int) (r : Nat) : ∀ a, a < (copiesL m i r).length → ((copiesL m i r).getD a GCopy.z).region < r := fun a ha => by
  have h1 : (copiesL m i r).getD a GCopy.z ∈ copiesL m i r := by simp [ha]
  generalize (copiesL m i r).getD a GCopy.z = x at h1
  unfold copiesL at h1
  obtain ⟨b, hb, rfl⟩ := List.mem_map.1 h1
  have := List.mem_range.1 (List.mem_filter.1 hb).1
  show (b : Int) < r
  omega
end Go.Proofs.Ytiegllklalplnaa
