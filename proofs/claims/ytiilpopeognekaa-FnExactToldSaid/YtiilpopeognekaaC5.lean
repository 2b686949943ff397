/-
  Slices that a literal makes.
-/
import Derived.Test.YtiilpopeognekaaC4
namespace Go.Proofs.Ytiilpopeognekaa
open Go Go.RowKit
set_option linter.unusedVariables false
set_option linter.unusedSimpArgs false

/-- the cells of a literal's parts, laid over zeros -/
def bsL (sz : Nat) : List (Nat × SV) → List Value → Option (List Value)
  | [], l => some l
  | (i, x) :: r, l => match x.cells.bind avVals with
    | some vs => bif lenEq vs sz then match paste l (i * sz) vs with
        | some l' => bsL sz r l'
        | none => none
      else none
    | none => none
def zeroL (zs : List Value) : Nat → List Value
  | 0 => []
  | n + 1 => zeroL zs n ++ zs
section
variable {G : AG} {J : Act → World → Prop} {P : Program} {w w0 : World} {B : BE} {r : PH} {D : Nat → Nat → Prop} {mu mu' : Mu} {ga : Ga} {H : Nat → PH} {TT : List TI} {N : Nat} {fr fr' : Fr} {gf gf' : GF} {a : Act} {all : List Oper} {Q : Exit → Act → World → Prop} {rest : List Oper} {o : Oper} {R : Exit → Act → World → Prop} {K : List KF}
theorem fill_bs {sz : Nat} (B : BE) : ∀ {ps : List (Nat × SV)} {l F : List Value}, bsL sz ps l = some F → Instr.fill (fun i => some (i * sz, sz)) l.toArray (ps.map fun p => (p.1, p.2.den B)) = some F.toArray
  | [], l, F, h => by simp [bsL] at h; subst h; rfl
  | (i, x) :: ps, l, F, h => by
    simp only [bsL] at h
    split at h
    · rename_i vs e
      cases c : lenEq vs sz with
      | false => rw [c] at h; cases h
      | true =>
        rw [c] at h
        simp only [cond_true] at h
        split at h
        · rename_i l' e2
          obtain ⟨cs, e3, e4⟩ := Option.bind_eq_some_iff.1 e
          have hc : (x.den B).cells = vs.toArray := by
            apply Array.ext'
            rw [cells_den e3 B, avVals_spec e4]
          obtain ⟨p1, p2, _, _⟩ := paste_spec _ _ _ _ e2
          simp only [List.map_cons, Instr.fill, hc]
          have hl := lenEq_spec _ _ c
          rw [if_neg (by simp [hl]; omega), paste_fold e2]
          exact fill_bs B h
        · cases h
    · cases h
theorem zeroL_length (zs : List Value) : ∀ n, (zeroL zs n).length = n * zs.length
  | 0 => by simp [zeroL]
  | n + 1 => by rw [zeroL, List.length_append, zeroL_length zs n, Nat.add_mul, Nat.one_mul]
theorem zeroL_get {zs : List Value} : ∀ {n i : Nat}, i < n * zs.length → (zeroL zs n)[i]? = zs[i % zs.length]?
  | 0, i, h => by omega
  | n + 1, i, h => by
    rw [zeroL]
    by_cases c : i < n * zs.length
    · rw [List.getElem?_append_left (by rw [zeroL_length]; exact c), zeroL_get c]
    · rw [Nat.add_mul, Nat.one_mul] at h
      rw [List.getElem?_append_right (by rw [zeroL_length]; omega), zeroL_length]
      congr 1
      have h3 : zs.length * n = n * zs.length := Nat.mul_comm _ _
      have h2 : i % zs.length = i - n * zs.length := by
        rw [← Nat.sub_mul_mod (k := n) (by omega : zs.length * n ≤ i), h3, Nat.mod_eq_of_lt (by omega)]
      exact h2.symm
def prts : List (Nat × Operand) → Gd → Fr → GF → Option (List (Nat × SV)) := fun l g fr gf => evParts g fr gf l
theorem evParts_den (f : Fits B N fr gf a) {g : Gd} (hg : ∀ d w, (d, w) ∈ g → a.tmps.getD d undef = .bool w) : ∀ {l : List (Nat × Operand)} {ps : List (Nat × SV)}, evParts g fr gf l = some ps → (l.map fun p => (p.1, a.eval p.2)) = ps.map fun p => (p.1, p.2.den B)
  | [], ps, h => by simp [evParts] at h; subst h; rfl
  | (i, x) :: l, ps, h => by
    simp only [evParts] at h
    split at h
    · rename_i y l' e1 e2
      injection h with h; subst h
      simp only [List.map_cons]
      rw [evParts_den f hg e2, f.ev hg e1]
    · cases h
theorem OJ_bs (hT : TOk P TT) (key : Nat) (hkey : hasK key G.ks = false) {t0 ts n : Nat} {parts : Array (Nat × Operand)} {ps : List (Nat × SV)} {id sz1 by1 e : Nat} {z : Value} {te : TI} {zs F : List Value}
    (hg : o.guard = none) (hd : o.dst = some t0) (ht : Nat.blt t0 N = true) (hop : o.op = .buildSlice ts n parts) (hp : evParts [] fr gf parts.toList = some ps)
    (h1 : tlk ts TT = some ⟨id, sz1, by1, .slc e, z⟩) (h2 : tlk e TT = some te) (hgd : gdrop t0 gf = some gf') (hz : vcells te.zero = some (zs.map AV.v)) (hzs : zs.length = te.sz) (hpos : 0 < te.sz) (hF : bsL te.sz ps (zeroL zs n) = some F) (hn : n * te.sz ≤ 16777216)
    (k : ∀ b, SJ G J N r D w0 ((t0, .a (.sl key (some ⟨b, 0, none⟩) n n)) :: fr) gf' ((key, .arr (some ⟨b, 0, none⟩) n n te.sz (fun i => (F.drop (i * te.sz)).take te.sz)) :: mu) ga) : OJ G P N r D w0 all Q J o fr gf mu ga := fun B a w H ff mm gg gk => by
  obtain ⟨t1, t2⟩ := hT.get h1
  obtain ⟨d, d1, d2⟩ := t2.desc
  simp only at t1 d1 d2
  subst t1
  obtain rfl := shapeK_slc d2
  obtain ⟨u1, u2⟩ := hT.get h2
  subst u1
  obtain ⟨i, i1, i2, i3, i4⟩ := u2.info
  have hzc : te.zero.cells.toList = zs := by
    have := vcells_den te.zero B
    rw [vcells_eq] at hz
    injection hz with hz
    rw [hz] at this
    rw [← this]
    simp [Function.comp_def, AV.den]
  have hzv : te.zero.cells = zs.toArray := Array.ext' (by rw [hzc])
  have hfill := fill_bs B hF
  have hFl : F.length = n * te.sz := by
    have key : ∀ (ps : List (Nat × SV)) (l F : List Value), bsL te.sz ps l = some F → F.length = l.length := fun ps => by
      induction ps with
      | nil => intro l F h; simp [bsL] at h; rw [h]
      | cons p ps ih =>
        intro l F h
        obtain ⟨i, x⟩ := p
        simp only [bsL] at h
        split at h
        · rename_i vs e
          cases c : lenEq vs te.sz with
          | false => rw [c] at h; cases h
          | true =>
            rw [c] at h
            simp only [cond_true] at h
            split at h
            · rename_i l' e2
              obtain ⟨p1, p2, _, _⟩ := paste_spec _ _ _ _ e2
              rw [ih _ _ h]; omega
            · cases h
        · cases h
    rw [key ps _ _ hF, zeroL_length, hzs]
  have h0 : (if n * te.sz = 0 then (#[] : Array Value) else te.zero.cells) = if n * te.sz = 0 then #[] else zs.toArray := by rw [hzv]
  have hinit : (Array.range (n * te.sz)).map ((if n * te.sz = 0 then (#[] : Array Value) else zs.toArray)[· % (if n * te.sz = 0 then (#[] : Array Value) else zs.toArray).size]!) = (zeroL zs n).toArray := by
    apply Array.ext_getElem?
    intro j
    rw [Array.getElem?_map]
    by_cases hj : j < n * te.sz
    · have hne : n * te.sz ≠ 0 := by omega
      rw [Array.getElem?_range, if_pos hj]
      simp only [hne, if_false, Option.map_some, List.getElem?_toArray]
      rw [zeroL_get (by rw [hzs]; exact hj)]
      have hm : j % zs.length < zs.length := Nat.mod_lt _ (by omega)
      simp [hm]
    · rw [Array.getElem?_range, if_neg hj]
      simp only [Option.map_none, List.getElem?_toArray]
      rw [List.getElem?_eq_none (by rw [zeroL_length, hzs]; omega)]
  refine one_val (wanted_none hg) (v := .slice (some ⟨w.heap.size, 0, none⟩) n n) (w' := w.alloc (.cells F.toArray te.id)) ?_ ?_
  · obtain ⟨dst, op, type, pos, after, guard⟩ := o
    simp only at hop
    subst hop
    have e1 := evParts_den ff (g := []) (fun _ _ hm => by cases hm) hp
    have e2 : (parts.map fun p => (p.1, a.eval p.2)).toList = ps.map fun p => (p.1, p.2.den B) := by rw [Array.toList_map]; exact e1
    simp only [execOp]
    refine run_value2 ?_
    simp only [Instr.buildSlice, Sem.run_bind, run_underlying d1, Result.andThen_ok, run_size i1, i2]
    rw [if_neg (by omega)]
    by_cases c : n * te.sz = 0
    · rw [if_pos c] at hinit
      rw [if_pos c]
      simp only [Sem.run_bind, Sem.run_pure, Result.andThen_ok]
      rw [hinit, e2, hfill]
      simp only [Sem.run_bind, newRow, run_newObj, Result.andThen_ok, Sem.run_pure]
      rfl
    · rw [if_neg c] at hinit
      rw [if_neg c]
      simp only [Sem.run_bind, zeroValue, run_info i1, i4, Sem.run_pure, Result.andThen_ok, hzv]
      rw [hinit, e2, hfill]
      simp only [Sem.run_bind, newRow, run_newObj, Result.andThen_ok, Sem.run_pure]
      rfl
  · have hfit : Fit (PH.row w.heap.size 0 F) (w.alloc (.cells F.toArray te.id)) := Fit.alloc w F te.id
    rw [hd]
    refine k w.heap.size B _ _ _ (ff.put (by simpa [Nat.blt_eq] using ht) rfl hgd) (mm.add (k := key) (Below.ofAlloc w _) (h := PH.row w.heap.size 0 F) ?_ hfit (fun b o hb => by rw [PH.row_ne hb]; exact Nat.le_refl _)) gg (gk.setH hkey _)
    refine ⟨Nat.le_refl _, fun i hi => ⟨w.heap.size, 0, rfl, ?_, fun j hj => ?_⟩, fun i hi hi2 => by omega⟩
    · have h1 : (i + 1) * te.sz ≤ n * te.sz := Nat.mul_le_mul_right _ hi
      rw [Nat.add_mul, Nat.one_mul] at h1
      simp only [List.length_take, List.length_drop]; omega
    · have := PH.row_at (b := w.heap.size) (off := 0) (l := F) (i * te.sz + j)
      rw [show (0 : Nat) + i * te.sz + j = 0 + (i * te.sz + j) from by omega, this]
      rw [List.getElem?_take_of_lt hj, List.getElem?_drop]
theorem RJ_bs (hT : TOk P TT) (key : Nat) {t0 ts n : Nat} {parts : Array (Nat × Operand)} {ps : List (Nat × SV)} {id sz1 by1 e : Nat} {z : Value} {te : TI} {zs F : List Value}
    (hg : o.guard = none) (hd : o.dst = some t0) (ht : Nat.blt t0 N = true) (hop : o.op = .buildSlice ts n parts) (hp : evParts [] fr gf parts.toList = some ps)
    (h1 : tlk ts TT = some ⟨id, sz1, by1, .slc e, z⟩) (h2 : tlk e TT = some te) (hgd : gdrop t0 gf = some gf') (hz : vcells te.zero = some (zs.map AV.v)) (hzs : zs.length = te.sz) (hpos : 0 < te.sz) (hF : bsL te.sz ps (zeroL zs n) = some F) (hn : n * te.sz ≤ 16777216)
    (k : ∀ b, RJ P N r D w0 all Q rest ((t0, .a (.sl key (some ⟨b, 0, none⟩) n n)) :: fr) gf' ((key, .arr (some ⟨b, 0, none⟩) n n te.sz (fun i => (F.drop (i * te.sz)).take te.sz)) :: mu) ga) : RJ P N r D w0 all Q (o :: rest) fr gf mu ga :=
  RJ_of (OJ_bs hT key rfl hg hd ht hop hp h1 h2 hgd hz hzs hpos hF hn fun b => SJ_of (k b))
end
end Go.Proofs.Ytiilpopeognekaa
