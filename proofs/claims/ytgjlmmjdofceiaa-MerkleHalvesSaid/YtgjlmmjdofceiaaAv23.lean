/-
  Abstract values: slices, whatever they stand for, by their elements.
-/
import Derived.Test.YtgjlmmjdofceiaaAv22
namespace Go.Av
open Go.RowKit

theorem chunks_len (sz : Nat) : ∀ (n : Nat) (cs : List V), (chunks sz n cs).length = n
  | 0, _ => rfl
  | n + 1, cs => congrArg (· + 1) (chunks_len sz n (cs.drop sz))

theorem chunks_at (sz : Nat) : ∀ (n : Nat) (cs : List V) (i : Nat), i < n → (chunks sz n cs)[i]? = some ((cs.drop (i * sz)).take sz)
  | 0, _, i, h => by omega
  | n + 1, cs, 0, _ => by simp [chunks]
  | n + 1, cs, i + 1, h => by
    simp only [chunks, List.getElem?_cons_succ]
    rw [chunks_at sz n (cs.drop sz) i (by omega), List.drop_drop, Nat.add_mul, Nat.one_mul, Nat.add_comm]

theorem chunks_sub (sz : Nat) : ∀ (l n m : Nat) (cs : List V), l + m ≤ n → ((chunks sz n cs).drop l).take m = chunks sz m (cs.drop (l * sz)) := by
  intro l n m cs h
  apply List.ext_getElem?
  intro i
  by_cases hi : i < m
  · rw [List.getElem?_take, if_pos hi, List.getElem?_drop, chunks_at _ _ _ _ (by omega), chunks_at _ _ _ _ hi, List.drop_drop, Nat.add_mul]
  · rw [List.getElem?_take, if_neg hi, List.getElem?_eq_none]
    rw [chunks_len]; omega

theorem view_len {H : Hp} {sz : Nat} {x : V} {es : List (List V)} (h : view H sz x = some es) : slen x = some es.length := by
  unfold view at h
  split at h
  · cases h; rfl
  · split at h <;> cases h; rfl
  · split at h
    · split at h <;> cases h
      simp only [slen, Option.some.injEq, List.length_take, List.length_drop]; omega
    · cases h
  · split at h
    · split at h <;> cases h
      simp only [slen, chunks_len]
    · cases h
  · cases h

theorem lenV_view {P : Program} {H : Hp} {sz : Nat} {x : V} {es : List (List V)} {t : TypeId} (ht : sliT P t = some sz) (h : view H sz x = some es) : lenV P t x = some (vN .i64 es.length) := by
  unfold sliT at ht
  unfold lenV
  split at ht
  · rename_i e he
    rw [he]
    simp only [view_len h, Option.map_some, vN]
  · cases ht

/-- A piece of a slice. -/
theorem slice_view {P : Program} {H : Hp} {sz : Nat} {x : V} {es : List (List V)} {t : TypeId} (ha : arrT P t = none) (ht : sliT P t = some sz) (hv : view H sz x = some es) {lo hi : Option V} {l h : Nat}
    (hh : bnd hi es.length es.length = some h) (hl : bnd lo 0 h = some l) (h1 : l ≤ h) (h2 : h ≤ es.length) :
    ∃ y, sliceV P t x lo hi none = some y ∧ view H sz y = some ((es.take h).drop l) := by
  have e : sliceV P t x lo hi none = sliceSl sz x lo hi none := by
    unfold sliceV
    simp [ha, ht]
  rw [e]
  have hm : ∀ n, bnd none n n = some n := fun n => rfl
  unfold view at hv
  split at hv
  · cases hv
    simp only [List.length_nil] at hh h2
    have : h = 0 := by omega
    subst this
    have : l = 0 := by omega
    subst this
    exact ⟨.nils, by simp [sliceSl, hm, hh, hl], by simp [view]⟩
  · rename_i sz' es' full
    split at hv
    · rename_i hs
      cases hv
      subst hs
      exact ⟨_, by simp only [sliceSl, if_true, hm, Option.bind_some, hh, hl]; rfl, by simp [view]⟩
    · cases hv
  · rename_i b i n sz' full
    split at hv
    · rename_i sz'' es' hb
      split at hv
      · rename_i hc
        obtain ⟨rfl, rfl, hle⟩ := hc
        cases hv
        have hlen : ((es'.drop i).take n).length = n := by simp; omega
        rw [hlen] at hh h2
        refine ⟨_, by simp only [sliceSl, if_true, hm, Option.bind_some, hh, hl]; rfl, ?_⟩
        split
        · rename_i hc
          simp only [view, hb]
          rw [if_pos ⟨trivial, trivial, by omega⟩]
          congr 1
          rw [List.take_take, Nat.min_eq_left h2, List.drop_take, List.drop_drop]
        · rename_i hc
          have : l = h := by omega
          subst this
          simp only [view, if_true]
          congr 1
          rw [List.drop_eq_nil_of_le]
          simp
          omega
      · cases hv
    · cases hv
  · rename_i b off n sz'
    split at hv
    · rename_i cells hb
      split at hv
      · rename_i hc
        obtain ⟨rfl, hle⟩ := hc
        cases hv
        rw [chunks_len] at hh h2
        refine ⟨_, by simp only [sliceSl, Option.isNone_none, and_self, if_true, Option.bind_some, hh, hl]; rfl, ?_⟩
        split
        · rename_i hc
          simp only [view, hb]
          have : (l + (h - l)) * sz' ≤ n * sz' := Nat.mul_le_mul_right _ (by omega)
          rw [Nat.add_mul] at this
          rw [if_pos ⟨trivial, by omega⟩]
          congr 1
          have h3 : ((chunks sz' n (cells.drop off)).take h).drop l = ((chunks sz' n (cells.drop off)).drop l).take (h - l) := by rw [List.drop_take]
          rw [h3, chunks_sub _ _ _ _ _ (by omega), List.drop_drop]
        · rename_i hc
          have : l = h := by omega
          subst this
          simp only [view, if_true]
          congr 1
          rw [List.drop_eq_nil_of_le]
          simp only [List.length_take, chunks_len]
          omega
      · cases hv
    · cases hv
  · cases hv

/-- The address of an element, and what lies there. -/
theorem elem_view {P : Program} {H : Hp} {sz : Nat} {x : V} {es : List (List V)} {t : TypeId} (ha : arrT P t = none) (ht : sliT P t = some sz) (hv : view H sz x = some es) {k : IntKind} {i : Nat} {e : List V} (he : es[i]? = some e) (hsz : e.length = sz) :
    ∃ p, indexAddrV P t x (vN k i) = some p ∧ ∃ c o, ptrCells H p = some (c, o) ∧ o + sz ≤ c.length ∧ (c.drop o).take sz = e := by
  have hi : i < es.length := (List.getElem?_eq_some_iff.1 he).1
  unfold indexAddrV
  rw [ha, ht]
  simp only [Option.bind_some]
  unfold view at hv
  split at hv
  · cases hv; simp at he
  · rename_i sz' es' full
    split at hv
    · rename_i hs
      cases hv
      subst hs
      simp only [if_true, idxOf_N _ hi, Option.bind_some, he, Option.map_some]
      exact ⟨_, rfl, e, 0, rfl, by omega, by rw [List.drop_zero, List.take_of_length_le (by omega)]⟩
    · cases hv
  · rename_i b i0 n sz' full
    split at hv
    · rename_i sz'' es' hb
      split at hv
      · rename_i hc
        obtain ⟨rfl, rfl, hle⟩ := hc
        cases hv
        have hlen : ((es'.drop i0).take n).length = n := by simp; omega
        rw [hlen] at hi
        rw [List.getElem?_take, if_pos hi, List.getElem?_drop] at he
        simp only [if_true, idxOf_N _ hi, Option.map_some]
        refine ⟨_, rfl, e, 0, ?_, by omega, by rw [List.drop_zero, List.take_of_length_le (by omega)]⟩
        simp only [ptrCells, hb, if_true, he, Option.map_some]
      · cases hv
    · cases hv
  · rename_i b off n sz'
    split at hv
    · rename_i cells hb
      split at hv
      · rename_i hc
        obtain ⟨rfl, hle⟩ := hc
        cases hv
        rw [chunks_len] at hi
        rw [chunks_at _ _ _ _ hi] at he
        cases he
        simp only [if_true, idxOf_N _ hi, Option.map_some]
        have : (i + 1) * sz' ≤ n * sz' := Nat.mul_le_mul_right _ (by omega)
        rw [Nat.add_mul, Nat.one_mul] at this
        exact ⟨_, rfl, cells, off + i * sz', by simp only [ptrCells, hb], by omega, by rw [List.drop_drop]⟩
      · cases hv
    · cases hv
  · cases hv

/-- One-cell elements. -/
theorem elem_view1 {P : Program} {H : Hp} {x : V} {es : List (List V)} {t : TypeId} (ha : arrT P t = none) (ht : sliT P t = some 1) (hv : view H 1 x = some es) {k : IntKind} {i : Nat} {y : V} (he : es[i]? = some [y]) :
    ∃ p, indexAddrV P t x (vN k i) = some p ∧ ∀ q, ((ptrCells H p).bind fun x => ldc (some (false, q)) x.1 x.2) = some y := by
  obtain ⟨p, h1, c, o, h2, h3, h4⟩ := elem_view (k := k) ha ht hv he rfl
  refine ⟨p, h1, fun q => ?_⟩
  rw [h2]
  simp only [Option.bind_some, ldc]
  have : (c.drop o).take 1 = [y] := h4
  have h5 : ((c.drop o).take 1)[0]? = some y := by rw [this]; rfl
  rw [List.getElem?_take, if_pos (by omega), List.getElem?_drop] at h5
  simpa using h5

def nE (k : IntKind) (l : List Nat) : List (List V) := l.map fun n => [vN k n]
theorem nE_len (k : IntKind) (l : List Nat) : (nE k l).length = l.length := by simp [nE]
theorem nE_take (k : IntKind) (l : List Nat) (n : Nat) : (nE k l).take n = nE k (l.take n) := by simp [nE, List.map_take]
theorem nE_drop (k : IntKind) (l : List Nat) (n : Nat) : (nE k l).drop n = nE k (l.drop n) := by simp [nE, List.map_drop]
theorem nE_append (k : IntKind) (l m : List Nat) : nE k l ++ nE k m = nE k (l ++ m) := by simp [nE]
theorem nE_get (k : IntKind) (l : List Nat) (i : Nat) (h : i < l.length) : (nE k l)[i]? = some [vN k (l.getD i 0)] := by
  simp [nE, List.getElem?_eq_getElem h]
theorem nE_ones (k : IntKind) (l : List Nat) : onesEs (nE k l) = true := by
  simp [onesEs, nE, one, vN]
end Go.Av
