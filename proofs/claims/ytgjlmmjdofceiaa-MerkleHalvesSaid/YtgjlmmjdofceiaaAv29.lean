/-
  Abstract values: arguments: bytes, hashes.
-/
import Derived.Test.YtgjlmmjdofceiaaAv28
import Derived.Deep.Slices
import Derived.SizedLaws
namespace Go.Av
open Go.RowKit Go.ChangeShapes Go.WideShapes Go.Deep

/-- A number in a cell. -/
def cellN (W : World) (a : Addr) (o : Nat) : Nat := match W.cell? (a.add o) with
  | some (.int _ n) => n.toNat
  | _ => 0

section
variable {H : Type} {enc : TypeId × Value → H} {P : Program} {W : World} {sp : Nat → Bool} {held : Bool}

/-- The cells of an array of bytes. -/
theorem trod_bytes {t e n fuel : Nat} {cs : List Value} {x : DataW H × List MemPlace} (ht : P.underlying t = some (.array n e)) (he : P.underlying e = some (.int .u8)) (hce : P.cellsOf e = 1) (h : DataW.trod enc P W 0 sp held fuel t cs = some x) :
    cs.length = P.cellsOf t ∧ ∀ j, j < n → ∃ m : Nat, cs[j]? = some (.int .u8 m) ∧ m < 256 := by
  obtain ⟨xs, f, _, _, hl, hx, hg⟩ := DataW.trod_array ht h
  refine ⟨hl, fun j hj => ?_⟩
  have h1 := hg j hj
  rw [List.getElem?_eq_getElem (by omega), hce, Nat.mul_one] at h1
  obtain ⟨z, hz, _, hw⟩ := DataW.trod_int he h1
  have hb : 0 ≤ z ∧ z ≤ 255 := by
    simp only [Lit.wf, IntKind.min, IntKind.max, IntKind.signed, IntKind.bits] at hw
    simpa using hw
  have h2 : ((cs.drop j).take 1)[0]? = some (.int .u8 z) := by rw [hz]; rfl
  rw [List.getElem?_take, if_pos (by omega), List.getElem?_drop, Nat.add_zero] at h2
  exact ⟨z.toNat, by rw [h2, Int.toNat_of_nonneg hb.1], by omega⟩

theorem addr_spot {a : Addr} (h : a.spot = none) (j : Nat) : a.add j = ⟨a.block, a.off + j, none⟩ := by
  obtain ⟨b, o, s⟩ := a
  simp only at h
  subst h
  exact addr_add b o j

/-- A slice of arrays of n bytes. -/
theorem arg_arrays {t e u n fuel : Nat} {a : Addr} {len cap : Nat} {x : DataW H × List MemPlace} (ht : P.underlying t = some (.slice e)) (he : P.underlying e = some (.array n u)) (hu : P.underlying u = some (.int .u8)) (hcu : P.cellsOf u = 1) (hce : P.cellsOf e = n)
    (ha : a.spot = none) (h : DataW.trod enc P W 0 (fun _ => true) held fuel t [.slice (some a) len cap] = some x) :
    ∃ hs : List (List Nat), hs.length = len ∧ (∀ h ∈ hs, h.length = n ∧ ∀ y ∈ h, y < 256) ∧ Conc (K0 W) (.slice (some a) len cap) (.sl n (hs.map (nR .u8)) false) ∧
      ∃ es sps, x.1 = .slice es sps ∧ es.length = len ∧ len ≤ cap := by
  rcases open_slice ht h with ⟨h0, _⟩ | ⟨a', len', cap', m, f, D, Pl, hcs, _, hle, _, hm, hx, hel⟩
  · cases h0
  · cases hcs
    rw [if_pos rfl] at hm
    subst hm
    have cell : ∀ i j, i < len → j < n → ∃ m : Nat, W.cell? (a.add (i * n + j)) = some (.int .u8 m) ∧ m < 256 := fun i j hi hj => by
      obtain ⟨cs', h1, h2⟩ := hel i (by omega)
      obtain ⟨_, hb⟩ := trod_bytes he hu hcu h2
      obtain ⟨m, hm, hlt⟩ := hb j hj
      obtain ⟨_, hcl, hat⟩ := World.cells?_some h1
      refine ⟨m, ?_, hlt⟩
      have := hat j (by rw [hce]; exact hj)
      rw [add_add, hce] at this
      rw [this]
      exact hm
    refine ⟨(List.range len).map fun i => (List.range n).map fun j => cellN W a (i * n + j), by simp, ?_, ?_, _, _, by rw [hx], by simp, hle⟩
    · intro h hm
      obtain ⟨i, hi, rfl⟩ := List.mem_map.1 hm
      refine ⟨by simp, fun y hy => ?_⟩
      obtain ⟨j, hj, rfl⟩ := List.mem_map.1 hy
      obtain ⟨m, h1, h2⟩ := cell i j (List.mem_range.1 hi) (List.mem_range.1 hj)
      rw [cellN, h1]
      simpa using h2
    · obtain ⟨b, off, s⟩ := a
      simp only at ha
      subst ha
      have hadd : ∀ j, (⟨b, off, none⟩ : Addr).add j = ⟨b, off + j, none⟩ := fun j => addr_add b off j
      have hlen : (((List.range len).map fun i => (List.range n).map fun j => cellN W ⟨b, off, none⟩ (i * n + j)).map (nR .u8)).length = len := by simp
      have := Conc.sl (k := K0 W) b off _ n (((List.range len).map fun i => (List.range n).map fun j => cellN W ⟨b, off, none⟩ (i * n + j)).map (nR .u8)) false (fun i j => .int .u8 (cellN W ⟨b, off, none⟩ (i * n + j)))
        (fun e he => by
          obtain ⟨h, hh, rfl⟩ := List.mem_map.1 he
          obtain ⟨i, _, rfl⟩ := List.mem_map.1 hh
          rw [nR_len]; simp) (by rw [hlen]; exact hle) (fun h => by cases h)
        (fun i j hi hj => by
          rw [hlen] at hi
          obtain ⟨m, h1, h2⟩ := cell i j hi hj
          have e1 : off + i * n + j = off + (i * n + j) := by omega
          show W.cell? ⟨b, off + i * n + j, none⟩ = _
          rw [hadd] at h1
          rw [e1, h1, cellN, hadd, h1]
          rfl)
        (fun i e j x hi hj => by
          simp only [List.getElem?_map, Option.map_eq_some_iff, List.getElem?_range] at hi
          obtain ⟨h, ⟨i', hi', rfl⟩, rfl⟩ := hi
          have hi2 : i' = i := by
            have := List.getElem?_eq_some_iff.1 hi'
            obtain ⟨h1, h2⟩ := this
            rw [List.getElem_range] at h2
            exact h2.symm
          subst hi2
          simp only [nR, List.getElem?_map, Option.map_eq_some_iff] at hj
          obtain ⟨y, ⟨j', hj', rfl⟩, rfl⟩ := hj
          have hj2 : j' = j := by
            have := List.getElem?_eq_some_iff.1 hj'
            obtain ⟨h1, h2⟩ := this
            rw [List.getElem_range] at h2
            exact h2.symm
          subst hj2
          exact .int _ _)
      rw [hlen] at this
      exact this

theorem okWide_spot {r : Reach} {base t e : Nat} {a : Addr} {len cap : Nat} (ht : P.underlying t = some (.slice e)) (h : Value.okWide P W r base t (.slice (some a) len cap)) : a.spot = none := by
  unfold Value.okWide at h
  rw [ht] at h
  simp only at h
  unfold Cell.okWide at h
  rw [ht] at h
  simp only at h
  unfold Cell.ok at h
  rw [ht] at h
  exact h.2.2.2.1
end
end Go.Av
