/-
  Abstract values: rows of numbers; stores.
-/
import Derived.Test.YtgjlmmjdofceiaaAv23
namespace Go.Av
open Go.RowKit

def nR (k : IntKind) (l : List Nat) : List V := l.map (vN k)
theorem nR_len (k : IntKind) (l : List Nat) : (nR k l).length = l.length := by simp [nR]
theorem nR_get (k : IntKind) (l : List Nat) (i : Nat) (h : i < l.length) : (nR k l)[i]? = some (vN k (l.getD i 0)) := by
  simp [nR, List.getElem?_eq_getElem h]
theorem nR_set (k : IntKind) (l : List Nat) (i n : Nat) : (nR k l).set i (vN k n) = nR k (l.set i n) := by simp [nR, List.map_set]
theorem nR_ones (k : IntKind) (l : List Nat) : (nR k l).all one = true := by simp [nR, one, vN]
theorem nR_rep (k : IntKind) (n m : Nat) : List.replicate n (vN k m) = nR k (List.replicate n m) := by simp [nR]
theorem nR_append (k : IntKind) (l m : List Nat) : nR k l ++ nR k m = nR k (l ++ m) := by simp [nR]
theorem nR_take (k : IntKind) (l : List Nat) (n : Nat) : (nR k l).take n = nR k (l.take n) := by simp [nR, List.map_take]
theorem nR_drop (k : IntKind) (l : List Nat) (n : Nat) : (nR k l).drop n = nR k (l.drop n) := by simp [nR, List.map_drop]

theorem splice_one (cells : List V) (o : Nat) (x : V) (h : o < cells.length) : splice cells o [x] = cells.set o x := by
  unfold splice
  rw [List.set_eq_take_append_cons_drop, if_pos h]
  simp

theorem splice_all (cells xs : List V) (h : xs.length = cells.length) : splice cells 0 xs = xs := by
  unfold splice
  rw [List.drop_eq_nil_of_le (by omega)]
  simp

section
variable {P : Program} {H : Hp} {t : TypeId} {b : Nat}

/-- A whole array or struct. -/
theorem store_agg {cells xs : List V} {n : Nat} (hb : H b = some (.row cells)) (ht : tyT P t = some (true, n)) (hx : xs.length = n) (ho : xs.all one = true) (hc : cells.length = n) :
    storeV P H t (.ptr b 0) (.agg xs) = some (upd H b (some (.row xs))) := by
  simp only [storeV, ht, cellsV, hb]
  rw [if_pos ⟨hx, ho⟩, if_pos (by omega), splice_all _ _ (by omega)]

/-- One cell. -/
theorem store_cell {cells : List V} {x : V} {off : Nat} (hb : H b = some (.row cells)) (ht : tyT P t = some (false, 1)) (hx : cellsV x = some [x]) (ho : one x = true) (hc : off < cells.length) :
    storeV P H t (.ptr b off) x = some (upd H b (some (.row (cells.set off x)))) := by
  simp only [storeV, ht, hx, hb]
  rw [if_pos ⟨rfl, by simp [ho]⟩, if_pos (by simp only [List.length_cons, List.length_nil]; omega), splice_one _ _ _ hc]

theorem load_agg {cells : List V} {n : Nat} (hb : H b = some (.row cells)) (ht : tyT P t = some (true, n)) (hc : cells.length = n) : ((ptrCells H (.ptr b 0)).bind fun x => ldc (tyT P t) x.1 x.2) = some (.agg cells) := by
  simp only [ptrCells, hb, Option.bind_some, ht, ldc]
  rw [if_pos (by omega), List.drop_zero, List.take_of_length_le (by omega)]

theorem load_cell {cells : List V} {n off : Nat} {x : V} (hb : H b = some (.row cells)) (ht : tyT P t = some (false, n)) (hc : cells[off]? = some x) : ((ptrCells H (.ptr b off)).bind fun x => ldc (tyT P t) x.1 x.2) = some x := by
  simp only [ptrCells, hb, Option.bind_some, ht, ldc, hc]

theorem vN_cells (k : IntKind) (n : Nat) : cellsV (vN k n) = some [vN k n] := rfl
theorem vN_one (k : IntKind) (n : Nat) : one (vN k n) = true := rfl
theorem upd_eq {α : Type} (f : Nat → α) (i : Nat) (x : α) : upd f i x i = x := by simp [upd]

theorem srcV_view {sz : Nat} {tx : TypeId} {x : V} {es : List (List V)} (hs : sliT P tx = some sz) (h : view H sz x = some es) : srcV P H sz tx x = some es := by
  unfold srcV
  unfold sliT at hs
  split at hs
  · rename_i e he
    rw [he]
    exact h
  · cases hs

/-- append to nothing. -/
theorem append_new {tx : TypeId} {sz : Nat} {d x : V} {es : List (List V)} {Q : V → Hp → Prop} (hd : d = .nils ∨ d = .sl sz [] true) (hs : dstT P t = some sz) (hx : sliT P tx = some sz) (hv : view H sz x = some es) (ho : onesEs es = true)
    (hb : es.length * bytesT P t ≤ 140737488355328) (hl : es.length ≤ 140737488355328) (h1 : es = [] → Q d H) (h2 : es ≠ [] → ∀ b, H b = none → Q (.osl b 0 es.length sz false) (upd H b (some (.arr sz es)))) : wpAppend P H t tx d x Q := by
  refine .inl ⟨sz, es, hs, srcV_view hx hv, ho, ?_⟩
  rcases hd with rfl | rfl
  · exact ⟨hb, hl, h1, h2⟩
  · refine ⟨rfl, rfl, by simpa using hb, by simpa using hl, h1, ?_⟩
    simpa using h2

/-- append to an owned slice. -/
theorem append_osl {tx : TypeId} {sz b0 n : Nat} {full : Bool} {x : V} {es fs : List (List V)} {Q : V → Hp → Prop} (hH : H b0 = some (.arr sz es)) (hn : n = es.length) (hs : dstT P t = some sz) (hx : sliT P tx = some sz) (hv : view H sz x = some fs) (ho : onesEs fs = true)
    (hb : (n + fs.length) * bytesT P t ≤ 140737488355328) (hl : n + fs.length ≤ 140737488355328) (h : ∀ b, (b = b0 ∨ H b = none) → Q (.osl b 0 (n + fs.length) sz false) (upd (upd H b0 none) b (some (.arr sz (es ++ fs))))) : wpAppend P H t tx (.osl b0 0 n sz full) x Q := by
  refine .inl ⟨sz, fs, hs, srcV_view hx hv, ho, ?_⟩
  simp only [hH]
  refine ⟨trivial, trivial, trivial, by omega, hb, hl, fun b hbb => ?_⟩
  rw [List.take_of_length_le (by omega)]
  exact h b hbb

/-- A heap that holds at least as much. -/
def hle (H H' : Hp) : Prop := ∀ b y, H b = some y → H' b = some y
theorem hle_refl (H : Hp) : hle H H := fun _ _ h => h
theorem hle_upd {H H' : Hp} (h : hle H H') {c : Nat} {z : Option Blk} (hc : H c = none) : hle H (upd H' c z) := fun b y hb => by
  have hne : b ≠ c := fun e => by subst e; rw [hb] at hc; cases hc
  rw [upd_ne _ _ _ hne]
  exact h b y hb
theorem ne_of_none {H : Hp} {b c : Nat} {x : Blk} (hb : H b = some x) (hc : H c = none) : b ≠ c := fun e => by subst e; rw [hb] at hc; cases hc
end
end Go.Av
