/-
  Abstract values: operations that only compute, and that they are what the machine does.
-/
import Derived.Test.YtgjlmmjdofceiaaAv1
import Derived.DeepKeys3
namespace Go.Av
open Go.RowKit

def tyT (P : Program) (t : TypeId) : Option (Bool × Nat) :=
  match P.underlying t, P.info? t with
  | some (.struct _), some i | some (.array _ _), some i => some (true, i.size)
  | some _, some i => some (false, i.size)
  | _, _ => none

/-- The length and the element's size of an array type; the element's size of a slice type; the address' of a pointer to an array. -/
def arrT (P : Program) (t : TypeId) : Option (Nat × Nat) :=
  match P.underlying t with
  | some (.array n e) => (P.info? e).map fun i => (n, i.size)
  | _ => none
def sliT (P : Program) (t : TypeId) : Option Nat :=
  match P.underlying t with
  | some (.slice e) => (P.info? e).map fun i => i.size
  | _ => none
/-- A field's place and type. -/
def fldT (P : Program) (s : TypeId) (f : Nat) : Option (Nat × TypeId) :=
  match P.underlying s with
  | some (.struct fs) => (fs[f]?).bind fun x => match P.info? x.type with
    | some i => if i.size = 0 then none else some (x.offset, x.type)
    | none => none
  | _ => none
def intT (P : Program) (t : TypeId) : Option IntKind :=
  match P.underlying t with
  | some (.int k) => some k
  | _ => none

def toVal : V → Option Value
  | .int k n => some (.int k n)
  | .bool b => some (.bool b)
  | .str s => some (.string s)
  | _ => none
def toVals : List V → Option (List Value)
  | [] => some []
  | x :: xs => match toVal x, toVals xs with
    | some v, some vs => some (v :: vs)
    | _, _ => none
def litsV (P : Program) (t : TypeId) (xs : List V) : Option (List Lit) := (toVals xs).bind fun vs => P.keyLits 20 t vs

def chunks (sz : Nat) : Nat → List V → List (List V)
  | 0, _ => []
  | n + 1, cs => cs.take sz :: chunks sz n (cs.drop sz)

/-- The cells that an address points into, and where. -/
def ptrCells (H : Hp) : V → Option (List V × Nat)
  | .ptr b off => match H b with
    | some (.row cells) => some (cells, off)
    | _ => none
  | .eptr b i off sz => match H b with
    | some (.arr sz' es) => if sz' = sz then (es[i]?).map fun e => (e, off) else none
    | _ => none
  | .cptr e off => some (e, off)
  | _ => none

def ldc (tt : Option (Bool × Nat)) (cells : List V) (off : Nat) : Option V :=
  match tt with
  | some (true, n) => if off + n ≤ cells.length then some (.agg ((cells.drop off).take n)) else none
  | some (false, _) => cells[off]?
  | none => none

/-- The elements of a slice. -/
def view (H : Hp) (sz : Nat) : V → Option (List (List V))
  | .nils => some []
  | .sl sz' es _ => if sz' = sz then some es else none
  | .osl b i n sz' _ => match H b with
    | some (.arr sz'' es) => if sz' = sz ∧ sz'' = sz ∧ i + n ≤ es.length then some ((es.drop i).take n) else none
    | _ => none
  | .rsl b off n sz' => match H b with
    | some (.row cells) => if sz' = sz ∧ off + n * sz ≤ cells.length then some (chunks sz n (cells.drop off)) else none
    | _ => none
  | _ => none

def slen : V → Option Nat
  | .nils => some 0
  | .sl _ es _ => some es.length
  | .osl _ _ n _ _ => some n
  | .rsl _ _ n _ => some n
  | _ => none

theorem toVal_conc {k : K} {v u : Value} {x : V} (h : Conc k v x) (hx : toVal x = some u) : v = u := by
  cases h <;> simp [toVal] at hx <;> exact hx

theorem toVals_conc {k : K} : ∀ (xs : List V) (vs us : List Value), vs.length = xs.length → (∀ (j : Nat) v x, vs[j]? = some v → xs[j]? = some x → Conc k v x) → toVals xs = some us → vs = us
  | [], vs, us, hl, _, h => by
    simp [toVals] at h; subst h
    exact List.eq_nil_of_length_eq_zero (by simpa using hl)
  | x :: xs, vs, us, hl, hc, h => by
    cases vs with
    | nil => simp at hl
    | cons v vs =>
      simp only [toVals] at h
      split at h
      · rename_i u us' h1 h2
        cases h
        have e1 := toVal_conc (hc 0 v x (by simp) (by simp)) h1
        have e2 := toVals_conc xs vs us' (by simpa using hl) (fun j v' x' a b => hc (j + 1) v' x' (by simpa using a) (by simpa using b)) h2
        rw [e1, e2]
      · cases h

theorem ptrCells_sound {k : K} {H : Hp} {w : World} (hr : Rel k H w) {v : Value} {x : V} (hc : Conc k v x) {cells : List V} {off : Nat} (h : ptrCells H x = some (cells, off)) :
    ∃ b o, v = .pointer (some ⟨b, o + off, none⟩) ∧ ∃ vs : Nat → Value, ∀ (j : Nat) y, cells[j]? = some y → w.cell? ⟨b, o + j, none⟩ = some (vs j) ∧ Conc k (vs j) y := by
  cases hc with
  | ptr b off' =>
    simp only [ptrCells] at h
    split at h
    · rename_i cells' hb
      cases h
      obtain ⟨cs, e, h1, h2, h3⟩ := hr.own _ _ hb
      refine ⟨b, 0, by simp, fun j => cs.getD j undef, fun j y hy => ?_⟩
      have hj : j < cs.size := by rw [← h2]; exact (List.getElem?_eq_some_iff.1 hy).1
      have e1 : cs[j]? = some (cs.getD j undef) := by simp [hj]
      rw [Nat.zero_add, cell?_cells h1]
      exact ⟨e1, h3 j _ y e1 hy⟩
    · cases h
  | eptr b i off' sz =>
    simp only [ptrCells] at h
    split at h
    · rename_i sz' es hb
      split at h
      · rename_i hsz
        subst hsz
        simp only [Option.map_eq_some_iff, Prod.mk.injEq] at h
        obtain ⟨e, he, rfl, rfl⟩ := h
        obtain ⟨cs, e1, h1, h2, h3, h4⟩ := hr.own _ _ hb
        refine ⟨b, i * sz', rfl, fun j => cs.getD (i * sz' + j) undef, fun j y hy => ?_⟩
        obtain ⟨v, hv, hcv⟩ := h4 i e j y he hy
        have hj : i * sz' + j < cs.size := (Array.getElem?_eq_some_iff.1 hv).1
        have e2 : cs[i * sz' + j]? = some (cs.getD (i * sz' + j) undef) := by simp [hj]
        rw [cell?_cells h1]
        rw [e2] at hv; cases hv
        exact ⟨e2, hcv⟩
      · cases h
    · cases h
  | cptr b o off' e vs hM hcv =>
    simp only [ptrCells, Option.some.injEq, Prod.mk.injEq] at h
    obtain ⟨rfl, rfl⟩ := h
    exact ⟨b, o, rfl, vs, fun j y hy => ⟨(hr.imm _ _ _ (hM j (List.getElem?_eq_some_iff.1 hy).1)).1, hcv j y hy⟩⟩
  | _ => simp [ptrCells] at h

theorem addr_add (b o j : Nat) : (⟨b, o, none⟩ : Addr).add j = ⟨b, o + j, none⟩ := by
  unfold Addr.add; split <;> simp_all

theorem run_isAgg_ty {P : Program} {t : TypeId} {c : Bool} {n : Nat} (h : tyT P t = some (c, n)) (w : World) : (isAgg t).run P w = .ok c w ∧ (sizeOf t).run P w = .ok n w := by
  unfold tyT at h
  split at h
  · rename_i fs i h1 h2
    cases h
    exact ⟨by simp [isAgg, run_underlying h1], by simp [sizeOf, typeInfo, h2]⟩
  · rename_i n' e i h1 h2
    cases h
    exact ⟨by simp [isAgg, run_underlying h1], by simp [sizeOf, typeInfo, h2]⟩
  · rename_i d i hn1 hn2 h1 h2
    cases h
    refine ⟨?_, by simp [sizeOf, typeInfo, h2]⟩
    cases d <;> simp_all [isAgg, run_underlying h1]
  · cases h

theorem ConcL.of_list {k : K} {vs : List Value} {xs : List V} (hl : xs.length = vs.length) (h : ∀ (j : Nat) v x, vs[j]? = some v → xs[j]? = some x → Conc k v x) : ConcL k vs.toArray xs :=
  ⟨by simpa using hl, fun j v x a b => h j v x (by simpa using a) b⟩

theorem load_sound {P : Program} {k : K} {H : Hp} {w : World} (hr : Rel k H w) {v : Value} {x : V} (hc : Conc k v x) {t : TypeId} {cells : List V} {off : Nat} {y : V}
    (h : ptrCells H x = some (cells, off)) (hy : ldc (tyT P t) cells off = some y) : ∃ u, (Instr.loadAt t v).run P w = .ok u w ∧ Conc k u y := by
  obtain ⟨b, o, rfl, vs, hvs⟩ := ptrCells_sound hr hc h
  unfold ldc at hy
  split at hy
  · rename_i n ht
    split at hy
    · rename_i hle
      cases hy
      obtain ⟨ha, hs⟩ := run_isAgg_ty ht w
      have hload : (loadCells ⟨b, o + off, none⟩ n).run P w = .ok ((List.range n).map fun j => vs (off + j)).toArray w := by
        refine run_loadCells w ⟨b, o + off, none⟩ n (fun j => vs (off + j)) (fun j hj => ?_)
        have : off + j < cells.length := by omega
        rw [addr_add, Nat.add_assoc]
        exact (hvs (off + j) _ (List.getElem?_eq_getElem this)).1
      refine ⟨.agg ((List.range n).map fun j => vs (off + j)).toArray, ?_, ?_⟩
      · simp [Instr.loadAt, Instr.sureAddr, loadVar, ha, hs, hload]
      · refine .agg _ _ (by simp; omega) (fun j v' x' h1 h2 => ?_)
        simp only [List.getElem?_toArray, List.getElem?_map, Option.map_eq_some_iff] at h1
        obtain ⟨j', h3, rfl⟩ := h1
        obtain ⟨hlt, rfl⟩ := List.getElem?_eq_some_iff.1 h3
        simp only [List.length_range] at hlt
        simp only [List.getElem_range]
        rw [List.getElem?_take_of_lt hlt, List.getElem?_drop] at h2
        exact (hvs (off + j) _ h2).2
    · cases hy
  · rename_i n ht
    obtain ⟨ha, hs⟩ := run_isAgg_ty ht w
    obtain ⟨h1, h2⟩ := hvs off y hy
    exact ⟨vs off, by simp [Instr.loadAt, Instr.sureAddr, loadVar, ha, h1], h2⟩
  · cases hy

end Go.Av
