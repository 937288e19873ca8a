/-
  Abstract values: a function's end; 'Sound' out of 'wpC'.
-/
import Derived.Test.YtgjlmmjdofceiaaAv18
namespace Go.Av
open Go.RowKit

/-! ### results -/
def resV (P : Program) (t : T) (H : Hp) : ResultVar → Option V
  | .tmp i => some (t i)
  | .cell a ty => (ptrCells H (t a)).bind fun (c, o) => ldc (tyT P ty) c o

def ressV (P : Program) (t : T) (H : Hp) : List ResultVar → Option (List V)
  | [] => some []
  | r :: rs => (resV P t H r).bind fun x => (ressV P t H rs).map (x :: ·)

def oneV : List V → V
  | [x] => x
  | xs => .tup xs

def resSem (tmps : Array Value) : ResultVar → Sem Value
  | .tmp t => pure (tmps.getD t undef)
  | .cell a t => do loadVar t (← asAddr (tmps.getD a undef))

theorem resV_sound {P : Program} {k : K} {H : Hp} {w : World} (hr : Rel k H w) {n : Nat} {a : Act} {t : T} (hT : RelT k n a t) {r : ResultVar} {x : V} (h : resV P t H r = some x) :
    ∃ v, (resSem a.tmps r).run P w = .ok v w ∧ Conc k v x := by
  cases r with
  | tmp i => cases h; exact ⟨_, rfl, hT.2 i⟩
  | cell a' ty =>
    simp only [resV, Option.bind_eq_some_iff] at h
    obtain ⟨⟨c, o⟩, h1, h2⟩ := h
    obtain ⟨u, g1, g2⟩ := load_sound hr (hT.2 a') h1 h2
    obtain ⟨b, o', hv, _⟩ := ptrCells_sound hr (hT.2 a') h1
    refine ⟨u, ?_, g2⟩
    simp only [resSem]
    rw [hv] at g1 ⊢
    exact g1

theorem ressV_sound {P : Program} {k : K} {H : Hp} {w : World} (hr : Rel k H w) {n : Nat} {a : Act} {t : T} (hT : RelT k n a t) : ∀ (rs : List ResultVar) (xs : List V), ressV P t H rs = some xs →
    ∃ vs : List Value, (rs.mapM (resSem a.tmps)).run P w = .ok vs w ∧ vs.length = xs.length ∧ ∀ (j : Nat) v x, vs[j]? = some v → xs[j]? = some x → Conc k v x
  | [], xs, h => by cases h; exact ⟨[], rfl, rfl, fun j v x hj _ => by simp at hj⟩
  | r :: rs, xs, h => by
    simp only [ressV, Option.bind_eq_some_iff, Option.map_eq_some_iff] at h
    obtain ⟨x, h1, ys, h2, rfl⟩ := h
    obtain ⟨v, g1, g2⟩ := resV_sound hr hT h1
    obtain ⟨vs, g3, g4, g5⟩ := ressV_sound hr hT rs ys h2
    refine ⟨v :: vs, ?_, by simp [g4], fun j u y p q => ?_⟩
    · rw [List.mapM_cons]
      simp only [Sem.run_bind, g1, Result.andThen_ok, g3, Sem.run_pure]
    · cases j with
      | zero => simp at p q; subst p; subst q; exact g2
      | succ j => exact g5 j u y (by simpa using p) (by simpa using q)

theorem results_sound {P : Program} {k : K} {H : Hp} {w : World} (hr : Rel k H w) {n : Nat} {a : Act} {t : T} (hT : RelT k n a t) {fn : Func} {xs : List V} (h : ressV P t H fn.results.toList = some xs) :
    ∃ v, (results fn a.tmps).run P w = .ok v w ∧ Conc k v (oneV xs) := by
  obtain ⟨vs, g1, g2, g3⟩ := ressV_sound hr hT _ _ h
  have hm : (fn.results.mapM (resSem a.tmps)).run P w = .ok vs.toArray w := by
    rw [Array.mapM_eq_mapM_toList]
    simp only [map_eq_pure_bind, Sem.run_bind, g1, Result.andThen_ok, Sem.run_pure]
  have he : results fn a.tmps = (do
      let vs ← fn.results.mapM (resSem a.tmps)
      pure (if h : vs.size = 1 then vs[0] else .tuple vs)) := by
    unfold results
    congr 2
  rw [he]
  simp only [Sem.run_bind, hm, Result.andThen_ok, Sem.run_pure]
  refine ⟨_, rfl, ?_⟩
  clear hm g1 he
  cases vs with
  | nil =>
    cases xs with
    | nil => exact .tup _ _ rfl (fun j v x hj _ => by simp at hj)
    | cons x xs => simp at g2
  | cons v vs =>
    cases xs with
    | nil => simp at g2
    | cons x xs =>
      cases vs with
      | nil =>
        cases xs with
        | nil => exact g3 0 v x rfl rfl
        | cons y ys => simp at g2
      | cons u us =>
        cases xs with
        | nil => simp at g2
        | cons y ys =>
          simp only [oneV]
          rw [dif_neg (by simp)]
          exact .tup _ _ (by simpa using g2.symm) (fun j v x p q => g3 j v x (by simpa using p) q)

def initT (args : List V) : T := fun i => (args[i]?).getD (.tup [])

theorem initT_rel {k : K} {vs : Array Value} {xs : List V} (h : ConcL k vs xs) {n : Nat} (hn : xs.length ≤ n) : RelT k n { tmps := vs ++ Array.replicate (n - vs.size) undef, defers := [] } (initT xs) := by
  obtain ⟨h1, h2⟩ := h
  refine ⟨by simp; omega, fun i => ?_⟩
  simp only
  rw [Array.getD_eq_getD_getElem?]
  by_cases hi : i < vs.size
  · rw [Array.getElem?_append_left hi, Array.getElem?_eq_getElem hi]
    have hx : i < xs.length := by omega
    simp only [initT, List.getElem?_eq_getElem hx, Option.getD_some]
    exact h2 i _ _ (Array.getElem?_eq_getElem hi) (List.getElem?_eq_getElem hx)
  · have hx : xs[i]? = none := List.getElem?_eq_none (by omega)
    simp only [initT, hx, Option.getD_none]
    rw [Array.getElem?_append_right (by omega), Array.getElem?_replicate]
    split <;> exact .tup _ _ rfl (fun j v x hj _ => by simp at hj)

/-- What the body must come to. -/
def endsA (P : Program) (rs : List ResultVar) (Q : V → Hp → Prop) : Exit → T → Hp → Prop
  | .normal, t, H | .ret, t, H => ∃ xs, ressV P t H rs = some xs ∧ ∃ B, sealA B (oneV xs) H Q
  | _, _, _ => False

end Go.Av
