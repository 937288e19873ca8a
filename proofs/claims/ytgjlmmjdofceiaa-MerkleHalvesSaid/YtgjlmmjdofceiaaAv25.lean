/-
  Abstract values: drawn regions with effects in their heads: the rules.
-/
import Derived.Test.YtgjlmmjdofceiaaAv24
namespace Go.Av
open Go.RowKit

theorem upd_none {α : Type} {f : Nat → Option α} {d e : Nat} {x : α} (h : upd f d (some x) e = none) : d ≠ e ∧ f e = none := by
  by_cases a : e = d
  · subst a; simp at h
  · exact ⟨fun b => a b.symm, by rwa [upd_ne _ _ _ a] at h⟩

theorem upd_comm {α : Type} (f : Nat → α) {i j : Nat} (x y : α) (h : i ≠ j) : upd (upd f i x) j y = upd (upd f j y) i x := by
  funext m
  simp only [upd_apply]
  by_cases a : m = i <;> by_cases b : m = j <;> simp_all

section
variable {P : Program} {S : Nat → Spec} {Y : YEnv} {O : List Nat} {n : Nat} {ops : Array Oper} {o : Oper} {t : T} {H : Hp} {C : Hp → Prop} {m : Nat} {fx : Nat → Bool} {L : Array Bool → T → Hp → Prop} {g : Nat}

theorem wpC_drawE {top : Bool} {Q : Exit → T → Hp → Prop} {id : Nat} (m : Nat) (qs : List Nat) (fx : Nat → Bool) (C : Hp → Prop) (hB : drawB ops m qs = true) (hC : C H)
    (h : ∀ (L : Array Bool → T → Hp → Prop) (B : Array Bool → Bool), B = Region.seqB .any ops (ops.size - m) m → (∀ l t' H', B l = true → wpOps P S Y O n ops (ops.toList.drop m) t' H' (Q .normal) → L l t' H') →
      walkA P S Y O n ops C m fx L (m - qs.length) qs (Array.replicate ops.size false) t H) : wpC P S Y O n (.region id ops true) top Q t H := by
  unfold wpC
  rw [if_pos rfl]
  exact ⟨m, C, fx, qs, hB, hC, h _ _ rfl fun _ _ _ a b => ⟨a, b⟩⟩

theorem walkA_cons {i : Nat} {r : List Nat} {l : Array Bool} (ho' : ops.toList[i]? = some o) (hf : fx i = false) (hg : wantedV ops t o.guard = some true)
    (h : ∃ x, quietV P S Y O C o t x ∧ walkA P S Y O n ops C m fx L g r (l.setIfInBounds i true) (putT n t o.dst x) H) : walkA P S Y O n ops C m fx L g (i :: r) l t H := by
  refine ⟨hf, ?_⟩
  have ho : ops[i]? = some o := by rw [← Array.getElem?_toList]; exact ho'
  unfold opA
  simp only [ho, hg, hf]
  exact h

theorem walkA_nil {l : Array Bool} (h : anyA P S Y O n ops C m fx L g l t H) : walkA P S Y O n ops C m fx L g [] l t H := h

theorem anyA_zero {l : Array Bool} (h : L l t H) : anyA P S Y O n ops C m fx L 0 l t H := h

theorem anyA_succ {l : Array Bool} (rs : List Nat) (hr : Region.ready .any ops l = rs) (hne : rs ≠ []) (h : ∀ i ∈ rs, i < m ∧ opA P S Y O n ops C fx i (anyA P S Y O n ops C m fx L g (l.setIfInBounds i true)) t H) : anyA P S Y O n ops C m fx L (g + 1) l t H := by
  refine ⟨by rw [hr]; exact hne, fun i hi => h i (by rw [hr] at hi; exact hi)⟩

theorem opA_fx {i : Nat} {K : T → Hp → Prop} (ho' : ops.toList[i]? = some o) (hf : fx i = true) (hg : wantedV ops t o.guard = some true)
    (h : ∃ Q : V → Hp → Prop, wpOp P S Y (owned O o) H (evT t) o.op Q ∧ ∀ x H', Q x H' → C H' ∧ K (putT n t o.dst x) H') : opA P S Y O n ops C fx i K t H := by
  have ho : ops[i]? = some o := by rw [← Array.getElem?_toList]; exact ho'
  unfold opA
  simp only [ho, hg, hf, if_true]
  exact h
/-- An alloc that may come up at whatever time. -/
theorem opA_alloc {i : Nat} {K : T → Hp → Prop} {ty : TypeId} {z : List V} (ho' : ops.toList[i]? = some o) (hop : o.op = .alloc ty) (hf : fx i = true) (hg : wantedV ops t o.guard = some true) (hz : zeroT P ty = some z)
    (h : ∀ b, H b = none → C (upd H b (some (.row z))) ∧ K (putT n t o.dst (.ptr b 0)) (upd H b (some (.row z)))) : opA P S Y O n ops C fx i K t H := by
  refine opA_fx ho' hf hg ⟨fun x H' => ∃ b, H b = none ∧ x = .ptr b 0 ∧ H' = upd H b (some (.row z)), ?_, ?_⟩
  · rw [hop]
    exact ⟨z, hz, fun b hb => ⟨b, hb, rfl, rfl⟩⟩
  · rintro x H' ⟨b, hb, rfl, rfl⟩
    exact h b hb
end
end Go.Av
