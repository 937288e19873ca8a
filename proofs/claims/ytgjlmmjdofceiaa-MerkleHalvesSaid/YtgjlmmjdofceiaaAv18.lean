/-
  Abstract values: the soundness of 'wpC': a range over a function; all code.
-/
import Derived.Test.YtgjlmmjdofceiaaAv17
namespace Go.Av
open Go.RowKit

theorem upd_upd {α : Type} (f : Nat → α) (i : Nat) (x y : α) : upd (upd f i x) i y = upd f i y := by
  funext j
  simp only [upd_apply]
  split <;> rfl

section
variable {P : Program} {S : Nat → Spec} {O : List Nat} {n : Nat}

theorem rangeFunc_sound (hS : TSound P S) {g : Operand} {ps : Array Tmp} {assign body : Code} (ha : CSound P S O n assign) (hb : CSound P S O n body) : CSound P S O n (.rangeFunc g ps assign body) := by
  intro top ro ht Y k hY H w hr a t hT lo hmk hlo Q h
  unfold wpC at h
  obtain ⟨htop, f, first, caps, hev, hbody, h⟩ := h
  have hro := ht htop
  subst hro
  have hfv := hT.eval g
  rw [hev] at hfv
  cases hv : a.eval g <;> rw [hv] at hfv <;> cases hfv
  rename_i fa fc i1 i2 i3 i4
  refine wpIn_rangeFunc fun fn _ => ?_
  have hsz : (w.alloc (.deferred (some []))).heap.size = w.heap.size + 1 := by simp
  have hl : H (w.heap.size + 1) = none := by rw [← hsz]; exact (hr.alloc_plain (.deferred (some []))).fresh
  have hd : H w.heap.size = none := hr.fresh
  obtain ⟨ob, hob⟩ : ∃ ob : LoopState → Option Code → Obj, ob = fun st p => .loop { state := st, pending := p, fn := fn, tmps := a.tmps, params := ps, assign, body, defers := w.heap.size } := ⟨_, rfl⟩
  have h := h (w.heap.size + 1) ob hl
  have hraw : ∀ st p cs e fr, ob st p ≠ .cells cs e fr := by subst hob; intro st p cs e fr h; cases h
  have hr1 : Rel k (upd H (w.heap.size + 1) (some (.raw (ob .ready none)))) ((w.alloc (.deferred (some []))).alloc (ob .ready none)) := by
    have := (hr.alloc_plain (.deferred (some []))).alloc_own (ob .ready none) (.raw (ob .ready none)) ⟨heap_alloc_at _ _, hraw _ _⟩
    rwa [hsz] at this
  have hf1 : Fr H w (upd H (w.heap.size + 1) (some (.raw (ob .ready none)))) ((w.alloc (.deferred (some []))).alloc (ob .ready none)) := by
    have := (Fr.alloc_plain H w (.deferred (some []))).trans (Fr.alloc_own (H := H) (w := w.alloc (.deferred (some []))) (ob .ready none) (some (.raw (ob .ready none))))
    rwa [hsz] at this
  have hmk1 : Mk lo ([{ target := .collected w.heap.size, args := #[] }] ++ a.defers) (upd H (w.heap.size + 1) (some (.raw (ob .ready none)))) ((w.alloc (.deferred (some []))).alloc (ob .ready none)) := by
    refine ⟨List.Pairwise.cons (fun d hd e => ?_) hmk.1, fun d hd' => ?_⟩
    · obtain ⟨r, g1, _, g2, _⟩ := hmk.2 d hd
      rw [g1] at e
      cases e
      exact absurd g2 (Nat.lt_irrefl _)
    · rcases List.mem_cons.1 hd' with rfl | hd'
      · refine ⟨w.heap.size, rfl, hlo, by simp only [World.size_alloc]; omega, ?_, ?_⟩
        · rw [upd_ne _ _ _ (by omega)]; exact hd
        · rw [heap_alloc_lt _ _ (by simp)]; exact heap_alloc_at _ _
      · exact (hmk.fr hf1).2 d hd'
  have hY1 : YSound P k (upd Y (w.heap.size + 1) fun args H' QY => args.length = ps.size ∧ H' (w.heap.size + 1) = some (.raw (ob .ready none)) ∧
      wpC P S Y O n assign false (onlyA fun t₁ H₁ => H₁ (w.heap.size + 1) = some (.raw (ob .ready none)) ∧ wpC P S Y O n body false (roundA (w.heap.size + 1) ob QY) t₁ (upd H₁ (w.heap.size + 1) (some (.raw (ob .busy none))))) (putsT n t ps.toList args) H') := by
    intro l args H₁ Q₁ hy k₁ w₁ cargs g1 g2 g3
    by_cases e : l = w.heap.size + 1
    · subst e
      rw [upd_same] at hy
      exact round_sound ha hb hY hT hob hy.1 hy.2.1 hy.2.2 g1 g2 g3
    · rw [upd_ne _ _ _ e] at hy
      exact hY l args H₁ Q₁ hy k₁ w₁ cargs g1 g2 g3
  have hargs : ConcL k (fa ++ #[.func (.yield (w.heap.size + 1)) #[] #[]] ++ fc) (first ++ [.fn (.yield (w.heap.size + 1)) [] []] ++ caps) :=
    (ConcL.append ⟨i1, i2⟩ ⟨rfl, fun j v x p q => by
      cases j with
      | zero => simp at p q; subst p; subst q; exact .fn _ #[] #[] [] [] rfl rfl (fun j v x hj _ => by simp at hj) (fun j v x hj _ => by simp at hj)
      | succ j => simp at p⟩).append ⟨i3, i4⟩
  have hcall := hS f _ _ _ _ h k _ _ hY1 hr1 hargs
  rcases hcall with ⟨v, w', c1, _⟩ | ⟨_, hcall⟩
  · rw [run_callFunc_body hbody] at c1; cases c1
  · have hobr : ob .ready none = .loop { state := .ready, pending := none, fn := fn, tmps := a.tmps, params := ps, assign, body, defers := w.heap.size } := by rw [hob]
    refine ⟨w.heap.size + 1, [{ target := .collected w.heap.size, args := #[] }], (w.alloc (.deferred (some []))).alloc (ob .ready none), { target := .fn (.func f) fc, args := fa ++ #[.func (.yield (w.heap.size + 1)) #[] #[]] }, (w.alloc (.deferred (some []))).alloc (ob .ready none), f, fa ++ #[.func (.yield (w.heap.size + 1)) #[] #[]] ++ fc, (w.alloc (.deferred (some []))).alloc (ob .ready none), ?_, ?_, fun _ _ => trivial, ?_, by simp [FR, Fence.wide], ?_⟩
    · rw [hobr]; exact run_enterLoop_outer fn a.tmps ps assign body
    · have hy : Array.map a.eval #[Operand.const (Value.func (Fn.yield (w.heap.size + 1)) #[] #[])] = #[Value.func (Fn.yield (w.heap.size + 1)) #[] #[]] := by simp [Act.eval]
      simp only [resolve, hv, Deferred.ofValue, Sem.run_pure, hy]
    · simp only [invoke]
      exact run_callFunc_body hbody _ _
    · refine CallsIn.mono hcall fun e w₂ he => ?_
      obtain ⟨v, rfl, x, H', k', ⟨st, jump, d1, d2, d3⟩, e2, e3, _, e5⟩ := he
      have hw₂ : w₂.heap[w.heap.size + 1]? = some (ob st jump) := (e3.own _ _ d1).1
      rw [hob] at hw₂
      obtain ⟨s1, s2⟩ := e3.setRaw d1 (hraw .exhausted jump)
      refine ⟨jump, _, run_endLoop hw₂ d2, ?_⟩
      have hr4 : Rel k' (upd H' (w.heap.size + 1) none) (w₂.putObj (w.heap.size + 1) (ob .exhausted jump)) := by
        have := s1.dropOne (w.heap.size + 1)
        rwa [upd_upd] at this
      have hf3 : Fr (upd H (w.heap.size + 1) (some (.raw (ob .ready none)))) ((w.alloc (.deferred (some []))).alloc (ob .ready none)) (upd H' (w.heap.size + 1) none) (w₂.putObj (w.heap.size + 1) (ob .exhausted jump)) := by
        have := (e5.trans s2).trans (Fr.dropOne (w.heap.size + 1))
        rwa [upd_upd] at this
      have fin : ∀ e, Q e t (upd H' (w.heap.size + 1) none) → StPostE k H w n lo Q e { a with defers := [{ target := .collected w.heap.size, args := #[] }] ++ a.defers } (w₂.putObj (w.heap.size + 1) (ob .exhausted jump)) := fun e hq =>
        ⟨t, _, k', hq, e2, hr4, ⟨hT.1, (hT.mono e2).2⟩, hf1.trans hf3, hmk1.fr hf3⟩
      rw [hob] at fin
      cases jump with
      | none => exact fin .normal d3
      | some c =>
        cases c with
        | ret => exact wpIn_ret (fin .ret d3)
        | exit id => exact wpIn_exit (fin (.exit id) d3)
        | goto x => exact wpIn_goto (fin (.goto x) d3)
        | _ => exact d3.elim

/-- **CODE IS SOUND.** -/
theorem wpC_sound (hm : P.follows .mixedOrders = true) (hS : TSound P S) (c : Code) : CSound P S O n c := by
  induction c with
  | skip => intro top ro ht Y k hY H w hr a t hT lo hmk hlo Q h; exact wpIn_skip (StPostE.of hr hT hmk h)
  | label l => intro top ro ht Y k hY H w hr a t hT lo hmk hlo Q h; exact wpIn_label (StPostE.of hr hT hmk h)
  | exit id => intro top ro ht Y k hY H w hr a t hT lo hmk hlo Q h; exact wpIn_exit (StPostE.of hr hT hmk h)
  | goto l => intro top ro ht Y k hY H w hr a t hT lo hmk hlo Q h; exact wpIn_goto (StPostE.of hr hT hmk h)
  | ret => intro top ro ht Y k hY H w hr a t hT lo hmk hlo Q h; exact wpIn_ret (StPostE.of hr hT hmk h)
  | refuse s => intro top ro ht Y k hY H w hr a t hT lo hmk hlo Q h; exact h.elim
  | seq x y hx hy => exact seq_sound hx hy
  | cond o x y hx hy => exact cond_sound hx hy
  | block id c hc => exact block_sound hc
  | scope c hc => exact scope_sound hc
  | loop c hc => exact loop_sound hc
  | region id ops d => exact region_sound hm hS
  | rangeFunc g ps assign body ha hb => exact rangeFunc_sound hS ha hb

end
end Go.Av
