/-
  Abstract values: 'Sound' out of a body's 'wpC'.
-/
import Derived.Test.YtgjlmmjdofceiaaAv19
namespace Go.Av
open Go.RowKit

theorem Rel.shut {k : K} {H : Hp} {w : World} (hr : Rel k H w) {r : Nat} {ds : List Deferred} (hw : w.heap[r]? = some (.deferred (some ds))) (hn : H r = none) : Rel k H (w.putObj r (.deferred none)) := by
  have hM : ∀ b o v, k.M b o = some v → b ≠ r := fun b o v hm e => by
    subst e
    have := (hr.imm b o v hm).1
    simp [World.cell?, hw] at this
  refine ⟨fun b o v hm => ⟨by rw [cell?_of_heap (World.putObj_heap_other (hM b o v hm))]; exact (hr.imm b o v hm).1, (hr.imm b o v hm).2⟩, fun b c hR => ?_, fun b x hb => ?_⟩
  · obtain ⟨cs, e, fr, h1, h2⟩ := hr.rows b c hR
    have hne : b ≠ r := fun e' => by subst e'; rw [hw] at h1; cases h1
    exact ⟨cs, e, fr, by rw [World.putObj_heap_other hne]; exact h1, h2⟩
  · have hne : b ≠ r := fun e => by subst e; rw [hn] at hb; cases hb
    exact (hr.own b x hb).mono (K.le.refl _) (World.putObj_heap_other hne)

theorem leaves_sound {P : Program} {fn : Func} {k₀ : K} {H₀ : Hp} {w₀ : World} {Q : V → Hp → Prop} {n : Nat} {a : Act} {t : T} {xs : List V} {B : List Nat} {H : Hp} (hx : ressV P t H fn.results.toList = some xs) (hs : sealA B (oneV xs) H Q) :
    ∀ (ds : List Deferred) {k : K} {w : World}, k₀.le k → Rel k H w → RelT k n a t → Fr H₀ w₀ H w → Mk w₀.heap.size ds H w →
      LeavesInM Fence.wide 0 P fn a.tmps (fun e w' => ∃ v, e = .returned v ∧ OpPost k₀ H₀ w₀ Q v w') ds .returning w
  | [], k, w, hk, hr, hT, hf, _ => by
    obtain ⟨v, h1, h2⟩ := results_sound hr hT hx
    obtain ⟨y, H', k', c1, c2, c3, c4, c5⟩ := sealA_sound B hr h2 hs
    exact ⟨v, h1, v, rfl, y, H', k', c1, hk.trans c2, c3, c4, hf.trans c5⟩
  | d :: ds, k, w, hk, hr, hT, hf, hm => by
    obtain ⟨r, h1, h2, h3, h4, h5⟩ := hm.2 d (by simp)
    refine ⟨by simp, .inl ⟨r, _, h1, run_takeDeferred h5, leaves_sound hx hs ds hk (hr.shut h5 h4) hT ?_ ?_⟩⟩
    · refine ⟨hf.os, hf.tape, hf.out, by simpa using hf.size, fun b hb hn => ?_, hf.dom⟩
      rw [World.putObj_heap_other (by omega)]
      exact hf.same b hb hn
    · have hp := List.pairwise_cons.1 hm.1
      refine ⟨hp.2, fun d' hd' => ?_⟩
      obtain ⟨r', g1, g2, g3, g4, g5⟩ := hm.2 d' (by simp [hd'])
      have hne : r' ≠ r := fun e => hp.1 d' hd' (by rw [h1, g1, e])
      exact ⟨r', g1, g2, by simpa using g3, g4, by rw [World.putObj_heap_other hne]; exact g5⟩

/-- **A FUNCTION OUT OF ITS BODY.** -/
theorem sound_of_body {P : Program} {S : Nat → Spec} (hm : P.follows .mixedOrders = true) (hS : TSound P S) (O : List Nat) {g : FuncId} {fn : Func} {c : Code} (hf : P.funcs[g]? = some fn) (hb : fn.body = some c) (hB : hasBody P g = true) {s : Spec}
    (h : ∀ Y args H Q, s Y args H Q → args.length ≤ fn.ntmps ∧ wpC P S Y O fn.ntmps c true (endsA P fn.results.toList Q) (initT args) H) : Sound P g s := by
  intro Y args H Q hs k w cargs hY hr hc
  obtain ⟨hn, hw⟩ := h Y args H Q hs
  refine .inr ⟨run_callFunc_body hB _ _, callsIn_of_wp_marks hf hb trivial ?_⟩
  refine wpIn_mono (wpC_sound (O := O) hm hS c true none (fun _ => rfl) Y k hY H w hr _ _ (initT_rel hc hn) w.heap.size ⟨List.Pairwise.nil, fun d hd => by cases hd⟩ (Nat.le_refl _) _ hw) fun e a' w' hp => ?_
  obtain ⟨t', H', k', b1, b2, b3, b4, b5, b6⟩ := hp
  cases e with
  | normal =>
    obtain ⟨xs, hx, B, hB⟩ := b1
    exact leaves_sound hx hB _ b2 b3 b4 b5 b6
  | ret =>
    obtain ⟨xs, hx, B, hB⟩ := b1
    exact leaves_sound hx hB _ b2 b3 b4 b5 b6
  | _ => exact b1.elim

end Go.Av
