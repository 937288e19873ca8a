/-
  MerkleSwells: whatever list of hashes comes in (of a length that any machine's memory bears), the law returns true and its argument reads as before. No condition.
-/
import Derived.Test.YtgjlmmjdofceiaaKP
import Derived.Test.YtgjlmmjdofceiaaKC
import Derived.Test.YtgjlmmjdofceiaaRows
import Derived.WalkKit
import Derived.ProofKit
import Derived.OpenShut

namespace Go.Proofs.Ytgjlmmjdofceiaa.merkleSwells
open Go.ChangeShapes Go.WideShapes Go.ChangeAt Go.RowKit Go.Av

theorem own : ownKnob Try.prog.godebug = none := by kernel_rfl

set_option maxRecDepth 100000 in
theorem lifted (os : Os) (started : os.Started) (H : Type) (enc : TypeId × Value → H) :
    ReturnsInHanded {} Try.checked os 4 .any (Rows.merkleSwellsSpec.pre6 enc Try.prog Try.f4 Rows.merkleSwellsRow.domain false) (Rows.merkleSwellsSpec.post enc Try.prog Try.f4 false true false false) := by
  refine returnsInHanded_of_change_sized (C := Try.checked) own started (by kernel_rfl) Try.func4
    (ChangeSpec.witness6 (enc := enc) (C := Try.checked) false ⟨#[], #[.slice none 0 0], []⟩ 8 (by kernel_rfl) (by kernel_rfl) (by kernel_rfl) (by kernel_rfl)) ?_
  intro W base args ds gs before hval0 hW hcnd hsz _
  have hval : ∀ (j : Nat) t v, Try.f4.params[j]? = some t → args[j]? = some v → Value.okWide Try.prog W .any base t v := hval0
  have hW' := hW
  obtain ⟨p, q, hA0, hV, rfl, hfz, hnd⟩ := hW
  have hA : DataW.TrodAll enc Try.prog W 0 (fun _ => true) true Try.f4.params.toList args.toList ds p := hA0
  rw [Try.params4] at hA hval
  obtain ⟨v0, d0, rfl, rfl, fuel, hf⟩ := trodAll_one hA
  obtain ⟨rfl, rfl⟩ := trodVars_none hV
  obtain ⟨a0, len, cap, rfl⟩ := okWide_slice Try.underlying22 (hval 0 22 _ rfl rfl)
  have main : ∃ x hs, Conc (K0 W) (.slice a0 len cap) x ∧ view (fun _ => none) 32 x = some (hE hs) ∧ notR x = true ∧ allH hs ∧ hs.length ≤ 4611686018427387903 := by
    cases a0 with
    | none =>
      rcases Go.Deep.open_slice Try.underlying22 hf with ⟨hc, _⟩ | ⟨a, len', cap', m, n, D, Pl, hc, _⟩
      · cases hc
        exact ⟨.nils, [], .nils, rfl, rfl, fun h hm => (by cases hm), by simp⟩
      · cases hc
    | some a =>
      obtain ⟨hs, h1, h2, h3, es, sps, (h4 : d0 = _), h5, h6⟩ := arg_arrays (n := 32) Try.underlying22 un25 un5 co5 co25 (okWide_spot Try.underlying22 (hval 0 22 _ rfl rfl)) hf
      refine ⟨_, hs, h3, by simp [view, hE], rfl, h2, ?_⟩
      have hb := sized_slice (P := Try.prog) (j := 0) hsz rfl (by rw [List.getElem?_append_left (by simp)]; simp only [List.getElem?_cons_zero]; rw [h4]) Try.underlying22
      have e32 : Try.prog.bytesOf 25 = 32 := by kernel_rfl
      rw [e32] at hb
      have := reachBytes_lt
      omega
  obtain ⟨x, hs, h1, h2, h3, h4, h5⟩ := main
  exact law_calls (d := 8) (t4 := 4) (xs := [x]) snd4 (by kernel_rfl) ⟨rfl, fun j v y hj hy => by
      cases j with
      | zero => simp at hj hy; subst hj; subst hy; exact h1
      | succ j => simp at hj⟩ ⟨x, hs, rfl, h2, h3, h4, h5, rfl⟩ hW' rfl rfl rfl rfl rfl Try.underlying4 (by kernel_rfl)

theorem over : Rows.merkleSwellsRow.holds Try.pinned (OpenSpec.ofChange Rows.merkleSwellsSpec) :=
  OpenClaim.holds_of_wide 4 Try.f4 rfl rfl rfl rfl rfl rfl rfl ⟨rfl, rfl, rfl, rfl, rfl⟩ rfl rfl rfl rfl rfl (by kernel_rfl) Try.func4 (by kernel_rfl)
    (of_decide_eq_true (by kernel_rfl)) (by unfold Func.isWrapper; first | (rw [if_pos (by decide +kernel)]; kernel_rfl) | (rw [if_neg (by decide +kernel)]; exact ⟨rfl, rfl⟩))
    (fun os started H enc _ => lifted os started H enc)

theorem proved : Rows.MerkleSwellsSaid := over
end Go.Proofs.Ytgjlmmjdofceiaa.merkleSwells
