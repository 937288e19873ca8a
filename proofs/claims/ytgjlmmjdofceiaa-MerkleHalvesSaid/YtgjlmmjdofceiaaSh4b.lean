/-
  slices.Clone of bytes, by value.
-/
import Derived.Test.YtgjlmmjdofceiaaSh4
import Derived.Test.YtgjlmmjdofceiaaAv26
set_option linter.unusedSimpArgs false
set_option linter.unusedVariables false
namespace Go.Av
open Go.RowKit Go.Proofs

theorem Wk.isB {v : V} {bs : List Nat} (h : isB v bs) : Wk v (.sl 1 (nE .u8 bs) false) := by
  rcases h with ⟨rfl, rfl⟩ | ⟨full, rfl⟩
  · exact Wk.nils
  · exact Wk.sl

def s82v : Spec := fun _ args H Q => ∃ x bs, args = [x] ∧ view H 1 x = some (nE .u8 bs) ∧ bs.length ≤ 140737488355328 ∧ Q (.sl 1 (nE .u8 bs) false) H
theorem snd82v : Sound Try.prog 82 s82v := snd82.wk fun Y args H Q ⟨x, bs, h1, h2, h3, h4⟩ =>
  ⟨fun v H' => isB v bs ∧ H' = H, ⟨x, bs, h1, h2, h3, .inr fun v hv => ⟨hv, rfl⟩⟩, fun v H' ⟨hB, e⟩ => ⟨_, Wk.isB hB, e ▸ h4⟩⟩
end Go.Av
