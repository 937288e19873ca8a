/-
  WholeAgain: whatever block and byte come in, the law returns true and its arguments read as before. No condition.
-/
import Derived.Test.YtgjlmmjdofceiaaYX
import Derived.Test.YtgjlmmjdofceiaaRows
import Derived.WalkKit
import Derived.ProofKit
import Derived.OpenShut

namespace Go.Proofs.Ytgjlmmjdofceiaa.wholeAgain
open Go.ChangeShapes Go.WideShapes Go.ChangeAt Go.RowKit Go.Av

theorem own : ownKnob Try.prog.godebug = none := by kernel_rfl

theorem under5 : Try.prog.underlying 5 = some (.int .u8) := by kernel_rfl
theorem under4 : Try.prog.underlying 4 = some .bool := by kernel_rfl

theorem un_of_fs {P : Program} {t : TypeId} (h : fsT P t ≠ []) : ∃ fs, P.underlying t = some (.struct fs) := by
  unfold fsT at h
  split at h
  · rename_i fs hu; exact ⟨fs, hu⟩
  · exact absurd rfl h

set_option maxRecDepth 100000 in
theorem lifted (os : Os) (started : os.Started) (H : Type) (enc : TypeId × Value → H) :
    ReturnsInHanded {} Try.checked os 8 .any (Rows.wholeAgainSpec.pre6 enc Try.prog Try.f8 Rows.wholeAgainRow.domain false) (Rows.wholeAgainSpec.post enc Try.prog Try.f8 false true false false) := by
  refine returnsInHanded_of_change_sized (C := Try.checked) own started (by kernel_rfl) Try.func8
    (ChangeSpec.witness6 (enc := enc) (C := Try.checked) false ⟨#[], #[.agg (#[.int .u32 0] ++ Array.replicate 64 (.int .u8 0) ++ #[.int .u32 0, .int .u32 0, .int .u32 0, .slice none 0 0]), .int .u8 0], []⟩ 8 (by kernel_rfl) (by kernel_rfl) (by kernel_rfl) (by kernel_rfl)) ?_
  intro W base args ds gs before hval0 hW hcnd hsz _
  have hval : ∀ (j : Nat) t v, Try.f8.params[j]? = some t → args[j]? = some v → Value.okWide Try.prog W .any base t v := hval0
  have hW' := hW
  obtain ⟨p, q, hA0, hV, rfl, hfz, hnd⟩ := hW
  have hA : DataW.TrodAll enc Try.prog W 0 (fun _ => true) true Try.f8.params.toList args.toList ds p := hA0
  rw [Try.params8] at hA hval
  obtain ⟨v0, v1, d0, d1, p0, p1, rfl, rfl, rfl, ⟨fuel, hf⟩, ⟨fuel1, hf1⟩⟩ := trodAll_two hA
  obtain ⟨rfl, rfl⟩ := trodVars_none hV
  obtain ⟨fs, hfs⟩ := un_of_fs (P := Try.prog) (t := 49) (by rw [fs49]; simp)
  obtain ⟨cs, rfl⟩ : ∃ cs, v0 = .agg cs := by
    have := hval 0 49 _ rfl rfl
    unfold Value.okWide at this
    rw [hfs] at this
    obtain ⟨cs, rfl, _⟩ := this
    exact ⟨cs, rfl⟩
  obtain ⟨hd, v, l, ho, hc, hv⟩ := arg_blk hf
  obtain ⟨k, hk, hc1⟩ := arg_u8 under5 hf1
  obtain ⟨z, rfl, _, _, hwf⟩ := open_int under5 (hval 1 5 _ rfl rfl) ⟨fuel1, hf1⟩
  have hc1' : Conc (K0 W) (.int .u8 z) (vN .u8 k) := hc1.2 0 _ _ rfl rfl
  exact law_calls (d := 10) (t4 := 4) (xs := [.agg (hdC hd ++ [v]), vN .u8 k]) snd8 (by kernel_rfl) ⟨rfl, fun j w y hj hy => by
      match j with
      | 0 => simp at hj hy; subst hj; subst hy; exact hc.agg
      | 1 => simp at hj hy; subst hj; subst hy; exact hc1'
      | j + 2 => simp at hj⟩ ⟨hd, v, l, k, rfl, ho, hv _, by omega, fun x _ => ⟨by omega, by omega⟩, hk, rfl⟩ hW' rfl rfl rfl rfl rfl under4 (by kernel_rfl)

theorem over : Rows.wholeAgainRow.holds Try.pinned (OpenSpec.ofChange Rows.wholeAgainSpec) :=
  OpenClaim.holds_of_wide 8 Try.f8 rfl rfl rfl rfl rfl rfl rfl ⟨rfl, rfl, rfl, rfl, rfl⟩ rfl rfl rfl rfl rfl (by kernel_rfl) Try.func8 (by kernel_rfl)
    (of_decide_eq_true (by kernel_rfl)) (by unfold Func.isWrapper; first | (rw [if_pos (by decide +kernel)]; kernel_rfl) | (rw [if_neg (by decide +kernel)]; exact ⟨rfl, rfl⟩))
    (fun os started H enc _ => lifted os started H enc)

theorem proved : Rows.WholeAgainSaid := over
end Go.Proofs.Ytgjlmmjdofceiaa.wholeAgain
