/-
  WholeCarried: whatever block, header and three numbers come in, the law returns true and its arguments read as before. No condition.
-/
import Derived.Test.YtgjlmmjdofceiaaYX
import Derived.Test.YtgjlmmjdofceiaaYZ
import Derived.Test.YtgjlmmjdofceiaaRows
import Derived.WalkKit
import Derived.ProofKit
import Derived.OpenShut

namespace Go.Proofs.Ytgjlmmjdofceiaa.wholeCarried
open Go.ChangeShapes Go.WideShapes Go.ChangeAt Go.RowKit Go.Av

theorem own : ownKnob Try.prog.godebug = none := by kernel_rfl

theorem under44 : Try.prog.underlying 44 = some (.int .u32) := by kernel_rfl
theorem under4 : Try.prog.underlying 4 = some .bool := by kernel_rfl

theorem un_of_fs {P : Program} {t : TypeId} (h : fsT P t ≠ []) : ∃ fs, P.underlying t = some (.struct fs) := by
  unfold fsT at h
  split at h
  · rename_i fs hu; exact ⟨fs, hu⟩
  · exact absurd rfl h

set_option maxRecDepth 100000 in
theorem lifted (os : Os) (started : os.Started) (H : Type) (enc : TypeId × Value → H) :
    ReturnsInHanded {} Try.checked os 11 .any (Rows.wholeCarriedSpec.pre6 enc Try.prog Try.f11 Rows.wholeCarriedRow.domain false) (Rows.wholeCarriedSpec.post enc Try.prog Try.f11 false true false false) := by
  refine returnsInHanded_of_change_sized (C := Try.checked) own started (by kernel_rfl) Try.func11
    (ChangeSpec.witness6 (enc := enc) (C := Try.checked) false ⟨#[], #[.agg (#[.int .u32 0] ++ Array.replicate 64 (.int .u8 0) ++ #[.int .u32 0, .int .u32 0, .int .u32 0, .slice none 0 0]), .agg (#[.int .u32 0] ++ Array.replicate 64 (.int .u8 0) ++ #[.int .u32 0, .int .u32 0, .int .u32 0]), .int .u32 0, .int .u32 0, .int .u32 0], []⟩ 11 (by kernel_rfl) (by kernel_rfl) (by kernel_rfl) (by kernel_rfl)) ?_
  intro W base args ds gs before hval0 hW hcnd hsz _
  have hval : ∀ (j : Nat) t v, Try.f11.params[j]? = some t → args[j]? = some v → Value.okWide Try.prog W .any base t v := hval0
  have hW' := hW
  obtain ⟨p, q, hA0, hV, rfl, hfz, hnd⟩ := hW
  have hA : DataW.TrodAll enc Try.prog W 0 (fun _ => true) true Try.f11.params.toList args.toList ds p := hA0
  rw [Try.params11] at hA hval
  obtain ⟨v0, vs0, d0, ds0, p0, q0, hargs, rfl, rfl, ⟨fuel, hf⟩, hA⟩ := trodAll_cons hA
  obtain ⟨v1, vs1, d1, ds1, p1, q1, rfl, rfl, rfl, ⟨fuel1, hf1⟩, hA⟩ := trodAll_cons hA
  obtain ⟨v2, vs2, d2, ds2, p2, q2, rfl, rfl, rfl, ⟨fuel2, hf2⟩, hA⟩ := trodAll_cons hA
  obtain ⟨v3, vs3, d3, ds3, p3, q3, rfl, rfl, rfl, ⟨fuel3, hf3⟩, hA⟩ := trodAll_cons hA
  obtain ⟨v4, vs4, d4, ds4, p4, q4, rfl, rfl, rfl, ⟨fuel4, hf4⟩, hA⟩ := trodAll_cons hA
  obtain ⟨rfl, rfl, rfl⟩ := trodAll_nil hA
  obtain rfl : args = #[v0, v1, v2, v3, v4] := by cases args; simp_all
  obtain ⟨rfl, rfl⟩ := trodVars_none hV
  have isAgg : ∀ {t j : Nat} {v : Value}, Try.f11.params[j]? = some t → (#[v0, v1, v2, v3, v4] : Array Value)[j]? = some v → fsT Try.prog t ≠ [] → ∃ cs, v = .agg cs := fun {t} {j} {v} h1 h2 h3 => by
    obtain ⟨fs, hfs⟩ := un_of_fs h3
    have := hval j t v h1 h2
    unfold Value.okWide at this
    rw [hfs] at this
    obtain ⟨cs, rfl, _⟩ := this
    exact ⟨cs, rfl⟩
  obtain ⟨cs, rfl⟩ := isAgg (t := 49) (j := 0) (v := v0) rfl rfl (by rw [fs49]; simp)
  obtain ⟨cs1, rfl⟩ := isAgg (t := 46) (j := 1) (v := v1) rfl rfl (by rw [fs46]; simp)
  obtain ⟨hd, v, l, ho, hc, hv⟩ := arg_blk hf
  obtain ⟨hd2, ho2, hc2⟩ := arg_hdr hf1
  obtain ⟨a, _, ha⟩ := arg_u32 under44 hf2
  obtain ⟨b, _, hb⟩ := arg_u32 under44 hf3
  obtain ⟨c, _, hcc⟩ := arg_u32 under44 hf4
  obtain ⟨za, rfl, _⟩ := open_int under44 (hval 2 44 _ rfl rfl) ⟨fuel2, hf2⟩
  obtain ⟨zb, rfl, _⟩ := open_int under44 (hval 3 44 _ rfl rfl) ⟨fuel3, hf3⟩
  obtain ⟨zc, rfl, _⟩ := open_int under44 (hval 4 44 _ rfl rfl) ⟨fuel4, hf4⟩
  have ca : Conc (K0 W) (.int .u32 za) (vN .u32 a) := ha.2 0 _ _ rfl rfl
  have cb : Conc (K0 W) (.int .u32 zb) (vN .u32 b) := hb.2 0 _ _ rfl rfl
  have cc : Conc (K0 W) (.int .u32 zc) (vN .u32 c) := hcc.2 0 _ _ rfl rfl
  exact law_calls (d := 10) (t4 := 4) (xs := [.agg (hdC hd ++ [v]), .agg (hdC hd2), vN .u32 a, vN .u32 b, vN .u32 c]) snd11 (by kernel_rfl) ⟨rfl, fun j w y hj hy => by
      match j with
      | 0 => simp at hj hy; subst hj; subst hy; exact hc.agg
      | 1 => simp at hj hy; subst hj; subst hy; exact hc2.agg
      | 2 => simp at hj hy; subst hj; subst hy; exact ca
      | 3 => simp at hj hy; subst hj; subst hy; exact cb
      | 4 => simp at hj hy; subst hj; subst hy; exact cc
      | j + 5 => simp at hj⟩ ⟨hd, v, l, hd2, a, b, c, rfl, ho, hv _, by omega, fun x _ => ⟨by omega, by omega⟩, ho2, rfl⟩ hW' rfl rfl rfl rfl rfl under4 (by kernel_rfl)

theorem over : Rows.wholeCarriedRow.holds Try.pinned (OpenSpec.ofChange Rows.wholeCarriedSpec) :=
  OpenClaim.holds_of_wide 11 Try.f11 rfl rfl rfl rfl rfl rfl rfl ⟨rfl, rfl, rfl, rfl, rfl⟩ rfl rfl rfl rfl rfl (by kernel_rfl) Try.func11 (by kernel_rfl)
    (of_decide_eq_true (by kernel_rfl)) (by unfold Func.isWrapper; first | (rw [if_pos (by decide +kernel)]; kernel_rfl) | (rw [if_neg (by decide +kernel)]; exact ⟨rfl, rfl⟩))
    (fun os started H enc _ => lifted os started H enc)

theorem proved : Rows.WholeCarriedSaid := over
end Go.Proofs.Ytgjlmmjdofceiaa.wholeCarried
