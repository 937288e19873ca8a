/-
  MerkleProves: whatever list of hashes, hash and byte come in, the law returns true and its arguments read as before. No condition.
-/
import Derived.Test.YtgjlmmjdofceiaaKR
import Derived.Test.YtgjlmmjdofceiaaKC
import Derived.Test.YtgjlmmjdofceiaaRows
import Derived.WalkKit
import Derived.ProofKit
import Derived.OpenShut

namespace Go.Proofs.Ytgjlmmjdofceiaa.merkleProves
open Go.ChangeShapes Go.WideShapes Go.ChangeAt Go.RowKit Go.Av

theorem own : ownKnob Try.prog.godebug = none := by kernel_rfl

theorem under5 : Try.prog.underlying 5 = some (.int .u8) := by kernel_rfl
theorem under4 : Try.prog.underlying 4 = some .bool := by kernel_rfl
theorem under22 : Try.prog.underlying 22 = some (.slice 25) := by kernel_rfl

def byteOf : Option Value → Nat
  | some (.int _ n) => n.toNat
  | _ => 0

set_option maxRecDepth 100000 in
/-- A hash that came by value. -/
theorem arg_hash {H : Type} {enc : TypeId × Value → H} {W : World} {sp : Nat → Bool} {held : Bool} {fuel : Nat} {v : Value} {x : DataW H × List MemPlace} {r : Reach} {b : Nat}
    (hv : Value.okWide Try.prog W r b 25 v) (h : DataW.trod enc Try.prog W 0 sp held fuel 25 v.cells.toList = some x) :
    ∃ hh : List Nat, okH hh ∧ Conc (K0 W) v (.agg (nR .u8 hh)) := by
  have e25 : Try.prog.cellsOf 25 = 32 := co25
  unfold Value.okWide at hv
  rw [un25] at hv
  obtain ⟨cs, rfl, hsz, _⟩ := hv
  rw [e25] at hsz
  obtain ⟨hlen, hb⟩ := trod_bytes un25 un5 co5 h
  have hcl : (Value.cells (.agg cs)).toList = cs.toList := rfl
  rw [hcl] at hb
  refine ⟨(List.range 32).map fun j => byteOf cs.toList[j]?, ⟨by simp, fun y hy => ?_⟩, Conc.agg _ _ (by rw [nR_len]; simp [hsz]) fun j v x hj hx => ?_⟩
  · obtain ⟨j, hj, rfl⟩ := List.mem_map.1 hy
    obtain ⟨m, h1, h2⟩ := hb j (List.mem_range.1 hj)
    rw [h1]
    simpa [byteOf] using h2
  · have hj32 : j < 32 := by
      have := (Array.getElem?_eq_some_iff.1 hj).1
      omega
    obtain ⟨m, h1, h2⟩ := hb j hj32
    have hv : v = .int .u8 m := by
      rw [← Array.getElem?_toList] at hj
      rw [hj] at h1
      cases h1
      rfl
    subst hv
    simp only [nR, List.getElem?_map, List.getElem?_range hj32, Option.map_some, h1, byteOf] at hx
    cases hx
    exact .int _ _

set_option maxRecDepth 100000 in
theorem lifted (os : Os) (started : os.Started) (H : Type) (enc : TypeId × Value → H) :
    ReturnsInHanded {} Try.checked os 5 .any (Rows.merkleProvesSpec.pre6 enc Try.prog Try.f5 Rows.merkleProvesRow.domain false) (Rows.merkleProvesSpec.post enc Try.prog Try.f5 false true false false) := by
  refine returnsInHanded_of_change_sized (C := Try.checked) own started (by kernel_rfl) Try.func5
    (ChangeSpec.witness6 (enc := enc) (C := Try.checked) false ⟨#[], #[.slice none 0 0, .agg (Array.replicate 32 (.int .u8 0)), .int .u8 0], []⟩ 8 (by kernel_rfl) (by kernel_rfl) (by kernel_rfl) (by kernel_rfl)) ?_
  intro W base args ds gs before hval0 hW hcnd hsz _
  have hval : ∀ (j : Nat) t v, Try.f5.params[j]? = some t → args[j]? = some v → Value.okWide Try.prog W .any base t v := hval0
  have hW' := hW
  obtain ⟨p, q, hA0, hV, rfl, hfz, hnd⟩ := hW
  have hA : DataW.TrodAll enc Try.prog W 0 (fun _ => true) true Try.f5.params.toList args.toList ds p := hA0
  rw [Try.params5] at hA hval
  obtain ⟨v0, v1, v2, d0, d1, d2, p0, p1, p2, rfl, rfl, rfl, ⟨fuel, hf⟩, ⟨fuel1, hf1⟩, hT2⟩ := trodAll_three hA
  obtain ⟨rfl, rfl⟩ := trodVars_none hV
  obtain ⟨a0, len, cap, rfl⟩ := okWide_slice under22 (hval 0 22 _ rfl rfl)
  have main : ∃ x hs, Conc (K0 W) (.slice a0 len cap) x ∧ view (fun _ => none) 32 x = some (hE hs) ∧ notR x = true ∧ allH hs ∧ hs.length ≤ 4611686018427387903 := by
    cases a0 with
    | none =>
      rcases Go.Deep.open_slice under22 hf with ⟨hc, _⟩ | ⟨a, len', cap', m, n, D, Pl, hc, _⟩
      · cases hc
        exact ⟨.nils, [], .nils, rfl, rfl, fun h hm => (by cases hm), by simp⟩
      · cases hc
    | some a =>
      obtain ⟨hs, h1, h2, h3, es, sps, (h4 : d0 = _), h5, h6⟩ := arg_arrays (n := 32) under22 un25 un5 co5 co25 (okWide_spot under22 (hval 0 22 _ rfl rfl)) hf
      refine ⟨_, hs, h3, by simp [view, hE], rfl, h2, ?_⟩
      have hb := sized_slice (P := Try.prog) (j := 0) hsz rfl (by rw [List.getElem?_append_left (by simp)]; simp only [List.getElem?_cons_zero]; rw [h4]) under22
      have e32 : Try.prog.bytesOf 25 = 32 := by kernel_rfl
      rw [e32] at hb
      have := reachBytes_lt
      omega
  obtain ⟨x, hs, h1, h2, h3, h4, h5⟩ := main
  obtain ⟨oh, hoh, hoc⟩ := arg_hash (hval 1 25 _ rfl rfl) hf1
  obtain ⟨z, rfl, _, _, hwf⟩ := open_int under5 (hval 2 5 _ rfl rfl) hT2
  have hzb : 0 ≤ z ∧ z ≤ 255 := by
    simp only [Lit.wf, IntKind.min, IntKind.max, IntKind.signed, IntKind.bits] at hwf
    simpa using hwf
  obtain ⟨w, rfl⟩ : ∃ w : Nat, z = w := ⟨z.toNat, by rw [Int.toNat_of_nonneg hzb.1]⟩
  exact law_calls (d := 8) (t4 := 4) (xs := [x, .agg (nR .u8 oh), vN .u8 w]) snd5 (by kernel_rfl) ⟨rfl, fun j v y hj hy => by
      match j with
      | 0 => simp at hj hy; subst hj; subst hy; exact h1
      | 1 => simp at hj hy; subst hj; subst hy; exact hoc
      | 2 => simp at hj hy; subst hj; subst hy; exact .int _ _
      | j + 3 => simp at hj⟩ ⟨x, hs, oh, w, rfl, h2, h3, h4, h5, hoh, by omega, rfl⟩ hW' rfl rfl rfl rfl rfl under4 (by kernel_rfl)

theorem over : Rows.merkleProvesRow.holds Try.pinned (OpenSpec.ofChange Rows.merkleProvesSpec) :=
  OpenClaim.holds_of_wide 5 Try.f5 rfl rfl rfl rfl rfl rfl rfl ⟨rfl, rfl, rfl, rfl, rfl⟩ rfl rfl rfl rfl rfl (by kernel_rfl) Try.func5 (by kernel_rfl)
    (of_decide_eq_true (by kernel_rfl)) (by unfold Func.isWrapper; first | (rw [if_pos (by decide +kernel)]; kernel_rfl) | (rw [if_neg (by decide +kernel)]; exact ⟨rfl, rfl⟩))
    (fun os started H enc _ => lifted os started H enc)

theorem proved : Rows.MerkleProvesSaid := over
end Go.Proofs.Ytgjlmmjdofceiaa.merkleProves
