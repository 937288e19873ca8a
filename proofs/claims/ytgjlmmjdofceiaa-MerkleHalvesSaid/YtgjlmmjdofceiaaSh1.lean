/-
  Package sha: the facts on types; the small functions.
-/
import Derived.Test.YtgjlmmjdofceiaaAv22
import Derived.Test.YtgjlmmjdofceiaaChecked
import Derived.KernelRfl
set_option linter.unusedSimpArgs false
set_option linter.unusedVariables false
namespace Go.Av
open Go.RowKit Go.Proofs

theorem pm : Try.prog.follows .mixedOrders = true := by kernel_rfl
theorem i3 : intT Try.prog 3 = some .i64 := by kernel_rfl
theorem i88 : intT Try.prog 88 = some .u64 := by kernel_rfl
theorem i91 : intT Try.prog 91 = some .u64 := by kernel_rfl
theorem i44 : intT Try.prog 44 = some .u32 := by kernel_rfl
theorem i5 : intT Try.prog 5 = some .u8 := by kernel_rfl
theorem us3 : (Try.prog.underlying 3).isSome = true := by kernel_rfl
theorem us5 : (Try.prog.underlying 5).isSome = true := by kernel_rfl
theorem us44 : (Try.prog.underlying 44).isSome = true := by kernel_rfl
theorem us91 : (Try.prog.underlying 91).isSome = true := by kernel_rfl
theorem ty5 : tyT Try.prog 5 = some (false, 1) := by kernel_rfl
theorem ty25 : tyT Try.prog 25 = some (true, 32) := by kernel_rfl
theorem ty44 : tyT Try.prog 44 = some (false, 1) := by kernel_rfl
theorem ty64 : tyT Try.prog 64 = some (false, 1) := by kernel_rfl
theorem ty91 : tyT Try.prog 91 = some (false, 1) := by kernel_rfl
theorem ty111 : tyT Try.prog 111 = some (false, 1) := by kernel_rfl
theorem ty124 : tyT Try.prog 124 = some (true, 8) := by kernel_rfl
theorem ty127 : tyT Try.prog 127 = some (true, 10) := by kernel_rfl
theorem ty146 : tyT Try.prog 146 = some (true, 64) := by kernel_rfl
theorem sl64 : sliT Try.prog 64 = some 1 := by kernel_rfl
theorem ar64 : arrT Try.prog 64 = none := by kernel_rfl
theorem ar25 : arrT Try.prog 25 = some (32, 1) := by kernel_rfl
theorem ar124 : arrT Try.prog 124 = some (8, 1) := by kernel_rfl
theorem ar146 : arrT Try.prog 146 = some (64, 1) := by kernel_rfl
theorem ds64 : dstT Try.prog 64 = some 1 := by kernel_rfl
theorem by64 : bytesT Try.prog 64 = 1 := by kernel_rfl
theorem z25 : zeroT Try.prog 25 = some (List.replicate 32 (vN .u8 0)) := by kernel_rfl
theorem z124 : zeroT Try.prog 124 = some (List.replicate 8 (vN .u32 0)) := by kernel_rfl
theorem z146 : zeroT Try.prog 146 = some (List.replicate 64 (vN .u32 0)) := by kernel_rfl

/-! ### bits.RotateLeft32, to the right -/
def rotr (x n : Nat) : Nat := ((x * 2 ^ (32 - n)) % 4294967296 ||| x / 2 ^ n) % 4294967296

theorem rot_and (n : Nat) (h1 : 1 ≤ n) (h : n < 32) : ((18446744073709551616 - n) &&& 31) = 32 - n := by
  have : ∀ n, n < 32 → 1 ≤ n → ((18446744073709551616 - n) &&& 31) = 32 - n := by decide
  exact this n h h1

theorem wrap_u64_neg {n : Nat} (h1 : 1 ≤ n) (h : n ≤ 18446744073709551616) : IntKind.wrap .u64 (-(n : Int)) = ((18446744073709551616 - n : Nat) : Int) := by
  simp only [IntKind.wrap, IntKind.bits, IntKind.signed, Bool.false_and, Bool.false_eq_true, if_false]
  omega
theorem conv_u64_neg {P : Program} {s d : TypeId} {k : IntKind} {n : Nat} (h1 : 1 ≤ n) (h : n ≤ 18446744073709551616) (hs : (P.underlying s).isSome = true) (hd : intT P d = some .u64) : convV P s d (.int k (-(n : Int))) = some (vN .u64 (18446744073709551616 - n)) := by
  simp only [vN, convV, hs, if_true, hd, Option.map_some, wrap_u64_neg h1 h]

def s101 : Spec := fun _ args H Q => ∃ (x : Nat) (z : Int), args = [vN .u32 x, .int .i64 z] ∧ -32 < z ∧ z < 0 ∧ Q (vN .u32 (rotr x (-z).toNat)) H

theorem snd101 : Sound Try.prog 101 s101 := by
  refine sound_of_body pm (tab_sound [] (by simp)) [] Try.func101 rfl (by kernel_rfl) ?_
  rintro Y args H Q ⟨x, z, rfl, hz1, hz2, hQ⟩
  obtain ⟨k, rfl⟩ : ∃ k : Nat, z = -(k : Int) := ⟨(-z).toNat, by omega⟩
  have h1 : 1 ≤ k := by omega
  have h2 : k < 32 := by omega
  rw [Int.neg_neg, Int.toNat_natCast] at hQ
  refine ⟨by simp [Try.f101], ?_⟩
  show wpC Try.prog (tab []) Y [] 17 _ true (endsA Try.prog [.tmp 4] Q) _ H
  repeat (first
    | ((first | refine wpOps_cons rfl fun K hK => ?_ | refine quiet_cons rfl fun K hK => ?_)
       simp (disch := omega) only [wpOp, pval, putT, owned, initT, IntKind.bits, tab, callV, wpBuiltin, builtinV, BB, ↓updA, ↓reduceIte, Int.reduceLT, Int.reduceNeg, Int.reduceLE, Int.reduceToNat, Nat.reduceLT, Nat.reduceEqDiff, Nat.reduceAdd, Nat.reduceMul, Nat.reduceSub, Nat.reduceLeDiff, Nat.reduceBEq, wpConv_I, conv_u64_neg h1 (by omega : k ≤ 18446744073709551616) us3 i88]
       first
         | refine hK _ _ ?_
         | refine ⟨_, ⟨rfl, by first | rfl | trivial⟩, hK _ ?_⟩
         | refine ⟨_, ⟨_, _, rfl, by decide, by decide, rfl, by first | rfl | trivial⟩, hK _ ?_⟩
       clear hK)
    | refine wpOps_skip rfl ?_
    | refine quiet_skip rfl ?_
    | refine quiet_nil ?_
    | (refine wpOps_nil ?_
       simp only [thenA, inBlockA, noGotoA]
       first
         | ((first | refine hS _ _ ?_ | (clear hS; refine hS _ _ ?_) | (clear hS; clear hS; refine hS _ _ ?_) | (clear hS; clear hS; clear hS; refine hS _ _ ?_) | (clear hS; clear hS; clear hS; clear hS; refine hS _ _ ?_)); clear hS)
         | skip)
    | (refine wpC_label ?_
       simp only [thenA]
       (first | refine hS _ _ ?_ | (clear hS; refine hS _ _ ?_) | (clear hS; clear hS; refine hS _ _ ?_) | (clear hS; clear hS; clear hS; refine hS _ _ ?_) | (clear hS; clear hS; clear hS; clear hS; refine hS _ _ ?_))
       clear hS)
    | refine wpC_seq fun K hS => ?_
    | refine wpC_region rfl ?_
    | refine wpC_block ?_
    | refine wpC_scope ?_
    | (refine wpC_ret ?_
       simp (disch := omega) only [thenA, inBlockA, noGotoA, endsA, ressV, resV, oneV, putT, BB, ↓updA, ↓reduceIte, Nat.reduceLT, Nat.reduceEqDiff, wpConv_I, conv_u64_neg h1 (by omega : k ≤ 18446744073709551616) us3 i88]))
  refine ⟨_, rfl, [], H, fun _ _ h => h, ?_⟩
  rw [rot_and k h1 h2, show min ((32 - k) % 18446744073709551616) 32 = 32 - k by omega, show min ((32 + (18446744073709551616 - (32 - k) % 18446744073709551616 % 18446744073709551616)) % 18446744073709551616) 32 = k by omega]
  exact hQ

end Go.Av
