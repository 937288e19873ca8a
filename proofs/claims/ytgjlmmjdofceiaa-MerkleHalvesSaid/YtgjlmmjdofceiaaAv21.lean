/-
  Abstract values: numbers that are not negative.
-/
import Derived.Test.YtgjlmmjdofceiaaAv20
namespace Go.Av
open Go.RowKit

/-- A number of an integer kind that is not negative. -/
def vN (k : IntKind) (n : Nat) : V := .int k (n : Int)


theorem ofVal_nn {k : IntKind} {i : Int} (h : 0 ≤ i) : ofVal (.int k i) = vN k i.toNat := by
  rw [vN, Int.toNat_of_nonneg h, ofVal]

theorem ofInt_nat (m n : Nat) : (BitVec.ofInt m (n : Int)).toNat = n % 2 ^ m := by
  rw [BitVec.ofInt_natCast, BitVec.toNat_ofNat]

theorem wrap_u8 (n : Nat) : IntKind.wrap .u8 (n : Int) = ((n % 256 : Nat) : Int) := by simp [IntKind.wrap, IntKind.bits, IntKind.signed]
theorem wrap_u32 (n : Nat) : IntKind.wrap .u32 (n : Int) = ((n % 4294967296 : Nat) : Int) := by simp [IntKind.wrap, IntKind.bits, IntKind.signed]
theorem wrap_u64 (n : Nat) : IntKind.wrap .u64 (n : Int) = ((n % 18446744073709551616 : Nat) : Int) := by simp [IntKind.wrap, IntKind.bits, IntKind.signed]
theorem wrap_i64 {n : Nat} (h : n < 9223372036854775808) : IntKind.wrap .i64 (n : Int) = (n : Int) := by
  have h1 : (n : Int) % 18446744073709551616 = n := by omega
  have h2 : ¬ (9223372036854775808 : Int) ≤ n := by omega
  simp [IntKind.wrap, IntKind.bits, IntKind.signed, h1, h2]
theorem and_nat (m a b : Nat) : (BitVec.ofInt m (a : Int) &&& BitVec.ofInt m (b : Int)).toNat = (a &&& b) % 2 ^ m := by rw [BitVec.toNat_and, ofInt_nat, ofInt_nat, Nat.and_mod_two_pow]
theorem or_nat (m a b : Nat) : (BitVec.ofInt m (a : Int) ||| BitVec.ofInt m (b : Int)).toNat = (a ||| b) % 2 ^ m := by rw [BitVec.toNat_or, ofInt_nat, ofInt_nat, Nat.or_mod_two_pow]
theorem xor_nat (m a b : Nat) : (BitVec.ofInt m (a : Int) ^^^ BitVec.ofInt m (b : Int)).toNat = (a ^^^ b) % 2 ^ m := by rw [BitVec.toNat_xor, ofInt_nat, ofInt_nat, Nat.xor_mod_two_pow]
theorem wrap_sub_u32 (a b : Nat) : IntKind.wrap .u32 ((a : Int) - b) = (((a + (4294967296 - b % 4294967296)) % 4294967296 : Nat) : Int) := by
  simp only [IntKind.wrap, IntKind.bits, IntKind.signed, Bool.false_and, Bool.false_eq_true, if_false]
  omega
theorem wrap_sub_u64 (a b : Nat) : IntKind.wrap .u64 ((a : Int) - b) = (((a + (18446744073709551616 - b % 18446744073709551616)) % 18446744073709551616 : Nat) : Int) := by
  simp only [IntKind.wrap, IntKind.bits, IntKind.signed, Bool.false_and, Bool.false_eq_true, if_false]
  omega
theorem wrap_sub_u8 (a b : Nat) : IntKind.wrap .u8 ((a : Int) - b) = (((a + (256 - b % 256)) % 256 : Nat) : Int) := by
  simp only [IntKind.wrap, IntKind.bits, IntKind.signed, Bool.false_and, Bool.false_eq_true, if_false]
  omega

section
variable {P : Program} {t : TypeId} (a b : Nat)

theorem bin_same (op : BinOp) (k : IntKind) (x y : Int) : binV P op t (.int k x) (.int k y) = arith op k x y := by
  simp only [binV]
  split <;> simp

theorem u32_add : binV P .add t (vN .u32 a) (vN .u32 b) = some (vN .u32 ((a + b) % 4294967296)) := by
  simp only [vN, bin_same, arith, ← wrap_u32, Int.natCast_add]
theorem u32_sub : binV P .sub t (vN .u32 a) (vN .u32 b) = some (vN .u32 ((a + (4294967296 - b % 4294967296)) % 4294967296)) := by
  simp only [vN, bin_same, arith, wrap_sub_u32]
theorem u32_mul : binV P .mul t (vN .u32 a) (vN .u32 b) = some (vN .u32 ((a * b) % 4294967296)) := by
  simp only [vN, bin_same, arith, ← wrap_u32, Int.natCast_mul]
theorem u32_and : binV P .and t (vN .u32 a) (vN .u32 b) = some (vN .u32 ((a &&& b) % 4294967296)) := by
  rw [vN, vN, bin_same]
  show some (V.int .u32 (IntKind.wrap .u32 ((BitVec.ofInt 32 (a : Int) &&& BitVec.ofInt 32 (b : Int)).toNat : Int))) = _
  rw [and_nat, wrap_u32]
  simp [vN]
theorem u32_or : binV P .or t (vN .u32 a) (vN .u32 b) = some (vN .u32 ((a ||| b) % 4294967296)) := by
  rw [vN, vN, bin_same]
  show some (V.int .u32 (IntKind.wrap .u32 ((BitVec.ofInt 32 (a : Int) ||| BitVec.ofInt 32 (b : Int)).toNat : Int))) = _
  rw [or_nat, wrap_u32]
  simp [vN]
theorem u32_xor : binV P .xor t (vN .u32 a) (vN .u32 b) = some (vN .u32 ((a ^^^ b) % 4294967296)) := by
  rw [vN, vN, bin_same]
  show some (V.int .u32 (IntKind.wrap .u32 ((BitVec.ofInt 32 (a : Int) ^^^ BitVec.ofInt 32 (b : Int)).toNat : Int))) = _
  rw [xor_nat, wrap_u32]
  simp [vN]
theorem u64_add : binV P .add t (vN .u64 a) (vN .u64 b) = some (vN .u64 ((a + b) % 18446744073709551616)) := by
  simp only [vN, bin_same, arith, ← wrap_u64, Int.natCast_add]
theorem u64_sub : binV P .sub t (vN .u64 a) (vN .u64 b) = some (vN .u64 ((a + (18446744073709551616 - b % 18446744073709551616)) % 18446744073709551616)) := by
  simp only [vN, bin_same, arith, wrap_sub_u64]
theorem u64_mul : binV P .mul t (vN .u64 a) (vN .u64 b) = some (vN .u64 ((a * b) % 18446744073709551616)) := by
  simp only [vN, bin_same, arith, ← wrap_u64, Int.natCast_mul]
theorem u64_and : binV P .and t (vN .u64 a) (vN .u64 b) = some (vN .u64 ((a &&& b) % 18446744073709551616)) := by
  rw [vN, vN, bin_same]
  show some (V.int .u64 (IntKind.wrap .u64 ((BitVec.ofInt 64 (a : Int) &&& BitVec.ofInt 64 (b : Int)).toNat : Int))) = _
  rw [and_nat, wrap_u64]
  simp [vN]
theorem u64_or : binV P .or t (vN .u64 a) (vN .u64 b) = some (vN .u64 ((a ||| b) % 18446744073709551616)) := by
  rw [vN, vN, bin_same]
  show some (V.int .u64 (IntKind.wrap .u64 ((BitVec.ofInt 64 (a : Int) ||| BitVec.ofInt 64 (b : Int)).toNat : Int))) = _
  rw [or_nat, wrap_u64]
  simp [vN]
theorem u8_and : binV P .and t (vN .u8 a) (vN .u8 b) = some (vN .u8 ((a &&& b) % 256)) := by
  rw [vN, vN, bin_same]
  show some (V.int .u8 (IntKind.wrap .u8 ((BitVec.ofInt 8 (a : Int) &&& BitVec.ofInt 8 (b : Int)).toNat : Int))) = _
  rw [and_nat, wrap_u8]
  simp [vN]
theorem u8_or : binV P .or t (vN .u8 a) (vN .u8 b) = some (vN .u8 ((a ||| b) % 256)) := by
  rw [vN, vN, bin_same]
  show some (V.int .u8 (IntKind.wrap .u8 ((BitVec.ofInt 8 (a : Int) ||| BitVec.ofInt 8 (b : Int)).toNat : Int))) = _
  rw [or_nat, wrap_u8]
  simp [vN]

theorem fdiv_nat (n m : Nat) : (n : Int).fdiv (m : Int) = ((n / m : Nat) : Int) := by
  rw [Int.fdiv_eq_ediv_of_nonneg _ (by omega)]; simp
theorem tdiv_nat (n m : Nat) : (n : Int).tdiv (m : Int) = ((n / m : Nat) : Int) := by
  rw [Int.tdiv_eq_ediv_of_nonneg (by omega)]; simp
theorem tmod_nat (n m : Nat) : (n : Int).tmod (m : Int) = ((n % m : Nat) : Int) := by
  rw [Int.tmod_eq_emod_of_nonneg (by omega)]; simp

theorem shl_u32 (k : IntKind) : binV P .shl t (vN .u32 a) (vN k b) = some (vN .u32 ((a * 2 ^ (min b 32)) % 4294967296)) := by
  simp only [vN, binV, isShift, if_true, arith, IntKind.bits, Int.toNat_natCast]
  rw [if_neg (by omega)]
  rw [show ((a : Int) * 2 ^ min b 32) = ((a * 2 ^ min b 32 : Nat) : Int) by simp, wrap_u32]
theorem shl_u64 (k : IntKind) : binV P .shl t (vN .u64 a) (vN k b) = some (vN .u64 ((a * 2 ^ (min b 64)) % 18446744073709551616)) := by
  simp only [vN, binV, isShift, if_true, arith, IntKind.bits, Int.toNat_natCast]
  rw [if_neg (by omega)]
  rw [show ((a : Int) * 2 ^ min b 64) = ((a * 2 ^ min b 64 : Nat) : Int) by simp, wrap_u64]
theorem shr_N (k k' : IntKind) : binV P .shr t (vN k a) (vN k' b) = some (vN k (a / 2 ^ (min b k.bits))) := by
  simp only [vN, binV, isShift, if_true, arith, Int.toNat_natCast]
  rw [if_neg (by omega)]
  rw [show ((2 : Int) ^ min b k.bits) = ((2 ^ min b k.bits : Nat) : Int) by simp, fdiv_nat]

theorem i64_add (h : a + b < 9223372036854775808) : binV P .add t (vN .i64 a) (vN .i64 b) = some (vN .i64 (a + b)) := by
  simp only [vN, bin_same, arith]
  rw [← Int.natCast_add, wrap_i64 h]
theorem i64_sub (h : b ≤ a) (ha : a < 9223372036854775808) : binV P .sub t (vN .i64 a) (vN .i64 b) = some (vN .i64 (a - b)) := by
  simp only [vN, bin_same, arith]
  rw [← Int.ofNat_sub h, wrap_i64 (by omega)]
theorem i64_mul (h : a * b < 9223372036854775808) : binV P .mul t (vN .i64 a) (vN .i64 b) = some (vN .i64 (a * b)) := by
  simp only [vN, bin_same, arith]
  rw [← Int.natCast_mul, wrap_i64 h]
theorem i64_quo (hb : 0 < b) (h : a < 9223372036854775808) : binV P .quo t (vN .i64 a) (vN .i64 b) = some (vN .i64 (a / b)) := by
  simp only [vN, bin_same, arith]
  rw [if_neg (by omega), tdiv_nat, wrap_i64 (Nat.lt_of_le_of_lt (Nat.div_le_self _ _) h)]
theorem N_rem (k : IntKind) (hb : 0 < b) : binV P .rem t (vN k a) (vN k b) = some (vN k (a % b)) := by
  simp only [vN, bin_same, arith]
  rw [if_neg (by omega), tmod_nat]
theorem i64_shl {k : IntKind} (h : a * 2 ^ (min b 64) < 9223372036854775808) : binV P .shl t (vN .i64 a) (vN k b) = some (vN .i64 (a * 2 ^ (min b 64))) := by
  simp only [vN, binV, isShift, if_true, arith, IntKind.bits, Int.toNat_natCast]
  rw [if_neg (by omega)]
  rw [show ((a : Int) * 2 ^ min b 64) = ((a * 2 ^ min b 64 : Nat) : Int) by simp, wrap_i64 h]
theorem i64_and (ha : a < 9223372036854775808) : binV P .and t (vN .i64 a) (vN .i64 b) = some (vN .i64 (a &&& b)) := by
  rw [vN, vN, bin_same]
  show some (V.int .i64 (IntKind.wrap .i64 ((BitVec.ofInt 64 (a : Int) &&& BitVec.ofInt 64 (b : Int)).toNat : Int))) = _
  have h1 : a &&& b < 9223372036854775808 := Nat.lt_of_le_of_lt Nat.and_le_left ha
  rw [and_nat, Nat.mod_eq_of_lt (by omega), wrap_i64 h1, vN]

theorem N_lss (k : IntKind) : binV P .lss t (vN k a) (vN k b) = some (.bool (decide (a < b))) := by simp only [vN, bin_same, arith, Int.ofNat_lt]
theorem N_leq (k : IntKind) : binV P .leq t (vN k a) (vN k b) = some (.bool (decide (a ≤ b))) := by simp only [vN, bin_same, arith, Int.ofNat_le]
theorem N_gtr (k : IntKind) : binV P .gtr t (vN k a) (vN k b) = some (.bool (decide (b < a))) := by simp only [vN, bin_same, arith, gt_iff_lt, Int.ofNat_lt]
theorem N_geq (k : IntKind) : binV P .geq t (vN k a) (vN k b) = some (.bool (decide (b ≤ a))) := by simp only [vN, bin_same, arith, ge_iff_le, Int.ofNat_le]
theorem N_eql (k : IntKind) : binV P .eql t (vN k a) (vN k b) = some (.bool (decide (a = b))) := by
  simp only [vN, bin_same, arith, Option.some.injEq, V.bool.injEq]
  by_cases h : a = b
  · subst h; simp
  · have : ¬ (a : Int) = b := by omega
    simp [h, this]
theorem N_neq (k : IntKind) : binV P .neq t (vN k a) (vN k b) = some (.bool (decide (a ≠ b))) := by
  simp only [vN, bin_same, arith, Option.some.injEq, V.bool.injEq]
  by_cases h : a = b
  · subst h; simp
  · have : ¬ (a : Int) = b := by omega
    simp [h, this, bne]

theorem not_u32 : unV .xor (vN .u32 a) = some (vN .u32 ((4294967295 ^^^ a) % 4294967296)) := by
  rw [vN]
  show some (V.int .u32 (IntKind.wrap .u32 ((BitVec.ofInt 32 ((4294967295 : Nat) : Int) ^^^ BitVec.ofInt 32 (a : Int)).toNat : Int))) = _
  rw [xor_nat, wrap_u32]
  simp [vN]

theorem conv_u8 {s d : TypeId} {k : IntKind} (hs : (P.underlying s).isSome = true) (hd : intT P d = some .u8) : convV P s d (vN k a) = some (vN .u8 (a % 256)) := by
  simp only [vN, convV, hs, if_true, hd, Option.map_some, wrap_u8]
theorem conv_u32 {s d : TypeId} {k : IntKind} (hs : (P.underlying s).isSome = true) (hd : intT P d = some .u32) : convV P s d (vN k a) = some (vN .u32 (a % 4294967296)) := by
  simp only [vN, convV, hs, if_true, hd, Option.map_some, wrap_u32]
theorem conv_u64 {s d : TypeId} {k : IntKind} (hs : (P.underlying s).isSome = true) (hd : intT P d = some .u64) : convV P s d (vN k a) = some (vN .u64 (a % 18446744073709551616)) := by
  simp only [vN, convV, hs, if_true, hd, Option.map_some, wrap_u64]
theorem conv_i64 {s d : TypeId} {k : IntKind} (hs : (P.underlying s).isSome = true) (hd : intT P d = some .i64) (h : a < 9223372036854775808) : convV P s d (vN k a) = some (vN .i64 a) := by
  simp only [vN, convV, hs, if_true, hd, Option.map_some, wrap_i64 h]

theorem bnd_none (d m : Nat) : bnd none d m = some d := rfl
theorem bnd_N {k : IntKind} {d m : Nat} (h : a ≤ m) : bnd (some (vN k a)) d m = some a := by
  simp only [bnd, vN]
  rw [if_pos (by omega), Int.toNat_natCast]
theorem idxOf_N {k : IntKind} {n : Nat} (h : a < n) : idxOf (vN k a) n = some a := by
  simp only [idxOf, vN]
  rw [if_pos (by omega), Int.toNat_natCast]
theorem makeLens_N {k k' : IntKind} {b : Nat} (h : a ≤ b) (hb : b ≤ 281474976710656) : makeLens (vN k a) (vN k' b) = some (a, b) := by
  simp only [makeLens, vN]
  rw [if_pos (by omega), Int.toNat_natCast, Int.toNat_natCast]
end
end Go.Av
