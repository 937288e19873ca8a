/-
  Abstract values: numbers that are not negative.
  Abstract values: the rules by which a body is walked.
  Abstract values: short names for the rules of the walk; what the operations unfold to.
  Abstract values: slices, whatever they stand for, by their elements.
  Abstract values: rows of numbers; stores.
  Abstract values: drawn regions with effects in their heads: the rules.
  Abstract values: specifications: one or the other; weaker values; pieces of a body.
  Abstract values: a statement out of 'Sound': the arguments read as before; the world that a call begins with.
  Abstract values: a law's statement out of 'Sound'.
  Abstract values: arguments: bytes, hashes.
-/
import Derived.Test.YtgjlmmjdofceiaaYB
import Derived.ProofKit
import Derived.OpenShut
import Derived.Deep.Slices
import Derived.SizedLaws

namespace Go.Av
open Go.RowKit

/-- A number of an integer kind that is not negative. -/
def vN (k : IntKind) (n : Nat) : V := .int k (n : Int)


theorem ofVal_nn {k : IntKind} {i : Int} (h : 0 ≤ i) : bF (.int k i) = vN k i.toNat := by
  rw [vN, Int.toNat_of_nonneg h, bF]

theorem ofInt_nat (m n : Nat) : (BitVec.ofInt m (n : Int)).toNat = n % 2 ^ m := by
  rw [BitVec.ofInt_natCast, BitVec.toNat_ofNat]

theorem wrap_u8 (n : Nat) : IntKind.wrap .u8 (n : Int) = ((n % 256 : Nat) : Int) := by simp [IntKind.wrap, IntKind.bits, IntKind.signed]
theorem wrap_u32 (n : Nat) : IntKind.wrap .u32 (n : Int) = ((n % 4294967296 : Nat) : Int) := by simp [IntKind.wrap, IntKind.bits, IntKind.signed]
theorem wrap_u64 (n : Nat) : IntKind.wrap .u64 (n : Int) = ((n % 18446744073709551616 : Nat) : Int) := by simp [IntKind.wrap, IntKind.bits, IntKind.signed]
theorem wrap_i64 {n : Nat} (h : n < 9223372036854775808) : IntKind.wrap .i64 (n : Int) = (n : Int) := by
  have h1 : (n : Int) % 18446744073709551616 = n := by omega
  have h2 : ¬ (9223372036854775808 : Int) ≤ n := by omega
  simp [IntKind.wrap, IntKind.bits, IntKind.signed, h1, h2]
theorem and_nat (m a b : Nat) : (BitVec.ofInt m (a : Int) &&& BitVec.ofInt m (b : Int)).toNat = (a &&& b) % 2 ^ m := by rw [BitVec.toNat_and, ofInt_nat, ofInt_nat, Nat.and_mod_two_pow]
theorem or_nat (m a b : Nat) : (BitVec.ofInt m (a : Int) ||| BitVec.ofInt m (b : Int)).toNat = (a ||| b) % 2 ^ m := by rw [BitVec.toNat_or, ofInt_nat, ofInt_nat, Nat.or_mod_two_pow]
theorem xor_nat (m a b : Nat) : (BitVec.ofInt m (a : Int) ^^^ BitVec.ofInt m (b : Int)).toNat = (a ^^^ b) % 2 ^ m := by rw [BitVec.toNat_xor, ofInt_nat, ofInt_nat, Nat.xor_mod_two_pow]
theorem wrap_sub_u32 (a b : Nat) : IntKind.wrap .u32 ((a : Int) - b) = (((a + (4294967296 - b % 4294967296)) % 4294967296 : Nat) : Int) := by
  simp only [IntKind.wrap, IntKind.bits, IntKind.signed, Bool.false_and, Bool.false_eq_true, if_false]
  omega
theorem wrap_sub_u64 (a b : Nat) : IntKind.wrap .u64 ((a : Int) - b) = (((a + (18446744073709551616 - b % 18446744073709551616)) % 18446744073709551616 : Nat) : Int) := by
  simp only [IntKind.wrap, IntKind.bits, IntKind.signed, Bool.false_and, Bool.false_eq_true, if_false]
  omega
theorem wrap_sub_u8 (a b : Nat) : IntKind.wrap .u8 ((a : Int) - b) = (((a + (256 - b % 256)) % 256 : Nat) : Int) := by
  simp only [IntKind.wrap, IntKind.bits, IntKind.signed, Bool.false_and, Bool.false_eq_true, if_false]
  omega

section
variable {P : Program} {t : TypeId} (a b : Nat)

theorem aZ (op : BinOp) (k : IntKind) (x y : Int) : aI P op t (.int k x) (.int k y) = bz op k x y := by
  simp only [aI]
  split <;> simp

theorem u32_add : aI P .add t (vN .u32 a) (vN .u32 b) = some (vN .u32 ((a + b) % 4294967296)) := by
  simp only [vN, aZ, bz, ← wrap_u32, Int.natCast_add]
theorem u32_sub : aI P .sub t (vN .u32 a) (vN .u32 b) = some (vN .u32 ((a + (4294967296 - b % 4294967296)) % 4294967296)) := by
  simp only [vN, aZ, bz, wrap_sub_u32]
theorem u32_mul : aI P .mul t (vN .u32 a) (vN .u32 b) = some (vN .u32 ((a * b) % 4294967296)) := by
  simp only [vN, aZ, bz, ← wrap_u32, Int.natCast_mul]
theorem u32_and : aI P .and t (vN .u32 a) (vN .u32 b) = some (vN .u32 ((a &&& b) % 4294967296)) := by
  rw [vN, vN, aZ]
  show some (V.int .u32 (IntKind.wrap .u32 ((BitVec.ofInt 32 (a : Int) &&& BitVec.ofInt 32 (b : Int)).toNat : Int))) = _
  rw [and_nat, wrap_u32]
  simp [vN]
theorem u32_or : aI P .or t (vN .u32 a) (vN .u32 b) = some (vN .u32 ((a ||| b) % 4294967296)) := by
  rw [vN, vN, aZ]
  show some (V.int .u32 (IntKind.wrap .u32 ((BitVec.ofInt 32 (a : Int) ||| BitVec.ofInt 32 (b : Int)).toNat : Int))) = _
  rw [or_nat, wrap_u32]
  simp [vN]
theorem u32_xor : aI P .xor t (vN .u32 a) (vN .u32 b) = some (vN .u32 ((a ^^^ b) % 4294967296)) := by
  rw [vN, vN, aZ]
  show some (V.int .u32 (IntKind.wrap .u32 ((BitVec.ofInt 32 (a : Int) ^^^ BitVec.ofInt 32 (b : Int)).toNat : Int))) = _
  rw [xor_nat, wrap_u32]
  simp [vN]
theorem u64_add : aI P .add t (vN .u64 a) (vN .u64 b) = some (vN .u64 ((a + b) % 18446744073709551616)) := by
  simp only [vN, aZ, bz, ← wrap_u64, Int.natCast_add]
theorem u64_sub : aI P .sub t (vN .u64 a) (vN .u64 b) = some (vN .u64 ((a + (18446744073709551616 - b % 18446744073709551616)) % 18446744073709551616)) := by
  simp only [vN, aZ, bz, wrap_sub_u64]
theorem u64_mul : aI P .mul t (vN .u64 a) (vN .u64 b) = some (vN .u64 ((a * b) % 18446744073709551616)) := by
  simp only [vN, aZ, bz, ← wrap_u64, Int.natCast_mul]
theorem u64_and : aI P .and t (vN .u64 a) (vN .u64 b) = some (vN .u64 ((a &&& b) % 18446744073709551616)) := by
  rw [vN, vN, aZ]
  show some (V.int .u64 (IntKind.wrap .u64 ((BitVec.ofInt 64 (a : Int) &&& BitVec.ofInt 64 (b : Int)).toNat : Int))) = _
  rw [and_nat, wrap_u64]
  simp [vN]
theorem u64_or : aI P .or t (vN .u64 a) (vN .u64 b) = some (vN .u64 ((a ||| b) % 18446744073709551616)) := by
  rw [vN, vN, aZ]
  show some (V.int .u64 (IntKind.wrap .u64 ((BitVec.ofInt 64 (a : Int) ||| BitVec.ofInt 64 (b : Int)).toNat : Int))) = _
  rw [or_nat, wrap_u64]
  simp [vN]
theorem u8_and : aI P .and t (vN .u8 a) (vN .u8 b) = some (vN .u8 ((a &&& b) % 256)) := by
  rw [vN, vN, aZ]
  show some (V.int .u8 (IntKind.wrap .u8 ((BitVec.ofInt 8 (a : Int) &&& BitVec.ofInt 8 (b : Int)).toNat : Int))) = _
  rw [and_nat, wrap_u8]
  simp [vN]
theorem u8_or : aI P .or t (vN .u8 a) (vN .u8 b) = some (vN .u8 ((a ||| b) % 256)) := by
  rw [vN, vN, aZ]
  show some (V.int .u8 (IntKind.wrap .u8 ((BitVec.ofInt 8 (a : Int) ||| BitVec.ofInt 8 (b : Int)).toNat : Int))) = _
  rw [or_nat, wrap_u8]
  simp [vN]

theorem fdiv_nat (n m : Nat) : (n : Int).fdiv (m : Int) = ((n / m : Nat) : Int) := by
  rw [Int.fdiv_eq_ediv_of_nonneg _ (by omega)]; simp
theorem tdiv_nat (n m : Nat) : (n : Int).tdiv (m : Int) = ((n / m : Nat) : Int) := by
  rw [Int.tdiv_eq_ediv_of_nonneg (by omega)]; simp
theorem tmod_nat (n m : Nat) : (n : Int).tmod (m : Int) = ((n % m : Nat) : Int) := by
  rw [Int.tmod_eq_emod_of_nonneg (by omega)]; simp

theorem shl_u32 (k : IntKind) : aI P .shl t (vN .u32 a) (vN k b) = some (vN .u32 ((a * 2 ^ (min b 32)) % 4294967296)) := by
  simp only [vN, aI, isShift, if_true, bz, IntKind.bits, Int.toNat_natCast]
  rw [if_neg (by omega)]
  rw [show ((a : Int) * 2 ^ min b 32) = ((a * 2 ^ min b 32 : Nat) : Int) by simp, wrap_u32]
theorem shl_u64 (k : IntKind) : aI P .shl t (vN .u64 a) (vN k b) = some (vN .u64 ((a * 2 ^ (min b 64)) % 18446744073709551616)) := by
  simp only [vN, aI, isShift, if_true, bz, IntKind.bits, Int.toNat_natCast]
  rw [if_neg (by omega)]
  rw [show ((a : Int) * 2 ^ min b 64) = ((a * 2 ^ min b 64 : Nat) : Int) by simp, wrap_u64]
theorem shr_N (k k' : IntKind) : aI P .shr t (vN k a) (vN k' b) = some (vN k (a / 2 ^ (min b k.bits))) := by
  simp only [vN, aI, isShift, if_true, bz, Int.toNat_natCast]
  rw [if_neg (by omega)]
  rw [show ((2 : Int) ^ min b k.bits) = ((2 ^ min b k.bits : Nat) : Int) by simp, fdiv_nat]

theorem aP (h : a + b < 9223372036854775808) : aI P .add t (vN .i64 a) (vN .i64 b) = some (vN .i64 (a + b)) := by
  simp only [vN, aZ, bz]
  rw [← Int.natCast_add, wrap_i64 h]
theorem i64_sub (h : b ≤ a) (ha : a < 9223372036854775808) : aI P .sub t (vN .i64 a) (vN .i64 b) = some (vN .i64 (a - b)) := by
  simp only [vN, aZ, bz]
  rw [← Int.ofNat_sub h, wrap_i64 (by omega)]
theorem i64_mul (h : a * b < 9223372036854775808) : aI P .mul t (vN .i64 a) (vN .i64 b) = some (vN .i64 (a * b)) := by
  simp only [vN, aZ, bz]
  rw [← Int.natCast_mul, wrap_i64 h]
theorem i64_quo (hb : 0 < b) (h : a < 9223372036854775808) : aI P .quo t (vN .i64 a) (vN .i64 b) = some (vN .i64 (a / b)) := by
  simp only [vN, aZ, bz]
  rw [if_neg (by omega), tdiv_nat, wrap_i64 (Nat.lt_of_le_of_lt (Nat.div_le_self _ _) h)]
theorem N_rem (k : IntKind) (hb : 0 < b) : aI P .rem t (vN k a) (vN k b) = some (vN k (a % b)) := by
  simp only [vN, aZ, bz]
  rw [if_neg (by omega), tmod_nat]
theorem i64_shl {k : IntKind} (h : a * 2 ^ (min b 64) < 9223372036854775808) : aI P .shl t (vN .i64 a) (vN k b) = some (vN .i64 (a * 2 ^ (min b 64))) := by
  simp only [vN, aI, isShift, if_true, bz, IntKind.bits, Int.toNat_natCast]
  rw [if_neg (by omega)]
  rw [show ((a : Int) * 2 ^ min b 64) = ((a * 2 ^ min b 64 : Nat) : Int) by simp, wrap_i64 h]
theorem i64_and (ha : a < 9223372036854775808) : aI P .and t (vN .i64 a) (vN .i64 b) = some (vN .i64 (a &&& b)) := by
  rw [vN, vN, aZ]
  show some (V.int .i64 (IntKind.wrap .i64 ((BitVec.ofInt 64 (a : Int) &&& BitVec.ofInt 64 (b : Int)).toNat : Int))) = _
  have h1 : a &&& b < 9223372036854775808 := Nat.lt_of_le_of_lt Nat.and_le_left ha
  rw [and_nat, Nat.mod_eq_of_lt (by omega), wrap_i64 h1, vN]

theorem N_lss (k : IntKind) : aI P .lss t (vN k a) (vN k b) = some (.bool (decide (a < b))) := by simp only [vN, aZ, bz, Int.ofNat_lt]
theorem N_leq (k : IntKind) : aI P .leq t (vN k a) (vN k b) = some (.bool (decide (a ≤ b))) := by simp only [vN, aZ, bz, Int.ofNat_le]
theorem N_gtr (k : IntKind) : aI P .gtr t (vN k a) (vN k b) = some (.bool (decide (b < a))) := by simp only [vN, aZ, bz, gt_iff_lt, Int.ofNat_lt]
theorem N_geq (k : IntKind) : aI P .geq t (vN k a) (vN k b) = some (.bool (decide (b ≤ a))) := by simp only [vN, aZ, bz, ge_iff_le, Int.ofNat_le]
theorem N_eql (k : IntKind) : aI P .eql t (vN k a) (vN k b) = some (.bool (decide (a = b))) := by
  simp only [vN, aZ, bz, Option.some.injEq, V.bool.injEq]
  by_cases h : a = b
  · subst h; simp
  · have : ¬ (a : Int) = b := by omega
    simp [h, this]
theorem N_neq (k : IntKind) : aI P .neq t (vN k a) (vN k b) = some (.bool (decide (a ≠ b))) := by
  simp only [vN, aZ, bz, Option.some.injEq, V.bool.injEq]
  by_cases h : a = b
  · subst h; simp
  · have : ¬ (a : Int) = b := by omega
    simp [h, this, bne]

theorem not_u32 : unV .xor (vN .u32 a) = some (vN .u32 ((4294967295 ^^^ a) % 4294967296)) := by
  rw [vN]
  show some (V.int .u32 (IntKind.wrap .u32 ((BitVec.ofInt 32 ((4294967295 : Nat) : Int) ^^^ BitVec.ofInt 32 (a : Int)).toNat : Int))) = _
  rw [xor_nat, wrap_u32]
  simp [vN]

theorem conv_u8 {s d : TypeId} {k : IntKind} (hs : (P.underlying s).isSome = true) (hd : intT P d = some .u8) : convV P s d (vN k a) = some (vN .u8 (a % 256)) := by
  simp only [vN, convV, hs, if_true, hd, Option.map_some, wrap_u8]
theorem conv_u32 {s d : TypeId} {k : IntKind} (hs : (P.underlying s).isSome = true) (hd : intT P d = some .u32) : convV P s d (vN k a) = some (vN .u32 (a % 4294967296)) := by
  simp only [vN, convV, hs, if_true, hd, Option.map_some, wrap_u32]
theorem conv_u64 {s d : TypeId} {k : IntKind} (hs : (P.underlying s).isSome = true) (hd : intT P d = some .u64) : convV P s d (vN k a) = some (vN .u64 (a % 18446744073709551616)) := by
  simp only [vN, convV, hs, if_true, hd, Option.map_some, wrap_u64]
theorem conv_i64 {s d : TypeId} {k : IntKind} (hs : (P.underlying s).isSome = true) (hd : intT P d = some .i64) (h : a < 9223372036854775808) : convV P s d (vN k a) = some (vN .i64 a) := by
  simp only [vN, convV, hs, if_true, hd, Option.map_some, wrap_i64 h]

theorem bnd_none (d m : Nat) : bnd none d m = some d := rfl
theorem bnd_N {k : IntKind} {d m : Nat} (h : a ≤ m) : bnd (some (vN k a)) d m = some a := by
  simp only [bnd, vN]
  rw [if_pos (by omega), Int.toNat_natCast]
theorem idxOf_N {k : IntKind} {n : Nat} (h : a < n) : idxOf (vN k a) n = some a := by
  simp only [idxOf, vN]
  rw [if_pos (by omega), Int.toNat_natCast]
theorem makeLens_N {k k' : IntKind} {b : Nat} (h : a ≤ b) (hb : b ≤ 281474976710656) : makeLens (vN k a) (vN k' b) = some (a, b) := by
  simp only [makeLens, vN]
  rw [if_pos (by omega), Int.toNat_natCast, Int.toNat_natCast]
end
end Go.Av

namespace Go.Av
open Go.RowKit

section
variable {P : Program} {S : Nat → Spec} {Y : aC} {O : List Nat} {n : Nat} {ops : Array Oper} {o : Oper} {r : List Oper} {t : T} {H : Hp}

theorem aa {Q : T → Hp → Prop} (hg : bR ops t o.guard = some true)
    (h : ∀ K : T → Hp → Prop, (∀ t' H', wpOps P S Y O n ops r t' H' Q → K t' H') → wpOp P S Y (owned O o) H (evT t) o.op (fun x H' => K (putT n t o.dst x) H')) : wpOps P S Y O n ops (o :: r) t H Q := by
  unfold wpOps
  rw [hg]
  exact ⟨fun _ => h _ (fun _ _ h => h), fun h => by cases h⟩

theorem aq {Q : T → Hp → Prop} {ty : TypeId} {a x : Operand} {p v : V} {H' : Hp} (ho : o.op = .store ty a x) (hd : o.dst = none) (hg : bR ops t o.guard = some true) (hp : evT t a = p) (hx : evT t x = v) (hs : storeV P H ty p v = some H')
    (h : wpOps P S Y O n ops r t H' Q) : wpOps P S Y O n ops (o :: r) t H Q := by
  unfold wpOps
  rw [hg]
  refine ⟨fun _ => ?_, fun h => by cases h⟩
  rw [ho]
  refine ⟨H', by rw [hp, hx]; exact hs, ?_⟩
  rw [hd]
  exact h

theorem bl {Q : T → Hp → Prop} (hg : bR ops t o.guard = some false) (h : wpOps P S Y O n ops r (putT n t o.dst (.tup [])) H Q) : wpOps P S Y O n ops (o :: r) t H Q := by
  unfold wpOps
  rw [hg]
  exact ⟨fun h => by (cases h), fun _ => h⟩

theorem ae {Q : T → Hp → Prop} (h : Q t H) : wpOps P S Y O n ops [] t H Q := h

theorem aQ {Q : T → Hp → Prop} (hg : bR ops t o.guard = some true)
    (h : ∀ K : V → Prop, (∀ x, cd P S Y O n ops r (putT n t o.dst x) H Q → K x) → ∃ x, wpOp P S Y (owned O o) H (evT t) o.op (fun y H'' => y = x ∧ H'' = H) ∧ K x) : cd P S Y O n ops (o :: r) t H Q := by
  unfold cd
  rw [hg]
  exact ⟨fun _ => h _ (fun _ h => h), fun h => by cases h⟩

theorem quiet_skip {Q : T → Hp → Prop} (hg : bR ops t o.guard = some false) (h : cd P S Y O n ops r (putT n t o.dst (.tup [])) H Q) : cd P S Y O n ops (o :: r) t H Q := by
  unfold cd
  rw [hg]
  exact ⟨fun h => by (cases h), fun _ => h⟩

theorem bx {Q : T → Hp → Prop} (h : Q t H) : cd P S Y O n ops [] t H Q := h

variable {top : Bool} {Q : Exit → T → Hp → Prop}

theorem bZ {x y : Code} (h : ∀ K : T → Hp → Prop, (∀ t' H', wpC P S Y O n y top Q t' H' → K t' H') → wpC P S Y O n x top (bC K Q) t H) : wpC P S Y O n (.seq x y) top Q t H := by
  unfold wpC
  exact h _ (fun _ _ h => ⟨[], h⟩)
/-- .. where blocks may be taken as lasting behind the first part. -/
theorem af {x y : Code} (h : ∀ K : T → Hp → Prop, (∀ t' H', wpC P S Y O n y top Q t' H' → K t' H') → (∀ ds t' H', frzA ds t' H' (fun t H => wpC P S Y O n y top Q t H) → K t' H') → wpC P S Y O n x top (bC K Q) t H) : wpC P S Y O n (.seq x y) top Q t H := by
  unfold wpC
  exact h _ (fun _ _ h => ⟨[], h⟩) (fun ds _ _ h => ⟨ds, h⟩)

theorem ac {id : Nat} {l : List Oper} (hl : ops.toList = l) (h : wpOps P S Y O n ops l t H (Q .normal)) : wpC P S Y O n (.region id ops false) top Q t H := by
  unfold wpC
  rw [if_neg (by simp), hl]
  exact h

theorem bJ {id : Nat} (m : Nat) {l l' : List Oper} (hB : (drawB ops m (List.range' 0 m) && Region.seqB .any ops (ops.size - m) m ((List.range' 0 m).foldl (fun a j => a.setIfInBounds j true) (Array.replicate ops.size false))) = true)
    (hl : ops.toList.take m = l) (hl' : ops.toList.drop m = l') (h : cd P S Y O n ops l t H fun t' H' => wpOps P S Y O n ops l' t' H' (Q .normal)) : wpC P S Y O n (.region id ops true) top Q t H := by
  unfold wpC
  rw [if_pos rfl]
  subst hl
  subst hl'
  exact drawOk_quiet hB h

theorem wpC_cut {c : Code} {F : T → Prop} (hF : F t) (h : ∀ t', F t' → wpC P S Y O n c top Q t' H) : wpC P S Y O n c top Q t H := h t hF
theorem al (h : Q .ret t H) : wpC P S Y O n .ret top Q t H := h
theorem am (h : Q .normal t H) : wpC P S Y O n .skip top Q t H := h
theorem wpC_label {l : Nat} (h : Q .normal t H) : wpC P S Y O n (.label l) top Q t H := h
theorem aG {id : Nat} (h : Q (.exit id) t H) : wpC P S Y O n (.exit id) top Q t H := h
theorem ax {id : Nat} {c : Code} (h : wpC P S Y O n c top (bi id Q) t H) : wpC P S Y O n (.block id c) top Q t H := h
theorem wpC_scope {c : Code} (h : wpC P S Y O n c top (noGotoA Q) t H) : wpC P S Y O n (.scope c) top Q t H := h
theorem aS {c : Operand} {x y : Code} (hc : evT t c = .bool true) (h : wpC P S Y O n x top Q t H) : wpC P S Y O n (.cond c x y) top Q t H := by
  unfold wpC
  rw [hc]
  exact ⟨fun _ => h, fun h => by cases h⟩
theorem aE {c : Operand} {x y : Code} (hc : evT t c = .bool false) (h : wpC P S Y O n y top Q t H) : wpC P S Y O n (.cond c x y) top Q t H := by
  unfold wpC
  rw [hc]
  exact ⟨fun h => by (cases h), fun _ => h⟩
theorem wpC_cond {c : Operand} {x y : Code} {b : Bool} (hc : evT t c = .bool b) (h1 : b = true → wpC P S Y O n x top Q t H) (h2 : b = false → wpC P S Y O n y top Q t H) : wpC P S Y O n (.cond c x y) top Q t H := by
  unfold wpC
  rw [hc]
  exact ⟨h1, h2⟩
theorem aH {c : Operand} {x y : Code} {p : Prop} [Decidable p] (hc : evT t c = .bool (decide p)) (h1 : p → wpC P S Y O n x top Q t H) (h2 : ¬p → wpC P S Y O n y top Q t H) : wpC P S Y O n (.cond c x y) top Q t H :=
  wpC_cond hc (fun h => h1 (of_decide_eq_true h)) (fun h => h2 (of_decide_eq_false h))

theorem aO {c : Code} (I : Nat → T → Hp → Prop) (m : Nat) (h0 : I m t H)
    (h : ∀ K : Nat → T → Hp → Prop, ∀ m t H, I m t H → (∀ m' t' H', m' < m → I m' t' H' → K m t' H') → wpC P S Y O n c top (bC (fun t' H' => K m t' H') Q) t H) : wpC P S Y O n (.loop c) top Q t H := by
  unfold wpC
  refine ⟨I, ⟨m, h0⟩, fun m t H hI => h (fun m t' H' => ∃ m', m' < m ∧ I m' t' H') m t H hI fun m' t' H' h1 h2 => ⟨m', h1, h2⟩⟩

theorem ab {α : Type} (f : Nat → α) (i : Nat) (x : α) (j : Nat) : upd f i x j = if j = i then x else f j := by simp only [upd]
theorem evT_tmp (t : T) (i : Nat) : evT t (.tmp i) = t i := by simp only [evT]
theorem evT_const (t : T) (v : Value) : evT t (.const v) = bF v := by simp only [evT]
theorem evT_global (t : T) (g : Nat) : evT t (.global g) = .ptr g 0 := by simp only [evT]
theorem evT_func (t : T) (f : Nat) : evT t (.func f) = .fn (.func f) [] [] := by simp only [evT]
theorem unV_not (b : Bool) : unV .not (.bool b) = some (.bool !b) := rfl
theorem ofVal_bool (b : Bool) : bF (.bool b) = .bool b := rfl
theorem ofVal_str (s : ByteArray) : bF (.string s) = .str s := rfl
theorem ofVal_nilp : bF (.pointer none) = .nilp := rfl
theorem ofVal_nils : bF (.slice none 0 0) = .nils := rfl
theorem ofVal_nilm : bF (.map none) = .nilm := rfl
theorem ofVal_niln : bF .nilFunc = .niln := rfl
theorem ofVal_neg {k : IntKind} {i : Int} (_ : i < 0) : bF (.int k i) = .int k i := rfl
theorem val_some {x : V} {Q : V → Hp → Prop} : val (some x) H Q = Q x H := by simp [val]
theorem wpConv_N {s d : TypeId} {k : IntKind} {n : Nat} {Q : V → Hp → Prop} : wpConv P H s d (vN k n) Q = val (convV P s d (vN k n)) H Q := rfl
theorem wpConv_I {s d : TypeId} {k : IntKind} {n : Int} {Q : V → Hp → Prop} : wpConv P H s d (.int k n) Q = val (convV P s d (.int k n)) H Q := rfl
theorem wpBin_N {op : BinOp} {t : TypeId} {k k' : IntKind} {a b : Nat} {Q : V → Hp → Prop} : wpBin P H op t (vN k a) (vN k' b) Q = val (aI P op t (vN k a) (vN k' b)) H Q := rfl
theorem wpBin_B {op : BinOp} {t : TypeId} {a b : Bool} {Q : V → Hp → Prop} : wpBin P H op t (.bool a) (.bool b) Q = val (aI P op t (.bool a) (.bool b)) H Q := rfl
theorem wpBin_A {op : BinOp} {t : TypeId} {a b : List V} {Q : V → Hp → Prop} : wpBin P H op t (.agg a) (.agg b) Q = val (aI P op t (.agg a) (.agg b)) H Q := rfl
end
/-- The rules of every step. -/
theorem BB : (∀ (t : T) (i : Nat), evT t (Operand.tmp i) = t i) ∧
  (∀ (t : T) (v : Value), evT t (Operand.const v) = bF v) ∧
  (∀ (t : T) (g : Nat), evT t (Operand.global g) = V.ptr g 0) ∧
  (∀ (t : T) (f : Nat), evT t (Operand.func f) = V.fn (Fn.func f) [] []) ∧
  (∀ {H : Hp} {x : V} {Q : V → Hp → Prop}, val (some x) H Q = Q x H) ∧
  (∀ {k : IntKind} {i : Int}, 0 ≤ i → bF (Value.int k i) = vN k (Int.toNat i)) ∧
  (∀ {k : IntKind} {i : Int}, i < 0 → bF (Value.int k i) = V.int k i) ∧
  (∀ (b : Bool), bF (Value.bool b) = V.bool b) ∧
  (∀ (s : ByteArray), bF (Value.string s) = V.str s) ∧
  (bF (Value.pointer none) = V.nilp) ∧
  (bF (Value.slice none 0 0) = V.nils) ∧
  (bF (Value.map none) = V.nilm) ∧
  (bF Value.nilFunc = V.niln) ∧
  (∀ {α : Type} {a : α} {i : Nat} {l : List α}, (a :: l)[i + 1]? = l[i]?) ∧
  (∀ {α : Type} {a : α} {l : List α}, (a :: l)[0]? = some a) ∧
  (∀ {α : Type} {i : Nat}, ([] : List α)[i]? = none) ∧
  (∀ {α : Type} {a b : α}, Option.getD (some a) b = a) ∧
  (∀ {α : Type} {a : α}, Option.getD none a = a) ∧
  (∀ {α β : Type} (a : α) (f : α → Option β), Option.bind (some a) f = f a) ∧
  (∀ {α β : Type} (a : α) (f : α → β), Option.map f (some a) = some (f a)) ∧
  (∀ {α : Type} (val val_1 : α), (some val = some val_1) = (val = val_1)) ∧
  (∀ {P : Program} {H : Hp} {s d : TypeId} {k : IntKind} {n : Nat} {Q : V → Hp → Prop}, wpConv P H s d (vN k n) Q = val (convV P s d (vN k n)) H Q) ∧
  (∀ {P : Program} {H : Hp} {op : BinOp} {t : TypeId} {k k' : IntKind} {a b : Nat} {Q : V → Hp → Prop}, wpBin P H op t (vN k a) (vN k' b) Q = val (aI P op t (vN k a) (vN k' b)) H Q) ∧
  (∀ {P : Program} {H : Hp} {op : BinOp} {t : TypeId} {a b : Bool} {Q : V → Hp → Prop}, wpBin P H op t (V.bool a) (V.bool b) Q = val (aI P op t (V.bool a) (V.bool b)) H Q) ∧
  (∀ {α : Type} (as : List α), as ++ [] = as) ∧
  (∀ {α : Type} (as : List α), [] ++ as = as) ∧
  (∀ {α β : Type} {f : α → β} {a : α} {l : List α}, List.map f (a :: l) = f a :: List.map f l) ∧
  (∀ {α β : Type} {f : α → β}, List.map f [] = []) ∧
  (∀ {α : Type} {a : α} {as bs : List α}, a :: as ++ bs = a :: (as ++ bs)) ∧
  (∀ {α : Type} [inst : BEq α] {a b : α} {l : List α}, List.contains (a :: l) b = (b == a || List.contains l b)) ∧
  (∀ {α : Type} {a : α} [inst : BEq α], List.contains ([] : List α) a = false) ∧
  (∀ (b : Bool), (b || false) = b) ∧
  (∀ (b : Bool), (false || b) = b) ∧
  (∀ (b : Bool), (true || b) = true) ∧
  (∀ (b : Bool), (b || true) = true) ∧
  (∀ {α : Type} [inst : BEq α] [ReflBEq α] (a : α), (a == a) = true) ∧
  ((false = true) = False) ∧
  (∀ {P : Program} {t : TypeId} (a b : Nat), aI P BinOp.add t (vN IntKind.u32 a) (vN IntKind.u32 b) = some (vN IntKind.u32 ((a + b) % 4294967296))) ∧
  (∀ {P : Program} {t : TypeId} (a b : Nat), aI P BinOp.sub t (vN IntKind.u32 a) (vN IntKind.u32 b) = some (vN IntKind.u32 ((a + (4294967296 - b % 4294967296)) % 4294967296))) ∧
  (∀ {P : Program} {t : TypeId} (a b : Nat), aI P BinOp.mul t (vN IntKind.u32 a) (vN IntKind.u32 b) = some (vN IntKind.u32 (a * b % 4294967296))) ∧
  (∀ {P : Program} {t : TypeId} (a b : Nat), aI P BinOp.and t (vN IntKind.u32 a) (vN IntKind.u32 b) = some (vN IntKind.u32 ((a &&& b) % 4294967296))) ∧
  (∀ {P : Program} {t : TypeId} (a b : Nat), aI P BinOp.or t (vN IntKind.u32 a) (vN IntKind.u32 b) = some (vN IntKind.u32 ((a ||| b) % 4294967296))) ∧
  (∀ {P : Program} {t : TypeId} (a b : Nat), aI P BinOp.xor t (vN IntKind.u32 a) (vN IntKind.u32 b) = some (vN IntKind.u32 ((a ^^^ b) % 4294967296))) ∧
  (∀ {P : Program} {t : TypeId} (a b : Nat), aI P BinOp.add t (vN IntKind.u64 a) (vN IntKind.u64 b) = some (vN IntKind.u64 ((a + b) % 18446744073709551616))) ∧
  (∀ {P : Program} {t : TypeId} (a b : Nat), aI P BinOp.sub t (vN IntKind.u64 a) (vN IntKind.u64 b) = some (vN IntKind.u64 ((a + (18446744073709551616 - b % 18446744073709551616)) % 18446744073709551616))) ∧
  (∀ {P : Program} {t : TypeId} (a b : Nat), aI P BinOp.mul t (vN IntKind.u64 a) (vN IntKind.u64 b) = some (vN IntKind.u64 (a * b % 18446744073709551616))) ∧
  (∀ {P : Program} {t : TypeId} (a b : Nat), aI P BinOp.and t (vN IntKind.u64 a) (vN IntKind.u64 b) = some (vN IntKind.u64 ((a &&& b) % 18446744073709551616))) ∧
  (∀ {P : Program} {t : TypeId} (a b : Nat), aI P BinOp.or t (vN IntKind.u64 a) (vN IntKind.u64 b) = some (vN IntKind.u64 ((a ||| b) % 18446744073709551616))) ∧
  (∀ {P : Program} {t : TypeId} (a b : Nat), aI P BinOp.and t (vN IntKind.u8 a) (vN IntKind.u8 b) = some (vN IntKind.u8 ((a &&& b) % 256))) ∧
  (∀ {P : Program} {t : TypeId} (a b : Nat), aI P BinOp.or t (vN IntKind.u8 a) (vN IntKind.u8 b) = some (vN IntKind.u8 ((a ||| b) % 256))) ∧
  (∀ {P : Program} {t : TypeId} (a b : Nat) (k : IntKind), aI P BinOp.shl t (vN IntKind.u32 a) (vN k b) = some (vN IntKind.u32 (a * 2 ^ min b 32 % 4294967296))) ∧
  (∀ {P : Program} {t : TypeId} (a b : Nat) (k : IntKind), aI P BinOp.shl t (vN IntKind.u64 a) (vN k b) = some (vN IntKind.u64 (a * 2 ^ min b 64 % 18446744073709551616))) ∧
  (∀ {P : Program} {t : TypeId} (a b : Nat) (k k' : IntKind), aI P BinOp.shr t (vN k a) (vN k' b) = some (vN k (a / 2 ^ min b (IntKind.bits k)))) ∧
  (∀ {P : Program} {t : TypeId} (a b : Nat) (k : IntKind), aI P BinOp.lss t (vN k a) (vN k b) = some (V.bool (decide (a < b)))) ∧
  (∀ {P : Program} {t : TypeId} (a b : Nat) (k : IntKind), aI P BinOp.leq t (vN k a) (vN k b) = some (V.bool (decide (a ≤ b)))) ∧
  (∀ {P : Program} {t : TypeId} (a b : Nat) (k : IntKind), aI P BinOp.gtr t (vN k a) (vN k b) = some (V.bool (decide (b < a)))) ∧
  (∀ {P : Program} {t : TypeId} (a b : Nat) (k : IntKind), aI P BinOp.geq t (vN k a) (vN k b) = some (V.bool (decide (b ≤ a)))) ∧
  (∀ {P : Program} {t : TypeId} (a b : Nat) (k : IntKind), aI P BinOp.eql t (vN k a) (vN k b) = some (V.bool (decide (a = b)))) ∧
  (∀ {P : Program} {t : TypeId} (a b : Nat) (k : IntKind), aI P BinOp.neq t (vN k a) (vN k b) = some (V.bool (decide (a ≠ b)))) ∧
  (∀ (a : Nat), unV UnOp.xor (vN IntKind.u32 a) = some (vN IntKind.u32 ((4294967295 ^^^ a) % 4294967296))) ∧
  (∀ (n : Nat), 0 + n = n) ∧
  (∀ (n : Nat), n + 0 = n) ∧
  (∀ (n : Nat), n * 1 = n) ∧
  (∀ (n : Nat), 1 * n = n) ∧
  (∀ (b : Bool), unV UnOp.not (V.bool b) = some (V.bool !b)) ∧
  ((!true) = false) ∧
  ((!false) = true) ∧
  (∀ {α β : Type} (f : α → β), Option.map f none = none) :=
  ⟨@evT_tmp, @evT_const, @evT_global, @evT_func, @val_some, @ofVal_nn, @ofVal_neg, @ofVal_bool, @ofVal_str, @ofVal_nilp, @ofVal_nils, @ofVal_nilm, @ofVal_niln, @List.getElem?_cons_succ, @List.getElem?_cons_zero, @List.getElem?_nil, @Option.getD_some, @Option.getD_none, @Option.bind_some, @Option.map_some, @Option.some.injEq, @wpConv_N, @wpBin_N, @wpBin_B, @List.append_nil, @List.nil_append, @List.map_cons, @List.map_nil, @List.cons_append, @List.contains_cons, @List.contains_nil, @Bool.or_false, @Bool.false_or, @Bool.true_or, @Bool.or_true, @beq_self_eq_true, @Bool.false_eq_true, @u32_add, @u32_sub, @u32_mul, @u32_and, @u32_or, @u32_xor, @u64_add, @u64_sub, @u64_mul, @u64_and, @u64_or, @u8_and, @u8_or, @shl_u32, @shl_u64, @shr_N, @N_lss, @N_leq, @N_gtr, @N_geq, @N_eql, @N_neq, @not_u32, @Nat.zero_add, @Nat.add_zero, @Nat.mul_one, @Nat.one_mul, @unV_not, @Bool.not_true, @Bool.not_false, @Option.map_none⟩
end Go.Av

namespace Go.Av
open Go.RowKit

theorem TH : (∀ (K : T → Hp → Prop) (Q : Exit → T → Hp → Prop) (t : T) (H : Hp), bC K Q .normal t H = K t H) ∧
  (∀ (K : T → Hp → Prop) (Q : Exit → T → Hp → Prop) (t : T) (H : Hp), bC K Q .ret t H = Q .ret t H) ∧
  (∀ (K : T → Hp → Prop) (Q : Exit → T → Hp → Prop) (i : Nat) (t : T) (H : Hp), bC K Q (.exit i) t H = Q (.exit i) t H) ∧
  (∀ (K : T → Hp → Prop) (Q : Exit → T → Hp → Prop) (i : Nat) (t : T) (H : Hp), bC K Q (.goto i) t H = Q (.goto i) t H) ∧
  (∀ (Q : Exit → T → Hp → Prop) (i j : Nat) (t : T) (H : Hp), bi i Q (.exit j) t H = if j = i then Q .normal t H else Q (.exit j) t H) ∧
  (∀ (Q : Exit → T → Hp → Prop) (i : Nat) (t : T) (H : Hp), bi i Q .normal t H = Q .normal t H) ∧
  (∀ (Q : Exit → T → Hp → Prop) (i : Nat) (t : T) (H : Hp), bi i Q .ret t H = Q .ret t H) ∧
  (∀ (Q : Exit → T → Hp → Prop) (i j : Nat) (t : T) (H : Hp), bi i Q (.goto j) t H = Q (.goto j) t H) ∧
  (∀ (Q : Exit → T → Hp → Prop) (t : T) (H : Hp), noGotoA Q .normal t H = Q .normal t H) ∧
  (∀ (Q : Exit → T → Hp → Prop) (t : T) (H : Hp), noGotoA Q .ret t H = Q .ret t H) ∧
  (∀ (Q : Exit → T → Hp → Prop) (i : Nat) (t : T) (H : Hp), noGotoA Q (.exit i) t H = Q (.exit i) t H) ∧
  (∀ (Q : Exit → T → Hp → Prop) (i : Nat) (t : T) (H : Hp), noGotoA Q (.goto i) t H = False) := by
  refine ⟨?_, ?_, ?_, ?_, ?_, ?_, ?_, ?_, ?_, ?_, ?_, ?_⟩ <;> intros <;> simp only [bC, bi, noGotoA]

/-- A function's end. -/
theorem TE : (∀ (P : Program) (rs : List ResultVar) (Q : V → Hp → Prop) (t : T) (H : Hp), aB P rs Q .ret t H = ∃ xs, ressV P t H rs = some xs ∧ ∃ B, sealA B (oneV xs) H Q) ∧
  (∀ (P : Program) (rs : List ResultVar) (Q : V → Hp → Prop) (t : T) (H : Hp), aB P rs Q .normal t H = ∃ xs, ressV P t H rs = some xs ∧ ∃ B, sealA B (oneV xs) H Q) ∧
  (∀ (P : Program) (t : T) (H : Hp), ressV P t H [] = some []) ∧
  (∀ (P : Program) (t : T) (H : Hp) (r : ResultVar) (rs : List ResultVar), ressV P t H (r :: rs) = (resV P t H r).bind fun x => (ressV P t H rs).map (x :: ·)) ∧
  (∀ (P : Program) (t : T) (H : Hp) (i : Nat), resV P t H (.tmp i) = some (t i)) ∧
  (∀ (P : Program) (t : T) (H : Hp) (a ty : Nat), resV P t H (.cell a ty) = (aK H (t a)).bind fun x => ldc (tyT P ty) x.1 x.2) ∧
  (∀ (x : V), oneV [x] = x) ∧
  (oneV [] = .tup []) ∧
  (∀ (x y : V) (r : List V), oneV (x :: y :: r) = .tup (x :: y :: r)) := by
  refine ⟨?_, ?_, ?_, ?_, ?_, ?_, ?_, ?_, ?_⟩ <;> intros <;> simp only [aB, ressV, resV, oneV]

theorem WW : (∀ {P : Program} {S : Nat → Spec} {Y : aC} {own : Bool} {H : Hp} {ev : Operand → V} {x : Operand} {Q : V → Hp → Prop}, wpOp P S Y own H ev (.move x) Q = if own = true then ∃ B, sealA B (ev x) H Q else val (some (ev x)) H Q) ∧
  (∀ {P : Program} {S : Nat → Spec} {Y : aC} {own : Bool} {H : Hp} {ev : Operand → V} {x : Operand} {Q : V → Hp → Prop}, wpOp P S Y own H ev (.assign x) Q = if own = true then ∃ B, sealA B (ev x) H Q else val (some (ev x)) H Q) ∧
  (∀ {P : Program} {S : Nat → Spec} {Y : aC} {own : Bool} {H : Hp} {ev : Operand → V} {t : TypeId} {Q : V → Hp → Prop}, wpOp P S Y own H ev (.alloc t) Q = ∃ z, zeroT P t = some z ∧ ∀ b, H b = none → Q (.ptr b 0) (upd H b (some (.row z)))) ∧
  (∀ {P : Program} {S : Nat → Spec} {Y : aC} {own : Bool} {H : Hp} {ev : Operand → V} {t : TypeId} {x : Operand} {Q : V → Hp → Prop}, wpOp P S Y own H ev (.box t x) Q = ∃ xs, aW (ev x) = some xs ∧ if own = true then Q (.cptr xs 0) H else ∀ b, H b = none → Q (.ptr b 0) (upd H b (some (.row xs)))) ∧
  (∀ {P : Program} {S : Nat → Spec} {Y : aC} {own : Bool} {H : Hp} {ev : Operand → V} {t : TypeId} {r : Option Operand} {Q : V → Hp → Prop}, wpOp P S Y own H ev (.makeMap t r) Q = (r = none ∧ ∀ b, H b = none → Q (.mp b) (upd H b (some (.map [] 0))))) ∧
  (∀ {P : Program} {S : Nat → Spec} {Y : aC} {own : Bool} {H : Hp} {ev : Operand → V} {t : TypeId} {x k : Operand} {ok : Bool} {Q : V → Hp → Prop}, wpOp P S Y own H ev (.lookup t x k ok) Q = wpLook P H t (ev x) (ev k) ok Q) ∧
  (∀ {P : Program} {S : Nat → Spec} {Y : aC} {own : Bool} {H : Hp} {ev : Operand → V} {t : TypeId} {m x k : Operand} {Q : V → Hp → Prop}, wpOp P S Y own H ev (.mapUpdate t m k x) Q = wpMapPut P H t (ev m) (ev k) (ev x) Q) ∧
  (∀ {P : Program} {S : Nat → Spec} {Y : aC} {own : Bool} {H : Hp} {ev : Operand → V} {t : TypeId} {m x k : Operand} {Q : V → Hp → Prop}, wpOp P S Y own H ev (.insert t m k x) Q = wpMapPut P H t (ev m) (ev k) (ev x) Q) ∧
  (∀ {P : Program} {S : Nat → Spec} {Y : aC} {own : Bool} {H : Hp} {ev : Operand → V} {t : TypeId} {m k : Operand} {Q : V → Hp → Prop}, wpOp P S Y own H ev (.mapEntry t m k) Q = wpEntry P H t (ev m) (ev k) Q) ∧
  (∀ {P : Program} {S : Nat → Spec} {Y : aC} {own : Bool} {H : Hp} {ev : Operand → V} {t : TypeId} {m s x : Operand} {Q : V → Hp → Prop}, wpOp P S Y own H ev (.entryStore t m s x) Q = wpEStore H (ev m) (ev s) (ev x) Q) ∧
  (∀ {P : Program} {S : Nat → Spec} {Y : aC} {own : Bool} {H : Hp} {ev : Operand → V} {t : TypeId} {x : Operand} {Q : V → Hp → Prop}, wpOp P S Y own H ev (.range t x) Q = wpRange P H t (ev x) Q) ∧
  (∀ {P : Program} {S : Nat → Spec} {Y : aC} {own : Bool} {H : Hp} {ev : Operand → V} {it : Operand} {Q : V → Hp → Prop}, wpOp P S Y own H ev (.next it false) Q = wpNext H (ev it) Q) ∧
  (∀ {P : Program} {S : Nat → Spec} {Y : aC} {own : Bool} {H : Hp} {ev : Operand → V} {it : Operand} {Q : V → Hp → Prop}, wpOp P S Y own H ev (.entry it) Q = wpCur H (ev it) Q) ∧
  (∀ {P : Program} {S : Nat → Spec} {Y : aC} {own : Bool} {H : Hp} {ev : Operand → V} {t : TypeId} {x : Operand} {Q : V → Hp → Prop}, wpOp P S Y own H ev (.makeInterface t x) Q = (plainT P t = true ∧ Q (.ifc t (ev x)) H)) ∧
  (∀ (cs : List V) (p : List V → Prop), (∃ xs, aW (.agg cs) = some xs ∧ p xs) = p cs) ∧
  (∀ (e : List V) (o p : Nat), bp (.cptr e o) p = some (.cptr e (o + p))) ∧
  (∀ (b o p : Nat), bp (.ptr b o) p = some (.ptr b (o + p))) ∧
  (∀ (b i o s p : Nat), bp (.eptr b i o s) p = some (.eptr b i (o + p) s)) ∧
  (∀ (H : Hp) (e : List V) (o : Nat), aK H (.cptr e o) = some (e, o)) ∧
  (∀ (m : Nat) (x : V) (e : List V) (o : Nat), ldc (some (false, m)) (x :: e) (o + 1) = ldc (some (false, m)) e o) ∧
  (∀ (m : Nat) (x : V) (e : List V), ldc (some (false, m)) (x :: e) 0 = some x) ∧
  (∀ {P : Program} {S : Nat → Spec} {Y : aC} {own : Bool} {H : Hp} {ev : Operand → V} {t : TypeId} {len : Nat} {parts : Array (Nat × Operand)} {Q : V → Hp → Prop}, wpOp P S Y own H ev (.buildSlice t len parts) Q =
    ∃ sz zs es, zeroEs P t len = some (sz, zs) ∧ len * sz ≤ 16777216 ∧ bv sz zs (parts.toList.map fun x => (x.1, ev x.2)) = some es ∧
      (if own = true then ∀ b, H b = none → Q (.osl b 0 len sz true) (upd H b (some (.arr sz es))) else Q (.sl sz es true) H)) ∧
  (∀ {P : Program} {S : Nat → Spec} {Y : aC} {own : Bool} {H : Hp} {ev : Operand → V} {t : TypeId} {l c : Operand} {Q : V → Hp → Prop}, wpOp P S Y own H ev (.makeSlice t l c) Q =
    ∃ n m sz es, makeLens (ev l) (ev c) = some (n, m) ∧ bT P t * m ≤ 281474976710656 ∧ zeroEs P t m = some (sz, es) ∧
      (if own = true then ∀ b, H b = none → Q (.osl b 0 n sz (decide (n = m))) (upd H b (some (.arr sz (es.take n)))) else Q (.sl sz (es.take n) (decide (n = m))) H)) ∧
  (∀ {P : Program} {S : Nat → Spec} {Y : aC} {own : Bool} {H : Hp} {ev : Operand → V} {t : TypeId} {a x : Operand} {Q : V → Hp → Prop}, wpOp P S Y own H ev (.store t a x) Q = ∃ H', storeV P H t (ev a) (ev x) = some H' ∧ Q .junk H') ∧
  (∀ {P : Program} {S : Nat → Spec} {Y : aC} {own : Bool} {H : Hp} {ev : Operand → V} {s d : TypeId} {x : Operand} {Q : V → Hp → Prop}, wpOp P S Y own H ev (.convert s d x) Q = wpConv P H s d (ev x) Q) ∧
  (∀ {P : Program} {S : Nat → Spec} {Y : aC} {own : Bool} {H : Hp} {ev : Operand → V} {o : BinOp} {t : TypeId} {x y : Operand} {q : TypeId} {Q : V → Hp → Prop}, wpOp P S Y own H ev (.binOp o t x y q) Q = wpBin P H o t (ev x) (ev y) Q) ∧
  (∀ {P : Program} {S : Nat → Spec} {Y : aC} {own : Bool} {H : Hp} {ev : Operand → V} {c : Call} {Q : V → Hp → Prop}, wpOp P S Y own H ev (.call c) Q = match c.callee with
    | .value f => callV S Y (ev f) (c.args.toList.map ev) H Q
    | .builtin b => bU P H b c.argTypes.toList (c.args.toList.map ev) Q
    | _ => False) ∧
  (∀ {P : Program} {S : Nat → Spec} {Y : aC} {own : Bool} {H : Hp} {ev : Operand → V} {c a b : Operand} {Q : V → Hp → Prop}, wpOp P S Y own H ev (.pick c a b) Q = val (match ev c with
    | .bool t => some (if t = true then ev a else ev b)
    | _ => none) H Q) ∧
  (∀ {P : Program} {S : Nat → Spec} {Y : aC} {own : Bool} {H : Hp} {ev : Operand → V} {t : TypeId} {a : Operand} {Q : V → Hp → Prop}, wpOp P S Y own H ev (.load t a) Q = val ((aK H (ev a)).bind fun x => ldc (tyT P t) x.1 x.2) H Q) ∧
  (∀ {P : Program} {S : Nat → Spec} {Y : aC} {own : Bool} {H : Hp} {ev : Operand → V} {x : Operand} {Q : V → Hp → Prop}, wpOp P S Y own H ev (.nilCheck x) Q = val (match ev x with
    | .ptr b o => some (.ptr b o)
    | .eptr b i o s => some (.eptr b i o s)
    | .cptr e o => some (.cptr e o)
    | .fn (.func f) xs ys => some (.fn (.func f) xs ys)
    | _ => none) H Q) ∧
  (∀ {P : Program} {S : Nat → Spec} {Y : aC} {own : Bool} {H : Hp} {ev : Operand → V} {op : UnOp} {t : TypeId} {x : Operand} {Q : V → Hp → Prop}, wpOp P S Y own H ev (.unOp op t x) Q = val (unV op (ev x)) H Q) ∧
  (∀ {P : Program} {S : Nat → Spec} {Y : aC} {own : Bool} {H : Hp} {ev : Operand → V} {f : Fn} {xs ys : Array Operand} {Q : V → Hp → Prop}, wpOp P S Y own H ev (.makeFunc f xs ys) Q = val (some (.fn f (xs.toList.map ev) (ys.toList.map ev))) H Q) ∧
  (∀ {P : Program} {S : Nat → Spec} {Y : aC} {own : Bool} {H : Hp} {ev : Operand → V} {t : TypeId} {x : Operand} {lo hi mx : Option Operand} {Q : V → Hp → Prop}, wpOp P S Y own H ev (.slice t x lo hi mx) Q = val (bf P t (ev x) (lo.map ev) (hi.map ev) (mx.map ev)) H Q) ∧
  (∀ {P : Program} {S : Nat → Spec} {Y : aC} {own : Bool} {H : Hp} {ev : Operand → V} {s : TypeId} {x : Operand} {f : Nat} {Q : V → Hp → Prop}, wpOp P S Y own H ev (.fieldAddr s x f) Q = val ((fldT P s f).bind fun y => bp (ev x) y.1) H Q) ∧
  (∀ {P : Program} {S : Nat → Spec} {Y : aC} {own : Bool} {H : Hp} {ev : Operand → V} {t : TypeId} {x : Operand} {f : Nat} {Q : V → Hp → Prop}, wpOp P S Y own H ev (.field t x f) Q = val (fieldV P t (ev x) f) H Q) ∧
  (∀ {P : Program} {S : Nat → Spec} {Y : aC} {own : Bool} {H : Hp} {ev : Operand → V} {t : TypeId} {x i : Operand} {Q : V → Hp → Prop}, wpOp P S Y own H ev (.indexAddr t x i) Q = val (bw P t (ev x) (ev i)) H Q) ∧
  (∀ {P : Program} {S : Nat → Spec} {Y : aC} {own : Bool} {H : Hp} {ev : Operand → V} {t : TypeId} {x i : Operand} {Q : V → Hp → Prop}, wpOp P S Y own H ev (.index t x i) Q = val (indexV P t (ev x) (ev i)) H Q) ∧
  (∀ {P : Program} {S : Nat → Spec} {Y : aC} {own : Bool} {H : Hp} {ev : Operand → V} {t : Operand} {i : Nat} {Q : V → Hp → Prop}, wpOp P S Y own H ev (.extract t i) Q = val (match ev t with
    | .tup vs => vs[i]?
    | _ => none) H Q) ∧
  (∀ {P : Program} {S : Nat → Spec} {Y : aC} {own : Bool} {H : Hp} {ev : Operand → V} {t : TypeId} {parts : Array (Nat × Operand)} {Q : V → Hp → Prop}, wpOp P S Y own H ev (.build t parts) Q = val (bH P t (parts.toList.map fun x => (x.1, ev x.2))) H Q) ∧
  (∀ (n : Nat) (t : T) (d : Tmp) (x : V), putT n t (some d) x = if d < n then upd t d x else t) ∧
  (∀ (n : Nat) (t : T) (x : V), putT n t none x = t) ∧
  (∀ (O : List Nat) (o : Oper), owned O o = match o.dst with
    | some d => O.contains d
    | none => false) ∧
  (∀ (args : List V) (i : Nat), initT args i = (args[i]?).getD (.tup [])) ∧
  (IntKind.bits .u8 = 8) ∧ (IntKind.bits .u16 = 16) ∧ (IntKind.bits .u32 = 32) ∧ (IntKind.bits .u64 = 64) ∧ (IntKind.bits .i64 = 64) ∧ (IntKind.bits .i32 = 32) ∧
  (∀ (h : Nat) (s : Spec) (r : List (Nat × Spec)) (g : Nat), tab ((h, s) :: r) g = if g = h then s else tab r g) ∧
  (∀ {S : Nat → Spec} {Y : aC} {g : Nat} {first caps args : List V} {H : Hp} {Q : V → Hp → Prop}, callV S Y (.fn (.func g) first caps) args H Q = S g Y (first ++ args ++ caps) H Q) ∧
  (∀ {S : Nat → Spec} {Y : aC} {l : Nat} {first caps args : List V} {H : Hp} {Q : V → Hp → Prop}, callV S Y (.fn (.yield l) first caps) args H Q = ∃ Q' : V → Hp → Prop, Y l (first ++ args) H Q' ∧ ∀ x H', Q' x H' → Q x H') ∧
  (∀ {P : Program} {H : Hp} {t tx : TypeId} {d x : V} {Q : V → Hp → Prop}, bU P H .append [t, tx] [d, x] Q = wpAppend P H t tx d x Q) ∧
  (∀ {P : Program} {H : Hp} {t tx : TypeId} {d x : V} {Q : V → Hp → Prop}, bU P H .copy [t, tx] [d, x] Q = wpCopy P H t tx d x Q) ∧
  (∀ {P : Program} {H : Hp} {t : TypeId} {x : V} {Q : V → Hp → Prop}, bU P H .len [t] [x] Q = val (lenV P t x) H Q) ∧
  (∀ {P : Program} {H : Hp} {t : TypeId} {x : V} {Q : V → Hp → Prop}, bU P H .cap [t] [x] Q = val (capV P t x) H Q) ∧
  (∀ {P : Program} {H : Hp} {ts : List TypeId} {x : V} {xs : List V} {Q : V → Hp → Prop}, bU P H .min ts (x :: xs) Q = val (foldV min2V x xs) H Q) ∧
  (∀ {P : Program} {H : Hp} {ts : List TypeId} {x : V} {xs : List V} {Q : V → Hp → Prop}, bU P H .max ts (x :: xs) Q = val (foldV max2V x xs) H Q) := by
  repeat' apply And.intro
  all_goals intros
  all_goals first | rfl | simp only [aW, Option.some.injEq, exists_eq_left'] | simp only [wpOp, pval, putT, owned, initT, IntKind.bits, tab, callV, bU, builtinV, bp, aK, ldc, true_and]
end Go.Av

namespace Go.Av
open Go.RowKit

theorem chunks_len (sz : Nat) : ∀ (n : Nat) (cs : List V), (bG sz n cs).length = n
  | 0, _ => rfl
  | n + 1, cs => congrArg (· + 1) (chunks_len sz n (cs.drop sz))

theorem chunks_at (sz : Nat) : ∀ (n : Nat) (cs : List V) (i : Nat), i < n → (bG sz n cs)[i]? = some ((cs.drop (i * sz)).take sz)
  | 0, _, i, h => by omega
  | n + 1, cs, 0, _ => by simp [bG]
  | n + 1, cs, i + 1, h => by
    simp only [bG, List.getElem?_cons_succ]
    rw [chunks_at sz n (cs.drop sz) i (by omega), List.drop_drop, Nat.add_mul, Nat.one_mul, Nat.add_comm]

theorem chunks_sub (sz : Nat) : ∀ (l n m : Nat) (cs : List V), l + m ≤ n → ((bG sz n cs).drop l).take m = bG sz m (cs.drop (l * sz)) := by
  intro l n m cs h
  apply List.ext_getElem?
  intro i
  by_cases hi : i < m
  · rw [List.getElem?_take, if_pos hi, List.getElem?_drop, chunks_at _ _ _ _ (by omega), chunks_at _ _ _ _ hi, List.drop_drop, Nat.add_mul]
  · rw [List.getElem?_take, if_neg hi, List.getElem?_eq_none]
    rw [chunks_len]; omega

theorem view_len {H : Hp} {sz : Nat} {x : V} {es : List (List V)} (h : ao H sz x = some es) : slen x = some es.length := by
  unfold ao at h
  split at h
  · cases h; rfl
  · split at h <;> cases h; rfl
  · split at h
    · split at h <;> cases h
      simp only [slen, Option.some.injEq, List.length_take, List.length_drop]; omega
    · cases h
  · split at h
    · split at h <;> cases h
      simp only [slen, chunks_len]
    · cases h
  · cases h

theorem av {P : Program} {H : Hp} {sz : Nat} {x : V} {es : List (List V)} {t : TypeId} (ht : sliT P t = some sz) (h : ao H sz x = some es) : lenV P t x = some (vN .i64 es.length) := by
  unfold sliT at ht
  unfold lenV
  split at ht
  · rename_i e he
    rw [he]
    simp only [view_len h, Option.map_some, vN]
  · cases ht

/-- A piece of a slice. -/
theorem slice_view {P : Program} {H : Hp} {sz : Nat} {x : V} {es : List (List V)} {t : TypeId} (ha : arrT P t = none) (ht : sliT P t = some sz) (hv : ao H sz x = some es) {lo hi : Option V} {l h : Nat}
    (hh : bnd hi es.length es.length = some h) (hl : bnd lo 0 h = some l) (h1 : l ≤ h) (h2 : h ≤ es.length) :
    ∃ y, bf P t x lo hi none = some y ∧ ao H sz y = some ((es.take h).drop l) := by
  have e : bf P t x lo hi none = bD sz x lo hi none := by
    unfold bf
    simp [ha, ht]
  rw [e]
  have hm : ∀ n, bnd none n n = some n := fun n => rfl
  unfold ao at hv
  split at hv
  · cases hv
    simp only [List.length_nil] at hh h2
    have : h = 0 := by omega
    subst this
    have : l = 0 := by omega
    subst this
    exact ⟨.nils, by simp [bD, hm, hh, hl], by simp [ao]⟩
  · rename_i sz' es' full
    split at hv
    · rename_i hs
      cases hv
      subst hs
      exact ⟨_, by simp only [bD, if_true, hm, Option.bind_some, hh, hl]; rfl, by simp [ao]⟩
    · cases hv
  · rename_i b i n sz' full
    split at hv
    · rename_i sz'' es' hb
      split at hv
      · rename_i hc
        obtain ⟨rfl, rfl, hle⟩ := hc
        cases hv
        have hlen : ((es'.drop i).take n).length = n := by simp; omega
        rw [hlen] at hh h2
        refine ⟨_, by simp only [bD, if_true, hm, Option.bind_some, hh, hl]; rfl, ?_⟩
        split
        · rename_i hc
          simp only [ao, hb]
          rw [if_pos ⟨trivial, trivial, by omega⟩]
          congr 1
          rw [List.take_take, Nat.min_eq_left h2, List.drop_take, List.drop_drop]
        · rename_i hc
          have : l = h := by omega
          subst this
          simp only [ao, if_true]
          congr 1
          rw [List.drop_eq_nil_of_le]
          simp
          omega
      · cases hv
    · cases hv
  · rename_i b off n sz'
    split at hv
    · rename_i cells hb
      split at hv
      · rename_i hc
        obtain ⟨rfl, hle⟩ := hc
        cases hv
        rw [chunks_len] at hh h2
        refine ⟨_, by simp only [bD, Option.isNone_none, and_self, if_true, Option.bind_some, hh, hl]; rfl, ?_⟩
        split
        · rename_i hc
          simp only [ao, hb]
          have : (l + (h - l)) * sz' ≤ n * sz' := Nat.mul_le_mul_right _ (by omega)
          rw [Nat.add_mul] at this
          rw [if_pos ⟨trivial, by omega⟩]
          congr 1
          have h3 : ((bG sz' n (cells.drop off)).take h).drop l = ((bG sz' n (cells.drop off)).drop l).take (h - l) := by rw [List.drop_take]
          rw [h3, chunks_sub _ _ _ _ _ (by omega), List.drop_drop]
        · rename_i hc
          have : l = h := by omega
          subst this
          simp only [ao, if_true]
          congr 1
          rw [List.drop_eq_nil_of_le]
          simp only [List.length_take, chunks_len]
          omega
      · cases hv
    · cases hv
  · cases hv

/-- The address of an element, and what lies there. -/
theorem elem_view {P : Program} {H : Hp} {sz : Nat} {x : V} {es : List (List V)} {t : TypeId} (ha : arrT P t = none) (ht : sliT P t = some sz) (hv : ao H sz x = some es) {k : IntKind} {i : Nat} {e : List V} (he : es[i]? = some e) (hsz : e.length = sz) :
    ∃ p, bw P t x (vN k i) = some p ∧ ∃ c o, aK H p = some (c, o) ∧ o + sz ≤ c.length ∧ (c.drop o).take sz = e := by
  have hi : i < es.length := (List.getElem?_eq_some_iff.1 he).1
  unfold bw
  rw [ha, ht]
  simp only [Option.bind_some]
  unfold ao at hv
  split at hv
  · cases hv; simp at he
  · rename_i sz' es' full
    split at hv
    · rename_i hs
      cases hv
      subst hs
      simp only [if_true, idxOf_N _ hi, Option.bind_some, he, Option.map_some]
      exact ⟨_, rfl, e, 0, rfl, by omega, by rw [List.drop_zero, List.take_of_length_le (by omega)]⟩
    · cases hv
  · rename_i b i0 n sz' full
    split at hv
    · rename_i sz'' es' hb
      split at hv
      · rename_i hc
        obtain ⟨rfl, rfl, hle⟩ := hc
        cases hv
        have hlen : ((es'.drop i0).take n).length = n := by simp; omega
        rw [hlen] at hi
        rw [List.getElem?_take, if_pos hi, List.getElem?_drop] at he
        simp only [if_true, idxOf_N _ hi, Option.map_some]
        refine ⟨_, rfl, e, 0, ?_, by omega, by rw [List.drop_zero, List.take_of_length_le (by omega)]⟩
        simp only [aK, hb, if_true, he, Option.map_some]
      · cases hv
    · cases hv
  · rename_i b off n sz'
    split at hv
    · rename_i cells hb
      split at hv
      · rename_i hc
        obtain ⟨rfl, hle⟩ := hc
        cases hv
        rw [chunks_len] at hi
        rw [chunks_at _ _ _ _ hi] at he
        cases he
        simp only [if_true, idxOf_N _ hi, Option.map_some]
        have : (i + 1) * sz' ≤ n * sz' := Nat.mul_le_mul_right _ (by omega)
        rw [Nat.add_mul, Nat.one_mul] at this
        exact ⟨_, rfl, cells, off + i * sz', by simp only [aK, hb], by omega, by rw [List.drop_drop]⟩
      · cases hv
    · cases hv
  · cases hv

/-- One-cell elements. -/
theorem ci {P : Program} {H : Hp} {x : V} {es : List (List V)} {t : TypeId} (ha : arrT P t = none) (ht : sliT P t = some 1) (hv : ao H 1 x = some es) {k : IntKind} {i : Nat} {y : V} (he : es[i]? = some [y]) :
    ∃ p, bw P t x (vN k i) = some p ∧ ∀ q, ((aK H p).bind fun x => ldc (some (false, q)) x.1 x.2) = some y := by
  obtain ⟨p, h1, c, o, h2, h3, h4⟩ := elem_view (k := k) ha ht hv he rfl
  refine ⟨p, h1, fun q => ?_⟩
  rw [h2]
  simp only [Option.bind_some, ldc]
  have : (c.drop o).take 1 = [y] := h4
  have h5 : ((c.drop o).take 1)[0]? = some y := by rw [this]; rfl
  rw [List.getElem?_take, if_pos (by omega), List.getElem?_drop] at h5
  simpa using h5

def nE (k : IntKind) (l : List Nat) : List (List V) := l.map fun n => [vN k n]
theorem az (k : IntKind) (l : List Nat) : (nE k l).length = l.length := by simp [nE]
theorem nE_take (k : IntKind) (l : List Nat) (n : Nat) : (nE k l).take n = nE k (l.take n) := by simp [nE, List.map_take]
theorem nE_drop (k : IntKind) (l : List Nat) (n : Nat) : (nE k l).drop n = nE k (l.drop n) := by simp [nE, List.map_drop]
theorem nE_append (k : IntKind) (l m : List Nat) : nE k l ++ nE k m = nE k (l ++ m) := by simp [nE]
theorem nE_get (k : IntKind) (l : List Nat) (i : Nat) (h : i < l.length) : (nE k l)[i]? = some [vN k (l.getD i 0)] := by
  simp [nE, List.getElem?_eq_getElem h]
theorem nE_ones (k : IntKind) (l : List Nat) : bo (nE k l) = true := by
  simp [bo, nE, one, vN]
end Go.Av

namespace Go.Av
open Go.RowKit

def nR (k : IntKind) (l : List Nat) : List V := l.map (vN k)
theorem ar (k : IntKind) (l : List Nat) : (nR k l).length = l.length := by simp [nR]
theorem nR_get (k : IntKind) (l : List Nat) (i : Nat) (h : i < l.length) : (nR k l)[i]? = some (vN k (l.getD i 0)) := by
  simp [nR, List.getElem?_eq_getElem h]
theorem nR_set (k : IntKind) (l : List Nat) (i n : Nat) : (nR k l).set i (vN k n) = nR k (l.set i n) := by simp [nR, List.map_set]
theorem bk (k : IntKind) (l : List Nat) : (nR k l).all one = true := by simp [nR, one, vN]
theorem nR_rep (k : IntKind) (n m : Nat) : List.replicate n (vN k m) = nR k (List.replicate n m) := by simp [nR]
theorem nR_append (k : IntKind) (l m : List Nat) : nR k l ++ nR k m = nR k (l ++ m) := by simp [nR]
theorem nR_take (k : IntKind) (l : List Nat) (n : Nat) : (nR k l).take n = nR k (l.take n) := by simp [nR, List.map_take]
theorem nR_drop (k : IntKind) (l : List Nat) (n : Nat) : (nR k l).drop n = nR k (l.drop n) := by simp [nR, List.map_drop]

theorem splice_one (cells : List V) (o : Nat) (x : V) (h : o < cells.length) : br cells o [x] = cells.set o x := by
  unfold br
  rw [List.set_eq_take_append_cons_drop, if_pos h]
  simp

theorem splice_all (cells xs : List V) (h : xs.length = cells.length) : br cells 0 xs = xs := by
  unfold br
  rw [List.drop_eq_nil_of_le (by omega)]
  simp

section
variable {P : Program} {H : Hp} {t : TypeId} {b : Nat}

/-- A whole array or struct. -/
theorem au {cells xs : List V} {n : Nat} (hb : H b = some (.row cells)) (ht : tyT P t = some (true, n)) (hx : xs.length = n) (ho : xs.all one = true) (hc : cells.length = n) :
    storeV P H t (.ptr b 0) (.agg xs) = some (upd H b (some (.row xs))) := by
  simp only [storeV, ht, aW, hb]
  rw [if_pos ⟨hx, ho⟩, if_pos (by omega), splice_all _ _ (by omega)]

/-- One cell. -/
theorem aT {cells : List V} {x : V} {off : Nat} (hb : H b = some (.row cells)) (ht : tyT P t = some (false, 1)) (hx : aW x = some [x]) (ho : one x = true) (hc : off < cells.length) :
    storeV P H t (.ptr b off) x = some (upd H b (some (.row (cells.set off x)))) := by
  simp only [storeV, ht, hx, hb]
  rw [if_pos ⟨rfl, by simp [ho]⟩, if_pos (by simp only [List.length_cons, List.length_nil]; omega), splice_one _ _ _ hc]

theorem aJ {cells : List V} {n : Nat} (hb : H b = some (.row cells)) (ht : tyT P t = some (true, n)) (hc : cells.length = n) : ((aK H (.ptr b 0)).bind fun x => ldc (tyT P t) x.1 x.2) = some (.agg cells) := by
  simp only [aK, hb, Option.bind_some, ht, ldc]
  rw [if_pos (by omega), List.drop_zero, List.take_of_length_le (by omega)]

theorem aw {cells : List V} {n off : Nat} {x : V} (hb : H b = some (.row cells)) (ht : tyT P t = some (false, n)) (hc : cells[off]? = some x) : ((aK H (.ptr b off)).bind fun x => ldc (tyT P t) x.1 x.2) = some x := by
  simp only [aK, hb, Option.bind_some, ht, ldc, hc]

theorem vN_cells (k : IntKind) (n : Nat) : aW (vN k n) = some [vN k n] := rfl
theorem vN_one (k : IntKind) (n : Nat) : one (vN k n) = true := rfl
theorem ag {α : Type} (f : Nat → α) (i : Nat) (x : α) : upd f i x i = x := by simp [upd]

theorem srcV_view {sz : Nat} {tx : TypeId} {x : V} {es : List (List V)} (hs : sliT P tx = some sz) (h : ao H sz x = some es) : srcV P H sz tx x = some es := by
  unfold srcV
  unfold sliT at hs
  split at hs
  · rename_i e he
    rw [he]
    exact h
  · cases hs

/-- append to nothing. -/
theorem append_new {tx : TypeId} {sz : Nat} {d x : V} {es : List (List V)} {Q : V → Hp → Prop} (hd : d = .nils ∨ d = .sl sz [] true) (hs : dstT P t = some sz) (hx : sliT P tx = some sz) (hv : ao H sz x = some es) (ho : bo es = true)
    (hb : es.length * bT P t ≤ 140737488355328) (hl : es.length ≤ 140737488355328) (h1 : es = [] → Q d H) (h2 : es ≠ [] → ∀ b, H b = none → Q (.osl b 0 es.length sz false) (upd H b (some (.arr sz es)))) : wpAppend P H t tx d x Q := by
  refine .inl ⟨sz, es, hs, srcV_view hx hv, ho, ?_⟩
  rcases hd with rfl | rfl
  · exact ⟨hb, hl, h1, h2⟩
  · refine ⟨rfl, rfl, by simpa using hb, by simpa using hl, h1, ?_⟩
    simpa using h2

/-- append to an owned slice. -/
theorem append_osl {tx : TypeId} {sz b0 n : Nat} {full : Bool} {x : V} {es fs : List (List V)} {Q : V → Hp → Prop} (hH : H b0 = some (.arr sz es)) (hn : n = es.length) (hs : dstT P t = some sz) (hx : sliT P tx = some sz) (hv : ao H sz x = some fs) (ho : bo fs = true)
    (hb : (n + fs.length) * bT P t ≤ 140737488355328) (hl : n + fs.length ≤ 140737488355328) (h : ∀ b, (b = b0 ∨ H b = none) → Q (.osl b 0 (n + fs.length) sz false) (upd (upd H b0 none) b (some (.arr sz (es ++ fs))))) : wpAppend P H t tx (.osl b0 0 n sz full) x Q := by
  refine .inl ⟨sz, fs, hs, srcV_view hx hv, ho, ?_⟩
  simp only [hH]
  refine ⟨trivial, trivial, trivial, by omega, hb, hl, fun b hbb => ?_⟩
  rw [List.take_of_length_le (by omega)]
  exact h b hbb

/-- A heap that holds at least as much. -/
def hle (H H' : Hp) : Prop := ∀ b y, H b = some y → H' b = some y
theorem aj (H : Hp) : hle H H := fun _ _ h => h
theorem ai {H H' : Hp} (h : hle H H') {c : Nat} {z : Option Blk} (hc : H c = none) : hle H (upd H' c z) := fun b y hb => by
  have hne : b ≠ c := fun e => by subst e; rw [hb] at hc; cases hc
  rw [ah _ _ _ hne]
  exact h b y hb
theorem aA {H : Hp} {b c : Nat} {x : Blk} (hb : H b = some x) (hc : H c = none) : b ≠ c := fun e => by subst e; rw [hb] at hc; cases hc
end
end Go.Av

namespace Go.Av
open Go.RowKit

theorem aF {α : Type} {f : Nat → Option α} {d e : Nat} {x : α} (h : upd f d (some x) e = none) : d ≠ e ∧ f e = none := by
  by_cases a : e = d
  · subst a; simp at h
  · exact ⟨fun b => a b.symm, by rwa [ah _ _ _ a] at h⟩

theorem upd_comm {α : Type} (f : Nat → α) {i j : Nat} (x y : α) (h : i ≠ j) : upd (upd f i x) j y = upd (upd f j y) i x := by
  funext m
  simp only [upd_apply]
  by_cases a : m = i <;> by_cases b : m = j <;> simp_all

section
variable {P : Program} {S : Nat → Spec} {Y : aC} {O : List Nat} {n : Nat} {ops : Array Oper} {o : Oper} {t : T} {H : Hp} {C : Hp → Prop} {m : Nat} {fx : Nat → Bool} {L : Array Bool → T → Hp → Prop} {g : Nat}

theorem ck {top : Bool} {Q : Exit → T → Hp → Prop} {id : Nat} (m : Nat) (qs : List Nat) (fx : Nat → Bool) (C : Hp → Prop) (hB : drawB ops m qs = true) (hC : C H)
    (h : ∀ (L : Array Bool → T → Hp → Prop) (B : Array Bool → Bool), B = Region.seqB .any ops (ops.size - m) m → (∀ l t' H', B l = true → wpOps P S Y O n ops (ops.toList.drop m) t' H' (Q .normal) → L l t' H') →
      walkA P S Y O n ops C m fx L (m - qs.length) qs (Array.replicate ops.size false) t H) : wpC P S Y O n (.region id ops true) top Q t H := by
  unfold wpC
  rw [if_pos rfl]
  exact ⟨m, C, fx, qs, hB, hC, h _ _ rfl fun _ _ _ a b => ⟨a, b⟩⟩

theorem ay {i : Nat} {r : List Nat} {l : Array Bool} (ho' : ops.toList[i]? = some o) (hf : fx i = false) (hg : bR ops t o.guard = some true)
    (h : ∃ x, quietV P S Y O C o t x ∧ walkA P S Y O n ops C m fx L g r (l.setIfInBounds i true) (putT n t o.dst x) H) : walkA P S Y O n ops C m fx L g (i :: r) l t H := by
  refine ⟨hf, ?_⟩
  have ho : ops[i]? = some o := by rw [← Array.getElem?_toList]; exact ho'
  unfold opA
  simp only [ho, hg, hf]
  exact h

theorem cj {l : Array Bool} (h : anyA P S Y O n ops C m fx L g l t H) : walkA P S Y O n ops C m fx L g [] l t H := h

theorem bN {l : Array Bool} (h : L l t H) : anyA P S Y O n ops C m fx L 0 l t H := h

theorem aV {l : Array Bool} (rs : List Nat) (hr : Region.ready .any ops l = rs) (hne : rs ≠ []) (h : ∀ i ∈ rs, i < m ∧ opA P S Y O n ops C fx i (anyA P S Y O n ops C m fx L g (l.setIfInBounds i true)) t H) : anyA P S Y O n ops C m fx L (g + 1) l t H := by
  refine ⟨by rw [hr]; exact hne, fun i hi => h i (by rw [hr] at hi; exact hi)⟩

theorem bS {i : Nat} {K : T → Hp → Prop} (ho' : ops.toList[i]? = some o) (hf : fx i = true) (hg : bR ops t o.guard = some true)
    (h : ∃ Q : V → Hp → Prop, wpOp P S Y (owned O o) H (evT t) o.op Q ∧ ∀ x H', Q x H' → C H' ∧ K (putT n t o.dst x) H') : opA P S Y O n ops C fx i K t H := by
  have ho : ops[i]? = some o := by rw [← Array.getElem?_toList]; exact ho'
  unfold opA
  simp only [ho, hg, hf, if_true]
  exact h
/-- An alloc that may come up at whatever time. -/
theorem bV {i : Nat} {K : T → Hp → Prop} {ty : TypeId} {z : List V} (ho' : ops.toList[i]? = some o) (hop : o.op = .alloc ty) (hf : fx i = true) (hg : bR ops t o.guard = some true) (hz : zeroT P ty = some z)
    (h : ∀ b, H b = none → C (upd H b (some (.row z))) ∧ K (putT n t o.dst (.ptr b 0)) (upd H b (some (.row z)))) : opA P S Y O n ops C fx i K t H := by
  refine bS ho' hf hg ⟨fun x H' => ∃ b, H b = none ∧ x = .ptr b 0 ∧ H' = upd H b (some (.row z)), ?_, ?_⟩
  · rw [hop]
    exact ⟨z, hz, fun b hb => ⟨b, hb, rfl, rfl⟩⟩
  · rintro x H' ⟨b, hb, rfl, rfl⟩
    exact h b hb
end
end Go.Av

namespace Go.Av
open Go.RowKit

def Spec.or (s s' : Spec) : Spec := fun Y args H Q => s Y args H Q ∨ s' Y args H Q

theorem Sound.or {P : Program} {g : FuncId} {s s' : Spec} (h : Sound P g s) (h' : Sound P g s') : Sound P g (s.or s') := fun Y args H Q hs => by
  rcases hs with hs | hs
  · exact h Y args H Q hs
  · exact h' Y args H Q hs

/-- The one stands for no less than the other. -/
def Wk (x x' : V) : Prop := ∀ k v, Conc k v x → Conc k v x'

theorem Sound.wk {P : Program} {g : FuncId} {s s' : Spec} (hs : Sound P g s) (h : ∀ Y args H Q, s' Y args H Q → ∃ Q₁, s Y args H Q₁ ∧ ∀ x H', Q₁ x H' → ∃ x', Wk x x' ∧ Q x' H') : Sound P g s' := by
  intro Y args H Q h' k w cargs hY hr hc
  obtain ⟨Q₁, h1, h2⟩ := h Y args H Q h'
  have key : ∀ v w', OpPost k H w Q₁ v w' → OpPost k H w Q v w' := fun v w' ⟨x, H', k', a, b, c, d, e⟩ => by
    obtain ⟨x', hw, hq⟩ := h2 x H' a
    exact ⟨x', H', k', hq, b, c, hw _ _ d, e⟩
  rcases hs Y args H Q₁ h1 k w cargs hY hr hc with ⟨v, w', g1, g2⟩ | ⟨g1, g2⟩
  · exact .inl ⟨v, w', g1, key _ _ g2⟩
  · exact .inr ⟨g1, CallsIn.mono g2 fun e w' ⟨v, h3, h4⟩ => ⟨v, h3, key _ _ h4⟩⟩

theorem Wk.sl {sz : Nat} {es : List (List V)} {full : Bool} : Wk (.sl sz es full) (.sl sz es false) := fun k v hc => by
  cases hc with
  | slnil => exact .slnil _ _
  | slz a => exact .slz a _ _
  | sl b off cap sz es full vs h1 h2 h3 h4 h5 => exact .sl b off cap _ _ _ vs h1 h2 (fun h => by cases h) h4 h5

theorem Wk.nils {sz : Nat} : Wk .nils (.sl sz [] false) := fun k v hc => by
  cases hc
  exact .slnil _ _

theorem Wk.refl (x : V) : Wk x x := fun _ _ h => h


/-- Pieces of a body: a region by its number; a loop by its place. -/
def regsOf : Code → List (Nat × Code)
  | .seq x y => regsOf x ++ regsOf y
  | .cond _ x y => regsOf x ++ regsOf y
  | .block _ c => regsOf c
  | .scope c => regsOf c
  | .loop c => regsOf c
  | .region id ops d => [(id, .region id ops d)]
  | .rangeFunc _ _ a b => regsOf a ++ regsOf b
  | _ => []
def loopsOf : Code → List Code
  | .seq x y => loopsOf x ++ loopsOf y
  | .cond _ x y => loopsOf x ++ loopsOf y
  | .block _ c => loopsOf c
  | .scope c => loopsOf c
  | .loop c => .loop c :: loopsOf c
  | .rangeFunc f ps a b => .rangeFunc f ps a b :: (loopsOf a ++ loopsOf b)
  | _ => []
def pickR (id : Nat) : List (Nat × Code) → Code
  | [] => .skip
  | (i, c) :: r => if i = id then c else pickR id r
def pickL : Nat → List Code → Code
  | _, [] => .skip
  | 0, c :: _ => c
  | k + 1, _ :: r => pickL k r
def regAt (f : Func) (id : Nat) : Code := match f.body with
  | some c => pickR id (regsOf c)
  | none => .skip
def aU (f : Func) (k : Nat) : Code := match f.body with
  | some c => pickL k (loopsOf c)
  | none => .skip
def asgOf : Code → Code
  | .rangeFunc _ _ a _ => a
  | _ => .skip
def rbodyOf : Code → Code
  | .rangeFunc _ _ _ b => b
  | _ => .skip

theorem aL {G H : Hp} (h : hle G H) {sz : Nat} {v : V} {es : List (List V)} (hv : ao G sz v = some es) : ao H sz v = some es := by
  unfold ao at hv ⊢
  split at hv
  · exact hv
  · exact hv
  · split at hv
    · rename_i hb
      rw [h _ _ hb]
      exact hv
    · cases hv
  · split at hv
    · rename_i hb
      rw [h _ _ hb]
      exact hv
    · cases hv
  · cases hv

theorem hle_put {H H' : Hp} (h : hle H H') (b : Nat) (z : Option Blk) : hle (upd H b z) (upd H' b z) := fun c y hc => by
  by_cases e : c = b
  · subst e; rw [ag] at hc ⊢; exact hc
  · rw [ah _ _ _ e] at hc ⊢; exact h c y hc

/-- Without a block. -/
theorem hle_del (H : Hp) (b : Nat) : hle (upd H b none) H := fun c y hc => by
  by_cases e : c = b
  · subst e; rw [ag] at hc; cases hc
  · rw [ah _ _ _ e] at hc; exact hc
theorem bn {A B C : Hp} (h : hle A B) (g : hle B C) : hle A C := fun b y hb => g b y (h b y hb)

section
variable {P : Program} {S : Nat → Spec} {Y : aC} {O : List Nat} {n : Nat}

theorem opA_quiet {ops : Array Oper} {C : Hp → Prop} {fx : Nat → Bool} {i : Nat} {o : Oper} {t : T} {H : Hp} {K : T → Hp → Prop} {x : V} (ho' : ops.toList[i]? = some o) (hf : fx i = false) (hg : bR ops t o.guard = some true)
    (h : quietV P S Y O C o t x) (hK : K (putT n t o.dst x) H) : opA P S Y O n ops C fx i K t H := by
  have ho : ops[i]? = some o := by rw [← Array.getElem?_toList]; exact ho'
  unfold opA
  simp only [ho, hg, hf]
  exact ⟨x, h, hK⟩

theorem wpC_range {g : Operand} {ps : Array Tmp} {assign body : Code} {Q : Exit → T → Hp → Prop} {t : T} {H : Hp} {f : FuncId} {first caps : List V} (hg : evT t g = .fn (.func f) first caps) (hB : hasBody P f = true)
    (h : ∀ (l : Nat) (ob : LoopState → Option Code → Obj), H l = none →
        S f (upd Y l fun args H' QY => args.length = ps.size ∧ H' l = some (.raw (ob .ready none)) ∧
              wpC P S Y O n assign false (onlyA fun t₁ H₁ => H₁ l = some (.raw (ob .ready none)) ∧ wpC P S Y O n body false (bL l ob QY) t₁ (upd H₁ l (some (.raw (ob .busy none))))) (putsT n t ps.toList args) H')
          (first ++ [.fn (.yield l) [] []] ++ caps) (upd H l (some (.raw (ob .ready none))))
          (fun _ H' => ∃ st jump, H' l = some (.raw (ob st jump)) ∧ st ≠ .busy ∧ endA Q t (upd H' l none) jump)) : wpC P S Y O n (.rangeFunc g ps assign body) true Q t H := ⟨rfl, f, first, caps, hg, hB, h⟩
/-- A new variable that is written at once and never again: lasting. -/
theorem as_frz {ops : Array Oper} {o1 o2 : Oper} {t : T} {H : Hp} {W K : T → Hp → Prop} {Q' : Exit → T → Hp → Prop} {ty d : Nat} {x : Operand} {z xs : List V} {v : V} (ho1 : o1.op = .alloc ty) (hd1 : o1.dst = some d) (hg1 : o1.guard = none)
    (ho2 : o2.op = .store ty (.tmp d) x) (hd2 : o2.dst = none) (hg2 : o2.guard = none) (hz : zeroT P ty = some z) (hs : ∀ H' b, H' b = some (.row z) → storeV P H' ty (.ptr b 0) v = some (upd H' b (some (.row xs)))) (hdn : d < n)
    (hF : ∀ ds t' H', frzA ds t' H' W → K t' H') (hx : ∀ p, evT (upd t d p) x = v) (hW : W (upd t d (.cptr xs 0)) H) : wpOps P S Y O n ops [o1, o2] t H (bC K Q' .normal) := by
  refine aa (by rw [hg1]; rfl) fun K1 hK1 => ?_
  rw [ho1]
  refine ⟨z, hz, fun b hb => hK1 _ _ ?_⟩
  have ht : putT n t o1.dst (.ptr b 0) = upd t d (.ptr b 0) := by rw [hd1]; simp [putT, hdn]
  rw [ht]
  refine aq (p := .ptr b 0) (v := v) (H' := upd (upd H b (some (.row z))) b (some (.row xs))) ho2 hd2 (by rw [hg2]; rfl) (upd_same _ _ _) (hx _) (hs _ b (upd_same _ _ _)) ?_
  refine ae ?_
  simp only [bC]
  refine hF [d] _ _ ⟨b, .row xs, upd_same _ _ _, rfl, ?_⟩
  have e1 : upd (upd t d (.ptr b 0)) d (subV b (.row xs) (upd t d (.ptr b 0) d)) = upd t d (.cptr xs 0) := by
    funext i
    by_cases e : i = d
    · subst e; rw [upd_same, upd_same, upd_same]; simp [subV]
    · rw [ah _ _ _ e, ah _ _ _ e, ah _ _ _ e]
  have e2 : upd (upd (upd H b (some (.row z))) b (some (.row xs))) b none = H := by
    funext i
    by_cases e : i = b
    · subst e; rw [upd_same, hb]
    · rw [ah _ _ _ e, ah _ _ _ e, ah _ _ _ e]
  rw [e1, e2]
  exact hW
end
end Go.Av

namespace Go.Av
open Go.RowKit Go.ChangeShapes Go.WideShapes

theorem mapM_move {α β : Type} {f g : α → Option β} : ∀ {l : List α} {ys : List β}, (∀ a ∈ l, ∀ y ∈ ys, f a = some y → g a = some y) → l.mapM f = some ys → l.mapM g = some ys
  | [], ys, _, h => by simpa using h
  | a :: l, ys, hg, h => by
    rw [List.mapM_cons] at h ⊢
    obtain ⟨y, hy, h⟩ := Option.bind_eq_some_iff.1 h
    obtain ⟨zs, hz, h⟩ := Option.bind_eq_some_iff.1 h
    cases h
    rw [hg a (by simp) y (by simp) hy]
    show (l.mapM g).bind _ = _
    rw [mapM_move (fun a ha y hy => hg a (by simp [ha]) y (by simp [hy])) hz]
    rfl

theorem cells?_move {w w' : World} {base : Nat} {a : Addr} {n : Nat} {cs : List Value} (hw : ∀ b, b < w.heap.size → w'.heap[b]? = w.heap[b]?) (h : w.cells? base a n = some cs) : w'.cells? base a n = some cs := by
  unfold World.cells? at h ⊢
  split at h
  · rw [if_pos ‹_›]
    refine mapM_move (fun i _ y _ hy => ?_) h
    have hlt := World.block_lt_of_cell? w (a.add i) hy
    rw [← hy]
    simp only [World.cell?, hw _ hlt]
  · cases h

/-- A type of some depth, whose slices have elements with cells. -/
def tyPos (P : Program) : Nat → TypeId → Bool
  | 0, _ => false
  | d + 1, t => match P.underlying t with
    | some (.pointer e) => tyPos P d e
    | some (.slice e) => decide (0 < P.cellsOf e) && tyPos P d e
    | some (.struct fs) => fs.toList.all fun f => tyPos P d f.type
    | some (.array _ e) => tyPos P d e
    | some (.map _ e) => tyPos P d e
    | _ => true

theorem trod_move {H : Type} {enc : TypeId × Value → H} {P : Program} {w w' : World} {base : Nat} {sp : Nat → Bool} (hw : ∀ b, b < w.heap.size → w'.heap[b]? = w.heap[b]?) :
    ∀ (fuel d : Nat) (t : TypeId) (cs : List Value) (x : DataW H × List MemPlace), tyPos P d t = true → DataW.trod enc P w base (fun _ => true) true fuel t cs = some x → (∀ p ∈ x.2, sp p.block = true) → DataW.trod enc P w' base sp true fuel t cs = some x
  | 0, _, _, _, _, _, h, _ => by simp [DataW.trod] at h
  | _ + 1, 0, _, _, _, hd, _, _ => by simp [tyPos] at hd
  | fuel + 1, d + 1, t, cs, x, hd, h, hs => by
    have ih := trod_move (P := P) (sp := sp) (base := base) (enc := enc) hw fuel d
    unfold tyPos at hd
    unfold DataW.trod at h ⊢
    split at h
    · exact h
    · exact h
    · exact h
    · exact h
    · exact h
    · rename_i e a hu
      obtain ⟨y, hy, rfl⟩ := Option.map_eq_some_iff.1 h
      obtain ⟨cs', h1, h2⟩ := Option.bind_eq_some_iff.1 hy
      rw [cells?_move hw h1]
      simp only [Option.bind_some]
      rw [hu] at hd
      rw [ih e cs' y hd h2 (fun p hp => hs p (by simp [hp]))]
      rfl
    · exact h
    · rename_i e a len cap hu
      simp only at h ⊢
      split at h
      · rename_i hc
        rw [if_pos hc]
        obtain ⟨elems, he, h⟩ := Option.bind_eq_some_iff.1 h
        obtain ⟨rest, hr, rfl⟩ := Option.map_eq_some_iff.1 h
        simp only [if_true] at hr
        rw [hu] at hd
        simp only [Bool.and_eq_true, decide_eq_true_eq] at hd
        have hpos := hd.1
        have one : ∀ i, ∀ y ∈ elems ++ rest, (w.cells? base (a.add (i * P.cellsOf e)) (P.cellsOf e)).bind (DataW.trod enc P w base (fun _ => true) true fuel e) = some y →
            (w'.cells? base (a.add (i * P.cellsOf e)) (P.cellsOf e)).bind (DataW.trod enc P w' base sp true fuel e) = some y := fun i y hy h0 => by
          obtain ⟨cs', h1, h2⟩ := Option.bind_eq_some_iff.1 h0
          rw [cells?_move hw h1]
          exact ih e cs' y hd.2 h2 (fun p hp => hs p (List.mem_append_right _ (List.mem_flatMap.2 ⟨y, hy, hp⟩)))
        rw [mapM_move (fun i _ y hy h0 => one i y (by simp [hy]) h0) he]
        simp only [Option.bind_some]
        by_cases hn : elems.length + rest.length = 0
        · have h1 : rest = [] := List.eq_nil_of_length_eq_zero (by omega)
          subst h1
          have hz : cap - len = 0 := by
            have := mapM_some_length hr
            simpa using this.symm
          rw [hz]
          split <;> simp
        · have hb : sp a.block = true := hs (.cell a.block (a.off + 0)) (List.mem_append_left _ (by
            unfold MemPlace.row
            exact List.mem_map.2 ⟨0, List.mem_range.2 (Nat.mul_pos (by omega) hpos), rfl⟩))
          rw [if_pos hb, mapM_move (fun i _ y hy h0 => one (len + i) y (by simp [hy]) h0) hr]
          rfl
      · cases h
    · rename_i fs hu
      split at h
      · rename_i hc
        rw [if_pos hc]
        obtain ⟨xs, hx, rfl⟩ := Option.map_eq_some_iff.1 h
        rw [hu] at hd
        rw [mapM_move (fun f hf y hy h0 => ih _ _ y (List.all_eq_true.1 hd f hf) h0 (fun p hp => hs p (List.mem_flatMap.2 ⟨y, hy, hp⟩))) hx]
        rfl
      · cases h
    · rename_i n e hu
      split at h
      · rename_i hc
        rw [if_pos hc]
        obtain ⟨xs, hx, rfl⟩ := Option.map_eq_some_iff.1 h
        rw [hu] at hd
        rw [mapM_move (fun i _ y hy h0 => ih _ _ y hd h0 (fun p hp => hs p (List.mem_flatMap.2 ⟨y, hy, hp⟩))) hx]
        rfl
      · cases h
    · exact h
    · exact h
    · exact h
    · rename_i k e b hu
      split at h
      · rename_i es clock hb
        have hlt : b < w.heap.size := (Array.getElem?_eq_some_iff.1 hb).1
        rw [hw b hlt, hb]
        simp only
        split at h
        · rename_i hc
          rw [if_pos hc]
          rw [hu] at hd
          obtain ⟨entries, he, h⟩ := Option.bind_eq_some_iff.1 h
          dsimp only at h
          split at h
          · rename_i hris
            cases h
            have hm : (es.toList.mapM fun x => (keyOf P k x.key).bind fun key =>
                if x.val.formed P e then (DataW.trod enc P w' base sp true fuel e x.val.cells.toList).map fun y => ((key, y.1), y.2) else none) = some entries := by
              refine mapM_move (fun x _ y hy h0 => ?_) he
              obtain ⟨key, hk, h0⟩ := Option.bind_eq_some_iff.1 h0
              rw [hk]
              simp only [Option.bind_some]
              split at h0
              · rename_i hf
                rw [if_pos hf]
                obtain ⟨z, hz, rfl⟩ := Option.map_eq_some_iff.1 h0
                rw [ih _ _ z hd hz (fun p hp => hs p (List.mem_cons_of_mem _ (List.mem_flatMap.2 ⟨_, hy, hp⟩)))]
                rfl
              · cases h0
            rw [hm]
            simp only [Option.bind_some]
            rw [if_pos hris]
          · cases h
        · cases h
      · cases h
    all_goals exact h

end Go.Av

namespace Go.Av
open Go.RowKit Go.ChangeShapes Go.WideShapes

/-- What is known of the world that a call begins with: its cells. -/
def K0 (W : World) : K := ⟨fun b o => W.cell? ⟨b, o, none⟩, fun _ => none⟩
theorem rel0 (W : World) : Rel (K0 W) (fun _ => none) W := ⟨fun _ _ _ h => ⟨h, rfl⟩, fun _ _ h => (by cases h), fun _ _ h => (by cases h)⟩

theorem calls_of_sound {P : Program} {f : FuncId} {s : Spec} {args : Array Value} {xs : List V} {W : World} {Q : V → Hp → Prop} (h : Sound P f s) (hB : hasBody P f = true) (hc : ConcL (K0 W) args xs) (hs : s (fun _ _ _ _ => False) xs (fun _ => none) Q) :
    Calls P f args W fun e W' => ∃ v x H' k', e = .returned v ∧ Q x H' ∧ Conc k' v x ∧ Fr (fun _ => none) W H' W' := by
  rcases h _ _ _ _ hs (K0 W) W args (fun _ _ _ _ hf => hf.elim) (rel0 W) hc with ⟨v, w', h1, _⟩ | ⟨_, h2⟩
  · rw [cm hB] at h1
    cases h1
  · refine callsIn_wide.1 (CallsIn.mono h2 fun e w' ⟨v, he, x, H', k', a, _, _, d, e'⟩ => ⟨v, x, H', k', he, a, d, e'⟩)

theorem trodAll_move {H : Type} {enc : TypeId × Value → H} {P : Program} {w w' : World} {base : Nat} {sp : Nat → Bool} {d : Nat} (hw : ∀ b, b < w.heap.size → w'.heap[b]? = w.heap[b]?) :
    ∀ (ts : List TypeId) (vs : List Value) (ds : List (DataW H)) (ps : List MemPlace), (ts.all fun t => tyPos P d t) = true → DataW.TrodAll enc P w base (fun _ => true) true ts vs ds ps → (∀ p ∈ ps, sp p.block = true) → DataW.TrodAll enc P w' base sp true ts vs ds ps
  | [], [], [], _, _, h, _ => h
  | t :: ts, v :: vs, x :: ds, ps, ht, ⟨p, q, ⟨fuel, h1⟩, h2, h3⟩, hs => by
    simp only [List.all_cons, Bool.and_eq_true] at ht
    subst h3
    exact ⟨p, q, ⟨fuel, trod_move hw fuel d t _ _ ht.1 h1 (fun y hy => hs y (by simp [hy]))⟩, trodAll_move hw ts vs ds q ht.2 h2 (fun y hy => hs y (by simp [hy])), rfl⟩

theorem kept_of_fr {W W' : World} {H' : Hp} (h : Fr (fun _ => none) W H' W') (may : MemPlace → Prop) : W.keptBut W' may := by
  refine ⟨h.os, h.out, fun i hi => ?_⟩
  rw [h.same i hi rfl]
  have : i < W.heap.size := hi
  rw [Array.getElem?_eq_getElem this]
  cases W.heap[i] with
  | cells c t fr => exact ⟨rfl, rfl, rfl, fun _ _ => rfl⟩
  | map es clock => exact .inr ⟨rfl, rfl⟩
  | _ => rfl

/-- The law's end. -/
theorem law_post {H : Type} {enc : TypeId × Value → H} {P : Program} {fn : Func} {s : ChangeSpec} {W W' : World} {args : Array Value} {ds gs : List (DataW H)} {before : List MemPlace} {H' : Hp} {d t4 : Nat}
    (hW : DataW.Whole enc P fn.params.toList s.vars false W args.toList ds gs before) (hv : s.vars = []) (hr : (s.fn H ds).results = [.lit (.bool true)]) (ha : (s.fn H ds).args = ds) (hvv : (s.fn H ds).vars = []) (hrt : fn.resultTypes = #[t4]) (h4 : P.underlying t4 = some .bool)
    (ht : (fn.params.toList.all fun t => tyPos P d t) = true) (hf : Fr (fun _ => none) W H' W') : s.post enc P fn false true false false W args (.bool true) W' := by
  have hlt : ∀ p ∈ before, (fun b => decide (b < W.heap.size)) p.block = true := fun p hp => by simpa using hW.lt p hp
  have hW0 := hW
  obtain ⟨p, q, hA, hV, rfl, _⟩ := hW
  rw [hv] at hV
  obtain ⟨rfl, rfl⟩ := trodVars_none hV
  refine ⟨ds, [], p ++ [], [], p, [], hW0, ?_, ?_, ?_, kept_of_fr hf _, fun h => by cases h⟩
  · rw [List.append_nil, hr, hrt]
    exact trodAll_cons_mk (shut_bool h4 _) trodAll_mk0
  · rw [List.append_nil, ha]
    exact trodAll_move (fun b hb => hf.same b hb rfl) _ _ _ _ ht hA (fun y hy => hlt y (by simp [hy]))
  · rw [hv, List.append_nil, hvv]
    rfl

/-- **A LAW'S CONTRACT.** -/
theorem law_calls {H : Type} {enc : TypeId × Value → H} {P : Program} {f : FuncId} {fn : Func} {s : ChangeSpec} {W : World} {args : Array Value} {ds gs : List (DataW H)} {before : List MemPlace} {d t4 : Nat} {sp : Spec} {xs : List V}
    (hS : Sound P f sp) (hB : hasBody P f = true) (hc : ConcL (K0 W) args xs) (hs : sp (fun _ _ _ _ => False) xs (fun _ => none) (fun v _ => v = .bool true))
    (hW : DataW.Whole enc P fn.params.toList s.vars false W args.toList ds gs before) (hv : s.vars = []) (hr : (s.fn H ds).results = [.lit (.bool true)]) (ha : (s.fn H ds).args = ds) (hvv : (s.fn H ds).vars = []) (hrt : fn.resultTypes = #[t4]) (h4 : P.underlying t4 = some .bool)
    (ht : (fn.params.toList.all fun t => tyPos P d t) = true) : Calls P f args W fun e W' => ∃ v, e = .returned v ∧ s.post enc P fn false true false false W args v W' :=
  (calls_of_sound hS hB hc hs).mono fun e W' ⟨v, x, H', k', he, hx, hcv, hf⟩ => by
    subst hx
    cases hcv
    exact ⟨.bool true, he, law_post hW hv hr ha hvv hrt h4 ht hf⟩
end Go.Av

namespace Go.Av
open Go.RowKit Go.ChangeShapes Go.WideShapes Go.Deep

/-- A number in a cell. -/
def cellN (W : World) (a : Addr) (o : Nat) : Nat := match W.cell? (a.add o) with
  | some (.int _ n) => n.toNat
  | _ => 0

section
variable {H : Type} {enc : TypeId × Value → H} {P : Program} {W : World} {sp : Nat → Bool} {held : Bool}

/-- The cells of an array of bytes. -/
theorem trod_bytes {t e n fuel : Nat} {cs : List Value} {x : DataW H × List MemPlace} (ht : P.underlying t = some (.array n e)) (he : P.underlying e = some (.int .u8)) (hce : P.cellsOf e = 1) (h : DataW.trod enc P W 0 sp held fuel t cs = some x) :
    cs.length = P.cellsOf t ∧ ∀ j, j < n → ∃ m : Nat, cs[j]? = some (.int .u8 m) ∧ m < 256 := by
  obtain ⟨xs, f, _, _, hl, hx, hg⟩ := DataW.trod_array ht h
  refine ⟨hl, fun j hj => ?_⟩
  have h1 := hg j hj
  rw [List.getElem?_eq_getElem (by omega), hce, Nat.mul_one] at h1
  obtain ⟨z, hz, _, hw⟩ := DataW.trod_int he h1
  have hb : 0 ≤ z ∧ z ≤ 255 := by
    simp only [Lit.wf, IntKind.min, IntKind.max, IntKind.signed, IntKind.bits] at hw
    simpa using hw
  have h2 : ((cs.drop j).take 1)[0]? = some (.int .u8 z) := by rw [hz]; rfl
  rw [List.getElem?_take, if_pos (by omega), List.getElem?_drop, Nat.add_zero] at h2
  exact ⟨z.toNat, by rw [h2, Int.toNat_of_nonneg hb.1], by omega⟩

theorem addr_spot {a : Addr} (h : a.spot = none) (j : Nat) : a.add j = ⟨a.block, a.off + j, none⟩ := by
  obtain ⟨b, o, s⟩ := a
  simp only at h
  subst h
  exact bO b o j

/-- A slice of arrays of n bytes. -/
theorem arg_arrays {t e u n fuel : Nat} {a : Addr} {len cap : Nat} {x : DataW H × List MemPlace} (ht : P.underlying t = some (.slice e)) (he : P.underlying e = some (.array n u)) (hu : P.underlying u = some (.int .u8)) (hcu : P.cellsOf u = 1) (hce : P.cellsOf e = n)
    (ha : a.spot = none) (h : DataW.trod enc P W 0 (fun _ => true) held fuel t [.slice (some a) len cap] = some x) :
    ∃ hs : List (List Nat), hs.length = len ∧ (∀ h ∈ hs, h.length = n ∧ ∀ y ∈ h, y < 256) ∧ Conc (K0 W) (.slice (some a) len cap) (.sl n (hs.map (nR .u8)) false) ∧
      ∃ es sps, x.1 = .slice es sps ∧ es.length = len ∧ len ≤ cap := by
  rcases open_slice ht h with ⟨h0, _⟩ | ⟨a', len', cap', m, f, D, Pl, hcs, _, hle, _, hm, hx, hel⟩
  · cases h0
  · cases hcs
    rw [if_pos rfl] at hm
    subst hm
    have cell : ∀ i j, i < len → j < n → ∃ m : Nat, W.cell? (a.add (i * n + j)) = some (.int .u8 m) ∧ m < 256 := fun i j hi hj => by
      obtain ⟨cs', h1, h2⟩ := hel i (by omega)
      obtain ⟨_, hb⟩ := trod_bytes he hu hcu h2
      obtain ⟨m, hm, hlt⟩ := hb j hj
      obtain ⟨_, hcl, hat⟩ := World.cells?_some h1
      refine ⟨m, ?_, hlt⟩
      have := hat j (by rw [hce]; exact hj)
      rw [add_add, hce] at this
      rw [this]
      exact hm
    refine ⟨(List.range len).map fun i => (List.range n).map fun j => cellN W a (i * n + j), by simp, ?_, ?_, _, _, by rw [hx], by simp, hle⟩
    · intro h hm
      obtain ⟨i, hi, rfl⟩ := List.mem_map.1 hm
      refine ⟨by simp, fun y hy => ?_⟩
      obtain ⟨j, hj, rfl⟩ := List.mem_map.1 hy
      obtain ⟨m, h1, h2⟩ := cell i j (List.mem_range.1 hi) (List.mem_range.1 hj)
      rw [cellN, h1]
      simpa using h2
    · obtain ⟨b, off, s⟩ := a
      simp only at ha
      subst ha
      have hadd : ∀ j, (⟨b, off, none⟩ : Addr).add j = ⟨b, off + j, none⟩ := fun j => bO b off j
      have hlen : (((List.range len).map fun i => (List.range n).map fun j => cellN W ⟨b, off, none⟩ (i * n + j)).map (nR .u8)).length = len := by simp
      have := Conc.sl (k := K0 W) b off _ n (((List.range len).map fun i => (List.range n).map fun j => cellN W ⟨b, off, none⟩ (i * n + j)).map (nR .u8)) false (fun i j => .int .u8 (cellN W ⟨b, off, none⟩ (i * n + j)))
        (fun e he => by
          obtain ⟨h, hh, rfl⟩ := List.mem_map.1 he
          obtain ⟨i, _, rfl⟩ := List.mem_map.1 hh
          rw [ar]; simp) (by rw [hlen]; exact hle) (fun h => by cases h)
        (fun i j hi hj => by
          rw [hlen] at hi
          obtain ⟨m, h1, h2⟩ := cell i j hi hj
          have e1 : off + i * n + j = off + (i * n + j) := by omega
          show W.cell? ⟨b, off + i * n + j, none⟩ = _
          rw [hadd] at h1
          rw [e1, h1, cellN, hadd, h1]
          rfl)
        (fun i e j x hi hj => by
          simp only [List.getElem?_map, Option.map_eq_some_iff, List.getElem?_range] at hi
          obtain ⟨h, ⟨i', hi', rfl⟩, rfl⟩ := hi
          have hi2 : i' = i := by
            have := List.getElem?_eq_some_iff.1 hi'
            obtain ⟨h1, h2⟩ := this
            rw [List.getElem_range] at h2
            exact h2.symm
          subst hi2
          simp only [nR, List.getElem?_map, Option.map_eq_some_iff] at hj
          obtain ⟨y, ⟨j', hj', rfl⟩, rfl⟩ := hj
          have hj2 : j' = j := by
            have := List.getElem?_eq_some_iff.1 hj'
            obtain ⟨h1, h2⟩ := this
            rw [List.getElem_range] at h2
            exact h2.symm
          subst hj2
          exact .int _ _)
      rw [hlen] at this
      exact this

theorem okWide_spot {r : Reach} {base t e : Nat} {a : Addr} {len cap : Nat} (ht : P.underlying t = some (.slice e)) (h : Value.okWide P W r base t (.slice (some a) len cap)) : a.spot = none := by
  unfold Value.okWide at h
  rw [ht] at h
  simp only at h
  unfold Cell.okWide at h
  rw [ht] at h
  simp only at h
  unfold Cell.ok at h
  rw [ht] at h
  exact h.2.2.2.1
end
end Go.Av
