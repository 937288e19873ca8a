/-
  Package sha: the facts on types; the small functions.
  Package sha: word.
  Package sha: the tables; New; none; Clone.
  Package sha: New; none.
  slices.Clone of bytes, by value.
  Package sha: Copy.
  Package sha: the blocks of a message, told one by one.
  Package sha: one block.
  Package sha: the loops of a block.
  Package sha: one block.
  Package sha: blocks; Write.
  Package sha: Write.
  Package sha: End: its pieces.
  Package sha: End: its other loops.
  Package sha: End.
  Package sha: Of; Twice.
-/
import Derived.Test.YtgjlmmjdofceiaaYC
import Derived.Test.YtgjlmmjdofceiaaChecked
import Derived.KernelRfl

set_option linter.unusedSimpArgs false
set_option linter.unusedVariables false
namespace Go.Av
open Go.RowKit Go.Proofs

theorem pm : Try.prog.follows .mixedOrders = true := by kernel_rfl
theorem i3 : intT Try.prog 3 = some .i64 := by kernel_rfl
theorem i88 : intT Try.prog 88 = some .u64 := by kernel_rfl
theorem i91 : intT Try.prog 91 = some .u64 := by kernel_rfl
theorem i44 : intT Try.prog 44 = some .u32 := by kernel_rfl
theorem i5 : intT Try.prog 5 = some .u8 := by kernel_rfl
theorem us3 : (Try.prog.underlying 3).isSome = true := by kernel_rfl
theorem us5 : (Try.prog.underlying 5).isSome = true := by kernel_rfl
theorem us44 : (Try.prog.underlying 44).isSome = true := by kernel_rfl
theorem us91 : (Try.prog.underlying 91).isSome = true := by kernel_rfl
theorem ty5 : tyT Try.prog 5 = some (false, 1) := by kernel_rfl
theorem bb : tyT Try.prog 25 = some (true, 32) := by kernel_rfl
theorem ty44 : tyT Try.prog 44 = some (false, 1) := by kernel_rfl
theorem ty64 : tyT Try.prog 64 = some (false, 1) := by kernel_rfl
theorem ty91 : tyT Try.prog 91 = some (false, 1) := by kernel_rfl
theorem ty111 : tyT Try.prog 111 = some (false, 1) := by kernel_rfl
theorem ty124 : tyT Try.prog 124 = some (true, 8) := by kernel_rfl
theorem ty127 : tyT Try.prog 127 = some (true, 10) := by kernel_rfl
theorem ty146 : tyT Try.prog 146 = some (true, 64) := by kernel_rfl
theorem sl64 : sliT Try.prog 64 = some 1 := by kernel_rfl
theorem ar64 : arrT Try.prog 64 = none := by kernel_rfl
theorem ar25 : arrT Try.prog 25 = some (32, 1) := by kernel_rfl
theorem ar124 : arrT Try.prog 124 = some (8, 1) := by kernel_rfl
theorem ar146 : arrT Try.prog 146 = some (64, 1) := by kernel_rfl
theorem ds64 : dstT Try.prog 64 = some 1 := by kernel_rfl
theorem by64 : bT Try.prog 64 = 1 := by kernel_rfl
theorem z25 : zeroT Try.prog 25 = some (List.replicate 32 (vN .u8 0)) := by kernel_rfl
theorem z124 : zeroT Try.prog 124 = some (List.replicate 8 (vN .u32 0)) := by kernel_rfl
theorem z146 : zeroT Try.prog 146 = some (List.replicate 64 (vN .u32 0)) := by kernel_rfl

/-! ### bits.RotateLeft32, to the right -/
def rotr (x n : Nat) : Nat := ((x * 2 ^ (32 - n)) % 4294967296 ||| x / 2 ^ n) % 4294967296

theorem rot_and (n : Nat) (h1 : 1 ≤ n) (h : n < 32) : ((18446744073709551616 - n) &&& 31) = 32 - n := by
  have : ∀ n, n < 32 → 1 ≤ n → ((18446744073709551616 - n) &&& 31) = 32 - n := by decide
  exact this n h h1

theorem wrap_u64_neg {n : Nat} (h1 : 1 ≤ n) (h : n ≤ 18446744073709551616) : IntKind.wrap .u64 (-(n : Int)) = ((18446744073709551616 - n : Nat) : Int) := by
  simp only [IntKind.wrap, IntKind.bits, IntKind.signed, Bool.false_and, Bool.false_eq_true, if_false]
  omega
theorem conv_u64_neg {P : Program} {s d : TypeId} {k : IntKind} {n : Nat} (h1 : 1 ≤ n) (h : n ≤ 18446744073709551616) (hs : (P.underlying s).isSome = true) (hd : intT P d = some .u64) : convV P s d (.int k (-(n : Int))) = some (vN .u64 (18446744073709551616 - n)) := by
  simp only [vN, convV, hs, if_true, hd, Option.map_some, wrap_u64_neg h1 h]

def s101 : Spec := fun _ args H Q => ∃ (x : Nat) (z : Int), args = [vN .u32 x, .int .i64 z] ∧ -32 < z ∧ z < 0 ∧ Q (vN .u32 (rotr x (-z).toNat)) H

theorem snd101 : Sound Try.prog 101 s101 := by
  refine ak pm (ap [] (by simp)) [] Try.func101 rfl (by kernel_rfl) ?_
  rintro Y args H Q ⟨x, z, rfl, hz1, hz2, hQ⟩
  obtain ⟨k, rfl⟩ : ∃ k : Nat, z = -(k : Int) := ⟨(-z).toNat, by omega⟩
  have h1 : 1 ≤ k := by omega
  have h2 : k < 32 := by omega
  rw [Int.neg_neg, Int.toNat_natCast] at hQ
  refine ⟨by simp [Try.f101], ?_⟩
  show wpC Try.prog (tab []) Y [] 17 _ true (aB Try.prog [.tmp 4] Q) _ H
  repeat (first
    | (refine aa rfl fun K hK => ?_; simp (disch := omega) only [WW, BB, ↓ab, simprocAttr, wpConv_I, conv_u64_neg h1 (by omega : k ≤ 18446744073709551616) us3 i88]; refine hK _ _ ?_; clear hK) | (refine ae ?_; simp only [TH]; (((repeat ((fail_if_success refine hS _ _ ?_); clear hS)); refine hS _ _ ?_); clear hS; try clear hF)) | refine af fun K hS hF => ?_ | refine ac rfl ?_ | (refine al ?_; simp (disch := omega) only [TH, TE, WW, BB, ↓ab, simprocAttr, wpConv_I, conv_u64_neg h1 (by omega : k ≤ 18446744073709551616) us3 i88]))
  refine ⟨_, rfl, [], H, fun _ _ h => h, ?_⟩
  rw [rot_and k h1 h2, show min ((32 - k) % 18446744073709551616) 32 = 32 - k by omega, show min ((32 + (18446744073709551616 - (32 - k) % 18446744073709551616 % 18446744073709551616)) % 18446744073709551616) 32 = k by omega]
  exact hQ

end Go.Av

set_option linter.unusedSimpArgs false
set_option linter.unusedVariables false
namespace Go.Av
open Go.RowKit Go.Proofs

def wordOf (l : List Nat) : Nat := l.foldl (fun n c => ((n * 256) % 4294967296 ||| c % 4294967296) % 4294967296) 0

theorem wordOf_succ (bs : List Nat) (i : Nat) (h : i < bs.length) : wordOf (bs.take (i + 1)) = (wordOf (bs.take i) * 2 ^ min 8 32 % 4294967296 ||| bs.getD i 0 % 4294967296) % 4294967296 := by
  rw [List.take_add_one, List.getElem?_eq_getElem h]
  simp only [wordOf, Option.toList_some, List.foldl_append, List.foldl_cons, List.foldl_nil, List.getD_eq_getElem?_getD, List.getElem?_eq_getElem h, Option.getD_some]
  rfl

def s100 : Spec := fun _ args H Q => ∃ x bs, args = [x] ∧ ao H 1 x = some (nE .u8 bs) ∧ 4 ≤ bs.length ∧ Q (vN .u32 (wordOf (bs.take 4))) H

theorem snd100 : Sound Try.prog 100 s100 := by
  refine ak pm (ap [] (by simp)) [] Try.func100 rfl (by kernel_rfl) ?_
  rintro Y args H Q ⟨x, bs, rfl, hv, h4, hQ⟩
  refine ⟨by simp [Try.f100], ?_⟩
  show wpC Try.prog (tab []) Y [] 20 _ true (aB Try.prog [.tmp 2] Q) _ H
  have hlen : (nE .u8 bs).length = bs.length := az _ _
  obtain ⟨y, hy, hvy⟩ := slice_view (lo := none) (hi := some (vN .i64 4)) ar64 sl64 hv (bnd_N 4 (by omega)) rfl (by omega) (by omega)
  rw [List.drop_zero, nE_take] at hvy
  have hly := av sl64 hvy
  rw [az, List.length_take, Nat.min_eq_left h4] at hly
  repeat (first
    | (refine aa rfl fun K hK => ?_; simp (disch := omega) only [WW, BB, ↓ab, simprocAttr, hy, hly, builtinV, bU, Option.map_none]; refine hK _ _ ?_; clear hK) | (refine ae ?_; simp only [TH]; (((repeat ((fail_if_success refine hS _ _ ?_); clear hS)); refine hS _ _ ?_); clear hS; try clear hF)) | refine af fun K hS hF => ?_ | refine ac rfl ?_ | refine ax ?_)
  refine aO (fun m t H' => ∃ i, m = 4 - i ∧ i ≤ 4 ∧ t 3 = vN .u32 (wordOf (bs.take i)) ∧ t 7 = y ∧ t 8 = vN .i64 4 ∧ t 9 = vN .i64 i ∧ H' = H) 4 ⟨0, rfl, by omega, rfl, rfl, rfl, rfl, rfl⟩ fun KL m t H' hI hKL => ?_
  obtain ⟨i, rfl, hi, h3, h7, h8, h9, rfl⟩ := hI
  repeat (first
    | (refine aa rfl fun K hK => ?_; simp (disch := omega) only [WW, BB, ↓ab, simprocAttr, h3, h7, h8, h9]; refine hK _ _ ?_; clear hK) | (refine ae ?_; simp only [TH]; (((repeat ((fail_if_success refine hS _ _ ?_); clear hS)); refine hS _ _ ?_); clear hS; try clear hF)) | refine af fun K hS hF => ?_ | refine ac rfl ?_)
  refine aH rfl (fun hd => ?_) (fun hd => ?_)
  · (refine am ?_; simp only [TH]; ((repeat ((fail_if_success refine hS _ _ ?_); clear hS)); refine hS _ _ ?_); clear hS; try clear hF)
    have hi' : i < (bs.take 4).length := by rw [List.length_take]; omega
    obtain ⟨p, hp, hq⟩ := ci (k := .i64) ar64 sl64 hvy (nE_get .u8 (bs.take 4) i hi')
    repeat (first
    | (refine aa rfl fun K hK => ?_; simp (disch := omega) only [WW, BB, ↓ab, simprocAttr, h3, h7, h8, h9, hp, hq, ty5, conv_u32 _ us5 i44, aP]; refine hK _ _ ?_; clear hK) | (refine ae ?_; simp only [TH]; first | (((repeat ((fail_if_success refine hS _ _ ?_); clear hS)); refine hS _ _ ?_); clear hS; try clear hF) | skip) | refine af fun K hS hF => ?_ | refine ac rfl ?_)
    have hg : (bs.take 4).getD i 0 = bs.getD i 0 := by
      have : i < 4 := by omega
      simp [List.getD_eq_getElem?_getD, List.getElem?_take, this]
    refine hKL _ _ _ (by omega : 4 - (i + 1) < 4 - i) ⟨i + 1, rfl, by omega, ?_, ?_, ?_, ?_, rfl⟩
    · simp (disch := omega) only [WW, BB, ↓ab, simprocAttr]
      rw [hg, wordOf_succ bs i (by omega)]
    · simp (disch := omega) only [WW, BB, ↓ab, simprocAttr, h7]
    · simp (disch := omega) only [WW, BB, ↓ab, simprocAttr, h8]
    · simp (disch := omega) only [WW, BB, ↓ab, simprocAttr]
  · (refine aG ?_; simp only [TH, ↓reduceIte, Nat.reduceEqDiff]; ((repeat ((fail_if_success refine hS _ _ ?_); clear hS)); refine hS _ _ ?_); clear hS; try clear hF)
    repeat (first
    | (refine aa rfl fun K hK => ?_; simp (disch := omega) only [WW, BB, ↓ab, simprocAttr, h3, h7, h8, h9]; refine hK _ _ ?_; clear hK) | (refine ae ?_; simp only [TH]; (((repeat ((fail_if_success refine hS _ _ ?_); clear hS)); refine hS _ _ ?_); clear hS; try clear hF)) | refine af fun K hS hF => ?_ | refine ac rfl ?_ | (refine al ?_; simp (disch := omega) only [TH, TE, WW, BB, ↓ab, simprocAttr, h3, h7, h8, h9]))
    refine ⟨_, rfl, [], H', fun _ _ h => h, ?_⟩
    have : i = 4 := by omega
    subst this
    exact hQ
end Go.Av

set_option linter.unusedSimpArgs false
set_option linter.unusedVariables false
namespace Go.Av
open Go.RowKit Go.Proofs

def sq0 : List Nat := [0x6a09e667, 0xbb67ae85, 0x3c6ef372, 0xa54ff53a, 0x510e527f, 0x9b05688c, 0x1f83d9ab, 0x5be0cd19]
def cu0 : List Nat := [
  0x428a2f98, 0x71374491, 0xb5c0fbcf, 0xe9b5dba5, 0x3956c25b, 0x59f111f1, 0x923f82a4, 0xab1c5ed5,
  0xd807aa98, 0x12835b01, 0x243185be, 0x550c7dc3, 0x72be5d74, 0x80deb1fe, 0x9bdc06a7, 0xc19bf174,
  0xe49b69c1, 0xefbe4786, 0x0fc19dc6, 0x240ca1cc, 0x2de92c6f, 0x4a7484aa, 0x5cb0a9dc, 0x76f988da,
  0x983e5152, 0xa831c66d, 0xb00327c8, 0xbf597fc7, 0xc6e00bf3, 0xd5a79147, 0x06ca6351, 0x14292967,
  0x27b70a85, 0x2e1b2138, 0x4d2c6dfc, 0x53380d13, 0x650a7354, 0x766a0abb, 0x81c2c92e, 0x92722c85,
  0xa2bfe8a1, 0xa81a664b, 0xc24b8b70, 0xc76c51a3, 0xd192e819, 0xd6990624, 0xf40e3585, 0x106aa070,
  0x19a4c116, 0x1e376c08, 0x2748774c, 0x34b0bcb5, 0x391c0cb3, 0x4ed8aa4a, 0x5b9cca4f, 0x682e6ff3,
  0x748f82ee, 0x78a5636f, 0x84c87814, 0x8cc70208, 0x90befffa, 0xa4506ceb, 0xbef9a3f7, 0xc67178f2]

def s80 : Spec := fun _ args H Q => args = [] ∧ Q (.agg (nR .u32 sq0)) H
def s102 : Spec := fun _ args H Q => args = [] ∧ Q (.agg (nR .u32 cu0)) H

theorem snd80 : Sound Try.prog 80 s80 := by
  refine ak pm (ap [] (by simp)) [] Try.func80 rfl (by kernel_rfl) ?_
  rintro Y args H Q ⟨rfl, hQ⟩
  refine ⟨by simp [Try.f80], ?_⟩
  show wpC Try.prog (tab []) Y [] 2 _ true (aB Try.prog [.cell 0 124] Q) _ H
  repeat (first
    | refine af fun K hS hF => ?_ | refine ac rfl ?_)
  refine aa rfl fun K hK => ⟨_, z124, fun b hb => hK _ _ ?_⟩
  repeat (first
    | (refine ae ?_; simp only [TH]; (((repeat ((fail_if_success refine hS _ _ ?_); clear hS)); refine hS _ _ ?_); clear hS; try clear hF)) | refine af fun K hS hF => ?_ | refine ac rfl ?_)
  refine aa rfl fun K hK => ⟨.agg (nR .u32 sq0), ?_, hK _ _ ?_⟩
  · kernel_rfl
  refine aa rfl fun K hK => ⟨_, au (ag _ _ _) ty124 rfl rfl rfl, hK _ _ ?_⟩
  rw [aD]
  repeat (first
    | (refine ae ?_; simp only [TH]; (((repeat ((fail_if_success refine hS _ _ ?_); clear hS)); refine hS _ _ ?_); clear hS; try clear hF)) | (refine al ?_; simp (disch := omega) only [TH, TE, WW, BB, ↓ab, simprocAttr, aJ (cells := nR .u32 sq0) (ag _ _ _) ty124 rfl]))
  refine ⟨_, rfl, [], H, ai (aj H) hb, hQ⟩

theorem snd102 : Sound Try.prog 102 s102 := by
  refine ak pm (ap [] (by simp)) [] Try.func102 rfl (by kernel_rfl) ?_
  rintro Y args H Q ⟨rfl, hQ⟩
  refine ⟨by simp [Try.f102], ?_⟩
  show wpC Try.prog (tab []) Y [] 2 _ true (aB Try.prog [.cell 0 146] Q) _ H
  repeat (first
    | refine af fun K hS hF => ?_ | refine ac rfl ?_)
  refine aa rfl fun K hK => ⟨_, z146, fun b hb => hK _ _ ?_⟩
  repeat (first
    | (refine ae ?_; simp only [TH]; (((repeat ((fail_if_success refine hS _ _ ?_); clear hS)); refine hS _ _ ?_); clear hS; try clear hF)) | refine af fun K hS hF => ?_ | refine ac rfl ?_)
  refine aa rfl fun K hK => ⟨.agg (nR .u32 cu0), ?_, hK _ _ ?_⟩
  · kernel_rfl
  refine aa rfl fun K hK => ⟨_, au (ag _ _ _) ty146 rfl rfl rfl, hK _ _ ?_⟩
  rw [aD]
  repeat (first
    | (refine ae ?_; simp only [TH]; (((repeat ((fail_if_success refine hS _ _ ?_); clear hS)); refine hS _ _ ?_); clear hS; try clear hF)) | (refine al ?_; simp (disch := omega) only [TH, TE, WW, BB, ↓ab, simprocAttr, aJ (cells := nR .u32 cu0) (ag _ _ _) ty146 rfl]))
  refine ⟨_, rfl, [], H, ai (aj H) hb, hQ⟩

end Go.Av

set_option linter.unusedSimpArgs false
set_option linter.unusedVariables false
namespace Go.Av
open Go.RowKit Go.Proofs

/-- The cells of a Sum. -/
def aY (st : List Nat) (rest : V) (many : Nat) : List V := nR .u32 st ++ [rest, vN .u64 many]
theorem sumR_len {st : List Nat} (h : st.length = 8) (rest : V) (many : Nat) : (aY st rest many).length = 10 := by simp [aY, nR, h]

/-- Bytes, by value. -/
def isB (v : V) (bs : List Nat) : Prop := (v = .nils ∧ bs = []) ∨ ∃ full, v = .sl 1 (nE .u8 bs) full
theorem isB_view {v : V} {bs : List Nat} (h : isB v bs) (H : Hp) : ao H 1 v = some (nE .u8 bs) := by
  rcases h with ⟨rfl, rfl⟩ | ⟨full, rfl⟩
  · rfl
  · simp [ao]
theorem isB_one {v : V} {bs : List Nat} (h : isB v bs) : one v = true ∧ aW v = some [v] := by
  rcases h with ⟨rfl, rfl⟩ | ⟨full, rfl⟩ <;> exact ⟨rfl, rfl⟩

theorem bu127 : bH Try.prog 127 [(0, .agg (nR .u32 sq0))] = some (.agg (aY sq0 .nils 0)) := by kernel_rfl

def s67 : Spec := fun _ args H Q => args = [] ∧ ∀ b, H b = none → Q (.ptr b 0) (upd H b (some (.row (aY sq0 .nils 0))))

theorem snd67 : Sound Try.prog 67 s67 := by
  refine ak pm (ap [(80, s80)] (by simp [snd80])) [] Try.func67 rfl (by kernel_rfl) ?_
  rintro Y args H Q ⟨rfl, hQ⟩
  refine ⟨by simp [Try.f67], ?_⟩
  show wpC Try.prog (tab [(80, s80)]) Y [] 4 _ true (aB Try.prog [.tmp 0] Q) _ H
  repeat (first
    | (refine aa rfl fun K hK => ?_; simp (disch := omega) only [WW, BB, ↓ab, ↓reduceIte, Int.reduceLT, Int.reduceNeg, Int.reduceLE, Int.reduceToNat, Nat.reduceLT, Nat.reduceEqDiff, Nat.reduceAdd, Nat.reduceMul, Nat.reduceSub, Nat.reduceLeDiff, Nat.reduceBEq]; refine hK _ _ ?_; clear hK) | (refine ae ?_; simp only [TH]; (((repeat ((fail_if_success refine hS _ _ ?_); clear hS)); refine hS _ _ ?_); clear hS; try clear hF)) | refine af fun K hS hF => ?_ | refine ac rfl ?_)
  refine aa rfl fun K hK => ⟨rfl, hK _ _ ?_⟩
  repeat (refine aa rfl fun K hK => ?_; simp (disch := omega) only [WW, BB, ↓ab, ↓reduceIte, Int.reduceLT, Int.reduceNeg, Int.reduceLE, Int.reduceToNat, Nat.reduceLT, Nat.reduceEqDiff, Nat.reduceAdd, Nat.reduceMul, Nat.reduceSub, Nat.reduceLeDiff, Nat.reduceBEq, bu127]; refine hK _ _ ?_; clear hK)
  refine aa rfl fun K hK => ⟨aY sq0 .nils 0, ?_, fun b hb => hK _ _ ?_⟩
  · simp (disch := omega) only [WW, BB, ↓ab, ↓reduceIte, Int.reduceLT, Int.reduceNeg, Int.reduceLE, Int.reduceToNat, Nat.reduceLT, Nat.reduceEqDiff, Nat.reduceAdd, Nat.reduceMul, Nat.reduceSub, Nat.reduceLeDiff, Nat.reduceBEq, aW]
  repeat (first
    | (refine aa rfl fun K hK => ?_; simp (disch := omega) only [WW, BB, ↓ab, ↓reduceIte, Int.reduceLT, Int.reduceNeg, Int.reduceLE, Int.reduceToNat, Nat.reduceLT, Nat.reduceEqDiff, Nat.reduceAdd, Nat.reduceMul, Nat.reduceSub, Nat.reduceLeDiff, Nat.reduceBEq]; refine hK _ _ ?_; clear hK) | (refine ae ?_; simp only [TH]; (((repeat ((fail_if_success refine hS _ _ ?_); clear hS)); refine hS _ _ ?_); clear hS; try clear hF)) | (refine al ?_; simp (disch := omega) only [TH, TE, WW, BB, ↓ab, ↓reduceIte, Int.reduceLT, Int.reduceNeg, Int.reduceLE, Int.reduceToNat, Nat.reduceLT, Nat.reduceEqDiff, Nat.reduceAdd, Nat.reduceMul, Nat.reduceSub, Nat.reduceLeDiff, Nat.reduceBEq]))
  exact ⟨_, rfl, [], _, aj _, hQ b hb⟩

theorem eqC_nR (k : IntKind) : ∀ (l m : List Nat), eqC (nR k l) (nR k m) = decide (l = m)
  | [], [] => rfl
  | [], _ :: _ => by simp [nR, eqC]
  | _ :: _, [] => by simp [nR, eqC]
  | x :: l, y :: m => by
    have h := eqC_nR k l m
    simp only [nR] at h
    simp only [nR, List.map_cons, eqC, h, cellEq, vN]
    by_cases hx : x = y
    · subst hx; simp
    · have : ¬ (x : Int) = y := by omega
      simp [hx, this]

theorem mapM_isSome {α β : Type} (f : α → Option β) : ∀ (L : List α), (∀ i ∈ L, (f i).isSome = true) → (L.mapM f).isSome = true
  | [], _ => rfl
  | a :: L, h => by
    obtain ⟨x, hx⟩ := Option.isSome_iff_exists.1 (h a (by simp))
    obtain ⟨y, hy⟩ := Option.isSome_iff_exists.1 (mapM_isSome f L (fun i hi => h i (by simp [hi])))
    simp [List.mapM_cons, hx, hy]

theorem toVals_nR (k : IntKind) : ∀ l : List Nat, bK (nR k l) = some (l.map fun x : Nat => Value.int k x)
  | [] => rfl
  | x :: l => by
    have h := toVals_nR k l
    simp only [nR] at h
    simp only [nR, List.map_cons, bK, h, toVal, vN]

/-- Arrays of numbers may be held against each other. -/
theorem lits_nR {P : Program} {t e : TypeId} {n : Nat} {k : IntKind} (ht : P.underlying t = some (.array n e)) (he : P.underlying e = some (.int k)) (hct : P.cellsOf t = n) (hce : P.cellsOf e = 1) {l : List Nat} (hl : l.length = n)
    (hw : ∀ x ∈ l, (Lit.int k (x : Nat)).wf = true) : (litsV P t (nR k l)).isSome = true := by
  simp only [litsV, toVals_nR, Option.bind_some]
  unfold Program.keyLits
  simp only [ht]
  rw [if_pos (by simp [hct, hl]), Option.isSome_map]
  refine mapM_isSome _ _ fun i hi => ?_
  have hi' : i < l.length := by rw [hl]; simpa using hi
  rw [hce, Nat.mul_one]
  have hd : ((l.map fun x : Nat => Value.int k x).drop i).take 1 = [Value.int k (l[i] : Nat)] := by
    rw [List.drop_eq_getElem_cons (by simpa using hi'), List.take_succ_cons, List.take_zero, List.getElem_map]
  rw [hd]
  unfold Program.keyLits
  simp only [he]
  rw [if_pos ⟨trivial, hw _ (List.getElem_mem hi')⟩]
  rfl

def lt32 (l : List Nat) : Prop := ∀ x ∈ l, x < 4294967296
def lt8 (l : List Nat) : Prop := ∀ x ∈ l, x < 256

theorem ag124 : aggEqT Try.prog 124 = true := by kernel_rfl
theorem un124 : Try.prog.underlying 124 = some (.array 8 44) := by kernel_rfl
theorem un44 : Try.prog.underlying 44 = some (.int .u32) := by kernel_rfl
theorem co124 : Try.prog.cellsOf 124 = 8 := by kernel_rfl
theorem co44 : Try.prog.cellsOf 44 = 1 := by kernel_rfl
theorem li124 (st : List Nat) (h : st.length = 8) (hb : lt32 st) : (litsV Try.prog 124 (nR .u32 st)).isSome = true :=
  lits_nR un124 un44 co124 co44 h fun x hx => by
    have := hb x hx
    simp only [Lit.wf, IntKind.min, IntKind.max, IntKind.signed, IntKind.bits]
    simp
    omega
theorem bu124 : bH Try.prog 124 [] = some (.agg (nR .u32 (List.replicate 8 0))) := by kernel_rfl
theorem nk111 : nkT Try.prog 111 = some .p := by kernel_rfl

theorem eq124 {st : List Nat} (h : st.length = 8) (hb : lt32 st) : aI Try.prog .eql 124 (.agg (nR .u32 st)) (.agg (nR .u32 (List.replicate 8 0))) = some (.bool (decide (st = List.replicate 8 0))) := by
  simp only [aI, ag124, li124 st h hb, li124 (List.replicate 8 0) rfl (fun x hx => by rw [List.eq_of_mem_replicate hx]; omega), and_self, if_true, eqC_nR, eqop]

theorem fl127_0 : fldT Try.prog 127 0 = some (0, 124) := by kernel_rfl
theorem fl127_1 : fldT Try.prog 127 1 = some (8, 64) := by kernel_rfl
theorem fl127_2 : fldT Try.prog 127 2 = some (9, 91) := by kernel_rfl

def s81 : Spec := fun _ args H Q => ∃ b st rest many, args = [.ptr b 0] ∧ H b = some (.row (aY st rest many)) ∧ st.length = 8 ∧ lt32 st ∧ Q (.bool (decide (st = List.replicate 8 0))) H

theorem sum_state {H : Hp} {b : Nat} {st : List Nat} {rest : V} {many : Nat} (hb : H b = some (.row (aY st rest many))) (h8 : st.length = 8) : ((aK H (.ptr b 0)).bind fun x => ldc (tyT Try.prog 124) x.1 x.2) = some (.agg (nR .u32 st)) := by
  simp only [aK, hb, Option.bind_some, ty124, ldc]
  rw [if_pos (by rw [sumR_len h8]; omega), List.drop_zero, aY, List.take_append_of_le_length (by rw [ar, h8]; omega), List.take_of_length_le (by rw [ar, h8]; omega)]

theorem snd81 : Sound Try.prog 81 s81 := by
  refine ak pm (ap [] (by simp)) [] Try.func81 rfl (by kernel_rfl) ?_
  rintro Y args H Q ⟨b, st, rest, many, rfl, hb, h8, hl32, hQ⟩
  refine ⟨by simp [Try.f81], ?_⟩
  show wpC Try.prog (tab []) Y [] 13 _ true (aB Try.prog [.tmp 2] Q) _ H
  have hl := sum_state hb h8
  repeat (first
    | (refine aa rfl fun K hK => ?_; simp (disch := omega) only [WW, BB, ↓ab, ↓reduceIte, Int.reduceLT, Int.reduceNeg, Int.reduceLE, Int.reduceToNat, Nat.reduceLT, Nat.reduceEqDiff, Nat.reduceAdd, Nat.reduceMul, Nat.reduceSub, Nat.reduceLeDiff, Nat.reduceBEq]; refine hK _ _ ?_; clear hK) | (refine ae ?_; simp only [TH]; (((repeat ((fail_if_success refine hS _ _ ?_); clear hS)); refine hS _ _ ?_); clear hS; try clear hF)) | refine af fun K hS hF => ?_ | refine ac rfl ?_)
  refine aa rfl fun K hK => ⟨.bool false, ?_, hK _ _ ?_⟩
  · simp (disch := omega) only [WW, BB, ↓ab, ↓reduceIte, Int.reduceLT, Int.reduceNeg, Int.reduceLE, Int.reduceToNat, Nat.reduceLT, Nat.reduceEqDiff, Nat.reduceAdd, Nat.reduceMul, Nat.reduceSub, Nat.reduceLeDiff, Nat.reduceBEq, aI, nk111, nkV, isNil, nilq, eqop]
    rfl
  repeat (first
    | (refine aa rfl fun K hK => ?_; simp (disch := omega) only [WW, BB, ↓ab, ↓reduceIte, Int.reduceLT, Int.reduceNeg, Int.reduceLE, Int.reduceToNat, Nat.reduceLT, Nat.reduceEqDiff, Nat.reduceAdd, Nat.reduceMul, Nat.reduceSub, Nat.reduceLeDiff, Nat.reduceBEq, fl127_0, bp, hl, bu124, wpBin_A, eq124 h8 hl32]; refine hK _ _ ?_; clear hK) | (refine ae ?_; simp only [TH]; (((repeat ((fail_if_success refine hS _ _ ?_); clear hS)); refine hS _ _ ?_); clear hS; try clear hF)) | (refine al ?_; simp (disch := omega) only [TH, TE, WW, BB, ↓ab, ↓reduceIte, Int.reduceLT, Int.reduceNeg, Int.reduceLE, Int.reduceToNat, Nat.reduceLT, Nat.reduceEqDiff, Nat.reduceAdd, Nat.reduceMul, Nat.reduceSub, Nat.reduceLeDiff, Nat.reduceBEq, fl127_0, bp, hl, bu124, wpBin_A, eq124 h8 hl32]))
  exact ⟨_, rfl, [], _, aj _, hQ⟩

/-! ### slices.Clone of bytes -/
theorem nk64 : nkT Try.prog 64 = some .s := by kernel_rfl
theorem isS64 : isSliT Try.prog 64 = true := by kernel_rfl

/-- Anew, owned; or by value. -/
def s82 : Spec := fun _ args H Q => ∃ x bs, args = [x] ∧ ao H 1 x = some (nE .u8 bs) ∧ bs.length ≤ 140737488355328 ∧
  ((bs = [] → ∀ v, v = .nils ∨ v = .sl 1 [] true → Q v H) ∧ (bs ≠ [] → ∀ b, H b = none → Q (.osl b 0 bs.length 1 false) (upd H b (some (.arr 1 (nE .u8 bs))))) ∨ (∀ v, isB v bs → Q v H))

theorem nk64_nils {Q : V → Hp → Prop} {H : Hp} {x : V} {es : List (List V)} (hv : ao H 1 x = some es) (h1 : es = [] → Q (.bool true) H) (h2 : Q (.bool false) H) : wpBin Try.prog H .eql 64 x .nils Q := by
  unfold ao at hv
  split at hv
  · cases hv
    exact ⟨.bool true, by simp [aI, nk64, nkV, isNil, nilq, eqop], h1 rfl⟩
  · rename_i sz es' full
    split at hv
    · cases hv
      cases es with
      | nil => exact ⟨isS64, .bool true, .bool false, rfl, rfl, h1 rfl, h2⟩
      | cons e es => exact ⟨.bool false, by simp [aI, nk64, nkV, isNil, nilq, eqop], h2⟩
    · cases hv
  · exact ⟨.bool false, by simp [aI, nk64, nkV, isNil, nilq, eqop], h2⟩
  · exact ⟨.bool false, by simp [aI, nk64, nkV, isNil, nilq, eqop], h2⟩
  · cases hv

theorem bs64 {S : Nat → Spec} {Y : aC} {H : Hp} {t : T} {Q : V → Hp → Prop} (h : Q (.sl 1 [] true) H) : wpOp Try.prog S Y false H (evT t) (.buildSlice 64 0 #[]) Q := ⟨1, [], [], by kernel_rfl, by omega, rfl, h⟩

theorem freeze_end {k : IntKind} {bs : List Nat} {b : Nat} {full : Bool} {H : Hp} {Q : V → Hp → Prop} (hb : H b = none) (hQ : Q (.sl 1 (nE k bs) full) H) : sealA [b] (.osl b 0 bs.length 1 full) (upd H b (some (.arr 1 (nE k bs)))) Q := by
  refine ⟨_, ag _ _ _, rfl, H, ?_, ?_⟩
  · rw [aD]
    exact ai (aj H) hb
  · simp only [subV, if_true, az, Nat.zero_add, Nat.le_refl, and_self, List.drop_zero]
    rw [List.take_of_length_le (by rw [az]; omega)]
    exact hQ

theorem snd82 : Sound Try.prog 82 s82 := by
  refine ak pm (ap [] (by simp)) [] Try.func82 rfl (by kernel_rfl) ?_
  rintro Y args H Q ⟨x, bs, rfl, hv, hle, hQ⟩
  refine ⟨by simp [Try.f82], ?_⟩
  show wpC Try.prog (tab []) Y [] 8 _ true (aB Try.prog [.tmp 2] Q) _ H
  have he : bs = [] → ∀ v, v = .nils ∨ v = .sl 1 [] true → Q v H := fun e => by
    subst e
    rcases hQ with h | h
    · exact h.1 rfl
    · exact fun v hv => h v (hv.imp (fun e => ⟨e, rfl⟩) (fun e => ⟨true, e⟩))
  repeat (first
    | (refine aa rfl fun K hK => ?_; simp (disch := omega) only [WW, BB, ↓ab, ↓reduceIte, Int.reduceLT, Int.reduceNeg, Int.reduceLE, Int.reduceToNat, Nat.reduceLT, Nat.reduceEqDiff, Nat.reduceAdd, Nat.reduceMul, Nat.reduceSub, Nat.reduceLeDiff, Nat.reduceBEq]; refine hK _ _ ?_; clear hK) | (refine ae ?_; simp only [TH]; (((repeat ((fail_if_success refine hS _ _ ?_); clear hS)); refine hS _ _ ?_); clear hS; try clear hF)) | refine af fun K hS hF => ?_ | refine ac rfl ?_)
  refine aa rfl fun K hK => nk64_nils (x := x) hv (fun hn => hK _ _ ?_) (hK _ _ ?_)
  · repeat (refine ae ?_; simp only [TH]; (((repeat ((fail_if_success refine hS _ _ ?_); clear hS)); refine hS _ _ ?_); clear hS; try clear hF))
    refine aS rfl ?_
    repeat (first
    | (refine aa rfl fun K hK => ?_; simp (disch := omega) only [WW, BB, ↓ab, ↓reduceIte, Int.reduceLT, Int.reduceNeg, Int.reduceLE, Int.reduceToNat, Nat.reduceLT, Nat.reduceEqDiff, Nat.reduceAdd, Nat.reduceMul, Nat.reduceSub, Nat.reduceLeDiff, Nat.reduceBEq]; refine hK _ _ ?_; clear hK) | (refine ae ?_; simp only [TH]; (((repeat ((fail_if_success refine hS _ _ ?_); clear hS)); refine hS _ _ ?_); clear hS; try clear hF)) | refine af fun K hS hF => ?_ | refine ac rfl ?_ | (refine al ?_; simp (disch := omega) only [TH, TE, WW, BB, ↓ab, ↓reduceIte, Int.reduceLT, Int.reduceNeg, Int.reduceLE, Int.reduceToNat, Nat.reduceLT, Nat.reduceEqDiff, Nat.reduceAdd, Nat.reduceMul, Nat.reduceSub, Nat.reduceLeDiff, Nat.reduceBEq]))
    have hn' : bs = [] := by
      have := congrArg List.length hn
      rw [az] at this
      exact List.eq_nil_of_length_eq_zero this
    exact ⟨_, rfl, [], H, aj H, he hn' _ (.inl rfl)⟩
  · repeat (refine ae ?_; simp only [TH]; (((repeat ((fail_if_success refine hS _ _ ?_); clear hS)); refine hS _ _ ?_); clear hS; try clear hF))
    refine aE rfl ?_
    (refine am ?_; simp only [TH]; ((repeat ((fail_if_success refine hS _ _ ?_); clear hS)); refine hS _ _ ?_); clear hS; try clear hF)
    repeat (first
    | refine af fun K hS hF => ?_ | refine ac rfl ?_)
    refine aa rfl fun K hK => bs64 (hK _ _ ?_)
    repeat (refine aa rfl fun K hK => ?_; simp (disch := omega) only [WW, BB, ↓ab, ↓reduceIte, Int.reduceLT, Int.reduceNeg, Int.reduceLE, Int.reduceToNat, Nat.reduceLT, Nat.reduceEqDiff, Nat.reduceAdd, Nat.reduceMul, Nat.reduceSub, Nat.reduceLeDiff, Nat.reduceBEq]; refine hK _ _ ?_; clear hK)
    refine aa rfl fun K hK => ?_
    simp (disch := omega) only [WW, BB, ↓ab, ↓reduceIte, Int.reduceLT, Int.reduceNeg, Int.reduceLE, Int.reduceToNat, Nat.reduceLT, Nat.reduceEqDiff, Nat.reduceAdd, Nat.reduceMul, Nat.reduceSub, Nat.reduceLeDiff, Nat.reduceBEq, bU]
    refine append_new (x := x) (.inr rfl) ds64 sl64 hv (nE_ones _ _) (by rw [by64, az]; omega) (by rw [az]; omega) (fun hn => hK _ _ ?_) (fun hn b hb => hK _ _ ?_)
    · repeat (first
    | (refine aa rfl fun K hK => ?_; simp (disch := omega) only [WW, BB, ↓ab, ↓reduceIte, Int.reduceLT, Int.reduceNeg, Int.reduceLE, Int.reduceToNat, Nat.reduceLT, Nat.reduceEqDiff, Nat.reduceAdd, Nat.reduceMul, Nat.reduceSub, Nat.reduceLeDiff, Nat.reduceBEq]; refine hK _ _ ?_; clear hK) | (refine ae ?_; simp only [TH]; (((repeat ((fail_if_success refine hS _ _ ?_); clear hS)); refine hS _ _ ?_); clear hS; try clear hF)) | (refine al ?_; simp (disch := omega) only [TH, TE, WW, BB, ↓ab, ↓reduceIte, Int.reduceLT, Int.reduceNeg, Int.reduceLE, Int.reduceToNat, Nat.reduceLT, Nat.reduceEqDiff, Nat.reduceAdd, Nat.reduceMul, Nat.reduceSub, Nat.reduceLeDiff, Nat.reduceBEq]))
      have hn' : bs = [] := by
        have := congrArg List.length hn
        rw [az] at this
        exact List.eq_nil_of_length_eq_zero this
      exact ⟨_, rfl, [], H, aj H, he hn' _ (.inr rfl)⟩
    · repeat (first
    | (refine aa rfl fun K hK => ?_; simp (disch := omega) only [WW, BB, ↓ab, ↓reduceIte, Int.reduceLT, Int.reduceNeg, Int.reduceLE, Int.reduceToNat, Nat.reduceLT, Nat.reduceEqDiff, Nat.reduceAdd, Nat.reduceMul, Nat.reduceSub, Nat.reduceLeDiff, Nat.reduceBEq]; refine hK _ _ ?_; clear hK) | (refine ae ?_; simp only [TH]; (((repeat ((fail_if_success refine hS _ _ ?_); clear hS)); refine hS _ _ ?_); clear hS; try clear hF)) | (refine al ?_; simp (disch := omega) only [TH, TE, WW, BB, ↓ab, ↓reduceIte, Int.reduceLT, Int.reduceNeg, Int.reduceLE, Int.reduceToNat, Nat.reduceLT, Nat.reduceEqDiff, Nat.reduceAdd, Nat.reduceMul, Nat.reduceSub, Nat.reduceLeDiff, Nat.reduceBEq]))
      have hne : bs ≠ [] := fun e => hn (by subst e; rfl)
      rw [az]
      rcases hQ with h | h
      · exact ⟨_, rfl, [], _, aj _, h.2 hne b hb⟩
      · exact ⟨_, rfl, [b], freeze_end hb (h _ (.inr ⟨false, rfl⟩))⟩
end Go.Av

set_option linter.unusedSimpArgs false
set_option linter.unusedVariables false
namespace Go.Av
open Go.RowKit Go.Proofs

theorem Wk.isB {v : V} {bs : List Nat} (h : isB v bs) : Wk v (.sl 1 (nE .u8 bs) false) := by
  rcases h with ⟨rfl, rfl⟩ | ⟨full, rfl⟩
  · exact Wk.nils
  · exact Wk.sl

def s82v : Spec := fun _ args H Q => ∃ x bs, args = [x] ∧ ao H 1 x = some (nE .u8 bs) ∧ bs.length ≤ 140737488355328 ∧ Q (.sl 1 (nE .u8 bs) false) H
theorem snd82v : Sound Try.prog 82 s82v := snd82.wk fun Y args H Q ⟨x, bs, h1, h2, h3, h4⟩ =>
  ⟨fun v H' => isB v bs ∧ H' = H, ⟨x, bs, h1, h2, h3, .inr fun v hv => ⟨hv, rfl⟩⟩, fun v H' ⟨hB, e⟩ => ⟨_, Wk.isB hB, e ▸ h4⟩⟩
end Go.Av

set_option linter.unusedSimpArgs false
set_option linter.unusedVariables false
namespace Go.Av
open Go.RowKit Go.Proofs

theorem sumR_ones {st : List Nat} {rest : V} {many : Nat} (h : one rest = true) : (aY st rest many).all one = true := by
  simp only [aY, List.all_append, bk, List.all_cons, h, vN_one, List.all_nil, Bool.and_self]
theorem sumR_rest {st : List Nat} (h : st.length = 8) (rest : V) (many : Nat) : (aY st rest many)[8]? = some rest := by
  simp only [aY]
  rw [List.getElem?_append_right (by rw [ar, h]; omega), ar, h]
  rfl
theorem sumR_many {st : List Nat} (h : st.length = 8) (rest : V) (many : Nat) : (aY st rest many)[9]? = some (vN .u64 many) := by
  simp only [aY]
  rw [List.getElem?_append_right (by rw [ar, h]; omega), ar, h]
  rfl
theorem sumR_set8 {st : List Nat} (h : st.length = 8) (rest rest' : V) (many : Nat) : (aY st rest many).set 8 rest' = aY st rest' many := by
  simp only [aY]
  rw [List.set_append_right _ _ (by rw [ar, h]; omega), ar, h]
  rfl
theorem sumR_set9 {st : List Nat} (h : st.length = 8) (rest : V) (many m : Nat) : (aY st rest many).set 9 (vN .u64 m) = aY st rest m := by
  simp only [aY]
  rw [List.set_append_right _ _ (by rw [ar, h]; omega), ar, h]
  rfl
theorem sumR_get {st : List Nat} (h : st.length = 8) (rest : V) (many : Nat) {i : Nat} (hi : i < 8) : (aY st rest many)[i]? = some (vN .u32 (st.getD i 0)) := by
  simp only [aY]
  rw [List.getElem?_append_left (by rw [ar, h]; omega), nR_get _ _ _ (by omega)]
theorem sumR_set {st : List Nat} (h : st.length = 8) (rest : V) (many : Nat) {i : Nat} (hi : i < 8) (x : Nat) : (aY st rest many).set i (vN .u32 x) = aY (st.set i x) rest many := by
  simp only [aY]
  rw [List.set_append_left _ _ (by rw [ar, h]; omega), nR_set]

theorem z127 : zeroT Try.prog 127 = some (aY (List.replicate 8 0) .nils 0) := by kernel_rfl

def s85 : Spec := fun _ args H Q => ∃ b st rest bs many, args = [.ptr b 0] ∧ H b = some (.row (aY st rest many)) ∧ st.length = 8 ∧ lt32 st ∧ isB rest bs ∧ bs.length ≤ 140737488355328 ∧
  (st = List.replicate 8 0 → Q .nilp H) ∧ (st ≠ List.replicate 8 0 → ∀ c rest', H c = none → isB rest' bs → Q (.ptr c 0) (upd H c (some (.row (aY st rest' many)))))

theorem snd85 : Sound Try.prog 85 s85 := by
  refine ak pm (ap [(81, s81), (82, s82)] (by simp [snd81, snd82])) [] Try.func85 rfl (by kernel_rfl) ?_
  rintro Y args H Q ⟨b, st, rest, bs, many, rfl, hb, h8, hl32, hB, hle, hz, hQ⟩
  refine ⟨by simp [Try.f85], ?_⟩
  show wpC Try.prog (tab [(81, s81), (82, s82)]) Y [] 15 _ true (aB Try.prog [.tmp 2] Q) _ H
  repeat (first
    | (refine aa rfl fun K hK => ?_; simp (disch := omega) only [WW, BB, ↓ab, simprocAttr]; refine hK _ _ ?_; clear hK) | (refine ae ?_; simp only [TH]; (((repeat ((fail_if_success refine hS _ _ ?_); clear hS)); refine hS _ _ ?_); clear hS; try clear hF)) | refine af fun K hS hF => ?_ | refine ac rfl ?_)
  refine aa rfl fun K hK => ⟨b, st, rest, many, rfl, hb, h8, hl32, hK _ _ ?_⟩
  repeat (refine ae ?_; simp only [TH]; (((repeat ((fail_if_success refine hS _ _ ?_); clear hS)); refine hS _ _ ?_); clear hS; try clear hF))
  refine aH rfl (fun hd => ?_) (fun hd => ?_)
  · repeat (first
    | (refine aa rfl fun K hK => ?_; simp (disch := omega) only [WW, BB, ↓ab, simprocAttr]; refine hK _ _ ?_; clear hK) | (refine ae ?_; simp only [TH]; (((repeat ((fail_if_success refine hS _ _ ?_); clear hS)); refine hS _ _ ?_); clear hS; try clear hF)) | refine af fun K hS hF => ?_ | refine ac rfl ?_ | (refine al ?_; simp (disch := omega) only [TH, TE, WW, BB, ↓ab, simprocAttr]))
    exact ⟨_, rfl, [], _, aj _, hz hd⟩
  · (refine am ?_; simp only [TH]; ((repeat ((fail_if_success refine hS _ _ ?_); clear hS)); refine hS _ _ ?_); clear hS; try clear hF)
    repeat (first
    | (refine aa rfl fun K hK => ?_; simp (disch := omega) only [WW, BB, ↓ab, simprocAttr, aJ hb ty127 (sumR_len h8 rest many)]; refine hK _ _ ?_; clear hK) | refine af fun K hS hF => ?_ | refine ac rfl ?_)
    refine aa rfl fun K hK => ⟨_, z127, fun c hc => hK _ _ ?_⟩
    have hne : ¬ b = c := aA hb hc
    refine aa rfl fun K hK => ⟨_, au (ag _ _ _) ty127 (sumR_len h8 rest many) (sumR_ones (isB_one hB).1) rfl, hK _ _ ?_⟩
    rw [aD]
    have hb' : upd H c (some (.row (aY st rest many))) b = some (.row (aY st rest many)) := by rw [ah _ _ _ hne]; exact hb
    repeat (first
    | (refine aa rfl fun K hK => ?_; simp (disch := omega) only [WW, BB, ↓ab, simprocAttr, fl127_1, bp, aw hb' ty64 (sumR_rest h8 rest many)]; refine hK _ _ ?_; clear hK) | (refine ae ?_; simp only [TH]; (((repeat ((fail_if_success refine hS _ _ ?_); clear hS)); refine hS _ _ ?_); clear hS; try clear hF)) | refine af fun K hS hF => ?_ | refine ac rfl ?_)
    refine aa rfl fun K hK => ⟨_, bs, rfl, isB_view hB _, hle, .inr fun rest' hB' => hK _ _ ?_⟩
    repeat (refine aa rfl fun K hK => ?_; simp (disch := omega) only [WW, BB, ↓ab, simprocAttr, fl127_1, bp]; refine hK _ _ ?_; clear hK)
    refine aa rfl fun K hK => ⟨_, aT (off := 8) (ag _ _ _) ty64 (isB_one hB').2 (isB_one hB').1 (by rw [sumR_len h8]; omega), hK _ _ ?_⟩
    rw [aD, sumR_set8 h8]
    repeat (first
    | (refine aa rfl fun K hK => ?_; simp (disch := omega) only [WW, BB, ↓ab, simprocAttr]; refine hK _ _ ?_; clear hK) | (refine ae ?_; simp only [TH]; (((repeat ((fail_if_success refine hS _ _ ?_); clear hS)); refine hS _ _ ?_); clear hS; try clear hF)) | refine af fun K hS hF => ?_ | refine ac rfl ?_ | (refine al ?_; simp (disch := omega) only [TH, TE, WW, BB, ↓ab, simprocAttr]))
    exact ⟨_, rfl, [], _, aj _, hQ hd c rest' hc hB'⟩
end Go.Av

set_option linter.unusedSimpArgs false
set_option linter.unusedVariables false
namespace Go.Av
open Go.RowKit Go.Proofs

theorem view_one {H : Hp} {sz : Nat} {v : V} {es : List (List V)} (h : ao H sz v = some es) : one v = true ∧ aW v = some [v] := by
  cases v <;> simp only [ao, reduceCtorEq] at h <;> exact ⟨rfl, rfl⟩

def blkS (Y : aC) (l b : Nat) (G : Hp) (Qe : Hp → Prop) : Nat → List Nat → V → Hp → Prop
  | 0, _, _, _ => False
  | f + 1, bs, v, H => H b = some (.row [v]) ∧ bs.length < 4611686018427387904 ∧
    (64 ≤ bs.length → ∀ part, ao G 1 part = some (nE .u8 (bs.take 64)) → ∃ Q₁ : V → Hp → Prop, Y l [.bool true, part] H Q₁ ∧ ∀ r H', Q₁ r H' →
      (r = .bool false ∧ Qe H') ∨ (r = .bool true ∧ H' b = some (.row [v]) ∧ ∀ v', ao G 1 v' = some (nE .u8 (bs.drop 64)) → blkS Y l b G Qe f (bs.drop 64) v' (upd H' b (some (.row [v']))))) ∧
    (¬ 64 ≤ bs.length → ∀ part, ao G 1 part = some (nE .u8 bs) → ∃ Q₁ : V → Hp → Prop, Y l [.bool false, part] H Q₁ ∧ ∀ r H', Q₁ r H' → Qe H')

def s99 : Spec := fun Y args H Q => ∃ l b v bs f G, args = [.fn (.yield l) [] [], .ptr b 0] ∧ ao G 1 v = some (nE .u8 bs) ∧ blkS Y l b G (fun H' => Q (.tup []) H') f bs v H

theorem snd99 : Sound Try.prog 99 s99 := by
  refine ak pm (ap [] (by simp)) [] Try.func99 rfl (by kernel_rfl) ?_
  rintro Y args H Q ⟨l, b, v, bs, f, G, rfl, hv0, hb⟩
  refine ⟨by simp [Try.f99], ?_⟩
  show wpC Try.prog (tab []) Y [] 16 _ true (aB Try.prog [] Q) _ H
  repeat (first
    | refine af fun K hS hF => ?_ | refine ax ?_)
  refine aO (fun m t H' => ∃ v bs, t 0 = .fn (.yield l) [] [] ∧ t 1 = .ptr b 0 ∧ ao G 1 v = some (nE .u8 bs) ∧ blkS Y l b G (fun H' => Q (.tup []) H') m bs v H') f ⟨v, bs, rfl, rfl, hv0, hb⟩ fun KL m t H' hI hKL => ?_
  clear hb hv0
  obtain ⟨v, bs, h0, h1, hv, hI⟩ := hI
  cases m with
  | zero => exact hI.elim
  | succ f =>
    obtain ⟨hb, hlen, hI1, hI2⟩ := hI
    have hly := av sl64 hv
    rw [az] at hly
    have hld := aw (off := 0) hb ty64 rfl
    repeat (first
    | (refine aa rfl fun K hK => ?_; simp (disch := omega) only [WW, BB, ↓ab, simprocAttr, h0, h1, hld, hly, bU, builtinV]; refine hK _ _ ?_; clear hK) | (refine ae ?_; simp only [TH]; (((repeat ((fail_if_success refine hS _ _ ?_); clear hS)); refine hS _ _ ?_); clear hS; try clear hF)) | refine af fun K hS hF => ?_ | refine ac rfl ?_)
    refine aH rfl (fun hd => ?_) (fun hd => ?_)
    · (refine am ?_; simp only [TH]; ((repeat ((fail_if_success refine hS _ _ ?_); clear hS)); refine hS _ _ ?_); clear hS; try clear hF)
      obtain ⟨y, hy, hvy⟩ := slice_view (lo := none) (hi := some (vN .i64 64)) ar64 sl64 hv (bnd_N 64 (by rw [az]; omega)) rfl (by omega) (by rw [az]; omega)
      rw [List.drop_zero, nE_take] at hvy
      obtain ⟨Q₁, hY, hQ₁⟩ := hI1 hd y hvy
      repeat (first
    | (refine aa rfl fun K hK => ?_; simp (disch := omega) only [WW, BB, ↓ab, simprocAttr, h0, h1, hld, hy, Option.map_none]; refine hK _ _ ?_; clear hK) | refine af fun K hS hF => ?_ | refine ac rfl ?_)
      refine aa rfl fun K hK => ?_
      simp (disch := omega) only [WW, BB, ↓ab, simprocAttr, h0]
      refine ⟨Q₁, hY, fun r H'' hq => hK _ _ ?_⟩
      rcases hQ₁ r H'' hq with ⟨rfl, hQe⟩ | ⟨rfl, hb', hnext⟩
      · repeat (first
    | (refine aa rfl fun K hK => ?_; simp (disch := omega) only [WW, BB, ↓ab, simprocAttr, unV_not, Bool.not_false]; refine hK _ _ ?_; clear hK) | (refine ae ?_; simp only [TH]; (((repeat ((fail_if_success refine hS _ _ ?_); clear hS)); refine hS _ _ ?_); clear hS; try clear hF)))
        refine aS rfl ?_
        repeat (refine al ?_; simp (disch := omega) only [TH, TE, WW, BB, ↓ab, simprocAttr])
        exact ⟨_, rfl, [], _, aj _, hQe⟩
      · repeat (first
    | (refine aa rfl fun K hK => ?_; simp (disch := omega) only [WW, BB, ↓ab, simprocAttr, unV_not, Bool.not_true]; refine hK _ _ ?_; clear hK) | (refine ae ?_; simp only [TH]; (((repeat ((fail_if_success refine hS _ _ ?_); clear hS)); refine hS _ _ ?_); clear hS; try clear hF)))
        refine aE rfl ?_
        (refine am ?_; simp only [TH]; ((repeat ((fail_if_success refine hS _ _ ?_); clear hS)); refine hS _ _ ?_); clear hS; try clear hF)
        obtain ⟨y', hy', hvy'⟩ := slice_view (lo := some (vN .i64 64)) (hi := none) ar64 sl64 hv (bnd_none _ _) (bnd_N 64 (by rw [az]; omega)) (by rw [az]; omega) (Nat.le_refl _)
        rw [List.take_of_length_le (Nat.le_refl _), nE_drop] at hvy'
        have hld' := aw (off := 0) hb' ty64 rfl
        repeat (first
    | (refine aa rfl fun K hK => ?_; simp (disch := omega) only [WW, BB, ↓ab, simprocAttr, h0, h1, hld', hy', Option.map_none]; refine hK _ _ ?_; clear hK) | refine ac rfl ?_)
        refine aa rfl fun K hK => ?_
        simp (disch := omega) only [WW, BB, ↓ab, simprocAttr, h1]
        refine ⟨_, aT (off := 0) (b := b) hb' ty64 (view_one hvy').2 (view_one hvy').1 (by simp), hK _ _ ?_⟩
        repeat (refine ae ?_; simp only [TH])
        refine hKL _ _ _ (Nat.lt_succ_self f) ⟨y', bs.drop 64, ?_, ?_, hvy', hnext y' hvy'⟩
        · simp (disch := omega) only [WW, BB, ↓ab, simprocAttr, h0]
        · simp (disch := omega) only [WW, BB, ↓ab, simprocAttr, h1]
    · (refine aG ?_; simp only [TH, ↓reduceIte, Nat.reduceEqDiff]; ((repeat ((fail_if_success refine hS _ _ ?_); clear hS)); refine hS _ _ ?_); clear hS; try clear hF)
      obtain ⟨Q₁, hY, hQ₁⟩ := hI2 hd v hv
      repeat (first
    | (refine aa rfl fun K hK => ?_; simp (disch := omega) only [WW, BB, ↓ab, simprocAttr, h0, h1, hld]; refine hK _ _ ?_; clear hK) | refine ac rfl ?_)
      refine aa rfl fun K hK => ?_
      simp (disch := omega) only [WW, BB, ↓ab, simprocAttr, h0]
      refine ⟨Q₁, hY, fun r H'' hq => hK _ _ ?_⟩
      have hQe := hQ₁ r H'' hq
      repeat (refine ae ?_; simp only [TH])
      exact ⟨_, rfl, [], _, aj _, hQe⟩
end Go.Av

set_option linter.unusedSimpArgs false
set_option linter.unusedVariables false
namespace Go.Av
open Go.RowKit Go.Proofs

/-- The words of a block, one more. -/
def sch (b w : List Nat) (i : Nat) : List Nat :=
  if i < 16 then w.set i (wordOf ((b.drop (i * 4)).take 4))
  else w.set i ((((w.getD (i - 16) 0 + w.getD (i - 7) 0) % 4294967296 + ((rotr (w.getD (i - 15) 0) 7 ^^^ rotr (w.getD (i - 15) 0) 18) % 4294967296 ^^^ w.getD (i - 15) 0 / 2 ^ min 3 32) % 4294967296) % 4294967296 +
    ((rotr (w.getD (i - 2) 0) 17 ^^^ rotr (w.getD (i - 2) 0) 19) % 4294967296 ^^^ w.getD (i - 2) 0 / 2 ^ min 10 32) % 4294967296) % 4294967296)
def schN (b : List Nat) (n : Nat) : List Nat := (List.range n).foldl (sch b) (List.replicate 64 0)

theorem sch_len (b w : List Nat) (i : Nat) : (sch b w i).length = w.length := by
  unfold sch; split <;> simp
theorem schN_succ (b : List Nat) (n : Nat) : schN b (n + 1) = sch b (schN b n) n := by simp [schN, List.range_succ]
theorem schN_len (b : List Nat) : ∀ n, (schN b n).length = 64
  | 0 => by simp [schN]
  | n + 1 => by rw [schN_succ, sch_len, schN_len b n]

theorem view_fresh {H : Hp} {sz : Nat} {v : V} {es : List (List V)} (h : ao H sz v = some es) {c : Nat} {z : Option Blk} (hc : H c = none) : ao (upd H c z) sz v = some es := by
  unfold ao at h ⊢
  split at h
  · exact h
  · exact h
  · split at h
    · rename_i hb
      rw [ah _ _ _ (aA hb hc), hb]
      exact h
    · cases h
  · split at h
    · rename_i hb
      rw [ah _ _ _ (aA hb hc), hb]
      exact h
    · cases h
  · cases h

theorem ix_row {b o n i : Nat} {k : IntKind} {t : TypeId} (ha : arrT Try.prog t = some (n, 1)) (hi : i < n) : bw Try.prog t (.ptr b o) (vN k i) = some (.ptr b (o + i * 1)) := by
  simp only [bw, ha, idxOf_N _ hi, Option.bind_some, bp]

def rOne (w v : List Nat) (i : Nat) : Nat :=
  ((((v.getD 7 0 + ((rotr (v.getD 4 0) 6 ^^^ rotr (v.getD 4 0) 11) % 4294967296 ^^^ rotr (v.getD 4 0) 25) % 4294967296) % 4294967296 + ((v.getD 4 0 &&& v.getD 5 0) % 4294967296 ^^^ ((4294967295 ^^^ v.getD 4 0) % 4294967296 &&& v.getD 6 0) % 4294967296) % 4294967296) % 4294967296 + cu0.getD i 0) % 4294967296 + w.getD i 0) % 4294967296
def rTwo (v : List Nat) : Nat :=
  (((rotr (v.getD 0 0) 2 ^^^ rotr (v.getD 0 0) 13) % 4294967296 ^^^ rotr (v.getD 0 0) 22) % 4294967296 + (((v.getD 0 0 &&& v.getD 1 0) % 4294967296 ^^^ (v.getD 0 0 &&& v.getD 2 0) % 4294967296) % 4294967296 ^^^ (v.getD 1 0 &&& v.getD 2 0) % 4294967296) % 4294967296) % 4294967296
def rnd (w v : List Nat) (i : Nat) : List Nat :=
  [(rOne w v i + rTwo v) % 4294967296, v.getD 0 0, v.getD 1 0, v.getD 2 0, (v.getD 3 0 + rOne w v i) % 4294967296, v.getD 4 0, v.getD 5 0, v.getD 6 0]
def rndN (w st : List Nat) (n : Nat) : List Nat := (List.range n).foldl (rnd w) st
theorem rndN_succ (w st : List Nat) (n : Nat) : rndN w st (n + 1) = rnd w (rndN w st n) n := by simp [rndN, List.range_succ]
theorem rndN_len (w st : List Nat) (h : st.length = 8) : ∀ n, (rndN w st n).length = 8
  | 0 => by simp [rndN, h]
  | n + 1 => by rw [rndN_succ]; rfl

theorem len8 : ∀ l : List Nat, l.length = 8 → ∃ a b c d e f g h, l = [a, b, c, d, e, f, g, h]
  | [a, b, c, d, e, f, g, h], _ => ⟨a, b, c, d, e, f, g, h, rfl⟩

theorem sl62 : sliT Try.prog 62 = some 1 := by kernel_rfl
theorem ds62 : dstT Try.prog 62 = some 1 := by kernel_rfl
theorem sa124_1 (d : Nat) : bf Try.prog 124 (.ptr d 0) (some (vN .i64 1)) none none = some (.rsl d 1 7 1) := by
  simp [bf, ar124, sliceArr, bnd, vN]
theorem sa124_7 (d : Nat) : bf Try.prog 124 (.ptr d 0) none (some (vN .i64 7)) none = some (.rsl d 0 7 1) := by
  simp [bf, ar124, sliceArr, bnd, vN]

theorem copy_rsl {P : Program} {H : Hp} {td ts : TypeId} {b off n sz : Nat} {x : V} {fs : List (List V)} {cells r : List V} {Q : V → Hp → Prop} (h1 : dstT P td = some sz) (h2 : srcV P H sz ts x = some fs) (h3 : bo fs = true) (hb : H b = some (.row cells))
    (hle : off + n * sz ≤ cells.length) (hr : br cells off (fs.take n).flatten = r) (hQ : Q (.int .i64 ((min fs.length n : Nat) : Int)) (upd H b (some (.row r)))) : wpCopy P H td ts (.rsl b off n sz) x Q := by
  refine ⟨sz, fs, h1, h2, h3, ?_⟩
  simp only [hb]
  exact ⟨trivial, hle, by rw [hr]; exact hQ⟩

def addN (st v : List Nat) (n : Nat) : List Nat := (List.range n).foldl (fun s i => s.set i ((s.getD i 0 + v.getD i 0) % 4294967296)) st
theorem addN_succ (st v : List Nat) (n : Nat) : addN st v (n + 1) = (addN st v n).set n (((addN st v n).getD n 0 + v.getD n 0) % 4294967296) := by simp [addN, List.range_succ]
theorem addN_len (st v : List Nat) : ∀ n, (addN st v n).length = st.length
  | 0 => rfl
  | n + 1 => by rw [addN_succ, List.length_set, addN_len st v n]

/-- The state, a block further. -/
def mixOf (st b : List Nat) : List Nat := addN st (rndN (schN b 64) st 64) 8

def s84 : Spec := fun _ args H Q => ∃ b st rest many part bs, args = [.ptr b 0, part] ∧ H b = some (.row (aY st rest many)) ∧ st.length = 8 ∧ ao H 1 part = some (nE .u8 bs) ∧ bs.length = 64 ∧ Q (.tup []) (upd H b (some (.row (aY (mixOf st bs) rest many))))


section
variable {Y : aC} {Q : Exit → T → Hp → Prop} {t : T} {HH : Hp} {b c d e i a0 a1 a2 a3 a4 a5 a6 a7 one two : Nat} {w : List Nat}

theorem r84_14 (q8 : t 8 = .ptr d 0) (q9 : t 9 = .ptr e 0) (q4 : t 4 = .ptr c 0) (q10 : t 10 = vN .i64 i) (q12 : t 12 = vN .u32 a4) (hi : i < 64) (hw : w.length = 64)
    (hHd : HH d = some (.row (nR .u32 [a0, a1, a2, a3, a4, a5, a6, a7]))) (hHe : HH e = some (.row (nR .u32 cu0))) (hHc : HH c = some (.row (nR .u32 w)))
    (hQ : ∀ t', t' 0 = t 0 → t' 4 = t 4 → t' 8 = t 8 → t' 9 = t 9 → t' 71 = t 71 → t' 11 = t 11 → t' 13 = vN .u32 (rOne w [a0, a1, a2, a3, a4, a5, a6, a7] i) → Q .normal t' HH) :
    wpC Try.prog (tab [(100, s100), (101, s101), (102, s102)]) Y [] 162 (regAt Try.f84 14) true Q t HH := by
  have hcu : (nR .u32 cu0)[i]? = some (vN .u32 (cu0.getD i 0)) := nR_get _ _ _ hi
  have hw' : (nR .u32 w)[i]? = some (vN .u32 (w.getD i 0)) := nR_get _ _ _ (by rw [hw]; exact hi)
  have g7 : (nR .u32 [a0, a1, a2, a3, a4, a5, a6, a7])[7]? = some (vN .u32 a7) := rfl
  have g5 : (nR .u32 [a0, a1, a2, a3, a4, a5, a6, a7])[5]? = some (vN .u32 a5) := rfl
  have g6 : (nR .u32 [a0, a1, a2, a3, a4, a5, a6, a7])[6]? = some (vN .u32 a6) := rfl
  refine bJ 29 (by kernel_rfl) rfl rfl ?_
  repeat (first
    | ((first | refine aa rfl fun K hK => ?_ | refine aQ rfl fun K hK => ?_); simp (disch := omega) only [WW, BB, ↓ab, simprocAttr, q8, q9, q4, q10, q12, ix_row ar124, ix_row ar146, aw hHd ty44 g7, aw hHd ty44 g5, aw hHd ty44 g6, aw hHe ty44 hcu, aw hHc ty44 hw']; (first | refine hK _ _ ?_ | refine ⟨_, ⟨rfl, by first | rfl | trivial⟩, hK _ ?_⟩ | refine ⟨_, ⟨_, _, rfl, by decide, by decide, rfl, by first | rfl | trivial⟩, hK _ ?_⟩); clear hK) | refine bx ?_ | (refine ae ?_; simp only [TH]))
  refine ae (hQ _ ?_ ?_ ?_ ?_ ?_ ?_ ?_)
  · simp (disch := omega) only [WW, BB, ↓ab, simprocAttr]
  · simp (disch := omega) only [WW, BB, ↓ab, simprocAttr]
  · simp (disch := omega) only [WW, BB, ↓ab, simprocAttr]
  · simp (disch := omega) only [WW, BB, ↓ab, simprocAttr]
  · simp (disch := omega) only [WW, BB, ↓ab, simprocAttr]
  · simp (disch := omega) only [WW, BB, ↓ab, simprocAttr]
  · simp (disch := omega) only [WW, BB, ↓ab, simprocAttr]
    rfl

theorem r84_15 (q8 : t 8 = .ptr d 0) (q11 : t 11 = vN .u32 a0) (hHd : HH d = some (.row (nR .u32 [a0, a1, a2, a3, a4, a5, a6, a7])))
    (hQ : ∀ t', t' 0 = t 0 → t' 4 = t 4 → t' 8 = t 8 → t' 9 = t 9 → t' 71 = t 71 → t' 13 = t 13 → t' 14 = vN .u32 (rTwo [a0, a1, a2, a3, a4, a5, a6, a7]) → Q .normal t' HH) :
    wpC Try.prog (tab [(100, s100), (101, s101), (102, s102)]) Y [] 162 (regAt Try.f84 15) true Q t HH := by
  have g1 : (nR .u32 [a0, a1, a2, a3, a4, a5, a6, a7])[1]? = some (vN .u32 a1) := rfl
  have g2 : (nR .u32 [a0, a1, a2, a3, a4, a5, a6, a7])[2]? = some (vN .u32 a2) := rfl
  refine bJ 23 (by kernel_rfl) rfl rfl ?_
  repeat (first
    | ((first | refine aa rfl fun K hK => ?_ | refine aQ rfl fun K hK => ?_); simp (disch := omega) only [WW, BB, ↓ab, simprocAttr, q8, q11, ix_row ar124, aw hHd ty44 g1, aw hHd ty44 g2]; (first | refine hK _ _ ?_ | refine ⟨_, ⟨rfl, by first | rfl | trivial⟩, hK _ ?_⟩ | refine ⟨_, ⟨_, _, rfl, by decide, by decide, rfl, by first | rfl | trivial⟩, hK _ ?_⟩); clear hK) | refine bx ?_ | (refine ae ?_; simp only [TH]))
  refine ae (hQ _ ?_ ?_ ?_ ?_ ?_ ?_ ?_)
  · simp (disch := omega) only [WW, BB, ↓ab, simprocAttr]
  · simp (disch := omega) only [WW, BB, ↓ab, simprocAttr]
  · simp (disch := omega) only [WW, BB, ↓ab, simprocAttr]
  · simp (disch := omega) only [WW, BB, ↓ab, simprocAttr]
  · simp (disch := omega) only [WW, BB, ↓ab, simprocAttr]
  · simp (disch := omega) only [WW, BB, ↓ab, simprocAttr]
  · simp (disch := omega) only [WW, BB, ↓ab, simprocAttr]
    rfl

theorem r84_16 (q8 : t 8 = .ptr d 0) (hHd : HH d = some (.row (nR .u32 [a0, a1, a2, a3, a4, a5, a6, a7])))
    (hQ : ∀ t', t' 0 = t 0 → t' 4 = t 4 → t' 8 = t 8 → t' 9 = t 9 → t' 71 = t 71 → t' 13 = t 13 → t' 14 = t 14 → Q .normal t' (upd HH d (some (.row (nR .u32 [a0, a0, a1, a2, a3, a4, a5, a6]))))) :
    wpC Try.prog (tab [(100, s100), (101, s101), (102, s102)]) Y [] 162 (regAt Try.f84 16) true Q t HH := by
  refine bJ 2 (by kernel_rfl) rfl rfl ?_
  repeat (first
    | ((first | refine aa rfl fun K hK => ?_ | refine aQ rfl fun K hK => ?_); simp (disch := omega) only [WW, BB, ↓ab, simprocAttr, q8, sa124_1, sa124_7]; refine ⟨_, ⟨rfl, by first | rfl | trivial⟩, hK _ ?_⟩; clear hK) | refine bx ?_)
  refine aa rfl fun K hK => ?_
  simp (disch := omega) only [WW, BB, ↓ab, simprocAttr]
  refine copy_rsl (fs := nE .u32 [a0, a1, a2, a3, a4, a5, a6]) ds62 (srcV_view sl62 ?_) rfl hHd (Nat.le_refl 8) (r := nR .u32 [a0, a0, a1, a2, a3, a4, a5, a6]) rfl (hK _ _ ?_)
  · simp only [ao, hHd]
    rfl
  refine ae (hQ _ ?_ ?_ ?_ ?_ ?_ ?_ ?_)
  all_goals simp (disch := omega) only [WW, BB, ↓ab, simprocAttr]

theorem r84_17 (q8 : t 8 = .ptr d 0) (q13 : t 13 = vN .u32 one) (q14 : t 14 = vN .u32 two) (hHd : HH d = some (.row (nR .u32 [a0, a1, a2, a3, a4, a5, a6, a7])))
    (hQ : ∀ t', t' 0 = t 0 → t' 4 = t 4 → t' 8 = t 8 → t' 9 = t 9 → t' 71 = t 71 → t' 13 = t 13 → Q .normal t' (upd HH d (some (.row (nR .u32 [(one + two) % 4294967296, a1, a2, a3, a4, a5, a6, a7]))))) :
    wpC Try.prog (tab [(100, s100), (101, s101), (102, s102)]) Y [] 162 (regAt Try.f84 17) true Q t HH := by
  refine ac rfl ?_
  repeat (refine aa rfl fun K hK => ?_; simp (disch := omega) only [WW, BB, ↓ab, simprocAttr, q13, q14, q8, ix_row ar124]; refine hK _ _ ?_; clear hK)
  refine aq (p := .ptr d 0) (v := vN .u32 _) rfl rfl rfl (by simp (disch := omega) only [WW, BB, ↓ab, simprocAttr, q8]) rfl (aT (b := d) (off := 0) hHd ty44 (vN_cells _ _) (vN_one _ _) (by show (0 : Nat) < 8; omega)) ?_
  rw [nR_set]
  simp only [List.set_cons_zero]
  refine ae (hQ _ ?_ ?_ ?_ ?_ ?_ ?_)
  all_goals simp (disch := omega) only [WW, BB, ↓ab, simprocAttr]

theorem r84_18 (q8 : t 8 = .ptr d 0) (q13 : t 13 = vN .u32 one) (hHd : HH d = some (.row (nR .u32 [a0, a1, a2, a3, a4, a5, a6, a7])))
    (hQ : ∀ t', t' 0 = t 0 → t' 4 = t 4 → t' 8 = t 8 → t' 9 = t 9 → t' 71 = t 71 → Q .normal t' (upd HH d (some (.row (nR .u32 [a0, a1, a2, a3, (a4 + one) % 4294967296, a5, a6, a7]))))) :
    wpC Try.prog (tab [(100, s100), (101, s101), (102, s102)]) Y [] 162 (regAt Try.f84 18) true Q t HH := by
  have g4 : (nR .u32 [a0, a1, a2, a3, a4, a5, a6, a7])[4]? = some (vN .u32 a4) := rfl
  refine ac rfl ?_
  repeat (refine aa rfl fun K hK => ?_; simp (disch := omega) only [WW, BB, ↓ab, simprocAttr, q13, q8, ix_row ar124, aw hHd ty44 g4]; refine hK _ _ ?_; clear hK)
  refine aq (p := .ptr d 4) (v := vN .u32 _) rfl rfl rfl (by simp (disch := omega) only [WW, BB, ↓ab, simprocAttr, q8]) rfl (aT (b := d) (off := 4) hHd ty44 (vN_cells _ _) (vN_one _ _) (by show (4 : Nat) < 8; omega)) ?_
  rw [nR_set]
  simp only [List.set_cons_zero, List.set_cons_succ]
  refine ae (hQ _ ?_ ?_ ?_ ?_ ?_)
  all_goals simp (disch := omega) only [WW, BB, ↓ab, simprocAttr]
end
end Go.Av

set_option linter.unusedSimpArgs false
set_option linter.unusedVariables false
namespace Go.Av
open Go.RowKit Go.Proofs

section
variable {Y : aC} {Q : Exit → T → Hp → Prop} {t : T} {H HH : Hp} {b c d e : Nat} {w st bs : List Nat} {part rest : V} {many : Nat}

theorem l84_1 (q0 : t 0 = .ptr b 0) (q1 : t 1 = part) (q4 : t 4 = .ptr c 0) (q16 : t 16 = vN .i64 0) (hc : H c = none) (hv : ao H 1 part = some (nE .u8 bs)) (hbs : bs.length = 64) (hHH : HH = upd H c (some (.row (nR .u32 (List.replicate 64 0)))))
    (hQ : ∀ t', t' 0 = .ptr b 0 → t' 4 = .ptr c 0 → Q (.exit 0) t' (upd H c (some (.row (nR .u32 (schN bs 64)))))) :
    wpC Try.prog (tab [(100, s100), (101, s101), (102, s102)]) Y [] 162 (aU Try.f84 0) true Q t HH := by
  refine aO (fun m t H' => ∃ i, m = 64 - i ∧ i ≤ 64 ∧ t 0 = .ptr b 0 ∧ t 1 = part ∧ t 4 = .ptr c 0 ∧ t 16 = vN .i64 i ∧ H' = upd H c (some (.row (nR .u32 (schN bs i))))) 64 ⟨0, rfl, by omega, q0, q1, q4, q16, by rw [hHH]; rfl⟩ fun KL m t H' hI hKL => ?_
  obtain ⟨i, rfl, hi, h0, h1, h4, h16, rfl⟩ := hI
  repeat (first
    | (refine aa rfl fun K hK => ?_; simp (disch := omega) only [WW, BB, ↓ab, simprocAttr, h0, h1, h4, h16]; refine hK _ _ ?_; clear hK) | (refine ae ?_; simp only [TH]; (((repeat ((fail_if_success refine hS _ _ ?_); clear hS)); refine hS _ _ ?_); clear hS; try clear hF)) | refine af fun K hS hF => ?_ | refine ac rfl ?_)
  refine aH rfl (fun hd => ?_) (fun hd => ?_)
  · (refine am ?_; simp only [TH]; ((repeat ((fail_if_success refine hS _ _ ?_); clear hS)); refine hS _ _ ?_); clear hS; try clear hF)
    repeat (first
    | (refine aa rfl fun K hK => ?_; simp (disch := omega) only [WW, BB, ↓ab, simprocAttr, h0, h1, h4, h16]; refine hK _ _ ?_; clear hK) | (refine ae ?_; simp only [TH]; (((repeat ((fail_if_success refine hS _ _ ?_); clear hS)); refine hS _ _ ?_); clear hS; try clear hF)) | refine af fun K hS hF => ?_ | refine ac rfl ?_)
    refine aH rfl (fun hd2 => ?_) (fun hd2 => ?_)
    · have hv2 := view_fresh hv (c := c) (z := some (.row (nR .u32 (schN bs i)))) hc
      obtain ⟨y, hy, hvy⟩ := slice_view (lo := some (vN .i64 (i * 4))) (hi := none) ar64 sl64 hv2 (bnd_none _ _) (bnd_N (i * 4) (by rw [az]; omega)) (by rw [az]; omega) (Nat.le_refl _)
      rw [List.take_of_length_le (Nat.le_refl _), nE_drop] at hvy
      repeat (first
    | (refine aa rfl fun K hK => ?_; simp (disch := omega) only [WW, BB, ↓ab, simprocAttr, h0, h1, h4, h16, i64_mul, hy]; refine hK _ _ ?_; clear hK) | refine af fun K hS hF => ?_ | refine ac rfl ?_)
      refine aa rfl fun K hK => ⟨y, bs.drop (i * 4), rfl, hvy, by rw [List.length_drop]; omega, hK _ _ ?_⟩
      repeat (refine aa rfl fun K hK => ?_; simp (disch := omega) only [WW, BB, ↓ab, simprocAttr, h4, h16, ix_row ar146]; refine hK _ _ ?_; clear hK)
      refine aq (p := .ptr c i) (v := vN .u32 _) rfl rfl rfl (by simp (disch := omega) only [WW, BB, ↓ab, simprocAttr, h4]) rfl (aT (b := c) (off := i) (ag _ _ _) ty44 (vN_cells _ _) (vN_one _ _) (by rw [ar, schN_len]; omega)) ?_
      rw [aD, nR_set]
      repeat (refine ae ?_; simp only [TH]; (((repeat ((fail_if_success refine hS _ _ ?_); clear hS)); refine hS _ _ ?_); clear hS; try clear hF))
      (refine aG ?_; simp only [TH, ↓reduceIte, Nat.reduceEqDiff]; ((repeat ((fail_if_success refine hS _ _ ?_); clear hS)); refine hS _ _ ?_); clear hS; try clear hF)
      repeat (first
    | (refine aa rfl fun K hK => ?_; simp (disch := omega) only [WW, BB, ↓ab, simprocAttr, h4, h16, aP]; refine hK _ _ ?_; clear hK) | (refine ae ?_; simp only [TH]) | refine ac rfl ?_)
      refine hKL _ _ _ (by omega : 64 - (i + 1) < 64 - i) ⟨i + 1, rfl, by omega, ?_, ?_, ?_, ?_, ?_⟩
      · simp (disch := omega) only [WW, BB, ↓ab, simprocAttr, h0]
      · simp (disch := omega) only [WW, BB, ↓ab, simprocAttr, h1]
      · simp (disch := omega) only [WW, BB, ↓ab, simprocAttr, h4]
      · simp (disch := omega) only [WW, BB, ↓ab, simprocAttr]
      · rw [schN_succ, sch, if_pos hd2]
    · (refine am ?_; simp only [TH]; ((repeat ((fail_if_success refine hS _ _ ?_); clear hS)); refine hS _ _ ?_); clear hS; try clear hF)
      have hg : ∀ j, j < 64 → (nR .u32 (schN bs i))[j]? = some (vN .u32 ((schN bs i).getD j 0)) := fun j hj => nR_get _ _ _ (by rw [schN_len]; exact hj)
      refine bZ fun K hS => ?_
      refine bJ 9 (by kernel_rfl) rfl rfl ?_
      repeat (first
    | ((first | refine aa rfl fun K hK => ?_ | refine aQ rfl fun K hK => ?_); simp (disch := omega) only [WW, BB, ↓ab, simprocAttr, h4, h16, ix_row ar146, i64_sub, aw (ag _ _ _) ty44 (hg (i - 15) (by omega)), aw (ag _ _ _) ty44 (hg (i - 2) (by omega))]; (first | refine hK _ _ ?_ | refine ⟨_, ⟨rfl, by first | rfl | trivial⟩, hK _ ?_⟩); clear hK) | refine bx ?_ | (refine ae ?_; simp only [TH]; (((repeat ((fail_if_success refine hS _ _ ?_); clear hS)); refine hS _ _ ?_); clear hS; try clear hF)))
      have hg16 := hg (i - 16) (by omega)
      have hg7 := hg (i - 7) (by omega)
      refine bJ 28 (by kernel_rfl) rfl rfl ?_
      repeat (first
    | ((first | refine aa rfl fun K hK => ?_ | refine aQ rfl fun K hK => ?_); simp (disch := omega) only [WW, BB, ↓ab, simprocAttr, h4, h16, ix_row ar146, i64_sub, aw (ag _ _ _) ty44 hg16, aw (ag _ _ _) ty44 hg7]; (first | refine hK _ _ ?_ | refine ⟨_, ⟨rfl, by first | rfl | trivial⟩, hK _ ?_⟩ | refine ⟨_, ⟨_, _, rfl, by decide, by decide, rfl, by first | rfl | trivial⟩, hK _ ?_⟩); clear hK) | refine bx ?_)
      refine aq (p := .ptr c i) (v := vN .u32 _) rfl rfl rfl (by simp (disch := omega) only [WW, BB, ↓ab, simprocAttr, h4]) rfl (aT (b := c) (off := i) (ag _ _ _) ty44 (vN_cells _ _) (vN_one _ _) (by rw [ar, schN_len]; omega)) ?_
      rw [aD, nR_set]
      refine ae ?_
      simp only [bC, bi, noGotoA]
      refine hS _ _ ?_
      clear hS
      refine wpC_cut (F := fun t' => t' 0 = .ptr b 0 ∧ t' 1 = part ∧ t' 4 = .ptr c 0 ∧ t' 16 = vN .i64 i) ⟨?_, ?_, ?_, ?_⟩ ?_
      · simp (disch := omega) only [WW, BB, ↓ab, simprocAttr, h0]
      · simp (disch := omega) only [WW, BB, ↓ab, simprocAttr, h1]
      · simp (disch := omega) only [WW, BB, ↓ab, simprocAttr, h4]
      · simp (disch := omega) only [WW, BB, ↓ab, simprocAttr, h16]
      clear h0 h1 h4 h16
      rintro t2 ⟨h0, h1, h4, h16⟩
      repeat (first
    | (refine aa rfl fun K hK => ?_; simp (disch := omega) only [WW, BB, ↓ab, simprocAttr, h16, aP]; refine hK _ _ ?_; clear hK) | (refine ae ?_; simp only [TH]) | refine ac rfl ?_)
      refine hKL _ _ _ (by omega : 64 - (i + 1) < 64 - i) ⟨i + 1, rfl, by omega, ?_, ?_, ?_, ?_, ?_⟩
      · simp (disch := omega) only [WW, BB, ↓ab, simprocAttr, h0]
      · simp (disch := omega) only [WW, BB, ↓ab, simprocAttr, h1]
      · simp (disch := omega) only [WW, BB, ↓ab, simprocAttr, h4]
      · simp (disch := omega) only [WW, BB, ↓ab, simprocAttr]
      · rw [schN_succ, sch, if_neg hd2]
  · refine aG ?_
    have hi64 : i = 64 := by omega
    subst hi64
    refine hQ _ ?_ ?_
    · simp (disch := omega) only [WW, BB, ↓ab, simprocAttr, h0]
    · simp (disch := omega) only [WW, BB, ↓ab, simprocAttr, h4]

theorem l84_2 (q0 : t 0 = .ptr b 0) (q4 : t 4 = .ptr c 0) (q8 : t 8 = .ptr d 0) (q9 : t 9 = .ptr e 0) (q71 : t 71 = vN .i64 0) (hcd : c ≠ d) (hce : c ≠ e) (hde : d ≠ e) (hwl : w.length = 64) (h8 : st.length = 8)
    (hHc : HH c = some (.row (nR .u32 w))) (hHd : HH d = some (.row (nR .u32 st))) (hHe : HH e = some (.row (nR .u32 cu0)))
    (hQ : ∀ t', t' 0 = .ptr b 0 → t' 8 = .ptr d 0 → Q (.exit 2) t' (upd HH d (some (.row (nR .u32 (rndN w st 64)))))) :
    wpC Try.prog (tab [(100, s100), (101, s101), (102, s102)]) Y [] 162 (aU Try.f84 1) true Q t HH := by
  refine aO (fun m t H' => ∃ i, m = 64 - i ∧ i ≤ 64 ∧ t 0 = .ptr b 0 ∧ t 4 = .ptr c 0 ∧ t 8 = .ptr d 0 ∧ t 9 = .ptr e 0 ∧ t 71 = vN .i64 i ∧ H' = upd HH d (some (.row (nR .u32 (rndN w st i))))) 64 ⟨0, rfl, by omega, q0, q4, q8, q9, q71, ?_⟩ fun KL m t H' hI hKL => ?_
  · funext j
    by_cases hj : j = d
    · subst hj; rw [ag, hHd]; rfl
    · rw [ah _ _ _ hj]
  clear q0 q4 q8 q9 q71
  obtain ⟨i, rfl, hi, q0, q4, q8, q9, q71, rfl⟩ := hI
  have hvl := rndN_len w st h8 i
  obtain ⟨a0, a1, a2, a3, a4, a5, a6, a7, hv8⟩ := len8 _ hvl
  generalize hX : upd HH d (some (.row (nR .u32 (rndN w st i)))) = X
  have xd : X d = some (.row (nR .u32 [a0, a1, a2, a3, a4, a5, a6, a7])) := by rw [← hX, ag, hv8]
  have xc : X c = some (.row (nR .u32 w)) := by rw [← hX, ah _ _ _ hcd, hHc]
  have xe : X e = some (.row (nR .u32 cu0)) := by rw [← hX, ah _ _ _ (Ne.symm hde), hHe]
  have g0 : (nR .u32 [a0, a1, a2, a3, a4, a5, a6, a7])[0]? = some (vN .u32 a0) := rfl
  have g4 : (nR .u32 [a0, a1, a2, a3, a4, a5, a6, a7])[4]? = some (vN .u32 a4) := rfl
  repeat (first
    | (refine aa rfl fun K hK => ?_; simp (disch := omega) only [WW, BB, ↓ab, simprocAttr, q71]; refine hK _ _ ?_; clear hK) | (refine ae ?_; simp only [TH]; (((repeat ((fail_if_success refine hS _ _ ?_); clear hS)); refine hS _ _ ?_); clear hS; try clear hF)) | refine af fun K hS hF => ?_ | refine ac rfl ?_)
  refine aH rfl (fun hd => ?_) (fun hd => ?_)
  · (refine am ?_; simp only [TH]; ((repeat ((fail_if_success refine hS _ _ ?_); clear hS)); refine hS _ _ ?_); clear hS; try clear hF)
    repeat (first
    | (refine aa rfl fun K hK => ?_; simp (disch := omega) only [WW, BB, ↓ab, simprocAttr, q71]; refine hK _ _ ?_; clear hK) | (refine ae ?_; simp only [TH]; (((repeat ((fail_if_success refine hS _ _ ?_); clear hS)); refine hS _ _ ?_); clear hS; try clear hF)) | refine af fun K hS hF => ?_ | refine ac rfl ?_)
    refine bJ 5 (by kernel_rfl) rfl rfl ?_
    repeat (first
    | ((first | refine aa rfl fun K hK => ?_ | refine aQ rfl fun K hK => ?_); simp (disch := omega) only [WW, BB, ↓ab, simprocAttr, q8, ix_row ar124, aw xd ty44 g0, aw xd ty44 g4]; (first | refine hK _ _ ?_ | refine ⟨_, ⟨rfl, by first | rfl | trivial⟩, hK _ ?_⟩); clear hK) | refine bx ?_ | (refine ae ?_; simp only [TH]; (((repeat ((fail_if_success refine hS _ _ ?_); clear hS)); refine hS _ _ ?_); clear hS; try clear hF)) | refine af fun K hS hF => ?_)
    refine r84_14 (i := i) (c := c) (d := d) (e := e) (a0 := a0) (a4 := a4) ?_ ?_ ?_ ?_ ?_ hd hwl xd xe xc (fun t1 e0 e4 e8 e9 e71 e11 e13 => ?_)
    · simp (disch := omega) only [WW, BB, ↓ab, simprocAttr, q8]
    · simp (disch := omega) only [WW, BB, ↓ab, simprocAttr, q9]
    · simp (disch := omega) only [WW, BB, ↓ab, simprocAttr, q4]
    · simp (disch := omega) only [WW, BB, ↓ab, simprocAttr]
    · simp (disch := omega) only [WW, BB, ↓ab, simprocAttr]
    simp only [putT, ↓upd_apply, Nat.reduceEqDiff, ↓reduceIte, Nat.reduceLT, q0, q4, q8, q9, q71] at e0 e4 e8 e9 e71 e11
    (simp only [TH, ↓reduceIte, Nat.reduceEqDiff]; ((repeat ((fail_if_success refine hS _ _ ?_); clear hS)); refine hS _ _ ?_); clear hS; try clear hF)
    refine bZ fun K hS => ?_
    refine r84_15 (d := d) e8 e11 xd (fun t2 f0 f4 f8 f9 f71 f13 f14 => ?_)
    rw [e0] at f0
    rw [e4] at f4
    rw [e8] at f8
    rw [e9] at f9
    rw [e71] at f71
    rw [e13] at f13
    clear e0 e4 e8 e9 e71 e11 e13
    (simp only [TH, ↓reduceIte, Nat.reduceEqDiff]; ((repeat ((fail_if_success refine hS _ _ ?_); clear hS)); refine hS _ _ ?_); clear hS; try clear hF)
    generalize hone : rOne w [a0, a1, a2, a3, a4, a5, a6, a7] i = one at *
    generalize htwo : rTwo [a0, a1, a2, a3, a4, a5, a6, a7] = two at *
    refine bZ fun K hS => ?_
    refine r84_16 (d := d) f8 xd (fun t3 e0 e4 e8 e9 e71 e13 e14 => ?_)
    rw [f0] at e0
    rw [f4] at e4
    rw [f8] at e8
    rw [f9] at e9
    rw [f71] at e71
    rw [f13] at e13
    rw [f14] at e14
    clear f0 f4 f8 f9 f71 f13 f14
    (simp only [TH, ↓reduceIte, Nat.reduceEqDiff]; ((repeat ((fail_if_success refine hS _ _ ?_); clear hS)); refine hS _ _ ?_); clear hS; try clear hF)
    refine bZ fun K hS => ?_
    refine r84_17 (d := d) e8 e13 e14 (ag _ _ _) (fun t4 f0 f4 f8 f9 f71 f13 => ?_)
    rw [e0] at f0
    rw [e4] at f4
    rw [e8] at f8
    rw [e9] at f9
    rw [e71] at f71
    rw [e13] at f13
    clear e0 e4 e8 e9 e71 e13 e14
    (simp only [TH, ↓reduceIte, Nat.reduceEqDiff]; ((repeat ((fail_if_success refine hS _ _ ?_); clear hS)); refine hS _ _ ?_); clear hS; try clear hF)
    refine r84_18 (d := d) f8 f13 (ag _ _ _) (fun t5 e0 e4 e8 e9 e71 => ?_)
    rw [f0] at e0
    rw [f4] at e4
    rw [f8] at e8
    rw [f9] at e9
    rw [f71] at e71
    clear f0 f4 f8 f9 f71 f13
    rw [aD, aD]
    (simp only [TH, ↓reduceIte, Nat.reduceEqDiff]; ((repeat ((fail_if_success refine hS _ _ ?_); clear hS)); refine hS _ _ ?_); clear hS; try clear hF)
    repeat (first
    | (refine aa rfl fun K hK => ?_; simp (disch := omega) only [WW, BB, ↓ab, simprocAttr, e71, aP]; refine hK _ _ ?_; clear hK) | (refine ae ?_; simp only [TH]) | refine ac rfl ?_)
    refine hKL _ _ _ (by omega : 64 - (i + 1) < 64 - i) ⟨i + 1, rfl, by omega, ?_, ?_, ?_, ?_, ?_, ?_⟩
    · simp (disch := omega) only [WW, BB, ↓ab, simprocAttr, e0]
    · simp (disch := omega) only [WW, BB, ↓ab, simprocAttr, e4]
    · simp (disch := omega) only [WW, BB, ↓ab, simprocAttr, e8]
    · simp (disch := omega) only [WW, BB, ↓ab, simprocAttr, e9]
    · simp (disch := omega) only [WW, BB, ↓ab, simprocAttr]
    · rw [← hX, aD, rndN_succ, hv8, rnd, hone, htwo]
      rfl
  · refine aG ?_
    have hi64 : i = 64 := by omega
    subst hi64
    rw [← hX]
    refine hQ _ ?_ ?_
    · simp (disch := omega) only [WW, BB, ↓ab, simprocAttr, q0]
    · simp (disch := omega) only [WW, BB, ↓ab, simprocAttr, q8]

theorem l84_3 (q0 : t 0 = .ptr b 0) (q8 : t 8 = .ptr d 0) (q145 : t 145 = vN .i64 0) (hbd : b ≠ d) (hwl : w.length = 8) (h8 : st.length = 8)
    (hHd : HH d = some (.row (nR .u32 w))) (hHb : HH b = some (.row (aY st rest many)))
    (hQ : ∀ t', Q (.exit 4) t' (upd HH b (some (.row (aY (addN st w 8) rest many))))) :
    wpC Try.prog (tab [(100, s100), (101, s101), (102, s102)]) Y [] 162 (aU Try.f84 2) true Q t HH := by
  refine aO (fun m t H' => ∃ i, m = 8 - i ∧ i ≤ 8 ∧ t 0 = .ptr b 0 ∧ t 8 = .ptr d 0 ∧ t 145 = vN .i64 i ∧ H' = upd HH b (some (.row (aY (addN st w i) rest many)))) 8 ⟨0, rfl, by omega, q0, q8, q145, ?_⟩ fun KL m t H' hI hKL => ?_
  · funext j
    by_cases hj : j = b
    · subst hj; rw [ag, hHb]; rfl
    · rw [ah _ _ _ hj]
  clear q0 q8 q145
  obtain ⟨i, rfl, hi, q0, q8, q145, rfl⟩ := hI
  have h8' : (addN st w i).length = 8 := by rw [addN_len, h8]
  repeat (first
    | (refine aa rfl fun K hK => ?_; simp (disch := omega) only [WW, BB, ↓ab, simprocAttr, q145]; refine hK _ _ ?_; clear hK) | (refine ae ?_; simp only [TH]; (((repeat ((fail_if_success refine hS _ _ ?_); clear hS)); refine hS _ _ ?_); clear hS; try clear hF)) | refine af fun K hS hF => ?_ | refine ac rfl ?_)
  refine aH rfl (fun hd3 => ?_) (fun hd3 => ?_)
  · (refine am ?_; simp only [TH]; ((repeat ((fail_if_success refine hS _ _ ?_); clear hS)); refine hS _ _ ?_); clear hS; try clear hF)
    repeat (first
    | (refine aa rfl fun K hK => ?_; simp (disch := omega) only [WW, BB, ↓ab, simprocAttr, q145]; refine hK _ _ ?_; clear hK) | (refine ae ?_; simp only [TH]; (((repeat ((fail_if_success refine hS _ _ ?_); clear hS)); refine hS _ _ ?_); clear hS; try clear hF)) | refine af fun K hS hF => ?_ | refine ac rfl ?_)
    refine bJ 13 (by kernel_rfl) rfl rfl ?_
    have hHd2 : upd HH b (some (.row (aY (addN st w i) rest many))) d = some (.row (nR .u32 w)) := by rw [ah _ _ _ (Ne.symm hbd), hHd]
    repeat (first
    | ((first | refine aa rfl fun K hK => ?_ | refine aQ rfl fun K hK => ?_); simp (disch := omega) only [WW, BB, ↓ab, simprocAttr, q0, q8, fl127_0, bp, ix_row ar124, aw (ag _ _ _) ty44 (sumR_get h8' rest many hd3), aw hHd2 ty44 (nR_get .u32 w i (by rw [hwl]; exact hd3))]; refine ⟨_, ⟨rfl, by first | rfl | trivial⟩, hK _ ?_⟩; clear hK) | refine bx ?_)
    refine aq (p := .ptr b i) (v := vN .u32 _) rfl rfl rfl (by simp (disch := omega) only [WW, BB, ↓ab, simprocAttr]) rfl (aT (b := b) (off := i) (ag _ _ _) ty44 (vN_cells _ _) (vN_one _ _) (by rw [sumR_len h8']; omega)) ?_
    rw [aD, sumR_set h8' rest many hd3]
    repeat (first
    | (refine aa rfl fun K hK => ?_; simp (disch := omega) only [WW, BB, ↓ab, simprocAttr, q145, aP]; refine hK _ _ ?_; clear hK) | (refine ae ?_; simp only [TH]; first | (((repeat ((fail_if_success refine hS _ _ ?_); clear hS)); refine hS _ _ ?_); clear hS; try clear hF) | skip) | refine ac rfl ?_)
    refine hKL _ _ _ (by omega : 8 - (i + 1) < 8 - i) ⟨i + 1, rfl, by omega, ?_, ?_, ?_, ?_⟩
    · simp (disch := omega) only [WW, BB, ↓ab, simprocAttr, q0]
    · simp (disch := omega) only [WW, BB, ↓ab, simprocAttr, q8]
    · simp (disch := omega) only [WW, BB, ↓ab, simprocAttr]
    · rw [addN_succ]
  · refine aG ?_
    have hi8 : i = 8 := by omega
    subst hi8
    exact hQ _
end
end Go.Av

set_option linter.unusedSimpArgs false
set_option linter.unusedVariables false
namespace Go.Av
open Go.RowKit Go.Proofs

theorem snd84 : Sound Try.prog 84 s84 := by
  refine ak pm (ap [(100, s100), (101, s101), (102, s102)] (by simp [snd100, snd101, snd102])) [] Try.func84 rfl (by kernel_rfl) ?_
  rintro Y args H Q ⟨b, st, rest, many, part, bs, rfl, hb, h8, hv, hbs, hQ⟩
  refine ⟨by simp [Try.f84], ?_⟩
  show wpC Try.prog (tab [(100, s100), (101, s101), (102, s102)]) Y [] 162 _ true (aB Try.prog [] Q) _ H
  repeat (first
    | refine af fun K hS hF => ?_ | refine ac rfl ?_)
  refine aa rfl fun K hK => ⟨_, z146, fun c hc => hK _ _ ?_⟩
  have hbc : ¬ b = c := aA hb hc
  repeat (first
    | (refine aa rfl fun K hK => ?_; simp (disch := omega) only [WW, BB, ↓ab, simprocAttr]; refine hK _ _ ?_; clear hK) | (refine ae ?_; simp only [TH]; (((repeat ((fail_if_success refine hS _ _ ?_); clear hS)); refine hS _ _ ?_); clear hS; try clear hF)) | refine af fun K hS hF => ?_ | refine ac rfl ?_ | refine ax ?_)
  refine l84_1 (b := b) ?_ ?_ ?_ ?_ hc hv hbs rfl (fun t2 h0 h4 => ?_)
  · simp (disch := omega) only [WW, BB, ↓ab, simprocAttr]
  · simp (disch := omega) only [WW, BB, ↓ab, simprocAttr]
  · simp (disch := omega) only [WW, BB, ↓ab, simprocAttr]
  · simp (disch := omega) only [WW, BB, ↓ab, simprocAttr]
  (simp only [TH, ↓reduceIte, Nat.reduceEqDiff]; ((repeat ((fail_if_success refine hS _ _ ?_); clear hS)); refine hS _ _ ?_); clear hS; try clear hF)
  refine bZ fun K hS => ?_
  generalize hw : schN bs 64 = w
  have hwl : w.length = 64 := by rw [← hw]; exact schN_len bs 64
  have hb1 : upd H c (some (.row (nR .u32 w))) b = some (.row (aY st rest many)) := by rw [ah _ _ _ hbc]; exact hb
  refine ck 7 [0, 1, 2, 3, 4] (fun i => decide (5 ≤ i)) (fun H' => hle (upd H c (some (.row (nR .u32 w)))) H') (by kernel_rfl) (aj _) fun L B hBd hL => ?_
  refine ay rfl rfl rfl ⟨.ptr b 0, fun H' hC => ⟨_, rfl, h0, rfl⟩, ?_⟩
  refine ay rfl rfl rfl ⟨.ptr b 0, fun H' hC => ⟨_, rfl, rfl, rfl⟩, ?_⟩
  refine ay rfl rfl rfl ⟨.ptr b 0, fun H' hC => ?_, ?_⟩
  · simp (disch := omega) only [WW, BB, ↓ab, simprocAttr, fl127_0, bp] <;> first | trivial | exact ⟨rfl, rfl⟩ | exact ⟨trivial, trivial⟩
  refine ay rfl rfl rfl ⟨.agg (nR .u32 st), fun H' hC => ?_, ?_⟩
  · simp (disch := omega) only [WW, BB, ↓ab, simprocAttr, sum_state (hC b _ hb1) h8] <;> first | trivial | exact ⟨rfl, rfl⟩ | exact ⟨trivial, trivial⟩
  refine ay rfl rfl rfl ⟨.agg (nR .u32 cu0), fun H' hC => ?_, ?_⟩
  · simp (disch := omega) only [WW, BB, ↓ab, simprocAttr] <;> exact ⟨rfl, rfl, rfl⟩
  have hH1 : ∀ d e, d ≠ e → upd H c (some (.row (nR .u32 w))) d = none → upd H c (some (.row (nR .u32 w))) e = none → ∀ t', t' 0 = .ptr b 0 ∧ t' 4 = .ptr c 0 ∧ t' 8 = .ptr d 0 ∧ t' 9 = .ptr e 0 ∧ t' 69 = .agg (nR .u32 st) ∧ t' 70 = .agg (nR .u32 cu0) → ∀ l,
      B l = true → L l t' (upd (upd (upd H c (some (.row (nR .u32 w)))) d (some (.row (List.replicate 8 (vN .u32 0))))) e (some (.row (List.replicate 64 (vN .u32 0))))) := by
    rintro d e hde hd he t' ⟨g0, g4, g8, g9, g69, g70⟩ l hsq
    refine hL l t' _ hsq ?_
    have hed : e ≠ d := Ne.symm hde
    refine aq (p := .ptr d 0) (v := .agg (nR .u32 st)) rfl rfl rfl g8 g69 (au (b := d) (cells := List.replicate 8 (vN .u32 0)) (by rw [ah _ _ _ hde, ag]) ty124 (by rw [ar, h8]) (bk _ _) rfl) ?_
    rw [upd_comm _ _ _ hde, aD]
    refine aq (p := .ptr e 0) (v := .agg (nR .u32 cu0)) rfl rfl rfl g9 g70 (au (b := e) (cells := List.replicate 64 (vN .u32 0)) (by rw [ah _ _ _ hed, ag]) ty146 rfl (bk _ _) rfl) ?_
    rw [upd_comm _ _ _ hed, aD]
    refine ae ?_
    simp only [bC]
    refine hS _ _ ?_
    clear hS
    refine wpC_cut (F := fun t' => t' 0 = .ptr b 0 ∧ t' 4 = .ptr c 0 ∧ t' 8 = .ptr d 0 ∧ t' 9 = .ptr e 0) ⟨g0, g4, g8, g9⟩ ?_
    rintro t3 ⟨k0, k4, k8, k9⟩
    repeat (first
    | (refine aa rfl fun K hK => ?_; simp (disch := omega) only [WW, BB, ↓ab, simprocAttr]; refine hK _ _ ?_; clear hK) | (refine ae ?_; simp only [TH]; (((repeat ((fail_if_success refine hS _ _ ?_); clear hS)); refine hS _ _ ?_); clear hS; try clear hF)) | refine af fun K hS hF => ?_ | refine ac rfl ?_ | refine ax ?_)
    have hw_get : ∀ j, j < 64 → (nR .u32 w)[j]? = some (vN .u32 (w.getD j 0)) := fun j hj => nR_get _ _ _ (by rw [hwl]; exact hj)
    have hcd : ¬ c = d := aA (ag _ _ _) hd
    have hce : ¬ c = e := aA (ag _ _ _) he
    refine l84_2 (b := b) (c := c) (d := d) (e := e) (w := w) (st := st) ?_ ?_ ?_ ?_ ?_ hcd hce hde hwl h8 ?_ ?_ (ag _ _ _) (fun t4 q0 q8 => ?_)
    · simp (disch := omega) only [WW, BB, ↓ab, simprocAttr, k0]
    · simp (disch := omega) only [WW, BB, ↓ab, simprocAttr, k4]
    · simp (disch := omega) only [WW, BB, ↓ab, simprocAttr, k8]
    · simp (disch := omega) only [WW, BB, ↓ab, simprocAttr, k9]
    · simp (disch := omega) only [WW, BB, ↓ab, simprocAttr]
    · rw [ah _ _ _ hce, ah _ _ _ hcd, ag]
    · rw [ah _ _ _ hde, ag]
    have hvl := rndN_len w st h8 64
    generalize hv' : rndN w st 64 = v at *
    have hbd : ¬ b = d := aA hb1 hd
    have hbe : ¬ b = e := aA hb1 he
    have hle1 : hle H (upd (upd (upd (upd H c (some (.row (nR .u32 w)))) d (some (.row (nR .u32 st)))) e (some (.row (nR .u32 cu0)))) d (some (.row (nR .u32 v)))) := by
      rw [upd_comm _ _ _ hed, aD]
      exact ai (ai (ai (aj _) hc) (aF hd).2) (aF he).2
    (simp only [TH, ↓reduceIte, Nat.reduceEqDiff]; ((repeat ((fail_if_success refine hS _ _ ?_); clear hS)); refine hS _ _ ?_); clear hS; try clear hF)
    repeat (first
    | (refine aa rfl fun K hK => ?_; simp (disch := omega) only [WW, BB, ↓ab, simprocAttr]; refine hK _ _ ?_; clear hK) | (refine ae ?_; simp only [TH]; (((repeat ((fail_if_success refine hS _ _ ?_); clear hS)); refine hS _ _ ?_); clear hS; try clear hF)) | refine af fun K hS hF => ?_ | refine ac rfl ?_ | refine ax ?_)
    refine l84_3 (b := b) (d := d) (st := st) (w := v) (rest := rest) (many := many) ?_ ?_ ?_ hbd hvl h8 (ag _ _ _) ?_ (fun t5 => ?_)
    · simp (disch := omega) only [WW, BB, ↓ab, simprocAttr, q0]
    · simp (disch := omega) only [WW, BB, ↓ab, simprocAttr, q8]
    · simp (disch := omega) only [WW, BB, ↓ab, simprocAttr]
    · rw [ah _ _ _ hbd, ah _ _ _ hbe, ah _ _ _ hbd, hb1]
    simp only [bi, bC, ↓reduceIte, aB]
    refine ⟨_, rfl, [], _, hle_put hle1 b _, ?_⟩
    rw [mixOf, hw, hv'] at hQ
    exact hQ
  refine cj (aV [5, 6] (by kernel_rfl) (by simp) fun i hi => ?_)
  have hi' : i = 5 ∨ i = 6 := by simpa using hi
  rcases hi' with rfl | rfl
  · refine ⟨by omega, bV rfl rfl rfl rfl z124 fun d hd => ⟨ai (aj _) hd, aV [6] (by kernel_rfl) (by simp) fun i hi => ?_⟩⟩
    have hi' : i = 6 := by simpa using hi
    subst hi'
    refine ⟨by omega, bV rfl rfl rfl rfl z146 fun e he => ⟨ai (ai (aj _) hd) (aF he).2, bN (hH1 d e (aF he).1 hd (aF he).2 _ ⟨?_, ?_, ?_, ?_, ?_, ?_⟩ _ (by rw [hBd]; kernel_rfl))⟩⟩
    · simp (disch := omega) only [WW, BB, ↓ab, simprocAttr, h0]
    · simp (disch := omega) only [WW, BB, ↓ab, simprocAttr, h4]
    all_goals simp (disch := omega) only [WW, BB, ↓ab, simprocAttr]
  · refine ⟨by omega, bV rfl rfl rfl rfl z146 fun e he => ⟨ai (aj _) he, aV [5] (by kernel_rfl) (by simp) fun i hi => ?_⟩⟩
    have hi' : i = 5 := by simpa using hi
    subst hi'
    refine ⟨by omega, bV rfl rfl rfl rfl z124 fun d hd => ⟨ai (ai (aj _) he) (aF hd).2, ?_⟩⟩
    rw [upd_comm _ _ _ (aF hd).1]
    refine bN (hH1 d e (Ne.symm (aF hd).1) (aF hd).2 he _ ⟨?_, ?_, ?_, ?_, ?_, ?_⟩ _ (by rw [hBd]; kernel_rfl))
    · simp (disch := omega) only [WW, BB, ↓ab, simprocAttr, h0]
    · simp (disch := omega) only [WW, BB, ↓ab, simprocAttr, h4]
    all_goals simp (disch := omega) only [WW, BB, ↓ab, simprocAttr]
end Go.Av

set_option linter.unusedSimpArgs false
set_option linter.unusedVariables false
namespace Go.Av
open Go.RowKit Go.Proofs

def s83 : Spec := fun _ args H Q => ∃ v, args = [v] ∧ one v = true ∧ aW v = some [v] ∧ ∀ c, H c = none → Q (.fn (.func 99) [] [.ptr c 0]) (upd H c (some (.row [v])))

theorem snd83 : Sound Try.prog 83 s83 := by
  refine ak pm (ap [] (by simp)) [] Try.func83 rfl (by kernel_rfl) ?_
  rintro Y args H Q ⟨v, rfl, h1, h2, hQ⟩
  refine ⟨by simp [Try.f83], ?_⟩
  show wpC Try.prog (tab []) Y [] 4 _ true (aB Try.prog [.tmp 2] Q) _ H
  repeat (first
    | refine af fun K hS hF => ?_ | refine ac rfl ?_)
  refine aa rfl fun K hK => ⟨[v], h2, fun c hc => hK _ _ ?_⟩
  repeat (first
    | (refine aa rfl fun K hK => ?_; simp (disch := omega) only [WW, BB, ↓ab, simprocAttr]; refine hK _ _ ?_; clear hK) | (refine ae ?_; simp only [TH]; (((repeat ((fail_if_success refine hS _ _ ?_); clear hS)); refine hS _ _ ?_); clear hS; try clear hF)) | refine af fun K hS hF => ?_ | refine ac rfl ?_ | (refine al ?_; simp (disch := omega) only [TH, TE, WW, BB, ↓ab, simprocAttr]))
  exact ⟨_, rfl, [], _, aj _, hQ c hc⟩

theorem mixOf_len (st b : List Nat) : (mixOf st b).length = st.length := addN_len _ _ _
theorem addN_lt {st : List Nat} (v : List Nat) (h : lt32 st) : ∀ n, lt32 (addN st v n)
  | 0 => h
  | n + 1 => by
    rw [addN_succ]
    intro x hx
    rcases List.mem_or_eq_of_mem_set hx with hx | rfl
    · exact addN_lt v h n x hx
    · exact Nat.mod_lt _ (by omega)
theorem mixOf_lt {st : List Nat} (b : List Nat) (h : lt32 st) : lt32 (mixOf st b) := addN_lt _ h _

def absorb : Nat → List Nat → List Nat → List Nat
  | 0, st, _ => st
  | n + 1, st, l => absorb n (mixOf st (l.take 64)) (l.drop 64)
theorem absorb_len : ∀ (n : Nat) (st l : List Nat), (absorb n st l).length = st.length
  | 0, _, _ => rfl
  | n + 1, st, l => by rw [absorb, absorb_len n, mixOf_len]
theorem absorb_lt : ∀ (n : Nat) (st l : List Nat), lt32 st → lt32 (absorb n st l)
  | 0, _, _, h => h
  | n + 1, st, l, h => by rw [absorb]; exact absorb_lt n _ _ (mixOf_lt _ h)
def stOf (st l : List Nat) : List Nat := absorb (l.length / 64) st l
def restOf (l : List Nat) : List Nat := l.drop (64 * (l.length / 64))

theorem view_osl {H : Hp} {d sz : Nat} {full : Bool} {es : List (List V)} : ao (upd H d (some (.arr sz es))) sz (.osl d 0 es.length sz full) = some es := by
  simp only [ao, ag]
  rw [if_pos ⟨trivial, trivial, by omega⟩, List.drop_zero, List.take_of_length_le (Nat.le_refl _)]

section
variable {Y : aC} {Q : Exit → T → Hp → Prop} {t : T} {H : Hp} {a b : Nat} {st rs bs : List Nat} {x part rest : V} {many : Nat}

theorem r68_3 (h1 : t 1 = x) (h2 : t 2 = .ptr a 0) (ha : H a = some (.row [.ptr b 0])) (hb : H b = some (.row (aY st rest many))) (h8 : st.length = 8) (hv : ao H 1 x = some (nE .u8 bs))
    (hQ : ∀ t', t' 1 = x → t' 2 = .ptr a 0 → Q .normal t' (upd H b (some (.row (aY st rest ((many + bs.length % 18446744073709551616) % 18446744073709551616)))))) :
    wpC Try.prog (tab [(81, s81), (82, s82.or s82v), (83, s83), (84, s84), (99, s99)]) Y [] 41 (regAt Try.f68 3) true Q t H := by
  have hly := av sl64 hv
  rw [az] at hly
  refine ac rfl ?_
  repeat (refine aa rfl fun K hK => ?_; simp (disch := omega) only [WW, BB, ↓ab, simprocAttr, h1, h2, aw (off := 0) ha ty111 rfl, fl127_2, bp, aw hb ty91 (sumR_many h8 rest many), hly, conv_u64 _ us3 i91]; refine hK _ _ ?_; clear hK)
  refine aq (p := .ptr b 9) (v := vN .u64 _) rfl rfl rfl (by simp (disch := omega) only [WW, BB, ↓ab, simprocAttr]) rfl (aT (b := b) (off := 9) hb ty91 (vN_cells _ _) (vN_one _ _) (by rw [sumR_len h8]; omega)) ?_
  rw [sumR_set9 h8]
  refine ae (hQ _ ?_ ?_)
  · simp (disch := omega) only [WW, BB, ↓ab, simprocAttr, h1]
  · simp (disch := omega) only [WW, BB, ↓ab, simprocAttr, h2]

theorem r68_4 (h1 : t 1 = x) (h2 : t 2 = .ptr a 0) (ha : H a = some (.row [.ptr b 0])) (hb : H b = some (.row (aY st rest many))) (h8 : st.length = 8) (hr : isB rest rs) (hv : ao H 1 x = some (nE .u8 bs)) (hlen : rs.length + bs.length ≤ 140737488355328)
    (hQ : ∀ t' v H', t' 2 = .ptr a 0 → t' 5 = v → hle H H' → ao (upd H' b none) 1 v = some (nE .u8 (rs ++ bs)) → Q .normal t' H') :
    wpC Try.prog (tab [(81, s81), (82, s82.or s82v), (83, s83), (84, s84), (99, s99)]) Y [] 41 (regAt Try.f68 4) true Q t H := by
  have hrv := isB_view hr H
  refine ac rfl ?_
  repeat (refine aa rfl fun K hK => ?_; simp (disch := omega) only [WW, BB, ↓ab, simprocAttr, h1, h2, aw (off := 0) ha ty111 rfl, fl127_1, bp, aw hb ty64 (sumR_rest h8 rest many)]; refine hK _ _ ?_; clear hK)
  refine aa rfl fun K hK => .inl ⟨rest, rs, rfl, hrv, by omega, .inl ⟨fun hrs v0 hv0 => hK _ _ ?_, fun hrs d hd => hK _ _ ?_⟩⟩
  · subst hrs
    repeat (refine aa rfl fun K hK => ?_; simp (disch := omega) only [WW, BB, ↓ab, simprocAttr, h1]; refine hK _ _ ?_; clear hK)
    refine aa rfl fun K hK => ?_
    simp (disch := omega) only [WW, BB, ↓ab, simprocAttr, h1]
    refine append_new (x := x) hv0 ds64 sl64 hv (nE_ones _ _) (by rw [by64, az]; simp only [List.length_nil] at hlen; omega) (by rw [az]; simp only [List.length_nil] at hlen; omega) (fun hn => hK _ _ ?_) (fun hn d hd => hK _ _ ?_)
    · have hn' : bs = [] := by
        have := congrArg List.length hn
        rw [az] at this
        exact List.eq_nil_of_length_eq_zero this
      subst hn'
      repeat (first
    | (refine aa rfl fun K hK => ?_; simp (disch := omega) only [WW, BB, ↓ab, simprocAttr]; refine hK _ _ ?_; clear hK) | (refine ae ?_; simp only [TH]))
      refine ae (hQ _ v0 _ ?_ ?_ (aj _) ?_)
      · simp (disch := omega) only [WW, BB, ↓ab, simprocAttr, h2]
      · simp (disch := omega) only [WW, BB, ↓ab, simprocAttr]
      · rcases hv0 with rfl | rfl <;> simp [ao, nE]
    · repeat (first
    | (refine aa rfl fun K hK => ?_; simp (disch := omega) only [WW, BB, ↓ab, simprocAttr]; refine hK _ _ ?_; clear hK) | (refine ae ?_; simp only [TH]))
      refine ae (hQ _ _ _ ?_ rfl (ai (aj _) hd) ?_)
      · simp (disch := omega) only [WW, BB, ↓ab, simprocAttr, h2]
      · simp (disch := omega) only [WW, BB, ↓ab, simprocAttr]
        rw [upd_comm _ _ _ (fun e => aA hb hd e.symm)]
        exact view_osl
  · repeat (refine aa rfl fun K hK => ?_; simp (disch := omega) only [WW, BB, ↓ab, simprocAttr, h1]; refine hK _ _ ?_; clear hK)
    refine aa rfl fun K hK => ?_
    simp (disch := omega) only [WW, BB, ↓ab, simprocAttr, h1]
    refine append_osl (x := x) (ag _ _ _) (az _ _).symm ds64 sl64 (aL (ai (aj _) hd) hv) (nE_ones _ _) (by rw [by64, az]; omega) (by rw [az]; omega) (fun e he => hK _ _ ?_)
    rw [aD, nE_append]
    have he' : H e = none := by
      rcases he with rfl | he
      · exact hd
      · exact (aF he).2
    have hHd : upd H d none = H := by
      funext j
      by_cases hj : j = d
      · subst hj; rw [ag, hd]
      · rw [ah _ _ _ hj]
    rw [hHd]
    repeat (first
    | (refine aa rfl fun K hK => ?_; simp (disch := omega) only [WW, BB, ↓ab, simprocAttr]; refine hK _ _ ?_; clear hK) | (refine ae ?_; simp only [TH]))
    refine ae (hQ _ _ _ ?_ rfl (ai (aj _) he') ?_)
    · simp (disch := omega) only [WW, BB, ↓ab, simprocAttr, h2]
    · simp (disch := omega) only [WW, BB, ↓ab, simprocAttr]
      rw [upd_comm _ _ _ (fun e => aA hb he' e.symm), az, ← List.length_append, ← az .u8 (rs ++ bs)]
      exact view_osl

theorem rd68_mix (h6 : t 6 = .bool true) (h7 : t 7 = part) (h2 : t 2 = .ptr a 0) (ha : H a = some (.row [.ptr b 0])) (hb : H b = some (.row (aY st rest many))) (h8 : st.length = 8) (hv : ao H 1 part = some (nE .u8 bs)) (hbs : bs.length = 64)
    (hQ : ∀ t', Q .normal t' (upd H b (some (.row (aY (mixOf st bs) rest many))))) :
    wpC Try.prog (tab [(81, s81), (82, s82.or s82v), (83, s83), (84, s84), (99, s99)]) Y [] 41 (rbodyOf (aU Try.f68 0)) false Q t H := by
  refine ax ?_
  repeat (first
    | (refine aa rfl fun K hK => ?_; simp (disch := omega) only [WW, BB, ↓ab, simprocAttr, h6]; refine hK _ _ ?_; clear hK) | (refine ae ?_; simp only [TH]; (((repeat ((fail_if_success refine hS _ _ ?_); clear hS)); refine hS _ _ ?_); clear hS; try clear hF)) | refine af fun K hS hF => ?_ | refine ac rfl ?_)
  refine aS rfl ?_
  repeat (first
    | (refine aa rfl fun K hK => ?_; simp (disch := omega) only [WW, BB, ↓ab, simprocAttr, h2, h7, aw (off := 0) ha ty111 rfl]; refine hK _ _ ?_; clear hK) | refine af fun K hS hF => ?_ | refine ac rfl ?_)
  refine aa rfl fun K hK => ⟨b, st, rest, many, part, bs, rfl, hb, h8, hv, hbs, hK _ _ ?_⟩
  repeat (refine ae ?_; simp only [TH]; (((repeat ((fail_if_success refine hS _ _ ?_); clear hS)); refine hS _ _ ?_); clear hS; try clear hF))
  refine aG ?_
  simp only [bC, bi, ↓reduceIte]
  exact hQ _

theorem rd68_rest (h6 : t 6 = .bool false) (h7 : t 7 = part) (h2 : t 2 = .ptr a 0) (ha : H a = some (.row [.ptr b 0])) (hb : H b = some (.row (aY st rest many))) (h8 : st.length = 8) (hv : ao H 1 part = some (nE .u8 bs)) (hbs : bs.length ≤ 140737488355328)
    (hQ : ∀ t', Q .normal t' (upd H b (some (.row (aY st (.sl 1 (nE .u8 bs) false) many))))) :
    wpC Try.prog (tab [(81, s81), (82, s82.or s82v), (83, s83), (84, s84), (99, s99)]) Y [] 41 (rbodyOf (aU Try.f68 0)) false Q t H := by
  refine ax ?_
  repeat (first
    | (refine aa rfl fun K hK => ?_; simp (disch := omega) only [WW, BB, ↓ab, simprocAttr, h6]; refine hK _ _ ?_; clear hK) | (refine ae ?_; simp only [TH]; (((repeat ((fail_if_success refine hS _ _ ?_); clear hS)); refine hS _ _ ?_); clear hS; try clear hF)) | refine af fun K hS hF => ?_ | refine ac rfl ?_)
  refine aE rfl ?_
  (refine am ?_; simp only [TH]; ((repeat ((fail_if_success refine hS _ _ ?_); clear hS)); refine hS _ _ ?_); clear hS; try clear hF)
  refine bJ 5 (by kernel_rfl) rfl rfl ?_
  repeat (refine aQ rfl fun K hK => ?_; simp (disch := omega) only [WW, BB, ↓ab, simprocAttr, h2, h7, aw (off := 0) ha ty111 rfl]; refine ⟨_, ⟨rfl, by first | rfl | trivial⟩, hK _ ?_⟩; clear hK)
  refine aQ rfl fun K hK => ⟨.sl 1 (nE .u8 bs) false, .inr ⟨part, bs, ?_, hv, hbs, rfl, rfl⟩, hK _ ?_⟩
  · simp (disch := omega) only [WW, BB, ↓ab, simprocAttr, h7]
  repeat (first
    | ((first | refine aa rfl fun K hK => ?_ | refine aQ rfl fun K hK => ?_); simp (disch := omega) only [WW, BB, ↓ab, simprocAttr, fl127_1, bp]; refine ⟨_, ⟨rfl, by first | rfl | trivial⟩, hK _ ?_⟩; clear hK) | refine bx ?_)
  refine aq (p := .ptr b 8) (v := .sl 1 (nE .u8 bs) false) rfl rfl rfl (by simp (disch := omega) only [WW, BB, ↓ab, simprocAttr]) (by simp (disch := omega) only [WW, BB, ↓ab, simprocAttr]) (aT (b := b) (off := 8) hb ty64 rfl rfl (by rw [sumR_len h8]; omega)) ?_
  rw [sumR_set8 h8]
  refine ae ?_
  simp only [bi]
  exact hQ _
end
end Go.Av

set_option linter.unusedSimpArgs false
set_option linter.unusedVariables false
namespace Go.Av
open Go.RowKit Go.Proofs

theorem stOf_step {st l : List Nat} (h : 64 ≤ l.length) : stOf st l = stOf (mixOf st (l.take 64)) (l.drop 64) := by
  have e : l.length / 64 = (l.drop 64).length / 64 + 1 := by rw [List.length_drop]; omega
  rw [stOf, e, absorb, stOf]
theorem restOf_step {l : List Nat} (h : 64 ≤ l.length) : restOf l = restOf (l.drop 64) := by
  have e : 64 * (l.length / 64) = 64 + 64 * ((l.drop 64).length / 64) := by rw [List.length_drop]; omega
  rw [restOf, e, restOf, List.drop_drop]
theorem stOf_end {st l : List Nat} (h : ¬ 64 ≤ l.length) : stOf st l = st := by
  have e : l.length / 64 = 0 := by omega
  rw [stOf, e, absorb]
theorem restOf_end {l : List Nat} (h : ¬ 64 ≤ l.length) : restOf l = l := by
  have e : l.length / 64 = 0 := by omega
  rw [restOf, e, Nat.mul_zero, List.drop_zero]

/-- What the loop over blocks makes of a call of its body. -/
def F68 (Y : aC) (t : T) (l : Nat) (ob : LoopState → Option Code → Obj) : Spec0 := fun args H' QY => args.length = 2 ∧ H' l = some (.raw (ob .ready none)) ∧
  wpC Try.prog (tab [(81, s81), (82, s82.or s82v), (83, s83), (84, s84), (99, s99)]) Y [] 41 (asgOf (aU Try.f68 0)) false (onlyA fun t₁ H₁ => H₁ l = some (.raw (ob .ready none)) ∧
    wpC Try.prog (tab [(81, s81), (82, s82.or s82v), (83, s83), (84, s84), (99, s99)]) Y [] 41 (rbodyOf (aU Try.f68 0)) false (bL l ob QY) t₁ (upd H₁ l (some (.raw (ob .busy none))))) (putsT 41 t [29, 30] args) H'

theorem blk68 {Y Y' : aC} {t : T} {l a b c : Nat} {ob : LoopState → Option Code → Obj} {G : Hp} {Qe : Hp → Prop} {rest : V} {many : Nat} (h2 : t 2 = .ptr a 0) (ga : G a = some (.row [.ptr b 0])) (gb : G b = none) (gc : G c = none) (gl : G l = none) (hbc : b ≠ c) (hbl : b ≠ l) (hcl : c ≠ l) :
    ∀ (n : Nat) (st bs : List Nat) (v : V) (X : Hp), bs.length / 64 = n → bs.length ≤ 140737488355328 → st.length = 8 → X b = some (.row (aY st rest many)) → X c = some (.row [v]) → X l = some (.raw (ob .ready none)) → hle G X →
      (∀ X', X' b = some (.row (aY (stOf st bs) (.sl 1 (nE .u8 (restOf bs)) false) many)) → X' l = some (.raw (ob .ready none)) → hle G X' → Qe X') → blkS (upd Y' l (F68 Y t l ob)) l c G Qe (n + 1) bs v X
  | n, st, bs, v, X, hn, hlen, h8, xb, xc, xl, hG, hQ => by
    have yl : ∀ args H Q, F68 Y t l ob args H Q → upd Y' l (F68 Y t l ob) l args H Q := fun args H Q h => by rw [ag]; exact h
    have hal : a ≠ l := fun e => by subst e; rw [ga] at gl; cases gl
    have hab : a ≠ b := fun e => by subst e; rw [ga] at gb; cases gb
    have hX1 : ∀ z, hle G (upd X l z) := fun z => ai hG gl
    refine ⟨xc, by omega, fun h64 part hp => ?_, fun h64 part hp => ?_⟩
    · refine ⟨fun r X' => r = .bool true ∧ X' b = some (.row (aY (mixOf st (bs.take 64)) rest many)) ∧ X' c = some (.row [v]) ∧ X' l = some (.raw (ob .ready none)) ∧ hle G X', yl _ _ _ ⟨rfl, xl, ?_⟩, ?_⟩
      · show wpC Try.prog (tab [(81, s81), (82, s82.or s82v), (83, s83), (84, s84), (99, s99)]) Y [] 41 (asgOf (aU Try.f68 0)) false (onlyA _) (putT 41 (putT 41 t (some 29) (.bool true)) (some 30) part) X
        repeat (first
    | (refine aa rfl fun K hK => ?_; simp (disch := omega) only [WW, BB, ↓ab, simprocAttr]; refine hK _ _ ?_; clear hK) | (refine ae ?_; simp only [TH]; (((repeat ((fail_if_success refine hS _ _ ?_); clear hS)); refine hS _ _ ?_); clear hS; try clear hF)) | refine af fun K hS hF => ?_ | refine ac rfl ?_)
        refine ae ?_
        simp only [onlyA]
        refine ⟨xl, rd68_mix (a := a) (b := b) (st := st) (rest := rest) (many := many) (bs := bs.take 64) (part := part) ?_ ?_ ?_ ?_ ?_ h8 (aL (hX1 _) hp) (by rw [List.length_take]; omega) fun t' => ?_⟩
        · simp (disch := omega) only [WW, BB, ↓ab, simprocAttr]
        · simp (disch := omega) only [WW, BB, ↓ab, simprocAttr]
        · simp (disch := omega) only [WW, BB, ↓ab, simprocAttr, h2]
        · rw [ah _ _ _ hal]; exact hG _ _ ga
        · rw [ah _ _ _ hbl]; exact xb
        · simp only [bL]
          refine ⟨⟨_, _, by rw [ah _ _ _ (Ne.symm hbl), ag]⟩, trivial, ?_, ?_, ag _ _ _, ?_⟩
          · rw [ah _ _ _ hbl, ag]
          · rw [ah _ _ _ hcl, ah _ _ _ (Ne.symm hbc), ah _ _ _ hcl]; exact xc
          · exact ai (ai (hX1 _) gb) gl
      · rintro r X' ⟨rfl, yb, yc, yl', hG'⟩
        refine .inr ⟨rfl, yc, fun v' hv' => ?_⟩
        cases n with
        | zero => omega
        | succ n =>
          refine blk68 (Y := Y) (t := t) (a := a) (b := b) (rest := rest) (many := many) h2 ga gb gc gl hbc hbl hcl n (mixOf st (bs.take 64)) (bs.drop 64) v' _ (by rw [List.length_drop]; omega) (by rw [List.length_drop]; omega) (by rw [mixOf_len, h8]) ?_ (ag _ _ _) ?_ (ai hG' gc) ?_
          · rw [ah _ _ _ hbc]; exact yb
          · rw [ah _ _ _ (Ne.symm hcl)]; exact yl'
          · intro X'' z1 z2 z3
            refine hQ X'' ?_ z2 z3
            rw [stOf_step h64, restOf_step h64]
            exact z1
    · refine ⟨fun r X' => X' b = some (.row (aY st (.sl 1 (nE .u8 bs) false) many)) ∧ X' l = some (.raw (ob .ready none)) ∧ hle G X', yl _ _ _ ⟨rfl, xl, ?_⟩, ?_⟩
      · show wpC Try.prog (tab [(81, s81), (82, s82.or s82v), (83, s83), (84, s84), (99, s99)]) Y [] 41 (asgOf (aU Try.f68 0)) false (onlyA _) (putT 41 (putT 41 t (some 29) (.bool false)) (some 30) part) X
        repeat (first
    | (refine aa rfl fun K hK => ?_; simp (disch := omega) only [WW, BB, ↓ab, simprocAttr]; refine hK _ _ ?_; clear hK) | (refine ae ?_; simp only [TH]; (((repeat ((fail_if_success refine hS _ _ ?_); clear hS)); refine hS _ _ ?_); clear hS; try clear hF)) | refine af fun K hS hF => ?_ | refine ac rfl ?_)
        refine ae ?_
        simp only [onlyA]
        refine ⟨xl, rd68_rest (a := a) (b := b) (st := st) (rest := rest) (many := many) (bs := bs) (part := part) ?_ ?_ ?_ ?_ ?_ h8 (aL (hX1 _) hp) hlen fun t' => ?_⟩
        · simp (disch := omega) only [WW, BB, ↓ab, simprocAttr]
        · simp (disch := omega) only [WW, BB, ↓ab, simprocAttr]
        · simp (disch := omega) only [WW, BB, ↓ab, simprocAttr, h2]
        · rw [ah _ _ _ hal]; exact hG _ _ ga
        · rw [ah _ _ _ hbl]; exact xb
        · simp only [bL]
          refine ⟨⟨_, _, by rw [ah _ _ _ (Ne.symm hbl), ag]⟩, ?_, ag _ _ _, ?_⟩
          · rw [ah _ _ _ hbl, ag]
          · exact ai (ai (hX1 _) gb) gl
      · rintro r X' ⟨yb, yl', hG'⟩
        refine hQ X' ?_ yl' hG'
        rw [stOf_end h64, restOf_end h64]
        exact yb

def s68 : Spec := fun _ args H Q => ∃ b st rest rs many x bs, args = [.ptr b 0, x] ∧ H b = some (.row (aY st rest many)) ∧ st.length = 8 ∧ lt32 st ∧ isB rest rs ∧ one x = true ∧ aW x = some [x] ∧ ao (upd H b none) 1 x = some (nE .u8 bs) ∧ rs.length + bs.length ≤ 140737488355328 ∧
  (st = List.replicate 8 0 → Q .nilp H) ∧ (st ≠ List.replicate 8 0 → Q (.ptr b 0) (upd H b (some (.row (aY (stOf st (rs ++ bs)) (.sl 1 (nE .u8 (restOf (rs ++ bs))) false) ((many + bs.length % 18446744073709551616) % 18446744073709551616))))))

theorem bd {H : Hp} {sz : Nat} {v : V} {es : List (List V)} (h : ao H sz v = some es) : one v = true ∧ aW v = some [v] := by
  cases v <;> simp only [ao, reduceCtorEq] at h <;> exact ⟨rfl, rfl⟩

theorem snd68 : Sound Try.prog 68 s68 := by
  refine ak pm (ap [(81, s81), (82, s82.or s82v), (83, s83), (84, s84), (99, s99)] (by simp [snd81, snd82.or snd82v, snd83, snd84, snd99])) [] Try.func68 rfl (by kernel_rfl) ?_
  rintro Y args H Q ⟨b, st, rest, rs, many, x, bs, rfl, hb, h8, hl32, hr, ho, hcx, hv, hlen, hz, hQ⟩
  refine ⟨by simp [Try.f68], ?_⟩
  show wpC Try.prog (tab [(81, s81), (82, s82.or s82v), (83, s83), (84, s84), (99, s99)]) Y [] 41 _ true (aB Try.prog [.tmp 4] Q) _ H
  repeat (first
    | refine af fun K hS hF => ?_ | refine ac rfl ?_)
  refine aa rfl fun K hK => ⟨[.ptr b 0], rfl, fun a ha => hK _ _ ?_⟩
  have hab : a ≠ b := fun e => aA hb ha e.symm
  have hb1 : upd H a (some (.row [.ptr b 0])) b = some (.row (aY st rest many)) := by rw [ah _ _ _ (Ne.symm hab)]; exact hb
  have ha1 : upd H a (some (.row [.ptr b 0])) a = some (.row [.ptr b 0]) := ag _ _ _
  repeat (first
    | (refine aa rfl fun K hK => ?_; simp (disch := omega) only [WW, BB, ↓ab, simprocAttr, aw (off := 0) ha1 ty111 rfl]; refine hK _ _ ?_; clear hK) | (refine ae ?_; simp only [TH]; (((repeat ((fail_if_success refine hS _ _ ?_); clear hS)); refine hS _ _ ?_); clear hS; try clear hF)) | refine af fun K hS hF => ?_ | refine ac rfl ?_)
  refine aa rfl fun K hK => ⟨b, st, rest, many, rfl, hb1, h8, hl32, hK _ _ ?_⟩
  repeat (refine ae ?_; simp only [TH]; (((repeat ((fail_if_success refine hS _ _ ?_); clear hS)); refine hS _ _ ?_); clear hS; try clear hF))
  refine aH rfl (fun hd => ?_) (fun hd => ?_)
  · repeat (first
    | (refine aa rfl fun K hK => ?_; simp (disch := omega) only [WW, BB, ↓ab, simprocAttr]; refine hK _ _ ?_; clear hK) | (refine ae ?_; simp only [TH]; (((repeat ((fail_if_success refine hS _ _ ?_); clear hS)); refine hS _ _ ?_); clear hS; try clear hF)) | refine af fun K hS hF => ?_ | refine ac rfl ?_ | (refine al ?_; simp (disch := omega) only [TH, TE, WW, BB, ↓ab, simprocAttr]))
    exact ⟨_, rfl, [], _, ai (aj _) ha, hz hd⟩
  · (refine am ?_; simp only [TH]; ((repeat ((fail_if_success refine hS _ _ ?_); clear hS)); refine hS _ _ ?_); clear hS; try clear hF)
    refine bZ fun K hS => ?_
    have hv1 : ao (upd H a (some (.row [.ptr b 0]))) 1 x = some (nE .u8 bs) := aL (bn (hle_del _ _) (ai (aj _) ha)) hv
    refine r68_3 (a := a) (b := b) (x := x) ?_ ?_ (ag _ _ _) hb1 h8 hv1 fun t1 e1 e2 => ?_
    · simp (disch := omega) only [WW, BB, ↓ab, simprocAttr]
    · simp (disch := omega) only [WW, BB, ↓ab, simprocAttr]
    (simp only [TH, ↓reduceIte, Nat.reduceEqDiff]; ((repeat ((fail_if_success refine hS _ _ ?_); clear hS)); refine hS _ _ ?_); clear hS; try clear hF)
    refine bZ fun K hS => ?_
    refine r68_4 (a := a) (b := b) (x := x) (rs := rs) (bs := bs) (rest := rest) e1 e2 ?_ (ag _ _ _) h8 hr ?_ hlen fun t2 v H2 f2 f5 hle2 hvv => ?_
    · rw [ah _ _ _ hab, ag]
    · refine aL ?_ hv
      intro j y hj
      by_cases hjb : j = b
      · subst hjb; rw [ag] at hj; cases hj
      · rw [ah _ _ _ hjb] at hj
        rw [ah _ _ _ hjb, ah _ _ _ (fun e => aA hj ha e)]
        exact hj
    (simp only [TH, ↓reduceIte, Nat.reduceEqDiff]; ((repeat ((fail_if_success refine hS _ _ ?_); clear hS)); refine hS _ _ ?_); clear hS; try clear hF)
    have a2 : H2 a = some (.row [.ptr b 0]) := hle2 _ _ (by rw [ah _ _ _ hab, ag])
    have b2 := hle2 _ _ (ag _ b _)
    refine bZ fun K hS => ?_
    repeat (first
    | (refine aa rfl fun K hK => ?_; simp (disch := omega) only [WW, BB, ↓ab, simprocAttr, f5]; refine hK _ _ ?_; clear hK) | (refine wpC_label ?_; simp only [TH]; (((repeat ((fail_if_success refine hS _ _ ?_); clear hS)); refine hS _ _ ?_); clear hS; try clear hF)) | refine af fun K hS hF => ?_ | refine ac rfl ?_)
    refine aa rfl fun K hK => ⟨v, rfl, (bd hvv).1, (bd hvv).2, fun c hc => hK _ _ ?_⟩
    repeat (first
    | (refine ae ?_; simp only [TH]; (((repeat ((fail_if_success refine hS _ _ ?_); clear hS)); refine hS _ _ ?_); clear hS; try clear hF)) | refine ax ?_)
    refine wpC_range (f := 99) (first := []) (caps := [.ptr c 0]) ?_ (by kernel_rfl) fun l ob hl => ?_
    · simp (disch := omega) only [WW, BB, ↓ab, simprocAttr]
    have hbc : b ≠ c := aA b2 hc
    have hl' := aF hl
    have hbl : b ≠ l := aA b2 hl'.2
    refine ⟨l, c, v, rs ++ bs, (rs ++ bs).length / 64 + 1, upd H2 b none, rfl, hvv, ?_⟩
    refine blk68 (Y := Y) (a := a) (b := b) (rest := rest) (many := (many + bs.length % 18446744073709551616) % 18446744073709551616) ?_ ?_ (ag _ _ _) ?_ ?_ hbc hbl hl'.1 _ st (rs ++ bs) v _ rfl (by rw [List.length_append]; exact hlen) h8 ?_ ?_ (ag _ _ _) ?_ fun X' z1 z2 z3 => ?_
    · simp (disch := omega) only [WW, BB, ↓ab, simprocAttr, f2]
    · rw [ah _ _ _ hab]; exact a2
    · rw [ah _ _ _ (Ne.symm hbc)]; exact hc
    · rw [ah _ _ _ (Ne.symm hbl)]; exact hl'.2
    · rw [ah _ _ _ hbl, ah _ _ _ hbc]; exact b2
    · rw [ah _ _ _ hl'.1, ag]
    · exact ai (ai (hle_del _ _) (by rw [ah _ _ _ (Ne.symm hbc)]; exact hc)) (by rw [ah _ _ _ (Ne.symm hbl)]; exact hl'.2)
    refine ⟨_, _, z2, by simp, ?_⟩
    simp only [endA, bi, bC]
    have x1 : upd X' l none a = some (.row [.ptr b 0]) := by
      have hal : a ≠ l := aA a2 hl'.2
      rw [ah _ _ _ hal]
      exact z3 _ _ (by rw [ah _ _ _ hab]; exact a2)
    refine hS _ _ ?_
    clear hS
    repeat (first
    | (refine aa rfl fun K hK => ?_; simp (disch := omega) only [WW, BB, ↓ab, simprocAttr, f2, aw (off := 0) x1 ty111 rfl]; refine hK _ _ ?_; clear hK) | (refine ae ?_; simp only [TH]; (((repeat ((fail_if_success refine hS _ _ ?_); clear hS)); refine hS _ _ ?_); clear hS; try clear hF)) | refine af fun K hS hF => ?_ | refine ac rfl ?_ | (refine al ?_; simp (disch := omega) only [TH, TE, WW, BB, ↓ab, simprocAttr, f2, aw (off := 0) x1 ty111 rfl]))
    refine ⟨_, rfl, [], _, ?_, hQ hd⟩
    intro j y hj
    by_cases hjb : j = b
    · subst hjb
      rw [ag] at hj
      cases hj
      rw [ah _ _ _ hbl]
      exact z1
    · rw [ah _ _ _ hjb] at hj
      have hja : j ≠ a := aA hj ha
      have j2 : H2 j = some y := hle2 _ _ (by rw [ah _ _ _ hjb, ah _ _ _ hja]; exact hj)
      rw [ah _ _ _ (aA j2 hl'.2)]
      exact z3 _ _ (by rw [ah _ _ _ hjb]; exact j2)
end Go.Av

set_option linter.unusedSimpArgs false
set_option linter.unusedVariables false
namespace Go.Av
open Go.RowKit Go.Proofs

/-- A number that counts down from 7. -/
def iv (j : Nat) : V := .int .i64 (7 - (j : Int))
section
variable {P : Program} {t : TypeId} {H : Hp}
theorem iv_sub {j : Nat} (h : j ≤ 7) : aI P .sub t (iv j) (vN .i64 1) = some (iv (j + 1)) := by
  have e : IntKind.wrap .i64 (7 - (j : Int) - 1) = 7 - ((j + 1 : Nat) : Int) := by
    have : j = 0 ∨ j = 1 ∨ j = 2 ∨ j = 3 ∨ j = 4 ∨ j = 5 ∨ j = 6 ∨ j = 7 := by omega
    rcases this with rfl | rfl | rfl | rfl | rfl | rfl | rfl | rfl <;> rfl
  simp only [iv, vN, aZ, bz]
  exact congrArg (fun x => some (V.int .i64 x)) e
theorem iv_geq {j : Nat} : aI P .geq t (iv j) (vN .i64 0) = some (.bool (decide (j < 8))) := by
  simp only [iv, vN, aZ, bz]
  congr 2
  exact decide_eq_decide.2 (by omega)
theorem iv_mul {j : Nat} (h : j ≤ 7) : aI P .mul t (vN .i64 8) (iv j) = some (vN .i64 (8 * (7 - j))) := by
  have e : IntKind.wrap .i64 (8 * (7 - (j : Int))) = ((8 * (7 - j) : Nat) : Int) := by
    have : j = 0 ∨ j = 1 ∨ j = 2 ∨ j = 3 ∨ j = 4 ∨ j = 5 ∨ j = 6 ∨ j = 7 := by omega
    rcases this with rfl | rfl | rfl | rfl | rfl | rfl | rfl | rfl <;> rfl
  simp only [iv, vN, aZ, bz]
  exact congrArg (fun x => some (V.int .i64 x)) e
theorem wpBin_iv {op : BinOp} {j b : Nat} {k : IntKind} {Q : V → Hp → Prop} : wpBin P H op t (iv j) (vN k b) Q = val (aI P op t (iv j) (vN k b)) H Q := rfl
theorem wpBin_vi {op : BinOp} {j b : Nat} {k : IntKind} {Q : V → Hp → Prop} : wpBin P H op t (vN k b) (iv j) Q = val (aI P op t (vN k b) (iv j)) H Q := rfl
theorem iv_0 : iv 0 = vN .i64 7 := rfl
end

/-- How many zeros stand behind the mark. -/
def padZ (n : Nat) : Nat := (119 - n % 64) % 64
theorem padZ_lt {n k : Nat} (h : k ≤ padZ n) : (n + (k + 1) + 8) % 64 = 0 ↔ k = padZ n := by
  unfold padZ at *
  omega

def lenB (m n : Nat) : List Nat := (List.range n).map fun j => m / 2 ^ min (8 * (7 - j)) 64 % 256
theorem lenB_succ (m n : Nat) : lenB m (n + 1) = lenB m n ++ [m / 2 ^ min (8 * (7 - n)) 64 % 256] := by simp [lenB, List.range_succ]
theorem lenB_len (m n : Nat) : (lenB m n).length = n := by simp [lenB]
def tailB (n m : Nat) : List Nat := (128 :: List.replicate (padZ n) 0) ++ lenB m 8
theorem tailB_len (n m : Nat) : (tailB n m).length = padZ n + 9 := by simp [tailB, lenB_len]

def outN (st : List Nat) (n : Nat) : List Nat := (List.range n).foldl (fun l i => l.set i (st.getD (i / 4) 0 / 2 ^ min (8 * (3 - i % 4)) 32 % 256)) (List.replicate 32 0)
theorem outN_succ (st : List Nat) (n : Nat) : outN st (n + 1) = (outN st n).set n (st.getD (n / 4) 0 / 2 ^ min (8 * (3 - n % 4)) 32 % 256) := by simp [outN, List.range_succ]
theorem outN_len (st : List Nat) : ∀ n, (outN st n).length = 32
  | 0 => by simp [outN]
  | n + 1 => by rw [outN_succ, List.length_set, outN_len st n]

theorem bs64_own {S : Nat → Spec} {Y : aC} {H : Hp} {t : T} {Q : V → Hp → Prop} {x : Operand} {y : V} (hx : evT t x = y) (hc : aW y = some [y]) (h : Q (.sl 1 [[y]] true) H) : wpOp Try.prog S Y false H (evT t) (.buildSlice 64 1 #[(0, x)]) Q := by
  refine ⟨1, [[vN .u8 0]], [[y]], by kernel_rfl, by omega, ?_, h⟩
  simp only [List.map_cons, List.map_nil, bv, hx, hc]
  rfl

/-- append of one byte. -/
theorem append_b {H : Hp} {d n : Nat} {full : Bool} {bs : List Nat} {x : Nat} {Q : V → Hp → Prop} (hH : H d = some (.arr 1 (nE .u8 bs))) (hn : n = bs.length) (hl : bs.length < 140737488355328)
    (h : ∀ e, (e = d ∨ H e = none) → Q (.osl e 0 (bs ++ [x]).length 1 false) (upd (upd H d none) e (some (.arr 1 (nE .u8 (bs ++ [x])))))) : wpAppend Try.prog H 64 64 (.osl d 0 n 1 full) (.sl 1 [[vN .u8 x]] true) Q := by
  subst hn
  refine append_osl (fs := nE .u8 [x]) hH (az _ _).symm ds64 sl64 ?_ (nE_ones _ _) (by rw [by64, az]; simp; omega) (by rw [az]; simp; omega) fun e he => ?_
  · simp [ao, nE]
  · have := h e he
    rw [nE_append, az]
    rw [List.length_append] at this
    exact this

section
variable {Y : aC} {Q : Exit → T → Hp → Prop} {t : T} {H : Hp} {b c d o m : Nat} {st rs bs : List Nat} {x rest : V} {many : Nat}

theorem l69_1 (t4 : t 4 = .ptr c 0) (t6 : t 6 = .osl d 0 1 1 true) (hd : H d = some (.arr 1 (nE .u8 [128]))) (hc : H c = some (.row (aY st rest many))) (h8 : st.length = 8) (hr : isB rest rs) (hrl : rs.length ≤ 1099511627776) (hcd : c ≠ d)
    (hQ : ∀ t' e, t' 0 = t 0 → t' 2 = t 2 → t' 3 = t 3 → t' 4 = .ptr c 0 → t' 5 = t 5 → (e = d ∨ H e = none) → t' 6 = .osl e 0 (padZ rs.length + 1) 1 (decide (padZ rs.length = 0)) → Q (.exit 0) t' (upd (upd H d none) e (some (.arr 1 (nE .u8 (128 :: List.replicate (padZ rs.length) 0)))))) :
    wpC Try.prog (tab [(68, s68), (81, s81), (85, s85)]) Y [19] 69 (aU Try.f69 0) true Q t H := by
  have hz : padZ rs.length ≤ 63 := by unfold padZ; omega
  refine aO (fun m t' H' => ∃ k e, m = padZ rs.length - k ∧ k ≤ padZ rs.length ∧ t' 0 = t 0 ∧ t' 2 = t 2 ∧ t' 3 = t 3 ∧ t' 4 = .ptr c 0 ∧ t' 5 = t 5 ∧ (e = d ∨ H e = none) ∧ t' 6 = .osl e 0 (k + 1) 1 (decide (k = 0)) ∧ H' = upd (upd H d none) e (some (.arr 1 (nE .u8 (128 :: List.replicate k 0))))) (padZ rs.length) ⟨0, d, rfl, by omega, rfl, rfl, rfl, t4, rfl, .inl rfl, t6, ?_⟩ fun KL m t1 H' hI hKL => ?_
  · rw [aD]
    funext j
    by_cases hj : j = d
    · subst hj; rw [ag, hd]; rfl
    · rw [ah _ _ _ hj]
  obtain ⟨k, e, rfl, hk, q0, q2, q3, q4, q5, he, q6, rfl⟩ := hI
  have hce : c ≠ e := by
    rcases he with rfl | he
    · exact hcd
    · exact aA hc he
  have hc1 : upd (upd H d none) e (some (.arr 1 (nE .u8 (128 :: List.replicate k 0)))) c = some (.row (aY st rest many)) := by rw [ah _ _ _ hce, ah _ _ _ hcd]; exact hc
  have hly := av sl64 (isB_view hr H)
  rw [az] at hly
  have hlo : lenV Try.prog 64 (.osl e 0 (k + 1) 1 (decide (k = 0))) = some (vN .i64 (k + 1)) := by
    have := av (P := Try.prog) (t := 64) sl64 (view_osl (H := H) (d := e) (sz := 1) (full := decide (k = 0)) (es := nE .u8 (128 :: List.replicate k 0)))
    rw [az, List.length_cons, List.length_replicate] at this
    exact this
  repeat (first
    | (refine aa rfl fun K hK => ?_; simp (disch := omega) only [WW, BB, ↓ab, simprocAttr, q4, q6, fl127_1, bp, aw hc1 ty64 (sumR_rest h8 rest many), hly, hlo, aP, N_rem]; refine hK _ _ ?_; clear hK) | (refine ae ?_; simp only [TH]; (((repeat ((fail_if_success refine hS _ _ ?_); clear hS)); refine hS _ _ ?_); clear hS; try clear hF)) | refine af fun K hS hF => ?_ | refine ac rfl ?_)
  refine aH rfl (fun hd2 => ?_) (fun hd2 => ?_)
  · (refine am ?_; simp only [TH]; ((repeat ((fail_if_success refine hS _ _ ?_); clear hS)); refine hS _ _ ?_); clear hS; try clear hF)
    have hk2 : k < padZ rs.length := by
      have := padZ_lt hk
      omega
    repeat (first
    | (refine aa rfl fun K hK => ?_; simp (disch := omega) only [WW, BB, ↓ab, simprocAttr, q6]; refine hK _ _ ?_; clear hK) | refine ac rfl ?_ | refine ax ?_)
    refine aa rfl fun K hK => bs64_own rfl rfl (hK _ _ ?_)
    skip
    refine aa rfl fun K hK => ?_
    simp (disch := omega) only [WW, BB, ↓ab, simprocAttr, q6]
    refine append_b (bs := 128 :: List.replicate k 0) (x := 0) (ag _ _ _) (by simp) (by simp; omega) fun e' he' => hK _ _ ?_
    have hee : e' = d ∨ H e' = none := by
      rcases he' with rfl | he'
      · exact he
      · by_cases h1 : e' = d
        · exact .inl h1
        · refine .inr ?_
          by_cases h2 : e' = e
          · subst h2; rw [ag] at he'; cases he'
          · rw [ah _ _ _ h2, ah _ _ _ h1] at he'; exact he'
    have hX : upd (upd (upd (upd H d none) e (some (.arr 1 (nE .u8 (128 :: List.replicate k 0))))) e none) e' (some (.arr 1 (nE .u8 (128 :: List.replicate k 0 ++ [0])))) = upd (upd H d none) e' (some (.arr 1 (nE .u8 (128 :: List.replicate (k + 1) 0)))) := by
      rw [aD]
      have : (128 :: List.replicate k 0 ++ [0] : List Nat) = 128 :: List.replicate (k + 1) 0 := by rw [List.cons_append, ← List.replicate_succ']
      rw [this]
      have h0 : upd (upd H d none) e none = upd H d none := by
        funext j
        by_cases hj : j = e
        · subst hj
          rw [ag]
          rcases he with rfl | he
          · rw [ag]
          · by_cases hjd : j = d
            · subst hjd; rw [ag]
            · rw [ah _ _ _ hjd, he]
        · rw [ah _ _ _ hj]
      rw [h0]
    rw [hX]
    repeat (first
    | (refine aa rfl fun K hK => ?_; simp (disch := omega) only [WW, BB, ↓ab, simprocAttr]; refine hK _ _ ?_; clear hK) | (refine ae ?_; simp only [TH]; first | (((repeat ((fail_if_success refine hS _ _ ?_); clear hS)); refine hS _ _ ?_); clear hS; try clear hF) | skip))
    refine hKL _ _ _ (by omega : padZ rs.length - (k + 1) < padZ rs.length - k) ⟨k + 1, e', rfl, by omega, ?_, ?_, ?_, ?_, ?_, hee, ?_, rfl⟩
    · simp (disch := omega) only [WW, BB, ↓ab, simprocAttr, q0]
    · simp (disch := omega) only [WW, BB, ↓ab, simprocAttr, q2]
    · simp (disch := omega) only [WW, BB, ↓ab, simprocAttr, q3]
    · simp (disch := omega) only [WW, BB, ↓ab, simprocAttr, q4]
    · simp (disch := omega) only [WW, BB, ↓ab, simprocAttr, q5]
    · simp (disch := omega) only [WW, BB, ↓ab, simprocAttr]
      simp
  · refine aG ?_
    have hk2 : k = padZ rs.length := by
      have := padZ_lt hk
      omega
    subst hk2
    refine hQ _ e ?_ ?_ ?_ ?_ ?_ he ?_
    · simp (disch := omega) only [WW, BB, ↓ab, simprocAttr, q0]
    · simp (disch := omega) only [WW, BB, ↓ab, simprocAttr, q2]
    · simp (disch := omega) only [WW, BB, ↓ab, simprocAttr, q3]
    · simp (disch := omega) only [WW, BB, ↓ab, simprocAttr, q4]
    · simp (disch := omega) only [WW, BB, ↓ab, simprocAttr, q5]
    · simp (disch := omega) only [WW, BB, ↓ab, simprocAttr, q6]
end
end Go.Av

set_option linter.unusedSimpArgs false
set_option linter.unusedVariables false
namespace Go.Av
open Go.RowKit Go.Proofs

theorem grown_heap {H : Hp} {d e e' : Nat} {x y z : Blk} (he : e = d ∨ H e = none) (he' : e' = e ∨ upd (upd H d none) e (some x) e' = none) :
    (e' = d ∨ H e' = none) ∧ upd (upd (upd (upd H d none) e (some x)) e none) e' (some y) = upd (upd H d none) e' (some y) := by
  refine ⟨?_, ?_⟩
  · rcases he' with rfl | he'
    · exact he
    · by_cases h1 : e' = d
      · exact .inl h1
      · refine .inr ?_
        by_cases h2 : e' = e
        · subst h2; rw [ag] at he'; cases he'
        · rw [ah _ _ _ h2, ah _ _ _ h1] at he'; exact he'
  · rw [aD]
    have h0 : upd (upd H d none) e none = upd H d none := by
      funext j
      by_cases hj : j = e
      · subst hj
        rw [ag]
        rcases he with rfl | he
        · rw [ag]
        · by_cases hjd : j = d
          · subst hjd; rw [ag]
          · rw [ah _ _ _ hjd, he]
      · rw [ah _ _ _ hj]
    rw [h0]

section
variable {Y : aC} {Q : Exit → T → Hp → Prop} {t : T} {H : Hp} {b c d o m : Nat} {st rs bs tl : List Nat} {x rest : V} {many : Nat} {full : Bool}

theorem l69_2 (t5 : t 5 = vN .u64 m) (t6 : t 6 = .osl d 0 tl.length 1 full) (t7 : t 7 = iv 0) (hd : H d = some (.arr 1 (nE .u8 tl))) (hl : tl.length ≤ 1000)
    (hQ : ∀ t' e full', t' 0 = t 0 → t' 2 = t 2 → t' 3 = t 3 → t' 4 = t 4 → (e = d ∨ H e = none) → t' 6 = .osl e 0 (tl ++ lenB m 8).length 1 full' → Q (.exit 2) t' (upd (upd H d none) e (some (.arr 1 (nE .u8 (tl ++ lenB m 8)))))) :
    wpC Try.prog (tab [(68, s68), (81, s81), (85, s85)]) Y [19] 69 (aU Try.f69 1) true Q t H := by
  refine aO (fun q t' H' => ∃ j e f, q = 8 - j ∧ j ≤ 8 ∧ t' 0 = t 0 ∧ t' 2 = t 2 ∧ t' 3 = t 3 ∧ t' 4 = t 4 ∧ t' 5 = vN .u64 m ∧ (e = d ∨ H e = none) ∧ t' 6 = .osl e 0 (tl ++ lenB m j).length 1 f ∧ t' 7 = iv j ∧ H' = upd (upd H d none) e (some (.arr 1 (nE .u8 (tl ++ lenB m j))))) 8 ⟨0, d, full, rfl, by omega, rfl, rfl, rfl, rfl, t5, .inl rfl, ?_, t7, ?_⟩ fun KL m1 t1 H' hI hKL => ?_
  · rw [t6]; simp [lenB]
  · rw [aD]
    funext j
    by_cases hj : j = d
    · subst hj; rw [ag, hd]; simp [lenB]
    · rw [ah _ _ _ hj]
  obtain ⟨j, e, f, rfl, hj, q0, q2, q3, q4, q5, he, q6, q7, rfl⟩ := hI
  repeat (first
    | (refine aa rfl fun K hK => ?_; simp (disch := omega) only [WW, BB, ↓ab, simprocAttr, q7, wpBin_iv, iv_geq]; refine hK _ _ ?_; clear hK) | (refine ae ?_; simp only [TH]; (((repeat ((fail_if_success refine hS _ _ ?_); clear hS)); refine hS _ _ ?_); clear hS; try clear hF)) | refine af fun K hS hF => ?_ | refine ac rfl ?_)
  refine aH rfl (fun hd => ?_) (fun hd => ?_)
  · (refine am ?_; simp only [TH]; ((repeat ((fail_if_success refine hS _ _ ?_); clear hS)); refine hS _ _ ?_); clear hS; try clear hF)
    repeat (first
    | (refine aa rfl fun K hK => ?_; simp (disch := omega) only [WW, BB, ↓ab, simprocAttr, q5, q6, q7, wpBin_vi, iv_mul, conv_u8 _ us91 i5]; refine hK _ _ ?_; clear hK) | refine af fun K hS hF => ?_ | refine ac rfl ?_ | refine ax ?_)
    refine aa rfl fun K hK => bs64_own rfl (by simp (disch := omega) only [WW, BB, ↓ab, simprocAttr, vN_cells]) (hK _ _ ?_)
    skip
    refine aa rfl fun K hK => ?_
    simp (disch := omega) only [WW, BB, ↓ab, simprocAttr]
    refine append_b (bs := tl ++ lenB m j) (ag _ _ _) rfl (by rw [List.length_append, lenB_len]; omega) fun e' he' => hK _ _ ?_
    obtain ⟨g1, g2⟩ := grown_heap (y := .arr 1 (nE .u8 (tl ++ lenB m j ++ [m / 2 ^ min (8 * (7 - j)) 64 % 256]))) (z := .arr 1 []) he he'
    rw [g2]
    repeat (first
    | (refine aa rfl fun K hK => ?_; simp (disch := omega) only [WW, BB, ↓ab, simprocAttr, q7, wpBin_iv, iv_sub]; refine hK _ _ ?_; clear hK) | (refine ae ?_; simp only [TH]; first | (((repeat ((fail_if_success refine hS _ _ ?_); clear hS)); refine hS _ _ ?_); clear hS; try clear hF) | skip) | refine ac rfl ?_)
    refine hKL _ _ _ (by omega : 8 - (j + 1) < 8 - j) ⟨j + 1, e', false, rfl, by omega, ?_, ?_, ?_, ?_, ?_, g1, ?_, ?_, ?_⟩
    · simp (disch := omega) only [WW, BB, ↓ab, simprocAttr, q0]
    · simp (disch := omega) only [WW, BB, ↓ab, simprocAttr, q2]
    · simp (disch := omega) only [WW, BB, ↓ab, simprocAttr, q3]
    · simp (disch := omega) only [WW, BB, ↓ab, simprocAttr, q4]
    · simp (disch := omega) only [WW, BB, ↓ab, simprocAttr, q5]
    · simp (disch := omega) only [WW, BB, ↓ab, simprocAttr, lenB_succ, List.append_assoc]
    · simp (disch := omega) only [WW, BB, ↓ab, simprocAttr]
    · rw [lenB_succ, List.append_assoc]
  · refine aG ?_
    have hj8 : j = 8 := by omega
    subst hj8
    refine hQ _ e f ?_ ?_ ?_ ?_ he ?_
    · simp (disch := omega) only [WW, BB, ↓ab, simprocAttr, q0]
    · simp (disch := omega) only [WW, BB, ↓ab, simprocAttr, q2]
    · simp (disch := omega) only [WW, BB, ↓ab, simprocAttr, q3]
    · simp (disch := omega) only [WW, BB, ↓ab, simprocAttr, q4]
    · simp (disch := omega) only [WW, BB, ↓ab, simprocAttr, q6]

theorem l69_3 (t3 : t 3 = .ptr o 0) (t4 : t 4 = .ptr c 0) (t49 : t 49 = vN .i64 0) (hc : H c = some (.row (aY st rest many))) (ho : H o = some (.row (nR .u8 (List.replicate 32 0)))) (h8 : st.length = 8) (hco : c ≠ o)
    (hQ : ∀ t', t' 2 = t 2 → t' 3 = .ptr o 0 → Q (.exit 4) t' (upd H o (some (.row (nR .u8 (outN st 32)))))) :
    wpC Try.prog (tab [(68, s68), (81, s81), (85, s85)]) Y [19] 69 (aU Try.f69 2) true Q t H := by
  refine aO (fun q t' H' => ∃ i, q = 32 - i ∧ i ≤ 32 ∧ t' 2 = t 2 ∧ t' 3 = .ptr o 0 ∧ t' 4 = .ptr c 0 ∧ t' 49 = vN .i64 i ∧ H' = upd H o (some (.row (nR .u8 (outN st i))))) 32 ⟨0, rfl, by omega, rfl, t3, t4, t49, ?_⟩ fun KL m1 t1 H' hI hKL => ?_
  · funext j
    by_cases hj : j = o
    · subst hj; rw [ag, ho]; rfl
    · rw [ah _ _ _ hj]
  obtain ⟨i, rfl, hi, q2, q3, q4, q49, rfl⟩ := hI
  have hc1 : upd H o (some (.row (nR .u8 (outN st i)))) c = some (.row (aY st rest many)) := by rw [ah _ _ _ hco]; exact hc
  repeat (first
    | (refine aa rfl fun K hK => ?_; simp (disch := omega) only [WW, BB, ↓ab, simprocAttr, q49]; refine hK _ _ ?_; clear hK) | (refine ae ?_; simp only [TH]; (((repeat ((fail_if_success refine hS _ _ ?_); clear hS)); refine hS _ _ ?_); clear hS; try clear hF)) | refine af fun K hS hF => ?_ | refine ac rfl ?_)
  refine aH rfl (fun hd => ?_) (fun hd => ?_)
  · (refine am ?_; simp only [TH]; ((repeat ((fail_if_success refine hS _ _ ?_); clear hS)); refine hS _ _ ?_); clear hS; try clear hF)
    repeat (first
    | (refine aa rfl fun K hK => ?_; simp (disch := omega) only [WW, BB, ↓ab, simprocAttr, q3, q4, q49, i64_quo, N_rem, i64_sub, i64_mul, fl127_0, bp, ix_row ar124, ix_row ar25, aw hc1 ty44 (sumR_get h8 rest many (i := i / 4) (by omega)), conv_u8 _ us44 i5]; refine hK _ _ ?_; clear hK) | (refine ae ?_; simp only [TH]; (((repeat ((fail_if_success refine hS _ _ ?_); clear hS)); refine hS _ _ ?_); clear hS; try clear hF)) | refine af fun K hS hF => ?_ | refine ac rfl ?_)
    refine aq (p := .ptr o i) (v := vN .u8 _) rfl rfl rfl (by simp (disch := omega) only [WW, BB, ↓ab, simprocAttr]) rfl (aT (b := o) (off := i) (ag _ _ _) ty5 (vN_cells _ _) (vN_one _ _) (by rw [ar, outN_len]; omega)) ?_
    rw [aD, nR_set]
    repeat (first
    | (refine aa rfl fun K hK => ?_; simp (disch := omega) only [WW, BB, ↓ab, simprocAttr, q49, aP]; refine hK _ _ ?_; clear hK) | (refine ae ?_; simp only [TH]; first | (((repeat ((fail_if_success refine hS _ _ ?_); clear hS)); refine hS _ _ ?_); clear hS; try clear hF) | skip) | refine ac rfl ?_)
    refine hKL _ _ _ (by omega : 32 - (i + 1) < 32 - i) ⟨i + 1, rfl, by omega, ?_, ?_, ?_, ?_, ?_⟩
    · simp (disch := omega) only [WW, BB, ↓ab, simprocAttr, q2]
    · simp (disch := omega) only [WW, BB, ↓ab, simprocAttr, q3]
    · simp (disch := omega) only [WW, BB, ↓ab, simprocAttr, q4]
    · simp (disch := omega) only [WW, BB, ↓ab, simprocAttr]
    · rw [outN_succ]
  · refine aG ?_
    have hi8 : i = 32 := by omega
    subst hi8
    refine hQ _ ?_ ?_
    · simp (disch := omega) only [WW, BB, ↓ab, simprocAttr, q2]
    · simp (disch := omega) only [WW, BB, ↓ab, simprocAttr, q3]
end
end Go.Av

set_option linter.unusedSimpArgs false
set_option linter.unusedVariables false
namespace Go.Av
open Go.RowKit Go.Proofs

def endOf (st rs : List Nat) (many : Nat) : List Nat := outN (stOf st (rs ++ tailB rs.length (many * 8 % 18446744073709551616))) 32

def sumEnd (st rs : List Nat) (many : Nat) : List Nat := if st = List.replicate 8 0 then List.replicate 32 0 else endOf st rs many
theorem sumEnd_len (st rs : List Nat) (m : Nat) : (sumEnd st rs m).length = 32 := by
  unfold sumEnd
  split
  · rfl
  · exact outN_len _ _

def s69 : Spec := fun _ args H Q => ∃ b st rest rs many, args = [.ptr b 0] ∧ H b = some (.row (aY st rest many)) ∧ st.length = 8 ∧ lt32 st ∧ isB rest rs ∧ rs.length ≤ 1099511627776 ∧
  Q (.agg (nR .u8 (sumEnd st rs many))) H

theorem res_cell {P : Program} {H : Hp} {t : T} {s ty n r : Nat} {cells : List V} (ht : t s = .ptr r 0) (hr : H r = some (.row cells)) (hty : tyT P ty = some (true, n)) (hn : cells.length = n) : ressV P t H [.cell s ty] = some [.agg cells] := by
  simp only [ressV, resV, ht, aJ hr hty hn, Option.bind_some, Option.map_some]

theorem hle_upd2 {H H' : Hp} (h : hle H H') {c : Nat} {z : Option Blk} (hc : H c = none) : hle H (upd H' c z) := ai h hc

theorem snd69 : Sound Try.prog 69 s69 := by
  refine ak pm (ap [(68, s68), (81, s81), (85, s85)] (by simp [snd68, snd81, snd85])) [19] Try.func69 rfl (by kernel_rfl) ?_
  rintro Y args H Q ⟨b, st, rest, rs, many, rfl, hb, h8, hl32, hr, hrl, hQ⟩
  refine ⟨by simp [Try.f69], ?_⟩
  show wpC Try.prog (tab [(68, s68), (81, s81), (85, s85)]) Y [19] 69 _ true (aB Try.prog [.cell 2 25] Q) _ H
  repeat (first
    | refine af fun K hS hF => ?_ | refine ac rfl ?_)
  refine aa rfl fun K hK => ⟨_, z25, fun r hr0 => hK _ _ ?_⟩
  repeat (first
    | (refine ae ?_; simp only [TH]; (((repeat ((fail_if_success refine hS _ _ ?_); clear hS)); refine hS _ _ ?_); clear hS; try clear hF)) | refine af fun K hS hF => ?_ | refine ac rfl ?_)
  refine aa rfl fun K hK => ⟨_, z25, fun o ho0 => hK _ _ ?_⟩
  have hbr : b ≠ r := aA hb hr0
  have ho1 := aF ho0
  have hbo : b ≠ o := aA hb ho1.2
  have hb1 : upd (upd H r (some (.row (List.replicate 32 (vN .u8 0))))) o (some (.row (List.replicate 32 (vN .u8 0)))) b = some (.row (aY st rest many)) := by
    rw [ah _ _ _ hbo, ah _ _ _ hbr]; exact hb
  repeat (first
    | (refine aa rfl fun K hK => ?_; simp (disch := omega) only [WW, BB, ↓ab, ↓reduceIte, Int.reduceLT, Int.reduceNeg, Int.reduceLE, Int.reduceToNat, Nat.reduceLT, Nat.reduceEqDiff, Nat.reduceAdd, Nat.reduceMul, Nat.reduceSub, Nat.reduceLeDiff, Nat.reduceBEq]; refine hK _ _ ?_; clear hK) | (refine ae ?_; simp only [TH]; (((repeat ((fail_if_success refine hS _ _ ?_); clear hS)); refine hS _ _ ?_); clear hS; try clear hF)) | refine af fun K hS hF => ?_ | refine ac rfl ?_)
  refine aa rfl fun K hK => ⟨b, st, rest, many, rfl, hb1, h8, hl32, hK _ _ ?_⟩
  repeat (refine ae ?_; simp only [TH]; (((repeat ((fail_if_success refine hS _ _ ?_); clear hS)); refine hS _ _ ?_); clear hS; try clear hF))
  refine aH rfl (fun hd => ?_) (fun hd => ?_)
  · rw [sumEnd, if_pos hd] at hQ
    have hlo := aJ (P := Try.prog) (t := 25) (ag (upd H r (some (.row (List.replicate 32 (vN .u8 0))))) o (some (.row (List.replicate 32 (vN .u8 0))))) bb rfl
    repeat (first
    | (refine aa rfl fun K hK => ?_; simp (disch := omega) only [WW, BB, ↓ab, ↓reduceIte, Int.reduceLT, Int.reduceNeg, Int.reduceLE, Int.reduceToNat, Nat.reduceLT, Nat.reduceEqDiff, Nat.reduceAdd, Nat.reduceMul, Nat.reduceSub, Nat.reduceLeDiff, Nat.reduceBEq, hlo]; refine hK _ _ ?_; clear hK) | refine af fun K hS hF => ?_ | refine ac rfl ?_)
    refine aa rfl fun K hK => ?_
    simp (disch := omega) only [WW, BB, ↓ab, ↓reduceIte, Int.reduceLT, Int.reduceNeg, Int.reduceLE, Int.reduceToNat, Nat.reduceLT, Nat.reduceEqDiff, Nat.reduceAdd, Nat.reduceMul, Nat.reduceSub, Nat.reduceLeDiff, Nat.reduceBEq]
    refine ⟨_, au (b := r) (by rw [ah _ _ _ ho1.1, ag]) bb rfl rfl rfl, hK _ _ ?_⟩
    repeat (first
    | (refine ae ?_; simp only [TH]; (((repeat ((fail_if_success refine hS _ _ ?_); clear hS)); refine hS _ _ ?_); clear hS; try clear hF)) | (refine al ?_; simp (disch := omega) only [TH, TE, WW, BB, ↓ab, ↓reduceIte, Int.reduceLT, Int.reduceNeg, Int.reduceLE, Int.reduceToNat, Nat.reduceLT, Nat.reduceEqDiff, Nat.reduceAdd, Nat.reduceMul, Nat.reduceSub, Nat.reduceLeDiff, Nat.reduceBEq]))
    refine ⟨_, res_cell (r := r) rfl (ag _ _ _) bb rfl, [], H, ?_, hQ⟩
    exact ai (ai (ai (aj _) hr0) ho1.2) hr0
  · rw [sumEnd, if_neg hd] at hQ
    (refine am ?_; simp only [TH]; ((repeat ((fail_if_success refine hS _ _ ?_); clear hS)); refine hS _ _ ?_); clear hS; try clear hF)
    generalize hHc : upd (upd H r (some (.row (List.replicate 32 (vN .u8 0))))) o (some (.row (List.replicate 32 (vN .u8 0)))) = Hc at *
    have hle1 : hle H Hc := by rw [← hHc]; exact ai (ai (aj _) hr0) ho1.2
    have hr1 : Hc r = some (.row (nR .u8 (List.replicate 32 0))) := by rw [← hHc, ah _ _ _ ho1.1, ag, nR_rep]
    have ho2 : Hc o = some (.row (nR .u8 (List.replicate 32 0))) := by rw [← hHc, ag, nR_rep]
    refine wpC_cut (F := fun t' => t' 0 = .ptr b 0 ∧ t' 2 = .ptr r 0 ∧ t' 3 = .ptr o 0) ⟨?_, ?_, ?_⟩ ?_
    · simp (disch := omega) only [WW, BB, ↓ab, ↓reduceIte, Int.reduceLT, Int.reduceNeg, Int.reduceLE, Int.reduceToNat, Nat.reduceLT, Nat.reduceEqDiff, Nat.reduceAdd, Nat.reduceMul, Nat.reduceSub, Nat.reduceLeDiff, Nat.reduceBEq]
    · simp (disch := omega) only [WW, BB, ↓ab, ↓reduceIte, Int.reduceLT, Int.reduceNeg, Int.reduceLE, Int.reduceToNat, Nat.reduceLT, Nat.reduceEqDiff, Nat.reduceAdd, Nat.reduceMul, Nat.reduceSub, Nat.reduceLeDiff, Nat.reduceBEq]
    · simp (disch := omega) only [WW, BB, ↓ab, ↓reduceIte, Int.reduceLT, Int.reduceNeg, Int.reduceLE, Int.reduceToNat, Nat.reduceLT, Nat.reduceEqDiff, Nat.reduceAdd, Nat.reduceMul, Nat.reduceSub, Nat.reduceLeDiff, Nat.reduceBEq]
    rintro t1 ⟨q0, q2, q3⟩
    refine bZ fun K hS => ?_
    refine ck 8 [0, 2, 3, 4, 5, 6] (fun i => decide (i = 1)) (fun H' => hle Hc H') (by kernel_rfl) (aj _) fun L B hBd hL => ?_
    refine ay rfl rfl rfl ⟨.ptr b 0, fun H' hC => ⟨_, rfl, q0, rfl⟩, ?_⟩
    refine ay rfl rfl rfl ⟨.ptr b 0, fun H' hC => ⟨_, rfl, q0, rfl⟩, ?_⟩
    refine ay rfl rfl rfl ⟨.ptr b 0, fun H' hC => ⟨_, rfl, rfl, rfl⟩, ?_⟩
    refine ay rfl rfl rfl ⟨.ptr b 9, fun H' hC => ?_, ?_⟩
    · simp (disch := omega) only [WW, BB, ↓ab, ↓reduceIte, Int.reduceLT, Int.reduceNeg, Int.reduceLE, Int.reduceToNat, Nat.reduceLT, Nat.reduceEqDiff, Nat.reduceAdd, Nat.reduceMul, Nat.reduceSub, Nat.reduceLeDiff, Nat.reduceBEq, fl127_2, bp]
      exact ⟨trivial, trivial⟩
    refine ay rfl rfl rfl ⟨vN .u64 many, fun H' hC => ?_, ?_⟩
    · simp (disch := omega) only [WW, BB, ↓ab, ↓reduceIte, Int.reduceLT, Int.reduceNeg, Int.reduceLE, Int.reduceToNat, Nat.reduceLT, Nat.reduceEqDiff, Nat.reduceAdd, Nat.reduceMul, Nat.reduceSub, Nat.reduceLeDiff, Nat.reduceBEq, aw (hC _ _ hb1) ty91 (sumR_many h8 rest many)]
      exact ⟨trivial, trivial⟩
    refine ay rfl rfl rfl ⟨vN .u64 (many * 8 % 18446744073709551616), fun H' hC => ?_, ?_⟩
    · simp (disch := omega) only [WW, BB, ↓ab, ↓reduceIte, Int.reduceLT, Int.reduceNeg, Int.reduceLE, Int.reduceToNat, Nat.reduceLT, Nat.reduceEqDiff, Nat.reduceAdd, Nat.reduceMul, Nat.reduceSub, Nat.reduceLeDiff, Nat.reduceBEq]
      exact ⟨trivial, trivial⟩
    refine cj (aV [1] (by kernel_rfl) (by simp) fun i hi => ?_)
    have hi' : i = 1 := by simpa using hi
    subst hi'
    refine ⟨by omega, bS rfl rfl rfl ⟨fun x H' => ∃ c rest', Hc c = none ∧ isB rest' rs ∧ x = .ptr c 0 ∧ H' = upd Hc c (some (.row (aY st rest' many))), ?_, ?_⟩⟩
    · exact ⟨b, st, rest, rs, many, by simp (disch := omega) only [WW, BB, ↓ab, ↓reduceIte, Int.reduceLT, Int.reduceNeg, Int.reduceLE, Int.reduceToNat, Nat.reduceLT, Nat.reduceEqDiff, Nat.reduceAdd, Nat.reduceMul, Nat.reduceSub, Nat.reduceLeDiff, Nat.reduceBEq, q0], hb1, h8, hl32, hr, by omega, fun h => absurd h hd, fun _ c rest' hc hB => ⟨c, rest', hc, hB, rfl, rfl⟩⟩
    rintro x H' ⟨c, rest', hc, hB, rfl, rfl⟩
    refine ⟨ai (aj _) hc, aV [7] (by kernel_rfl) (by simp) fun i hi => ?_⟩
    have hi' : i = 7 := by simpa using hi
    subst hi'
    refine ⟨by omega, opA_quiet (x := .ptr c 0) rfl rfl rfl (fun H' hC => ⟨_, rfl, rfl, rfl⟩) (bN (hL _ _ _ (by rw [hBd]; kernel_rfl) ?_))⟩
    refine aa rfl fun K hK => ?_
    simp (disch := omega) only [WW, BB, ↓ab, ↓reduceIte, Int.reduceLT, Int.reduceNeg, Int.reduceLE, Int.reduceToNat, Nat.reduceLT, Nat.reduceEqDiff, Nat.reduceAdd, Nat.reduceMul, Nat.reduceSub, Nat.reduceLeDiff, Nat.reduceBEq]
    refine hK _ _ ?_
    refine ae ?_
    (simp only [TH, ↓reduceIte, Nat.reduceEqDiff]; ((repeat ((fail_if_success refine hS _ _ ?_); clear hS)); refine hS _ _ ?_); clear hS; try clear hF)
    have hbc : b ≠ c := aA hb1 hc
    have hrc : r ≠ c := aA hr1 hc
    have hoc : o ≠ c := aA ho2 hc
    refine wpC_cut (F := fun t' => t' 2 = .ptr r 0 ∧ t' 3 = .ptr o 0 ∧ t' 4 = .ptr c 0 ∧ t' 5 = vN .u64 (many * 8 % 18446744073709551616)) ⟨?_, ?_, ?_, ?_⟩ ?_
    · simp (disch := omega) only [WW, BB, ↓ab, ↓reduceIte, Int.reduceLT, Int.reduceNeg, Int.reduceLE, Int.reduceToNat, Nat.reduceLT, Nat.reduceEqDiff, Nat.reduceAdd, Nat.reduceMul, Nat.reduceSub, Nat.reduceLeDiff, Nat.reduceBEq, q2]
    · simp (disch := omega) only [WW, BB, ↓ab, ↓reduceIte, Int.reduceLT, Int.reduceNeg, Int.reduceLE, Int.reduceToNat, Nat.reduceLT, Nat.reduceEqDiff, Nat.reduceAdd, Nat.reduceMul, Nat.reduceSub, Nat.reduceLeDiff, Nat.reduceBEq, q3]
    · simp (disch := omega) only [WW, BB, ↓ab, ↓reduceIte, Int.reduceLT, Int.reduceNeg, Int.reduceLE, Int.reduceToNat, Nat.reduceLT, Nat.reduceEqDiff, Nat.reduceAdd, Nat.reduceMul, Nat.reduceSub, Nat.reduceLeDiff, Nat.reduceBEq]
    · simp (disch := omega) only [WW, BB, ↓ab, ↓reduceIte, Int.reduceLT, Int.reduceNeg, Int.reduceLE, Int.reduceToNat, Nat.reduceLT, Nat.reduceEqDiff, Nat.reduceAdd, Nat.reduceMul, Nat.reduceSub, Nat.reduceLeDiff, Nat.reduceBEq]
    rintro t2 ⟨q2, q3, q4, q5⟩
    repeat (first
    | refine af fun K hS hF => ?_ | refine ac rfl ?_)
    refine aa rfl fun K hK => ⟨1, [[vN .u8 0]], nE .u8 [128], by kernel_rfl, by omega, rfl, ?_⟩
    simp only [owned, List.contains_cons, List.contains_nil, Bool.or_false, beq_self_eq_true, if_true]
    intro d hdn
    refine hK _ _ ?_
    have hcd := aF hdn
    have hrd : r ≠ d := aA hr1 hcd.2
    have hod : o ≠ d := aA ho2 hcd.2
    repeat (first
    | (refine aa rfl fun K hK => ?_; simp (disch := omega) only [WW, BB, ↓ab, ↓reduceIte, Int.reduceLT, Int.reduceNeg, Int.reduceLE, Int.reduceToNat, Nat.reduceLT, Nat.reduceEqDiff, Nat.reduceAdd, Nat.reduceMul, Nat.reduceSub, Nat.reduceLeDiff, Nat.reduceBEq]; refine hK _ _ ?_; clear hK) | (refine ae ?_; simp only [TH]; (((repeat ((fail_if_success refine hS _ _ ?_); clear hS)); refine hS _ _ ?_); clear hS; try clear hF)) | refine af fun K hS hF => ?_ | refine ax ?_)
    refine l69_1 (c := c) (d := d) (st := st) (rest := rest') (many := many) (rs := rs) ?_ ?_ (ag _ _ _) ?_ h8 hB hrl hcd.1 fun t3 e f0 f2 f3 f4 f5 he f6 => ?_
    · simp (disch := omega) only [WW, BB, ↓ab, ↓reduceIte, Int.reduceLT, Int.reduceNeg, Int.reduceLE, Int.reduceToNat, Nat.reduceLT, Nat.reduceEqDiff, Nat.reduceAdd, Nat.reduceMul, Nat.reduceSub, Nat.reduceLeDiff, Nat.reduceBEq, q4]
    · simp (disch := omega) only [WW, BB, ↓ab, ↓reduceIte, Int.reduceLT, Int.reduceNeg, Int.reduceLE, Int.reduceToNat, Nat.reduceLT, Nat.reduceEqDiff, Nat.reduceAdd, Nat.reduceMul, Nat.reduceSub, Nat.reduceLeDiff, Nat.reduceBEq]
    · rw [ah _ _ _ hcd.1, ag]
    simp only [putT, ↓upd_apply, Nat.reduceEqDiff, ↓reduceIte, Nat.reduceLT, q2, q3, q5] at f2 f3 f5
    have hX : ∀ e' y, (e' = d ∨ upd (upd Hc c (some (.row (aY st rest' many)))) d (some (.arr 1 (nE .u8 [128]))) e' = none) → Hc e' = none ∧ c ≠ e' ∧ upd (upd (upd (upd Hc c (some (.row (aY st rest' many)))) d (some (.arr 1 (nE .u8 [128])))) d none) e' (some y) = upd (upd Hc c (some (.row (aY st rest' many)))) e' (some y) := by
      intro e' y he
      have h1 : Hc e' = none ∧ c ≠ e' := by
        rcases he with rfl | he
        · exact ⟨hcd.2, hcd.1⟩
        · have h2 := aF (aF he).2
          exact ⟨h2.2, h2.1⟩
      refine ⟨h1.1, h1.2, ?_⟩
      rw [aD]
      congr 1
      funext j
      by_cases hj : j = d
      · subst hj; rw [ag, ah _ _ _ (Ne.symm hcd.1), hcd.2]
      · rw [ah _ _ _ hj]
    obtain ⟨hce1, hce2, hce3⟩ := hX e (.arr 1 (nE .u8 (128 :: List.replicate (padZ rs.length) 0))) he
    rw [hce3]
    (simp only [TH, ↓reduceIte, Nat.reduceEqDiff]; ((repeat ((fail_if_success refine hS _ _ ?_); clear hS)); refine hS _ _ ?_); clear hS; try clear hF)
    repeat (first
    | (refine aa rfl fun K hK => ?_; simp (disch := omega) only [WW, BB, ↓ab, ↓reduceIte, Int.reduceLT, Int.reduceNeg, Int.reduceLE, Int.reduceToNat, Nat.reduceLT, Nat.reduceEqDiff, Nat.reduceAdd, Nat.reduceMul, Nat.reduceSub, Nat.reduceLeDiff, Nat.reduceBEq]; refine hK _ _ ?_; clear hK) | (refine ae ?_; simp only [TH]; (((repeat ((fail_if_success refine hS _ _ ?_); clear hS)); refine hS _ _ ?_); clear hS; try clear hF)) | refine af fun K hS hF => ?_ | refine ac rfl ?_ | refine ax ?_)
    refine l69_2 (d := e) (m := many * 8 % 18446744073709551616) (tl := 128 :: List.replicate (padZ rs.length) 0) (full := decide (padZ rs.length = 0)) ?_ ?_ ?_ (ag _ _ _) ?_ fun t4 e' full' g0 g2 g3 g4 he' g6 => ?_
    · simp (disch := omega) only [WW, BB, ↓ab, ↓reduceIte, Int.reduceLT, Int.reduceNeg, Int.reduceLE, Int.reduceToNat, Nat.reduceLT, Nat.reduceEqDiff, Nat.reduceAdd, Nat.reduceMul, Nat.reduceSub, Nat.reduceLeDiff, Nat.reduceBEq, f5]
    · simp (disch := omega) only [WW, BB, ↓ab, ↓reduceIte, Int.reduceLT, Int.reduceNeg, Int.reduceLE, Int.reduceToNat, Nat.reduceLT, Nat.reduceEqDiff, Nat.reduceAdd, Nat.reduceMul, Nat.reduceSub, Nat.reduceLeDiff, Nat.reduceBEq, f6, List.length_cons, List.length_replicate]
    · simp (disch := omega) only [WW, BB, ↓ab, ↓reduceIte, Int.reduceLT, Int.reduceNeg, Int.reduceLE, Int.reduceToNat, Nat.reduceLT, Nat.reduceEqDiff, Nat.reduceAdd, Nat.reduceMul, Nat.reduceSub, Nat.reduceLeDiff, Nat.reduceBEq]
      rfl
    · simp only [List.length_cons, List.length_replicate]; unfold padZ; omega
    simp only [putT, ↓upd_apply, Nat.reduceEqDiff, ↓reduceIte, Nat.reduceLT, f2, f3, f4] at g2 g3 g4
    have hce' : Hc e' = none ∧ c ≠ e' := by
      rcases he' with rfl | he'
      · exact ⟨hce1, hce2⟩
      · have h2 := aF (aF he').2
        exact ⟨h2.2, h2.1⟩
    have hY : upd (upd (upd (upd Hc c (some (.row (aY st rest' many)))) e (some (.arr 1 (nE .u8 (128 :: List.replicate (padZ rs.length) 0))))) e none) e' (some (.arr 1 (nE .u8 (128 :: List.replicate (padZ rs.length) 0 ++ lenB (many * 8 % 18446744073709551616) 8)))) = upd (upd Hc c (some (.row (aY st rest' many)))) e' (some (.arr 1 (nE .u8 (tailB rs.length (many * 8 % 18446744073709551616))))) := by
      rw [aD]
      congr 1
      funext j
      by_cases hj : j = e
      · subst hj; rw [ag, ah _ _ _ (Ne.symm hce2), hce1]
      · rw [ah _ _ _ hj]
    rw [hY]
    (simp only [TH, ↓reduceIte, Nat.reduceEqDiff]; ((repeat ((fail_if_success refine hS _ _ ?_); clear hS)); refine hS _ _ ?_); clear hS; try clear hF)
    repeat (first
    | (refine aa rfl fun K hK => ?_; simp (disch := omega) only [WW, BB, ↓ab, ↓reduceIte, Int.reduceLT, Int.reduceNeg, Int.reduceLE, Int.reduceToNat, Nat.reduceLT, Nat.reduceEqDiff, Nat.reduceAdd, Nat.reduceMul, Nat.reduceSub, Nat.reduceLeDiff, Nat.reduceBEq, g4, g6]; refine hK _ _ ?_; clear hK) | refine af fun K hS hF => ?_ | refine ac rfl ?_)
    have hve : ao (upd (upd (upd Hc c (some (.row (aY st rest' many)))) e' (some (.arr 1 (nE .u8 (tailB rs.length (many * 8 % 18446744073709551616)))))) c none) 1 (.osl e' 0 (tailB rs.length (many * 8 % 18446744073709551616)).length 1 full') = some (nE .u8 (tailB rs.length (many * 8 % 18446744073709551616))) := by
      rw [upd_comm _ _ _ (Ne.symm hce'.2), ← az .u8 (tailB rs.length (many * 8 % 18446744073709551616))]
      exact view_osl
    refine aa rfl fun K hK => ⟨c, st, rest', rs, many, .osl e' 0 (tailB rs.length (many * 8 % 18446744073709551616)).length 1 full', tailB rs.length (many * 8 % 18446744073709551616), ?_, ?_, h8, hl32, hB, rfl, rfl, hve, ?_, fun h => absurd h hd, fun _ => hK _ _ ?_⟩
    · simp (disch := omega) only [WW, BB, ↓ab, ↓reduceIte, Int.reduceLT, Int.reduceNeg, Int.reduceLE, Int.reduceToNat, Nat.reduceLT, Nat.reduceEqDiff, Nat.reduceAdd, Nat.reduceMul, Nat.reduceSub, Nat.reduceLeDiff, Nat.reduceBEq, g4, g6]
      rfl
    · rw [ah _ _ _ hce'.2, ag]
    · rw [tailB_len]; unfold padZ; omega
    repeat (first
    | (refine aa rfl fun K hK => ?_; simp (disch := omega) only [WW, BB, ↓ab, ↓reduceIte, Int.reduceLT, Int.reduceNeg, Int.reduceLE, Int.reduceToNat, Nat.reduceLT, Nat.reduceEqDiff, Nat.reduceAdd, Nat.reduceMul, Nat.reduceSub, Nat.reduceLeDiff, Nat.reduceBEq]; refine hK _ _ ?_; clear hK) | (refine ae ?_; simp only [TH]; (((repeat ((fail_if_success refine hS _ _ ?_); clear hS)); refine hS _ _ ?_); clear hS; try clear hF)) | refine af fun K hS hF => ?_ | refine ac rfl ?_ | refine ax ?_)
    refine l69_3 (c := c) (o := o) (st := stOf st (rs ++ tailB rs.length (many * 8 % 18446744073709551616))) ?_ ?_ ?_ (ag _ _ _) ?_ (by rw [stOf, absorb_len, h8]) (Ne.symm hoc) fun t5 k2 k3 => ?_
    · simp (disch := omega) only [WW, BB, ↓ab, ↓reduceIte, Int.reduceLT, Int.reduceNeg, Int.reduceLE, Int.reduceToNat, Nat.reduceLT, Nat.reduceEqDiff, Nat.reduceAdd, Nat.reduceMul, Nat.reduceSub, Nat.reduceLeDiff, Nat.reduceBEq, g3]
    · simp (disch := omega) only [WW, BB, ↓ab, ↓reduceIte, Int.reduceLT, Int.reduceNeg, Int.reduceLE, Int.reduceToNat, Nat.reduceLT, Nat.reduceEqDiff, Nat.reduceAdd, Nat.reduceMul, Nat.reduceSub, Nat.reduceLeDiff, Nat.reduceBEq, g4]
    · simp (disch := omega) only [WW, BB, ↓ab, ↓reduceIte, Int.reduceLT, Int.reduceNeg, Int.reduceLE, Int.reduceToNat, Nat.reduceLT, Nat.reduceEqDiff, Nat.reduceAdd, Nat.reduceMul, Nat.reduceSub, Nat.reduceLeDiff, Nat.reduceBEq]
    · rw [ah _ _ _ hoc, ah _ _ _ (aA ho2 hce'.1), ah _ _ _ hoc]; exact ho2
    simp only [putT, ↓upd_apply, Nat.reduceEqDiff, ↓reduceIte, Nat.reduceLT, g2] at k2
    (simp only [TH, ↓reduceIte, Nat.reduceEqDiff]; ((repeat ((fail_if_success refine hS _ _ ?_); clear hS)); refine hS _ _ ?_); clear hS; try clear hF)
    have hlo := aJ (P := Try.prog) (t := 25) (ag (upd (upd (upd Hc c (some (.row (aY st rest' many)))) e' (some (.arr 1 (nE .u8 (tailB rs.length (many * 8 % 18446744073709551616)))))) c (some (.row (aY (stOf st (rs ++ tailB rs.length (many * 8 % 18446744073709551616))) (.sl 1 (nE .u8 (restOf (rs ++ tailB rs.length (many * 8 % 18446744073709551616)))) false) ((many + (tailB rs.length (many * 8 % 18446744073709551616)).length % 18446744073709551616) % 18446744073709551616))))) o (some (.row (nR .u8 (outN (stOf st (rs ++ tailB rs.length (many * 8 % 18446744073709551616))) 32))))) bb (by rw [ar, outN_len])
    repeat (first
    | (refine aa rfl fun K hK => ?_; simp (disch := omega) only [WW, BB, ↓ab, ↓reduceIte, Int.reduceLT, Int.reduceNeg, Int.reduceLE, Int.reduceToNat, Nat.reduceLT, Nat.reduceEqDiff, Nat.reduceAdd, Nat.reduceMul, Nat.reduceSub, Nat.reduceLeDiff, Nat.reduceBEq, k2, k3, hlo]; refine hK _ _ ?_; clear hK) | refine af fun K hS hF => ?_ | refine ac rfl ?_)
    have hro : r ≠ o := ho1.1
    refine aa rfl fun K hK => ?_
    simp (disch := omega) only [WW, BB, ↓ab, ↓reduceIte, Int.reduceLT, Int.reduceNeg, Int.reduceLE, Int.reduceToNat, Nat.reduceLT, Nat.reduceEqDiff, Nat.reduceAdd, Nat.reduceMul, Nat.reduceSub, Nat.reduceLeDiff, Nat.reduceBEq, k2]
    refine ⟨_, au (b := r) (cells := nR .u8 (List.replicate 32 0)) ?_ bb (by rw [ar, outN_len]) (bk _ _) (by rw [ar, List.length_replicate]), hK _ _ ?_⟩
    · rw [ah _ _ _ hro, ah _ _ _ hrc, ah _ _ _ (aA hr1 hce'.1), ah _ _ _ hrc]; exact hr1
    repeat (first
    | (refine ae ?_; simp only [TH]; (((repeat ((fail_if_success refine hS _ _ ?_); clear hS)); refine hS _ _ ?_); clear hS; try clear hF)) | (refine al ?_; simp (disch := omega) only [TH, TE, WW, BB, ↓ab, ↓reduceIte, Int.reduceLT, Int.reduceNeg, Int.reduceLE, Int.reduceToNat, Nat.reduceLT, Nat.reduceEqDiff, Nat.reduceAdd, Nat.reduceMul, Nat.reduceSub, Nat.reduceLeDiff, Nat.reduceBEq]))
    refine ⟨_, res_cell (r := r) ?_ (ag _ _ _) bb (by rw [ar, outN_len]), [], H, ?_, hQ⟩
    · simp (disch := omega) only [WW, BB, ↓ab, ↓reduceIte, Int.reduceLT, Int.reduceNeg, Int.reduceLE, Int.reduceToNat, Nat.reduceLT, Nat.reduceEqDiff, Nat.reduceAdd, Nat.reduceMul, Nat.reduceSub, Nat.reduceLeDiff, Nat.reduceBEq, k2]
    · have hHcn : ∀ j, Hc j = none → H j = none := fun j hj => by
        cases hh : H j with
        | none => rfl
        | some y => rw [hle1 _ _ hh] at hj; cases hj
      exact ai (ai (ai (ai (ai hle1 (hHcn _ hc)) (hHcn _ hce'.1)) (hHcn _ hc)) ho1.2) hr0
end Go.Av

set_option linter.unusedSimpArgs false
set_option linter.unusedVariables false
namespace Go.Av
open Go.RowKit Go.Proofs

theorem restOf_len (l : List Nat) : (restOf l).length < 64 := by rw [restOf, List.length_drop]; omega

/-- SHA-256, but for messages whose whole blocks bring the state to zero. -/
def ofOf (bs : List Nat) : List Nat := sumEnd (stOf sq0 bs) (restOf bs) (bs.length % 18446744073709551616 % 18446744073709551616)
def aR (bs : List Nat) : List Nat := ofOf (ofOf bs)

theorem ofOf_len (bs : List Nat) : (ofOf bs).length = 32 := sumEnd_len _ _ _
theorem bt (bs : List Nat) : (aR bs).length = 32 := ofOf_len _

theorem sq0_lt : lt32 sq0 := by
  intro x hx
  simp only [sq0, List.mem_cons, List.not_mem_nil, or_false] at hx
  omega
theorem sq0_ne : sq0 ≠ List.replicate 8 0 := by decide

def s50 : Spec := fun _ args H Q => ∃ x bs, args = [x] ∧ ao H 1 x = some (nE .u8 bs) ∧ bs.length ≤ 1099511627776 ∧ Q (.agg (nR .u8 (ofOf bs))) H

theorem snd50 : Sound Try.prog 50 s50 := by
  refine ak pm (ap [(67, s67), (68, s68), (69, s69)] (by simp [snd67, snd68, snd69])) [] Try.func50 rfl (by kernel_rfl) ?_
  rintro Y args H Q ⟨x, bs, rfl, hv, hl, hQ⟩
  refine ⟨by simp [Try.f50], ?_⟩
  show wpC Try.prog (tab [(67, s67), (68, s68), (69, s69)]) Y [] 7 _ true (aB Try.prog [.cell 2 25] Q) _ H
  repeat (first
    | refine af fun K hS hF => ?_ | refine ac rfl ?_)
  refine aa rfl fun K hK => ⟨_, z25, fun r hr => hK _ _ ?_⟩
  repeat (first
    | (refine ae ?_; simp only [TH]; (((repeat ((fail_if_success refine hS _ _ ?_); clear hS)); refine hS _ _ ?_); clear hS; try clear hF)) | refine af fun K hS hF => ?_ | refine ac rfl ?_)
  refine aa rfl fun K hK => ⟨rfl, fun b hb => hK _ _ ?_⟩
  have hrb := aF hb
  repeat (refine aa rfl fun K hK => ?_; simp (disch := omega) only [WW, BB, ↓ab, ↓reduceIte, Int.reduceLT, Int.reduceNeg, Int.reduceLE, Int.reduceToNat, Nat.reduceLT, Nat.reduceEqDiff, Nat.reduceAdd, Nat.reduceMul, Nat.reduceSub, Nat.reduceLeDiff, Nat.reduceBEq]; refine hK _ _ ?_; clear hK)
  have hv1 : ao (upd (upd (upd H r (some (.row (List.replicate 32 (vN .u8 0))))) b (some (.row (aY sq0 .nils 0)))) b none) 1 x = some (nE .u8 bs) := by
    rw [aD]
    exact aL (ai (ai (aj _) hr) hrb.2) hv
  refine aa rfl fun K hK => ⟨b, sq0, .nils, [], 0, x, bs, rfl, ag _ _ _, rfl, sq0_lt, .inl ⟨rfl, rfl⟩, (bd hv).1, (bd hv).2, hv1, by simp only [List.length_nil]; omega, fun h => absurd h sq0_ne, fun _ => hK _ _ ?_⟩
  rw [aD, List.nil_append]
  skip
  refine aa rfl fun K hK => ⟨b, stOf sq0 bs, .sl 1 (nE .u8 (restOf bs)) false, restOf bs, (0 + bs.length % 18446744073709551616) % 18446744073709551616, rfl, ag _ _ _, by rw [stOf, absorb_len]; rfl, absorb_lt _ _ _ sq0_lt, .inr ⟨false, rfl⟩, by have := restOf_len bs; omega, hK _ _ ?_⟩
  refine aa rfl fun K hK => ?_
  simp (disch := omega) only [WW, BB, ↓ab, ↓reduceIte, Int.reduceLT, Int.reduceNeg, Int.reduceLE, Int.reduceToNat, Nat.reduceLT, Nat.reduceEqDiff, Nat.reduceAdd, Nat.reduceMul, Nat.reduceSub, Nat.reduceLeDiff, Nat.reduceBEq]
  refine ⟨_, au (b := r) (cells := List.replicate 32 (vN .u8 0)) (by rw [ah _ _ _ hrb.1, ag]) bb ?_ (bk _ _) rfl, hK _ _ ?_⟩
  · rw [ar, sumEnd_len]
  repeat (first
    | (refine ae ?_; simp only [TH]; (((repeat ((fail_if_success refine hS _ _ ?_); clear hS)); refine hS _ _ ?_); clear hS; try clear hF)) | (refine al ?_; simp (disch := omega) only [TH, TE, WW, BB, ↓ab, ↓reduceIte, Int.reduceLT, Int.reduceNeg, Int.reduceLE, Int.reduceToNat, Nat.reduceLT, Nat.reduceEqDiff, Nat.reduceAdd, Nat.reduceMul, Nat.reduceSub, Nat.reduceLeDiff, Nat.reduceBEq]))
  refine ⟨_, res_cell (r := r) rfl (ag _ _ _) bb ?_, [], H, ?_, hQ⟩
  · rw [ar, sumEnd_len]
  · exact ai (ai (ai (aj _) hr) hrb.2) hr

def s36 : Spec := fun _ args H Q => ∃ x bs, args = [x] ∧ ao H 1 x = some (nE .u8 bs) ∧ bs.length ≤ 1099511627776 ∧ Q (.agg (nR .u8 (aR bs))) H

theorem chunks_nR (k : IntKind) : ∀ l : List Nat, bG 1 l.length (nR k l) = nE k l
  | [] => rfl
  | x :: l => by
    have := chunks_nR k l
    simp only [nR, nE] at this
    simp only [nR, nE, List.map_cons, List.length_cons, bG, List.take_succ_cons, List.take_zero, List.drop_succ_cons, List.drop_zero, this]

theorem sa25 (d : Nat) : bf Try.prog 25 (.ptr d 0) none none none = some (.rsl d 0 32 1) := by
  simp [bf, ar25, sliceArr, bnd]
theorem view_rsl {H : Hp} {d n : Nat} {k : IntKind} {l : List Nat} (h : H d = some (.row (nR k l))) (hn : l.length = n) : ao H 1 (.rsl d 0 n 1) = some (nE k l) := by
  subst hn
  simp only [ao, h]
  rw [if_pos ⟨trivial, by rw [ar]; omega⟩, List.drop_zero, chunks_nR]

theorem snd36 : Sound Try.prog 36 s36 := by
  refine ak pm (ap [(50, s50)] (by simp [snd50])) [] Try.func36 rfl (by kernel_rfl) ?_
  rintro Y args H Q ⟨x, bs, rfl, hv, hl, hQ⟩
  refine ⟨by simp [Try.f36], ?_⟩
  show wpC Try.prog (tab [(50, s50)]) Y [] 8 _ true (aB Try.prog [.cell 2 25] Q) _ H
  repeat (first
    | refine af fun K hS hF => ?_ | refine ac rfl ?_)
  refine aa rfl fun K hK => ⟨_, z25, fun r hr => hK _ _ ?_⟩
  repeat (first
    | (refine aa rfl fun K hK => ?_; simp (disch := omega) only [WW, BB, ↓ab, ↓reduceIte, Int.reduceLT, Int.reduceNeg, Int.reduceLE, Int.reduceToNat, Nat.reduceLT, Nat.reduceEqDiff, Nat.reduceAdd, Nat.reduceMul, Nat.reduceSub, Nat.reduceLeDiff, Nat.reduceBEq]; refine hK _ _ ?_; clear hK) | (refine ae ?_; simp only [TH]; (((repeat ((fail_if_success refine hS _ _ ?_); clear hS)); refine hS _ _ ?_); clear hS; try clear hF)) | refine af fun K hS hF => ?_ | refine ac rfl ?_)
  refine aa rfl fun K hK => ⟨x, bs, rfl, aL (ai (aj _) hr) hv, hl, hK _ _ ?_⟩
  refine aa rfl fun K hK => ⟨_, z25, fun d hd => hK _ _ ?_⟩
  have hrd := aF hd
  refine aa rfl fun K hK => ?_
  simp (disch := omega) only [WW, BB, ↓ab, ↓reduceIte, Int.reduceLT, Int.reduceNeg, Int.reduceLE, Int.reduceToNat, Nat.reduceLT, Nat.reduceEqDiff, Nat.reduceAdd, Nat.reduceMul, Nat.reduceSub, Nat.reduceLeDiff, Nat.reduceBEq]
  refine ⟨_, au (b := d) (ag _ _ _) bb (by rw [ar, ofOf_len]) (bk _ _) rfl, hK _ _ ?_⟩
  rw [aD]
  repeat (first
    | (refine aa rfl fun K hK => ?_; simp (disch := omega) only [WW, BB, ↓ab, ↓reduceIte, Int.reduceLT, Int.reduceNeg, Int.reduceLE, Int.reduceToNat, Nat.reduceLT, Nat.reduceEqDiff, Nat.reduceAdd, Nat.reduceMul, Nat.reduceSub, Nat.reduceLeDiff, Nat.reduceBEq, sa25]; refine hK _ _ ?_; clear hK) | (refine ae ?_; simp only [TH]; (((repeat ((fail_if_success refine hS _ _ ?_); clear hS)); refine hS _ _ ?_); clear hS; try clear hF)) | refine af fun K hS hF => ?_ | refine ac rfl ?_)
  refine aa rfl fun K hK => ⟨.rsl d 0 32 1, ofOf bs, rfl, view_rsl (ag _ _ _) (ofOf_len _), by rw [ofOf_len]; omega, hK _ _ ?_⟩
  refine aa rfl fun K hK => ?_
  simp (disch := omega) only [WW, BB, ↓ab, ↓reduceIte, Int.reduceLT, Int.reduceNeg, Int.reduceLE, Int.reduceToNat, Nat.reduceLT, Nat.reduceEqDiff, Nat.reduceAdd, Nat.reduceMul, Nat.reduceSub, Nat.reduceLeDiff, Nat.reduceBEq]
  refine ⟨_, au (b := r) (cells := List.replicate 32 (vN .u8 0)) (by rw [ah _ _ _ hrd.1, ag]) bb (by rw [ar, ofOf_len]) (bk _ _) rfl, hK _ _ ?_⟩
  repeat (first
    | (refine ae ?_; simp only [TH]; (((repeat ((fail_if_success refine hS _ _ ?_); clear hS)); refine hS _ _ ?_); clear hS; try clear hF)) | (refine al ?_; simp (disch := omega) only [TH, TE, WW, BB, ↓ab, ↓reduceIte, Int.reduceLT, Int.reduceNeg, Int.reduceLE, Int.reduceToNat, Nat.reduceLT, Nat.reduceEqDiff, Nat.reduceAdd, Nat.reduceMul, Nat.reduceSub, Nat.reduceLeDiff, Nat.reduceBEq]))
  refine ⟨_, res_cell (r := r) rfl (ag _ _ _) bb (by rw [ar, ofOf_len]), [], H, ?_, hQ⟩
  exact ai (ai (ai (aj _) hr) hrd.2) hr
end Go.Av
