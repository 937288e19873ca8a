/-
  Package sha: End: its pieces.
-/
import Derived.Test.YtgjlmmjdofceiaaSh11
set_option linter.unusedSimpArgs false
set_option linter.unusedVariables false
namespace Go.Av
open Go.RowKit Go.Proofs

/-- A number that counts down from 7. -/
def iv (j : Nat) : V := .int .i64 (7 - (j : Int))
section
variable {P : Program} {t : TypeId} {H : Hp}
theorem iv_sub {j : Nat} (h : j ≤ 7) : binV P .sub t (iv j) (vN .i64 1) = some (iv (j + 1)) := by
  have e : IntKind.wrap .i64 (7 - (j : Int) - 1) = 7 - ((j + 1 : Nat) : Int) := by
    have : j = 0 ∨ j = 1 ∨ j = 2 ∨ j = 3 ∨ j = 4 ∨ j = 5 ∨ j = 6 ∨ j = 7 := by omega
    rcases this with rfl | rfl | rfl | rfl | rfl | rfl | rfl | rfl <;> rfl
  simp only [iv, vN, bin_same, arith]
  exact congrArg (fun x => some (V.int .i64 x)) e
theorem iv_geq {j : Nat} : binV P .geq t (iv j) (vN .i64 0) = some (.bool (decide (j < 8))) := by
  simp only [iv, vN, bin_same, arith]
  congr 2
  exact decide_eq_decide.2 (by omega)
theorem iv_mul {j : Nat} (h : j ≤ 7) : binV P .mul t (vN .i64 8) (iv j) = some (vN .i64 (8 * (7 - j))) := by
  have e : IntKind.wrap .i64 (8 * (7 - (j : Int))) = ((8 * (7 - j) : Nat) : Int) := by
    have : j = 0 ∨ j = 1 ∨ j = 2 ∨ j = 3 ∨ j = 4 ∨ j = 5 ∨ j = 6 ∨ j = 7 := by omega
    rcases this with rfl | rfl | rfl | rfl | rfl | rfl | rfl | rfl <;> rfl
  simp only [iv, vN, bin_same, arith]
  exact congrArg (fun x => some (V.int .i64 x)) e
theorem wpBin_iv {op : BinOp} {j b : Nat} {k : IntKind} {Q : V → Hp → Prop} : wpBin P H op t (iv j) (vN k b) Q = val (binV P op t (iv j) (vN k b)) H Q := rfl
theorem wpBin_vi {op : BinOp} {j b : Nat} {k : IntKind} {Q : V → Hp → Prop} : wpBin P H op t (vN k b) (iv j) Q = val (binV P op t (vN k b) (iv j)) H Q := rfl
theorem iv_0 : iv 0 = vN .i64 7 := rfl
end

/-- How many zeros stand behind the mark. -/
def padZ (n : Nat) : Nat := (119 - n % 64) % 64
theorem padZ_lt {n k : Nat} (h : k ≤ padZ n) : (n + (k + 1) + 8) % 64 = 0 ↔ k = padZ n := by
  unfold padZ at *
  omega

def lenB (m n : Nat) : List Nat := (List.range n).map fun j => m / 2 ^ min (8 * (7 - j)) 64 % 256
theorem lenB_succ (m n : Nat) : lenB m (n + 1) = lenB m n ++ [m / 2 ^ min (8 * (7 - n)) 64 % 256] := by simp [lenB, List.range_succ]
theorem lenB_len (m n : Nat) : (lenB m n).length = n := by simp [lenB]
def tailB (n m : Nat) : List Nat := (128 :: List.replicate (padZ n) 0) ++ lenB m 8
theorem tailB_len (n m : Nat) : (tailB n m).length = padZ n + 9 := by simp [tailB, lenB_len]

def outN (st : List Nat) (n : Nat) : List Nat := (List.range n).foldl (fun l i => l.set i (st.getD (i / 4) 0 / 2 ^ min (8 * (3 - i % 4)) 32 % 256)) (List.replicate 32 0)
theorem outN_succ (st : List Nat) (n : Nat) : outN st (n + 1) = (outN st n).set n (st.getD (n / 4) 0 / 2 ^ min (8 * (3 - n % 4)) 32 % 256) := by simp [outN, List.range_succ]
theorem outN_len (st : List Nat) : ∀ n, (outN st n).length = 32
  | 0 => by simp [outN]
  | n + 1 => by rw [outN_succ, List.length_set, outN_len st n]

theorem bs64_own {S : Nat → Spec} {Y : YEnv} {H : Hp} {t : T} {Q : V → Hp → Prop} {x : Operand} {y : V} (hx : evT t x = y) (hc : cellsV y = some [y]) (h : Q (.sl 1 [[y]] true) H) : wpOp Try.prog S Y false H (evT t) (.buildSlice 64 1 #[(0, x)]) Q := by
  refine ⟨1, [[vN .u8 0]], [[y]], by kernel_rfl, by omega, ?_, h⟩
  simp only [List.map_cons, List.map_nil, buildEs, hx, hc]
  rfl

/-- append of one byte. -/
theorem append_b {H : Hp} {d n : Nat} {full : Bool} {bs : List Nat} {x : Nat} {Q : V → Hp → Prop} (hH : H d = some (.arr 1 (nE .u8 bs))) (hn : n = bs.length) (hl : bs.length < 140737488355328)
    (h : ∀ e, (e = d ∨ H e = none) → Q (.osl e 0 (bs ++ [x]).length 1 false) (upd (upd H d none) e (some (.arr 1 (nE .u8 (bs ++ [x])))))) : wpAppend Try.prog H 64 64 (.osl d 0 n 1 full) (.sl 1 [[vN .u8 x]] true) Q := by
  subst hn
  refine append_osl (fs := nE .u8 [x]) hH (nE_len _ _).symm ds64 sl64 ?_ (nE_ones _ _) (by rw [by64, nE_len]; simp; omega) (by rw [nE_len]; simp; omega) fun e he => ?_
  · simp [view, nE]
  · have := h e he
    rw [nE_append, nE_len]
    rw [List.length_append] at this
    exact this

section
variable {Y : YEnv} {Q : Exit → T → Hp → Prop} {t : T} {H : Hp} {b c d o m : Nat} {st rs bs : List Nat} {x rest : V} {many : Nat}

theorem l69_1 (t4 : t 4 = .ptr c 0) (t6 : t 6 = .osl d 0 1 1 true) (hd : H d = some (.arr 1 (nE .u8 [128]))) (hc : H c = some (.row (sumR st rest many))) (h8 : st.length = 8) (hr : isB rest rs) (hrl : rs.length ≤ 1099511627776) (hcd : c ≠ d)
    (hQ : ∀ t' e, t' 0 = t 0 → t' 2 = t 2 → t' 3 = t 3 → t' 4 = .ptr c 0 → t' 5 = t 5 → (e = d ∨ H e = none) → t' 6 = .osl e 0 (padZ rs.length + 1) 1 (decide (padZ rs.length = 0)) → Q (.exit 0) t' (upd (upd H d none) e (some (.arr 1 (nE .u8 (128 :: List.replicate (padZ rs.length) 0)))))) :
    wpC Try.prog (tab [(68, s68), (81, s81), (85, s85)]) Y [19] 69 (loopAt Try.f69 0) true Q t H := by
  have hz : padZ rs.length ≤ 63 := by unfold padZ; omega
  refine wpC_loop (fun m t' H' => ∃ k e, m = padZ rs.length - k ∧ k ≤ padZ rs.length ∧ t' 0 = t 0 ∧ t' 2 = t 2 ∧ t' 3 = t 3 ∧ t' 4 = .ptr c 0 ∧ t' 5 = t 5 ∧ (e = d ∨ H e = none) ∧ t' 6 = .osl e 0 (k + 1) 1 (decide (k = 0)) ∧ H' = upd (upd H d none) e (some (.arr 1 (nE .u8 (128 :: List.replicate k 0))))) (padZ rs.length) ⟨0, d, rfl, by omega, rfl, rfl, rfl, t4, rfl, .inl rfl, t6, ?_⟩ fun KL m t1 H' hI hKL => ?_
  · rw [upd_upd]
    funext j
    by_cases hj : j = d
    · subst hj; rw [upd_eq, hd]; rfl
    · rw [upd_ne _ _ _ hj]
  obtain ⟨k, e, rfl, hk, q0, q2, q3, q4, q5, he, q6, rfl⟩ := hI
  have hce : c ≠ e := by
    rcases he with rfl | he
    · exact hcd
    · exact ne_of_none hc he
  have hc1 : upd (upd H d none) e (some (.arr 1 (nE .u8 (128 :: List.replicate k 0)))) c = some (.row (sumR st rest many)) := by rw [upd_ne _ _ _ hce, upd_ne _ _ _ hcd]; exact hc
  have hly := lenV_view sl64 (isB_view hr H)
  rw [nE_len] at hly
  have hlo : lenV Try.prog 64 (.osl e 0 (k + 1) 1 (decide (k = 0))) = some (vN .i64 (k + 1)) := by
    have := lenV_view (P := Try.prog) (t := 64) sl64 (view_osl (H := H) (d := e) (sz := 1) (full := decide (k = 0)) (es := nE .u8 (128 :: List.replicate k 0)))
    rw [nE_len, List.length_cons, List.length_replicate] at this
    exact this
  repeat (first
    | ((first | refine wpOps_cons rfl fun K hK => ?_ | refine quiet_cons rfl fun K hK => ?_)
       simp (disch := omega) only [wpOp, pval, putT, owned, initT, IntKind.bits, tab, callV, wpBuiltin, builtinV, BB, ↓updA, ↓reduceIte, Int.reduceLT, Int.reduceNeg, Int.reduceLE, Int.reduceToNat, Nat.reduceLT, Nat.reduceEqDiff, Nat.reduceAdd, Nat.reduceMul, Nat.reduceSub, Nat.reduceLeDiff, Nat.reduceBEq, q4, q6, fl127_1, shiftP, load_cell hc1 ty64 (sumR_rest h8 rest many), hly, hlo, i64_add, N_rem]
       first
         | refine hK _ _ ?_
         | refine ⟨_, ⟨rfl, by first | rfl | trivial⟩, hK _ ?_⟩
         | refine ⟨_, ⟨_, _, rfl, by decide, by decide, rfl, by first | rfl | trivial⟩, hK _ ?_⟩
       clear hK)
    | refine wpOps_skip rfl ?_
    | refine quiet_skip rfl ?_
    | refine quiet_nil ?_
    | (refine wpOps_nil ?_
       simp only [thenA, inBlockA, noGotoA]
       first
         | ((first | refine hS _ _ ?_ | (clear hS; refine hS _ _ ?_) | (clear hS; clear hS; refine hS _ _ ?_) | (clear hS; clear hS; clear hS; refine hS _ _ ?_) | (clear hS; clear hS; clear hS; clear hS; refine hS _ _ ?_)); clear hS)
         | skip)
    | (refine wpC_label ?_
       simp only [thenA]
       (first | refine hS _ _ ?_ | (clear hS; refine hS _ _ ?_) | (clear hS; clear hS; refine hS _ _ ?_) | (clear hS; clear hS; clear hS; refine hS _ _ ?_) | (clear hS; clear hS; clear hS; clear hS; refine hS _ _ ?_))
       clear hS)
    | refine wpC_seq fun K hS => ?_
    | refine wpC_region rfl ?_
    | refine wpC_block ?_
    | refine wpC_scope ?_
    | (refine wpC_ret ?_
       simp (disch := omega) only [thenA, inBlockA, noGotoA, endsA, ressV, resV, oneV, putT, BB, ↓updA, ↓reduceIte, Nat.reduceLT, Nat.reduceEqDiff, q4, q6, fl127_1, shiftP, load_cell hc1 ty64 (sumR_rest h8 rest many), hly, hlo, i64_add, N_rem]))
  refine wpC_dec rfl (fun hd2 => ?_) (fun hd2 => ?_)
  · (refine wpC_skip ?_; simp only [thenA, inBlockA, noGotoA]; (first | refine hS _ _ ?_ | (clear hS; refine hS _ _ ?_) | (clear hS; clear hS; refine hS _ _ ?_) | (clear hS; clear hS; clear hS; refine hS _ _ ?_) | (clear hS; clear hS; clear hS; clear hS; refine hS _ _ ?_)); clear hS)
    have hk2 : k < padZ rs.length := by
      have := padZ_lt hk
      omega
    repeat (first
    | ((first | refine wpOps_cons rfl fun K hK => ?_ | refine quiet_cons rfl fun K hK => ?_)
       simp (disch := omega) only [wpOp, pval, putT, owned, initT, IntKind.bits, tab, callV, wpBuiltin, builtinV, BB, ↓updA, ↓reduceIte, Int.reduceLT, Int.reduceNeg, Int.reduceLE, Int.reduceToNat, Nat.reduceLT, Nat.reduceEqDiff, Nat.reduceAdd, Nat.reduceMul, Nat.reduceSub, Nat.reduceLeDiff, Nat.reduceBEq, q6]
       first
         | refine hK _ _ ?_
         | refine ⟨_, ⟨rfl, by first | rfl | trivial⟩, hK _ ?_⟩
         | refine ⟨_, ⟨_, _, rfl, by decide, by decide, rfl, by first | rfl | trivial⟩, hK _ ?_⟩
       clear hK)
    | refine wpOps_skip rfl ?_
    | refine quiet_skip rfl ?_
    | refine quiet_nil ?_
    | (refine wpOps_nil ?_
       simp only [thenA, inBlockA, noGotoA]
       first
         | ((first | refine hS _ _ ?_ | (clear hS; refine hS _ _ ?_) | (clear hS; clear hS; refine hS _ _ ?_) | (clear hS; clear hS; clear hS; refine hS _ _ ?_) | (clear hS; clear hS; clear hS; clear hS; refine hS _ _ ?_)); clear hS)
         | skip)
    | (refine wpC_label ?_
       simp only [thenA]
       (first | refine hS _ _ ?_ | (clear hS; refine hS _ _ ?_) | (clear hS; clear hS; refine hS _ _ ?_) | (clear hS; clear hS; clear hS; refine hS _ _ ?_) | (clear hS; clear hS; clear hS; clear hS; refine hS _ _ ?_))
       clear hS)
    | refine wpC_seq fun K hS => ?_
    | refine wpC_region rfl ?_
    | refine wpC_block ?_
    | refine wpC_scope ?_
    | (refine wpC_ret ?_
       simp (disch := omega) only [thenA, inBlockA, noGotoA, endsA, ressV, resV, oneV, putT, BB, ↓updA, ↓reduceIte, Nat.reduceLT, Nat.reduceEqDiff, q6]))
    refine wpOps_cons rfl fun K hK => bs64_own rfl rfl (hK _ _ ?_)
    repeat (first
    | ((first | refine wpOps_cons rfl fun K hK => ?_ | refine quiet_cons rfl fun K hK => ?_)
       simp (disch := omega) only [wpOp, pval, putT, owned, initT, IntKind.bits, tab, callV, wpBuiltin, builtinV, BB, ↓updA, ↓reduceIte, Int.reduceLT, Int.reduceNeg, Int.reduceLE, Int.reduceToNat, Nat.reduceLT, Nat.reduceEqDiff, Nat.reduceAdd, Nat.reduceMul, Nat.reduceSub, Nat.reduceLeDiff, Nat.reduceBEq, q6]
       first
         | refine hK _ _ ?_
         | refine ⟨_, ⟨rfl, by first | rfl | trivial⟩, hK _ ?_⟩
         | refine ⟨_, ⟨_, _, rfl, by decide, by decide, rfl, by first | rfl | trivial⟩, hK _ ?_⟩
       clear hK)
    | refine wpOps_skip rfl ?_
    | refine quiet_skip rfl ?_
    | refine quiet_nil ?_
    | (refine wpOps_nil ?_
       simp only [thenA, inBlockA, noGotoA]
       first
         | ((first | refine hS _ _ ?_ | (clear hS; refine hS _ _ ?_) | (clear hS; clear hS; refine hS _ _ ?_) | (clear hS; clear hS; clear hS; refine hS _ _ ?_) | (clear hS; clear hS; clear hS; clear hS; refine hS _ _ ?_)); clear hS)
         | skip)
    | (refine wpC_label ?_
       simp only [thenA]
       (first | refine hS _ _ ?_ | (clear hS; refine hS _ _ ?_) | (clear hS; clear hS; refine hS _ _ ?_) | (clear hS; clear hS; clear hS; refine hS _ _ ?_) | (clear hS; clear hS; clear hS; clear hS; refine hS _ _ ?_))
       clear hS)
    | refine wpC_seq fun K hS => ?_
    | refine wpC_region rfl ?_
    | refine wpC_block ?_
    | refine wpC_scope ?_
    | (refine wpC_ret ?_
       simp (disch := omega) only [thenA, inBlockA, noGotoA, endsA, ressV, resV, oneV, putT, BB, ↓updA, ↓reduceIte, Nat.reduceLT, Nat.reduceEqDiff, q6]))
    refine wpOps_cons rfl fun K hK => ?_
    simp (disch := omega) only [wpOp, pval, putT, owned, initT, IntKind.bits, tab, callV, wpBuiltin, builtinV, BB, ↓updA, ↓reduceIte, Int.reduceLT, Int.reduceNeg, Int.reduceLE, Int.reduceToNat, Nat.reduceLT, Nat.reduceEqDiff, Nat.reduceAdd, Nat.reduceMul, Nat.reduceSub, Nat.reduceLeDiff, Nat.reduceBEq, q6]
    refine append_b (bs := 128 :: List.replicate k 0) (x := 0) (upd_eq _ _ _) (by simp) (by simp; omega) fun e' he' => hK _ _ ?_
    have hee : e' = d ∨ H e' = none := by
      rcases he' with rfl | he'
      · exact he
      · by_cases h1 : e' = d
        · exact .inl h1
        · refine .inr ?_
          by_cases h2 : e' = e
          · subst h2; rw [upd_eq] at he'; cases he'
          · rw [upd_ne _ _ _ h2, upd_ne _ _ _ h1] at he'; exact he'
    have hX : upd (upd (upd (upd H d none) e (some (.arr 1 (nE .u8 (128 :: List.replicate k 0))))) e none) e' (some (.arr 1 (nE .u8 (128 :: List.replicate k 0 ++ [0])))) = upd (upd H d none) e' (some (.arr 1 (nE .u8 (128 :: List.replicate (k + 1) 0)))) := by
      rw [upd_upd]
      have : (128 :: List.replicate k 0 ++ [0] : List Nat) = 128 :: List.replicate (k + 1) 0 := by rw [List.cons_append, ← List.replicate_succ']
      rw [this]
      have h0 : upd (upd H d none) e none = upd H d none := by
        funext j
        by_cases hj : j = e
        · subst hj
          rw [upd_eq]
          rcases he with rfl | he
          · rw [upd_eq]
          · by_cases hjd : j = d
            · subst hjd; rw [upd_eq]
            · rw [upd_ne _ _ _ hjd, he]
        · rw [upd_ne _ _ _ hj]
      rw [h0]
    rw [hX]
    repeat (first
    | ((first | refine wpOps_cons rfl fun K hK => ?_ | refine quiet_cons rfl fun K hK => ?_)
       simp (disch := omega) only [wpOp, pval, putT, owned, initT, IntKind.bits, tab, callV, wpBuiltin, builtinV, BB, ↓updA, ↓reduceIte, Int.reduceLT, Int.reduceNeg, Int.reduceLE, Int.reduceToNat, Nat.reduceLT, Nat.reduceEqDiff, Nat.reduceAdd, Nat.reduceMul, Nat.reduceSub, Nat.reduceLeDiff, Nat.reduceBEq]
       first
         | refine hK _ _ ?_
         | refine ⟨_, ⟨rfl, by first | rfl | trivial⟩, hK _ ?_⟩
         | refine ⟨_, ⟨_, _, rfl, by decide, by decide, rfl, by first | rfl | trivial⟩, hK _ ?_⟩
       clear hK)
    | refine wpOps_skip rfl ?_
    | refine quiet_skip rfl ?_
    | refine quiet_nil ?_
    | (refine wpOps_nil ?_
       simp only [thenA, inBlockA, noGotoA]
       first
         | ((first | refine hS _ _ ?_ | (clear hS; refine hS _ _ ?_) | (clear hS; clear hS; refine hS _ _ ?_) | (clear hS; clear hS; clear hS; refine hS _ _ ?_) | (clear hS; clear hS; clear hS; clear hS; refine hS _ _ ?_)); clear hS)
         | skip)
    | (refine wpC_label ?_
       simp only [thenA]
       (first | refine hS _ _ ?_ | (clear hS; refine hS _ _ ?_) | (clear hS; clear hS; refine hS _ _ ?_) | (clear hS; clear hS; clear hS; refine hS _ _ ?_) | (clear hS; clear hS; clear hS; clear hS; refine hS _ _ ?_))
       clear hS)
    | refine wpC_seq fun K hS => ?_
    | refine wpC_region rfl ?_
    | refine wpC_block ?_
    | refine wpC_scope ?_
    | (refine wpC_ret ?_
       simp (disch := omega) only [thenA, inBlockA, noGotoA, endsA, ressV, resV, oneV, putT, BB, ↓updA, ↓reduceIte, Nat.reduceLT, Nat.reduceEqDiff]))
    refine hKL _ _ _ (by omega : padZ rs.length - (k + 1) < padZ rs.length - k) ⟨k + 1, e', rfl, by omega, ?_, ?_, ?_, ?_, ?_, hee, ?_, rfl⟩
    · simp (disch := omega) only [wpOp, pval, putT, owned, initT, IntKind.bits, tab, callV, wpBuiltin, builtinV, BB, ↓updA, ↓reduceIte, Int.reduceLT, Int.reduceNeg, Int.reduceLE, Int.reduceToNat, Nat.reduceLT, Nat.reduceEqDiff, Nat.reduceAdd, Nat.reduceMul, Nat.reduceSub, Nat.reduceLeDiff, Nat.reduceBEq, q0]
    · simp (disch := omega) only [wpOp, pval, putT, owned, initT, IntKind.bits, tab, callV, wpBuiltin, builtinV, BB, ↓updA, ↓reduceIte, Int.reduceLT, Int.reduceNeg, Int.reduceLE, Int.reduceToNat, Nat.reduceLT, Nat.reduceEqDiff, Nat.reduceAdd, Nat.reduceMul, Nat.reduceSub, Nat.reduceLeDiff, Nat.reduceBEq, q2]
    · simp (disch := omega) only [wpOp, pval, putT, owned, initT, IntKind.bits, tab, callV, wpBuiltin, builtinV, BB, ↓updA, ↓reduceIte, Int.reduceLT, Int.reduceNeg, Int.reduceLE, Int.reduceToNat, Nat.reduceLT, Nat.reduceEqDiff, Nat.reduceAdd, Nat.reduceMul, Nat.reduceSub, Nat.reduceLeDiff, Nat.reduceBEq, q3]
    · simp (disch := omega) only [wpOp, pval, putT, owned, initT, IntKind.bits, tab, callV, wpBuiltin, builtinV, BB, ↓updA, ↓reduceIte, Int.reduceLT, Int.reduceNeg, Int.reduceLE, Int.reduceToNat, Nat.reduceLT, Nat.reduceEqDiff, Nat.reduceAdd, Nat.reduceMul, Nat.reduceSub, Nat.reduceLeDiff, Nat.reduceBEq, q4]
    · simp (disch := omega) only [wpOp, pval, putT, owned, initT, IntKind.bits, tab, callV, wpBuiltin, builtinV, BB, ↓updA, ↓reduceIte, Int.reduceLT, Int.reduceNeg, Int.reduceLE, Int.reduceToNat, Nat.reduceLT, Nat.reduceEqDiff, Nat.reduceAdd, Nat.reduceMul, Nat.reduceSub, Nat.reduceLeDiff, Nat.reduceBEq, q5]
    · simp (disch := omega) only [wpOp, pval, putT, owned, initT, IntKind.bits, tab, callV, wpBuiltin, builtinV, BB, ↓updA, ↓reduceIte, Int.reduceLT, Int.reduceNeg, Int.reduceLE, Int.reduceToNat, Nat.reduceLT, Nat.reduceEqDiff, Nat.reduceAdd, Nat.reduceMul, Nat.reduceSub, Nat.reduceLeDiff, Nat.reduceBEq]
      simp
  · refine wpC_exit ?_
    have hk2 : k = padZ rs.length := by
      have := padZ_lt hk
      omega
    subst hk2
    refine hQ _ e ?_ ?_ ?_ ?_ ?_ he ?_
    · simp (disch := omega) only [wpOp, pval, putT, owned, initT, IntKind.bits, tab, callV, wpBuiltin, builtinV, BB, ↓updA, ↓reduceIte, Int.reduceLT, Int.reduceNeg, Int.reduceLE, Int.reduceToNat, Nat.reduceLT, Nat.reduceEqDiff, Nat.reduceAdd, Nat.reduceMul, Nat.reduceSub, Nat.reduceLeDiff, Nat.reduceBEq, q0]
    · simp (disch := omega) only [wpOp, pval, putT, owned, initT, IntKind.bits, tab, callV, wpBuiltin, builtinV, BB, ↓updA, ↓reduceIte, Int.reduceLT, Int.reduceNeg, Int.reduceLE, Int.reduceToNat, Nat.reduceLT, Nat.reduceEqDiff, Nat.reduceAdd, Nat.reduceMul, Nat.reduceSub, Nat.reduceLeDiff, Nat.reduceBEq, q2]
    · simp (disch := omega) only [wpOp, pval, putT, owned, initT, IntKind.bits, tab, callV, wpBuiltin, builtinV, BB, ↓updA, ↓reduceIte, Int.reduceLT, Int.reduceNeg, Int.reduceLE, Int.reduceToNat, Nat.reduceLT, Nat.reduceEqDiff, Nat.reduceAdd, Nat.reduceMul, Nat.reduceSub, Nat.reduceLeDiff, Nat.reduceBEq, q3]
    · simp (disch := omega) only [wpOp, pval, putT, owned, initT, IntKind.bits, tab, callV, wpBuiltin, builtinV, BB, ↓updA, ↓reduceIte, Int.reduceLT, Int.reduceNeg, Int.reduceLE, Int.reduceToNat, Nat.reduceLT, Nat.reduceEqDiff, Nat.reduceAdd, Nat.reduceMul, Nat.reduceSub, Nat.reduceLeDiff, Nat.reduceBEq, q4]
    · simp (disch := omega) only [wpOp, pval, putT, owned, initT, IntKind.bits, tab, callV, wpBuiltin, builtinV, BB, ↓updA, ↓reduceIte, Int.reduceLT, Int.reduceNeg, Int.reduceLE, Int.reduceToNat, Nat.reduceLT, Nat.reduceEqDiff, Nat.reduceAdd, Nat.reduceMul, Nat.reduceSub, Nat.reduceLeDiff, Nat.reduceBEq, q5]
    · simp (disch := omega) only [wpOp, pval, putT, owned, initT, IntKind.bits, tab, callV, wpBuiltin, builtinV, BB, ↓updA, ↓reduceIte, Int.reduceLT, Int.reduceNeg, Int.reduceLE, Int.reduceToNat, Nat.reduceLT, Nat.reduceEqDiff, Nat.reduceAdd, Nat.reduceMul, Nat.reduceSub, Nat.reduceLeDiff, Nat.reduceBEq, q6]
end
end Go.Av
