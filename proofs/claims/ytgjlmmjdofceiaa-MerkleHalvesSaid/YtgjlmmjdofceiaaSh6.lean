/-
  Package sha: the blocks of a message, told one by one.
-/
import Derived.Test.YtgjlmmjdofceiaaSh5
import Derived.Test.YtgjlmmjdofceiaaSh4b
set_option linter.unusedSimpArgs false
set_option linter.unusedVariables false
namespace Go.Av
open Go.RowKit Go.Proofs

theorem view_one {H : Hp} {sz : Nat} {v : V} {es : List (List V)} (h : view H sz v = some es) : one v = true ∧ cellsV v = some [v] := by
  cases v <;> simp only [view, reduceCtorEq] at h <;> exact ⟨rfl, rfl⟩

def blkS (Y : YEnv) (l b : Nat) (G : Hp) (Qe : Hp → Prop) : Nat → List Nat → V → Hp → Prop
  | 0, _, _, _ => False
  | f + 1, bs, v, H => H b = some (.row [v]) ∧ bs.length < 4611686018427387904 ∧
    (64 ≤ bs.length → ∀ part, view G 1 part = some (nE .u8 (bs.take 64)) → ∃ Q₁ : V → Hp → Prop, Y l [.bool true, part] H Q₁ ∧ ∀ r H', Q₁ r H' →
      (r = .bool false ∧ Qe H') ∨ (r = .bool true ∧ H' b = some (.row [v]) ∧ ∀ v', view G 1 v' = some (nE .u8 (bs.drop 64)) → blkS Y l b G Qe f (bs.drop 64) v' (upd H' b (some (.row [v']))))) ∧
    (¬ 64 ≤ bs.length → ∀ part, view G 1 part = some (nE .u8 bs) → ∃ Q₁ : V → Hp → Prop, Y l [.bool false, part] H Q₁ ∧ ∀ r H', Q₁ r H' → Qe H')

def s99 : Spec := fun Y args H Q => ∃ l b v bs f G, args = [.fn (.yield l) [] [], .ptr b 0] ∧ view G 1 v = some (nE .u8 bs) ∧ blkS Y l b G (fun H' => Q (.tup []) H') f bs v H

theorem snd99 : Sound Try.prog 99 s99 := by
  refine sound_of_body pm (tab_sound [] (by simp)) [] Try.func99 rfl (by kernel_rfl) ?_
  rintro Y args H Q ⟨l, b, v, bs, f, G, rfl, hv0, hb⟩
  refine ⟨by simp [Try.f99], ?_⟩
  show wpC Try.prog (tab []) Y [] 16 _ true (endsA Try.prog [] Q) _ H
  repeat (first
    | ((first | refine wpOps_cons rfl fun K hK => ?_ | refine quiet_cons rfl fun K hK => ?_)
       simp (disch := omega) only [wpOp, pval, putT, owned, initT, IntKind.bits, tab, callV, wpBuiltin, builtinV, BB, ↓updA, ↓reduceIte, Int.reduceLT, Int.reduceNeg, Int.reduceLE, Int.reduceToNat, Nat.reduceLT, Nat.reduceEqDiff, Nat.reduceAdd, Nat.reduceMul, Nat.reduceSub, Nat.reduceLeDiff, Nat.reduceBEq]
       first
         | refine hK _ _ ?_
         | refine ⟨_, ⟨rfl, by first | rfl | trivial⟩, hK _ ?_⟩
         | refine ⟨_, ⟨_, _, rfl, by decide, by decide, rfl, by first | rfl | trivial⟩, hK _ ?_⟩
       clear hK)
    | refine wpOps_skip rfl ?_
    | refine quiet_skip rfl ?_
    | refine quiet_nil ?_
    | (refine wpOps_nil ?_
       simp only [thenA, inBlockA, noGotoA]
       first
         | ((first | refine hS _ _ ?_ | (clear hS; refine hS _ _ ?_) | (clear hS; clear hS; refine hS _ _ ?_) | (clear hS; clear hS; clear hS; refine hS _ _ ?_) | (clear hS; clear hS; clear hS; clear hS; refine hS _ _ ?_)); clear hS)
         | skip)
    | (refine wpC_label ?_
       simp only [thenA]
       (first | refine hS _ _ ?_ | (clear hS; refine hS _ _ ?_) | (clear hS; clear hS; refine hS _ _ ?_) | (clear hS; clear hS; clear hS; refine hS _ _ ?_) | (clear hS; clear hS; clear hS; clear hS; refine hS _ _ ?_))
       clear hS)
    | refine wpC_seq fun K hS => ?_
    | refine wpC_region rfl ?_
    | refine wpC_block ?_
    | refine wpC_scope ?_
    | (refine wpC_ret ?_
       simp (disch := omega) only [thenA, inBlockA, noGotoA, endsA, ressV, resV, oneV, putT, BB, ↓updA, ↓reduceIte, Nat.reduceLT, Nat.reduceEqDiff]))
  refine wpC_loop (fun m t H' => ∃ v bs, t 0 = .fn (.yield l) [] [] ∧ t 1 = .ptr b 0 ∧ view G 1 v = some (nE .u8 bs) ∧ blkS Y l b G (fun H' => Q (.tup []) H') m bs v H') f ⟨v, bs, rfl, rfl, hv0, hb⟩ fun KL m t H' hI hKL => ?_
  clear hb hv0
  obtain ⟨v, bs, h0, h1, hv, hI⟩ := hI
  cases m with
  | zero => exact hI.elim
  | succ f =>
    obtain ⟨hb, hlen, hI1, hI2⟩ := hI
    have hly := lenV_view sl64 hv
    rw [nE_len] at hly
    have hld := load_cell (off := 0) hb ty64 rfl
    repeat (first
    | ((first | refine wpOps_cons rfl fun K hK => ?_ | refine quiet_cons rfl fun K hK => ?_)
       simp (disch := omega) only [wpOp, pval, putT, owned, initT, IntKind.bits, tab, callV, wpBuiltin, builtinV, BB, ↓updA, ↓reduceIte, Int.reduceLT, Int.reduceNeg, Int.reduceLE, Int.reduceToNat, Nat.reduceLT, Nat.reduceEqDiff, Nat.reduceAdd, Nat.reduceMul, Nat.reduceSub, Nat.reduceLeDiff, Nat.reduceBEq, h0, h1, hld, hly, wpBuiltin, builtinV]
       first
         | refine hK _ _ ?_
         | refine ⟨_, ⟨rfl, by first | rfl | trivial⟩, hK _ ?_⟩
         | refine ⟨_, ⟨_, _, rfl, by decide, by decide, rfl, by first | rfl | trivial⟩, hK _ ?_⟩
       clear hK)
    | refine wpOps_skip rfl ?_
    | refine quiet_skip rfl ?_
    | refine quiet_nil ?_
    | (refine wpOps_nil ?_
       simp only [thenA, inBlockA, noGotoA]
       first
         | ((first | refine hS _ _ ?_ | (clear hS; refine hS _ _ ?_) | (clear hS; clear hS; refine hS _ _ ?_) | (clear hS; clear hS; clear hS; refine hS _ _ ?_) | (clear hS; clear hS; clear hS; clear hS; refine hS _ _ ?_)); clear hS)
         | skip)
    | (refine wpC_label ?_
       simp only [thenA]
       (first | refine hS _ _ ?_ | (clear hS; refine hS _ _ ?_) | (clear hS; clear hS; refine hS _ _ ?_) | (clear hS; clear hS; clear hS; refine hS _ _ ?_) | (clear hS; clear hS; clear hS; clear hS; refine hS _ _ ?_))
       clear hS)
    | refine wpC_seq fun K hS => ?_
    | refine wpC_region rfl ?_
    | refine wpC_block ?_
    | refine wpC_scope ?_
    | (refine wpC_ret ?_
       simp (disch := omega) only [thenA, inBlockA, noGotoA, endsA, ressV, resV, oneV, putT, BB, ↓updA, ↓reduceIte, Nat.reduceLT, Nat.reduceEqDiff, h0, h1, hld, hly, wpBuiltin, builtinV]))
    refine wpC_dec rfl (fun hd => ?_) (fun hd => ?_)
    · (refine wpC_skip ?_; simp only [thenA, inBlockA, noGotoA]; (first | refine hS _ _ ?_ | (clear hS; refine hS _ _ ?_) | (clear hS; clear hS; refine hS _ _ ?_) | (clear hS; clear hS; clear hS; refine hS _ _ ?_) | (clear hS; clear hS; clear hS; clear hS; refine hS _ _ ?_)); clear hS)
      obtain ⟨y, hy, hvy⟩ := slice_view (lo := none) (hi := some (vN .i64 64)) ar64 sl64 hv (bnd_N 64 (by rw [nE_len]; omega)) rfl (by omega) (by rw [nE_len]; omega)
      rw [List.drop_zero, nE_take] at hvy
      obtain ⟨Q₁, hY, hQ₁⟩ := hI1 hd y hvy
      repeat (first
    | ((first | refine wpOps_cons rfl fun K hK => ?_ | refine quiet_cons rfl fun K hK => ?_)
       simp (disch := omega) only [wpOp, pval, putT, owned, initT, IntKind.bits, tab, callV, wpBuiltin, builtinV, BB, ↓updA, ↓reduceIte, Int.reduceLT, Int.reduceNeg, Int.reduceLE, Int.reduceToNat, Nat.reduceLT, Nat.reduceEqDiff, Nat.reduceAdd, Nat.reduceMul, Nat.reduceSub, Nat.reduceLeDiff, Nat.reduceBEq, h0, h1, hld, hy, Option.map_none]
       first
         | refine hK _ _ ?_
         | refine ⟨_, ⟨rfl, by first | rfl | trivial⟩, hK _ ?_⟩
         | refine ⟨_, ⟨_, _, rfl, by decide, by decide, rfl, by first | rfl | trivial⟩, hK _ ?_⟩
       clear hK)
    | refine wpOps_skip rfl ?_
    | refine quiet_skip rfl ?_
    | refine quiet_nil ?_
    | (refine wpOps_nil ?_
       simp only [thenA, inBlockA, noGotoA]
       first
         | ((first | refine hS _ _ ?_ | (clear hS; refine hS _ _ ?_) | (clear hS; clear hS; refine hS _ _ ?_) | (clear hS; clear hS; clear hS; refine hS _ _ ?_) | (clear hS; clear hS; clear hS; clear hS; refine hS _ _ ?_)); clear hS)
         | skip)
    | (refine wpC_label ?_
       simp only [thenA]
       (first | refine hS _ _ ?_ | (clear hS; refine hS _ _ ?_) | (clear hS; clear hS; refine hS _ _ ?_) | (clear hS; clear hS; clear hS; refine hS _ _ ?_) | (clear hS; clear hS; clear hS; clear hS; refine hS _ _ ?_))
       clear hS)
    | refine wpC_seq fun K hS => ?_
    | refine wpC_region rfl ?_
    | refine wpC_block ?_
    | refine wpC_scope ?_
    | (refine wpC_ret ?_
       simp (disch := omega) only [thenA, inBlockA, noGotoA, endsA, ressV, resV, oneV, putT, BB, ↓updA, ↓reduceIte, Nat.reduceLT, Nat.reduceEqDiff, h0, h1, hld, hy, Option.map_none]))
      refine wpOps_cons rfl fun K hK => ?_
      simp (disch := omega) only [wpOp, pval, putT, owned, initT, IntKind.bits, tab, callV, wpBuiltin, builtinV, BB, ↓updA, ↓reduceIte, Int.reduceLT, Int.reduceNeg, Int.reduceLE, Int.reduceToNat, Nat.reduceLT, Nat.reduceEqDiff, Nat.reduceAdd, Nat.reduceMul, Nat.reduceSub, Nat.reduceLeDiff, Nat.reduceBEq, h0]
      refine ⟨Q₁, hY, fun r H'' hq => hK _ _ ?_⟩
      rcases hQ₁ r H'' hq with ⟨rfl, hQe⟩ | ⟨rfl, hb', hnext⟩
      · repeat (first
    | ((first | refine wpOps_cons rfl fun K hK => ?_ | refine quiet_cons rfl fun K hK => ?_)
       simp (disch := omega) only [wpOp, pval, putT, owned, initT, IntKind.bits, tab, callV, wpBuiltin, builtinV, BB, ↓updA, ↓reduceIte, Int.reduceLT, Int.reduceNeg, Int.reduceLE, Int.reduceToNat, Nat.reduceLT, Nat.reduceEqDiff, Nat.reduceAdd, Nat.reduceMul, Nat.reduceSub, Nat.reduceLeDiff, Nat.reduceBEq, unV_not, Bool.not_false]
       first
         | refine hK _ _ ?_
         | refine ⟨_, ⟨rfl, by first | rfl | trivial⟩, hK _ ?_⟩
         | refine ⟨_, ⟨_, _, rfl, by decide, by decide, rfl, by first | rfl | trivial⟩, hK _ ?_⟩
       clear hK)
    | refine wpOps_skip rfl ?_
    | refine quiet_skip rfl ?_
    | refine quiet_nil ?_
    | (refine wpOps_nil ?_
       simp only [thenA, inBlockA, noGotoA]
       first
         | ((first | refine hS _ _ ?_ | (clear hS; refine hS _ _ ?_) | (clear hS; clear hS; refine hS _ _ ?_) | (clear hS; clear hS; clear hS; refine hS _ _ ?_) | (clear hS; clear hS; clear hS; clear hS; refine hS _ _ ?_)); clear hS)
         | skip)
    | (refine wpC_label ?_
       simp only [thenA]
       (first | refine hS _ _ ?_ | (clear hS; refine hS _ _ ?_) | (clear hS; clear hS; refine hS _ _ ?_) | (clear hS; clear hS; clear hS; refine hS _ _ ?_) | (clear hS; clear hS; clear hS; clear hS; refine hS _ _ ?_))
       clear hS)
    | refine wpC_seq fun K hS => ?_
    | refine wpC_region rfl ?_
    | refine wpC_block ?_
    | refine wpC_scope ?_
    | (refine wpC_ret ?_
       simp (disch := omega) only [thenA, inBlockA, noGotoA, endsA, ressV, resV, oneV, putT, BB, ↓updA, ↓reduceIte, Nat.reduceLT, Nat.reduceEqDiff, unV_not, Bool.not_false]))
        refine wpC_true rfl ?_
        repeat (first
    | ((first | refine wpOps_cons rfl fun K hK => ?_ | refine quiet_cons rfl fun K hK => ?_)
       simp (disch := omega) only [wpOp, pval, putT, owned, initT, IntKind.bits, tab, callV, wpBuiltin, builtinV, BB, ↓updA, ↓reduceIte, Int.reduceLT, Int.reduceNeg, Int.reduceLE, Int.reduceToNat, Nat.reduceLT, Nat.reduceEqDiff, Nat.reduceAdd, Nat.reduceMul, Nat.reduceSub, Nat.reduceLeDiff, Nat.reduceBEq]
       first
         | refine hK _ _ ?_
         | refine ⟨_, ⟨rfl, by first | rfl | trivial⟩, hK _ ?_⟩
         | refine ⟨_, ⟨_, _, rfl, by decide, by decide, rfl, by first | rfl | trivial⟩, hK _ ?_⟩
       clear hK)
    | refine wpOps_skip rfl ?_
    | refine quiet_skip rfl ?_
    | refine quiet_nil ?_
    | (refine wpOps_nil ?_
       simp only [thenA, inBlockA, noGotoA]
       first
         | ((first | refine hS _ _ ?_ | (clear hS; refine hS _ _ ?_) | (clear hS; clear hS; refine hS _ _ ?_) | (clear hS; clear hS; clear hS; refine hS _ _ ?_) | (clear hS; clear hS; clear hS; clear hS; refine hS _ _ ?_)); clear hS)
         | skip)
    | (refine wpC_label ?_
       simp only [thenA]
       (first | refine hS _ _ ?_ | (clear hS; refine hS _ _ ?_) | (clear hS; clear hS; refine hS _ _ ?_) | (clear hS; clear hS; clear hS; refine hS _ _ ?_) | (clear hS; clear hS; clear hS; clear hS; refine hS _ _ ?_))
       clear hS)
    | refine wpC_seq fun K hS => ?_
    | refine wpC_region rfl ?_
    | refine wpC_block ?_
    | refine wpC_scope ?_
    | (refine wpC_ret ?_
       simp (disch := omega) only [thenA, inBlockA, noGotoA, endsA, ressV, resV, oneV, putT, BB, ↓updA, ↓reduceIte, Nat.reduceLT, Nat.reduceEqDiff]))
        exact ⟨_, rfl, [], _, hle_refl _, hQe⟩
      · repeat (first
    | ((first | refine wpOps_cons rfl fun K hK => ?_ | refine quiet_cons rfl fun K hK => ?_)
       simp (disch := omega) only [wpOp, pval, putT, owned, initT, IntKind.bits, tab, callV, wpBuiltin, builtinV, BB, ↓updA, ↓reduceIte, Int.reduceLT, Int.reduceNeg, Int.reduceLE, Int.reduceToNat, Nat.reduceLT, Nat.reduceEqDiff, Nat.reduceAdd, Nat.reduceMul, Nat.reduceSub, Nat.reduceLeDiff, Nat.reduceBEq, unV_not, Bool.not_true]
       first
         | refine hK _ _ ?_
         | refine ⟨_, ⟨rfl, by first | rfl | trivial⟩, hK _ ?_⟩
         | refine ⟨_, ⟨_, _, rfl, by decide, by decide, rfl, by first | rfl | trivial⟩, hK _ ?_⟩
       clear hK)
    | refine wpOps_skip rfl ?_
    | refine quiet_skip rfl ?_
    | refine quiet_nil ?_
    | (refine wpOps_nil ?_
       simp only [thenA, inBlockA, noGotoA]
       first
         | ((first | refine hS _ _ ?_ | (clear hS; refine hS _ _ ?_) | (clear hS; clear hS; refine hS _ _ ?_) | (clear hS; clear hS; clear hS; refine hS _ _ ?_) | (clear hS; clear hS; clear hS; clear hS; refine hS _ _ ?_)); clear hS)
         | skip)
    | (refine wpC_label ?_
       simp only [thenA]
       (first | refine hS _ _ ?_ | (clear hS; refine hS _ _ ?_) | (clear hS; clear hS; refine hS _ _ ?_) | (clear hS; clear hS; clear hS; refine hS _ _ ?_) | (clear hS; clear hS; clear hS; clear hS; refine hS _ _ ?_))
       clear hS)
    | refine wpC_seq fun K hS => ?_
    | refine wpC_region rfl ?_
    | refine wpC_block ?_
    | refine wpC_scope ?_
    | (refine wpC_ret ?_
       simp (disch := omega) only [thenA, inBlockA, noGotoA, endsA, ressV, resV, oneV, putT, BB, ↓updA, ↓reduceIte, Nat.reduceLT, Nat.reduceEqDiff, unV_not, Bool.not_true]))
        refine wpC_false rfl ?_
        (refine wpC_skip ?_; simp only [thenA, inBlockA, noGotoA]; (first | refine hS _ _ ?_ | (clear hS; refine hS _ _ ?_) | (clear hS; clear hS; refine hS _ _ ?_) | (clear hS; clear hS; clear hS; refine hS _ _ ?_) | (clear hS; clear hS; clear hS; clear hS; refine hS _ _ ?_)); clear hS)
        obtain ⟨y', hy', hvy'⟩ := slice_view (lo := some (vN .i64 64)) (hi := none) ar64 sl64 hv (bnd_none _ _) (bnd_N 64 (by rw [nE_len]; omega)) (by rw [nE_len]; omega) (Nat.le_refl _)
        rw [List.take_of_length_le (Nat.le_refl _), nE_drop] at hvy'
        have hld' := load_cell (off := 0) hb' ty64 rfl
        repeat (first
    | ((first | refine wpOps_cons rfl fun K hK => ?_ | refine quiet_cons rfl fun K hK => ?_)
       simp (disch := omega) only [wpOp, pval, putT, owned, initT, IntKind.bits, tab, callV, wpBuiltin, builtinV, BB, ↓updA, ↓reduceIte, Int.reduceLT, Int.reduceNeg, Int.reduceLE, Int.reduceToNat, Nat.reduceLT, Nat.reduceEqDiff, Nat.reduceAdd, Nat.reduceMul, Nat.reduceSub, Nat.reduceLeDiff, Nat.reduceBEq, h0, h1, hld', hy', Option.map_none]
       first
         | refine hK _ _ ?_
         | refine ⟨_, ⟨rfl, by first | rfl | trivial⟩, hK _ ?_⟩
         | refine ⟨_, ⟨_, _, rfl, by decide, by decide, rfl, by first | rfl | trivial⟩, hK _ ?_⟩
       clear hK)
    | refine wpOps_skip rfl ?_
    | refine quiet_skip rfl ?_
    | refine quiet_nil ?_
    | (refine wpOps_nil ?_
       simp only [thenA, inBlockA, noGotoA]
       first
         | ((first | refine hS _ _ ?_ | (clear hS; refine hS _ _ ?_) | (clear hS; clear hS; refine hS _ _ ?_) | (clear hS; clear hS; clear hS; refine hS _ _ ?_) | (clear hS; clear hS; clear hS; clear hS; refine hS _ _ ?_)); clear hS)
         | skip)
    | (refine wpC_label ?_
       simp only [thenA]
       (first | refine hS _ _ ?_ | (clear hS; refine hS _ _ ?_) | (clear hS; clear hS; refine hS _ _ ?_) | (clear hS; clear hS; clear hS; refine hS _ _ ?_) | (clear hS; clear hS; clear hS; clear hS; refine hS _ _ ?_))
       clear hS)
    | refine wpC_seq fun K hS => ?_
    | refine wpC_region rfl ?_
    | refine wpC_block ?_
    | refine wpC_scope ?_
    | (refine wpC_ret ?_
       simp (disch := omega) only [thenA, inBlockA, noGotoA, endsA, ressV, resV, oneV, putT, BB, ↓updA, ↓reduceIte, Nat.reduceLT, Nat.reduceEqDiff, h0, h1, hld', hy', Option.map_none]))
        refine wpOps_cons rfl fun K hK => ?_
        simp (disch := omega) only [wpOp, pval, putT, owned, initT, IntKind.bits, tab, callV, wpBuiltin, builtinV, BB, ↓updA, ↓reduceIte, Int.reduceLT, Int.reduceNeg, Int.reduceLE, Int.reduceToNat, Nat.reduceLT, Nat.reduceEqDiff, Nat.reduceAdd, Nat.reduceMul, Nat.reduceSub, Nat.reduceLeDiff, Nat.reduceBEq, h1]
        refine ⟨_, store_cell (off := 0) (b := b) hb' ty64 (view_one hvy').2 (view_one hvy').1 (by simp), hK _ _ ?_⟩
        repeat (first
    | ((first | refine wpOps_cons rfl fun K hK => ?_ | refine quiet_cons rfl fun K hK => ?_)
       simp (disch := omega) only [wpOp, pval, putT, owned, initT, IntKind.bits, tab, callV, wpBuiltin, builtinV, BB, ↓updA, ↓reduceIte, Int.reduceLT, Int.reduceNeg, Int.reduceLE, Int.reduceToNat, Nat.reduceLT, Nat.reduceEqDiff, Nat.reduceAdd, Nat.reduceMul, Nat.reduceSub, Nat.reduceLeDiff, Nat.reduceBEq]
       first
         | refine hK _ _ ?_
         | refine ⟨_, ⟨rfl, by first | rfl | trivial⟩, hK _ ?_⟩
         | refine ⟨_, ⟨_, _, rfl, by decide, by decide, rfl, by first | rfl | trivial⟩, hK _ ?_⟩
       clear hK)
    | refine wpOps_skip rfl ?_
    | refine quiet_skip rfl ?_
    | refine quiet_nil ?_
    | (refine wpOps_nil ?_
       simp only [thenA, inBlockA, noGotoA]
       first
         | ((first | refine hS _ _ ?_ | (clear hS; refine hS _ _ ?_) | (clear hS; clear hS; refine hS _ _ ?_) | (clear hS; clear hS; clear hS; refine hS _ _ ?_) | (clear hS; clear hS; clear hS; clear hS; refine hS _ _ ?_)); clear hS)
         | skip)
    | (refine wpC_label ?_
       simp only [thenA]
       (first | refine hS _ _ ?_ | (clear hS; refine hS _ _ ?_) | (clear hS; clear hS; refine hS _ _ ?_) | (clear hS; clear hS; clear hS; refine hS _ _ ?_) | (clear hS; clear hS; clear hS; clear hS; refine hS _ _ ?_))
       clear hS)
    | refine wpC_seq fun K hS => ?_
    | refine wpC_region rfl ?_
    | refine wpC_block ?_
    | refine wpC_scope ?_
    | (refine wpC_ret ?_
       simp (disch := omega) only [thenA, inBlockA, noGotoA, endsA, ressV, resV, oneV, putT, BB, ↓updA, ↓reduceIte, Nat.reduceLT, Nat.reduceEqDiff]))
        refine hKL _ _ _ (Nat.lt_succ_self f) ⟨y', bs.drop 64, ?_, ?_, hvy', hnext y' hvy'⟩
        · simp (disch := omega) only [wpOp, pval, putT, owned, initT, IntKind.bits, tab, callV, wpBuiltin, builtinV, BB, ↓updA, ↓reduceIte, Int.reduceLT, Int.reduceNeg, Int.reduceLE, Int.reduceToNat, Nat.reduceLT, Nat.reduceEqDiff, Nat.reduceAdd, Nat.reduceMul, Nat.reduceSub, Nat.reduceLeDiff, Nat.reduceBEq, h0]
        · simp (disch := omega) only [wpOp, pval, putT, owned, initT, IntKind.bits, tab, callV, wpBuiltin, builtinV, BB, ↓updA, ↓reduceIte, Int.reduceLT, Int.reduceNeg, Int.reduceLE, Int.reduceToNat, Nat.reduceLT, Nat.reduceEqDiff, Nat.reduceAdd, Nat.reduceMul, Nat.reduceSub, Nat.reduceLeDiff, Nat.reduceBEq, h1]
    · (refine wpC_exit ?_; simp only [thenA, inBlockA, noGotoA, ↓reduceIte, Nat.reduceEqDiff]; (first | refine hS _ _ ?_ | (clear hS; refine hS _ _ ?_) | (clear hS; clear hS; refine hS _ _ ?_) | (clear hS; clear hS; clear hS; refine hS _ _ ?_) | (clear hS; clear hS; clear hS; clear hS; refine hS _ _ ?_)); clear hS)
      obtain ⟨Q₁, hY, hQ₁⟩ := hI2 hd v hv
      repeat (first
    | ((first | refine wpOps_cons rfl fun K hK => ?_ | refine quiet_cons rfl fun K hK => ?_)
       simp (disch := omega) only [wpOp, pval, putT, owned, initT, IntKind.bits, tab, callV, wpBuiltin, builtinV, BB, ↓updA, ↓reduceIte, Int.reduceLT, Int.reduceNeg, Int.reduceLE, Int.reduceToNat, Nat.reduceLT, Nat.reduceEqDiff, Nat.reduceAdd, Nat.reduceMul, Nat.reduceSub, Nat.reduceLeDiff, Nat.reduceBEq, h0, h1, hld]
       first
         | refine hK _ _ ?_
         | refine ⟨_, ⟨rfl, by first | rfl | trivial⟩, hK _ ?_⟩
         | refine ⟨_, ⟨_, _, rfl, by decide, by decide, rfl, by first | rfl | trivial⟩, hK _ ?_⟩
       clear hK)
    | refine wpOps_skip rfl ?_
    | refine quiet_skip rfl ?_
    | refine quiet_nil ?_
    | (refine wpOps_nil ?_
       simp only [thenA, inBlockA, noGotoA]
       first
         | ((first | refine hS _ _ ?_ | (clear hS; refine hS _ _ ?_) | (clear hS; clear hS; refine hS _ _ ?_) | (clear hS; clear hS; clear hS; refine hS _ _ ?_) | (clear hS; clear hS; clear hS; clear hS; refine hS _ _ ?_)); clear hS)
         | skip)
    | (refine wpC_label ?_
       simp only [thenA]
       (first | refine hS _ _ ?_ | (clear hS; refine hS _ _ ?_) | (clear hS; clear hS; refine hS _ _ ?_) | (clear hS; clear hS; clear hS; refine hS _ _ ?_) | (clear hS; clear hS; clear hS; clear hS; refine hS _ _ ?_))
       clear hS)
    | refine wpC_seq fun K hS => ?_
    | refine wpC_region rfl ?_
    | refine wpC_block ?_
    | refine wpC_scope ?_
    | (refine wpC_ret ?_
       simp (disch := omega) only [thenA, inBlockA, noGotoA, endsA, ressV, resV, oneV, putT, BB, ↓updA, ↓reduceIte, Nat.reduceLT, Nat.reduceEqDiff, h0, h1, hld]))
      refine wpOps_cons rfl fun K hK => ?_
      simp (disch := omega) only [wpOp, pval, putT, owned, initT, IntKind.bits, tab, callV, wpBuiltin, builtinV, BB, ↓updA, ↓reduceIte, Int.reduceLT, Int.reduceNeg, Int.reduceLE, Int.reduceToNat, Nat.reduceLT, Nat.reduceEqDiff, Nat.reduceAdd, Nat.reduceMul, Nat.reduceSub, Nat.reduceLeDiff, Nat.reduceBEq, h0]
      refine ⟨Q₁, hY, fun r H'' hq => hK _ _ ?_⟩
      have hQe := hQ₁ r H'' hq
      repeat (first
    | ((first | refine wpOps_cons rfl fun K hK => ?_ | refine quiet_cons rfl fun K hK => ?_)
       simp (disch := omega) only [wpOp, pval, putT, owned, initT, IntKind.bits, tab, callV, wpBuiltin, builtinV, BB, ↓updA, ↓reduceIte, Int.reduceLT, Int.reduceNeg, Int.reduceLE, Int.reduceToNat, Nat.reduceLT, Nat.reduceEqDiff, Nat.reduceAdd, Nat.reduceMul, Nat.reduceSub, Nat.reduceLeDiff, Nat.reduceBEq]
       first
         | refine hK _ _ ?_
         | refine ⟨_, ⟨rfl, by first | rfl | trivial⟩, hK _ ?_⟩
         | refine ⟨_, ⟨_, _, rfl, by decide, by decide, rfl, by first | rfl | trivial⟩, hK _ ?_⟩
       clear hK)
    | refine wpOps_skip rfl ?_
    | refine quiet_skip rfl ?_
    | refine quiet_nil ?_
    | (refine wpOps_nil ?_
       simp only [thenA, inBlockA, noGotoA]
       first
         | ((first | refine hS _ _ ?_ | (clear hS; refine hS _ _ ?_) | (clear hS; clear hS; refine hS _ _ ?_) | (clear hS; clear hS; clear hS; refine hS _ _ ?_) | (clear hS; clear hS; clear hS; clear hS; refine hS _ _ ?_)); clear hS)
         | skip)
    | (refine wpC_label ?_
       simp only [thenA]
       (first | refine hS _ _ ?_ | (clear hS; refine hS _ _ ?_) | (clear hS; clear hS; refine hS _ _ ?_) | (clear hS; clear hS; clear hS; refine hS _ _ ?_) | (clear hS; clear hS; clear hS; clear hS; refine hS _ _ ?_))
       clear hS)
    | refine wpC_seq fun K hS => ?_
    | refine wpC_region rfl ?_
    | refine wpC_block ?_
    | refine wpC_scope ?_
    | (refine wpC_ret ?_
       simp (disch := omega) only [thenA, inBlockA, noGotoA, endsA, ressV, resV, oneV, putT, BB, ↓updA, ↓reduceIte, Nat.reduceLT, Nat.reduceEqDiff]))
      exact ⟨_, rfl, [], _, hle_refl _, hQe⟩
end Go.Av
