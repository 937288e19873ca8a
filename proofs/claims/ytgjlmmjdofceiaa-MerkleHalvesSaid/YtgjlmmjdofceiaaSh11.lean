/-
  Package sha: Write.
-/
import Derived.Test.YtgjlmmjdofceiaaSh10
set_option linter.unusedSimpArgs false
set_option linter.unusedVariables false
namespace Go.Av
open Go.RowKit Go.Proofs

theorem stOf_step {st l : List Nat} (h : 64 ≤ l.length) : stOf st l = stOf (mixOf st (l.take 64)) (l.drop 64) := by
  have e : l.length / 64 = (l.drop 64).length / 64 + 1 := by rw [List.length_drop]; omega
  rw [stOf, e, absorb, stOf]
theorem restOf_step {l : List Nat} (h : 64 ≤ l.length) : restOf l = restOf (l.drop 64) := by
  have e : 64 * (l.length / 64) = 64 + 64 * ((l.drop 64).length / 64) := by rw [List.length_drop]; omega
  rw [restOf, e, restOf, List.drop_drop]
theorem stOf_end {st l : List Nat} (h : ¬ 64 ≤ l.length) : stOf st l = st := by
  have e : l.length / 64 = 0 := by omega
  rw [stOf, e, absorb]
theorem restOf_end {l : List Nat} (h : ¬ 64 ≤ l.length) : restOf l = l := by
  have e : l.length / 64 = 0 := by omega
  rw [restOf, e, Nat.mul_zero, List.drop_zero]

/-- What the loop over blocks makes of a call of its body. -/
def F68 (Y : YEnv) (t : T) (l : Nat) (ob : LoopState → Option Code → Obj) : Spec0 := fun args H' QY => args.length = 2 ∧ H' l = some (.raw (ob .ready none)) ∧
  wpC Try.prog (tab [(81, s81), (82, s82.or s82v), (83, s83), (84, s84), (99, s99)]) Y [] 41 (asgOf (loopAt Try.f68 0)) false (onlyA fun t₁ H₁ => H₁ l = some (.raw (ob .ready none)) ∧
    wpC Try.prog (tab [(81, s81), (82, s82.or s82v), (83, s83), (84, s84), (99, s99)]) Y [] 41 (rbodyOf (loopAt Try.f68 0)) false (roundA l ob QY) t₁ (upd H₁ l (some (.raw (ob .busy none))))) (putsT 41 t [29, 30] args) H'

theorem blk68 {Y Y' : YEnv} {t : T} {l a b c : Nat} {ob : LoopState → Option Code → Obj} {G : Hp} {Qe : Hp → Prop} {rest : V} {many : Nat} (h2 : t 2 = .ptr a 0) (ga : G a = some (.row [.ptr b 0])) (gb : G b = none) (gc : G c = none) (gl : G l = none) (hbc : b ≠ c) (hbl : b ≠ l) (hcl : c ≠ l) :
    ∀ (n : Nat) (st bs : List Nat) (v : V) (X : Hp), bs.length / 64 = n → bs.length ≤ 140737488355328 → st.length = 8 → X b = some (.row (sumR st rest many)) → X c = some (.row [v]) → X l = some (.raw (ob .ready none)) → hle G X →
      (∀ X', X' b = some (.row (sumR (stOf st bs) (.sl 1 (nE .u8 (restOf bs)) false) many)) → X' l = some (.raw (ob .ready none)) → hle G X' → Qe X') → blkS (upd Y' l (F68 Y t l ob)) l c G Qe (n + 1) bs v X
  | n, st, bs, v, X, hn, hlen, h8, xb, xc, xl, hG, hQ => by
    have yl : ∀ args H Q, F68 Y t l ob args H Q → upd Y' l (F68 Y t l ob) l args H Q := fun args H Q h => by rw [upd_eq]; exact h
    have hal : a ≠ l := fun e => by subst e; rw [ga] at gl; cases gl
    have hab : a ≠ b := fun e => by subst e; rw [ga] at gb; cases gb
    have hX1 : ∀ z, hle G (upd X l z) := fun z => hle_upd hG gl
    refine ⟨xc, by omega, fun h64 part hp => ?_, fun h64 part hp => ?_⟩
    · refine ⟨fun r X' => r = .bool true ∧ X' b = some (.row (sumR (mixOf st (bs.take 64)) rest many)) ∧ X' c = some (.row [v]) ∧ X' l = some (.raw (ob .ready none)) ∧ hle G X', yl _ _ _ ⟨rfl, xl, ?_⟩, ?_⟩
      · show wpC Try.prog (tab [(81, s81), (82, s82.or s82v), (83, s83), (84, s84), (99, s99)]) Y [] 41 (asgOf (loopAt Try.f68 0)) false (onlyA _) (putT 41 (putT 41 t (some 29) (.bool true)) (some 30) part) X
        repeat (first
    | ((first | refine wpOps_cons rfl fun K hK => ?_ | refine quiet_cons rfl fun K hK => ?_)
       simp (disch := omega) only [wpOp, pval, putT, owned, initT, IntKind.bits, tab, callV, wpBuiltin, builtinV, BB, ↓updA, ↓reduceIte, Int.reduceLT, Int.reduceNeg, Int.reduceLE, Int.reduceToNat, Nat.reduceLT, Nat.reduceEqDiff, Nat.reduceAdd, Nat.reduceMul, Nat.reduceSub, Nat.reduceLeDiff, Nat.reduceBEq]
       first
         | refine hK _ _ ?_
         | refine ⟨_, ⟨rfl, by first | rfl | trivial⟩, hK _ ?_⟩
         | refine ⟨_, ⟨_, _, rfl, by decide, by decide, rfl, by first | rfl | trivial⟩, hK _ ?_⟩
       clear hK)
    | refine wpOps_skip rfl ?_
    | refine quiet_skip rfl ?_
    | refine quiet_nil ?_
    | (refine wpOps_nil ?_
       simp only [thenA, inBlockA, noGotoA]
       first
         | ((first | refine hS _ _ ?_ | (clear hS; refine hS _ _ ?_) | (clear hS; clear hS; refine hS _ _ ?_) | (clear hS; clear hS; clear hS; refine hS _ _ ?_) | (clear hS; clear hS; clear hS; clear hS; refine hS _ _ ?_)); clear hS)
         | skip)
    | (refine wpC_label ?_
       simp only [thenA]
       (first | refine hS _ _ ?_ | (clear hS; refine hS _ _ ?_) | (clear hS; clear hS; refine hS _ _ ?_) | (clear hS; clear hS; clear hS; refine hS _ _ ?_) | (clear hS; clear hS; clear hS; clear hS; refine hS _ _ ?_))
       clear hS)
    | refine wpC_seq fun K hS => ?_
    | refine wpC_region rfl ?_
    | refine wpC_block ?_
    | refine wpC_scope ?_
    | (refine wpC_ret ?_
       simp (disch := omega) only [thenA, inBlockA, noGotoA, endsA, ressV, resV, oneV, putT, BB, ↓updA, ↓reduceIte, Nat.reduceLT, Nat.reduceEqDiff]))
        refine wpOps_nil ?_
        simp only [onlyA]
        refine ⟨xl, rd68_mix (a := a) (b := b) (st := st) (rest := rest) (many := many) (bs := bs.take 64) (part := part) ?_ ?_ ?_ ?_ ?_ h8 (view_le (hX1 _) hp) (by rw [List.length_take]; omega) fun t' => ?_⟩
        · simp (disch := omega) only [wpOp, pval, putT, owned, initT, IntKind.bits, tab, callV, wpBuiltin, builtinV, BB, ↓updA, ↓reduceIte, Int.reduceLT, Int.reduceNeg, Int.reduceLE, Int.reduceToNat, Nat.reduceLT, Nat.reduceEqDiff, Nat.reduceAdd, Nat.reduceMul, Nat.reduceSub, Nat.reduceLeDiff, Nat.reduceBEq]
        · simp (disch := omega) only [wpOp, pval, putT, owned, initT, IntKind.bits, tab, callV, wpBuiltin, builtinV, BB, ↓updA, ↓reduceIte, Int.reduceLT, Int.reduceNeg, Int.reduceLE, Int.reduceToNat, Nat.reduceLT, Nat.reduceEqDiff, Nat.reduceAdd, Nat.reduceMul, Nat.reduceSub, Nat.reduceLeDiff, Nat.reduceBEq]
        · simp (disch := omega) only [wpOp, pval, putT, owned, initT, IntKind.bits, tab, callV, wpBuiltin, builtinV, BB, ↓updA, ↓reduceIte, Int.reduceLT, Int.reduceNeg, Int.reduceLE, Int.reduceToNat, Nat.reduceLT, Nat.reduceEqDiff, Nat.reduceAdd, Nat.reduceMul, Nat.reduceSub, Nat.reduceLeDiff, Nat.reduceBEq, h2]
        · rw [upd_ne _ _ _ hal]; exact hG _ _ ga
        · rw [upd_ne _ _ _ hbl]; exact xb
        · simp only [roundA]
          refine ⟨⟨_, _, by rw [upd_ne _ _ _ (Ne.symm hbl), upd_eq]⟩, trivial, ?_, ?_, upd_eq _ _ _, ?_⟩
          · rw [upd_ne _ _ _ hbl, upd_eq]
          · rw [upd_ne _ _ _ hcl, upd_ne _ _ _ (Ne.symm hbc), upd_ne _ _ _ hcl]; exact xc
          · exact hle_upd (hle_upd (hX1 _) gb) gl
      · rintro r X' ⟨rfl, yb, yc, yl', hG'⟩
        refine .inr ⟨rfl, yc, fun v' hv' => ?_⟩
        cases n with
        | zero => omega
        | succ n =>
          refine blk68 (Y := Y) (t := t) (a := a) (b := b) (rest := rest) (many := many) h2 ga gb gc gl hbc hbl hcl n (mixOf st (bs.take 64)) (bs.drop 64) v' _ (by rw [List.length_drop]; omega) (by rw [List.length_drop]; omega) (by rw [mixOf_len, h8]) ?_ (upd_eq _ _ _) ?_ (hle_upd hG' gc) ?_
          · rw [upd_ne _ _ _ hbc]; exact yb
          · rw [upd_ne _ _ _ (Ne.symm hcl)]; exact yl'
          · intro X'' z1 z2 z3
            refine hQ X'' ?_ z2 z3
            rw [stOf_step h64, restOf_step h64]
            exact z1
    · refine ⟨fun r X' => X' b = some (.row (sumR st (.sl 1 (nE .u8 bs) false) many)) ∧ X' l = some (.raw (ob .ready none)) ∧ hle G X', yl _ _ _ ⟨rfl, xl, ?_⟩, ?_⟩
      · show wpC Try.prog (tab [(81, s81), (82, s82.or s82v), (83, s83), (84, s84), (99, s99)]) Y [] 41 (asgOf (loopAt Try.f68 0)) false (onlyA _) (putT 41 (putT 41 t (some 29) (.bool false)) (some 30) part) X
        repeat (first
    | ((first | refine wpOps_cons rfl fun K hK => ?_ | refine quiet_cons rfl fun K hK => ?_)
       simp (disch := omega) only [wpOp, pval, putT, owned, initT, IntKind.bits, tab, callV, wpBuiltin, builtinV, BB, ↓updA, ↓reduceIte, Int.reduceLT, Int.reduceNeg, Int.reduceLE, Int.reduceToNat, Nat.reduceLT, Nat.reduceEqDiff, Nat.reduceAdd, Nat.reduceMul, Nat.reduceSub, Nat.reduceLeDiff, Nat.reduceBEq]
       first
         | refine hK _ _ ?_
         | refine ⟨_, ⟨rfl, by first | rfl | trivial⟩, hK _ ?_⟩
         | refine ⟨_, ⟨_, _, rfl, by decide, by decide, rfl, by first | rfl | trivial⟩, hK _ ?_⟩
       clear hK)
    | refine wpOps_skip rfl ?_
    | refine quiet_skip rfl ?_
    | refine quiet_nil ?_
    | (refine wpOps_nil ?_
       simp only [thenA, inBlockA, noGotoA]
       first
         | ((first | refine hS _ _ ?_ | (clear hS; refine hS _ _ ?_) | (clear hS; clear hS; refine hS _ _ ?_) | (clear hS; clear hS; clear hS; refine hS _ _ ?_) | (clear hS; clear hS; clear hS; clear hS; refine hS _ _ ?_)); clear hS)
         | skip)
    | (refine wpC_label ?_
       simp only [thenA]
       (first | refine hS _ _ ?_ | (clear hS; refine hS _ _ ?_) | (clear hS; clear hS; refine hS _ _ ?_) | (clear hS; clear hS; clear hS; refine hS _ _ ?_) | (clear hS; clear hS; clear hS; clear hS; refine hS _ _ ?_))
       clear hS)
    | refine wpC_seq fun K hS => ?_
    | refine wpC_region rfl ?_
    | refine wpC_block ?_
    | refine wpC_scope ?_
    | (refine wpC_ret ?_
       simp (disch := omega) only [thenA, inBlockA, noGotoA, endsA, ressV, resV, oneV, putT, BB, ↓updA, ↓reduceIte, Nat.reduceLT, Nat.reduceEqDiff]))
        refine wpOps_nil ?_
        simp only [onlyA]
        refine ⟨xl, rd68_rest (a := a) (b := b) (st := st) (rest := rest) (many := many) (bs := bs) (part := part) ?_ ?_ ?_ ?_ ?_ h8 (view_le (hX1 _) hp) hlen fun t' => ?_⟩
        · simp (disch := omega) only [wpOp, pval, putT, owned, initT, IntKind.bits, tab, callV, wpBuiltin, builtinV, BB, ↓updA, ↓reduceIte, Int.reduceLT, Int.reduceNeg, Int.reduceLE, Int.reduceToNat, Nat.reduceLT, Nat.reduceEqDiff, Nat.reduceAdd, Nat.reduceMul, Nat.reduceSub, Nat.reduceLeDiff, Nat.reduceBEq]
        · simp (disch := omega) only [wpOp, pval, putT, owned, initT, IntKind.bits, tab, callV, wpBuiltin, builtinV, BB, ↓updA, ↓reduceIte, Int.reduceLT, Int.reduceNeg, Int.reduceLE, Int.reduceToNat, Nat.reduceLT, Nat.reduceEqDiff, Nat.reduceAdd, Nat.reduceMul, Nat.reduceSub, Nat.reduceLeDiff, Nat.reduceBEq]
        · simp (disch := omega) only [wpOp, pval, putT, owned, initT, IntKind.bits, tab, callV, wpBuiltin, builtinV, BB, ↓updA, ↓reduceIte, Int.reduceLT, Int.reduceNeg, Int.reduceLE, Int.reduceToNat, Nat.reduceLT, Nat.reduceEqDiff, Nat.reduceAdd, Nat.reduceMul, Nat.reduceSub, Nat.reduceLeDiff, Nat.reduceBEq, h2]
        · rw [upd_ne _ _ _ hal]; exact hG _ _ ga
        · rw [upd_ne _ _ _ hbl]; exact xb
        · simp only [roundA]
          refine ⟨⟨_, _, by rw [upd_ne _ _ _ (Ne.symm hbl), upd_eq]⟩, ?_, upd_eq _ _ _, ?_⟩
          · rw [upd_ne _ _ _ hbl, upd_eq]
          · exact hle_upd (hle_upd (hX1 _) gb) gl
      · rintro r X' ⟨yb, yl', hG'⟩
        refine hQ X' ?_ yl' hG'
        rw [stOf_end h64, restOf_end h64]
        exact yb

def s68 : Spec := fun _ args H Q => ∃ b st rest rs many x bs, args = [.ptr b 0, x] ∧ H b = some (.row (sumR st rest many)) ∧ st.length = 8 ∧ lt32 st ∧ isB rest rs ∧ one x = true ∧ cellsV x = some [x] ∧ view (upd H b none) 1 x = some (nE .u8 bs) ∧ rs.length + bs.length ≤ 140737488355328 ∧
  (st = List.replicate 8 0 → Q .nilp H) ∧ (st ≠ List.replicate 8 0 → Q (.ptr b 0) (upd H b (some (.row (sumR (stOf st (rs ++ bs)) (.sl 1 (nE .u8 (restOf (rs ++ bs))) false) ((many + bs.length % 18446744073709551616) % 18446744073709551616))))))

theorem view_ones {H : Hp} {sz : Nat} {v : V} {es : List (List V)} (h : view H sz v = some es) : one v = true ∧ cellsV v = some [v] := by
  cases v <;> simp only [view, reduceCtorEq] at h <;> exact ⟨rfl, rfl⟩

theorem snd68 : Sound Try.prog 68 s68 := by
  refine sound_of_body pm (tab_sound [(81, s81), (82, s82.or s82v), (83, s83), (84, s84), (99, s99)] (by simp [snd81, snd82.or snd82v, snd83, snd84, snd99])) [] Try.func68 rfl (by kernel_rfl) ?_
  rintro Y args H Q ⟨b, st, rest, rs, many, x, bs, rfl, hb, h8, hl32, hr, ho, hcx, hv, hlen, hz, hQ⟩
  refine ⟨by simp [Try.f68], ?_⟩
  show wpC Try.prog (tab [(81, s81), (82, s82.or s82v), (83, s83), (84, s84), (99, s99)]) Y [] 41 _ true (endsA Try.prog [.tmp 4] Q) _ H
  repeat (first
    | ((first | refine wpOps_cons rfl fun K hK => ?_ | refine quiet_cons rfl fun K hK => ?_)
       simp (disch := omega) only [wpOp, pval, putT, owned, initT, IntKind.bits, tab, callV, wpBuiltin, builtinV, BB, ↓updA, ↓reduceIte, Int.reduceLT, Int.reduceNeg, Int.reduceLE, Int.reduceToNat, Nat.reduceLT, Nat.reduceEqDiff, Nat.reduceAdd, Nat.reduceMul, Nat.reduceSub, Nat.reduceLeDiff, Nat.reduceBEq]
       first
         | refine hK _ _ ?_
         | refine ⟨_, ⟨rfl, by first | rfl | trivial⟩, hK _ ?_⟩
         | refine ⟨_, ⟨_, _, rfl, by decide, by decide, rfl, by first | rfl | trivial⟩, hK _ ?_⟩
       clear hK)
    | refine wpOps_skip rfl ?_
    | refine quiet_skip rfl ?_
    | refine quiet_nil ?_
    | (refine wpOps_nil ?_
       simp only [thenA, inBlockA, noGotoA]
       first
         | ((first | refine hS _ _ ?_ | (clear hS; refine hS _ _ ?_) | (clear hS; clear hS; refine hS _ _ ?_) | (clear hS; clear hS; clear hS; refine hS _ _ ?_) | (clear hS; clear hS; clear hS; clear hS; refine hS _ _ ?_)); clear hS)
         | skip)
    | (refine wpC_label ?_
       simp only [thenA]
       (first | refine hS _ _ ?_ | (clear hS; refine hS _ _ ?_) | (clear hS; clear hS; refine hS _ _ ?_) | (clear hS; clear hS; clear hS; refine hS _ _ ?_) | (clear hS; clear hS; clear hS; clear hS; refine hS _ _ ?_))
       clear hS)
    | refine wpC_seq fun K hS => ?_
    | refine wpC_region rfl ?_
    | refine wpC_block ?_
    | refine wpC_scope ?_
    | (refine wpC_ret ?_
       simp (disch := omega) only [thenA, inBlockA, noGotoA, endsA, ressV, resV, oneV, putT, BB, ↓updA, ↓reduceIte, Nat.reduceLT, Nat.reduceEqDiff]))
  refine wpOps_cons rfl fun K hK => ⟨[.ptr b 0], rfl, fun a ha => hK _ _ ?_⟩
  have hab : a ≠ b := fun e => ne_of_none hb ha e.symm
  have hb1 : upd H a (some (.row [.ptr b 0])) b = some (.row (sumR st rest many)) := by rw [upd_ne _ _ _ (Ne.symm hab)]; exact hb
  have ha1 : upd H a (some (.row [.ptr b 0])) a = some (.row [.ptr b 0]) := upd_eq _ _ _
  repeat (first
    | ((first | refine wpOps_cons rfl fun K hK => ?_ | refine quiet_cons rfl fun K hK => ?_)
       simp (disch := omega) only [wpOp, pval, putT, owned, initT, IntKind.bits, tab, callV, wpBuiltin, builtinV, BB, ↓updA, ↓reduceIte, Int.reduceLT, Int.reduceNeg, Int.reduceLE, Int.reduceToNat, Nat.reduceLT, Nat.reduceEqDiff, Nat.reduceAdd, Nat.reduceMul, Nat.reduceSub, Nat.reduceLeDiff, Nat.reduceBEq, load_cell (off := 0) ha1 ty111 rfl]
       first
         | refine hK _ _ ?_
         | refine ⟨_, ⟨rfl, by first | rfl | trivial⟩, hK _ ?_⟩
         | refine ⟨_, ⟨_, _, rfl, by decide, by decide, rfl, by first | rfl | trivial⟩, hK _ ?_⟩
       clear hK)
    | refine wpOps_skip rfl ?_
    | refine quiet_skip rfl ?_
    | refine quiet_nil ?_
    | (refine wpOps_nil ?_
       simp only [thenA, inBlockA, noGotoA]
       first
         | ((first | refine hS _ _ ?_ | (clear hS; refine hS _ _ ?_) | (clear hS; clear hS; refine hS _ _ ?_) | (clear hS; clear hS; clear hS; refine hS _ _ ?_) | (clear hS; clear hS; clear hS; clear hS; refine hS _ _ ?_)); clear hS)
         | skip)
    | (refine wpC_label ?_
       simp only [thenA]
       (first | refine hS _ _ ?_ | (clear hS; refine hS _ _ ?_) | (clear hS; clear hS; refine hS _ _ ?_) | (clear hS; clear hS; clear hS; refine hS _ _ ?_) | (clear hS; clear hS; clear hS; clear hS; refine hS _ _ ?_))
       clear hS)
    | refine wpC_seq fun K hS => ?_
    | refine wpC_region rfl ?_
    | refine wpC_block ?_
    | refine wpC_scope ?_
    | (refine wpC_ret ?_
       simp (disch := omega) only [thenA, inBlockA, noGotoA, endsA, ressV, resV, oneV, putT, BB, ↓updA, ↓reduceIte, Nat.reduceLT, Nat.reduceEqDiff, load_cell (off := 0) ha1 ty111 rfl]))
  refine wpOps_cons rfl fun K hK => ⟨b, st, rest, many, rfl, hb1, h8, hl32, hK _ _ ?_⟩
  repeat (first
    | ((first | refine wpOps_cons rfl fun K hK => ?_ | refine quiet_cons rfl fun K hK => ?_)
       simp (disch := omega) only [wpOp, pval, putT, owned, initT, IntKind.bits, tab, callV, wpBuiltin, builtinV, BB, ↓updA, ↓reduceIte, Int.reduceLT, Int.reduceNeg, Int.reduceLE, Int.reduceToNat, Nat.reduceLT, Nat.reduceEqDiff, Nat.reduceAdd, Nat.reduceMul, Nat.reduceSub, Nat.reduceLeDiff, Nat.reduceBEq]
       first
         | refine hK _ _ ?_
         | refine ⟨_, ⟨rfl, by first | rfl | trivial⟩, hK _ ?_⟩
         | refine ⟨_, ⟨_, _, rfl, by decide, by decide, rfl, by first | rfl | trivial⟩, hK _ ?_⟩
       clear hK)
    | refine wpOps_skip rfl ?_
    | refine quiet_skip rfl ?_
    | refine quiet_nil ?_
    | (refine wpOps_nil ?_
       simp only [thenA, inBlockA, noGotoA]
       first
         | ((first | refine hS _ _ ?_ | (clear hS; refine hS _ _ ?_) | (clear hS; clear hS; refine hS _ _ ?_) | (clear hS; clear hS; clear hS; refine hS _ _ ?_) | (clear hS; clear hS; clear hS; clear hS; refine hS _ _ ?_)); clear hS)
         | skip)
    | (refine wpC_label ?_
       simp only [thenA]
       (first | refine hS _ _ ?_ | (clear hS; refine hS _ _ ?_) | (clear hS; clear hS; refine hS _ _ ?_) | (clear hS; clear hS; clear hS; refine hS _ _ ?_) | (clear hS; clear hS; clear hS; clear hS; refine hS _ _ ?_))
       clear hS)
    | refine wpC_seq fun K hS => ?_
    | refine wpC_region rfl ?_
    | refine wpC_block ?_
    | refine wpC_scope ?_
    | (refine wpC_ret ?_
       simp (disch := omega) only [thenA, inBlockA, noGotoA, endsA, ressV, resV, oneV, putT, BB, ↓updA, ↓reduceIte, Nat.reduceLT, Nat.reduceEqDiff]))
  refine wpC_dec rfl (fun hd => ?_) (fun hd => ?_)
  · repeat (first
    | ((first | refine wpOps_cons rfl fun K hK => ?_ | refine quiet_cons rfl fun K hK => ?_)
       simp (disch := omega) only [wpOp, pval, putT, owned, initT, IntKind.bits, tab, callV, wpBuiltin, builtinV, BB, ↓updA, ↓reduceIte, Int.reduceLT, Int.reduceNeg, Int.reduceLE, Int.reduceToNat, Nat.reduceLT, Nat.reduceEqDiff, Nat.reduceAdd, Nat.reduceMul, Nat.reduceSub, Nat.reduceLeDiff, Nat.reduceBEq]
       first
         | refine hK _ _ ?_
         | refine ⟨_, ⟨rfl, by first | rfl | trivial⟩, hK _ ?_⟩
         | refine ⟨_, ⟨_, _, rfl, by decide, by decide, rfl, by first | rfl | trivial⟩, hK _ ?_⟩
       clear hK)
    | refine wpOps_skip rfl ?_
    | refine quiet_skip rfl ?_
    | refine quiet_nil ?_
    | (refine wpOps_nil ?_
       simp only [thenA, inBlockA, noGotoA]
       first
         | ((first | refine hS _ _ ?_ | (clear hS; refine hS _ _ ?_) | (clear hS; clear hS; refine hS _ _ ?_) | (clear hS; clear hS; clear hS; refine hS _ _ ?_) | (clear hS; clear hS; clear hS; clear hS; refine hS _ _ ?_)); clear hS)
         | skip)
    | (refine wpC_label ?_
       simp only [thenA]
       (first | refine hS _ _ ?_ | (clear hS; refine hS _ _ ?_) | (clear hS; clear hS; refine hS _ _ ?_) | (clear hS; clear hS; clear hS; refine hS _ _ ?_) | (clear hS; clear hS; clear hS; clear hS; refine hS _ _ ?_))
       clear hS)
    | refine wpC_seq fun K hS => ?_
    | refine wpC_region rfl ?_
    | refine wpC_block ?_
    | refine wpC_scope ?_
    | (refine wpC_ret ?_
       simp (disch := omega) only [thenA, inBlockA, noGotoA, endsA, ressV, resV, oneV, putT, BB, ↓updA, ↓reduceIte, Nat.reduceLT, Nat.reduceEqDiff]))
    exact ⟨_, rfl, [], _, hle_upd (hle_refl _) ha, hz hd⟩
  · (refine wpC_skip ?_; simp only [thenA, inBlockA, noGotoA]; (first | refine hS _ _ ?_ | (clear hS; refine hS _ _ ?_) | (clear hS; clear hS; refine hS _ _ ?_) | (clear hS; clear hS; clear hS; refine hS _ _ ?_) | (clear hS; clear hS; clear hS; clear hS; refine hS _ _ ?_)); clear hS)
    refine wpC_seq fun K hS => ?_
    have hv1 : view (upd H a (some (.row [.ptr b 0]))) 1 x = some (nE .u8 bs) := view_le (hle_trans (hle_del _ _) (hle_upd (hle_refl _) ha)) hv
    refine r68_3 (a := a) (b := b) (x := x) ?_ ?_ (upd_eq _ _ _) hb1 h8 hv1 fun t1 e1 e2 => ?_
    · simp (disch := omega) only [wpOp, pval, putT, owned, initT, IntKind.bits, tab, callV, wpBuiltin, builtinV, BB, ↓updA, ↓reduceIte, Int.reduceLT, Int.reduceNeg, Int.reduceLE, Int.reduceToNat, Nat.reduceLT, Nat.reduceEqDiff, Nat.reduceAdd, Nat.reduceMul, Nat.reduceSub, Nat.reduceLeDiff, Nat.reduceBEq]
    · simp (disch := omega) only [wpOp, pval, putT, owned, initT, IntKind.bits, tab, callV, wpBuiltin, builtinV, BB, ↓updA, ↓reduceIte, Int.reduceLT, Int.reduceNeg, Int.reduceLE, Int.reduceToNat, Nat.reduceLT, Nat.reduceEqDiff, Nat.reduceAdd, Nat.reduceMul, Nat.reduceSub, Nat.reduceLeDiff, Nat.reduceBEq]
    (simp only [thenA, inBlockA, noGotoA, ↓reduceIte, Nat.reduceEqDiff]; (first | refine hS _ _ ?_ | (clear hS; refine hS _ _ ?_) | (clear hS; clear hS; refine hS _ _ ?_) | (clear hS; clear hS; clear hS; refine hS _ _ ?_) | (clear hS; clear hS; clear hS; clear hS; refine hS _ _ ?_)); clear hS)
    refine wpC_seq fun K hS => ?_
    refine r68_4 (a := a) (b := b) (x := x) (rs := rs) (bs := bs) (rest := rest) e1 e2 ?_ (upd_eq _ _ _) h8 hr ?_ hlen fun t2 v H2 f2 f5 hle2 hvv => ?_
    · rw [upd_ne _ _ _ hab, upd_eq]
    · refine view_le ?_ hv
      intro j y hj
      by_cases hjb : j = b
      · subst hjb; rw [upd_eq] at hj; cases hj
      · rw [upd_ne _ _ _ hjb] at hj
        rw [upd_ne _ _ _ hjb, upd_ne _ _ _ (fun e => ne_of_none hj ha e)]
        exact hj
    (simp only [thenA, inBlockA, noGotoA, ↓reduceIte, Nat.reduceEqDiff]; (first | refine hS _ _ ?_ | (clear hS; refine hS _ _ ?_) | (clear hS; clear hS; refine hS _ _ ?_) | (clear hS; clear hS; clear hS; refine hS _ _ ?_) | (clear hS; clear hS; clear hS; clear hS; refine hS _ _ ?_)); clear hS)
    have a2 : H2 a = some (.row [.ptr b 0]) := hle2 _ _ (by rw [upd_ne _ _ _ hab, upd_eq])
    have b2 := hle2 _ _ (upd_eq _ b _)
    refine wpC_seq fun K hS => ?_
    repeat (first
    | ((first | refine wpOps_cons rfl fun K hK => ?_ | refine quiet_cons rfl fun K hK => ?_)
       simp (disch := omega) only [wpOp, pval, putT, owned, initT, IntKind.bits, tab, callV, wpBuiltin, builtinV, BB, ↓updA, ↓reduceIte, Int.reduceLT, Int.reduceNeg, Int.reduceLE, Int.reduceToNat, Nat.reduceLT, Nat.reduceEqDiff, Nat.reduceAdd, Nat.reduceMul, Nat.reduceSub, Nat.reduceLeDiff, Nat.reduceBEq, f5]
       first
         | refine hK _ _ ?_
         | refine ⟨_, ⟨rfl, by first | rfl | trivial⟩, hK _ ?_⟩
         | refine ⟨_, ⟨_, _, rfl, by decide, by decide, rfl, by first | rfl | trivial⟩, hK _ ?_⟩
       clear hK)
    | refine wpOps_skip rfl ?_
    | refine quiet_skip rfl ?_
    | refine quiet_nil ?_
    | (refine wpOps_nil ?_
       simp only [thenA, inBlockA, noGotoA]
       first
         | ((first | refine hS _ _ ?_ | (clear hS; refine hS _ _ ?_) | (clear hS; clear hS; refine hS _ _ ?_) | (clear hS; clear hS; clear hS; refine hS _ _ ?_) | (clear hS; clear hS; clear hS; clear hS; refine hS _ _ ?_)); clear hS)
         | skip)
    | (refine wpC_label ?_
       simp only [thenA]
       (first | refine hS _ _ ?_ | (clear hS; refine hS _ _ ?_) | (clear hS; clear hS; refine hS _ _ ?_) | (clear hS; clear hS; clear hS; refine hS _ _ ?_) | (clear hS; clear hS; clear hS; clear hS; refine hS _ _ ?_))
       clear hS)
    | refine wpC_seq fun K hS => ?_
    | refine wpC_region rfl ?_
    | refine wpC_block ?_
    | refine wpC_scope ?_
    | (refine wpC_ret ?_
       simp (disch := omega) only [thenA, inBlockA, noGotoA, endsA, ressV, resV, oneV, putT, BB, ↓updA, ↓reduceIte, Nat.reduceLT, Nat.reduceEqDiff, f5]))
    refine wpOps_cons rfl fun K hK => ⟨v, rfl, (view_ones hvv).1, (view_ones hvv).2, fun c hc => hK _ _ ?_⟩
    repeat (first
    | ((first | refine wpOps_cons rfl fun K hK => ?_ | refine quiet_cons rfl fun K hK => ?_)
       simp (disch := omega) only [wpOp, pval, putT, owned, initT, IntKind.bits, tab, callV, wpBuiltin, builtinV, BB, ↓updA, ↓reduceIte, Int.reduceLT, Int.reduceNeg, Int.reduceLE, Int.reduceToNat, Nat.reduceLT, Nat.reduceEqDiff, Nat.reduceAdd, Nat.reduceMul, Nat.reduceSub, Nat.reduceLeDiff, Nat.reduceBEq]
       first
         | refine hK _ _ ?_
         | refine ⟨_, ⟨rfl, by first | rfl | trivial⟩, hK _ ?_⟩
         | refine ⟨_, ⟨_, _, rfl, by decide, by decide, rfl, by first | rfl | trivial⟩, hK _ ?_⟩
       clear hK)
    | refine wpOps_skip rfl ?_
    | refine quiet_skip rfl ?_
    | refine quiet_nil ?_
    | (refine wpOps_nil ?_
       simp only [thenA, inBlockA, noGotoA]
       first
         | ((first | refine hS _ _ ?_ | (clear hS; refine hS _ _ ?_) | (clear hS; clear hS; refine hS _ _ ?_) | (clear hS; clear hS; clear hS; refine hS _ _ ?_) | (clear hS; clear hS; clear hS; clear hS; refine hS _ _ ?_)); clear hS)
         | skip)
    | (refine wpC_label ?_
       simp only [thenA]
       (first | refine hS _ _ ?_ | (clear hS; refine hS _ _ ?_) | (clear hS; clear hS; refine hS _ _ ?_) | (clear hS; clear hS; clear hS; refine hS _ _ ?_) | (clear hS; clear hS; clear hS; clear hS; refine hS _ _ ?_))
       clear hS)
    | refine wpC_seq fun K hS => ?_
    | refine wpC_region rfl ?_
    | refine wpC_block ?_
    | refine wpC_scope ?_
    | (refine wpC_ret ?_
       simp (disch := omega) only [thenA, inBlockA, noGotoA, endsA, ressV, resV, oneV, putT, BB, ↓updA, ↓reduceIte, Nat.reduceLT, Nat.reduceEqDiff]))
    refine wpC_range (f := 99) (first := []) (caps := [.ptr c 0]) ?_ (by kernel_rfl) fun l ob hl => ?_
    · simp (disch := omega) only [wpOp, pval, putT, owned, initT, IntKind.bits, tab, callV, wpBuiltin, builtinV, BB, ↓updA, ↓reduceIte, Int.reduceLT, Int.reduceNeg, Int.reduceLE, Int.reduceToNat, Nat.reduceLT, Nat.reduceEqDiff, Nat.reduceAdd, Nat.reduceMul, Nat.reduceSub, Nat.reduceLeDiff, Nat.reduceBEq]
    have hbc : b ≠ c := ne_of_none b2 hc
    have hl' := upd_none hl
    have hbl : b ≠ l := ne_of_none b2 hl'.2
    refine ⟨l, c, v, rs ++ bs, (rs ++ bs).length / 64 + 1, upd H2 b none, rfl, hvv, ?_⟩
    refine blk68 (Y := Y) (a := a) (b := b) (rest := rest) (many := (many + bs.length % 18446744073709551616) % 18446744073709551616) ?_ ?_ (upd_eq _ _ _) ?_ ?_ hbc hbl hl'.1 _ st (rs ++ bs) v _ rfl (by rw [List.length_append]; exact hlen) h8 ?_ ?_ (upd_eq _ _ _) ?_ fun X' z1 z2 z3 => ?_
    · simp (disch := omega) only [wpOp, pval, putT, owned, initT, IntKind.bits, tab, callV, wpBuiltin, builtinV, BB, ↓updA, ↓reduceIte, Int.reduceLT, Int.reduceNeg, Int.reduceLE, Int.reduceToNat, Nat.reduceLT, Nat.reduceEqDiff, Nat.reduceAdd, Nat.reduceMul, Nat.reduceSub, Nat.reduceLeDiff, Nat.reduceBEq, f2]
    · rw [upd_ne _ _ _ hab]; exact a2
    · rw [upd_ne _ _ _ (Ne.symm hbc)]; exact hc
    · rw [upd_ne _ _ _ (Ne.symm hbl)]; exact hl'.2
    · rw [upd_ne _ _ _ hbl, upd_ne _ _ _ hbc]; exact b2
    · rw [upd_ne _ _ _ hl'.1, upd_eq]
    · exact hle_upd (hle_upd (hle_del _ _) (by rw [upd_ne _ _ _ (Ne.symm hbc)]; exact hc)) (by rw [upd_ne _ _ _ (Ne.symm hbl)]; exact hl'.2)
    refine ⟨_, _, z2, by simp, ?_⟩
    simp only [endA, inBlockA, thenA]
    have x1 : upd X' l none a = some (.row [.ptr b 0]) := by
      have hal : a ≠ l := ne_of_none a2 hl'.2
      rw [upd_ne _ _ _ hal]
      exact z3 _ _ (by rw [upd_ne _ _ _ hab]; exact a2)
    refine hS _ _ ?_
    clear hS
    repeat (first
    | ((first | refine wpOps_cons rfl fun K hK => ?_ | refine quiet_cons rfl fun K hK => ?_)
       simp (disch := omega) only [wpOp, pval, putT, owned, initT, IntKind.bits, tab, callV, wpBuiltin, builtinV, BB, ↓updA, ↓reduceIte, Int.reduceLT, Int.reduceNeg, Int.reduceLE, Int.reduceToNat, Nat.reduceLT, Nat.reduceEqDiff, Nat.reduceAdd, Nat.reduceMul, Nat.reduceSub, Nat.reduceLeDiff, Nat.reduceBEq, f2, load_cell (off := 0) x1 ty111 rfl]
       first
         | refine hK _ _ ?_
         | refine ⟨_, ⟨rfl, by first | rfl | trivial⟩, hK _ ?_⟩
         | refine ⟨_, ⟨_, _, rfl, by decide, by decide, rfl, by first | rfl | trivial⟩, hK _ ?_⟩
       clear hK)
    | refine wpOps_skip rfl ?_
    | refine quiet_skip rfl ?_
    | refine quiet_nil ?_
    | (refine wpOps_nil ?_
       simp only [thenA, inBlockA, noGotoA]
       first
         | ((first | refine hS _ _ ?_ | (clear hS; refine hS _ _ ?_) | (clear hS; clear hS; refine hS _ _ ?_) | (clear hS; clear hS; clear hS; refine hS _ _ ?_) | (clear hS; clear hS; clear hS; clear hS; refine hS _ _ ?_)); clear hS)
         | skip)
    | (refine wpC_label ?_
       simp only [thenA]
       (first | refine hS _ _ ?_ | (clear hS; refine hS _ _ ?_) | (clear hS; clear hS; refine hS _ _ ?_) | (clear hS; clear hS; clear hS; refine hS _ _ ?_) | (clear hS; clear hS; clear hS; clear hS; refine hS _ _ ?_))
       clear hS)
    | refine wpC_seq fun K hS => ?_
    | refine wpC_region rfl ?_
    | refine wpC_block ?_
    | refine wpC_scope ?_
    | (refine wpC_ret ?_
       simp (disch := omega) only [thenA, inBlockA, noGotoA, endsA, ressV, resV, oneV, putT, BB, ↓updA, ↓reduceIte, Nat.reduceLT, Nat.reduceEqDiff, f2, load_cell (off := 0) x1 ty111 rfl]))
    refine ⟨_, rfl, [], _, ?_, hQ hd⟩
    intro j y hj
    by_cases hjb : j = b
    · subst hjb
      rw [upd_eq] at hj
      cases hj
      rw [upd_ne _ _ _ hbl]
      exact z1
    · rw [upd_ne _ _ _ hjb] at hj
      have hja : j ≠ a := ne_of_none hj ha
      have j2 : H2 j = some y := hle2 _ _ (by rw [upd_ne _ _ _ hjb, upd_ne _ _ _ hja]; exact hj)
      rw [upd_ne _ _ _ (ne_of_none j2 hl'.2)]
      exact z3 _ _ (by rw [upd_ne _ _ _ hjb]; exact j2)
end Go.Av
