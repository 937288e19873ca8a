/-
  The hash of a pair: merkle's; the law's.
-/
import Derived.Test.YtgjlmmjdofceiaaM1
set_option linter.unusedSimpArgs false
set_option linter.unusedVariables false
namespace Go.Av
open Go.RowKit Go.Proofs

theorem ty84 : tyT Try.prog 84 = some (true, 64) := by kernel_rfl
theorem ar84 : arrT Try.prog 84 = some (2, 32) := by kernel_rfl

theorem ix_arr {P : Program} {b o n esz i : Nat} {k : IntKind} {t : TypeId} (ha : arrT P t = some (n, esz)) (hi : i < n) : indexAddrV P t (.ptr b o) (vN k i) = some (.ptr b (o + i * esz)) := by
  simp only [indexAddrV, ha, idxOf_N _ hi, Option.bind_some, shiftP]

theorem chunks_pre (k : IntKind) : ∀ (n : Nat) (l : List Nat), n ≤ l.length → chunks 1 n (nR k l) = nE k (l.take n)
  | 0, l, _ => by simp [chunks, nE]
  | n + 1, [], h => by simp at h
  | n + 1, x :: l, h => by
    have := chunks_pre k n l (by simpa using h)
    simp only [nR, nE] at this
    simp only [nR, nE, List.map_cons, chunks, List.take_succ_cons, List.take_zero, List.drop_succ_cons, List.drop_zero, this]
theorem view_rslO {H : Hp} {d o n : Nat} {k : IntKind} {l : List Nat} (h : H d = some (.row (nR k l))) (hn : o + n ≤ l.length) : view H 1 (.rsl d o n 1) = some (nE k ((l.drop o).take n)) := by
  simp only [view, h]
  rw [if_pos ⟨trivial, by rw [nR_len]; omega⟩, nR_drop, chunks_pre _ _ _ (by rw [List.length_drop]; omega)]
theorem sa25o (d o : Nat) : sliceV Try.prog 25 (.ptr d o) none none none = some (.rsl d o 32 1) := by
  simp [sliceV, ar25, sliceArr, bnd]

def s14 : Spec := fun _ args H Q => ∃ a b, args = [.agg (nR .u8 a), .agg (nR .u8 b)] ∧ a.length = 32 ∧ b.length = 32 ∧ Q (.agg (nR .u8 (twiceOf (a ++ b)))) H

theorem snd14 : Sound Try.prog 14 s14 := by
  refine sound_of_body pm (tab_sound [(36, s36)] (by simp [snd36])) [] Try.func14 rfl (by kernel_rfl) ?_
  rintro Y args H Q ⟨a, b, rfl, ha, hb, hQ⟩
  refine ⟨by simp [Try.f14], ?_⟩
  show wpC Try.prog (tab [(36, s36)]) Y [] 11 _ true (endsA Try.prog [.cell 4 25] Q) _ H
  repeat (first
    | ((first | refine wpOps_cons rfl fun K hK => ?_ | refine quiet_cons rfl fun K hK => ?_)
       simp (disch := omega) only [wpOp, pval, putT, owned, initT, IntKind.bits, tab, callV, wpBuiltin, builtinV, BB, ↓updA, ↓reduceIte, Int.reduceLT, Int.reduceNeg, Int.reduceLE, Int.reduceToNat, Nat.reduceLT, Nat.reduceEqDiff, Nat.reduceAdd, Nat.reduceMul, Nat.reduceSub, Nat.reduceLeDiff, Nat.reduceBEq]
       first
         | refine hK _ _ ?_
         | refine ⟨_, ⟨rfl, by first | rfl | trivial⟩, hK _ ?_⟩
         | refine ⟨_, ⟨_, _, rfl, by decide, by decide, rfl, by first | rfl | trivial⟩, hK _ ?_⟩
       clear hK)
    | refine wpOps_skip rfl ?_
    | refine quiet_skip rfl ?_
    | refine quiet_nil ?_
    | (refine wpOps_nil ?_
       simp only [thenA, inBlockA, noGotoA]
       first
         | ((first | refine hS _ _ ?_ | (clear hS; refine hS _ _ ?_) | (clear hS; clear hS; refine hS _ _ ?_) | (clear hS; clear hS; clear hS; refine hS _ _ ?_) | (clear hS; clear hS; clear hS; clear hS; refine hS _ _ ?_)); clear hS)
         | skip)
    | (refine wpC_label ?_
       simp only [thenA]
       (first | refine hS _ _ ?_ | (clear hS; refine hS _ _ ?_) | (clear hS; clear hS; refine hS _ _ ?_) | (clear hS; clear hS; clear hS; refine hS _ _ ?_) | (clear hS; clear hS; clear hS; clear hS; refine hS _ _ ?_))
       clear hS)
    | refine wpC_seq fun K hS => ?_
    | refine wpC_region rfl ?_
    | refine wpC_block ?_
    | refine wpC_scope ?_
    | (refine wpC_ret ?_
       simp (disch := omega) only [thenA, inBlockA, noGotoA, endsA, ressV, resV, oneV, putT, BB, ↓updA, ↓reduceIte, Nat.reduceLT, Nat.reduceEqDiff]))
  refine wpOps_cons rfl fun K hK => ⟨nR .u8 a, rfl, fun c hc => hK _ _ ?_⟩
  refine wpOps_cons rfl fun K hK => ⟨nR .u8 b, rfl, fun d hd => hK _ _ ?_⟩
  refine wpOps_cons rfl fun K hK => ⟨_, z25, fun r hr => hK _ _ ?_⟩
  have hd' := upd_none hd
  have hr' := upd_none hr
  have hr'' := upd_none hr'.2
  refine wpOps_nil ?_
  (simp only [thenA, inBlockA, noGotoA, ↓reduceIte, Nat.reduceEqDiff]; (first | refine hS _ _ ?_ | (clear hS; refine hS _ _ ?_) | (clear hS; clear hS; refine hS _ _ ?_) | (clear hS; clear hS; clear hS; refine hS _ _ ?_) | (clear hS; clear hS; clear hS; clear hS; refine hS _ _ ?_)); clear hS)
  refine wpC_cut (F := fun t' => t' 2 = .ptr c 0 ∧ t' 3 = .ptr d 0 ∧ t' 4 = .ptr r 0) ⟨?_, ?_, ?_⟩ ?_
  · simp (disch := omega) only [wpOp, pval, putT, owned, initT, IntKind.bits, tab, callV, wpBuiltin, builtinV, BB, ↓updA, ↓reduceIte, Int.reduceLT, Int.reduceNeg, Int.reduceLE, Int.reduceToNat, Nat.reduceLT, Nat.reduceEqDiff, Nat.reduceAdd, Nat.reduceMul, Nat.reduceSub, Nat.reduceLeDiff, Nat.reduceBEq]
  · simp (disch := omega) only [wpOp, pval, putT, owned, initT, IntKind.bits, tab, callV, wpBuiltin, builtinV, BB, ↓updA, ↓reduceIte, Int.reduceLT, Int.reduceNeg, Int.reduceLE, Int.reduceToNat, Nat.reduceLT, Nat.reduceEqDiff, Nat.reduceAdd, Nat.reduceMul, Nat.reduceSub, Nat.reduceLeDiff, Nat.reduceBEq]
  · simp (disch := omega) only [wpOp, pval, putT, owned, initT, IntKind.bits, tab, callV, wpBuiltin, builtinV, BB, ↓updA, ↓reduceIte, Int.reduceLT, Int.reduceNeg, Int.reduceLE, Int.reduceToNat, Nat.reduceLT, Nat.reduceEqDiff, Nat.reduceAdd, Nat.reduceMul, Nat.reduceSub, Nat.reduceLeDiff, Nat.reduceBEq]
  rintro t1 ⟨q2, q3, q4⟩
  generalize hHc : upd (upd (upd H c (some (.row (nR .u8 a)))) d (some (.row (nR .u8 b)))) r (some (.row (List.replicate 32 (vN .u8 0)))) = Hc
  have xc : Hc c = some (.row (nR .u8 a)) := by rw [← hHc, upd_ne _ _ _ (Ne.symm hr''.1.symm), upd_ne _ _ _ (Ne.symm hd'.1.symm), upd_eq]
  have xd : Hc d = some (.row (nR .u8 b)) := by rw [← hHc, upd_ne _ _ _ (Ne.symm hr'.1.symm), upd_eq]
  have xr : Hc r = some (.row (List.replicate 32 (vN .u8 0))) := by rw [← hHc, upd_eq]
  have hle1 : hle H Hc := by rw [← hHc]; exact hle_upd (hle_upd (hle_upd (hle_refl _) hc) hd'.2) hr''.2
  refine wpC_seq fun K hS => ?_
  refine wpC_drawE 4 [0, 1, 3] (fun i => decide (i = 2)) (fun H' => hle Hc H') (by kernel_rfl) (hle_refl _) fun L B hBd hL => ?_
  refine walkA_cons rfl rfl rfl ⟨.sl 1 [] true, fun H' hC => bs64 ⟨rfl, rfl⟩, ?_⟩
  refine walkA_cons rfl rfl rfl ⟨.rsl c 0 32 1, fun H' hC => ?_, ?_⟩
  · simp (disch := omega) only [wpOp, pval, putT, owned, initT, IntKind.bits, tab, callV, wpBuiltin, builtinV, BB, ↓updA, ↓reduceIte, Int.reduceLT, Int.reduceNeg, Int.reduceLE, Int.reduceToNat, Nat.reduceLT, Nat.reduceEqDiff, Nat.reduceAdd, Nat.reduceMul, Nat.reduceSub, Nat.reduceLeDiff, Nat.reduceBEq, q2, sa25o]
    exact ⟨trivial, trivial⟩
  refine walkA_cons rfl rfl rfl ⟨.rsl d 0 32 1, fun H' hC => ?_, ?_⟩
  · simp (disch := omega) only [wpOp, pval, putT, owned, initT, IntKind.bits, tab, callV, wpBuiltin, builtinV, BB, ↓updA, ↓reduceIte, Int.reduceLT, Int.reduceNeg, Int.reduceLE, Int.reduceToNat, Nat.reduceLT, Nat.reduceEqDiff, Nat.reduceAdd, Nat.reduceMul, Nat.reduceSub, Nat.reduceLeDiff, Nat.reduceBEq, q3, sa25o]
    exact ⟨trivial, trivial⟩
  refine walkA_nil (anyA_succ [2] (by kernel_rfl) (by simp) fun i hi => ?_)
  have hi' : i = 2 := by simpa using hi
  subst hi'
  refine ⟨by omega, opA_fx rfl rfl rfl ⟨fun x H' => ∃ e, Hc e = none ∧ x = .osl e 0 32 1 false ∧ H' = upd Hc e (some (.arr 1 (nE .u8 a))), ?_, ?_⟩⟩
  · simp (disch := omega) only [wpOp, pval, putT, owned, initT, IntKind.bits, tab, callV, wpBuiltin, builtinV, BB, ↓updA, ↓reduceIte, Int.reduceLT, Int.reduceNeg, Int.reduceLE, Int.reduceToNat, Nat.reduceLT, Nat.reduceEqDiff, Nat.reduceAdd, Nat.reduceMul, Nat.reduceSub, Nat.reduceLeDiff, Nat.reduceBEq]
    have hv : view Hc 1 (.rsl c 0 32 1) = some (nE .u8 a) := view_rsl xc ha
    refine append_new (x := .rsl c 0 32 1) (.inr rfl) ds64 sl64 hv (nE_ones _ _) (by rw [by64, nE_len]; omega) (by rw [nE_len]; omega) (fun hn => ?_) (fun hn e he => ⟨e, he, by rw [nE_len, ha], rfl⟩)
    have := congrArg List.length hn
    rw [nE_len, ha] at this
    cases this
  rintro x H' ⟨e, he, rfl, rfl⟩
  have hce : c ≠ e := ne_of_none xc he
  have hde : d ≠ e := ne_of_none xd he
  have hre : r ≠ e := ne_of_none xr he
  refine ⟨hle_upd (hle_refl _) he, anyA_zero (hL _ _ _ (by rw [hBd]; kernel_rfl) ?_)⟩
  refine wpOps_cons rfl fun K hK => ?_
  simp (disch := omega) only [wpOp, pval, putT, owned, initT, IntKind.bits, tab, callV, wpBuiltin, builtinV, BB, ↓updA, ↓reduceIte, Int.reduceLT, Int.reduceNeg, Int.reduceLE, Int.reduceToNat, Nat.reduceLT, Nat.reduceEqDiff, Nat.reduceAdd, Nat.reduceMul, Nat.reduceSub, Nat.reduceLeDiff, Nat.reduceBEq]
  refine append_osl (x := .rsl d 0 32 1) (upd_eq _ _ _) (by rw [nE_len, ha]) ds64 sl64 (view_rsl (l := b) (k := .u8) (by rw [upd_ne _ _ _ hde]; exact xd) hb) (nE_ones _ _) (by rw [by64, nE_len]; omega) (by rw [nE_len]; omega) fun e' he' => hK _ _ ?_
  have he2 : Hc e' = none := by
    rcases he' with rfl | he'
    · exact he
    · exact (upd_none he').2
  have h0 : upd Hc e none = Hc := by
    funext j
    by_cases hj : j = e
    · subst hj; rw [upd_eq, he]
    · rw [upd_ne _ _ _ hj]
  rw [upd_upd, h0, nE_append, nE_len, hb]
  have hv2 : view (upd Hc e' (some (.arr 1 (nE .u8 (a ++ b))))) 1 (.osl e' 0 64 1 false) = some (nE .u8 (a ++ b)) := by
    have := view_osl (H := Hc) (d := e') (sz := 1) (full := false) (es := nE .u8 (a ++ b))
    rw [nE_len, List.length_append, ha, hb] at this
    exact this
  refine wpOps_cons rfl fun K hK => ⟨.osl e' 0 64 1 false, a ++ b, rfl, hv2, by rw [List.length_append, ha, hb]; omega, hK _ _ ?_⟩
  refine wpOps_cons rfl fun K hK => ?_
  simp (disch := omega) only [wpOp, pval, putT, owned, initT, IntKind.bits, tab, callV, wpBuiltin, builtinV, BB, ↓updA, ↓reduceIte, Int.reduceLT, Int.reduceNeg, Int.reduceLE, Int.reduceToNat, Nat.reduceLT, Nat.reduceEqDiff, Nat.reduceAdd, Nat.reduceMul, Nat.reduceSub, Nat.reduceLeDiff, Nat.reduceBEq, q4]
  refine ⟨_, store_agg (b := r) (by rw [upd_ne _ _ _ (ne_of_none xr he2)]; exact xr) ty25 (by rw [nR_len, twiceOf_len]) (nR_ones _ _) rfl, hK _ _ ?_⟩
  refine wpOps_nil ?_
  (simp only [thenA, inBlockA, noGotoA, ↓reduceIte, Nat.reduceEqDiff]; (first | refine hS _ _ ?_ | (clear hS; refine hS _ _ ?_) | (clear hS; clear hS; refine hS _ _ ?_) | (clear hS; clear hS; clear hS; refine hS _ _ ?_) | (clear hS; clear hS; clear hS; clear hS; refine hS _ _ ?_)); clear hS)
  repeat (first
    | ((first | refine wpOps_cons rfl fun K hK => ?_ | refine quiet_cons rfl fun K hK => ?_)
       simp (disch := omega) only [wpOp, pval, putT, owned, initT, IntKind.bits, tab, callV, wpBuiltin, builtinV, BB, ↓updA, ↓reduceIte, Int.reduceLT, Int.reduceNeg, Int.reduceLE, Int.reduceToNat, Nat.reduceLT, Nat.reduceEqDiff, Nat.reduceAdd, Nat.reduceMul, Nat.reduceSub, Nat.reduceLeDiff, Nat.reduceBEq]
       first
         | refine hK _ _ ?_
         | refine ⟨_, ⟨rfl, by first | rfl | trivial⟩, hK _ ?_⟩
         | refine ⟨_, ⟨_, _, rfl, by decide, by decide, rfl, by first | rfl | trivial⟩, hK _ ?_⟩
       clear hK)
    | refine wpOps_skip rfl ?_
    | refine quiet_skip rfl ?_
    | refine quiet_nil ?_
    | (refine wpOps_nil ?_
       simp only [thenA, inBlockA, noGotoA]
       first
         | ((first | refine hS _ _ ?_ | (clear hS; refine hS _ _ ?_) | (clear hS; clear hS; refine hS _ _ ?_) | (clear hS; clear hS; clear hS; refine hS _ _ ?_) | (clear hS; clear hS; clear hS; clear hS; refine hS _ _ ?_)); clear hS)
         | skip)
    | (refine wpC_label ?_
       simp only [thenA]
       (first | refine hS _ _ ?_ | (clear hS; refine hS _ _ ?_) | (clear hS; clear hS; refine hS _ _ ?_) | (clear hS; clear hS; clear hS; refine hS _ _ ?_) | (clear hS; clear hS; clear hS; clear hS; refine hS _ _ ?_))
       clear hS)
    | refine wpC_seq fun K hS => ?_
    | refine wpC_region rfl ?_
    | refine wpC_block ?_
    | refine wpC_scope ?_
    | (refine wpC_ret ?_
       simp (disch := omega) only [thenA, inBlockA, noGotoA, endsA, ressV, resV, oneV, putT, BB, ↓updA, ↓reduceIte, Nat.reduceLT, Nat.reduceEqDiff]))
  refine ⟨_, res_cell (r := r) ?_ (upd_eq _ _ _) ty25 (by rw [nR_len, twiceOf_len]), [], H, ?_, hQ⟩
  · simp (disch := omega) only [wpOp, pval, putT, owned, initT, IntKind.bits, tab, callV, wpBuiltin, builtinV, BB, ↓updA, ↓reduceIte, Int.reduceLT, Int.reduceNeg, Int.reduceLE, Int.reduceToNat, Nat.reduceLT, Nat.reduceEqDiff, Nat.reduceAdd, Nat.reduceMul, Nat.reduceSub, Nat.reduceLeDiff, Nat.reduceBEq, q4]
  · have hHe : H e' = none := by
      cases hh : H e' with
      | none => rfl
      | some y => rw [hle1 _ _ hh] at he2; cases he2
    exact hle_upd (hle_upd hle1 hHe) hr''.2

def s39 : Spec := fun _ args H Q => ∃ a b, args = [.agg (nR .u8 (a ++ b))] ∧ a.length = 32 ∧ b.length = 32 ∧ Q (.agg (nR .u8 (twiceOf (a ++ b)))) H

theorem snd39 : Sound Try.prog 39 s39 := by
  refine sound_of_body pm (tab_sound [(36, s36), (54, s54)] (by simp [snd36, snd54])) [] Try.func39 rfl (by kernel_rfl) ?_
  rintro Y args H Q ⟨a, b, rfl, ha, hb, hQ⟩
  refine ⟨by simp [Try.f39], ?_⟩
  show wpC Try.prog (tab [(36, s36), (54, s54)]) Y [] 10 _ true (endsA Try.prog [.cell 2 25] Q) _ H
  repeat (first
    | ((first | refine wpOps_cons rfl fun K hK => ?_ | refine quiet_cons rfl fun K hK => ?_)
       simp (disch := omega) only [wpOp, pval, putT, owned, initT, IntKind.bits, tab, callV, wpBuiltin, builtinV, BB, ↓updA, ↓reduceIte, Int.reduceLT, Int.reduceNeg, Int.reduceLE, Int.reduceToNat, Nat.reduceLT, Nat.reduceEqDiff, Nat.reduceAdd, Nat.reduceMul, Nat.reduceSub, Nat.reduceLeDiff, Nat.reduceBEq]
       first
         | refine hK _ _ ?_
         | refine ⟨_, ⟨rfl, by first | rfl | trivial⟩, hK _ ?_⟩
         | refine ⟨_, ⟨_, _, rfl, by decide, by decide, rfl, by first | rfl | trivial⟩, hK _ ?_⟩
       clear hK)
    | refine wpOps_skip rfl ?_
    | refine quiet_skip rfl ?_
    | refine quiet_nil ?_
    | (refine wpOps_nil ?_
       simp only [thenA, inBlockA, noGotoA]
       first
         | ((first | refine hS _ _ ?_ | (clear hS; refine hS _ _ ?_) | (clear hS; clear hS; refine hS _ _ ?_) | (clear hS; clear hS; clear hS; refine hS _ _ ?_) | (clear hS; clear hS; clear hS; clear hS; refine hS _ _ ?_)); clear hS)
         | skip)
    | (refine wpC_label ?_
       simp only [thenA]
       (first | refine hS _ _ ?_ | (clear hS; refine hS _ _ ?_) | (clear hS; clear hS; refine hS _ _ ?_) | (clear hS; clear hS; clear hS; refine hS _ _ ?_) | (clear hS; clear hS; clear hS; clear hS; refine hS _ _ ?_))
       clear hS)
    | refine wpC_seq fun K hS => ?_
    | refine wpC_region rfl ?_
    | refine wpC_block ?_
    | refine wpC_scope ?_
    | (refine wpC_ret ?_
       simp (disch := omega) only [thenA, inBlockA, noGotoA, endsA, ressV, resV, oneV, putT, BB, ↓updA, ↓reduceIte, Nat.reduceLT, Nat.reduceEqDiff]))
  refine wpOps_cons rfl fun K hK => ⟨nR .u8 (a ++ b), rfl, fun c hc => hK _ _ ?_⟩
  refine wpOps_cons rfl fun K hK => ⟨_, z25, fun r hr => hK _ _ ?_⟩
  have hr' := upd_none hr
  refine wpOps_nil ?_
  (simp only [thenA, inBlockA, noGotoA, ↓reduceIte, Nat.reduceEqDiff]; (first | refine hS _ _ ?_ | (clear hS; refine hS _ _ ?_) | (clear hS; clear hS; refine hS _ _ ?_) | (clear hS; clear hS; clear hS; refine hS _ _ ?_) | (clear hS; clear hS; clear hS; clear hS; refine hS _ _ ?_)); clear hS)
  refine wpC_seq fun K hS => ?_
  refine wpC_draw 7 (by kernel_rfl) rfl rfl ?_
  have hl : (a ++ b).length = 64 := by rw [List.length_append, ha, hb]
  have xc : upd (upd H c (some (.row (nR .u8 (a ++ b))))) r (some (.row (List.replicate 32 (vN .u8 0)))) c = some (.row (nR .u8 (a ++ b))) := by rw [upd_ne _ _ _ hr'.1, upd_eq]
  have v0 := view_rslO (o := 0) (n := 32) xc (by rw [hl]; omega)
  have v1 := view_rslO (o := 32) (n := 32) xc (by rw [hl]; omega)
  rw [List.drop_zero, List.take_append_of_le_length (by omega), List.take_of_length_le (by omega)] at v0
  rw [List.drop_append_of_le_length (by omega), List.drop_of_length_le (by omega), List.nil_append, List.take_of_length_le (by omega)] at v1
  have hfl : [a, b].flatten = a ++ b := by simp
  repeat (first
    | ((first | refine wpOps_cons rfl fun K hK => ?_ | refine quiet_cons rfl fun K hK => ?_)
       simp (disch := omega) only [wpOp, pval, putT, owned, initT, IntKind.bits, tab, callV, wpBuiltin, builtinV, BB, ↓updA, ↓reduceIte, Int.reduceLT, Int.reduceNeg, Int.reduceLE, Int.reduceToNat, Nat.reduceLT, Nat.reduceEqDiff, Nat.reduceAdd, Nat.reduceMul, Nat.reduceSub, Nat.reduceLeDiff, Nat.reduceBEq, ix_arr ar84, sa25o]
       first
         | refine hK _ _ ?_
         | refine ⟨_, ⟨rfl, by first | rfl | trivial⟩, hK _ ?_⟩
         | refine ⟨_, ⟨_, _, rfl, by decide, by decide, rfl, by first | rfl | trivial⟩, hK _ ?_⟩
       clear hK)
    | refine wpOps_skip rfl ?_
    | refine quiet_skip rfl ?_
    | refine quiet_nil ?_
    | (refine wpOps_nil ?_
       simp only [thenA, inBlockA, noGotoA]
       first
         | ((first | refine hS _ _ ?_ | (clear hS; refine hS _ _ ?_) | (clear hS; clear hS; refine hS _ _ ?_) | (clear hS; clear hS; clear hS; refine hS _ _ ?_) | (clear hS; clear hS; clear hS; clear hS; refine hS _ _ ?_)); clear hS)
         | skip)
    | (refine wpC_label ?_
       simp only [thenA]
       (first | refine hS _ _ ?_ | (clear hS; refine hS _ _ ?_) | (clear hS; clear hS; refine hS _ _ ?_) | (clear hS; clear hS; clear hS; refine hS _ _ ?_) | (clear hS; clear hS; clear hS; clear hS; refine hS _ _ ?_))
       clear hS)
    | refine wpC_seq fun K hS => ?_
    | refine wpC_region rfl ?_
    | refine wpC_block ?_
    | refine wpC_scope ?_
    | (refine wpC_ret ?_
       simp (disch := omega) only [thenA, inBlockA, noGotoA, endsA, ressV, resV, oneV, putT, BB, ↓updA, ↓reduceIte, Nat.reduceLT, Nat.reduceEqDiff, ix_arr ar84, sa25o]))
  refine quiet_cons rfl fun K hK => ⟨.sl 1 [[.rsl c 0 32 1], [.rsl c 32 32 1]] true, ⟨1, [[.nils], [.nils]], _, by kernel_rfl, by omega, rfl, rfl, rfl⟩, hK _ ?_⟩
  refine quiet_cons rfl fun K hK => ⟨.sl 1 (nE .u8 (a ++ b)) false, ⟨.sl 1 [[.rsl c 0 32 1], [.rsl c 32 32 1]] true, [.rsl c 0 32 1, .rsl c 32 32 1], [a, b], rfl, rfl, ⟨v0, v1, trivial⟩, by rw [hfl, hl]; omega, by rw [hfl, hl]; omega, by simp, by rw [hfl]; exact ⟨rfl, rfl⟩⟩, hK _ ?_⟩
  refine quiet_cons rfl fun K hK => ⟨.agg (nR .u8 (twiceOf (a ++ b))), ⟨.sl 1 (nE .u8 (a ++ b)) false, a ++ b, rfl, by simp [view], by rw [hl]; omega, rfl, rfl⟩, hK _ ?_⟩
  refine quiet_nil ?_
  refine wpOps_cons rfl fun K hK => ?_
  simp (disch := omega) only [wpOp, pval, putT, owned, initT, IntKind.bits, tab, callV, wpBuiltin, builtinV, BB, ↓updA, ↓reduceIte, Int.reduceLT, Int.reduceNeg, Int.reduceLE, Int.reduceToNat, Nat.reduceLT, Nat.reduceEqDiff, Nat.reduceAdd, Nat.reduceMul, Nat.reduceSub, Nat.reduceLeDiff, Nat.reduceBEq]
  refine ⟨_, store_agg (b := r) (upd_eq _ _ _) ty25 (by rw [nR_len, twiceOf_len]) (nR_ones _ _) rfl, hK _ _ ?_⟩
  refine wpOps_nil ?_
  (simp only [thenA, inBlockA, noGotoA, ↓reduceIte, Nat.reduceEqDiff]; (first | refine hS _ _ ?_ | (clear hS; refine hS _ _ ?_) | (clear hS; clear hS; refine hS _ _ ?_) | (clear hS; clear hS; clear hS; refine hS _ _ ?_) | (clear hS; clear hS; clear hS; clear hS; refine hS _ _ ?_)); clear hS)
  repeat (first
    | ((first | refine wpOps_cons rfl fun K hK => ?_ | refine quiet_cons rfl fun K hK => ?_)
       simp (disch := omega) only [wpOp, pval, putT, owned, initT, IntKind.bits, tab, callV, wpBuiltin, builtinV, BB, ↓updA, ↓reduceIte, Int.reduceLT, Int.reduceNeg, Int.reduceLE, Int.reduceToNat, Nat.reduceLT, Nat.reduceEqDiff, Nat.reduceAdd, Nat.reduceMul, Nat.reduceSub, Nat.reduceLeDiff, Nat.reduceBEq]
       first
         | refine hK _ _ ?_
         | refine ⟨_, ⟨rfl, by first | rfl | trivial⟩, hK _ ?_⟩
         | refine ⟨_, ⟨_, _, rfl, by decide, by decide, rfl, by first | rfl | trivial⟩, hK _ ?_⟩
       clear hK)
    | refine wpOps_skip rfl ?_
    | refine quiet_skip rfl ?_
    | refine quiet_nil ?_
    | (refine wpOps_nil ?_
       simp only [thenA, inBlockA, noGotoA]
       first
         | ((first | refine hS _ _ ?_ | (clear hS; refine hS _ _ ?_) | (clear hS; clear hS; refine hS _ _ ?_) | (clear hS; clear hS; clear hS; refine hS _ _ ?_) | (clear hS; clear hS; clear hS; clear hS; refine hS _ _ ?_)); clear hS)
         | skip)
    | (refine wpC_label ?_
       simp only [thenA]
       (first | refine hS _ _ ?_ | (clear hS; refine hS _ _ ?_) | (clear hS; clear hS; refine hS _ _ ?_) | (clear hS; clear hS; clear hS; refine hS _ _ ?_) | (clear hS; clear hS; clear hS; clear hS; refine hS _ _ ?_))
       clear hS)
    | refine wpC_seq fun K hS => ?_
    | refine wpC_region rfl ?_
    | refine wpC_block ?_
    | refine wpC_scope ?_
    | (refine wpC_ret ?_
       simp (disch := omega) only [thenA, inBlockA, noGotoA, endsA, ressV, resV, oneV, putT, BB, ↓updA, ↓reduceIte, Nat.reduceLT, Nat.reduceEqDiff]))
  refine ⟨_, res_cell (r := r) rfl (upd_eq _ _ _) ty25 (by rw [nR_len, twiceOf_len]), [], H, ?_, hQ⟩
  exact hle_upd (hle_upd (hle_upd (hle_refl _) hc) hr'.2) hr'.2
end Go.Av
