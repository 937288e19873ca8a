/-
  merkle: Root.
-/
import Derived.Test.YtgjlmmjdofceiaaM5
set_option linter.unusedSimpArgs false
set_option linter.unusedVariables false
namespace Go.Av
open Go.RowKit Go.Proofs

def rootF : Nat → List (List Nat) → List Nat
  | 0, _ => []
  | f + 1, hs => if hs.length = 1 then hs.getD 0 [] else rootF f (above hs)
def rootOf (hs : List (List Nat)) : List Nat := rootF hs.length hs

theorem rootF_more : ∀ (n f : Nat) (hs : List (List Nat)), hs.length ≤ n → hs ≠ [] → hs.length ≤ f → rootF f hs = rootF hs.length hs
  | 0, f, hs, hn, hne, _ => absurd (List.eq_nil_of_length_eq_zero (by omega)) hne
  | n + 1, f, hs, hn, hne, hf => by
    have h0 : 0 < hs.length := List.length_pos_iff.2 hne
    obtain ⟨f', rfl⟩ : ∃ f', f = f' + 1 := ⟨f - 1, by omega⟩
    obtain ⟨k, hk⟩ : ∃ k, hs.length = k + 1 := ⟨hs.length - 1, by omega⟩
    rw [hk, rootF, rootF]
    by_cases h1 : hs.length = 1
    · rw [if_pos h1, if_pos h1]
    · rw [if_neg h1, if_neg h1]
      have hl := above_len hs
      have hane : above hs ≠ [] := fun e => by rw [e, List.length_nil] at hl; omega
      rw [rootF_more n f' (above hs) (by omega) hane (by omega), rootF_more n k (above hs) (by omega) hane (by omega)]

theorem rootF_32 : ∀ (f : Nat) (hs : List (List Nat)), hs.length ≤ f → hs ≠ [] → all32 hs → (rootF f hs).length = 32
  | 0, hs, hf, hne, _ => absurd (List.eq_nil_of_length_eq_zero (by omega)) hne
  | f + 1, hs, hf, hne, h32 => by
    have h0 : 0 < hs.length := List.length_pos_iff.2 hne
    rw [rootF]
    split
    · exact all32_get h32 h0
    · have hl := above_len hs
      exact rootF_32 f (above hs) (by omega) (fun e => by rw [e, List.length_nil] at hl; omega) (above_32 hs)

theorem rootOf_one (h : List Nat) : rootOf [h] = h := rfl
theorem rootOf_more (hs : List (List Nat)) (h : 1 < hs.length) : rootOf hs = rootOf (above hs) := by
  have hl := above_len hs
  have hne : above hs ≠ [] := fun e => by rw [e, List.length_nil] at hl; omega
  obtain ⟨k, hk⟩ : ∃ k, hs.length = k + 1 := ⟨hs.length - 1, by omega⟩
  rw [rootOf, hk, rootF, if_neg (by omega), rootF_more _ k _ (Nat.le_refl _) hne (by omega), rootOf]
theorem rootOf_32 {hs : List (List Nat)} (hne : hs ≠ []) (h : all32 hs) : (rootOf hs).length = 32 := rootF_32 _ _ (Nat.le_refl _) hne h

section
variable {Y : YEnv} {Q : Exit → T → Hp → Prop} {t : T} {X : Hp} {ro : Nat} {v : V} {hs : List (List Nat)} {cells : List V}

theorem rd13 (q4 : t 4 = .ptr ro 0) (q5 : t 5 = v) (xr : X ro = some (.row cells)) (hc : cells.length = 32) (hv : view X 32 v = some (hE hs)) (hne : hs ≠ []) (h32 : all32 hs)
    (h1 : hs.length = 1 → ∀ t', Q (.exit 0) t' (upd X ro (some (.row (nR .u8 (hs.getD 0 []))))))
    (h2 : hs.length ≠ 1 → ∀ t', Q .normal t' (upd X ro (some (.row (nR .u8 (hs.getD 0 [])))))) :
    wpC Try.prog (tab [(35, s35), (49, s49)]) Y [] 20 (rbodyOf (loopAt Try.f13 0)) false Q t X := by
  have h0 : 0 < hs.length := List.length_pos_iff.2 hne
  obtain ⟨p, hp, hpl⟩ := elem_viewA (P := Try.prog) (k := .i64) ar22 sl22 hv (hE_get hs 0 h0) (by rw [nR_len]; exact all32_get h32 h0)
  have hly := lenV_view (P := Try.prog) sl22 hv
  rw [hE_len] at hly
  refine wpC_block ?_
  repeat (first
    | ((first | refine wpOps_cons rfl fun K hK => ?_ | refine quiet_cons rfl fun K hK => ?_)
       simp (disch := omega) only [wpOp, pval, putT, owned, initT, IntKind.bits, tab, callV, wpBuiltin, builtinV, BB, ↓updA, ↓reduceIte, Int.reduceLT, Int.reduceNeg, Int.reduceLE, Int.reduceToNat, Nat.reduceLT, Nat.reduceEqDiff, Nat.reduceAdd, Nat.reduceMul, Nat.reduceSub, Nat.reduceLeDiff, Nat.reduceBEq, q5, hp, hpl, ty25]
       first
         | refine hK _ _ ?_
         | refine ⟨_, ⟨rfl, by first | rfl | trivial⟩, hK _ ?_⟩
         | refine ⟨_, ⟨_, _, rfl, by decide, by decide, rfl, by first | rfl | trivial⟩, hK _ ?_⟩
       clear hK)
    | refine wpOps_skip rfl ?_
    | refine quiet_skip rfl ?_
    | refine quiet_nil ?_
    | (refine wpOps_nil ?_
       simp only [thenA, inBlockA, noGotoA]
       first
         | ((first | refine hS _ _ ?_ | (clear hS; refine hS _ _ ?_) | (clear hS; clear hS; refine hS _ _ ?_) | (clear hS; clear hS; clear hS; refine hS _ _ ?_) | (clear hS; clear hS; clear hS; clear hS; refine hS _ _ ?_)); clear hS)
         | skip)
    | (refine wpC_label ?_
       simp only [thenA]
       (first | refine hS _ _ ?_ | (clear hS; refine hS _ _ ?_) | (clear hS; clear hS; refine hS _ _ ?_) | (clear hS; clear hS; clear hS; refine hS _ _ ?_) | (clear hS; clear hS; clear hS; clear hS; refine hS _ _ ?_))
       clear hS)
    | refine wpC_seq fun K hS => ?_
    | refine wpC_region rfl ?_
    | refine wpC_block ?_
    | refine wpC_scope ?_
    | (refine wpC_ret ?_
       simp (disch := omega) only [thenA, inBlockA, noGotoA, endsA, ressV, resV, oneV, putT, BB, ↓updA, ↓reduceIte, Nat.reduceLT, Nat.reduceEqDiff, q5, hp, hpl, ty25]))
  refine wpOps_cons rfl fun K hK => ?_
  simp (disch := omega) only [wpOp, pval, putT, owned, initT, IntKind.bits, tab, callV, wpBuiltin, builtinV, BB, ↓updA, ↓reduceIte, Int.reduceLT, Int.reduceNeg, Int.reduceLE, Int.reduceToNat, Nat.reduceLT, Nat.reduceEqDiff, Nat.reduceAdd, Nat.reduceMul, Nat.reduceSub, Nat.reduceLeDiff, Nat.reduceBEq, q4]
  refine ⟨_, store_agg (b := ro) xr ty25 (by rw [nR_len]; exact all32_get h32 h0) (nR_ones _ _) hc, hK _ _ ?_⟩
  repeat (first
    | ((first | refine wpOps_cons rfl fun K hK => ?_ | refine quiet_cons rfl fun K hK => ?_)
       simp (disch := omega) only [wpOp, pval, putT, owned, initT, IntKind.bits, tab, callV, wpBuiltin, builtinV, BB, ↓updA, ↓reduceIte, Int.reduceLT, Int.reduceNeg, Int.reduceLE, Int.reduceToNat, Nat.reduceLT, Nat.reduceEqDiff, Nat.reduceAdd, Nat.reduceMul, Nat.reduceSub, Nat.reduceLeDiff, Nat.reduceBEq, q5, hly]
       first
         | refine hK _ _ ?_
         | refine ⟨_, ⟨rfl, by first | rfl | trivial⟩, hK _ ?_⟩
         | refine ⟨_, ⟨_, _, rfl, by decide, by decide, rfl, by first | rfl | trivial⟩, hK _ ?_⟩
       clear hK)
    | refine wpOps_skip rfl ?_
    | refine quiet_skip rfl ?_
    | refine quiet_nil ?_
    | (refine wpOps_nil ?_
       simp only [thenA, inBlockA, noGotoA]
       first
         | ((first | refine hS _ _ ?_ | (clear hS; refine hS _ _ ?_) | (clear hS; clear hS; refine hS _ _ ?_) | (clear hS; clear hS; clear hS; refine hS _ _ ?_) | (clear hS; clear hS; clear hS; clear hS; refine hS _ _ ?_)); clear hS)
         | skip)
    | (refine wpC_label ?_
       simp only [thenA]
       (first | refine hS _ _ ?_ | (clear hS; refine hS _ _ ?_) | (clear hS; clear hS; refine hS _ _ ?_) | (clear hS; clear hS; clear hS; refine hS _ _ ?_) | (clear hS; clear hS; clear hS; clear hS; refine hS _ _ ?_))
       clear hS)
    | refine wpC_seq fun K hS => ?_
    | refine wpC_region rfl ?_
    | refine wpC_block ?_
    | refine wpC_scope ?_
    | (refine wpC_ret ?_
       simp (disch := omega) only [thenA, inBlockA, noGotoA, endsA, ressV, resV, oneV, putT, BB, ↓updA, ↓reduceIte, Nat.reduceLT, Nat.reduceEqDiff, q5, hly]))
  refine wpC_dec rfl (fun hd => ?_) (fun hd => ?_)
  · refine wpC_exit ?_
    simp only [inBlockA, Nat.reduceEqDiff, ↓reduceIte]
    exact h1 hd _
  · refine wpC_skip ?_
    simp only [inBlockA]
    exact h2 hd _
end

def F13 (Y : YEnv) (t : T) (l : Nat) (ob : LoopState → Option Code → Obj) : Spec0 := fun args H' QY => args.length = 1 ∧ H' l = some (.raw (ob .ready none)) ∧
  wpC Try.prog (tab [(35, s35), (49, s49)]) Y [] 20 (asgOf (loopAt Try.f13 0)) false (onlyA fun t₁ H₁ => H₁ l = some (.raw (ob .ready none)) ∧
    wpC Try.prog (tab [(35, s35), (49, s49)]) Y [] 20 (rbodyOf (loopAt Try.f13 0)) false (roundA l ob QY) t₁ (upd H₁ l (some (.raw (ob .busy none))))) (putsT 20 t [12] args) H'

theorem lvl13 {Y Y' : YEnv} {t : T} {l ro : Nat} {ob : LoopState → Option Code → Obj} {G : Hp} {Qe : Hp → Prop} (q4 : t 4 = .ptr ro 0) (gr : G ro = none) (gl : G l = none) (hrl : ro ≠ l) :
    ∀ (f : Nat) (hs : List (List Nat)) (v : V) (X : Hp) (cells : List V), hs ≠ [] → hs.length ≤ f → all32 hs → view G 32 v = some (hE hs) → X ro = some (.row cells) → cells.length = 32 → X l = some (.raw (ob .ready none)) → hle G X →
      (∀ X', X' ro = some (.row (nR .u8 (rootF f hs))) → X' l = some (.raw (ob .done (some (.exit 0)))) → hle G X' → Qe X') → lvlS (upd Y' l (F13 Y t l ob)) l Qe (levelsOf f hs) v X
  | 0, hs, v, X, cells, hne, hf, _, _, _, _, _, _, _ => absurd (List.eq_nil_of_length_eq_zero (by omega)) hne
  | f + 1, hs, v, X, cells, hne, hf, h32, hv, xr, hc, xl, hG, hQ => by
    have yl : ∀ args H Q, F13 Y t l ob args H Q → upd Y' l (F13 Y t l ob) l args H Q := fun args H Q h => by rw [upd_eq]; exact h
    have h0 : 0 < hs.length := List.length_pos_iff.2 hne
    have hal := above_len hs
    rw [levelsOf, if_neg hne]
    rw [rootF] at hQ
    refine ⟨fun r X' => (hs.length = 1 → r = .bool false ∧ X' ro = some (.row (nR .u8 (hs.getD 0 []))) ∧ X' l = some (.raw (ob .done (some (.exit 0)))) ∧ hle G X') ∧
      (hs.length ≠ 1 → r = .bool true ∧ X' ro = some (.row (nR .u8 (hs.getD 0 []))) ∧ X' l = some (.raw (ob .ready none)) ∧ hle G X'), yl _ _ _ ⟨rfl, xl, ?_⟩, ?_⟩
    · show wpC Try.prog (tab [(35, s35), (49, s49)]) Y [] 20 (asgOf (loopAt Try.f13 0)) false (onlyA _) (putT 20 t (some 12) v) X
      refine wpC_region rfl ?_
      repeat (first
    | ((first | refine wpOps_cons rfl fun K hK => ?_ | refine quiet_cons rfl fun K hK => ?_)
       simp (disch := omega) only [wpOp, pval, putT, owned, initT, IntKind.bits, tab, callV, wpBuiltin, builtinV, BB, ↓updA, ↓reduceIte, Int.reduceLT, Int.reduceNeg, Int.reduceLE, Int.reduceToNat, Nat.reduceLT, Nat.reduceEqDiff, Nat.reduceAdd, Nat.reduceMul, Nat.reduceSub, Nat.reduceLeDiff, Nat.reduceBEq]
       first
         | refine hK _ _ ?_
         | refine ⟨_, ⟨rfl, by first | rfl | trivial⟩, hK _ ?_⟩
         | refine ⟨_, ⟨_, _, rfl, by decide, by decide, rfl, by first | rfl | trivial⟩, hK _ ?_⟩
       clear hK)
    | refine wpOps_skip rfl ?_
    | refine quiet_skip rfl ?_
    | refine quiet_nil ?_
    | (refine wpOps_nil ?_
       simp only [thenA, inBlockA, noGotoA]
       first
         | ((first | refine hS _ _ ?_ | (clear hS; refine hS _ _ ?_) | (clear hS; clear hS; refine hS _ _ ?_) | (clear hS; clear hS; clear hS; refine hS _ _ ?_) | (clear hS; clear hS; clear hS; clear hS; refine hS _ _ ?_)); clear hS)
         | skip)
    | (refine wpC_label ?_
       simp only [thenA]
       (first | refine hS _ _ ?_ | (clear hS; refine hS _ _ ?_) | (clear hS; clear hS; refine hS _ _ ?_) | (clear hS; clear hS; clear hS; refine hS _ _ ?_) | (clear hS; clear hS; clear hS; clear hS; refine hS _ _ ?_))
       clear hS)
    | refine wpC_seq fun K hS => ?_
    | refine wpC_region rfl ?_
    | refine wpC_block ?_
    | refine wpC_scope ?_
    | (refine wpC_ret ?_
       simp (disch := omega) only [thenA, inBlockA, noGotoA, endsA, ressV, resV, oneV, putT, BB, ↓updA, ↓reduceIte, Nat.reduceLT, Nat.reduceEqDiff]))
      refine wpOps_nil ?_
      simp only [onlyA]
      refine ⟨xl, rd13 (ro := ro) (v := v) (hs := hs) (cells := cells) ?_ ?_ ?_ hc (view_le (hle_upd hG gl) hv) hne h32 (fun h t' => ?_) (fun h t' => ?_)⟩
      · simp (disch := omega) only [wpOp, pval, putT, owned, initT, IntKind.bits, tab, callV, wpBuiltin, builtinV, BB, ↓updA, ↓reduceIte, Int.reduceLT, Int.reduceNeg, Int.reduceLE, Int.reduceToNat, Nat.reduceLT, Nat.reduceEqDiff, Nat.reduceAdd, Nat.reduceMul, Nat.reduceSub, Nat.reduceLeDiff, Nat.reduceBEq, q4]
      · simp (disch := omega) only [wpOp, pval, putT, owned, initT, IntKind.bits, tab, callV, wpBuiltin, builtinV, BB, ↓updA, ↓reduceIte, Int.reduceLT, Int.reduceNeg, Int.reduceLE, Int.reduceToNat, Nat.reduceLT, Nat.reduceEqDiff, Nat.reduceAdd, Nat.reduceMul, Nat.reduceSub, Nat.reduceLeDiff, Nat.reduceBEq]
      · rw [upd_ne _ _ _ hrl]; exact xr
      · simp only [roundA]
        refine ⟨⟨_, _, by rw [upd_ne _ _ _ (Ne.symm hrl), upd_eq]⟩, fun _ => ⟨trivial, ?_, upd_eq _ _ _, hle_upd (hle_upd (hle_upd hG gl) gr) gl⟩, fun hn => absurd h hn⟩
        rw [upd_ne _ _ _ hrl, upd_eq]
      · simp only [roundA]
        refine ⟨⟨_, _, by rw [upd_ne _ _ _ (Ne.symm hrl), upd_eq]⟩, fun hn => absurd hn h, fun _ => ⟨trivial, ?_, upd_eq _ _ _, hle_upd (hle_upd (hle_upd hG gl) gr) gl⟩⟩
        rw [upd_ne _ _ _ hrl, upd_eq]
    · rintro r X' ⟨g1, g2⟩
      by_cases h1 : hs.length = 1
      · obtain ⟨rfl, y1, y2, y3⟩ := g1 h1
        rw [if_pos h1] at hQ
        exact .inl ⟨rfl, hQ X' y1 y2 y3⟩
      · obtain ⟨rfl, y1, y2, y3⟩ := g2 h1
        rw [if_neg h1] at hQ
        refine .inr ⟨rfl, view_le y3 hv, ?_⟩
        rw [if_neg (by omega)]
        have hab : above hs ≠ [] := fun e => by rw [e, List.length_nil] at hal; omega
        have hhd : (levelsOf f (above hs)).headD [] = above hs := by
          cases f with
          | zero => omega
          | succ f => rw [levelsOf, if_neg hab]; rfl
        rw [hhd]
        refine lvl13 q4 gr gl hrl f (above hs) (.sl 32 (hE (above hs)) false) X' (nR .u8 (hs.getD 0 [])) hab (by omega) (above_32 hs) (by simp [view]) y1 (by rw [nR_len]; exact all32_get h32 h0) y2 y3 hQ

/-- Root: the hash, and the error. -/
def rootR (hs : List (List Nat)) : List Nat × Nat := if hs = [] then (List.replicate 32 0, 80) else (rootOf hs, 0)

def s13 : Spec := fun _ args H Q => ∃ x hs, args = [x] ∧ view H 32 x = some (hE hs) ∧ notR x = true ∧ all32 hs ∧ hs.length ≤ 1073741824 ∧ Q (.tup [.agg (nR .u8 (rootR hs).1), vN .i64 (rootR hs).2]) H

theorem res_cell2 {P : Program} {H : Hp} {t : T} {s s' ty n r : Nat} {cells : List V} {y : V} (ht : t s = .ptr r 0) (hr : H r = some (.row cells)) (hty : tyT P ty = some (true, n)) (hn : cells.length = n) (hy : t s' = y) : ressV P t H [.cell s ty, .tmp s'] = some [.agg cells, y] := by
  simp only [ressV, resV, ht, load_agg hr hty hn, Option.bind_some, Option.map_some, hy]

theorem bu25 : buildV Try.prog 25 [] = some (.agg (nR .u8 (List.replicate 32 0))) := by kernel_rfl

theorem snd13 : Sound Try.prog 13 s13 := by
  refine sound_of_body pm (tab_sound [(35, s35), (49, s49)] (by simp [snd35, snd49])) [] Try.func13 rfl (by kernel_rfl) ?_
  rintro Y args H Q ⟨x, hs, rfl, hv, hx, h32, hl, hQ⟩
  refine ⟨by simp [Try.f13], ?_⟩
  show wpC Try.prog (tab [(35, s35), (49, s49)]) Y [] 20 _ true (endsA Try.prog [.cell 2 25, .tmp 3] Q) _ H
  have hly := lenV_view (P := Try.prog) sl22 hv
  rw [hE_len] at hly
  repeat (first
    | ((first | refine wpOps_cons rfl fun K hK => ?_ | refine quiet_cons rfl fun K hK => ?_)
       simp (disch := omega) only [wpOp, pval, putT, owned, initT, IntKind.bits, tab, callV, wpBuiltin, builtinV, BB, ↓updA, ↓reduceIte, Int.reduceLT, Int.reduceNeg, Int.reduceLE, Int.reduceToNat, Nat.reduceLT, Nat.reduceEqDiff, Nat.reduceAdd, Nat.reduceMul, Nat.reduceSub, Nat.reduceLeDiff, Nat.reduceBEq]
       first
         | refine hK _ _ ?_
         | refine ⟨_, ⟨rfl, by first | rfl | trivial⟩, hK _ ?_⟩
         | refine ⟨_, ⟨_, _, rfl, by decide, by decide, rfl, by first | rfl | trivial⟩, hK _ ?_⟩
       clear hK)
    | refine wpOps_skip rfl ?_
    | refine quiet_skip rfl ?_
    | refine quiet_nil ?_
    | (refine wpOps_nil ?_
       simp only [thenA, inBlockA, noGotoA]
       first
         | ((first | refine hS _ _ ?_ | (clear hS; refine hS _ _ ?_) | (clear hS; clear hS; refine hS _ _ ?_) | (clear hS; clear hS; clear hS; refine hS _ _ ?_) | (clear hS; clear hS; clear hS; clear hS; refine hS _ _ ?_)); clear hS)
         | skip)
    | (refine wpC_label ?_
       simp only [thenA]
       (first | refine hS _ _ ?_ | (clear hS; refine hS _ _ ?_) | (clear hS; clear hS; refine hS _ _ ?_) | (clear hS; clear hS; clear hS; refine hS _ _ ?_) | (clear hS; clear hS; clear hS; clear hS; refine hS _ _ ?_))
       clear hS)
    | refine wpC_seq fun K hS => ?_
    | refine wpC_region rfl ?_
    | refine wpC_block ?_
    | refine wpC_scope ?_
    | (refine wpC_ret ?_
       simp (disch := omega) only [thenA, inBlockA, noGotoA, endsA, ressV, resV, oneV, putT, BB, ↓updA, ↓reduceIte, Nat.reduceLT, Nat.reduceEqDiff]))
  refine wpOps_cons rfl fun K hK => ⟨_, z25, fun r hr => hK _ _ ?_⟩
  repeat (first
    | ((first | refine wpOps_cons rfl fun K hK => ?_ | refine quiet_cons rfl fun K hK => ?_)
       simp (disch := omega) only [wpOp, pval, putT, owned, initT, IntKind.bits, tab, callV, wpBuiltin, builtinV, BB, ↓updA, ↓reduceIte, Int.reduceLT, Int.reduceNeg, Int.reduceLE, Int.reduceToNat, Nat.reduceLT, Nat.reduceEqDiff, Nat.reduceAdd, Nat.reduceMul, Nat.reduceSub, Nat.reduceLeDiff, Nat.reduceBEq, hly]
       first
         | refine hK _ _ ?_
         | refine ⟨_, ⟨rfl, by first | rfl | trivial⟩, hK _ ?_⟩
         | refine ⟨_, ⟨_, _, rfl, by decide, by decide, rfl, by first | rfl | trivial⟩, hK _ ?_⟩
       clear hK)
    | refine wpOps_skip rfl ?_
    | refine quiet_skip rfl ?_
    | refine quiet_nil ?_
    | (refine wpOps_nil ?_
       simp only [thenA, inBlockA, noGotoA]
       first
         | ((first | refine hS _ _ ?_ | (clear hS; refine hS _ _ ?_) | (clear hS; clear hS; refine hS _ _ ?_) | (clear hS; clear hS; clear hS; refine hS _ _ ?_) | (clear hS; clear hS; clear hS; clear hS; refine hS _ _ ?_)); clear hS)
         | skip)
    | (refine wpC_label ?_
       simp only [thenA]
       (first | refine hS _ _ ?_ | (clear hS; refine hS _ _ ?_) | (clear hS; clear hS; refine hS _ _ ?_) | (clear hS; clear hS; clear hS; refine hS _ _ ?_) | (clear hS; clear hS; clear hS; clear hS; refine hS _ _ ?_))
       clear hS)
    | refine wpC_seq fun K hS => ?_
    | refine wpC_region rfl ?_
    | refine wpC_block ?_
    | refine wpC_scope ?_
    | (refine wpC_ret ?_
       simp (disch := omega) only [thenA, inBlockA, noGotoA, endsA, ressV, resV, oneV, putT, BB, ↓updA, ↓reduceIte, Nat.reduceLT, Nat.reduceEqDiff, hly]))
  refine wpC_dec rfl (fun hd => ?_) (fun hd => ?_)
  · have hn : hs = [] := List.eq_nil_of_length_eq_zero hd
    rw [rootR, if_pos hn] at hQ
    repeat (first
    | ((first | refine wpOps_cons rfl fun K hK => ?_ | refine quiet_cons rfl fun K hK => ?_)
       simp (disch := omega) only [wpOp, pval, putT, owned, initT, IntKind.bits, tab, callV, wpBuiltin, builtinV, BB, ↓updA, ↓reduceIte, Int.reduceLT, Int.reduceNeg, Int.reduceLE, Int.reduceToNat, Nat.reduceLT, Nat.reduceEqDiff, Nat.reduceAdd, Nat.reduceMul, Nat.reduceSub, Nat.reduceLeDiff, Nat.reduceBEq, bu25]
       first
         | refine hK _ _ ?_
         | refine ⟨_, ⟨rfl, by first | rfl | trivial⟩, hK _ ?_⟩
         | refine ⟨_, ⟨_, _, rfl, by decide, by decide, rfl, by first | rfl | trivial⟩, hK _ ?_⟩
       clear hK)
    | refine wpOps_skip rfl ?_
    | refine quiet_skip rfl ?_
    | refine quiet_nil ?_
    | (refine wpOps_nil ?_
       simp only [thenA, inBlockA, noGotoA]
       first
         | ((first | refine hS _ _ ?_ | (clear hS; refine hS _ _ ?_) | (clear hS; clear hS; refine hS _ _ ?_) | (clear hS; clear hS; clear hS; refine hS _ _ ?_) | (clear hS; clear hS; clear hS; clear hS; refine hS _ _ ?_)); clear hS)
         | skip)
    | (refine wpC_label ?_
       simp only [thenA]
       (first | refine hS _ _ ?_ | (clear hS; refine hS _ _ ?_) | (clear hS; clear hS; refine hS _ _ ?_) | (clear hS; clear hS; clear hS; refine hS _ _ ?_) | (clear hS; clear hS; clear hS; clear hS; refine hS _ _ ?_))
       clear hS)
    | refine wpC_seq fun K hS => ?_
    | refine wpC_region rfl ?_
    | refine wpC_block ?_
    | refine wpC_scope ?_
    | (refine wpC_ret ?_
       simp (disch := omega) only [thenA, inBlockA, noGotoA, endsA, ressV, resV, oneV, putT, BB, ↓updA, ↓reduceIte, Nat.reduceLT, Nat.reduceEqDiff, bu25]))
    refine wpOps_cons rfl fun K hK => ?_
    simp (disch := omega) only [wpOp, pval, putT, owned, initT, IntKind.bits, tab, callV, wpBuiltin, builtinV, BB, ↓updA, ↓reduceIte, Int.reduceLT, Int.reduceNeg, Int.reduceLE, Int.reduceToNat, Nat.reduceLT, Nat.reduceEqDiff, Nat.reduceAdd, Nat.reduceMul, Nat.reduceSub, Nat.reduceLeDiff, Nat.reduceBEq]
    refine ⟨_, store_agg (b := r) (upd_eq _ _ _) ty25 rfl (nR_ones _ _) rfl, hK _ _ ?_⟩
    repeat (first
    | ((first | refine wpOps_cons rfl fun K hK => ?_ | refine quiet_cons rfl fun K hK => ?_)
       simp (disch := omega) only [wpOp, pval, putT, owned, initT, IntKind.bits, tab, callV, wpBuiltin, builtinV, BB, ↓updA, ↓reduceIte, Int.reduceLT, Int.reduceNeg, Int.reduceLE, Int.reduceToNat, Nat.reduceLT, Nat.reduceEqDiff, Nat.reduceAdd, Nat.reduceMul, Nat.reduceSub, Nat.reduceLeDiff, Nat.reduceBEq, load_agg (P := Try.prog) (t := 25) (upd_eq (upd H r (some (.row (List.replicate 32 (vN .u8 0))))) r (some (.row (nR .u8 (List.replicate 32 0))))) ty25 rfl]
       first
         | refine hK _ _ ?_
         | refine ⟨_, ⟨rfl, by first | rfl | trivial⟩, hK _ ?_⟩
         | refine ⟨_, ⟨_, _, rfl, by decide, by decide, rfl, by first | rfl | trivial⟩, hK _ ?_⟩
       clear hK)
    | refine wpOps_skip rfl ?_
    | refine quiet_skip rfl ?_
    | refine quiet_nil ?_
    | (refine wpOps_nil ?_
       simp only [thenA, inBlockA, noGotoA]
       first
         | ((first | refine hS _ _ ?_ | (clear hS; refine hS _ _ ?_) | (clear hS; clear hS; refine hS _ _ ?_) | (clear hS; clear hS; clear hS; refine hS _ _ ?_) | (clear hS; clear hS; clear hS; clear hS; refine hS _ _ ?_)); clear hS)
         | skip)
    | (refine wpC_label ?_
       simp only [thenA]
       (first | refine hS _ _ ?_ | (clear hS; refine hS _ _ ?_) | (clear hS; clear hS; refine hS _ _ ?_) | (clear hS; clear hS; clear hS; refine hS _ _ ?_) | (clear hS; clear hS; clear hS; clear hS; refine hS _ _ ?_))
       clear hS)
    | refine wpC_seq fun K hS => ?_
    | refine wpC_region rfl ?_
    | refine wpC_block ?_
    | refine wpC_scope ?_
    | (refine wpC_ret ?_
       simp (disch := omega) only [thenA, inBlockA, noGotoA, endsA, ressV, resV, oneV, putT, BB, ↓updA, ↓reduceIte, Nat.reduceLT, Nat.reduceEqDiff, load_agg (P := Try.prog) (t := 25) (upd_eq (upd H r (some (.row (List.replicate 32 (vN .u8 0))))) r (some (.row (nR .u8 (List.replicate 32 0))))) ty25 rfl]))
    exact ⟨_, rfl, [], H, hle_upd (hle_upd (hle_refl _) hr) hr, hQ⟩
  · have hne : hs ≠ [] := fun e => hd (by rw [e]; rfl)
    rw [rootR, if_neg hne] at hQ
    (refine wpC_skip ?_; simp only [thenA, inBlockA, noGotoA]; (first | refine hS _ _ ?_ | (clear hS; refine hS _ _ ?_) | (clear hS; clear hS; refine hS _ _ ?_) | (clear hS; clear hS; clear hS; refine hS _ _ ?_) | (clear hS; clear hS; clear hS; clear hS; refine hS _ _ ?_)); clear hS)
    repeat (first
    | ((first | refine wpOps_cons rfl fun K hK => ?_ | refine quiet_cons rfl fun K hK => ?_)
       simp (disch := omega) only [wpOp, pval, putT, owned, initT, IntKind.bits, tab, callV, wpBuiltin, builtinV, BB, ↓updA, ↓reduceIte, Int.reduceLT, Int.reduceNeg, Int.reduceLE, Int.reduceToNat, Nat.reduceLT, Nat.reduceEqDiff, Nat.reduceAdd, Nat.reduceMul, Nat.reduceSub, Nat.reduceLeDiff, Nat.reduceBEq]
       first
         | refine hK _ _ ?_
         | refine ⟨_, ⟨rfl, by first | rfl | trivial⟩, hK _ ?_⟩
         | refine ⟨_, ⟨_, _, rfl, by decide, by decide, rfl, by first | rfl | trivial⟩, hK _ ?_⟩
       clear hK)
    | refine wpOps_skip rfl ?_
    | refine quiet_skip rfl ?_
    | refine quiet_nil ?_
    | (refine wpOps_nil ?_
       simp only [thenA, inBlockA, noGotoA]
       first
         | ((first | refine hS _ _ ?_ | (clear hS; refine hS _ _ ?_) | (clear hS; clear hS; refine hS _ _ ?_) | (clear hS; clear hS; clear hS; refine hS _ _ ?_) | (clear hS; clear hS; clear hS; clear hS; refine hS _ _ ?_)); clear hS)
         | skip)
    | (refine wpC_label ?_
       simp only [thenA]
       (first | refine hS _ _ ?_ | (clear hS; refine hS _ _ ?_) | (clear hS; clear hS; refine hS _ _ ?_) | (clear hS; clear hS; clear hS; refine hS _ _ ?_) | (clear hS; clear hS; clear hS; clear hS; refine hS _ _ ?_))
       clear hS)
    | refine wpC_seq fun K hS => ?_
    | refine wpC_region rfl ?_
    | refine wpC_block ?_
    | refine wpC_scope ?_
    | (refine wpC_ret ?_
       simp (disch := omega) only [thenA, inBlockA, noGotoA, endsA, ressV, resV, oneV, putT, BB, ↓updA, ↓reduceIte, Nat.reduceLT, Nat.reduceEqDiff]))
    refine wpOps_cons rfl fun K hK => ⟨_, z25, fun ro hro => hK _ _ ?_⟩
    have hro' := upd_none hro
    repeat (first
    | ((first | refine wpOps_cons rfl fun K hK => ?_ | refine quiet_cons rfl fun K hK => ?_)
       simp (disch := omega) only [wpOp, pval, putT, owned, initT, IntKind.bits, tab, callV, wpBuiltin, builtinV, BB, ↓updA, ↓reduceIte, Int.reduceLT, Int.reduceNeg, Int.reduceLE, Int.reduceToNat, Nat.reduceLT, Nat.reduceEqDiff, Nat.reduceAdd, Nat.reduceMul, Nat.reduceSub, Nat.reduceLeDiff, Nat.reduceBEq]
       first
         | refine hK _ _ ?_
         | refine ⟨_, ⟨rfl, by first | rfl | trivial⟩, hK _ ?_⟩
         | refine ⟨_, ⟨_, _, rfl, by decide, by decide, rfl, by first | rfl | trivial⟩, hK _ ?_⟩
       clear hK)
    | refine wpOps_skip rfl ?_
    | refine quiet_skip rfl ?_
    | refine quiet_nil ?_
    | (refine wpOps_nil ?_
       simp only [thenA, inBlockA, noGotoA]
       first
         | ((first | refine hS _ _ ?_ | (clear hS; refine hS _ _ ?_) | (clear hS; clear hS; refine hS _ _ ?_) | (clear hS; clear hS; clear hS; refine hS _ _ ?_) | (clear hS; clear hS; clear hS; clear hS; refine hS _ _ ?_)); clear hS)
         | skip)
    | (refine wpC_label ?_
       simp only [thenA]
       (first | refine hS _ _ ?_ | (clear hS; refine hS _ _ ?_) | (clear hS; clear hS; refine hS _ _ ?_) | (clear hS; clear hS; clear hS; refine hS _ _ ?_) | (clear hS; clear hS; clear hS; clear hS; refine hS _ _ ?_))
       clear hS)
    | refine wpC_seq fun K hS => ?_
    | refine wpC_region rfl ?_
    | refine wpC_block ?_
    | refine wpC_scope ?_
    | (refine wpC_ret ?_
       simp (disch := omega) only [thenA, inBlockA, noGotoA, endsA, ressV, resV, oneV, putT, BB, ↓updA, ↓reduceIte, Nat.reduceLT, Nat.reduceEqDiff]))
    refine wpOps_cons rfl fun K hK => ⟨x, rfl, (view_ones hv).2, fun b hb => hK _ _ ?_⟩
    have hb' := upd_none hb
    have hb'' := upd_none hb'.2
    repeat (first
    | ((first | refine wpOps_cons rfl fun K hK => ?_ | refine quiet_cons rfl fun K hK => ?_)
       simp (disch := omega) only [wpOp, pval, putT, owned, initT, IntKind.bits, tab, callV, wpBuiltin, builtinV, BB, ↓updA, ↓reduceIte, Int.reduceLT, Int.reduceNeg, Int.reduceLE, Int.reduceToNat, Nat.reduceLT, Nat.reduceEqDiff, Nat.reduceAdd, Nat.reduceMul, Nat.reduceSub, Nat.reduceLeDiff, Nat.reduceBEq]
       first
         | refine hK _ _ ?_
         | refine ⟨_, ⟨rfl, by first | rfl | trivial⟩, hK _ ?_⟩
         | refine ⟨_, ⟨_, _, rfl, by decide, by decide, rfl, by first | rfl | trivial⟩, hK _ ?_⟩
       clear hK)
    | refine wpOps_skip rfl ?_
    | refine quiet_skip rfl ?_
    | refine quiet_nil ?_
    | (refine wpOps_nil ?_
       simp only [thenA, inBlockA, noGotoA]
       first
         | ((first | refine hS _ _ ?_ | (clear hS; refine hS _ _ ?_) | (clear hS; clear hS; refine hS _ _ ?_) | (clear hS; clear hS; clear hS; refine hS _ _ ?_) | (clear hS; clear hS; clear hS; clear hS; refine hS _ _ ?_)); clear hS)
         | skip)
    | (refine wpC_label ?_
       simp only [thenA]
       (first | refine hS _ _ ?_ | (clear hS; refine hS _ _ ?_) | (clear hS; clear hS; refine hS _ _ ?_) | (clear hS; clear hS; clear hS; refine hS _ _ ?_) | (clear hS; clear hS; clear hS; clear hS; refine hS _ _ ?_))
       clear hS)
    | refine wpC_seq fun K hS => ?_
    | refine wpC_region rfl ?_
    | refine wpC_block ?_
    | refine wpC_scope ?_
    | (refine wpC_ret ?_
       simp (disch := omega) only [thenA, inBlockA, noGotoA, endsA, ressV, resV, oneV, putT, BB, ↓updA, ↓reduceIte, Nat.reduceLT, Nat.reduceEqDiff]))
    refine wpC_range (f := 49) (first := []) (caps := [.ptr b 0]) ?_ (by kernel_rfl) fun l ob hl0 => ?_
    · simp (disch := omega) only [wpOp, pval, putT, owned, initT, IntKind.bits, tab, callV, wpBuiltin, builtinV, BB, ↓updA, ↓reduceIte, Int.reduceLT, Int.reduceNeg, Int.reduceLE, Int.reduceToNat, Nat.reduceLT, Nat.reduceEqDiff, Nat.reduceAdd, Nat.reduceMul, Nat.reduceSub, Nat.reduceLeDiff, Nat.reduceBEq]
    have hl1 := upd_none hl0
    have hl2 := upd_none hl1.2
    have hl3 := upd_none hl2.2
    generalize hG : upd (upd (upd (upd H r (some (.row (List.replicate 32 (vN .u8 0))))) ro (some (.row (List.replicate 32 (vN .u8 0))))) b (some (.row [x]))) ro none = G
    have hHG : hle H G := by rw [← hG]; exact hle_upd (hle_upd (hle_upd (hle_upd (hle_refl _) hr) hro'.2) hb''.2) hro'.2
    have gr : G ro = none := by rw [← hG]; exact upd_eq _ _ _
    have gl : G l = none := by rw [← hG, upd_ne _ _ _ (Ne.symm hl2.1)]; exact hl0
    have grr : G r = some (.row (List.replicate 32 (vN .u8 0))) := by rw [← hG, upd_ne _ _ _ hro'.1, upd_ne _ _ _ hb''.1, upd_ne _ _ _ hro'.1, upd_eq]
    have hGX : ∀ z, hle G (upd (upd (upd (upd H r (some (.row (List.replicate 32 (vN .u8 0))))) ro (some (.row (List.replicate 32 (vN .u8 0))))) b (some (.row [x]))) l z) := fun z => by
      refine hle_upd ?_ gl
      rw [← hG]
      exact hle_del _ _
    refine ⟨l, b, x, hs, hs.length, rfl, ?_, view_le (hle_trans hHG (hGX _)) hv, hx, h32, hl, Nat.le_refl _, ?_⟩
    · rw [upd_ne _ _ _ hl1.1, upd_eq]
    refine lvl13 (Y := Y) (ro := ro) ?_ gr gl hl2.1 hs.length hs x _ (List.replicate 32 (vN .u8 0)) hne (Nat.le_refl _) h32 (view_le hHG hv) ?_ rfl (upd_eq _ _ _) (hGX _) fun X' w1 w2 w3 => ?_
    · simp (disch := omega) only [wpOp, pval, putT, owned, initT, IntKind.bits, tab, callV, wpBuiltin, builtinV, BB, ↓updA, ↓reduceIte, Int.reduceLT, Int.reduceNeg, Int.reduceLE, Int.reduceToNat, Nat.reduceLT, Nat.reduceEqDiff, Nat.reduceAdd, Nat.reduceMul, Nat.reduceSub, Nat.reduceLeDiff, Nat.reduceBEq]
    · rw [upd_ne _ _ _ hl2.1, upd_ne _ _ _ hb'.1.symm.symm, upd_eq]
    refine ⟨_, _, w2, by simp, ?_⟩
    simp only [endA, inBlockA, thenA, ↓reduceIte]
    have x1 : upd X' l none ro = some (.row (nR .u8 (rootOf hs))) := by rw [upd_ne _ _ _ hl2.1]; exact w1
    refine hS _ _ ?_
    clear hS
    repeat (first
    | ((first | refine wpOps_cons rfl fun K hK => ?_ | refine quiet_cons rfl fun K hK => ?_)
       simp (disch := omega) only [wpOp, pval, putT, owned, initT, IntKind.bits, tab, callV, wpBuiltin, builtinV, BB, ↓updA, ↓reduceIte, Int.reduceLT, Int.reduceNeg, Int.reduceLE, Int.reduceToNat, Nat.reduceLT, Nat.reduceEqDiff, Nat.reduceAdd, Nat.reduceMul, Nat.reduceSub, Nat.reduceLeDiff, Nat.reduceBEq, load_agg (P := Try.prog) (t := 25) x1 ty25 (by rw [nR_len]; exact rootOf_32 hne h32)]
       first
         | refine hK _ _ ?_
         | refine ⟨_, ⟨rfl, by first | rfl | trivial⟩, hK _ ?_⟩
         | refine ⟨_, ⟨_, _, rfl, by decide, by decide, rfl, by first | rfl | trivial⟩, hK _ ?_⟩
       clear hK)
    | refine wpOps_skip rfl ?_
    | refine quiet_skip rfl ?_
    | refine quiet_nil ?_
    | (refine wpOps_nil ?_
       simp only [thenA, inBlockA, noGotoA]
       first
         | ((first | refine hS _ _ ?_ | (clear hS; refine hS _ _ ?_) | (clear hS; clear hS; refine hS _ _ ?_) | (clear hS; clear hS; clear hS; refine hS _ _ ?_) | (clear hS; clear hS; clear hS; clear hS; refine hS _ _ ?_)); clear hS)
         | skip)
    | (refine wpC_label ?_
       simp only [thenA]
       (first | refine hS _ _ ?_ | (clear hS; refine hS _ _ ?_) | (clear hS; clear hS; refine hS _ _ ?_) | (clear hS; clear hS; clear hS; refine hS _ _ ?_) | (clear hS; clear hS; clear hS; clear hS; refine hS _ _ ?_))
       clear hS)
    | refine wpC_seq fun K hS => ?_
    | refine wpC_region rfl ?_
    | refine wpC_block ?_
    | refine wpC_scope ?_
    | (refine wpC_ret ?_
       simp (disch := omega) only [thenA, inBlockA, noGotoA, endsA, ressV, resV, oneV, putT, BB, ↓updA, ↓reduceIte, Nat.reduceLT, Nat.reduceEqDiff, load_agg (P := Try.prog) (t := 25) x1 ty25 (by rw [nR_len]; exact rootOf_32 hne h32)]))
    refine wpOps_cons rfl fun K hK => ?_
    simp (disch := omega) only [wpOp, pval, putT, owned, initT, IntKind.bits, tab, callV, wpBuiltin, builtinV, BB, ↓updA, ↓reduceIte, Int.reduceLT, Int.reduceNeg, Int.reduceLE, Int.reduceToNat, Nat.reduceLT, Nat.reduceEqDiff, Nat.reduceAdd, Nat.reduceMul, Nat.reduceSub, Nat.reduceLeDiff, Nat.reduceBEq]
    refine ⟨_, store_agg (b := r) (cells := List.replicate 32 (vN .u8 0)) ?_ ty25 (by rw [nR_len]; exact rootOf_32 hne h32) (nR_ones _ _) rfl, hK _ _ ?_⟩
    · rw [upd_ne _ _ _ hl3.1]; exact w3 _ _ grr
    repeat (first
    | ((first | refine wpOps_cons rfl fun K hK => ?_ | refine quiet_cons rfl fun K hK => ?_)
       simp (disch := omega) only [wpOp, pval, putT, owned, initT, IntKind.bits, tab, callV, wpBuiltin, builtinV, BB, ↓updA, ↓reduceIte, Int.reduceLT, Int.reduceNeg, Int.reduceLE, Int.reduceToNat, Nat.reduceLT, Nat.reduceEqDiff, Nat.reduceAdd, Nat.reduceMul, Nat.reduceSub, Nat.reduceLeDiff, Nat.reduceBEq, load_agg (P := Try.prog) (t := 25) (upd_eq (upd X' l none) r (some (.row (nR .u8 (rootOf hs))))) ty25 (by rw [nR_len]; exact rootOf_32 hne h32)]
       first
         | refine hK _ _ ?_
         | refine ⟨_, ⟨rfl, by first | rfl | trivial⟩, hK _ ?_⟩
         | refine ⟨_, ⟨_, _, rfl, by decide, by decide, rfl, by first | rfl | trivial⟩, hK _ ?_⟩
       clear hK)
    | refine wpOps_skip rfl ?_
    | refine quiet_skip rfl ?_
    | refine quiet_nil ?_
    | (refine wpOps_nil ?_
       simp only [thenA, inBlockA, noGotoA]
       first
         | ((first | refine hS _ _ ?_ | (clear hS; refine hS _ _ ?_) | (clear hS; clear hS; refine hS _ _ ?_) | (clear hS; clear hS; clear hS; refine hS _ _ ?_) | (clear hS; clear hS; clear hS; clear hS; refine hS _ _ ?_)); clear hS)
         | skip)
    | (refine wpC_label ?_
       simp only [thenA]
       (first | refine hS _ _ ?_ | (clear hS; refine hS _ _ ?_) | (clear hS; clear hS; refine hS _ _ ?_) | (clear hS; clear hS; clear hS; refine hS _ _ ?_) | (clear hS; clear hS; clear hS; clear hS; refine hS _ _ ?_))
       clear hS)
    | refine wpC_seq fun K hS => ?_
    | refine wpC_region rfl ?_
    | refine wpC_block ?_
    | refine wpC_scope ?_
    | (refine wpC_ret ?_
       simp (disch := omega) only [thenA, inBlockA, noGotoA, endsA, ressV, resV, oneV, putT, BB, ↓updA, ↓reduceIte, Nat.reduceLT, Nat.reduceEqDiff, load_agg (P := Try.prog) (t := 25) (upd_eq (upd X' l none) r (some (.row (nR .u8 (rootOf hs))))) ty25 (by rw [nR_len]; exact rootOf_32 hne h32)]))
    refine ⟨_, rfl, [], H, ?_, hQ⟩
    exact hle_upd (hle_upd (hle_trans hHG w3) hl3.2) hr
end Go.Av
