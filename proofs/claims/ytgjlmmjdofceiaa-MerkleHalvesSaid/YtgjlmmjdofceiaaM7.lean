/-
  The statements of layer 8: their first examples.
-/
import Derived.Test.YtgjlmmjdofceiaaM6
set_option linter.unusedSimpArgs false
set_option linter.unusedVariables false
namespace Go.Av
open Go.RowKit Go.Proofs

/-! ### hashes are bytes -/
theorem outN_lt (st : List Nat) : ∀ n, lt8 (outN st n)
  | 0 => fun x hx => by
    have : x = 0 := by simpa [outN] using hx
    omega
  | n + 1 => by
    rw [outN_succ]
    intro x hx
    rcases List.mem_or_eq_of_mem_set hx with hx | rfl
    · exact outN_lt st n x hx
    · exact Nat.mod_lt _ (by omega)
theorem sumEnd_lt (st rs : List Nat) (m : Nat) : lt8 (sumEnd st rs m) := by
  unfold sumEnd
  split
  · intro x hx
    have := List.eq_of_mem_replicate hx
    omega
  · exact outN_lt _ _
theorem twiceOf_lt (bs : List Nat) : lt8 (twiceOf bs) := sumEnd_lt _ _ _

def okH (h : List Nat) : Prop := h.length = 32 ∧ lt8 h
theorem okH_twice (bs : List Nat) : okH (twiceOf bs) := ⟨twiceOf_len bs, twiceOf_lt bs⟩
def allH (hs : List (List Nat)) : Prop := ∀ h ∈ hs, okH h
theorem allH_32 {hs : List (List Nat)} (h : allH hs) : all32 hs := fun x hx => (h x hx).1
theorem above_H (hs : List (List Nat)) : allH (above hs) := by
  intro h hm
  obtain ⟨p, _, rfl⟩ := List.mem_map.1 hm
  exact okH_twice _
theorem allH_get {hs : List (List Nat)} (h : allH hs) {i : Nat} (hi : i < hs.length) : okH (hs.getD i []) := by
  rw [List.getD_eq_getElem?_getD, List.getElem?_eq_getElem hi]
  exact h _ (List.getElem_mem hi)
theorem rootF_H : ∀ (f : Nat) (hs : List (List Nat)), hs.length ≤ f → hs ≠ [] → allH hs → okH (rootF f hs)
  | 0, hs, hf, hne, _ => absurd (List.eq_nil_of_length_eq_zero (by omega)) hne
  | f + 1, hs, hf, hne, hH => by
    have h0 : 0 < hs.length := List.length_pos_iff.2 hne
    rw [rootF]
    split
    · exact allH_get hH h0
    · have hl := above_len hs
      exact rootF_H f (above hs) (by omega) (fun e => by rw [e, List.length_nil] at hl; omega) (above_H hs)
theorem rootOf_H {hs : List (List Nat)} (hne : hs ≠ []) (h : allH hs) : okH (rootOf hs) := rootF_H _ _ (Nat.le_refl _) hne h

theorem ag25 : aggEqT Try.prog 25 = true := by kernel_rfl
theorem un25 : Try.prog.underlying 25 = some (.array 32 5) := by kernel_rfl
theorem un5 : Try.prog.underlying 5 = some (.int .u8) := by kernel_rfl
theorem co25 : Try.prog.cellsOf 25 = 32 := by kernel_rfl
theorem co5 : Try.prog.cellsOf 5 = 1 := by kernel_rfl
theorem li25 {h : List Nat} (hh : okH h) : (litsV Try.prog 25 (nR .u8 h)).isSome = true :=
  lits_nR un25 un5 co25 co5 hh.1 (fun x hx => by
    have := hh.2 x hx
    simp only [Lit.wf, IntKind.min, IntKind.max, IntKind.signed, IntKind.bits]
    simp
    omega)
theorem eq25 {a b : List Nat} (ha : okH a) (hb : okH b) : binV Try.prog .eql 25 (.agg (nR .u8 a)) (.agg (nR .u8 b)) = some (.bool (decide (a = b))) := by
  simp only [binV, ag25, li25 ha, li25 hb, and_self, if_true, eqC_nR, eqop]
theorem ne25 {a b : List Nat} (ha : okH a) (hb : okH b) : binV Try.prog .neq 25 (.agg (nR .u8 a)) (.agg (nR .u8 b)) = some (.bool (decide (a ≠ b))) := by
  simp only [binV, ag25, li25 ha, li25 hb, and_self, if_true, eqC_nR, eqop, decide_not]

/-! ### the examples -/
def hA : List Nat := 1 :: List.replicate 31 0
def hB : List Nat := 2 :: List.replicate 31 0
def hC : List Nat := 3 :: List.replicate 31 0
theorem hA_ok : okH hA := ⟨rfl, fun x hx => by simp [hA] at hx; omega⟩
theorem hB_ok : okH hB := ⟨rfl, fun x hx => by simp [hB] at hx; omega⟩
theorem hC_ok : okH hC := ⟨rfl, fun x hx => by simp [hC] at hx; omega⟩
theorem bu25A : buildV Try.prog 25 [(0, vN .u8 1)] = some (.agg (nR .u8 hA)) := by kernel_rfl
theorem bu25B : buildV Try.prog 25 [(0, vN .u8 2)] = some (.agg (nR .u8 hB)) := by kernel_rfl
theorem bu25C : buildV Try.prog 25 [(0, vN .u8 3)] = some (.agg (nR .u8 hC)) := by kernel_rfl
set_option maxRecDepth 100000 in
theorem hAB_ne : (twiceOf (hA ++ hB) == hA) = false := by kernel_rfl

theorem bs22 {S : Nat → Spec} {Y : YEnv} {H : Hp} {t : T} {Q : V → Hp → Prop} {parts : Array (Nat × Operand)} {n : Nat} {hs : List (List Nat)} {qs : List (Nat × V)} (hq : (parts.toList.map fun (i, x) => (i, evT t x)) = qs) (hn : n * 32 ≤ 16777216)
    (hb : buildEs 32 (List.replicate n (List.replicate 32 (vN .u8 0))) qs = some (hE hs)) (h : Q (.sl 32 (hE hs) true) H) : wpOp Try.prog S Y false H (evT t) (.buildSlice 22 n parts) Q := by
  refine ⟨32, List.replicate n (List.replicate 32 (vN .u8 0)), hE hs, ?_, hn, by rw [hq]; exact hb, h⟩
  have e1 : Try.prog.underlying 22 = some (.slice 25) := by kernel_rfl
  have e2 : ((Try.prog.info? 25).map fun i => i.size) = some 32 := by kernel_rfl
  cases h3 : Try.prog.info? 25 with
  | none => rw [h3] at e2; cases e2
  | some i =>
    rw [h3] at e2
    simp only [Option.map_some, Option.some.injEq] at e2
    simp only [zeroEs, e1, h3, z25, e2]
    rfl

theorem buildEs1 {a : List Nat} (ha : a.length = 32) (z : List V) : buildEs 32 [z] [(0, .agg (nR .u8 a))] = some (hE [a]) := by
  simp only [buildEs, cellsV]
  rw [if_pos ⟨by rw [nR_len, ha], by simp⟩]
  rfl
theorem buildEs2 {a b : List Nat} (ha : a.length = 32) (hb : b.length = 32) (z w : List V) : buildEs 32 [z, w] [(0, .agg (nR .u8 a)), (1, .agg (nR .u8 b))] = some (hE [a, b]) := by
  simp only [buildEs, cellsV]
  rw [if_pos ⟨by rw [nR_len, ha], by simp⟩]
  rw [if_pos ⟨by rw [nR_len, hb], by simp⟩]
  rfl
theorem buildEs3 {a b c : List Nat} (ha : a.length = 32) (hb : b.length = 32) (hc : c.length = 32) (z w v : List V) : buildEs 32 [z, w, v] [(0, .agg (nR .u8 a)), (1, .agg (nR .u8 b)), (2, .agg (nR .u8 c))] = some (hE [a, b, c]) := by
  simp only [buildEs, cellsV]
  rw [if_pos ⟨by rw [nR_len, ha], by simp⟩]
  rw [if_pos ⟨by rw [nR_len, hb], by simp⟩]
  rw [if_pos ⟨by rw [nR_len, hc], by simp⟩]
  rfl

theorem all32_A : all32 [hA] := fun h hm => by simp at hm; subst hm; rfl
theorem all32_AB : all32 [hA, hB] := fun h hm => by simp at hm; rcases hm with rfl | rfl <;> rfl
theorem all32_ABC : all32 [hA, hB, hC] := fun h hm => by simp at hm; rcases hm with rfl | rfl | rfl <;> rfl

theorem sl_view {H : Hp} {sz : Nat} {es : List (List V)} {full : Bool} : view H sz (.sl sz es full) = some es := by simp [view]

theorem rootR_A : rootR [hA] = (hA, 0) := rfl
theorem rootOf_two (a b : List Nat) : rootOf [a, b] = twiceOf (a ++ b) := by
  rw [rootOf_more _ (by simp)]
  show rootOf [twiceOf (a ++ b)] = _
  rw [rootOf_one]
theorem rootR_AB : rootR [hA, hB] = (twiceOf (hA ++ hB), 0) := by
  rw [rootR, if_neg (by simp), rootOf_two]
theorem rootR_ABC : rootR [hA, hB, hC] = (twiceOf (twiceOf (hA ++ hB) ++ twiceOf (hC ++ hC)), 0) := by
  rw [rootR, if_neg (by simp), rootOf_more _ (by simp)]
  show (rootOf [twiceOf (hA ++ hB), twiceOf (hC ++ hC)], 0) = _
  rw [rootOf_two]

def s12 : Spec := fun _ args H Q => args = [] ∧ Q (.bool true) H

theorem snd12 : Sound Try.prog 12 s12 := by
  refine sound_of_body pm (tab_sound [(13, s13), (14, s14)] (by simp [snd13, snd14])) [] Try.func12 rfl (by kernel_rfl) ?_
  rintro Y args H Q ⟨rfl, hQ⟩
  refine ⟨by simp [Try.f12], ?_⟩
  show wpC Try.prog (tab [(13, s13), (14, s14)]) Y [] 72 _ true (endsA Try.prog [.tmp 0] Q) _ H
  repeat (first
    | ((first | refine wpOps_cons rfl fun K hK => ?_ | refine quiet_cons rfl fun K hK => ?_)
       simp (disch := omega) only [wpOp, pval, putT, owned, initT, IntKind.bits, tab, callV, wpBuiltin, builtinV, BB, ↓updA, ↓reduceIte, Int.reduceLT, Int.reduceNeg, Int.reduceLE, Int.reduceToNat, Nat.reduceLT, Nat.reduceEqDiff, Nat.reduceAdd, Nat.reduceMul, Nat.reduceSub, Nat.reduceLeDiff, Nat.reduceBEq, bu25A, bu25B, bu25C]
       first
         | refine hK _ _ ?_
         | refine ⟨_, ⟨rfl, by first | rfl | trivial⟩, hK _ ?_⟩
         | refine ⟨_, ⟨_, _, rfl, by decide, by decide, rfl, by first | rfl | trivial⟩, hK _ ?_⟩
       clear hK)
    | refine wpOps_skip rfl ?_
    | refine quiet_skip rfl ?_
    | refine quiet_nil ?_
    | (refine wpOps_nil ?_
       simp only [thenA, inBlockA, noGotoA]
       first
         | ((first | refine hS _ _ ?_ | (clear hS; refine hS _ _ ?_) | (clear hS; clear hS; refine hS _ _ ?_) | (clear hS; clear hS; clear hS; refine hS _ _ ?_) | (clear hS; clear hS; clear hS; clear hS; refine hS _ _ ?_)); clear hS)
         | skip)
    | (refine wpC_label ?_
       simp only [thenA]
       (first | refine hS _ _ ?_ | (clear hS; refine hS _ _ ?_) | (clear hS; clear hS; refine hS _ _ ?_) | (clear hS; clear hS; clear hS; refine hS _ _ ?_) | (clear hS; clear hS; clear hS; clear hS; refine hS _ _ ?_))
       clear hS)
    | refine wpC_seq fun K hS => ?_
    | refine wpC_region rfl ?_
    | refine wpC_block ?_
    | refine wpC_scope ?_
    | (refine wpC_ret ?_
       simp (disch := omega) only [thenA, inBlockA, noGotoA, endsA, ressV, resV, oneV, putT, BB, ↓updA, ↓reduceIte, Nat.reduceLT, Nat.reduceEqDiff, bu25A, bu25B, bu25C]))
  refine wpOps_cons rfl fun K hK => ⟨_, z25, fun a ha => hK _ _ ?_⟩
  refine wpOps_cons rfl fun K hK => ⟨_, z25, fun b hb => hK _ _ ?_⟩
  refine wpOps_cons rfl fun K hK => ⟨_, z25, fun c hc => hK _ _ ?_⟩
  have hb' := upd_none hb
  have hc' := upd_none hc
  have hc'' := upd_none hc'.2
  refine wpOps_cons rfl fun K hK => ?_
  simp (disch := omega) only [wpOp, pval, putT, owned, initT, IntKind.bits, tab, callV, wpBuiltin, builtinV, BB, ↓updA, ↓reduceIte, Int.reduceLT, Int.reduceNeg, Int.reduceLE, Int.reduceToNat, Nat.reduceLT, Nat.reduceEqDiff, Nat.reduceAdd, Nat.reduceMul, Nat.reduceSub, Nat.reduceLeDiff, Nat.reduceBEq]
  refine ⟨_, store_agg (b := a) (by rw [upd_ne _ _ _ hc''.1, upd_ne _ _ _ hb'.1, upd_eq]) ty25 rfl (nR_ones _ _) rfl, hK _ _ ?_⟩
  refine wpOps_cons rfl fun K hK => ?_
  simp (disch := omega) only [wpOp, pval, putT, owned, initT, IntKind.bits, tab, callV, wpBuiltin, builtinV, BB, ↓updA, ↓reduceIte, Int.reduceLT, Int.reduceNeg, Int.reduceLE, Int.reduceToNat, Nat.reduceLT, Nat.reduceEqDiff, Nat.reduceAdd, Nat.reduceMul, Nat.reduceSub, Nat.reduceLeDiff, Nat.reduceBEq]
  refine ⟨_, store_agg (b := b) (by rw [upd_ne _ _ _ (Ne.symm hb'.1), upd_ne _ _ _ hc'.1, upd_eq]) ty25 rfl (nR_ones _ _) rfl, hK _ _ ?_⟩
  refine wpOps_cons rfl fun K hK => ?_
  simp (disch := omega) only [wpOp, pval, putT, owned, initT, IntKind.bits, tab, callV, wpBuiltin, builtinV, BB, ↓updA, ↓reduceIte, Int.reduceLT, Int.reduceNeg, Int.reduceLE, Int.reduceToNat, Nat.reduceLT, Nat.reduceEqDiff, Nat.reduceAdd, Nat.reduceMul, Nat.reduceSub, Nat.reduceLeDiff, Nat.reduceBEq]
  refine ⟨_, store_agg (b := c) (by rw [upd_ne _ _ _ (Ne.symm hc'.1), upd_ne _ _ _ (Ne.symm hc''.1), upd_eq]) ty25 rfl (nR_ones _ _) rfl, hK _ _ ?_⟩
  generalize hX : upd (upd (upd (upd (upd (upd H a (some (.row (List.replicate 32 (vN .u8 0))))) b (some (.row (List.replicate 32 (vN .u8 0))))) c (some (.row (List.replicate 32 (vN .u8 0))))) a (some (.row (nR .u8 hA)))) b (some (.row (nR .u8 hB)))) c (some (.row (nR .u8 hC))) = X
  have xa : X a = some (.row (nR .u8 hA)) := by rw [← hX, upd_ne _ _ _ hc''.1, upd_ne _ _ _ hb'.1, upd_eq]
  have xb : X b = some (.row (nR .u8 hB)) := by rw [← hX, upd_ne _ _ _ hc'.1, upd_eq]
  have xc : X c = some (.row (nR .u8 hC)) := by rw [← hX, upd_eq]
  have hHX : hle H X := by rw [← hX]; exact hle_upd (hle_upd (hle_upd (hle_upd (hle_upd (hle_upd (hle_refl _) ha) hb'.2) hc''.2) ha) hb'.2) hc''.2
  clear hX
  have la := load_agg (P := Try.prog) (t := 25) xa ty25 rfl
  repeat (first
    | ((first | refine wpOps_cons rfl fun K hK => ?_ | refine quiet_cons rfl fun K hK => ?_)
       simp (disch := omega) only [wpOp, pval, putT, owned, initT, IntKind.bits, tab, callV, wpBuiltin, builtinV, BB, ↓updA, ↓reduceIte, Int.reduceLT, Int.reduceNeg, Int.reduceLE, Int.reduceToNat, Nat.reduceLT, Nat.reduceEqDiff, Nat.reduceAdd, Nat.reduceMul, Nat.reduceSub, Nat.reduceLeDiff, Nat.reduceBEq, la]
       first
         | refine hK _ _ ?_
         | refine ⟨_, ⟨rfl, by first | rfl | trivial⟩, hK _ ?_⟩
         | refine ⟨_, ⟨_, _, rfl, by decide, by decide, rfl, by first | rfl | trivial⟩, hK _ ?_⟩
       clear hK)
    | refine wpOps_skip rfl ?_
    | refine quiet_skip rfl ?_
    | refine quiet_nil ?_
    | (refine wpOps_nil ?_
       simp only [thenA, inBlockA, noGotoA]
       first
         | ((first | refine hS _ _ ?_ | (clear hS; refine hS _ _ ?_) | (clear hS; clear hS; refine hS _ _ ?_) | (clear hS; clear hS; clear hS; refine hS _ _ ?_) | (clear hS; clear hS; clear hS; clear hS; refine hS _ _ ?_)); clear hS)
         | skip)
    | (refine wpC_label ?_
       simp only [thenA]
       (first | refine hS _ _ ?_ | (clear hS; refine hS _ _ ?_) | (clear hS; clear hS; refine hS _ _ ?_) | (clear hS; clear hS; clear hS; refine hS _ _ ?_) | (clear hS; clear hS; clear hS; clear hS; refine hS _ _ ?_))
       clear hS)
    | refine wpC_seq fun K hS => ?_
    | refine wpC_region rfl ?_
    | refine wpC_block ?_
    | refine wpC_scope ?_
    | (refine wpC_ret ?_
       simp (disch := omega) only [thenA, inBlockA, noGotoA, endsA, ressV, resV, oneV, putT, BB, ↓updA, ↓reduceIte, Nat.reduceLT, Nat.reduceEqDiff, la]))
  refine wpOps_cons rfl fun K hK => bs22 (hs := [hA]) rfl (by omega) (by simp (disch := omega) only [wpOp, pval, putT, owned, initT, IntKind.bits, tab, callV, wpBuiltin, builtinV, BB, ↓updA, ↓reduceIte, Int.reduceLT, Int.reduceNeg, Int.reduceLE, Int.reduceToNat, Nat.reduceLT, Nat.reduceEqDiff, Nat.reduceAdd, Nat.reduceMul, Nat.reduceSub, Nat.reduceLeDiff, Nat.reduceBEq]; exact buildEs1 rfl _) (hK _ _ ?_)
  refine wpOps_cons rfl fun K hK => ⟨.sl 32 (hE [hA]) true, [hA], rfl, sl_view, rfl, all32_A, by simp, hK _ _ ?_⟩
  rw [rootR_A]
  repeat (first
    | ((first | refine wpOps_cons rfl fun K hK => ?_ | refine quiet_cons rfl fun K hK => ?_)
       simp (disch := omega) only [wpOp, pval, putT, owned, initT, IntKind.bits, tab, callV, wpBuiltin, builtinV, BB, ↓updA, ↓reduceIte, Int.reduceLT, Int.reduceNeg, Int.reduceLE, Int.reduceToNat, Nat.reduceLT, Nat.reduceEqDiff, Nat.reduceAdd, Nat.reduceMul, Nat.reduceSub, Nat.reduceLeDiff, Nat.reduceBEq]
       first
         | refine hK _ _ ?_
         | refine ⟨_, ⟨rfl, by first | rfl | trivial⟩, hK _ ?_⟩
         | refine ⟨_, ⟨_, _, rfl, by decide, by decide, rfl, by first | rfl | trivial⟩, hK _ ?_⟩
       clear hK)
    | refine wpOps_skip rfl ?_
    | refine quiet_skip rfl ?_
    | refine quiet_nil ?_
    | (refine wpOps_nil ?_
       simp only [thenA, inBlockA, noGotoA]
       first
         | ((first | refine hS _ _ ?_ | (clear hS; refine hS _ _ ?_) | (clear hS; clear hS; refine hS _ _ ?_) | (clear hS; clear hS; clear hS; refine hS _ _ ?_) | (clear hS; clear hS; clear hS; clear hS; refine hS _ _ ?_)); clear hS)
         | skip)
    | (refine wpC_label ?_
       simp only [thenA]
       (first | refine hS _ _ ?_ | (clear hS; refine hS _ _ ?_) | (clear hS; clear hS; refine hS _ _ ?_) | (clear hS; clear hS; clear hS; refine hS _ _ ?_) | (clear hS; clear hS; clear hS; clear hS; refine hS _ _ ?_))
       clear hS)
    | refine wpC_seq fun K hS => ?_
    | refine wpC_region rfl ?_
    | refine wpC_block ?_
    | refine wpC_scope ?_
    | (refine wpC_ret ?_
       simp (disch := omega) only [thenA, inBlockA, noGotoA, endsA, ressV, resV, oneV, putT, BB, ↓updA, ↓reduceIte, Nat.reduceLT, Nat.reduceEqDiff]))
  refine wpOps_cons rfl fun K hK => ⟨_, z25, fun d hd => hK _ _ ?_⟩
  refine wpOps_cons rfl fun K hK => ?_
  simp (disch := omega) only [wpOp, pval, putT, owned, initT, IntKind.bits, tab, callV, wpBuiltin, builtinV, BB, ↓updA, ↓reduceIte, Int.reduceLT, Int.reduceNeg, Int.reduceLE, Int.reduceToNat, Nat.reduceLT, Nat.reduceEqDiff, Nat.reduceAdd, Nat.reduceMul, Nat.reduceSub, Nat.reduceLeDiff, Nat.reduceBEq]
  refine ⟨_, store_agg (b := d) (upd_eq _ _ _) ty25 rfl (nR_ones _ _) rfl, hK _ _ ?_⟩
  rw [upd_upd]
  have hX1 : hle X (upd X d (some (.row (nR .u8 hA)))) := hle_upd (hle_refl _) hd
  have xd : upd X d (some (.row (nR .u8 hA))) d = some (.row (nR .u8 hA)) := upd_eq _ _ _
  generalize upd X d (some (.row (nR .u8 hA))) = X1 at *
  replace xa := hX1 _ _ xa
  replace xb := hX1 _ _ xb
  replace xc := hX1 _ _ xc
  replace hHX := hle_trans hHX hX1
  clear hX1 hd la X
  have la := load_agg (P := Try.prog) (t := 25) xa ty25 rfl
  have lb := load_agg (P := Try.prog) (t := 25) xb ty25 rfl
  repeat (first
    | ((first | refine wpOps_cons rfl fun K hK => ?_ | refine quiet_cons rfl fun K hK => ?_)
       simp (disch := omega) only [wpOp, pval, putT, owned, initT, IntKind.bits, tab, callV, wpBuiltin, builtinV, BB, ↓updA, ↓reduceIte, Int.reduceLT, Int.reduceNeg, Int.reduceLE, Int.reduceToNat, Nat.reduceLT, Nat.reduceEqDiff, Nat.reduceAdd, Nat.reduceMul, Nat.reduceSub, Nat.reduceLeDiff, Nat.reduceBEq, la, lb]
       first
         | refine hK _ _ ?_
         | refine ⟨_, ⟨rfl, by first | rfl | trivial⟩, hK _ ?_⟩
         | refine ⟨_, ⟨_, _, rfl, by decide, by decide, rfl, by first | rfl | trivial⟩, hK _ ?_⟩
       clear hK)
    | refine wpOps_skip rfl ?_
    | refine quiet_skip rfl ?_
    | refine quiet_nil ?_
    | (refine wpOps_nil ?_
       simp only [thenA, inBlockA, noGotoA]
       first
         | ((first | refine hS _ _ ?_ | (clear hS; refine hS _ _ ?_) | (clear hS; clear hS; refine hS _ _ ?_) | (clear hS; clear hS; clear hS; refine hS _ _ ?_) | (clear hS; clear hS; clear hS; clear hS; refine hS _ _ ?_)); clear hS)
         | skip)
    | (refine wpC_label ?_
       simp only [thenA]
       (first | refine hS _ _ ?_ | (clear hS; refine hS _ _ ?_) | (clear hS; clear hS; refine hS _ _ ?_) | (clear hS; clear hS; clear hS; refine hS _ _ ?_) | (clear hS; clear hS; clear hS; clear hS; refine hS _ _ ?_))
       clear hS)
    | refine wpC_seq fun K hS => ?_
    | refine wpC_region rfl ?_
    | refine wpC_block ?_
    | refine wpC_scope ?_
    | (refine wpC_ret ?_
       simp (disch := omega) only [thenA, inBlockA, noGotoA, endsA, ressV, resV, oneV, putT, BB, ↓updA, ↓reduceIte, Nat.reduceLT, Nat.reduceEqDiff, la, lb]))
  refine wpOps_cons rfl fun K hK => bs22 (hs := [hA, hB]) rfl (by omega) (by simp (disch := omega) only [wpOp, pval, putT, owned, initT, IntKind.bits, tab, callV, wpBuiltin, builtinV, BB, ↓updA, ↓reduceIte, Int.reduceLT, Int.reduceNeg, Int.reduceLE, Int.reduceToNat, Nat.reduceLT, Nat.reduceEqDiff, Nat.reduceAdd, Nat.reduceMul, Nat.reduceSub, Nat.reduceLeDiff, Nat.reduceBEq]; exact buildEs2 rfl rfl _ _) (hK _ _ ?_)
  refine wpOps_cons rfl fun K hK => ⟨.sl 32 (hE [hA, hB]) true, [hA, hB], rfl, sl_view, rfl, all32_AB, by simp, hK _ _ ?_⟩
  rw [rootR_AB]
  repeat (first
    | ((first | refine wpOps_cons rfl fun K hK => ?_ | refine quiet_cons rfl fun K hK => ?_)
       simp (disch := omega) only [wpOp, pval, putT, owned, initT, IntKind.bits, tab, callV, wpBuiltin, builtinV, BB, ↓updA, ↓reduceIte, Int.reduceLT, Int.reduceNeg, Int.reduceLE, Int.reduceToNat, Nat.reduceLT, Nat.reduceEqDiff, Nat.reduceAdd, Nat.reduceMul, Nat.reduceSub, Nat.reduceLeDiff, Nat.reduceBEq]
       first
         | refine hK _ _ ?_
         | refine ⟨_, ⟨rfl, by first | rfl | trivial⟩, hK _ ?_⟩
         | refine ⟨_, ⟨_, _, rfl, by decide, by decide, rfl, by first | rfl | trivial⟩, hK _ ?_⟩
       clear hK)
    | refine wpOps_skip rfl ?_
    | refine quiet_skip rfl ?_
    | refine quiet_nil ?_
    | (refine wpOps_nil ?_
       simp only [thenA, inBlockA, noGotoA]
       first
         | ((first | refine hS _ _ ?_ | (clear hS; refine hS _ _ ?_) | (clear hS; clear hS; refine hS _ _ ?_) | (clear hS; clear hS; clear hS; refine hS _ _ ?_) | (clear hS; clear hS; clear hS; clear hS; refine hS _ _ ?_)); clear hS)
         | skip)
    | (refine wpC_label ?_
       simp only [thenA]
       (first | refine hS _ _ ?_ | (clear hS; refine hS _ _ ?_) | (clear hS; clear hS; refine hS _ _ ?_) | (clear hS; clear hS; clear hS; refine hS _ _ ?_) | (clear hS; clear hS; clear hS; clear hS; refine hS _ _ ?_))
       clear hS)
    | refine wpC_seq fun K hS => ?_
    | refine wpC_region rfl ?_
    | refine wpC_block ?_
    | refine wpC_scope ?_
    | (refine wpC_ret ?_
       simp (disch := omega) only [thenA, inBlockA, noGotoA, endsA, ressV, resV, oneV, putT, BB, ↓updA, ↓reduceIte, Nat.reduceLT, Nat.reduceEqDiff]))
  refine wpOps_cons rfl fun K hK => ⟨_, z25, fun e he => hK _ _ ?_⟩
  refine wpOps_cons rfl fun K hK => ?_
  simp (disch := omega) only [wpOp, pval, putT, owned, initT, IntKind.bits, tab, callV, wpBuiltin, builtinV, BB, ↓updA, ↓reduceIte, Int.reduceLT, Int.reduceNeg, Int.reduceLE, Int.reduceToNat, Nat.reduceLT, Nat.reduceEqDiff, Nat.reduceAdd, Nat.reduceMul, Nat.reduceSub, Nat.reduceLeDiff, Nat.reduceBEq]
  refine ⟨_, store_agg (b := e) (upd_eq _ _ _) ty25 (by rw [nR_len]; exact twiceOf_len _) (nR_ones _ _) rfl, hK _ _ ?_⟩
  rw [upd_upd]
  have hX1 : hle X1 (upd X1 e (some (.row (nR .u8 (twiceOf (hA ++ hB)))))) := hle_upd (hle_refl _) he
  have xe : upd X1 e (some (.row (nR .u8 (twiceOf (hA ++ hB))))) e = some (.row (nR .u8 (twiceOf (hA ++ hB)))) := upd_eq _ _ _
  generalize upd X1 e (some (.row (nR .u8 (twiceOf (hA ++ hB))))) = X2 at *
  replace xa := hX1 _ _ xa
  replace xb := hX1 _ _ xb
  replace xc := hX1 _ _ xc
  replace xd := hX1 _ _ xd
  replace hHX := hle_trans hHX hX1
  clear hX1 he la lb X1
  have la := load_agg (P := Try.prog) (t := 25) xa ty25 rfl
  have lb := load_agg (P := Try.prog) (t := 25) xb ty25 rfl
  have lc := load_agg (P := Try.prog) (t := 25) xc ty25 rfl
  repeat (first
    | ((first | refine wpOps_cons rfl fun K hK => ?_ | refine quiet_cons rfl fun K hK => ?_)
       simp (disch := omega) only [wpOp, pval, putT, owned, initT, IntKind.bits, tab, callV, wpBuiltin, builtinV, BB, ↓updA, ↓reduceIte, Int.reduceLT, Int.reduceNeg, Int.reduceLE, Int.reduceToNat, Nat.reduceLT, Nat.reduceEqDiff, Nat.reduceAdd, Nat.reduceMul, Nat.reduceSub, Nat.reduceLeDiff, Nat.reduceBEq, la, lb, lc]
       first
         | refine hK _ _ ?_
         | refine ⟨_, ⟨rfl, by first | rfl | trivial⟩, hK _ ?_⟩
         | refine ⟨_, ⟨_, _, rfl, by decide, by decide, rfl, by first | rfl | trivial⟩, hK _ ?_⟩
       clear hK)
    | refine wpOps_skip rfl ?_
    | refine quiet_skip rfl ?_
    | refine quiet_nil ?_
    | (refine wpOps_nil ?_
       simp only [thenA, inBlockA, noGotoA]
       first
         | ((first | refine hS _ _ ?_ | (clear hS; refine hS _ _ ?_) | (clear hS; clear hS; refine hS _ _ ?_) | (clear hS; clear hS; clear hS; refine hS _ _ ?_) | (clear hS; clear hS; clear hS; clear hS; refine hS _ _ ?_)); clear hS)
         | skip)
    | (refine wpC_label ?_
       simp only [thenA]
       (first | refine hS _ _ ?_ | (clear hS; refine hS _ _ ?_) | (clear hS; clear hS; refine hS _ _ ?_) | (clear hS; clear hS; clear hS; refine hS _ _ ?_) | (clear hS; clear hS; clear hS; clear hS; refine hS _ _ ?_))
       clear hS)
    | refine wpC_seq fun K hS => ?_
    | refine wpC_region rfl ?_
    | refine wpC_block ?_
    | refine wpC_scope ?_
    | (refine wpC_ret ?_
       simp (disch := omega) only [thenA, inBlockA, noGotoA, endsA, ressV, resV, oneV, putT, BB, ↓updA, ↓reduceIte, Nat.reduceLT, Nat.reduceEqDiff, la, lb, lc]))
  refine wpOps_cons rfl fun K hK => bs22 (hs := [hA, hB, hC]) rfl (by omega) (by simp (disch := omega) only [wpOp, pval, putT, owned, initT, IntKind.bits, tab, callV, wpBuiltin, builtinV, BB, ↓updA, ↓reduceIte, Int.reduceLT, Int.reduceNeg, Int.reduceLE, Int.reduceToNat, Nat.reduceLT, Nat.reduceEqDiff, Nat.reduceAdd, Nat.reduceMul, Nat.reduceSub, Nat.reduceLeDiff, Nat.reduceBEq]; exact buildEs3 rfl rfl rfl _ _ _) (hK _ _ ?_)
  refine wpOps_cons rfl fun K hK => ⟨.sl 32 (hE [hA, hB, hC]) true, [hA, hB, hC], rfl, sl_view, rfl, all32_ABC, by simp, hK _ _ ?_⟩
  rw [rootR_ABC]
  repeat (first
    | ((first | refine wpOps_cons rfl fun K hK => ?_ | refine quiet_cons rfl fun K hK => ?_)
       simp (disch := omega) only [wpOp, pval, putT, owned, initT, IntKind.bits, tab, callV, wpBuiltin, builtinV, BB, ↓updA, ↓reduceIte, Int.reduceLT, Int.reduceNeg, Int.reduceLE, Int.reduceToNat, Nat.reduceLT, Nat.reduceEqDiff, Nat.reduceAdd, Nat.reduceMul, Nat.reduceSub, Nat.reduceLeDiff, Nat.reduceBEq]
       first
         | refine hK _ _ ?_
         | refine ⟨_, ⟨rfl, by first | rfl | trivial⟩, hK _ ?_⟩
         | refine ⟨_, ⟨_, _, rfl, by decide, by decide, rfl, by first | rfl | trivial⟩, hK _ ?_⟩
       clear hK)
    | refine wpOps_skip rfl ?_
    | refine quiet_skip rfl ?_
    | refine quiet_nil ?_
    | (refine wpOps_nil ?_
       simp only [thenA, inBlockA, noGotoA]
       first
         | ((first | refine hS _ _ ?_ | (clear hS; refine hS _ _ ?_) | (clear hS; clear hS; refine hS _ _ ?_) | (clear hS; clear hS; clear hS; refine hS _ _ ?_) | (clear hS; clear hS; clear hS; clear hS; refine hS _ _ ?_)); clear hS)
         | skip)
    | (refine wpC_label ?_
       simp only [thenA]
       (first | refine hS _ _ ?_ | (clear hS; refine hS _ _ ?_) | (clear hS; clear hS; refine hS _ _ ?_) | (clear hS; clear hS; clear hS; refine hS _ _ ?_) | (clear hS; clear hS; clear hS; clear hS; refine hS _ _ ?_))
       clear hS)
    | refine wpC_seq fun K hS => ?_
    | refine wpC_region rfl ?_
    | refine wpC_block ?_
    | refine wpC_scope ?_
    | (refine wpC_ret ?_
       simp (disch := omega) only [thenA, inBlockA, noGotoA, endsA, ressV, resV, oneV, putT, BB, ↓updA, ↓reduceIte, Nat.reduceLT, Nat.reduceEqDiff]))
  refine wpOps_cons rfl fun K hK => ⟨_, z25, fun f hf => hK _ _ ?_⟩
  refine wpOps_cons rfl fun K hK => ?_
  simp (disch := omega) only [wpOp, pval, putT, owned, initT, IntKind.bits, tab, callV, wpBuiltin, builtinV, BB, ↓updA, ↓reduceIte, Int.reduceLT, Int.reduceNeg, Int.reduceLE, Int.reduceToNat, Nat.reduceLT, Nat.reduceEqDiff, Nat.reduceAdd, Nat.reduceMul, Nat.reduceSub, Nat.reduceLeDiff, Nat.reduceBEq]
  refine ⟨_, store_agg (b := f) (upd_eq _ _ _) ty25 (by rw [nR_len]; exact twiceOf_len _) (nR_ones _ _) rfl, hK _ _ ?_⟩
  rw [upd_upd]
  have hX1 : hle X2 (upd X2 f (some (.row (nR .u8 (twiceOf (twiceOf (hA ++ hB) ++ twiceOf (hC ++ hC))))))) := hle_upd (hle_refl _) hf
  have xf : upd X2 f (some (.row (nR .u8 (twiceOf (twiceOf (hA ++ hB) ++ twiceOf (hC ++ hC)))))) f = some (.row (nR .u8 (twiceOf (twiceOf (hA ++ hB) ++ twiceOf (hC ++ hC))))) := upd_eq _ _ _
  generalize upd X2 f (some (.row (nR .u8 (twiceOf (twiceOf (hA ++ hB) ++ twiceOf (hC ++ hC)))))) = X3 at *
  replace xa := hX1 _ _ xa
  replace xb := hX1 _ _ xb
  replace xc := hX1 _ _ xc
  replace xd := hX1 _ _ xd
  replace xe := hX1 _ _ xe
  replace hHX := hle_trans hHX hX1
  clear hX1 hf la lb lc X2
  have la := load_agg (P := Try.prog) (t := 25) xa ty25 rfl
  have lb := load_agg (P := Try.prog) (t := 25) xb ty25 rfl
  have lc := load_agg (P := Try.prog) (t := 25) xc ty25 rfl
  have ld := load_agg (P := Try.prog) (t := 25) xd ty25 rfl
  have le := load_agg (P := Try.prog) (t := 25) xe ty25 (by rw [nR_len]; exact twiceOf_len _)
  have lf := load_agg (P := Try.prog) (t := 25) xf ty25 (by rw [nR_len]; exact twiceOf_len _)
  repeat (first
    | ((first | refine wpOps_cons rfl fun K hK => ?_ | refine quiet_cons rfl fun K hK => ?_)
       simp (disch := omega) only [wpOp, pval, putT, owned, initT, IntKind.bits, tab, callV, wpBuiltin, builtinV, BB, ↓updA, ↓reduceIte, Int.reduceLT, Int.reduceNeg, Int.reduceLE, Int.reduceToNat, Nat.reduceLT, Nat.reduceEqDiff, Nat.reduceAdd, Nat.reduceMul, Nat.reduceSub, Nat.reduceLeDiff, Nat.reduceBEq]
       first
         | refine hK _ _ ?_
         | refine ⟨_, ⟨rfl, by first | rfl | trivial⟩, hK _ ?_⟩
         | refine ⟨_, ⟨_, _, rfl, by decide, by decide, rfl, by first | rfl | trivial⟩, hK _ ?_⟩
       clear hK)
    | refine wpOps_skip rfl ?_
    | refine quiet_skip rfl ?_
    | refine quiet_nil ?_
    | (refine wpOps_nil ?_
       simp only [thenA, inBlockA, noGotoA]
       first
         | ((first | refine hS _ _ ?_ | (clear hS; refine hS _ _ ?_) | (clear hS; clear hS; refine hS _ _ ?_) | (clear hS; clear hS; clear hS; refine hS _ _ ?_) | (clear hS; clear hS; clear hS; clear hS; refine hS _ _ ?_)); clear hS)
         | skip)
    | (refine wpC_label ?_
       simp only [thenA]
       (first | refine hS _ _ ?_ | (clear hS; refine hS _ _ ?_) | (clear hS; clear hS; refine hS _ _ ?_) | (clear hS; clear hS; clear hS; refine hS _ _ ?_) | (clear hS; clear hS; clear hS; clear hS; refine hS _ _ ?_))
       clear hS)
    | refine wpC_seq fun K hS => ?_
    | refine wpC_region rfl ?_
    | refine wpC_block ?_
    | refine wpC_scope ?_
    | (refine wpC_ret ?_
       simp (disch := omega) only [thenA, inBlockA, noGotoA, endsA, ressV, resV, oneV, putT, BB, ↓updA, ↓reduceIte, Nat.reduceLT, Nat.reduceEqDiff]))
  refine wpC_cut (F := fun t' => t' 1 = .ptr a 0 ∧ t' 2 = .ptr b 0 ∧ t' 3 = .ptr c 0 ∧ t' 4 = .ptr d 0 ∧ t' 5 = vN .i64 0 ∧ t' 6 = .ptr e 0 ∧ t' 7 = vN .i64 0 ∧ t' 8 = .ptr f 0 ∧ t' 9 = vN .i64 0) ⟨?_, ?_, ?_, ?_, ?_, ?_, ?_, ?_, ?_⟩ ?_
  · simp (disch := omega) only [wpOp, pval, putT, owned, initT, IntKind.bits, tab, callV, wpBuiltin, builtinV, BB, ↓updA, ↓reduceIte, Int.reduceLT, Int.reduceNeg, Int.reduceLE, Int.reduceToNat, Nat.reduceLT, Nat.reduceEqDiff, Nat.reduceAdd, Nat.reduceMul, Nat.reduceSub, Nat.reduceLeDiff, Nat.reduceBEq]
  · simp (disch := omega) only [wpOp, pval, putT, owned, initT, IntKind.bits, tab, callV, wpBuiltin, builtinV, BB, ↓updA, ↓reduceIte, Int.reduceLT, Int.reduceNeg, Int.reduceLE, Int.reduceToNat, Nat.reduceLT, Nat.reduceEqDiff, Nat.reduceAdd, Nat.reduceMul, Nat.reduceSub, Nat.reduceLeDiff, Nat.reduceBEq]
  · simp (disch := omega) only [wpOp, pval, putT, owned, initT, IntKind.bits, tab, callV, wpBuiltin, builtinV, BB, ↓updA, ↓reduceIte, Int.reduceLT, Int.reduceNeg, Int.reduceLE, Int.reduceToNat, Nat.reduceLT, Nat.reduceEqDiff, Nat.reduceAdd, Nat.reduceMul, Nat.reduceSub, Nat.reduceLeDiff, Nat.reduceBEq]
  · simp (disch := omega) only [wpOp, pval, putT, owned, initT, IntKind.bits, tab, callV, wpBuiltin, builtinV, BB, ↓updA, ↓reduceIte, Int.reduceLT, Int.reduceNeg, Int.reduceLE, Int.reduceToNat, Nat.reduceLT, Nat.reduceEqDiff, Nat.reduceAdd, Nat.reduceMul, Nat.reduceSub, Nat.reduceLeDiff, Nat.reduceBEq]
  · simp (disch := omega) only [wpOp, pval, putT, owned, initT, IntKind.bits, tab, callV, wpBuiltin, builtinV, BB, ↓updA, ↓reduceIte, Int.reduceLT, Int.reduceNeg, Int.reduceLE, Int.reduceToNat, Nat.reduceLT, Nat.reduceEqDiff, Nat.reduceAdd, Nat.reduceMul, Nat.reduceSub, Nat.reduceLeDiff, Nat.reduceBEq]
  · simp (disch := omega) only [wpOp, pval, putT, owned, initT, IntKind.bits, tab, callV, wpBuiltin, builtinV, BB, ↓updA, ↓reduceIte, Int.reduceLT, Int.reduceNeg, Int.reduceLE, Int.reduceToNat, Nat.reduceLT, Nat.reduceEqDiff, Nat.reduceAdd, Nat.reduceMul, Nat.reduceSub, Nat.reduceLeDiff, Nat.reduceBEq]
  · simp (disch := omega) only [wpOp, pval, putT, owned, initT, IntKind.bits, tab, callV, wpBuiltin, builtinV, BB, ↓updA, ↓reduceIte, Int.reduceLT, Int.reduceNeg, Int.reduceLE, Int.reduceToNat, Nat.reduceLT, Nat.reduceEqDiff, Nat.reduceAdd, Nat.reduceMul, Nat.reduceSub, Nat.reduceLeDiff, Nat.reduceBEq]
  · simp (disch := omega) only [wpOp, pval, putT, owned, initT, IntKind.bits, tab, callV, wpBuiltin, builtinV, BB, ↓updA, ↓reduceIte, Int.reduceLT, Int.reduceNeg, Int.reduceLE, Int.reduceToNat, Nat.reduceLT, Nat.reduceEqDiff, Nat.reduceAdd, Nat.reduceMul, Nat.reduceSub, Nat.reduceLeDiff, Nat.reduceBEq]
  · simp (disch := omega) only [wpOp, pval, putT, owned, initT, IntKind.bits, tab, callV, wpBuiltin, builtinV, BB, ↓updA, ↓reduceIte, Int.reduceLT, Int.reduceNeg, Int.reduceLE, Int.reduceToNat, Nat.reduceLT, Nat.reduceEqDiff, Nat.reduceAdd, Nat.reduceMul, Nat.reduceSub, Nat.reduceLeDiff, Nat.reduceBEq]
  rintro t1 ⟨q1, q2, q3, q4, q5, q6, q7, q8, q9⟩
  have hne : decide (twiceOf (hA ++ hB) ≠ hA) = true := by
    refine decide_eq_true fun h => ?_
    have := hAB_ne
    rw [h] at this
    simp at this
  have o1 := okH_twice (hA ++ hB)
  have o2 := okH_twice (hC ++ hC)
  have o3 := okH_twice (twiceOf (hA ++ hB) ++ twiceOf (hC ++ hC))
  generalize hw1 : twiceOf (hA ++ hB) = w1 at *
  generalize hw2 : twiceOf (hC ++ hC) = w2 at *
  generalize hw3 : twiceOf (w1 ++ w2) = w3 at *
  have e1 := eq25 hA_ok hA_ok
  have e2 := eq25 o1 o1
  have e3 := eq25 o3 o3
  have e4 := ne25 o1 hA_ok
  rw [hne] at e4
  simp only [decide_true] at e1 e2 e3
  refine wpC_draw 38 (by kernel_rfl) rfl rfl ?_
  repeat (first
    | ((first | refine wpOps_cons rfl fun K hK => ?_ | refine quiet_cons rfl fun K hK => ?_)
       simp (disch := omega) only [wpOp, pval, putT, owned, initT, IntKind.bits, tab, callV, wpBuiltin, builtinV, BB, ↓updA, ↓reduceIte, Int.reduceLT, Int.reduceNeg, Int.reduceLE, Int.reduceToNat, Nat.reduceLT, Nat.reduceEqDiff, Nat.reduceAdd, Nat.reduceMul, Nat.reduceSub, Nat.reduceLeDiff, Nat.reduceBEq, q1, q2, q3, q4, q5, q6, q7, q8, q9, la, lb, lc, ld, le, lf, wpBin_A, e1, e2, eq_self, decide_true, hw1, hw2]
       first
         | refine hK _ _ ?_
         | refine ⟨_, ⟨rfl, by first | rfl | trivial⟩, hK _ ?_⟩
         | refine ⟨_, ⟨_, _, rfl, by decide, by decide, rfl, by first | rfl | trivial⟩, hK _ ?_⟩
       clear hK)
    | refine wpOps_skip rfl ?_
    | refine quiet_skip rfl ?_
    | refine quiet_nil ?_
    | (refine wpOps_nil ?_
       simp only [thenA, inBlockA, noGotoA]
       first
         | ((first | refine hS _ _ ?_ | (clear hS; refine hS _ _ ?_) | (clear hS; clear hS; refine hS _ _ ?_) | (clear hS; clear hS; clear hS; refine hS _ _ ?_) | (clear hS; clear hS; clear hS; clear hS; refine hS _ _ ?_)); clear hS)
         | skip)
    | (refine wpC_label ?_
       simp only [thenA]
       (first | refine hS _ _ ?_ | (clear hS; refine hS _ _ ?_) | (clear hS; clear hS; refine hS _ _ ?_) | (clear hS; clear hS; clear hS; refine hS _ _ ?_) | (clear hS; clear hS; clear hS; clear hS; refine hS _ _ ?_))
       clear hS)
    | refine wpC_seq fun K hS => ?_
    | refine wpC_region rfl ?_
    | refine wpC_block ?_
    | refine wpC_scope ?_
    | (refine wpC_ret ?_
       simp (disch := omega) only [thenA, inBlockA, noGotoA, endsA, ressV, resV, oneV, putT, BB, ↓updA, ↓reduceIte, Nat.reduceLT, Nat.reduceEqDiff, q1, q2, q3, q4, q5, q6, q7, q8, q9, la, lb, lc, ld, le, lf, wpBin_A, e1, e2, eq_self, decide_true, hw1, hw2]))
  refine quiet_cons rfl fun K hK => ⟨.agg (nR .u8 w3), ⟨w1, w2, ?_, o1.1, o2.1, ?_⟩, hK _ ?_⟩
  · simp (disch := omega) only [wpOp, pval, putT, owned, initT, IntKind.bits, tab, callV, wpBuiltin, builtinV, BB, ↓updA, ↓reduceIte, Int.reduceLT, Int.reduceNeg, Int.reduceLE, Int.reduceToNat, Nat.reduceLT, Nat.reduceEqDiff, Nat.reduceAdd, Nat.reduceMul, Nat.reduceSub, Nat.reduceLeDiff, Nat.reduceBEq, hw1, hw2]
  · rw [hw3]
    exact ⟨rfl, rfl⟩
  repeat (first
    | ((first | refine wpOps_cons rfl fun K hK => ?_ | refine quiet_cons rfl fun K hK => ?_)
       simp (disch := omega) only [wpOp, pval, putT, owned, initT, IntKind.bits, tab, callV, wpBuiltin, builtinV, BB, ↓updA, ↓reduceIte, Int.reduceLT, Int.reduceNeg, Int.reduceLE, Int.reduceToNat, Nat.reduceLT, Nat.reduceEqDiff, Nat.reduceAdd, Nat.reduceMul, Nat.reduceSub, Nat.reduceLeDiff, Nat.reduceBEq, q1, q2, q3, q4, q5, q6, q7, q8, q9, la, lb, lc, ld, le, lf, wpBin_A, e3, e4, eq_self, decide_true]
       first
         | refine hK _ _ ?_
         | refine ⟨_, ⟨rfl, by first | rfl | trivial⟩, hK _ ?_⟩
         | refine ⟨_, ⟨_, _, rfl, by decide, by decide, rfl, by first | rfl | trivial⟩, hK _ ?_⟩
       clear hK)
    | refine wpOps_skip rfl ?_
    | refine quiet_skip rfl ?_
    | refine quiet_nil ?_
    | (refine wpOps_nil ?_
       simp only [thenA, inBlockA, noGotoA]
       first
         | ((first | refine hS _ _ ?_ | (clear hS; refine hS _ _ ?_) | (clear hS; clear hS; refine hS _ _ ?_) | (clear hS; clear hS; clear hS; refine hS _ _ ?_) | (clear hS; clear hS; clear hS; clear hS; refine hS _ _ ?_)); clear hS)
         | skip)
    | (refine wpC_label ?_
       simp only [thenA]
       (first | refine hS _ _ ?_ | (clear hS; refine hS _ _ ?_) | (clear hS; clear hS; refine hS _ _ ?_) | (clear hS; clear hS; clear hS; refine hS _ _ ?_) | (clear hS; clear hS; clear hS; clear hS; refine hS _ _ ?_))
       clear hS)
    | refine wpC_seq fun K hS => ?_
    | refine wpC_region rfl ?_
    | refine wpC_block ?_
    | refine wpC_scope ?_
    | (refine wpC_ret ?_
       simp (disch := omega) only [thenA, inBlockA, noGotoA, endsA, ressV, resV, oneV, putT, BB, ↓updA, ↓reduceIte, Nat.reduceLT, Nat.reduceEqDiff, q1, q2, q3, q4, q5, q6, q7, q8, q9, la, lb, lc, ld, le, lf, wpBin_A, e3, e4, eq_self, decide_true]))
  exact ⟨_, rfl, [], H, hHX, hQ⟩
end Go.Av
