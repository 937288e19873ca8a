/-
  Package sha: New; none.
-/
import Derived.Test.YtgjlmmjdofceiaaSh3
set_option linter.unusedSimpArgs false
set_option linter.unusedVariables false
namespace Go.Av
open Go.RowKit Go.Proofs

/-- The cells of a Sum. -/
def sumR (st : List Nat) (rest : V) (many : Nat) : List V := nR .u32 st ++ [rest, vN .u64 many]
theorem sumR_len {st : List Nat} (h : st.length = 8) (rest : V) (many : Nat) : (sumR st rest many).length = 10 := by simp [sumR, nR, h]

/-- Bytes, by value. -/
def isB (v : V) (bs : List Nat) : Prop := (v = .nils ∧ bs = []) ∨ ∃ full, v = .sl 1 (nE .u8 bs) full
theorem isB_view {v : V} {bs : List Nat} (h : isB v bs) (H : Hp) : view H 1 v = some (nE .u8 bs) := by
  rcases h with ⟨rfl, rfl⟩ | ⟨full, rfl⟩
  · rfl
  · simp [view]
theorem isB_one {v : V} {bs : List Nat} (h : isB v bs) : one v = true ∧ cellsV v = some [v] := by
  rcases h with ⟨rfl, rfl⟩ | ⟨full, rfl⟩ <;> exact ⟨rfl, rfl⟩

theorem bu127 : buildV Try.prog 127 [(0, .agg (nR .u32 sq0))] = some (.agg (sumR sq0 .nils 0)) := by kernel_rfl

def s67 : Spec := fun _ args H Q => args = [] ∧ ∀ b, H b = none → Q (.ptr b 0) (upd H b (some (.row (sumR sq0 .nils 0))))

theorem snd67 : Sound Try.prog 67 s67 := by
  refine sound_of_body pm (tab_sound [(80, s80)] (by simp [snd80])) [] Try.func67 rfl (by kernel_rfl) ?_
  rintro Y args H Q ⟨rfl, hQ⟩
  refine ⟨by simp [Try.f67], ?_⟩
  show wpC Try.prog (tab [(80, s80)]) Y [] 4 _ true (endsA Try.prog [.tmp 0] Q) _ H
  repeat (first
    | ((first | refine wpOps_cons rfl fun K hK => ?_ | refine quiet_cons rfl fun K hK => ?_)
       simp (disch := omega) only [wpOp, pval, putT, owned, initT, IntKind.bits, tab, callV, wpBuiltin, builtinV, BB, ↓updA, ↓reduceIte, Int.reduceLT, Int.reduceNeg, Int.reduceLE, Int.reduceToNat, Nat.reduceLT, Nat.reduceEqDiff, Nat.reduceAdd, Nat.reduceMul, Nat.reduceSub, Nat.reduceLeDiff, Nat.reduceBEq]
       first
         | refine hK _ _ ?_
         | refine ⟨_, ⟨rfl, by first | rfl | trivial⟩, hK _ ?_⟩
         | refine ⟨_, ⟨_, _, rfl, by decide, by decide, rfl, by first | rfl | trivial⟩, hK _ ?_⟩
       clear hK)
    | refine wpOps_skip rfl ?_
    | refine quiet_skip rfl ?_
    | refine quiet_nil ?_
    | (refine wpOps_nil ?_
       simp only [thenA, inBlockA, noGotoA]
       first
         | ((first | refine hS _ _ ?_ | (clear hS; refine hS _ _ ?_) | (clear hS; clear hS; refine hS _ _ ?_) | (clear hS; clear hS; clear hS; refine hS _ _ ?_) | (clear hS; clear hS; clear hS; clear hS; refine hS _ _ ?_)); clear hS)
         | skip)
    | (refine wpC_label ?_
       simp only [thenA]
       (first | refine hS _ _ ?_ | (clear hS; refine hS _ _ ?_) | (clear hS; clear hS; refine hS _ _ ?_) | (clear hS; clear hS; clear hS; refine hS _ _ ?_) | (clear hS; clear hS; clear hS; clear hS; refine hS _ _ ?_))
       clear hS)
    | refine wpC_seq fun K hS => ?_
    | refine wpC_region rfl ?_
    | refine wpC_block ?_
    | refine wpC_scope ?_
    | (refine wpC_ret ?_
       simp (disch := omega) only [thenA, inBlockA, noGotoA, endsA, ressV, resV, oneV, putT, BB, ↓updA, ↓reduceIte, Nat.reduceLT, Nat.reduceEqDiff]))
  refine wpOps_cons rfl fun K hK => ⟨rfl, hK _ _ ?_⟩
  repeat (first
    | ((first | refine wpOps_cons rfl fun K hK => ?_ | refine quiet_cons rfl fun K hK => ?_)
       simp (disch := omega) only [wpOp, pval, putT, owned, initT, IntKind.bits, tab, callV, wpBuiltin, builtinV, BB, ↓updA, ↓reduceIte, Int.reduceLT, Int.reduceNeg, Int.reduceLE, Int.reduceToNat, Nat.reduceLT, Nat.reduceEqDiff, Nat.reduceAdd, Nat.reduceMul, Nat.reduceSub, Nat.reduceLeDiff, Nat.reduceBEq, bu127]
       first
         | refine hK _ _ ?_
         | refine ⟨_, ⟨rfl, by first | rfl | trivial⟩, hK _ ?_⟩
         | refine ⟨_, ⟨_, _, rfl, by decide, by decide, rfl, by first | rfl | trivial⟩, hK _ ?_⟩
       clear hK)
    | refine wpOps_skip rfl ?_
    | refine quiet_skip rfl ?_
    | refine quiet_nil ?_
    | (refine wpOps_nil ?_
       simp only [thenA, inBlockA, noGotoA]
       first
         | ((first | refine hS _ _ ?_ | (clear hS; refine hS _ _ ?_) | (clear hS; clear hS; refine hS _ _ ?_) | (clear hS; clear hS; clear hS; refine hS _ _ ?_) | (clear hS; clear hS; clear hS; clear hS; refine hS _ _ ?_)); clear hS)
         | skip)
    | (refine wpC_label ?_
       simp only [thenA]
       (first | refine hS _ _ ?_ | (clear hS; refine hS _ _ ?_) | (clear hS; clear hS; refine hS _ _ ?_) | (clear hS; clear hS; clear hS; refine hS _ _ ?_) | (clear hS; clear hS; clear hS; clear hS; refine hS _ _ ?_))
       clear hS)
    | refine wpC_seq fun K hS => ?_
    | refine wpC_region rfl ?_
    | refine wpC_block ?_
    | refine wpC_scope ?_
    | (refine wpC_ret ?_
       simp (disch := omega) only [thenA, inBlockA, noGotoA, endsA, ressV, resV, oneV, putT, BB, ↓updA, ↓reduceIte, Nat.reduceLT, Nat.reduceEqDiff, bu127]))
  refine wpOps_cons rfl fun K hK => ⟨sumR sq0 .nils 0, ?_, fun b hb => hK _ _ ?_⟩
  · simp (disch := omega) only [wpOp, pval, putT, owned, initT, IntKind.bits, tab, callV, wpBuiltin, builtinV, BB, ↓updA, ↓reduceIte, Int.reduceLT, Int.reduceNeg, Int.reduceLE, Int.reduceToNat, Nat.reduceLT, Nat.reduceEqDiff, Nat.reduceAdd, Nat.reduceMul, Nat.reduceSub, Nat.reduceLeDiff, Nat.reduceBEq, cellsV]
  repeat (first
    | ((first | refine wpOps_cons rfl fun K hK => ?_ | refine quiet_cons rfl fun K hK => ?_)
       simp (disch := omega) only [wpOp, pval, putT, owned, initT, IntKind.bits, tab, callV, wpBuiltin, builtinV, BB, ↓updA, ↓reduceIte, Int.reduceLT, Int.reduceNeg, Int.reduceLE, Int.reduceToNat, Nat.reduceLT, Nat.reduceEqDiff, Nat.reduceAdd, Nat.reduceMul, Nat.reduceSub, Nat.reduceLeDiff, Nat.reduceBEq]
       first
         | refine hK _ _ ?_
         | refine ⟨_, ⟨rfl, by first | rfl | trivial⟩, hK _ ?_⟩
         | refine ⟨_, ⟨_, _, rfl, by decide, by decide, rfl, by first | rfl | trivial⟩, hK _ ?_⟩
       clear hK)
    | refine wpOps_skip rfl ?_
    | refine quiet_skip rfl ?_
    | refine quiet_nil ?_
    | (refine wpOps_nil ?_
       simp only [thenA, inBlockA, noGotoA]
       first
         | ((first | refine hS _ _ ?_ | (clear hS; refine hS _ _ ?_) | (clear hS; clear hS; refine hS _ _ ?_) | (clear hS; clear hS; clear hS; refine hS _ _ ?_) | (clear hS; clear hS; clear hS; clear hS; refine hS _ _ ?_)); clear hS)
         | skip)
    | (refine wpC_label ?_
       simp only [thenA]
       (first | refine hS _ _ ?_ | (clear hS; refine hS _ _ ?_) | (clear hS; clear hS; refine hS _ _ ?_) | (clear hS; clear hS; clear hS; refine hS _ _ ?_) | (clear hS; clear hS; clear hS; clear hS; refine hS _ _ ?_))
       clear hS)
    | refine wpC_seq fun K hS => ?_
    | refine wpC_region rfl ?_
    | refine wpC_block ?_
    | refine wpC_scope ?_
    | (refine wpC_ret ?_
       simp (disch := omega) only [thenA, inBlockA, noGotoA, endsA, ressV, resV, oneV, putT, BB, ↓updA, ↓reduceIte, Nat.reduceLT, Nat.reduceEqDiff]))
  exact ⟨_, rfl, [], _, hle_refl _, hQ b hb⟩

theorem eqC_nR (k : IntKind) : ∀ (l m : List Nat), eqC (nR k l) (nR k m) = decide (l = m)
  | [], [] => rfl
  | [], _ :: _ => by simp [nR, eqC]
  | _ :: _, [] => by simp [nR, eqC]
  | x :: l, y :: m => by
    have h := eqC_nR k l m
    simp only [nR] at h
    simp only [nR, List.map_cons, eqC, h, cellEq, vN]
    by_cases hx : x = y
    · subst hx; simp
    · have : ¬ (x : Int) = y := by omega
      simp [hx, this]

theorem mapM_isSome {α β : Type} (f : α → Option β) : ∀ (L : List α), (∀ i ∈ L, (f i).isSome = true) → (L.mapM f).isSome = true
  | [], _ => rfl
  | a :: L, h => by
    obtain ⟨x, hx⟩ := Option.isSome_iff_exists.1 (h a (by simp))
    obtain ⟨y, hy⟩ := Option.isSome_iff_exists.1 (mapM_isSome f L (fun i hi => h i (by simp [hi])))
    simp [List.mapM_cons, hx, hy]

theorem toVals_nR (k : IntKind) : ∀ l : List Nat, toVals (nR k l) = some (l.map fun x : Nat => Value.int k x)
  | [] => rfl
  | x :: l => by
    have h := toVals_nR k l
    simp only [nR] at h
    simp only [nR, List.map_cons, toVals, h, toVal, vN]

/-- Arrays of numbers may be held against each other. -/
theorem lits_nR {P : Program} {t e : TypeId} {n : Nat} {k : IntKind} (ht : P.underlying t = some (.array n e)) (he : P.underlying e = some (.int k)) (hct : P.cellsOf t = n) (hce : P.cellsOf e = 1) {l : List Nat} (hl : l.length = n)
    (hw : ∀ x ∈ l, (Lit.int k (x : Nat)).wf = true) : (litsV P t (nR k l)).isSome = true := by
  simp only [litsV, toVals_nR, Option.bind_some]
  unfold Program.keyLits
  simp only [ht]
  rw [if_pos (by simp [hct, hl]), Option.isSome_map]
  refine mapM_isSome _ _ fun i hi => ?_
  have hi' : i < l.length := by rw [hl]; simpa using hi
  rw [hce, Nat.mul_one]
  have hd : ((l.map fun x : Nat => Value.int k x).drop i).take 1 = [Value.int k (l[i] : Nat)] := by
    rw [List.drop_eq_getElem_cons (by simpa using hi'), List.take_succ_cons, List.take_zero, List.getElem_map]
  rw [hd]
  unfold Program.keyLits
  simp only [he]
  rw [if_pos ⟨trivial, hw _ (List.getElem_mem hi')⟩]
  rfl

def lt32 (l : List Nat) : Prop := ∀ x ∈ l, x < 4294967296
def lt8 (l : List Nat) : Prop := ∀ x ∈ l, x < 256

theorem ag124 : aggEqT Try.prog 124 = true := by kernel_rfl
theorem un124 : Try.prog.underlying 124 = some (.array 8 44) := by kernel_rfl
theorem un44 : Try.prog.underlying 44 = some (.int .u32) := by kernel_rfl
theorem co124 : Try.prog.cellsOf 124 = 8 := by kernel_rfl
theorem co44 : Try.prog.cellsOf 44 = 1 := by kernel_rfl
theorem li124 (st : List Nat) (h : st.length = 8) (hb : lt32 st) : (litsV Try.prog 124 (nR .u32 st)).isSome = true :=
  lits_nR un124 un44 co124 co44 h fun x hx => by
    have := hb x hx
    simp only [Lit.wf, IntKind.min, IntKind.max, IntKind.signed, IntKind.bits]
    simp
    omega
theorem bu124 : buildV Try.prog 124 [] = some (.agg (nR .u32 (List.replicate 8 0))) := by kernel_rfl
theorem nk111 : nkT Try.prog 111 = some .p := by kernel_rfl

theorem eq124 {st : List Nat} (h : st.length = 8) (hb : lt32 st) : binV Try.prog .eql 124 (.agg (nR .u32 st)) (.agg (nR .u32 (List.replicate 8 0))) = some (.bool (decide (st = List.replicate 8 0))) := by
  simp only [binV, ag124, li124 st h hb, li124 (List.replicate 8 0) rfl (fun x hx => by rw [List.eq_of_mem_replicate hx]; omega), and_self, if_true, eqC_nR, eqop]

theorem fl127_0 : fldT Try.prog 127 0 = some (0, 124) := by kernel_rfl
theorem fl127_1 : fldT Try.prog 127 1 = some (8, 64) := by kernel_rfl
theorem fl127_2 : fldT Try.prog 127 2 = some (9, 91) := by kernel_rfl

def s81 : Spec := fun _ args H Q => ∃ b st rest many, args = [.ptr b 0] ∧ H b = some (.row (sumR st rest many)) ∧ st.length = 8 ∧ lt32 st ∧ Q (.bool (decide (st = List.replicate 8 0))) H

theorem sum_state {H : Hp} {b : Nat} {st : List Nat} {rest : V} {many : Nat} (hb : H b = some (.row (sumR st rest many))) (h8 : st.length = 8) : ((ptrCells H (.ptr b 0)).bind fun x => ldc (tyT Try.prog 124) x.1 x.2) = some (.agg (nR .u32 st)) := by
  simp only [ptrCells, hb, Option.bind_some, ty124, ldc]
  rw [if_pos (by rw [sumR_len h8]; omega), List.drop_zero, sumR, List.take_append_of_le_length (by rw [nR_len, h8]; omega), List.take_of_length_le (by rw [nR_len, h8]; omega)]

theorem snd81 : Sound Try.prog 81 s81 := by
  refine sound_of_body pm (tab_sound [] (by simp)) [] Try.func81 rfl (by kernel_rfl) ?_
  rintro Y args H Q ⟨b, st, rest, many, rfl, hb, h8, hl32, hQ⟩
  refine ⟨by simp [Try.f81], ?_⟩
  show wpC Try.prog (tab []) Y [] 13 _ true (endsA Try.prog [.tmp 2] Q) _ H
  have hl := sum_state hb h8
  repeat (first
    | ((first | refine wpOps_cons rfl fun K hK => ?_ | refine quiet_cons rfl fun K hK => ?_)
       simp (disch := omega) only [wpOp, pval, putT, owned, initT, IntKind.bits, tab, callV, wpBuiltin, builtinV, BB, ↓updA, ↓reduceIte, Int.reduceLT, Int.reduceNeg, Int.reduceLE, Int.reduceToNat, Nat.reduceLT, Nat.reduceEqDiff, Nat.reduceAdd, Nat.reduceMul, Nat.reduceSub, Nat.reduceLeDiff, Nat.reduceBEq]
       first
         | refine hK _ _ ?_
         | refine ⟨_, ⟨rfl, by first | rfl | trivial⟩, hK _ ?_⟩
         | refine ⟨_, ⟨_, _, rfl, by decide, by decide, rfl, by first | rfl | trivial⟩, hK _ ?_⟩
       clear hK)
    | refine wpOps_skip rfl ?_
    | refine quiet_skip rfl ?_
    | refine quiet_nil ?_
    | (refine wpOps_nil ?_
       simp only [thenA, inBlockA, noGotoA]
       first
         | ((first | refine hS _ _ ?_ | (clear hS; refine hS _ _ ?_) | (clear hS; clear hS; refine hS _ _ ?_) | (clear hS; clear hS; clear hS; refine hS _ _ ?_) | (clear hS; clear hS; clear hS; clear hS; refine hS _ _ ?_)); clear hS)
         | skip)
    | (refine wpC_label ?_
       simp only [thenA]
       (first | refine hS _ _ ?_ | (clear hS; refine hS _ _ ?_) | (clear hS; clear hS; refine hS _ _ ?_) | (clear hS; clear hS; clear hS; refine hS _ _ ?_) | (clear hS; clear hS; clear hS; clear hS; refine hS _ _ ?_))
       clear hS)
    | refine wpC_seq fun K hS => ?_
    | refine wpC_region rfl ?_
    | refine wpC_block ?_
    | refine wpC_scope ?_
    | (refine wpC_ret ?_
       simp (disch := omega) only [thenA, inBlockA, noGotoA, endsA, ressV, resV, oneV, putT, BB, ↓updA, ↓reduceIte, Nat.reduceLT, Nat.reduceEqDiff]))
  refine wpOps_cons rfl fun K hK => ⟨.bool false, ?_, hK _ _ ?_⟩
  · simp (disch := omega) only [wpOp, pval, putT, owned, initT, IntKind.bits, tab, callV, wpBuiltin, builtinV, BB, ↓updA, ↓reduceIte, Int.reduceLT, Int.reduceNeg, Int.reduceLE, Int.reduceToNat, Nat.reduceLT, Nat.reduceEqDiff, Nat.reduceAdd, Nat.reduceMul, Nat.reduceSub, Nat.reduceLeDiff, Nat.reduceBEq, binV, nk111, nkV, isNil, nilq, eqop]
    rfl
  repeat (first
    | ((first | refine wpOps_cons rfl fun K hK => ?_ | refine quiet_cons rfl fun K hK => ?_)
       simp (disch := omega) only [wpOp, pval, putT, owned, initT, IntKind.bits, tab, callV, wpBuiltin, builtinV, BB, ↓updA, ↓reduceIte, Int.reduceLT, Int.reduceNeg, Int.reduceLE, Int.reduceToNat, Nat.reduceLT, Nat.reduceEqDiff, Nat.reduceAdd, Nat.reduceMul, Nat.reduceSub, Nat.reduceLeDiff, Nat.reduceBEq, fl127_0, shiftP, hl, bu124, wpBin_A, eq124 h8 hl32]
       first
         | refine hK _ _ ?_
         | refine ⟨_, ⟨rfl, by first | rfl | trivial⟩, hK _ ?_⟩
         | refine ⟨_, ⟨_, _, rfl, by decide, by decide, rfl, by first | rfl | trivial⟩, hK _ ?_⟩
       clear hK)
    | refine wpOps_skip rfl ?_
    | refine quiet_skip rfl ?_
    | refine quiet_nil ?_
    | (refine wpOps_nil ?_
       simp only [thenA, inBlockA, noGotoA]
       first
         | ((first | refine hS _ _ ?_ | (clear hS; refine hS _ _ ?_) | (clear hS; clear hS; refine hS _ _ ?_) | (clear hS; clear hS; clear hS; refine hS _ _ ?_) | (clear hS; clear hS; clear hS; clear hS; refine hS _ _ ?_)); clear hS)
         | skip)
    | (refine wpC_label ?_
       simp only [thenA]
       (first | refine hS _ _ ?_ | (clear hS; refine hS _ _ ?_) | (clear hS; clear hS; refine hS _ _ ?_) | (clear hS; clear hS; clear hS; refine hS _ _ ?_) | (clear hS; clear hS; clear hS; clear hS; refine hS _ _ ?_))
       clear hS)
    | refine wpC_seq fun K hS => ?_
    | refine wpC_region rfl ?_
    | refine wpC_block ?_
    | refine wpC_scope ?_
    | (refine wpC_ret ?_
       simp (disch := omega) only [thenA, inBlockA, noGotoA, endsA, ressV, resV, oneV, putT, BB, ↓updA, ↓reduceIte, Nat.reduceLT, Nat.reduceEqDiff, fl127_0, shiftP, hl, bu124, wpBin_A, eq124 h8 hl32]))
  exact ⟨_, rfl, [], _, hle_refl _, hQ⟩

/-! ### slices.Clone of bytes -/
theorem nk64 : nkT Try.prog 64 = some .s := by kernel_rfl
theorem isS64 : isSliT Try.prog 64 = true := by kernel_rfl

/-- Anew, owned; or by value. -/
def s82 : Spec := fun _ args H Q => ∃ x bs, args = [x] ∧ view H 1 x = some (nE .u8 bs) ∧ bs.length ≤ 140737488355328 ∧
  ((bs = [] → ∀ v, v = .nils ∨ v = .sl 1 [] true → Q v H) ∧ (bs ≠ [] → ∀ b, H b = none → Q (.osl b 0 bs.length 1 false) (upd H b (some (.arr 1 (nE .u8 bs))))) ∨ (∀ v, isB v bs → Q v H))

theorem nk64_nils {Q : V → Hp → Prop} {H : Hp} {x : V} {es : List (List V)} (hv : view H 1 x = some es) (h1 : es = [] → Q (.bool true) H) (h2 : Q (.bool false) H) : wpBin Try.prog H .eql 64 x .nils Q := by
  unfold view at hv
  split at hv
  · cases hv
    exact ⟨.bool true, by simp [binV, nk64, nkV, isNil, nilq, eqop], h1 rfl⟩
  · rename_i sz es' full
    split at hv
    · cases hv
      cases es with
      | nil => exact ⟨isS64, .bool true, .bool false, rfl, rfl, h1 rfl, h2⟩
      | cons e es => exact ⟨.bool false, by simp [binV, nk64, nkV, isNil, nilq, eqop], h2⟩
    · cases hv
  · exact ⟨.bool false, by simp [binV, nk64, nkV, isNil, nilq, eqop], h2⟩
  · exact ⟨.bool false, by simp [binV, nk64, nkV, isNil, nilq, eqop], h2⟩
  · cases hv

theorem bs64 {S : Nat → Spec} {Y : YEnv} {H : Hp} {t : T} {Q : V → Hp → Prop} (h : Q (.sl 1 [] true) H) : wpOp Try.prog S Y false H (evT t) (.buildSlice 64 0 #[]) Q := ⟨1, [], [], by kernel_rfl, by omega, rfl, h⟩

theorem freeze_end {k : IntKind} {bs : List Nat} {b : Nat} {full : Bool} {H : Hp} {Q : V → Hp → Prop} (hb : H b = none) (hQ : Q (.sl 1 (nE k bs) full) H) : sealA [b] (.osl b 0 bs.length 1 full) (upd H b (some (.arr 1 (nE k bs)))) Q := by
  refine ⟨_, upd_eq _ _ _, rfl, H, ?_, ?_⟩
  · rw [upd_upd]
    exact hle_upd (hle_refl H) hb
  · simp only [subV, if_true, nE_len, Nat.zero_add, Nat.le_refl, and_self, List.drop_zero]
    rw [List.take_of_length_le (by rw [nE_len]; omega)]
    exact hQ

theorem snd82 : Sound Try.prog 82 s82 := by
  refine sound_of_body pm (tab_sound [] (by simp)) [] Try.func82 rfl (by kernel_rfl) ?_
  rintro Y args H Q ⟨x, bs, rfl, hv, hle, hQ⟩
  refine ⟨by simp [Try.f82], ?_⟩
  show wpC Try.prog (tab []) Y [] 8 _ true (endsA Try.prog [.tmp 2] Q) _ H
  have he : bs = [] → ∀ v, v = .nils ∨ v = .sl 1 [] true → Q v H := fun e => by
    subst e
    rcases hQ with h | h
    · exact h.1 rfl
    · exact fun v hv => h v (hv.imp (fun e => ⟨e, rfl⟩) (fun e => ⟨true, e⟩))
  repeat (first
    | ((first | refine wpOps_cons rfl fun K hK => ?_ | refine quiet_cons rfl fun K hK => ?_)
       simp (disch := omega) only [wpOp, pval, putT, owned, initT, IntKind.bits, tab, callV, wpBuiltin, builtinV, BB, ↓updA, ↓reduceIte, Int.reduceLT, Int.reduceNeg, Int.reduceLE, Int.reduceToNat, Nat.reduceLT, Nat.reduceEqDiff, Nat.reduceAdd, Nat.reduceMul, Nat.reduceSub, Nat.reduceLeDiff, Nat.reduceBEq]
       first
         | refine hK _ _ ?_
         | refine ⟨_, ⟨rfl, by first | rfl | trivial⟩, hK _ ?_⟩
         | refine ⟨_, ⟨_, _, rfl, by decide, by decide, rfl, by first | rfl | trivial⟩, hK _ ?_⟩
       clear hK)
    | refine wpOps_skip rfl ?_
    | refine quiet_skip rfl ?_
    | refine quiet_nil ?_
    | (refine wpOps_nil ?_
       simp only [thenA, inBlockA, noGotoA]
       first
         | ((first | refine hS _ _ ?_ | (clear hS; refine hS _ _ ?_) | (clear hS; clear hS; refine hS _ _ ?_) | (clear hS; clear hS; clear hS; refine hS _ _ ?_) | (clear hS; clear hS; clear hS; clear hS; refine hS _ _ ?_)); clear hS)
         | skip)
    | (refine wpC_label ?_
       simp only [thenA]
       (first | refine hS _ _ ?_ | (clear hS; refine hS _ _ ?_) | (clear hS; clear hS; refine hS _ _ ?_) | (clear hS; clear hS; clear hS; refine hS _ _ ?_) | (clear hS; clear hS; clear hS; clear hS; refine hS _ _ ?_))
       clear hS)
    | refine wpC_seq fun K hS => ?_
    | refine wpC_region rfl ?_
    | refine wpC_block ?_
    | refine wpC_scope ?_
    | (refine wpC_ret ?_
       simp (disch := omega) only [thenA, inBlockA, noGotoA, endsA, ressV, resV, oneV, putT, BB, ↓updA, ↓reduceIte, Nat.reduceLT, Nat.reduceEqDiff]))
  refine wpOps_cons rfl fun K hK => nk64_nils (x := x) hv (fun hn => hK _ _ ?_) (hK _ _ ?_)
  · repeat (first
    | ((first | refine wpOps_cons rfl fun K hK => ?_ | refine quiet_cons rfl fun K hK => ?_)
       simp (disch := omega) only [wpOp, pval, putT, owned, initT, IntKind.bits, tab, callV, wpBuiltin, builtinV, BB, ↓updA, ↓reduceIte, Int.reduceLT, Int.reduceNeg, Int.reduceLE, Int.reduceToNat, Nat.reduceLT, Nat.reduceEqDiff, Nat.reduceAdd, Nat.reduceMul, Nat.reduceSub, Nat.reduceLeDiff, Nat.reduceBEq]
       first
         | refine hK _ _ ?_
         | refine ⟨_, ⟨rfl, by first | rfl | trivial⟩, hK _ ?_⟩
         | refine ⟨_, ⟨_, _, rfl, by decide, by decide, rfl, by first | rfl | trivial⟩, hK _ ?_⟩
       clear hK)
    | refine wpOps_skip rfl ?_
    | refine quiet_skip rfl ?_
    | refine quiet_nil ?_
    | (refine wpOps_nil ?_
       simp only [thenA, inBlockA, noGotoA]
       first
         | ((first | refine hS _ _ ?_ | (clear hS; refine hS _ _ ?_) | (clear hS; clear hS; refine hS _ _ ?_) | (clear hS; clear hS; clear hS; refine hS _ _ ?_) | (clear hS; clear hS; clear hS; clear hS; refine hS _ _ ?_)); clear hS)
         | skip)
    | (refine wpC_label ?_
       simp only [thenA]
       (first | refine hS _ _ ?_ | (clear hS; refine hS _ _ ?_) | (clear hS; clear hS; refine hS _ _ ?_) | (clear hS; clear hS; clear hS; refine hS _ _ ?_) | (clear hS; clear hS; clear hS; clear hS; refine hS _ _ ?_))
       clear hS)
    | refine wpC_seq fun K hS => ?_
    | refine wpC_region rfl ?_
    | refine wpC_block ?_
    | refine wpC_scope ?_
    | (refine wpC_ret ?_
       simp (disch := omega) only [thenA, inBlockA, noGotoA, endsA, ressV, resV, oneV, putT, BB, ↓updA, ↓reduceIte, Nat.reduceLT, Nat.reduceEqDiff]))
    refine wpC_true rfl ?_
    repeat (first
    | ((first | refine wpOps_cons rfl fun K hK => ?_ | refine quiet_cons rfl fun K hK => ?_)
       simp (disch := omega) only [wpOp, pval, putT, owned, initT, IntKind.bits, tab, callV, wpBuiltin, builtinV, BB, ↓updA, ↓reduceIte, Int.reduceLT, Int.reduceNeg, Int.reduceLE, Int.reduceToNat, Nat.reduceLT, Nat.reduceEqDiff, Nat.reduceAdd, Nat.reduceMul, Nat.reduceSub, Nat.reduceLeDiff, Nat.reduceBEq]
       first
         | refine hK _ _ ?_
         | refine ⟨_, ⟨rfl, by first | rfl | trivial⟩, hK _ ?_⟩
         | refine ⟨_, ⟨_, _, rfl, by decide, by decide, rfl, by first | rfl | trivial⟩, hK _ ?_⟩
       clear hK)
    | refine wpOps_skip rfl ?_
    | refine quiet_skip rfl ?_
    | refine quiet_nil ?_
    | (refine wpOps_nil ?_
       simp only [thenA, inBlockA, noGotoA]
       first
         | ((first | refine hS _ _ ?_ | (clear hS; refine hS _ _ ?_) | (clear hS; clear hS; refine hS _ _ ?_) | (clear hS; clear hS; clear hS; refine hS _ _ ?_) | (clear hS; clear hS; clear hS; clear hS; refine hS _ _ ?_)); clear hS)
         | skip)
    | (refine wpC_label ?_
       simp only [thenA]
       (first | refine hS _ _ ?_ | (clear hS; refine hS _ _ ?_) | (clear hS; clear hS; refine hS _ _ ?_) | (clear hS; clear hS; clear hS; refine hS _ _ ?_) | (clear hS; clear hS; clear hS; clear hS; refine hS _ _ ?_))
       clear hS)
    | refine wpC_seq fun K hS => ?_
    | refine wpC_region rfl ?_
    | refine wpC_block ?_
    | refine wpC_scope ?_
    | (refine wpC_ret ?_
       simp (disch := omega) only [thenA, inBlockA, noGotoA, endsA, ressV, resV, oneV, putT, BB, ↓updA, ↓reduceIte, Nat.reduceLT, Nat.reduceEqDiff]))
    have hn' : bs = [] := by
      have := congrArg List.length hn
      rw [nE_len] at this
      exact List.eq_nil_of_length_eq_zero this
    exact ⟨_, rfl, [], H, hle_refl H, he hn' _ (.inl rfl)⟩
  · repeat (first
    | ((first | refine wpOps_cons rfl fun K hK => ?_ | refine quiet_cons rfl fun K hK => ?_)
       simp (disch := omega) only [wpOp, pval, putT, owned, initT, IntKind.bits, tab, callV, wpBuiltin, builtinV, BB, ↓updA, ↓reduceIte, Int.reduceLT, Int.reduceNeg, Int.reduceLE, Int.reduceToNat, Nat.reduceLT, Nat.reduceEqDiff, Nat.reduceAdd, Nat.reduceMul, Nat.reduceSub, Nat.reduceLeDiff, Nat.reduceBEq]
       first
         | refine hK _ _ ?_
         | refine ⟨_, ⟨rfl, by first | rfl | trivial⟩, hK _ ?_⟩
         | refine ⟨_, ⟨_, _, rfl, by decide, by decide, rfl, by first | rfl | trivial⟩, hK _ ?_⟩
       clear hK)
    | refine wpOps_skip rfl ?_
    | refine quiet_skip rfl ?_
    | refine quiet_nil ?_
    | (refine wpOps_nil ?_
       simp only [thenA, inBlockA, noGotoA]
       first
         | ((first | refine hS _ _ ?_ | (clear hS; refine hS _ _ ?_) | (clear hS; clear hS; refine hS _ _ ?_) | (clear hS; clear hS; clear hS; refine hS _ _ ?_) | (clear hS; clear hS; clear hS; clear hS; refine hS _ _ ?_)); clear hS)
         | skip)
    | (refine wpC_label ?_
       simp only [thenA]
       (first | refine hS _ _ ?_ | (clear hS; refine hS _ _ ?_) | (clear hS; clear hS; refine hS _ _ ?_) | (clear hS; clear hS; clear hS; refine hS _ _ ?_) | (clear hS; clear hS; clear hS; clear hS; refine hS _ _ ?_))
       clear hS)
    | refine wpC_seq fun K hS => ?_
    | refine wpC_region rfl ?_
    | refine wpC_block ?_
    | refine wpC_scope ?_
    | (refine wpC_ret ?_
       simp (disch := omega) only [thenA, inBlockA, noGotoA, endsA, ressV, resV, oneV, putT, BB, ↓updA, ↓reduceIte, Nat.reduceLT, Nat.reduceEqDiff]))
    refine wpC_false rfl ?_
    (refine wpC_skip ?_; simp only [thenA, inBlockA, noGotoA]; (first | refine hS _ _ ?_ | (clear hS; refine hS _ _ ?_) | (clear hS; clear hS; refine hS _ _ ?_) | (clear hS; clear hS; clear hS; refine hS _ _ ?_) | (clear hS; clear hS; clear hS; clear hS; refine hS _ _ ?_)); clear hS)
    repeat (first
    | ((first | refine wpOps_cons rfl fun K hK => ?_ | refine quiet_cons rfl fun K hK => ?_)
       simp (disch := omega) only [wpOp, pval, putT, owned, initT, IntKind.bits, tab, callV, wpBuiltin, builtinV, BB, ↓updA, ↓reduceIte, Int.reduceLT, Int.reduceNeg, Int.reduceLE, Int.reduceToNat, Nat.reduceLT, Nat.reduceEqDiff, Nat.reduceAdd, Nat.reduceMul, Nat.reduceSub, Nat.reduceLeDiff, Nat.reduceBEq]
       first
         | refine hK _ _ ?_
         | refine ⟨_, ⟨rfl, by first | rfl | trivial⟩, hK _ ?_⟩
         | refine ⟨_, ⟨_, _, rfl, by decide, by decide, rfl, by first | rfl | trivial⟩, hK _ ?_⟩
       clear hK)
    | refine wpOps_skip rfl ?_
    | refine quiet_skip rfl ?_
    | refine quiet_nil ?_
    | (refine wpOps_nil ?_
       simp only [thenA, inBlockA, noGotoA]
       first
         | ((first | refine hS _ _ ?_ | (clear hS; refine hS _ _ ?_) | (clear hS; clear hS; refine hS _ _ ?_) | (clear hS; clear hS; clear hS; refine hS _ _ ?_) | (clear hS; clear hS; clear hS; clear hS; refine hS _ _ ?_)); clear hS)
         | skip)
    | (refine wpC_label ?_
       simp only [thenA]
       (first | refine hS _ _ ?_ | (clear hS; refine hS _ _ ?_) | (clear hS; clear hS; refine hS _ _ ?_) | (clear hS; clear hS; clear hS; refine hS _ _ ?_) | (clear hS; clear hS; clear hS; clear hS; refine hS _ _ ?_))
       clear hS)
    | refine wpC_seq fun K hS => ?_
    | refine wpC_region rfl ?_
    | refine wpC_block ?_
    | refine wpC_scope ?_
    | (refine wpC_ret ?_
       simp (disch := omega) only [thenA, inBlockA, noGotoA, endsA, ressV, resV, oneV, putT, BB, ↓updA, ↓reduceIte, Nat.reduceLT, Nat.reduceEqDiff]))
    refine wpOps_cons rfl fun K hK => bs64 (hK _ _ ?_)
    repeat (first
    | ((first | refine wpOps_cons rfl fun K hK => ?_ | refine quiet_cons rfl fun K hK => ?_)
       simp (disch := omega) only [wpOp, pval, putT, owned, initT, IntKind.bits, tab, callV, wpBuiltin, builtinV, BB, ↓updA, ↓reduceIte, Int.reduceLT, Int.reduceNeg, Int.reduceLE, Int.reduceToNat, Nat.reduceLT, Nat.reduceEqDiff, Nat.reduceAdd, Nat.reduceMul, Nat.reduceSub, Nat.reduceLeDiff, Nat.reduceBEq]
       first
         | refine hK _ _ ?_
         | refine ⟨_, ⟨rfl, by first | rfl | trivial⟩, hK _ ?_⟩
         | refine ⟨_, ⟨_, _, rfl, by decide, by decide, rfl, by first | rfl | trivial⟩, hK _ ?_⟩
       clear hK)
    | refine wpOps_skip rfl ?_
    | refine quiet_skip rfl ?_
    | refine quiet_nil ?_
    | (refine wpOps_nil ?_
       simp only [thenA, inBlockA, noGotoA]
       first
         | ((first | refine hS _ _ ?_ | (clear hS; refine hS _ _ ?_) | (clear hS; clear hS; refine hS _ _ ?_) | (clear hS; clear hS; clear hS; refine hS _ _ ?_) | (clear hS; clear hS; clear hS; clear hS; refine hS _ _ ?_)); clear hS)
         | skip)
    | (refine wpC_label ?_
       simp only [thenA]
       (first | refine hS _ _ ?_ | (clear hS; refine hS _ _ ?_) | (clear hS; clear hS; refine hS _ _ ?_) | (clear hS; clear hS; clear hS; refine hS _ _ ?_) | (clear hS; clear hS; clear hS; clear hS; refine hS _ _ ?_))
       clear hS)
    | refine wpC_seq fun K hS => ?_
    | refine wpC_region rfl ?_
    | refine wpC_block ?_
    | refine wpC_scope ?_
    | (refine wpC_ret ?_
       simp (disch := omega) only [thenA, inBlockA, noGotoA, endsA, ressV, resV, oneV, putT, BB, ↓updA, ↓reduceIte, Nat.reduceLT, Nat.reduceEqDiff]))
    refine wpOps_cons rfl fun K hK => ?_
    simp (disch := omega) only [wpOp, pval, putT, owned, initT, IntKind.bits, tab, callV, wpBuiltin, builtinV, BB, ↓updA, ↓reduceIte, Int.reduceLT, Int.reduceNeg, Int.reduceLE, Int.reduceToNat, Nat.reduceLT, Nat.reduceEqDiff, Nat.reduceAdd, Nat.reduceMul, Nat.reduceSub, Nat.reduceLeDiff, Nat.reduceBEq, wpBuiltin]
    refine append_new (x := x) (.inr rfl) ds64 sl64 hv (nE_ones _ _) (by rw [by64, nE_len]; omega) (by rw [nE_len]; omega) (fun hn => hK _ _ ?_) (fun hn b hb => hK _ _ ?_)
    · repeat (first
    | ((first | refine wpOps_cons rfl fun K hK => ?_ | refine quiet_cons rfl fun K hK => ?_)
       simp (disch := omega) only [wpOp, pval, putT, owned, initT, IntKind.bits, tab, callV, wpBuiltin, builtinV, BB, ↓updA, ↓reduceIte, Int.reduceLT, Int.reduceNeg, Int.reduceLE, Int.reduceToNat, Nat.reduceLT, Nat.reduceEqDiff, Nat.reduceAdd, Nat.reduceMul, Nat.reduceSub, Nat.reduceLeDiff, Nat.reduceBEq]
       first
         | refine hK _ _ ?_
         | refine ⟨_, ⟨rfl, by first | rfl | trivial⟩, hK _ ?_⟩
         | refine ⟨_, ⟨_, _, rfl, by decide, by decide, rfl, by first | rfl | trivial⟩, hK _ ?_⟩
       clear hK)
    | refine wpOps_skip rfl ?_
    | refine quiet_skip rfl ?_
    | refine quiet_nil ?_
    | (refine wpOps_nil ?_
       simp only [thenA, inBlockA, noGotoA]
       first
         | ((first | refine hS _ _ ?_ | (clear hS; refine hS _ _ ?_) | (clear hS; clear hS; refine hS _ _ ?_) | (clear hS; clear hS; clear hS; refine hS _ _ ?_) | (clear hS; clear hS; clear hS; clear hS; refine hS _ _ ?_)); clear hS)
         | skip)
    | (refine wpC_label ?_
       simp only [thenA]
       (first | refine hS _ _ ?_ | (clear hS; refine hS _ _ ?_) | (clear hS; clear hS; refine hS _ _ ?_) | (clear hS; clear hS; clear hS; refine hS _ _ ?_) | (clear hS; clear hS; clear hS; clear hS; refine hS _ _ ?_))
       clear hS)
    | refine wpC_seq fun K hS => ?_
    | refine wpC_region rfl ?_
    | refine wpC_block ?_
    | refine wpC_scope ?_
    | (refine wpC_ret ?_
       simp (disch := omega) only [thenA, inBlockA, noGotoA, endsA, ressV, resV, oneV, putT, BB, ↓updA, ↓reduceIte, Nat.reduceLT, Nat.reduceEqDiff]))
      have hn' : bs = [] := by
        have := congrArg List.length hn
        rw [nE_len] at this
        exact List.eq_nil_of_length_eq_zero this
      exact ⟨_, rfl, [], H, hle_refl H, he hn' _ (.inr rfl)⟩
    · repeat (first
    | ((first | refine wpOps_cons rfl fun K hK => ?_ | refine quiet_cons rfl fun K hK => ?_)
       simp (disch := omega) only [wpOp, pval, putT, owned, initT, IntKind.bits, tab, callV, wpBuiltin, builtinV, BB, ↓updA, ↓reduceIte, Int.reduceLT, Int.reduceNeg, Int.reduceLE, Int.reduceToNat, Nat.reduceLT, Nat.reduceEqDiff, Nat.reduceAdd, Nat.reduceMul, Nat.reduceSub, Nat.reduceLeDiff, Nat.reduceBEq]
       first
         | refine hK _ _ ?_
         | refine ⟨_, ⟨rfl, by first | rfl | trivial⟩, hK _ ?_⟩
         | refine ⟨_, ⟨_, _, rfl, by decide, by decide, rfl, by first | rfl | trivial⟩, hK _ ?_⟩
       clear hK)
    | refine wpOps_skip rfl ?_
    | refine quiet_skip rfl ?_
    | refine quiet_nil ?_
    | (refine wpOps_nil ?_
       simp only [thenA, inBlockA, noGotoA]
       first
         | ((first | refine hS _ _ ?_ | (clear hS; refine hS _ _ ?_) | (clear hS; clear hS; refine hS _ _ ?_) | (clear hS; clear hS; clear hS; refine hS _ _ ?_) | (clear hS; clear hS; clear hS; clear hS; refine hS _ _ ?_)); clear hS)
         | skip)
    | (refine wpC_label ?_
       simp only [thenA]
       (first | refine hS _ _ ?_ | (clear hS; refine hS _ _ ?_) | (clear hS; clear hS; refine hS _ _ ?_) | (clear hS; clear hS; clear hS; refine hS _ _ ?_) | (clear hS; clear hS; clear hS; clear hS; refine hS _ _ ?_))
       clear hS)
    | refine wpC_seq fun K hS => ?_
    | refine wpC_region rfl ?_
    | refine wpC_block ?_
    | refine wpC_scope ?_
    | (refine wpC_ret ?_
       simp (disch := omega) only [thenA, inBlockA, noGotoA, endsA, ressV, resV, oneV, putT, BB, ↓updA, ↓reduceIte, Nat.reduceLT, Nat.reduceEqDiff]))
      have hne : bs ≠ [] := fun e => hn (by subst e; rfl)
      rw [nE_len]
      rcases hQ with h | h
      · exact ⟨_, rfl, [], _, hle_refl _, h.2 hne b hb⟩
      · exact ⟨_, rfl, [b], freeze_end hb (h _ (.inr ⟨false, rfl⟩))⟩
end Go.Av
