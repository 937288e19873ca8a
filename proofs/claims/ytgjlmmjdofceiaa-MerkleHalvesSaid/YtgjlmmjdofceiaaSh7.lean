/-
  Package sha: one block.
-/
import Derived.Test.YtgjlmmjdofceiaaSh6
import Derived.Test.YtgjlmmjdofceiaaAv25
set_option linter.unusedSimpArgs false
set_option linter.unusedVariables false
namespace Go.Av
open Go.RowKit Go.Proofs

/-- The words of a block, one more. -/
def sch (b w : List Nat) (i : Nat) : List Nat :=
  if i < 16 then w.set i (wordOf ((b.drop (i * 4)).take 4))
  else w.set i ((((w.getD (i - 16) 0 + w.getD (i - 7) 0) % 4294967296 + ((rotr (w.getD (i - 15) 0) 7 ^^^ rotr (w.getD (i - 15) 0) 18) % 4294967296 ^^^ w.getD (i - 15) 0 / 2 ^ min 3 32) % 4294967296) % 4294967296 +
    ((rotr (w.getD (i - 2) 0) 17 ^^^ rotr (w.getD (i - 2) 0) 19) % 4294967296 ^^^ w.getD (i - 2) 0 / 2 ^ min 10 32) % 4294967296) % 4294967296)
def schN (b : List Nat) (n : Nat) : List Nat := (List.range n).foldl (sch b) (List.replicate 64 0)

theorem sch_len (b w : List Nat) (i : Nat) : (sch b w i).length = w.length := by
  unfold sch; split <;> simp
theorem schN_succ (b : List Nat) (n : Nat) : schN b (n + 1) = sch b (schN b n) n := by simp [schN, List.range_succ]
theorem schN_len (b : List Nat) : ∀ n, (schN b n).length = 64
  | 0 => by simp [schN]
  | n + 1 => by rw [schN_succ, sch_len, schN_len b n]

theorem view_fresh {H : Hp} {sz : Nat} {v : V} {es : List (List V)} (h : view H sz v = some es) {c : Nat} {z : Option Blk} (hc : H c = none) : view (upd H c z) sz v = some es := by
  unfold view at h ⊢
  split at h
  · exact h
  · exact h
  · split at h
    · rename_i hb
      rw [upd_ne _ _ _ (ne_of_none hb hc), hb]
      exact h
    · cases h
  · split at h
    · rename_i hb
      rw [upd_ne _ _ _ (ne_of_none hb hc), hb]
      exact h
    · cases h
  · cases h

theorem ix_row {b o n i : Nat} {k : IntKind} {t : TypeId} (ha : arrT Try.prog t = some (n, 1)) (hi : i < n) : indexAddrV Try.prog t (.ptr b o) (vN k i) = some (.ptr b (o + i * 1)) := by
  simp only [indexAddrV, ha, idxOf_N _ hi, Option.bind_some, shiftP]

def rOne (w v : List Nat) (i : Nat) : Nat :=
  ((((v.getD 7 0 + ((rotr (v.getD 4 0) 6 ^^^ rotr (v.getD 4 0) 11) % 4294967296 ^^^ rotr (v.getD 4 0) 25) % 4294967296) % 4294967296 + ((v.getD 4 0 &&& v.getD 5 0) % 4294967296 ^^^ ((4294967295 ^^^ v.getD 4 0) % 4294967296 &&& v.getD 6 0) % 4294967296) % 4294967296) % 4294967296 + cu0.getD i 0) % 4294967296 + w.getD i 0) % 4294967296
def rTwo (v : List Nat) : Nat :=
  (((rotr (v.getD 0 0) 2 ^^^ rotr (v.getD 0 0) 13) % 4294967296 ^^^ rotr (v.getD 0 0) 22) % 4294967296 + (((v.getD 0 0 &&& v.getD 1 0) % 4294967296 ^^^ (v.getD 0 0 &&& v.getD 2 0) % 4294967296) % 4294967296 ^^^ (v.getD 1 0 &&& v.getD 2 0) % 4294967296) % 4294967296) % 4294967296
def rnd (w v : List Nat) (i : Nat) : List Nat :=
  [(rOne w v i + rTwo v) % 4294967296, v.getD 0 0, v.getD 1 0, v.getD 2 0, (v.getD 3 0 + rOne w v i) % 4294967296, v.getD 4 0, v.getD 5 0, v.getD 6 0]
def rndN (w st : List Nat) (n : Nat) : List Nat := (List.range n).foldl (rnd w) st
theorem rndN_succ (w st : List Nat) (n : Nat) : rndN w st (n + 1) = rnd w (rndN w st n) n := by simp [rndN, List.range_succ]
theorem rndN_len (w st : List Nat) (h : st.length = 8) : ∀ n, (rndN w st n).length = 8
  | 0 => by simp [rndN, h]
  | n + 1 => by rw [rndN_succ]; rfl

theorem len8 : ∀ l : List Nat, l.length = 8 → ∃ a b c d e f g h, l = [a, b, c, d, e, f, g, h]
  | [a, b, c, d, e, f, g, h], _ => ⟨a, b, c, d, e, f, g, h, rfl⟩

theorem sl62 : sliT Try.prog 62 = some 1 := by kernel_rfl
theorem ds62 : dstT Try.prog 62 = some 1 := by kernel_rfl
theorem sa124_1 (d : Nat) : sliceV Try.prog 124 (.ptr d 0) (some (vN .i64 1)) none none = some (.rsl d 1 7 1) := by
  simp [sliceV, ar124, sliceArr, bnd, vN]
theorem sa124_7 (d : Nat) : sliceV Try.prog 124 (.ptr d 0) none (some (vN .i64 7)) none = some (.rsl d 0 7 1) := by
  simp [sliceV, ar124, sliceArr, bnd, vN]

theorem copy_rsl {P : Program} {H : Hp} {td ts : TypeId} {b off n sz : Nat} {x : V} {fs : List (List V)} {cells r : List V} {Q : V → Hp → Prop} (h1 : dstT P td = some sz) (h2 : srcV P H sz ts x = some fs) (h3 : onesEs fs = true) (hb : H b = some (.row cells))
    (hle : off + n * sz ≤ cells.length) (hr : splice cells off (fs.take n).flatten = r) (hQ : Q (.int .i64 ((min fs.length n : Nat) : Int)) (upd H b (some (.row r)))) : wpCopy P H td ts (.rsl b off n sz) x Q := by
  refine ⟨sz, fs, h1, h2, h3, ?_⟩
  simp only [hb]
  exact ⟨trivial, hle, by rw [hr]; exact hQ⟩

def addN (st v : List Nat) (n : Nat) : List Nat := (List.range n).foldl (fun s i => s.set i ((s.getD i 0 + v.getD i 0) % 4294967296)) st
theorem addN_succ (st v : List Nat) (n : Nat) : addN st v (n + 1) = (addN st v n).set n (((addN st v n).getD n 0 + v.getD n 0) % 4294967296) := by simp [addN, List.range_succ]
theorem addN_len (st v : List Nat) : ∀ n, (addN st v n).length = st.length
  | 0 => rfl
  | n + 1 => by rw [addN_succ, List.length_set, addN_len st v n]

/-- The state, a block further. -/
def mixOf (st b : List Nat) : List Nat := addN st (rndN (schN b 64) st 64) 8

def s84 : Spec := fun _ args H Q => ∃ b st rest many part bs, args = [.ptr b 0, part] ∧ H b = some (.row (sumR st rest many)) ∧ st.length = 8 ∧ view H 1 part = some (nE .u8 bs) ∧ bs.length = 64 ∧ Q (.tup []) (upd H b (some (.row (sumR (mixOf st bs) rest many))))


section
variable {Y : YEnv} {Q : Exit → T → Hp → Prop} {t : T} {HH : Hp} {b c d e i a0 a1 a2 a3 a4 a5 a6 a7 one two : Nat} {w : List Nat}

theorem r84_14 (q8 : t 8 = .ptr d 0) (q9 : t 9 = .ptr e 0) (q4 : t 4 = .ptr c 0) (q10 : t 10 = vN .i64 i) (q12 : t 12 = vN .u32 a4) (hi : i < 64) (hw : w.length = 64)
    (hHd : HH d = some (.row (nR .u32 [a0, a1, a2, a3, a4, a5, a6, a7]))) (hHe : HH e = some (.row (nR .u32 cu0))) (hHc : HH c = some (.row (nR .u32 w)))
    (hQ : ∀ t', t' 0 = t 0 → t' 4 = t 4 → t' 8 = t 8 → t' 9 = t 9 → t' 71 = t 71 → t' 11 = t 11 → t' 13 = vN .u32 (rOne w [a0, a1, a2, a3, a4, a5, a6, a7] i) → Q .normal t' HH) :
    wpC Try.prog (tab [(100, s100), (101, s101), (102, s102)]) Y [] 162 (regAt Try.f84 14) true Q t HH := by
  have hcu : (nR .u32 cu0)[i]? = some (vN .u32 (cu0.getD i 0)) := nR_get _ _ _ hi
  have hw' : (nR .u32 w)[i]? = some (vN .u32 (w.getD i 0)) := nR_get _ _ _ (by rw [hw]; exact hi)
  have g7 : (nR .u32 [a0, a1, a2, a3, a4, a5, a6, a7])[7]? = some (vN .u32 a7) := rfl
  have g5 : (nR .u32 [a0, a1, a2, a3, a4, a5, a6, a7])[5]? = some (vN .u32 a5) := rfl
  have g6 : (nR .u32 [a0, a1, a2, a3, a4, a5, a6, a7])[6]? = some (vN .u32 a6) := rfl
  refine wpC_draw 29 (by kernel_rfl) rfl rfl ?_
  repeat (first
    | ((first | refine wpOps_cons rfl fun K hK => ?_ | refine quiet_cons rfl fun K hK => ?_)
       simp (disch := omega) only [wpOp, pval, putT, owned, initT, IntKind.bits, tab, callV, wpBuiltin, builtinV, BB, ↓updA, ↓reduceIte, Int.reduceLT, Int.reduceNeg, Int.reduceLE, Int.reduceToNat, Nat.reduceLT, Nat.reduceEqDiff, Nat.reduceAdd, Nat.reduceMul, Nat.reduceSub, Nat.reduceLeDiff, Nat.reduceBEq, q8, q9, q4, q10, q12, ix_row ar124, ix_row ar146, load_cell hHd ty44 g7, load_cell hHd ty44 g5, load_cell hHd ty44 g6, load_cell hHe ty44 hcu, load_cell hHc ty44 hw']
       first
         | refine hK _ _ ?_
         | refine ⟨_, ⟨rfl, by first | rfl | trivial⟩, hK _ ?_⟩
         | refine ⟨_, ⟨_, _, rfl, by decide, by decide, rfl, by first | rfl | trivial⟩, hK _ ?_⟩
       clear hK)
    | refine wpOps_skip rfl ?_
    | refine quiet_skip rfl ?_
    | refine quiet_nil ?_
    | (refine wpOps_nil ?_
       simp only [thenA, inBlockA, noGotoA]
       first
         | ((first | refine hS _ _ ?_ | (clear hS; refine hS _ _ ?_) | (clear hS; clear hS; refine hS _ _ ?_) | (clear hS; clear hS; clear hS; refine hS _ _ ?_) | (clear hS; clear hS; clear hS; clear hS; refine hS _ _ ?_)); clear hS)
         | skip)
    | (refine wpC_label ?_
       simp only [thenA]
       (first | refine hS _ _ ?_ | (clear hS; refine hS _ _ ?_) | (clear hS; clear hS; refine hS _ _ ?_) | (clear hS; clear hS; clear hS; refine hS _ _ ?_) | (clear hS; clear hS; clear hS; clear hS; refine hS _ _ ?_))
       clear hS)
    | refine wpC_seq fun K hS => ?_
    | refine wpC_region rfl ?_
    | refine wpC_block ?_
    | refine wpC_scope ?_
    | (refine wpC_ret ?_
       simp (disch := omega) only [thenA, inBlockA, noGotoA, endsA, ressV, resV, oneV, putT, BB, ↓updA, ↓reduceIte, Nat.reduceLT, Nat.reduceEqDiff, q8, q9, q4, q10, q12, ix_row ar124, ix_row ar146, load_cell hHd ty44 g7, load_cell hHd ty44 g5, load_cell hHd ty44 g6, load_cell hHe ty44 hcu, load_cell hHc ty44 hw']))
  refine wpOps_nil (hQ _ ?_ ?_ ?_ ?_ ?_ ?_ ?_)
  · simp (disch := omega) only [wpOp, pval, putT, owned, initT, IntKind.bits, tab, callV, wpBuiltin, builtinV, BB, ↓updA, ↓reduceIte, Int.reduceLT, Int.reduceNeg, Int.reduceLE, Int.reduceToNat, Nat.reduceLT, Nat.reduceEqDiff, Nat.reduceAdd, Nat.reduceMul, Nat.reduceSub, Nat.reduceLeDiff, Nat.reduceBEq]
  · simp (disch := omega) only [wpOp, pval, putT, owned, initT, IntKind.bits, tab, callV, wpBuiltin, builtinV, BB, ↓updA, ↓reduceIte, Int.reduceLT, Int.reduceNeg, Int.reduceLE, Int.reduceToNat, Nat.reduceLT, Nat.reduceEqDiff, Nat.reduceAdd, Nat.reduceMul, Nat.reduceSub, Nat.reduceLeDiff, Nat.reduceBEq]
  · simp (disch := omega) only [wpOp, pval, putT, owned, initT, IntKind.bits, tab, callV, wpBuiltin, builtinV, BB, ↓updA, ↓reduceIte, Int.reduceLT, Int.reduceNeg, Int.reduceLE, Int.reduceToNat, Nat.reduceLT, Nat.reduceEqDiff, Nat.reduceAdd, Nat.reduceMul, Nat.reduceSub, Nat.reduceLeDiff, Nat.reduceBEq]
  · simp (disch := omega) only [wpOp, pval, putT, owned, initT, IntKind.bits, tab, callV, wpBuiltin, builtinV, BB, ↓updA, ↓reduceIte, Int.reduceLT, Int.reduceNeg, Int.reduceLE, Int.reduceToNat, Nat.reduceLT, Nat.reduceEqDiff, Nat.reduceAdd, Nat.reduceMul, Nat.reduceSub, Nat.reduceLeDiff, Nat.reduceBEq]
  · simp (disch := omega) only [wpOp, pval, putT, owned, initT, IntKind.bits, tab, callV, wpBuiltin, builtinV, BB, ↓updA, ↓reduceIte, Int.reduceLT, Int.reduceNeg, Int.reduceLE, Int.reduceToNat, Nat.reduceLT, Nat.reduceEqDiff, Nat.reduceAdd, Nat.reduceMul, Nat.reduceSub, Nat.reduceLeDiff, Nat.reduceBEq]
  · simp (disch := omega) only [wpOp, pval, putT, owned, initT, IntKind.bits, tab, callV, wpBuiltin, builtinV, BB, ↓updA, ↓reduceIte, Int.reduceLT, Int.reduceNeg, Int.reduceLE, Int.reduceToNat, Nat.reduceLT, Nat.reduceEqDiff, Nat.reduceAdd, Nat.reduceMul, Nat.reduceSub, Nat.reduceLeDiff, Nat.reduceBEq]
  · simp (disch := omega) only [wpOp, pval, putT, owned, initT, IntKind.bits, tab, callV, wpBuiltin, builtinV, BB, ↓updA, ↓reduceIte, Int.reduceLT, Int.reduceNeg, Int.reduceLE, Int.reduceToNat, Nat.reduceLT, Nat.reduceEqDiff, Nat.reduceAdd, Nat.reduceMul, Nat.reduceSub, Nat.reduceLeDiff, Nat.reduceBEq]
    rfl

theorem r84_15 (q8 : t 8 = .ptr d 0) (q11 : t 11 = vN .u32 a0) (hHd : HH d = some (.row (nR .u32 [a0, a1, a2, a3, a4, a5, a6, a7])))
    (hQ : ∀ t', t' 0 = t 0 → t' 4 = t 4 → t' 8 = t 8 → t' 9 = t 9 → t' 71 = t 71 → t' 13 = t 13 → t' 14 = vN .u32 (rTwo [a0, a1, a2, a3, a4, a5, a6, a7]) → Q .normal t' HH) :
    wpC Try.prog (tab [(100, s100), (101, s101), (102, s102)]) Y [] 162 (regAt Try.f84 15) true Q t HH := by
  have g1 : (nR .u32 [a0, a1, a2, a3, a4, a5, a6, a7])[1]? = some (vN .u32 a1) := rfl
  have g2 : (nR .u32 [a0, a1, a2, a3, a4, a5, a6, a7])[2]? = some (vN .u32 a2) := rfl
  refine wpC_draw 23 (by kernel_rfl) rfl rfl ?_
  repeat (first
    | ((first | refine wpOps_cons rfl fun K hK => ?_ | refine quiet_cons rfl fun K hK => ?_)
       simp (disch := omega) only [wpOp, pval, putT, owned, initT, IntKind.bits, tab, callV, wpBuiltin, builtinV, BB, ↓updA, ↓reduceIte, Int.reduceLT, Int.reduceNeg, Int.reduceLE, Int.reduceToNat, Nat.reduceLT, Nat.reduceEqDiff, Nat.reduceAdd, Nat.reduceMul, Nat.reduceSub, Nat.reduceLeDiff, Nat.reduceBEq, q8, q11, ix_row ar124, load_cell hHd ty44 g1, load_cell hHd ty44 g2]
       first
         | refine hK _ _ ?_
         | refine ⟨_, ⟨rfl, by first | rfl | trivial⟩, hK _ ?_⟩
         | refine ⟨_, ⟨_, _, rfl, by decide, by decide, rfl, by first | rfl | trivial⟩, hK _ ?_⟩
       clear hK)
    | refine wpOps_skip rfl ?_
    | refine quiet_skip rfl ?_
    | refine quiet_nil ?_
    | (refine wpOps_nil ?_
       simp only [thenA, inBlockA, noGotoA]
       first
         | ((first | refine hS _ _ ?_ | (clear hS; refine hS _ _ ?_) | (clear hS; clear hS; refine hS _ _ ?_) | (clear hS; clear hS; clear hS; refine hS _ _ ?_) | (clear hS; clear hS; clear hS; clear hS; refine hS _ _ ?_)); clear hS)
         | skip)
    | (refine wpC_label ?_
       simp only [thenA]
       (first | refine hS _ _ ?_ | (clear hS; refine hS _ _ ?_) | (clear hS; clear hS; refine hS _ _ ?_) | (clear hS; clear hS; clear hS; refine hS _ _ ?_) | (clear hS; clear hS; clear hS; clear hS; refine hS _ _ ?_))
       clear hS)
    | refine wpC_seq fun K hS => ?_
    | refine wpC_region rfl ?_
    | refine wpC_block ?_
    | refine wpC_scope ?_
    | (refine wpC_ret ?_
       simp (disch := omega) only [thenA, inBlockA, noGotoA, endsA, ressV, resV, oneV, putT, BB, ↓updA, ↓reduceIte, Nat.reduceLT, Nat.reduceEqDiff, q8, q11, ix_row ar124, load_cell hHd ty44 g1, load_cell hHd ty44 g2]))
  refine wpOps_nil (hQ _ ?_ ?_ ?_ ?_ ?_ ?_ ?_)
  · simp (disch := omega) only [wpOp, pval, putT, owned, initT, IntKind.bits, tab, callV, wpBuiltin, builtinV, BB, ↓updA, ↓reduceIte, Int.reduceLT, Int.reduceNeg, Int.reduceLE, Int.reduceToNat, Nat.reduceLT, Nat.reduceEqDiff, Nat.reduceAdd, Nat.reduceMul, Nat.reduceSub, Nat.reduceLeDiff, Nat.reduceBEq]
  · simp (disch := omega) only [wpOp, pval, putT, owned, initT, IntKind.bits, tab, callV, wpBuiltin, builtinV, BB, ↓updA, ↓reduceIte, Int.reduceLT, Int.reduceNeg, Int.reduceLE, Int.reduceToNat, Nat.reduceLT, Nat.reduceEqDiff, Nat.reduceAdd, Nat.reduceMul, Nat.reduceSub, Nat.reduceLeDiff, Nat.reduceBEq]
  · simp (disch := omega) only [wpOp, pval, putT, owned, initT, IntKind.bits, tab, callV, wpBuiltin, builtinV, BB, ↓updA, ↓reduceIte, Int.reduceLT, Int.reduceNeg, Int.reduceLE, Int.reduceToNat, Nat.reduceLT, Nat.reduceEqDiff, Nat.reduceAdd, Nat.reduceMul, Nat.reduceSub, Nat.reduceLeDiff, Nat.reduceBEq]
  · simp (disch := omega) only [wpOp, pval, putT, owned, initT, IntKind.bits, tab, callV, wpBuiltin, builtinV, BB, ↓updA, ↓reduceIte, Int.reduceLT, Int.reduceNeg, Int.reduceLE, Int.reduceToNat, Nat.reduceLT, Nat.reduceEqDiff, Nat.reduceAdd, Nat.reduceMul, Nat.reduceSub, Nat.reduceLeDiff, Nat.reduceBEq]
  · simp (disch := omega) only [wpOp, pval, putT, owned, initT, IntKind.bits, tab, callV, wpBuiltin, builtinV, BB, ↓updA, ↓reduceIte, Int.reduceLT, Int.reduceNeg, Int.reduceLE, Int.reduceToNat, Nat.reduceLT, Nat.reduceEqDiff, Nat.reduceAdd, Nat.reduceMul, Nat.reduceSub, Nat.reduceLeDiff, Nat.reduceBEq]
  · simp (disch := omega) only [wpOp, pval, putT, owned, initT, IntKind.bits, tab, callV, wpBuiltin, builtinV, BB, ↓updA, ↓reduceIte, Int.reduceLT, Int.reduceNeg, Int.reduceLE, Int.reduceToNat, Nat.reduceLT, Nat.reduceEqDiff, Nat.reduceAdd, Nat.reduceMul, Nat.reduceSub, Nat.reduceLeDiff, Nat.reduceBEq]
  · simp (disch := omega) only [wpOp, pval, putT, owned, initT, IntKind.bits, tab, callV, wpBuiltin, builtinV, BB, ↓updA, ↓reduceIte, Int.reduceLT, Int.reduceNeg, Int.reduceLE, Int.reduceToNat, Nat.reduceLT, Nat.reduceEqDiff, Nat.reduceAdd, Nat.reduceMul, Nat.reduceSub, Nat.reduceLeDiff, Nat.reduceBEq]
    rfl

theorem r84_16 (q8 : t 8 = .ptr d 0) (hHd : HH d = some (.row (nR .u32 [a0, a1, a2, a3, a4, a5, a6, a7])))
    (hQ : ∀ t', t' 0 = t 0 → t' 4 = t 4 → t' 8 = t 8 → t' 9 = t 9 → t' 71 = t 71 → t' 13 = t 13 → t' 14 = t 14 → Q .normal t' (upd HH d (some (.row (nR .u32 [a0, a0, a1, a2, a3, a4, a5, a6]))))) :
    wpC Try.prog (tab [(100, s100), (101, s101), (102, s102)]) Y [] 162 (regAt Try.f84 16) true Q t HH := by
  refine wpC_draw 2 (by kernel_rfl) rfl rfl ?_
  repeat (first
    | ((first | refine wpOps_cons rfl fun K hK => ?_ | refine quiet_cons rfl fun K hK => ?_)
       simp (disch := omega) only [wpOp, pval, putT, owned, initT, IntKind.bits, tab, callV, wpBuiltin, builtinV, BB, ↓updA, ↓reduceIte, Int.reduceLT, Int.reduceNeg, Int.reduceLE, Int.reduceToNat, Nat.reduceLT, Nat.reduceEqDiff, Nat.reduceAdd, Nat.reduceMul, Nat.reduceSub, Nat.reduceLeDiff, Nat.reduceBEq, q8, sa124_1, sa124_7]
       first
         | refine hK _ _ ?_
         | refine ⟨_, ⟨rfl, by first | rfl | trivial⟩, hK _ ?_⟩
         | refine ⟨_, ⟨_, _, rfl, by decide, by decide, rfl, by first | rfl | trivial⟩, hK _ ?_⟩
       clear hK)
    | refine wpOps_skip rfl ?_
    | refine quiet_skip rfl ?_
    | refine quiet_nil ?_
    | (refine wpOps_nil ?_
       simp only [thenA, inBlockA, noGotoA]
       first
         | ((first | refine hS _ _ ?_ | (clear hS; refine hS _ _ ?_) | (clear hS; clear hS; refine hS _ _ ?_) | (clear hS; clear hS; clear hS; refine hS _ _ ?_) | (clear hS; clear hS; clear hS; clear hS; refine hS _ _ ?_)); clear hS)
         | skip)
    | (refine wpC_label ?_
       simp only [thenA]
       (first | refine hS _ _ ?_ | (clear hS; refine hS _ _ ?_) | (clear hS; clear hS; refine hS _ _ ?_) | (clear hS; clear hS; clear hS; refine hS _ _ ?_) | (clear hS; clear hS; clear hS; clear hS; refine hS _ _ ?_))
       clear hS)
    | refine wpC_seq fun K hS => ?_
    | refine wpC_region rfl ?_
    | refine wpC_block ?_
    | refine wpC_scope ?_
    | (refine wpC_ret ?_
       simp (disch := omega) only [thenA, inBlockA, noGotoA, endsA, ressV, resV, oneV, putT, BB, ↓updA, ↓reduceIte, Nat.reduceLT, Nat.reduceEqDiff, q8, sa124_1, sa124_7]))
  refine wpOps_cons rfl fun K hK => ?_
  simp (disch := omega) only [wpOp, pval, putT, owned, initT, IntKind.bits, tab, callV, wpBuiltin, builtinV, BB, ↓updA, ↓reduceIte, Int.reduceLT, Int.reduceNeg, Int.reduceLE, Int.reduceToNat, Nat.reduceLT, Nat.reduceEqDiff, Nat.reduceAdd, Nat.reduceMul, Nat.reduceSub, Nat.reduceLeDiff, Nat.reduceBEq]
  refine copy_rsl (fs := nE .u32 [a0, a1, a2, a3, a4, a5, a6]) ds62 (srcV_view sl62 ?_) rfl hHd (Nat.le_refl 8) (r := nR .u32 [a0, a0, a1, a2, a3, a4, a5, a6]) rfl (hK _ _ ?_)
  · simp only [view, hHd]
    rfl
  refine wpOps_nil (hQ _ ?_ ?_ ?_ ?_ ?_ ?_ ?_)
  all_goals simp (disch := omega) only [wpOp, pval, putT, owned, initT, IntKind.bits, tab, callV, wpBuiltin, builtinV, BB, ↓updA, ↓reduceIte, Int.reduceLT, Int.reduceNeg, Int.reduceLE, Int.reduceToNat, Nat.reduceLT, Nat.reduceEqDiff, Nat.reduceAdd, Nat.reduceMul, Nat.reduceSub, Nat.reduceLeDiff, Nat.reduceBEq]

theorem r84_17 (q8 : t 8 = .ptr d 0) (q13 : t 13 = vN .u32 one) (q14 : t 14 = vN .u32 two) (hHd : HH d = some (.row (nR .u32 [a0, a1, a2, a3, a4, a5, a6, a7])))
    (hQ : ∀ t', t' 0 = t 0 → t' 4 = t 4 → t' 8 = t 8 → t' 9 = t 9 → t' 71 = t 71 → t' 13 = t 13 → Q .normal t' (upd HH d (some (.row (nR .u32 [(one + two) % 4294967296, a1, a2, a3, a4, a5, a6, a7]))))) :
    wpC Try.prog (tab [(100, s100), (101, s101), (102, s102)]) Y [] 162 (regAt Try.f84 17) true Q t HH := by
  refine wpC_region rfl ?_
  repeat (first
    | ((first | refine wpOps_cons rfl fun K hK => ?_ | refine quiet_cons rfl fun K hK => ?_)
       simp (disch := omega) only [wpOp, pval, putT, owned, initT, IntKind.bits, tab, callV, wpBuiltin, builtinV, BB, ↓updA, ↓reduceIte, Int.reduceLT, Int.reduceNeg, Int.reduceLE, Int.reduceToNat, Nat.reduceLT, Nat.reduceEqDiff, Nat.reduceAdd, Nat.reduceMul, Nat.reduceSub, Nat.reduceLeDiff, Nat.reduceBEq, q13, q14, q8, ix_row ar124]
       first
         | refine hK _ _ ?_
         | refine ⟨_, ⟨rfl, by first | rfl | trivial⟩, hK _ ?_⟩
         | refine ⟨_, ⟨_, _, rfl, by decide, by decide, rfl, by first | rfl | trivial⟩, hK _ ?_⟩
       clear hK)
    | refine wpOps_skip rfl ?_
    | refine quiet_skip rfl ?_
    | refine quiet_nil ?_
    | (refine wpOps_nil ?_
       simp only [thenA, inBlockA, noGotoA]
       first
         | ((first | refine hS _ _ ?_ | (clear hS; refine hS _ _ ?_) | (clear hS; clear hS; refine hS _ _ ?_) | (clear hS; clear hS; clear hS; refine hS _ _ ?_) | (clear hS; clear hS; clear hS; clear hS; refine hS _ _ ?_)); clear hS)
         | skip)
    | (refine wpC_label ?_
       simp only [thenA]
       (first | refine hS _ _ ?_ | (clear hS; refine hS _ _ ?_) | (clear hS; clear hS; refine hS _ _ ?_) | (clear hS; clear hS; clear hS; refine hS _ _ ?_) | (clear hS; clear hS; clear hS; clear hS; refine hS _ _ ?_))
       clear hS)
    | refine wpC_seq fun K hS => ?_
    | refine wpC_region rfl ?_
    | refine wpC_block ?_
    | refine wpC_scope ?_
    | (refine wpC_ret ?_
       simp (disch := omega) only [thenA, inBlockA, noGotoA, endsA, ressV, resV, oneV, putT, BB, ↓updA, ↓reduceIte, Nat.reduceLT, Nat.reduceEqDiff, q13, q14, q8, ix_row ar124]))
  refine wpOps_store (p := .ptr d 0) (v := vN .u32 _) rfl rfl rfl (by simp (disch := omega) only [wpOp, pval, putT, owned, initT, IntKind.bits, tab, callV, wpBuiltin, builtinV, BB, ↓updA, ↓reduceIte, Int.reduceLT, Int.reduceNeg, Int.reduceLE, Int.reduceToNat, Nat.reduceLT, Nat.reduceEqDiff, Nat.reduceAdd, Nat.reduceMul, Nat.reduceSub, Nat.reduceLeDiff, Nat.reduceBEq, q8]) rfl (store_cell (b := d) (off := 0) hHd ty44 (vN_cells _ _) (vN_one _ _) (by show (0 : Nat) < 8; omega)) ?_
  rw [nR_set]
  simp only [List.set_cons_zero]
  refine wpOps_nil (hQ _ ?_ ?_ ?_ ?_ ?_ ?_)
  all_goals simp (disch := omega) only [wpOp, pval, putT, owned, initT, IntKind.bits, tab, callV, wpBuiltin, builtinV, BB, ↓updA, ↓reduceIte, Int.reduceLT, Int.reduceNeg, Int.reduceLE, Int.reduceToNat, Nat.reduceLT, Nat.reduceEqDiff, Nat.reduceAdd, Nat.reduceMul, Nat.reduceSub, Nat.reduceLeDiff, Nat.reduceBEq]

theorem r84_18 (q8 : t 8 = .ptr d 0) (q13 : t 13 = vN .u32 one) (hHd : HH d = some (.row (nR .u32 [a0, a1, a2, a3, a4, a5, a6, a7])))
    (hQ : ∀ t', t' 0 = t 0 → t' 4 = t 4 → t' 8 = t 8 → t' 9 = t 9 → t' 71 = t 71 → Q .normal t' (upd HH d (some (.row (nR .u32 [a0, a1, a2, a3, (a4 + one) % 4294967296, a5, a6, a7]))))) :
    wpC Try.prog (tab [(100, s100), (101, s101), (102, s102)]) Y [] 162 (regAt Try.f84 18) true Q t HH := by
  have g4 : (nR .u32 [a0, a1, a2, a3, a4, a5, a6, a7])[4]? = some (vN .u32 a4) := rfl
  refine wpC_region rfl ?_
  repeat (first
    | ((first | refine wpOps_cons rfl fun K hK => ?_ | refine quiet_cons rfl fun K hK => ?_)
       simp (disch := omega) only [wpOp, pval, putT, owned, initT, IntKind.bits, tab, callV, wpBuiltin, builtinV, BB, ↓updA, ↓reduceIte, Int.reduceLT, Int.reduceNeg, Int.reduceLE, Int.reduceToNat, Nat.reduceLT, Nat.reduceEqDiff, Nat.reduceAdd, Nat.reduceMul, Nat.reduceSub, Nat.reduceLeDiff, Nat.reduceBEq, q13, q8, ix_row ar124, load_cell hHd ty44 g4]
       first
         | refine hK _ _ ?_
         | refine ⟨_, ⟨rfl, by first | rfl | trivial⟩, hK _ ?_⟩
         | refine ⟨_, ⟨_, _, rfl, by decide, by decide, rfl, by first | rfl | trivial⟩, hK _ ?_⟩
       clear hK)
    | refine wpOps_skip rfl ?_
    | refine quiet_skip rfl ?_
    | refine quiet_nil ?_
    | (refine wpOps_nil ?_
       simp only [thenA, inBlockA, noGotoA]
       first
         | ((first | refine hS _ _ ?_ | (clear hS; refine hS _ _ ?_) | (clear hS; clear hS; refine hS _ _ ?_) | (clear hS; clear hS; clear hS; refine hS _ _ ?_) | (clear hS; clear hS; clear hS; clear hS; refine hS _ _ ?_)); clear hS)
         | skip)
    | (refine wpC_label ?_
       simp only [thenA]
       (first | refine hS _ _ ?_ | (clear hS; refine hS _ _ ?_) | (clear hS; clear hS; refine hS _ _ ?_) | (clear hS; clear hS; clear hS; refine hS _ _ ?_) | (clear hS; clear hS; clear hS; clear hS; refine hS _ _ ?_))
       clear hS)
    | refine wpC_seq fun K hS => ?_
    | refine wpC_region rfl ?_
    | refine wpC_block ?_
    | refine wpC_scope ?_
    | (refine wpC_ret ?_
       simp (disch := omega) only [thenA, inBlockA, noGotoA, endsA, ressV, resV, oneV, putT, BB, ↓updA, ↓reduceIte, Nat.reduceLT, Nat.reduceEqDiff, q13, q8, ix_row ar124, load_cell hHd ty44 g4]))
  refine wpOps_store (p := .ptr d 4) (v := vN .u32 _) rfl rfl rfl (by simp (disch := omega) only [wpOp, pval, putT, owned, initT, IntKind.bits, tab, callV, wpBuiltin, builtinV, BB, ↓updA, ↓reduceIte, Int.reduceLT, Int.reduceNeg, Int.reduceLE, Int.reduceToNat, Nat.reduceLT, Nat.reduceEqDiff, Nat.reduceAdd, Nat.reduceMul, Nat.reduceSub, Nat.reduceLeDiff, Nat.reduceBEq, q8]) rfl (store_cell (b := d) (off := 4) hHd ty44 (vN_cells _ _) (vN_one _ _) (by show (4 : Nat) < 8; omega)) ?_
  rw [nR_set]
  simp only [List.set_cons_zero, List.set_cons_succ]
  refine wpOps_nil (hQ _ ?_ ?_ ?_ ?_ ?_)
  all_goals simp (disch := omega) only [wpOp, pval, putT, owned, initT, IntKind.bits, tab, callV, wpBuiltin, builtinV, BB, ↓updA, ↓reduceIte, Int.reduceLT, Int.reduceNeg, Int.reduceLE, Int.reduceToNat, Nat.reduceLT, Nat.reduceEqDiff, Nat.reduceAdd, Nat.reduceMul, Nat.reduceSub, Nat.reduceLeDiff, Nat.reduceBEq]
end
end Go.Av
