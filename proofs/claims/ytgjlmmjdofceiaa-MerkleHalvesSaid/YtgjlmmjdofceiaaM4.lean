/-
  merkle: pairs.
-/
import Derived.Test.YtgjlmmjdofceiaaM3
set_option linter.unusedSimpArgs false
set_option linter.unusedVariables false
namespace Go.Av
open Go.RowKit Go.Proofs

def pairsOf {α : Type} : List α → List (α × α)
  | [] => []
  | [a] => [(a, a)]
  | a :: b :: r => (a, b) :: pairsOf r
theorem pairsOf_len {α : Type} : ∀ l : List α, (pairsOf l).length = (l.length + 1) / 2
  | [] => by simp [pairsOf]
  | [_] => by simp [pairsOf]
  | _ :: _ :: r => by
    simp only [pairsOf, List.length_cons, pairsOf_len r]
    omega
def pE (ps : List (List Nat × List Nat)) : List (List V) := ps.map fun p => nR .u8 (p.1 ++ p.2)
theorem pE_len (ps : List (List Nat × List Nat)) : (pE ps).length = ps.length := by simp [pE]
theorem pE_append (a b : List (List Nat × List Nat)) : pE a ++ pE b = pE (a ++ b) := by simp [pE]
theorem pE_ones (ps : List (List Nat × List Nat)) : onesEs (pE ps) = true := by
  simp [onesEs, pE, nR, one, vN]

theorem bu84 {a b : List Nat} (ha : a.length = 32) (hb : b.length = 32) : buildV Try.prog 84 [(0, .agg (nR .u8 a)), (1, .agg (nR .u8 b))] = some (.agg (nR .u8 (a ++ b))) := by
  have h1 : buildOk Try.prog 84 = true := by kernel_rfl
  have h2 : zeroT Try.prog 84 = some (List.replicate 64 (vN .u8 0)) := by kernel_rfl
  have h3 : placeT Try.prog 84 0 = some (0, 32) := by kernel_rfl
  have h4 : placeT Try.prog 84 1 = some (32, 32) := by kernel_rfl
  have la : (nR .u8 a).length = 32 := by rw [nR_len, ha]
  have lb : (nR .u8 b).length = 32 := by rw [nR_len, hb]
  have e1 : splice (List.replicate 64 (vN .u8 0)) 0 (nR .u8 a) = nR .u8 a ++ List.replicate 32 (vN .u8 0) := by
    simp [splice, la]
  have e2 : splice (nR .u8 a ++ List.replicate 32 (vN .u8 0)) 32 (nR .u8 b) = nR .u8 (a ++ b) := by
    have hd : List.drop 64 (nR .u8 a ++ List.replicate 32 (vN .u8 0)) = [] := List.drop_of_length_le (by rw [List.length_append, la, List.length_replicate]; omega)
    have ht : List.take 32 (nR .u8 a ++ List.replicate 32 (vN .u8 0)) = nR .u8 a := by rw [List.take_append_of_le_length (by omega), List.take_of_length_le (by omega)]
    simp only [splice, lb]
    rw [hd, ht, List.append_nil, nR_append]
  simp only [buildV, h1, if_true, h2, Option.bind_some, fillV, h3, h4, cellsV]
  rw [if_pos ⟨la, by rw [la, List.length_replicate]; omega⟩, e1]
  rw [if_pos ⟨lb, by rw [lb, List.length_append, la, List.length_replicate]; omega⟩, e2]
  simp only [Option.map_some]

/-- What has been gathered. -/
def okO (G X : Hp) (v : V) (sz : Nat) (es : List (List V)) : Prop := (es = [] ∧ v = .nils) ∨ ∃ e, G e = none ∧ X e = some (.arr sz es) ∧ v = .osl e 0 es.length sz false

theorem okO_one {G X : Hp} {v : V} {sz : Nat} {es : List (List V)} (h : okO G X v sz es) : cellsV v = some [v] ∧ one v = true := by
  rcases h with ⟨_, rfl⟩ | ⟨e, _, _, rfl⟩ <;> exact ⟨rfl, rfl⟩

/-- Another block is written. -/
theorem okO_upd {G X : Hp} {v : V} {sz : Nat} {es : List (List V)} (h : okO G X v sz es) {r : Nat} {z : Option Blk} (hr : ∀ es', X r ≠ some (.arr sz es')) : okO G (upd X r z) v sz es := by
  rcases h with h | ⟨e, h1, h2, h3⟩
  · exact .inl h
  · refine .inr ⟨e, h1, ?_, h3⟩
    rw [upd_ne _ _ _ (fun er => by subst er; exact hr _ h2)]
    exact h2

/-- One more. -/
theorem append_okO {P : Program} {G X : Hp} {v : V} {t tx sz : Nat} {es fs : List (List V)} {x : V} {Q : V → Hp → Prop} (h : okO G X v sz es) (hG : hle G X) (hs : dstT P t = some sz) (hx : sliT P tx = some sz) (hv : view X sz x = some fs) (ho : onesEs fs = true) (hne : fs ≠ [])
    (hb : (es.length + fs.length) * bytesT P t ≤ 140737488355328) (hl : es.length + fs.length ≤ 140737488355328)
    (hQ : ∀ v' X', okO G X' v' sz (es ++ fs) → hle G X' → (∀ j y, X j = some y → (∀ es', y ≠ .arr sz es') → X' j = some y) → Q v' X') : wpAppend P X t tx v x Q := by
  have hGe : ∀ e, X e = none → G e = none := fun e he => by
    cases hh : G e with
    | none => rfl
    | some y => rw [hG _ _ hh] at he; cases he
  rcases h with ⟨rfl, rfl⟩ | ⟨e, h1, h2, rfl⟩
  · refine append_new (x := x) (.inl rfl) hs hx hv ho (by simpa using hb) (by simpa using hl) (fun hn => absurd hn hne) fun _ e he => hQ _ _ ?_ ?_ ?_
    · exact .inr ⟨e, hGe e he, by rw [upd_eq, List.nil_append], by rw [List.nil_append]⟩
    · exact hle_upd hG (hGe e he)
    · intro j y hj _
      rw [upd_ne _ _ _ (ne_of_none hj he)]
      exact hj
  · refine append_osl (x := x) h2 rfl hs hx hv ho hb hl fun e' he' => ?_
    rw [← List.length_append]
    have hge : G e' = none := by
      rcases he' with rfl | he'
      · exact h1
      · exact hGe e' he'
    refine hQ _ _ (.inr ⟨e', hge, upd_eq _ _ _, rfl⟩) (hle_upd (hle_upd hG h1) hge) ?_
    intro j y hj hy
    have hje : j ≠ e := fun ee => by subst ee; rw [h2] at hj; cases hj; exact hy _ rfl
    have hje' : j ≠ e' := by
      rcases he' with rfl | he'
      · exact hje
      · exact ne_of_none hj he'
    rw [upd_ne _ _ _ hje', upd_ne _ _ _ hje]
    exact hj

section
variable {Y : YEnv} {Q : Exit → T → Hp → Prop} {t : T} {G X : Hp} {r : Nat} {v part : V} {ps : List (List Nat)} {done : List (List Nat × List Nat)}

theorem rd37 (q3 : t 3 = .ptr r 0) (q4 : t 4 = part) (xr : X r = some (.row [v])) (hv : view X 32 part = some (hE ps)) (hne : ps ≠ []) (h32 : all32 ps) (hok : okO G X v 64 (pE done)) (hG : hle G X) (gr : G r = none) (hl : done.length ≤ 1073741824)
    (hpl : ps.length ≤ 2)
    (hQ : ∀ t' v' X', X' r = some (.row [v']) → okO G X' v' 64 (pE (done ++ [(ps.getD 0 [], ps.getD (ps.length - 1) [])])) → hle G X' → (∀ j y, j ≠ r → X j = some y → (∀ es', y ≠ .arr 64 es') → X' j = some y) → Q .normal t' X') :
    wpC Try.prog (tab [(51, s51), (70, s70)]) Y [] 22 (rbodyOf (loopAt Try.f37 0)) false Q t X := by
  have hp0 : 0 < ps.length := List.length_pos_iff.2 hne
  obtain ⟨p, hp, hpl1⟩ := elem_viewA (P := Try.prog) (k := .i64) ar22 sl22 hv (hE_get ps 0 hp0) (by rw [nR_len]; exact all32_get h32 hp0)
  obtain ⟨q, hq, hql⟩ := elem_viewA (P := Try.prog) (k := .i64) ar22 sl22 hv (hE_get ps (ps.length - 1) (by omega)) (by rw [nR_len]; exact all32_get h32 (by omega))
  have hly := lenV_view (P := Try.prog) sl22 hv
  rw [hE_len] at hly
  have la := all32_get h32 hp0
  have lb := all32_get h32 (show ps.length - 1 < ps.length by omega)
  generalize ps.getD 0 [] = a at hpl1 hQ la
  generalize ps.getD (ps.length - 1) [] = b at hql hQ lb
  refine wpC_block ?_
  refine wpC_draw 12 (by kernel_rfl) rfl rfl ?_
  repeat (first
    | ((first | refine wpOps_cons rfl fun K hK => ?_ | refine quiet_cons rfl fun K hK => ?_)
       simp (disch := omega) only [wpOp, pval, putT, owned, initT, IntKind.bits, tab, callV, wpBuiltin, builtinV, BB, ↓updA, ↓reduceIte, Int.reduceLT, Int.reduceNeg, Int.reduceLE, Int.reduceToNat, Nat.reduceLT, Nat.reduceEqDiff, Nat.reduceAdd, Nat.reduceMul, Nat.reduceSub, Nat.reduceLeDiff, Nat.reduceBEq, q3, q4, load_cell (off := 0) xr ty81 rfl, hp, hpl1, hq, hql, ty25, hly, i64_sub]
       first
         | refine hK _ _ ?_
         | refine ⟨_, ⟨rfl, by first | rfl | trivial⟩, hK _ ?_⟩
         | refine ⟨_, ⟨_, _, rfl, by decide, by decide, rfl, by first | rfl | trivial⟩, hK _ ?_⟩
       clear hK)
    | refine wpOps_skip rfl ?_
    | refine quiet_skip rfl ?_
    | refine quiet_nil ?_
    | (refine wpOps_nil ?_
       simp only [thenA, inBlockA, noGotoA]
       first
         | ((first | refine hS _ _ ?_ | (clear hS; refine hS _ _ ?_) | (clear hS; clear hS; refine hS _ _ ?_) | (clear hS; clear hS; clear hS; refine hS _ _ ?_) | (clear hS; clear hS; clear hS; clear hS; refine hS _ _ ?_)); clear hS)
         | skip)
    | (refine wpC_label ?_
       simp only [thenA]
       (first | refine hS _ _ ?_ | (clear hS; refine hS _ _ ?_) | (clear hS; clear hS; refine hS _ _ ?_) | (clear hS; clear hS; clear hS; refine hS _ _ ?_) | (clear hS; clear hS; clear hS; clear hS; refine hS _ _ ?_))
       clear hS)
    | refine wpC_seq fun K hS => ?_
    | refine wpC_region rfl ?_
    | refine wpC_block ?_
    | refine wpC_scope ?_
    | (refine wpC_ret ?_
       simp (disch := omega) only [thenA, inBlockA, noGotoA, endsA, ressV, resV, oneV, putT, BB, ↓updA, ↓reduceIte, Nat.reduceLT, Nat.reduceEqDiff, q3, q4, load_cell (off := 0) xr ty81 rfl, hp, hpl1, hq, hql, ty25, hly, i64_sub]))
  have hb := bu84 la lb
  repeat (first
    | ((first | refine wpOps_cons rfl fun K hK => ?_ | refine quiet_cons rfl fun K hK => ?_)
       simp (disch := omega) only [wpOp, pval, putT, owned, initT, IntKind.bits, tab, callV, wpBuiltin, builtinV, BB, ↓updA, ↓reduceIte, Int.reduceLT, Int.reduceNeg, Int.reduceLE, Int.reduceToNat, Nat.reduceLT, Nat.reduceEqDiff, Nat.reduceAdd, Nat.reduceMul, Nat.reduceSub, Nat.reduceLeDiff, Nat.reduceBEq, hb]
       first
         | refine hK _ _ ?_
         | refine ⟨_, ⟨rfl, by first | rfl | trivial⟩, hK _ ?_⟩
         | refine ⟨_, ⟨_, _, rfl, by decide, by decide, rfl, by first | rfl | trivial⟩, hK _ ?_⟩
       clear hK)
    | refine wpOps_skip rfl ?_
    | refine quiet_skip rfl ?_
    | refine quiet_nil ?_
    | (refine wpOps_nil ?_
       simp only [thenA, inBlockA, noGotoA]
       first
         | ((first | refine hS _ _ ?_ | (clear hS; refine hS _ _ ?_) | (clear hS; clear hS; refine hS _ _ ?_) | (clear hS; clear hS; clear hS; refine hS _ _ ?_) | (clear hS; clear hS; clear hS; clear hS; refine hS _ _ ?_)); clear hS)
         | skip)
    | (refine wpC_label ?_
       simp only [thenA]
       (first | refine hS _ _ ?_ | (clear hS; refine hS _ _ ?_) | (clear hS; clear hS; refine hS _ _ ?_) | (clear hS; clear hS; clear hS; refine hS _ _ ?_) | (clear hS; clear hS; clear hS; clear hS; refine hS _ _ ?_))
       clear hS)
    | refine wpC_seq fun K hS => ?_
    | refine wpC_region rfl ?_
    | refine wpC_block ?_
    | refine wpC_scope ?_
    | (refine wpC_ret ?_
       simp (disch := omega) only [thenA, inBlockA, noGotoA, endsA, ressV, resV, oneV, putT, BB, ↓updA, ↓reduceIte, Nat.reduceLT, Nat.reduceEqDiff, hb]))
  refine quiet_cons rfl fun K hK => ⟨.sl 64 [nR .u8 (a ++ b)] true, ⟨64, [List.replicate 64 (vN .u8 0)], _, by kernel_rfl, by omega, ?_, rfl, rfl⟩, hK _ ?_⟩
  · simp only [List.map_cons, List.map_nil, buildEs]
    simp (disch := omega) only [wpOp, pval, putT, owned, initT, IntKind.bits, tab, callV, wpBuiltin, builtinV, BB, ↓updA, ↓reduceIte, Int.reduceLT, Int.reduceNeg, Int.reduceLE, Int.reduceToNat, Nat.reduceLT, Nat.reduceEqDiff, Nat.reduceAdd, Nat.reduceMul, Nat.reduceSub, Nat.reduceLeDiff, Nat.reduceBEq, cellsV]
    rw [if_pos ⟨by rw [nR_len, List.length_append, la, lb], by simp⟩]
    rfl
  refine quiet_nil ?_
  refine wpOps_cons rfl fun K hK => ?_
  simp (disch := omega) only [wpOp, pval, putT, owned, initT, IntKind.bits, tab, callV, wpBuiltin, builtinV, BB, ↓updA, ↓reduceIte, Int.reduceLT, Int.reduceNeg, Int.reduceLE, Int.reduceToNat, Nat.reduceLT, Nat.reduceEqDiff, Nat.reduceAdd, Nat.reduceMul, Nat.reduceSub, Nat.reduceLeDiff, Nat.reduceBEq]
  refine append_okO (x := .sl 64 [nR .u8 (a ++ b)] true) (fs := pE [(a, b)]) hok hG ds81 sl81 (by simp [view, pE]) (pE_ones _) (by simp [pE]) (by rw [by81, pE_len, pE_len]; simp; omega) (by rw [pE_len, pE_len]; simp; omega) fun v' X' hok' hG' hX' => hK _ _ ?_
  rw [pE_append] at hok'
  have xr' := hX' _ _ xr (fun _ h => by cases h)
  refine wpOps_cons rfl fun K hK => ?_
  simp (disch := omega) only [wpOp, pval, putT, owned, initT, IntKind.bits, tab, callV, wpBuiltin, builtinV, BB, ↓updA, ↓reduceIte, Int.reduceLT, Int.reduceNeg, Int.reduceLE, Int.reduceToNat, Nat.reduceLT, Nat.reduceEqDiff, Nat.reduceAdd, Nat.reduceMul, Nat.reduceSub, Nat.reduceLeDiff, Nat.reduceBEq, q3]
  refine ⟨_, store_cell (off := 0) (b := r) xr' ty81 (okO_one hok').1 (okO_one hok').2 (by simp), hK _ _ ?_⟩
  refine wpOps_nil ?_
  simp only [inBlockA]
  refine hQ _ v' _ (upd_eq _ _ _) (okO_upd hok' fun es' h => by rw [xr'] at h; cases h) (hle_upd hG' gr) ?_
  intro j y hj hjy hy
  rw [upd_ne _ _ _ hj]
  exact hX' _ _ hjy hy
end

def F37 (Y : YEnv) (t : T) (l : Nat) (ob : LoopState → Option Code → Obj) : Spec0 := fun args H' QY => args.length = 1 ∧ H' l = some (.raw (ob .ready none)) ∧
  wpC Try.prog (tab [(51, s51), (70, s70)]) Y [] 22 (asgOf (loopAt Try.f37 0)) false (onlyA fun t₁ H₁ => H₁ l = some (.raw (ob .ready none)) ∧
    wpC Try.prog (tab [(51, s51), (70, s70)]) Y [] 22 (rbodyOf (loopAt Try.f37 0)) false (roundA l ob QY) t₁ (upd H₁ l (some (.raw (ob .busy none))))) (putsT 22 t [7] args) H'

theorem blk37 {Y Y' : YEnv} {t : T} {l r : Nat} {ob : LoopState → Option Code → Obj} {G : Hp} {Qe : Hp → Prop} (q3 : t 3 = .ptr r 0) (gr : G r = none) (gl : G l = none) (hrl : r ≠ l) :
    ∀ (n : Nat) (hs : List (List Nat)) (done : List (List Nat × List Nat)) (v : V) (X : Hp), hs.length ≤ n → all32 hs → done.length + hs.length ≤ 1073741824 → X r = some (.row [v]) → X l = some (.raw (ob .ready none)) → hle G X → okO G X v 64 (pE done) →
      (∀ v' X', X' r = some (.row [v']) → X' l = some (.raw (ob .ready none)) → hle G X' → okO G X' v' 64 (pE (done ++ pairsOf hs)) → Qe X') → seqS (upd Y' l (F37 Y t l ob)) l 32 G Qe (chk2 (hE hs)) X
  | n, [], done, v, X, _, _, _, xr, xl, hG, hok, hQ => ⟨hG, hQ v X xr xl hG (by simpa [pairsOf] using hok)⟩
  | 0, _ :: _, _, _, _, hn, _, _, _, _, _, _, _ => by simp at hn
  | n + 1, a :: hs, done, v, X, hn, h32, hlen, xr, xl, hG, hok, hQ => by
    have hhne : hE (a :: hs) ≠ [] := by simp [hE]
    have yl : ∀ args H Q, F37 Y t l ob args H Q → upd Y' l (F37 Y t l ob) l args H Q := fun args H Q h => by rw [upd_eq]; exact h
    rw [chk2_cons _ hhne, hE_take, hE_drop]
    have hps : ∀ h ∈ (a :: hs).take 2, h.length = 32 := fun h hm => h32 h (List.mem_of_mem_take hm)
    have hpn : (a :: hs).take 2 ≠ [] := by simp
    have hpair : done ++ [(((a :: hs).take 2).getD 0 [], ((a :: hs).take 2).getD (((a :: hs).take 2).length - 1) [])] ++ pairsOf ((a :: hs).drop 2) = done ++ pairsOf (a :: hs) := by
      cases hs with
      | nil => simp [pairsOf]
      | cons b hs => simp [pairsOf]
    refine ⟨hG, fun part hp _ => ⟨fun rr X' => rr = .bool true ∧ ∃ v', X' r = some (.row [v']) ∧ X' l = some (.raw (ob .ready none)) ∧ hle G X' ∧ okO G X' v' 64 (pE (done ++ [(((a :: hs).take 2).getD 0 [], ((a :: hs).take 2).getD (((a :: hs).take 2).length - 1) [])])), yl _ _ _ ⟨rfl, xl, ?_⟩, ?_⟩⟩
    · show wpC Try.prog (tab [(51, s51), (70, s70)]) Y [] 22 (asgOf (loopAt Try.f37 0)) false (onlyA _) (putT 22 t (some 7) part) X
      refine wpC_region rfl ?_
      repeat (first
    | ((first | refine wpOps_cons rfl fun K hK => ?_ | refine quiet_cons rfl fun K hK => ?_)
       simp (disch := omega) only [wpOp, pval, putT, owned, initT, IntKind.bits, tab, callV, wpBuiltin, builtinV, BB, ↓updA, ↓reduceIte, Int.reduceLT, Int.reduceNeg, Int.reduceLE, Int.reduceToNat, Nat.reduceLT, Nat.reduceEqDiff, Nat.reduceAdd, Nat.reduceMul, Nat.reduceSub, Nat.reduceLeDiff, Nat.reduceBEq]
       first
         | refine hK _ _ ?_
         | refine ⟨_, ⟨rfl, by first | rfl | trivial⟩, hK _ ?_⟩
         | refine ⟨_, ⟨_, _, rfl, by decide, by decide, rfl, by first | rfl | trivial⟩, hK _ ?_⟩
       clear hK)
    | refine wpOps_skip rfl ?_
    | refine quiet_skip rfl ?_
    | refine quiet_nil ?_
    | (refine wpOps_nil ?_
       simp only [thenA, inBlockA, noGotoA]
       first
         | ((first | refine hS _ _ ?_ | (clear hS; refine hS _ _ ?_) | (clear hS; clear hS; refine hS _ _ ?_) | (clear hS; clear hS; clear hS; refine hS _ _ ?_) | (clear hS; clear hS; clear hS; clear hS; refine hS _ _ ?_)); clear hS)
         | skip)
    | (refine wpC_label ?_
       simp only [thenA]
       (first | refine hS _ _ ?_ | (clear hS; refine hS _ _ ?_) | (clear hS; clear hS; refine hS _ _ ?_) | (clear hS; clear hS; clear hS; refine hS _ _ ?_) | (clear hS; clear hS; clear hS; clear hS; refine hS _ _ ?_))
       clear hS)
    | refine wpC_seq fun K hS => ?_
    | refine wpC_region rfl ?_
    | refine wpC_block ?_
    | refine wpC_scope ?_
    | (refine wpC_ret ?_
       simp (disch := omega) only [thenA, inBlockA, noGotoA, endsA, ressV, resV, oneV, putT, BB, ↓updA, ↓reduceIte, Nat.reduceLT, Nat.reduceEqDiff]))
      refine wpOps_nil ?_
      simp only [onlyA]
      refine ⟨xl, rd37 (r := r) (v := v) (part := part) (ps := (a :: hs).take 2) (done := done) ?_ ?_ ?_ (view_le (hle_upd hG gl) hp) hpn hps ?_ (hle_upd hG gl) gr (by omega) (by simp; omega) fun t' v' X' z1 z2 z3 z4 => ?_⟩
      · simp (disch := omega) only [wpOp, pval, putT, owned, initT, IntKind.bits, tab, callV, wpBuiltin, builtinV, BB, ↓updA, ↓reduceIte, Int.reduceLT, Int.reduceNeg, Int.reduceLE, Int.reduceToNat, Nat.reduceLT, Nat.reduceEqDiff, Nat.reduceAdd, Nat.reduceMul, Nat.reduceSub, Nat.reduceLeDiff, Nat.reduceBEq, q3]
      · simp (disch := omega) only [wpOp, pval, putT, owned, initT, IntKind.bits, tab, callV, wpBuiltin, builtinV, BB, ↓updA, ↓reduceIte, Int.reduceLT, Int.reduceNeg, Int.reduceLE, Int.reduceToNat, Nat.reduceLT, Nat.reduceEqDiff, Nat.reduceAdd, Nat.reduceMul, Nat.reduceSub, Nat.reduceLeDiff, Nat.reduceBEq]
      · rw [upd_ne _ _ _ hrl]; exact xr
      · exact okO_upd hok fun es' h => by rw [xl] at h; cases h
      · have z5 := z4 l _ (Ne.symm hrl) (upd_eq _ _ _) (fun _ h => by cases h)
        simp only [roundA]
        refine ⟨⟨_, _, z5⟩, trivial, v', ?_, upd_eq _ _ _, hle_upd z3 gl, okO_upd z2 fun es' h => by rw [z5] at h; cases h⟩
        rw [upd_ne _ _ _ hrl]
        exact z1
    · rintro rr X' ⟨rfl, v', y1, y2, y3, y4⟩
      refine .inr ⟨rfl, ?_⟩
      refine blk37 q3 gr gl hrl n ((a :: hs).drop 2) _ v' X' (by simp at hn ⊢; omega) (fun h hm => h32 h (List.mem_of_mem_drop hm)) (by simp at hlen ⊢; omega) y1 y2 y3 y4 fun v'' X'' w1 w2 w3 w4 => ?_
      rw [hpair] at w4
      exact hQ v'' X'' w1 w2 w3 w4

def s37 : Spec := fun _ args H Q => ∃ x hs, args = [x] ∧ view H 32 x = some (hE hs) ∧ notR x = true ∧ hs ≠ [] ∧ all32 hs ∧ hs.length ≤ 1073741824 ∧ Q (.sl 64 (pE (pairsOf hs)) false) H

theorem freeze_osl {H H' : Hp} {e sz : Nat} {es : List (List V)} {full : Bool} {Q : V → Hp → Prop} (hb : H' e = some (.arr sz es)) (hle : hle H (upd H' e none)) (hQ : Q (.sl sz es full) H) : sealA [e] (.osl e 0 es.length sz full) H' Q := by
  refine ⟨_, hb, rfl, H, hle, ?_⟩
  simp only [subV, if_true, Nat.zero_add, Nat.le_refl, and_self, List.drop_zero]
  rw [List.take_of_length_le (Nat.le_refl _)]
  exact hQ

theorem snd37 : Sound Try.prog 37 s37 := by
  refine sound_of_body pm (tab_sound [(51, s51), (70, s70)] (by simp [snd51, snd70])) [] Try.func37 rfl (by kernel_rfl) ?_
  rintro Y args H Q ⟨x, hs, rfl, hv, hx, hne, h32, hl, hQ⟩
  refine ⟨by simp [Try.f37], ?_⟩
  show wpC Try.prog (tab [(51, s51), (70, s70)]) Y [] 22 _ true (endsA Try.prog [.tmp 2] Q) _ H
  repeat (first
    | ((first | refine wpOps_cons rfl fun K hK => ?_ | refine quiet_cons rfl fun K hK => ?_)
       simp (disch := omega) only [wpOp, pval, putT, owned, initT, IntKind.bits, tab, callV, wpBuiltin, builtinV, BB, ↓updA, ↓reduceIte, Int.reduceLT, Int.reduceNeg, Int.reduceLE, Int.reduceToNat, Nat.reduceLT, Nat.reduceEqDiff, Nat.reduceAdd, Nat.reduceMul, Nat.reduceSub, Nat.reduceLeDiff, Nat.reduceBEq]
       first
         | refine hK _ _ ?_
         | refine ⟨_, ⟨rfl, by first | rfl | trivial⟩, hK _ ?_⟩
         | refine ⟨_, ⟨_, _, rfl, by decide, by decide, rfl, by first | rfl | trivial⟩, hK _ ?_⟩
       clear hK)
    | refine wpOps_skip rfl ?_
    | refine quiet_skip rfl ?_
    | refine quiet_nil ?_
    | (refine wpOps_nil ?_
       simp only [thenA, inBlockA, noGotoA]
       first
         | ((first | refine hS _ _ ?_ | (clear hS; refine hS _ _ ?_) | (clear hS; clear hS; refine hS _ _ ?_) | (clear hS; clear hS; clear hS; refine hS _ _ ?_) | (clear hS; clear hS; clear hS; clear hS; refine hS _ _ ?_)); clear hS)
         | skip)
    | (refine wpC_label ?_
       simp only [thenA]
       (first | refine hS _ _ ?_ | (clear hS; refine hS _ _ ?_) | (clear hS; clear hS; refine hS _ _ ?_) | (clear hS; clear hS; clear hS; refine hS _ _ ?_) | (clear hS; clear hS; clear hS; clear hS; refine hS _ _ ?_))
       clear hS)
    | refine wpC_seq fun K hS => ?_
    | refine wpC_region rfl ?_
    | refine wpC_block ?_
    | refine wpC_scope ?_
    | (refine wpC_ret ?_
       simp (disch := omega) only [thenA, inBlockA, noGotoA, endsA, ressV, resV, oneV, putT, BB, ↓updA, ↓reduceIte, Nat.reduceLT, Nat.reduceEqDiff]))
  refine wpOps_cons rfl fun K hK => ⟨_, z81, fun r hr => hK _ _ ?_⟩
  repeat (first
    | ((first | refine wpOps_cons rfl fun K hK => ?_ | refine quiet_cons rfl fun K hK => ?_)
       simp (disch := omega) only [wpOp, pval, putT, owned, initT, IntKind.bits, tab, callV, wpBuiltin, builtinV, BB, ↓updA, ↓reduceIte, Int.reduceLT, Int.reduceNeg, Int.reduceLE, Int.reduceToNat, Nat.reduceLT, Nat.reduceEqDiff, Nat.reduceAdd, Nat.reduceMul, Nat.reduceSub, Nat.reduceLeDiff, Nat.reduceBEq]
       first
         | refine hK _ _ ?_
         | refine ⟨_, ⟨rfl, by first | rfl | trivial⟩, hK _ ?_⟩
         | refine ⟨_, ⟨_, _, rfl, by decide, by decide, rfl, by first | rfl | trivial⟩, hK _ ?_⟩
       clear hK)
    | refine wpOps_skip rfl ?_
    | refine quiet_skip rfl ?_
    | refine quiet_nil ?_
    | (refine wpOps_nil ?_
       simp only [thenA, inBlockA, noGotoA]
       first
         | ((first | refine hS _ _ ?_ | (clear hS; refine hS _ _ ?_) | (clear hS; clear hS; refine hS _ _ ?_) | (clear hS; clear hS; clear hS; refine hS _ _ ?_) | (clear hS; clear hS; clear hS; clear hS; refine hS _ _ ?_)); clear hS)
         | skip)
    | (refine wpC_label ?_
       simp only [thenA]
       (first | refine hS _ _ ?_ | (clear hS; refine hS _ _ ?_) | (clear hS; clear hS; refine hS _ _ ?_) | (clear hS; clear hS; clear hS; refine hS _ _ ?_) | (clear hS; clear hS; clear hS; clear hS; refine hS _ _ ?_))
       clear hS)
    | refine wpC_seq fun K hS => ?_
    | refine wpC_region rfl ?_
    | refine wpC_block ?_
    | refine wpC_scope ?_
    | (refine wpC_ret ?_
       simp (disch := omega) only [thenA, inBlockA, noGotoA, endsA, ressV, resV, oneV, putT, BB, ↓updA, ↓reduceIte, Nat.reduceLT, Nat.reduceEqDiff]))
  refine wpOps_cons rfl fun K hK => ⟨x, rfl, (view_ones hv).2, fun b c hb hc => hK _ _ ?_⟩
  have hb' := upd_none hb
  have hc' := upd_none hc
  have hc'' := upd_none hc'.2
  repeat (first
    | ((first | refine wpOps_cons rfl fun K hK => ?_ | refine quiet_cons rfl fun K hK => ?_)
       simp (disch := omega) only [wpOp, pval, putT, owned, initT, IntKind.bits, tab, callV, wpBuiltin, builtinV, BB, ↓updA, ↓reduceIte, Int.reduceLT, Int.reduceNeg, Int.reduceLE, Int.reduceToNat, Nat.reduceLT, Nat.reduceEqDiff, Nat.reduceAdd, Nat.reduceMul, Nat.reduceSub, Nat.reduceLeDiff, Nat.reduceBEq]
       first
         | refine hK _ _ ?_
         | refine ⟨_, ⟨rfl, by first | rfl | trivial⟩, hK _ ?_⟩
         | refine ⟨_, ⟨_, _, rfl, by decide, by decide, rfl, by first | rfl | trivial⟩, hK _ ?_⟩
       clear hK)
    | refine wpOps_skip rfl ?_
    | refine quiet_skip rfl ?_
    | refine quiet_nil ?_
    | (refine wpOps_nil ?_
       simp only [thenA, inBlockA, noGotoA]
       first
         | ((first | refine hS _ _ ?_ | (clear hS; refine hS _ _ ?_) | (clear hS; clear hS; refine hS _ _ ?_) | (clear hS; clear hS; clear hS; refine hS _ _ ?_) | (clear hS; clear hS; clear hS; clear hS; refine hS _ _ ?_)); clear hS)
         | skip)
    | (refine wpC_label ?_
       simp only [thenA]
       (first | refine hS _ _ ?_ | (clear hS; refine hS _ _ ?_) | (clear hS; clear hS; refine hS _ _ ?_) | (clear hS; clear hS; clear hS; refine hS _ _ ?_) | (clear hS; clear hS; clear hS; clear hS; refine hS _ _ ?_))
       clear hS)
    | refine wpC_seq fun K hS => ?_
    | refine wpC_region rfl ?_
    | refine wpC_block ?_
    | refine wpC_scope ?_
    | (refine wpC_ret ?_
       simp (disch := omega) only [thenA, inBlockA, noGotoA, endsA, ressV, resV, oneV, putT, BB, ↓updA, ↓reduceIte, Nat.reduceLT, Nat.reduceEqDiff]))
  refine wpC_range (f := 70) (first := []) (caps := [.ptr b 0, .ptr c 0]) ?_ (by kernel_rfl) fun l ob hl0 => ?_
  · simp (disch := omega) only [wpOp, pval, putT, owned, initT, IntKind.bits, tab, callV, wpBuiltin, builtinV, BB, ↓updA, ↓reduceIte, Int.reduceLT, Int.reduceNeg, Int.reduceLE, Int.reduceToNat, Nat.reduceLT, Nat.reduceEqDiff, Nat.reduceAdd, Nat.reduceMul, Nat.reduceSub, Nat.reduceLeDiff, Nat.reduceBEq]
  have hl1 := upd_none hl0
  have hl2 := upd_none hl1.2
  have hl3 := upd_none hl2.2
  have hG0 : hle H (upd (upd (upd (upd H r (some (.row [.nils]))) b (some (.row [x]))) c (some (.row [vN .i64 2]))) r none) := hle_upd (hle_upd (hle_upd (hle_upd (hle_refl _) hr) hb'.2) hc''.2) hr
  refine ⟨l, b, c, x, hE hs, upd (upd (upd (upd H r (some (.row [.nils]))) b (some (.row [x]))) c (some (.row [vN .i64 2]))) r none, rfl, ?_, ?_, view_le hG0 hv, hx, by rw [hE_len]; exact hl, ?_⟩
  · rw [upd_ne _ _ _ (Ne.symm hb'.1), upd_ne _ _ _ hc'.1, upd_eq]
  · rw [upd_ne _ _ _ (Ne.symm hc''.1), upd_eq]
  refine blk37 (Y := Y) (r := r) ?_ (upd_eq _ _ _) ?_ hl3.1 hs.length hs [] .nils _ (Nat.le_refl _) h32 (by simpa using hl) ?_ (upd_eq _ _ _) ?_ (.inl ⟨rfl, rfl⟩) fun v' X' w1 w2 w3 w4 => ?_
  · simp (disch := omega) only [wpOp, pval, putT, owned, initT, IntKind.bits, tab, callV, wpBuiltin, builtinV, BB, ↓updA, ↓reduceIte, Int.reduceLT, Int.reduceNeg, Int.reduceLE, Int.reduceToNat, Nat.reduceLT, Nat.reduceEqDiff, Nat.reduceAdd, Nat.reduceMul, Nat.reduceSub, Nat.reduceLeDiff, Nat.reduceBEq]
  · rw [upd_ne _ _ _ (Ne.symm hl3.1)]; exact hl0
  · rw [upd_ne _ _ _ hl3.1, upd_ne _ _ _ hc''.1, upd_ne _ _ _ hb'.1, upd_eq]
  · exact hle_upd (hle_del _ _) (by rw [upd_ne _ _ _ (Ne.symm hl3.1)]; exact hl0)
  refine ⟨_, _, w2, by simp, ?_⟩
  simp only [endA, inBlockA, thenA]
  have x1 : upd X' l none r = some (.row [v']) := by rw [upd_ne _ _ _ hl3.1]; exact w1
  refine hS _ _ ?_
  clear hS
  repeat (first
    | ((first | refine wpOps_cons rfl fun K hK => ?_ | refine quiet_cons rfl fun K hK => ?_)
       simp (disch := omega) only [wpOp, pval, putT, owned, initT, IntKind.bits, tab, callV, wpBuiltin, builtinV, BB, ↓updA, ↓reduceIte, Int.reduceLT, Int.reduceNeg, Int.reduceLE, Int.reduceToNat, Nat.reduceLT, Nat.reduceEqDiff, Nat.reduceAdd, Nat.reduceMul, Nat.reduceSub, Nat.reduceLeDiff, Nat.reduceBEq, load_cell (off := 0) x1 ty81 rfl]
       first
         | refine hK _ _ ?_
         | refine ⟨_, ⟨rfl, by first | rfl | trivial⟩, hK _ ?_⟩
         | refine ⟨_, ⟨_, _, rfl, by decide, by decide, rfl, by first | rfl | trivial⟩, hK _ ?_⟩
       clear hK)
    | refine wpOps_skip rfl ?_
    | refine quiet_skip rfl ?_
    | refine quiet_nil ?_
    | (refine wpOps_nil ?_
       simp only [thenA, inBlockA, noGotoA]
       first
         | ((first | refine hS _ _ ?_ | (clear hS; refine hS _ _ ?_) | (clear hS; clear hS; refine hS _ _ ?_) | (clear hS; clear hS; clear hS; refine hS _ _ ?_) | (clear hS; clear hS; clear hS; clear hS; refine hS _ _ ?_)); clear hS)
         | skip)
    | (refine wpC_label ?_
       simp only [thenA]
       (first | refine hS _ _ ?_ | (clear hS; refine hS _ _ ?_) | (clear hS; clear hS; refine hS _ _ ?_) | (clear hS; clear hS; clear hS; refine hS _ _ ?_) | (clear hS; clear hS; clear hS; clear hS; refine hS _ _ ?_))
       clear hS)
    | refine wpC_seq fun K hS => ?_
    | refine wpC_region rfl ?_
    | refine wpC_block ?_
    | refine wpC_scope ?_
    | (refine wpC_ret ?_
       simp (disch := omega) only [thenA, inBlockA, noGotoA, endsA, ressV, resV, oneV, putT, BB, ↓updA, ↓reduceIte, Nat.reduceLT, Nat.reduceEqDiff, load_cell (off := 0) x1 ty81 rfl]))
  rw [List.nil_append] at w4
  rcases w4 with ⟨h0, _⟩ | ⟨e, h1, h2, rfl⟩
  · exfalso
    have := congrArg List.length h0
    rw [pE_len, pairsOf_len, List.length_nil] at this
    have : 0 < hs.length := List.length_pos_iff.2 hne
    omega
  · have hel : e ≠ l := fun ee => by subst ee; rw [w2] at h2; cases h2
    refine ⟨_, rfl, [e], freeze_osl (by rw [upd_ne _ _ _ hel]; exact h2) ?_ hQ⟩
    have hHe : H e = none := by
      cases hh : H e with
      | none => rfl
      | some y => rw [hG0 _ _ hh] at h1; cases h1
    exact hle_upd (hle_upd (hle_trans hG0 w3) hl3.2) hHe
end Go.Av
