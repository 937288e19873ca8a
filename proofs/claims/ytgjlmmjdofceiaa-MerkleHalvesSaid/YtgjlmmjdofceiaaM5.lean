/-
  merkle: levels.
-/
import Derived.Test.YtgjlmmjdofceiaaM4
set_option linter.unusedSimpArgs false
set_option linter.unusedVariables false
namespace Go.Av
open Go.RowKit Go.Proofs

def hashP (p : List Nat × List Nat) : List Nat := twiceOf (p.1 ++ p.2)
def above (hs : List (List Nat)) : List (List Nat) := (pairsOf hs).map hashP
def levelsOf : Nat → List (List Nat) → List (List (List Nat))
  | 0, _ => []
  | f + 1, hs => if hs = [] then [] else hs :: (if hs.length ≤ 1 then [] else levelsOf f (above hs))

theorem above_len (hs : List (List Nat)) : (above hs).length = (hs.length + 1) / 2 := by rw [above, List.length_map, pairsOf_len]
theorem above_32 (hs : List (List Nat)) : all32 (above hs) := by
  intro h hm
  obtain ⟨p, _, rfl⟩ := List.mem_map.1 hm
  exact twiceOf_len _

def pair32 (ps : List (List Nat × List Nat)) : Prop := ∀ p ∈ ps, p.1.length = 32 ∧ p.2.length = 32
theorem pairsOf_32 : ∀ hs : List (List Nat), all32 hs → pair32 (pairsOf hs)
  | [], _ => fun p hp => by simp [pairsOf] at hp
  | [a], h => fun p hp => by
    simp only [pairsOf, List.mem_singleton] at hp
    subst hp
    exact ⟨h a (by simp), h a (by simp)⟩
  | a :: b :: r, h => fun p hp => by
    simp only [pairsOf, List.mem_cons] at hp
    rcases hp with rfl | hp
    · exact ⟨h a (by simp), h b (by simp)⟩
    · exact pairsOf_32 r (fun x hx => h x (by simp [hx])) p hp

/-- The iterator over levels. -/
def lvlS (Y : YEnv) (l : Nat) (Qe : Hp → Prop) : List (List (List Nat)) → V → Hp → Prop
  | [], _, H => Qe H
  | lv :: rest, v, H => ∃ Q₁ : V → Hp → Prop, Y l [v] H Q₁ ∧ ∀ r H', Q₁ r H' → (r = .bool false ∧ Qe H') ∨ (r = .bool true ∧ view H' 32 v = some (hE lv) ∧ lvlS Y l Qe rest (.sl 32 (hE (rest.headD [])) false) H')

def s35 : Spec := fun _ args H Q => ∃ v, args = [v] ∧ cellsV v = some [v] ∧ ∀ c, H c = none → Q (.fn (.func 49) [] [.ptr c 0]) (upd H c (some (.row [v])))

theorem snd35 : Sound Try.prog 35 s35 := by
  refine sound_of_body pm (tab_sound [] (by simp)) [] Try.func35 rfl (by kernel_rfl) ?_
  rintro Y args H Q ⟨v, rfl, h2, hQ⟩
  refine ⟨by simp [Try.f35], ?_⟩
  show wpC Try.prog (tab []) Y [] 4 _ true (endsA Try.prog [.tmp 2] Q) _ H
  repeat (first
    | ((first | refine wpOps_cons rfl fun K hK => ?_ | refine quiet_cons rfl fun K hK => ?_)
       simp (disch := omega) only [wpOp, pval, putT, owned, initT, IntKind.bits, tab, callV, wpBuiltin, builtinV, BB, ↓updA, ↓reduceIte, Int.reduceLT, Int.reduceNeg, Int.reduceLE, Int.reduceToNat, Nat.reduceLT, Nat.reduceEqDiff, Nat.reduceAdd, Nat.reduceMul, Nat.reduceSub, Nat.reduceLeDiff, Nat.reduceBEq]
       first
         | refine hK _ _ ?_
         | refine ⟨_, ⟨rfl, by first | rfl | trivial⟩, hK _ ?_⟩
         | refine ⟨_, ⟨_, _, rfl, by decide, by decide, rfl, by first | rfl | trivial⟩, hK _ ?_⟩
       clear hK)
    | refine wpOps_skip rfl ?_
    | refine quiet_skip rfl ?_
    | refine quiet_nil ?_
    | (refine wpOps_nil ?_
       simp only [thenA, inBlockA, noGotoA]
       first
         | ((first | refine hS _ _ ?_ | (clear hS; refine hS _ _ ?_) | (clear hS; clear hS; refine hS _ _ ?_) | (clear hS; clear hS; clear hS; refine hS _ _ ?_) | (clear hS; clear hS; clear hS; clear hS; refine hS _ _ ?_)); clear hS)
         | skip)
    | (refine wpC_label ?_
       simp only [thenA]
       (first | refine hS _ _ ?_ | (clear hS; refine hS _ _ ?_) | (clear hS; clear hS; refine hS _ _ ?_) | (clear hS; clear hS; clear hS; refine hS _ _ ?_) | (clear hS; clear hS; clear hS; clear hS; refine hS _ _ ?_))
       clear hS)
    | refine wpC_seq fun K hS => ?_
    | refine wpC_region rfl ?_
    | refine wpC_block ?_
    | refine wpC_scope ?_
    | (refine wpC_ret ?_
       simp (disch := omega) only [thenA, inBlockA, noGotoA, endsA, ressV, resV, oneV, putT, BB, ↓updA, ↓reduceIte, Nat.reduceLT, Nat.reduceEqDiff]))
  refine wpOps_cons rfl fun K hK => ⟨[v], h2, fun c hc => hK _ _ ?_⟩
  repeat (first
    | ((first | refine wpOps_cons rfl fun K hK => ?_ | refine quiet_cons rfl fun K hK => ?_)
       simp (disch := omega) only [wpOp, pval, putT, owned, initT, IntKind.bits, tab, callV, wpBuiltin, builtinV, BB, ↓updA, ↓reduceIte, Int.reduceLT, Int.reduceNeg, Int.reduceLE, Int.reduceToNat, Nat.reduceLT, Nat.reduceEqDiff, Nat.reduceAdd, Nat.reduceMul, Nat.reduceSub, Nat.reduceLeDiff, Nat.reduceBEq]
       first
         | refine hK _ _ ?_
         | refine ⟨_, ⟨rfl, by first | rfl | trivial⟩, hK _ ?_⟩
         | refine ⟨_, ⟨_, _, rfl, by decide, by decide, rfl, by first | rfl | trivial⟩, hK _ ?_⟩
       clear hK)
    | refine wpOps_skip rfl ?_
    | refine quiet_skip rfl ?_
    | refine quiet_nil ?_
    | (refine wpOps_nil ?_
       simp only [thenA, inBlockA, noGotoA]
       first
         | ((first | refine hS _ _ ?_ | (clear hS; refine hS _ _ ?_) | (clear hS; clear hS; refine hS _ _ ?_) | (clear hS; clear hS; clear hS; refine hS _ _ ?_) | (clear hS; clear hS; clear hS; clear hS; refine hS _ _ ?_)); clear hS)
         | skip)
    | (refine wpC_label ?_
       simp only [thenA]
       (first | refine hS _ _ ?_ | (clear hS; refine hS _ _ ?_) | (clear hS; clear hS; refine hS _ _ ?_) | (clear hS; clear hS; clear hS; refine hS _ _ ?_) | (clear hS; clear hS; clear hS; clear hS; refine hS _ _ ?_))
       clear hS)
    | refine wpC_seq fun K hS => ?_
    | refine wpC_region rfl ?_
    | refine wpC_block ?_
    | refine wpC_scope ?_
    | (refine wpC_ret ?_
       simp (disch := omega) only [thenA, inBlockA, noGotoA, endsA, ressV, resV, oneV, putT, BB, ↓updA, ↓reduceIte, Nat.reduceLT, Nat.reduceEqDiff]))
  exact ⟨_, rfl, [], _, hle_refl _, hQ c hc⟩

theorem z84 : zeroT Try.prog 84 = some (List.replicate 64 (vN .u8 0)) := by kernel_rfl

theorem pE_get (ps : List (List Nat × List Nat)) (i : Nat) (h : i < ps.length) : (pE ps)[i]? = some (nR .u8 ((ps.getD i ([], [])).1 ++ (ps.getD i ([], [])).2)) := by
  simp [pE, List.getElem?_eq_getElem h]
theorem pair32_get {ps : List (List Nat × List Nat)} (h : pair32 ps) {i : Nat} (hi : i < ps.length) : (ps.getD i ([], [])).1.length = 32 ∧ (ps.getD i ([], [])).2.length = 32 := by
  rw [List.getD_eq_getElem?_getD, List.getElem?_eq_getElem hi]
  exact h _ (List.getElem_mem hi)

theorem hle_none {G X : Hp} (h : hle G X) {e : Nat} (he : X e = none) : G e = none := by
  cases hh : G e with
  | none => rfl
  | some y => rw [h _ _ hh] at he; cases he

section
variable {Y : YEnv} {Q : Exit → T → Hp → Prop} {t : T} {H : Hp} {ps : List (List Nat × List Nat)}

theorem l49_2 (q4 : t 4 = .nils) (q21 : t 21 = .sl 64 (pE ps) false) (q22 : t 22 = vN .i64 ps.length) (q23 : t 23 = vN .i64 0) (h32 : pair32 ps) (hl : ps.length ≤ 1073741824)
    (hQ : ∀ t' v' X', t' 0 = t 0 → t' 4 = v' → okO H X' v' 32 (hE (ps.map hashP)) → hle H X' → Q (.exit 2) t' X') :
    wpC Try.prog (tab [(37, s37), (39, s39)]) Y [33] 34 (loopAt Try.f49 1) true Q t H := by
  refine wpC_loop (fun m t' X => ∃ i v, m = ps.length - i ∧ i ≤ ps.length ∧ t' 0 = t 0 ∧ t' 4 = v ∧ t' 21 = .sl 64 (pE ps) false ∧ t' 22 = vN .i64 ps.length ∧ t' 23 = vN .i64 i ∧ okO H X v 32 (hE ((ps.take i).map hashP)) ∧ hle H X) ps.length ⟨0, .nils, rfl, by omega, rfl, q4, q21, q22, q23, .inl ⟨rfl, rfl⟩, hle_refl _⟩ fun KL m t1 X hI hKL => ?_
  obtain ⟨i, v, rfl, hi, q0, q4, q21, q22, q23, hok, hX⟩ := hI
  repeat (first
    | ((first | refine wpOps_cons rfl fun K hK => ?_ | refine quiet_cons rfl fun K hK => ?_)
       simp (disch := omega) only [wpOp, pval, putT, owned, initT, IntKind.bits, tab, callV, wpBuiltin, builtinV, BB, ↓updA, ↓reduceIte, Int.reduceLT, Int.reduceNeg, Int.reduceLE, Int.reduceToNat, Nat.reduceLT, Nat.reduceEqDiff, Nat.reduceAdd, Nat.reduceMul, Nat.reduceSub, Nat.reduceLeDiff, Nat.reduceBEq, q22, q23]
       first
         | refine hK _ _ ?_
         | refine ⟨_, ⟨rfl, by first | rfl | trivial⟩, hK _ ?_⟩
         | refine ⟨_, ⟨_, _, rfl, by decide, by decide, rfl, by first | rfl | trivial⟩, hK _ ?_⟩
       clear hK)
    | refine wpOps_skip rfl ?_
    | refine quiet_skip rfl ?_
    | refine quiet_nil ?_
    | (refine wpOps_nil ?_
       simp only [thenA, inBlockA, noGotoA]
       first
         | ((first | refine hS _ _ ?_ | (clear hS; refine hS _ _ ?_) | (clear hS; clear hS; refine hS _ _ ?_) | (clear hS; clear hS; clear hS; refine hS _ _ ?_) | (clear hS; clear hS; clear hS; clear hS; refine hS _ _ ?_)); clear hS)
         | skip)
    | (refine wpC_label ?_
       simp only [thenA]
       (first | refine hS _ _ ?_ | (clear hS; refine hS _ _ ?_) | (clear hS; clear hS; refine hS _ _ ?_) | (clear hS; clear hS; clear hS; refine hS _ _ ?_) | (clear hS; clear hS; clear hS; clear hS; refine hS _ _ ?_))
       clear hS)
    | refine wpC_seq fun K hS => ?_
    | refine wpC_region rfl ?_
    | refine wpC_block ?_
    | refine wpC_scope ?_
    | (refine wpC_ret ?_
       simp (disch := omega) only [thenA, inBlockA, noGotoA, endsA, ressV, resV, oneV, putT, BB, ↓updA, ↓reduceIte, Nat.reduceLT, Nat.reduceEqDiff, q22, q23]))
  refine wpC_dec rfl (fun hd => ?_) (fun hd => ?_)
  · (refine wpC_skip ?_; simp only [thenA, inBlockA, noGotoA]; (first | refine hS _ _ ?_ | (clear hS; refine hS _ _ ?_) | (clear hS; clear hS; refine hS _ _ ?_) | (clear hS; clear hS; clear hS; refine hS _ _ ?_) | (clear hS; clear hS; clear hS; clear hS; refine hS _ _ ?_)); clear hS)
    have hv : view X 64 (.sl 64 (pE ps) false) = some (pE ps) := by simp [view]
    obtain ⟨g1, g2⟩ := pair32_get h32 hd
    obtain ⟨p, hp, hpl⟩ := elem_viewA (P := Try.prog) (k := .i64) ar81 sl81 hv (pE_get ps i hd) (by rw [nR_len, List.length_append, g1, g2])
    have htk : (ps.take (i + 1)).map hashP = (ps.take i).map hashP ++ [twiceOf ((ps.getD i ([], [])).1 ++ (ps.getD i ([], [])).2)] := by
      rw [List.take_succ_eq_append_getElem hd, List.map_append, List.getD_eq_getElem?_getD, List.getElem?_eq_getElem hd]
      rfl
    have hlt : (hE ((ps.take i).map hashP)).length = i := by rw [hE_len, List.length_map, List.length_take]; omega
    generalize (ps.getD i ([], [])).1 = a at *
    generalize (ps.getD i ([], [])).2 = b at *
    repeat (first
    | ((first | refine wpOps_cons rfl fun K hK => ?_ | refine quiet_cons rfl fun K hK => ?_)
       simp (disch := omega) only [wpOp, pval, putT, owned, initT, IntKind.bits, tab, callV, wpBuiltin, builtinV, BB, ↓updA, ↓reduceIte, Int.reduceLT, Int.reduceNeg, Int.reduceLE, Int.reduceToNat, Nat.reduceLT, Nat.reduceEqDiff, Nat.reduceAdd, Nat.reduceMul, Nat.reduceSub, Nat.reduceLeDiff, Nat.reduceBEq, q21, q23, hp, hpl, ty84]
       first
         | refine hK _ _ ?_
         | refine ⟨_, ⟨rfl, by first | rfl | trivial⟩, hK _ ?_⟩
         | refine ⟨_, ⟨_, _, rfl, by decide, by decide, rfl, by first | rfl | trivial⟩, hK _ ?_⟩
       clear hK)
    | refine wpOps_skip rfl ?_
    | refine quiet_skip rfl ?_
    | refine quiet_nil ?_
    | (refine wpOps_nil ?_
       simp only [thenA, inBlockA, noGotoA]
       first
         | ((first | refine hS _ _ ?_ | (clear hS; refine hS _ _ ?_) | (clear hS; clear hS; refine hS _ _ ?_) | (clear hS; clear hS; clear hS; refine hS _ _ ?_) | (clear hS; clear hS; clear hS; clear hS; refine hS _ _ ?_)); clear hS)
         | skip)
    | (refine wpC_label ?_
       simp only [thenA]
       (first | refine hS _ _ ?_ | (clear hS; refine hS _ _ ?_) | (clear hS; clear hS; refine hS _ _ ?_) | (clear hS; clear hS; clear hS; refine hS _ _ ?_) | (clear hS; clear hS; clear hS; clear hS; refine hS _ _ ?_))
       clear hS)
    | refine wpC_seq fun K hS => ?_
    | refine wpC_region rfl ?_
    | refine wpC_block ?_
    | refine wpC_scope ?_
    | (refine wpC_ret ?_
       simp (disch := omega) only [thenA, inBlockA, noGotoA, endsA, ressV, resV, oneV, putT, BB, ↓updA, ↓reduceIte, Nat.reduceLT, Nat.reduceEqDiff, q21, q23, hp, hpl, ty84]))
    refine wpOps_cons rfl fun K hK => ⟨_, z84, fun c hc => hK _ _ ?_⟩
    refine wpOps_cons rfl fun K hK => ?_
    simp (disch := omega) only [wpOp, pval, putT, owned, initT, IntKind.bits, tab, callV, wpBuiltin, builtinV, BB, ↓updA, ↓reduceIte, Int.reduceLT, Int.reduceNeg, Int.reduceLE, Int.reduceToNat, Nat.reduceLT, Nat.reduceEqDiff, Nat.reduceAdd, Nat.reduceMul, Nat.reduceSub, Nat.reduceLeDiff, Nat.reduceBEq]
    refine ⟨_, store_agg (b := c) (upd_eq _ _ _) ty84 (by rw [nR_len, List.length_append, g1, g2]) (nR_ones _ _) rfl, hK _ _ ?_⟩
    rw [upd_upd]
    repeat (first
    | ((first | refine wpOps_cons rfl fun K hK => ?_ | refine quiet_cons rfl fun K hK => ?_)
       simp (disch := omega) only [wpOp, pval, putT, owned, initT, IntKind.bits, tab, callV, wpBuiltin, builtinV, BB, ↓updA, ↓reduceIte, Int.reduceLT, Int.reduceNeg, Int.reduceLE, Int.reduceToNat, Nat.reduceLT, Nat.reduceEqDiff, Nat.reduceAdd, Nat.reduceMul, Nat.reduceSub, Nat.reduceLeDiff, Nat.reduceBEq, load_agg (P := Try.prog) (t := 84) (upd_eq X c (some (.row (nR .u8 (a ++ b))))) ty84 (by rw [nR_len, List.length_append, g1, g2])]
       first
         | refine hK _ _ ?_
         | refine ⟨_, ⟨rfl, by first | rfl | trivial⟩, hK _ ?_⟩
         | refine ⟨_, ⟨_, _, rfl, by decide, by decide, rfl, by first | rfl | trivial⟩, hK _ ?_⟩
       clear hK)
    | refine wpOps_skip rfl ?_
    | refine quiet_skip rfl ?_
    | refine quiet_nil ?_
    | (refine wpOps_nil ?_
       simp only [thenA, inBlockA, noGotoA]
       first
         | ((first | refine hS _ _ ?_ | (clear hS; refine hS _ _ ?_) | (clear hS; clear hS; refine hS _ _ ?_) | (clear hS; clear hS; clear hS; refine hS _ _ ?_) | (clear hS; clear hS; clear hS; clear hS; refine hS _ _ ?_)); clear hS)
         | skip)
    | (refine wpC_label ?_
       simp only [thenA]
       (first | refine hS _ _ ?_ | (clear hS; refine hS _ _ ?_) | (clear hS; clear hS; refine hS _ _ ?_) | (clear hS; clear hS; clear hS; refine hS _ _ ?_) | (clear hS; clear hS; clear hS; clear hS; refine hS _ _ ?_))
       clear hS)
    | refine wpC_seq fun K hS => ?_
    | refine wpC_region rfl ?_
    | refine wpC_block ?_
    | refine wpC_scope ?_
    | (refine wpC_ret ?_
       simp (disch := omega) only [thenA, inBlockA, noGotoA, endsA, ressV, resV, oneV, putT, BB, ↓updA, ↓reduceIte, Nat.reduceLT, Nat.reduceEqDiff, load_agg (P := Try.prog) (t := 84) (upd_eq X c (some (.row (nR .u8 (a ++ b))))) ty84 (by rw [nR_len, List.length_append, g1, g2])]))
    refine wpOps_cons rfl fun K hK => ⟨a, b, rfl, g1, g2, hK _ _ ?_⟩
    refine wpOps_cons rfl fun K hK => ⟨32, [List.replicate 32 (vN .u8 0)], [nR .u8 (twiceOf (a ++ b))], by kernel_rfl, by omega, ?_, hK _ _ ?_⟩
    · simp only [List.map_cons, List.map_nil, buildEs]
      simp (disch := omega) only [wpOp, pval, putT, owned, initT, IntKind.bits, tab, callV, wpBuiltin, builtinV, BB, ↓updA, ↓reduceIte, Int.reduceLT, Int.reduceNeg, Int.reduceLE, Int.reduceToNat, Nat.reduceLT, Nat.reduceEqDiff, Nat.reduceAdd, Nat.reduceMul, Nat.reduceSub, Nat.reduceLeDiff, Nat.reduceBEq, cellsV]
      rw [if_pos ⟨by rw [nR_len, twiceOf_len], by simp⟩]
      rfl
    repeat (first
    | ((first | refine wpOps_cons rfl fun K hK => ?_ | refine quiet_cons rfl fun K hK => ?_)
       simp (disch := omega) only [wpOp, pval, putT, owned, initT, IntKind.bits, tab, callV, wpBuiltin, builtinV, BB, ↓updA, ↓reduceIte, Int.reduceLT, Int.reduceNeg, Int.reduceLE, Int.reduceToNat, Nat.reduceLT, Nat.reduceEqDiff, Nat.reduceAdd, Nat.reduceMul, Nat.reduceSub, Nat.reduceLeDiff, Nat.reduceBEq, q4]
       first
         | refine hK _ _ ?_
         | refine ⟨_, ⟨rfl, by first | rfl | trivial⟩, hK _ ?_⟩
         | refine ⟨_, ⟨_, _, rfl, by decide, by decide, rfl, by first | rfl | trivial⟩, hK _ ?_⟩
       clear hK)
    | refine wpOps_skip rfl ?_
    | refine quiet_skip rfl ?_
    | refine quiet_nil ?_
    | (refine wpOps_nil ?_
       simp only [thenA, inBlockA, noGotoA]
       first
         | ((first | refine hS _ _ ?_ | (clear hS; refine hS _ _ ?_) | (clear hS; clear hS; refine hS _ _ ?_) | (clear hS; clear hS; clear hS; refine hS _ _ ?_) | (clear hS; clear hS; clear hS; clear hS; refine hS _ _ ?_)); clear hS)
         | skip)
    | (refine wpC_label ?_
       simp only [thenA]
       (first | refine hS _ _ ?_ | (clear hS; refine hS _ _ ?_) | (clear hS; clear hS; refine hS _ _ ?_) | (clear hS; clear hS; clear hS; refine hS _ _ ?_) | (clear hS; clear hS; clear hS; clear hS; refine hS _ _ ?_))
       clear hS)
    | refine wpC_seq fun K hS => ?_
    | refine wpC_region rfl ?_
    | refine wpC_block ?_
    | refine wpC_scope ?_
    | (refine wpC_ret ?_
       simp (disch := omega) only [thenA, inBlockA, noGotoA, endsA, ressV, resV, oneV, putT, BB, ↓updA, ↓reduceIte, Nat.reduceLT, Nat.reduceEqDiff, q4]))
    refine wpOps_cons rfl fun K hK => ?_
    simp (disch := omega) only [wpOp, pval, putT, owned, initT, IntKind.bits, tab, callV, wpBuiltin, builtinV, BB, ↓updA, ↓reduceIte, Int.reduceLT, Int.reduceNeg, Int.reduceLE, Int.reduceToNat, Nat.reduceLT, Nat.reduceEqDiff, Nat.reduceAdd, Nat.reduceMul, Nat.reduceSub, Nat.reduceLeDiff, Nat.reduceBEq, q4]
    have hok2 : okO H (upd X c (some (.row (nR .u8 (a ++ b))))) v 32 (hE ((ps.take i).map hashP)) := okO_upd hok fun es' h => by rw [hc] at h; cases h
    have hle2 : hle H (upd X c (some (.row (nR .u8 (a ++ b))))) := hle_upd hX (hle_none hX hc)
    refine append_okO (x := .sl 32 [nR .u8 (twiceOf (a ++ b))] true) (fs := hE [twiceOf (a ++ b)]) hok2 hle2 ds22 sl22 (by simp [view, hE]) (hE_ones _) (by simp [hE]) (by rw [by22, hlt, hE_len]; simp; omega) (by rw [hlt, hE_len]; simp; omega) fun v' X' hok' hG' _ => hK _ _ ?_
    rw [hE_append, ← htk] at hok'
    repeat (first
    | ((first | refine wpOps_cons rfl fun K hK => ?_ | refine quiet_cons rfl fun K hK => ?_)
       simp (disch := omega) only [wpOp, pval, putT, owned, initT, IntKind.bits, tab, callV, wpBuiltin, builtinV, BB, ↓updA, ↓reduceIte, Int.reduceLT, Int.reduceNeg, Int.reduceLE, Int.reduceToNat, Nat.reduceLT, Nat.reduceEqDiff, Nat.reduceAdd, Nat.reduceMul, Nat.reduceSub, Nat.reduceLeDiff, Nat.reduceBEq, q23, i64_add]
       first
         | refine hK _ _ ?_
         | refine ⟨_, ⟨rfl, by first | rfl | trivial⟩, hK _ ?_⟩
         | refine ⟨_, ⟨_, _, rfl, by decide, by decide, rfl, by first | rfl | trivial⟩, hK _ ?_⟩
       clear hK)
    | refine wpOps_skip rfl ?_
    | refine quiet_skip rfl ?_
    | refine quiet_nil ?_
    | (refine wpOps_nil ?_
       simp only [thenA, inBlockA, noGotoA]
       first
         | ((first | refine hS _ _ ?_ | (clear hS; refine hS _ _ ?_) | (clear hS; clear hS; refine hS _ _ ?_) | (clear hS; clear hS; clear hS; refine hS _ _ ?_) | (clear hS; clear hS; clear hS; clear hS; refine hS _ _ ?_)); clear hS)
         | skip)
    | (refine wpC_label ?_
       simp only [thenA]
       (first | refine hS _ _ ?_ | (clear hS; refine hS _ _ ?_) | (clear hS; clear hS; refine hS _ _ ?_) | (clear hS; clear hS; clear hS; refine hS _ _ ?_) | (clear hS; clear hS; clear hS; clear hS; refine hS _ _ ?_))
       clear hS)
    | refine wpC_seq fun K hS => ?_
    | refine wpC_region rfl ?_
    | refine wpC_block ?_
    | refine wpC_scope ?_
    | (refine wpC_ret ?_
       simp (disch := omega) only [thenA, inBlockA, noGotoA, endsA, ressV, resV, oneV, putT, BB, ↓updA, ↓reduceIte, Nat.reduceLT, Nat.reduceEqDiff, q23, i64_add]))
    refine hKL _ _ _ (by omega : ps.length - (i + 1) < ps.length - i) ⟨i + 1, v', rfl, by omega, ?_, ?_, ?_, ?_, ?_, hok', hG'⟩
    · simp (disch := omega) only [wpOp, pval, putT, owned, initT, IntKind.bits, tab, callV, wpBuiltin, builtinV, BB, ↓updA, ↓reduceIte, Int.reduceLT, Int.reduceNeg, Int.reduceLE, Int.reduceToNat, Nat.reduceLT, Nat.reduceEqDiff, Nat.reduceAdd, Nat.reduceMul, Nat.reduceSub, Nat.reduceLeDiff, Nat.reduceBEq, q0]
    · simp (disch := omega) only [wpOp, pval, putT, owned, initT, IntKind.bits, tab, callV, wpBuiltin, builtinV, BB, ↓updA, ↓reduceIte, Int.reduceLT, Int.reduceNeg, Int.reduceLE, Int.reduceToNat, Nat.reduceLT, Nat.reduceEqDiff, Nat.reduceAdd, Nat.reduceMul, Nat.reduceSub, Nat.reduceLeDiff, Nat.reduceBEq]
    · simp (disch := omega) only [wpOp, pval, putT, owned, initT, IntKind.bits, tab, callV, wpBuiltin, builtinV, BB, ↓updA, ↓reduceIte, Int.reduceLT, Int.reduceNeg, Int.reduceLE, Int.reduceToNat, Nat.reduceLT, Nat.reduceEqDiff, Nat.reduceAdd, Nat.reduceMul, Nat.reduceSub, Nat.reduceLeDiff, Nat.reduceBEq, q21]
    · simp (disch := omega) only [wpOp, pval, putT, owned, initT, IntKind.bits, tab, callV, wpBuiltin, builtinV, BB, ↓updA, ↓reduceIte, Int.reduceLT, Int.reduceNeg, Int.reduceLE, Int.reduceToNat, Nat.reduceLT, Nat.reduceEqDiff, Nat.reduceAdd, Nat.reduceMul, Nat.reduceSub, Nat.reduceLeDiff, Nat.reduceBEq, q22]
    · simp (disch := omega) only [wpOp, pval, putT, owned, initT, IntKind.bits, tab, callV, wpBuiltin, builtinV, BB, ↓updA, ↓reduceIte, Int.reduceLT, Int.reduceNeg, Int.reduceLE, Int.reduceToNat, Nat.reduceLT, Nat.reduceEqDiff, Nat.reduceAdd, Nat.reduceMul, Nat.reduceSub, Nat.reduceLeDiff, Nat.reduceBEq]
  · refine wpC_exit ?_
    have : i = ps.length := by omega
    subst this
    rw [List.take_of_length_le (Nat.le_refl _)] at hok
    refine hQ _ v _ ?_ ?_ hok hX
    · simp (disch := omega) only [wpOp, pval, putT, owned, initT, IntKind.bits, tab, callV, wpBuiltin, builtinV, BB, ↓updA, ↓reduceIte, Int.reduceLT, Int.reduceNeg, Int.reduceLE, Int.reduceToNat, Nat.reduceLT, Nat.reduceEqDiff, Nat.reduceAdd, Nat.reduceMul, Nat.reduceSub, Nat.reduceLeDiff, Nat.reduceBEq, q0]
    · simp (disch := omega) only [wpOp, pval, putT, owned, initT, IntKind.bits, tab, callV, wpBuiltin, builtinV, BB, ↓updA, ↓reduceIte, Int.reduceLT, Int.reduceNeg, Int.reduceLE, Int.reduceToNat, Nat.reduceLT, Nat.reduceEqDiff, Nat.reduceAdd, Nat.reduceMul, Nat.reduceSub, Nat.reduceLeDiff, Nat.reduceBEq, q4]
end

def s49 : Spec := fun Y args H Q => ∃ l b x hs f, args = [.fn (.yield l) [] [], .ptr b 0] ∧ H b = some (.row [x]) ∧ view H 32 x = some (hE hs) ∧ notR x = true ∧ all32 hs ∧ hs.length ≤ 1073741824 ∧ hs.length ≤ f ∧ lvlS Y l (fun H' => Q (.tup []) H') (levelsOf f hs) x H

theorem snd49 : Sound Try.prog 49 s49 := by
  refine sound_of_body pm (tab_sound [(37, s37), (39, s39)] (by simp [snd37, snd39])) [33] Try.func49 rfl (by kernel_rfl) ?_
  rintro Y args H Q ⟨l, b, x, hs, f, rfl, hb, hv, hx, h32, hl, hf, hS⟩
  refine ⟨by simp [Try.f49], ?_⟩
  show wpC Try.prog (tab [(37, s37), (39, s39)]) Y [33] 34 _ true (endsA Try.prog [] Q) _ H
  repeat (first
    | ((first | refine wpOps_cons rfl fun K hK => ?_ | refine quiet_cons rfl fun K hK => ?_)
       simp (disch := omega) only [wpOp, pval, putT, owned, initT, IntKind.bits, tab, callV, wpBuiltin, builtinV, BB, ↓updA, ↓reduceIte, Int.reduceLT, Int.reduceNeg, Int.reduceLE, Int.reduceToNat, Nat.reduceLT, Nat.reduceEqDiff, Nat.reduceAdd, Nat.reduceMul, Nat.reduceSub, Nat.reduceLeDiff, Nat.reduceBEq, load_cell (off := 0) hb ty22 rfl]
       first
         | refine hK _ _ ?_
         | refine ⟨_, ⟨rfl, by first | rfl | trivial⟩, hK _ ?_⟩
         | refine ⟨_, ⟨_, _, rfl, by decide, by decide, rfl, by first | rfl | trivial⟩, hK _ ?_⟩
       clear hK)
    | refine wpOps_skip rfl ?_
    | refine quiet_skip rfl ?_
    | refine quiet_nil ?_
    | (refine wpOps_nil ?_
       simp only [thenA, inBlockA, noGotoA]
       first
         | ((first | refine hS _ _ ?_ | (clear hS; refine hS _ _ ?_) | (clear hS; clear hS; refine hS _ _ ?_) | (clear hS; clear hS; clear hS; refine hS _ _ ?_) | (clear hS; clear hS; clear hS; clear hS; refine hS _ _ ?_)); clear hS)
         | skip)
    | (refine wpC_label ?_
       simp only [thenA]
       (first | refine hS _ _ ?_ | (clear hS; refine hS _ _ ?_) | (clear hS; clear hS; refine hS _ _ ?_) | (clear hS; clear hS; clear hS; refine hS _ _ ?_) | (clear hS; clear hS; clear hS; clear hS; refine hS _ _ ?_))
       clear hS)
    | refine wpC_seq fun K hS => ?_
    | refine wpC_region rfl ?_
    | refine wpC_block ?_
    | refine wpC_scope ?_
    | (refine wpC_ret ?_
       simp (disch := omega) only [thenA, inBlockA, noGotoA, endsA, ressV, resV, oneV, putT, BB, ↓updA, ↓reduceIte, Nat.reduceLT, Nat.reduceEqDiff, load_cell (off := 0) hb ty22 rfl]))
  refine wpC_loop (fun m t X => ∃ v lv, t 0 = .fn (.yield l) [] [] ∧ t 3 = v ∧ view X 32 v = some (hE lv) ∧ notR v = true ∧ all32 lv ∧ lv.length ≤ 1073741824 ∧ lv.length ≤ m ∧ lvlS Y l (fun H' => Q (.tup []) H') (levelsOf m lv) v X) f ⟨x, hs, rfl, rfl, hv, hx, h32, hl, hf, hS⟩ fun KL m t X hI hKL => ?_
  clear hS hv hb hx h32 hl hf
  obtain ⟨v, lv, q0, q3, hv, hx, h32, hl, hm, hS⟩ := hI
  have hly := lenV_view (P := Try.prog) sl22 hv
  rw [hE_len] at hly
  repeat (first
    | ((first | refine wpOps_cons rfl fun K hK => ?_ | refine quiet_cons rfl fun K hK => ?_)
       simp (disch := omega) only [wpOp, pval, putT, owned, initT, IntKind.bits, tab, callV, wpBuiltin, builtinV, BB, ↓updA, ↓reduceIte, Int.reduceLT, Int.reduceNeg, Int.reduceLE, Int.reduceToNat, Nat.reduceLT, Nat.reduceEqDiff, Nat.reduceAdd, Nat.reduceMul, Nat.reduceSub, Nat.reduceLeDiff, Nat.reduceBEq, q3, hly]
       first
         | refine hK _ _ ?_
         | refine ⟨_, ⟨rfl, by first | rfl | trivial⟩, hK _ ?_⟩
         | refine ⟨_, ⟨_, _, rfl, by decide, by decide, rfl, by first | rfl | trivial⟩, hK _ ?_⟩
       clear hK)
    | refine wpOps_skip rfl ?_
    | refine quiet_skip rfl ?_
    | refine quiet_nil ?_
    | (refine wpOps_nil ?_
       simp only [thenA, inBlockA, noGotoA]
       first
         | ((first | refine hS _ _ ?_ | (clear hS; refine hS _ _ ?_) | (clear hS; clear hS; refine hS _ _ ?_) | (clear hS; clear hS; clear hS; refine hS _ _ ?_) | (clear hS; clear hS; clear hS; clear hS; refine hS _ _ ?_)); clear hS)
         | skip)
    | (refine wpC_label ?_
       simp only [thenA]
       (first | refine hS _ _ ?_ | (clear hS; refine hS _ _ ?_) | (clear hS; clear hS; refine hS _ _ ?_) | (clear hS; clear hS; clear hS; refine hS _ _ ?_) | (clear hS; clear hS; clear hS; clear hS; refine hS _ _ ?_))
       clear hS)
    | refine wpC_seq fun K hS => ?_
    | refine wpC_region rfl ?_
    | refine wpC_block ?_
    | refine wpC_scope ?_
    | (refine wpC_ret ?_
       simp (disch := omega) only [thenA, inBlockA, noGotoA, endsA, ressV, resV, oneV, putT, BB, ↓updA, ↓reduceIte, Nat.reduceLT, Nat.reduceEqDiff, q3, hly]))
  refine wpC_dec rfl (fun hd => ?_) (fun hd => ?_)
  · (refine wpC_skip ?_; simp only [thenA, inBlockA, noGotoA]; (first | refine hS _ _ ?_ | (clear hS; refine hS _ _ ?_) | (clear hS; clear hS; refine hS _ _ ?_) | (clear hS; clear hS; clear hS; refine hS _ _ ?_) | (clear hS; clear hS; clear hS; clear hS; refine hS _ _ ?_)); clear hS)
    cases m with
    | zero => omega
    | succ m =>
      have hlv : lv ≠ [] := fun e => by subst e; simp at hd
      rw [levelsOf, if_neg hlv] at hS
      obtain ⟨Q₁, hY, hQ₁⟩ := hS
      repeat (first
    | ((first | refine wpOps_cons rfl fun K hK => ?_ | refine quiet_cons rfl fun K hK => ?_)
       simp (disch := omega) only [wpOp, pval, putT, owned, initT, IntKind.bits, tab, callV, wpBuiltin, builtinV, BB, ↓updA, ↓reduceIte, Int.reduceLT, Int.reduceNeg, Int.reduceLE, Int.reduceToNat, Nat.reduceLT, Nat.reduceEqDiff, Nat.reduceAdd, Nat.reduceMul, Nat.reduceSub, Nat.reduceLeDiff, Nat.reduceBEq, q0, q3]
       first
         | refine hK _ _ ?_
         | refine ⟨_, ⟨rfl, by first | rfl | trivial⟩, hK _ ?_⟩
         | refine ⟨_, ⟨_, _, rfl, by decide, by decide, rfl, by first | rfl | trivial⟩, hK _ ?_⟩
       clear hK)
    | refine wpOps_skip rfl ?_
    | refine quiet_skip rfl ?_
    | refine quiet_nil ?_
    | (refine wpOps_nil ?_
       simp only [thenA, inBlockA, noGotoA]
       first
         | ((first | refine hS _ _ ?_ | (clear hS; refine hS _ _ ?_) | (clear hS; clear hS; refine hS _ _ ?_) | (clear hS; clear hS; clear hS; refine hS _ _ ?_) | (clear hS; clear hS; clear hS; clear hS; refine hS _ _ ?_)); clear hS)
         | skip)
    | (refine wpC_label ?_
       simp only [thenA]
       (first | refine hS _ _ ?_ | (clear hS; refine hS _ _ ?_) | (clear hS; clear hS; refine hS _ _ ?_) | (clear hS; clear hS; clear hS; refine hS _ _ ?_) | (clear hS; clear hS; clear hS; clear hS; refine hS _ _ ?_))
       clear hS)
    | refine wpC_seq fun K hS => ?_
    | refine wpC_region rfl ?_
    | refine wpC_block ?_
    | refine wpC_scope ?_
    | (refine wpC_ret ?_
       simp (disch := omega) only [thenA, inBlockA, noGotoA, endsA, ressV, resV, oneV, putT, BB, ↓updA, ↓reduceIte, Nat.reduceLT, Nat.reduceEqDiff, q0, q3]))
      refine wpOps_cons rfl fun K hK => ?_
      simp (disch := omega) only [wpOp, pval, putT, owned, initT, IntKind.bits, tab, callV, wpBuiltin, builtinV, BB, ↓updA, ↓reduceIte, Int.reduceLT, Int.reduceNeg, Int.reduceLE, Int.reduceToNat, Nat.reduceLT, Nat.reduceEqDiff, Nat.reduceAdd, Nat.reduceMul, Nat.reduceSub, Nat.reduceLeDiff, Nat.reduceBEq, q0]
      refine ⟨Q₁, hY, fun r X' hq => hK _ _ ?_⟩
      rcases hQ₁ r X' hq with ⟨rfl, hQe⟩ | ⟨rfl, hv', hnext⟩
      · repeat (first
    | ((first | refine wpOps_cons rfl fun K hK => ?_ | refine quiet_cons rfl fun K hK => ?_)
       simp (disch := omega) only [wpOp, pval, putT, owned, initT, IntKind.bits, tab, callV, wpBuiltin, builtinV, BB, ↓updA, ↓reduceIte, Int.reduceLT, Int.reduceNeg, Int.reduceLE, Int.reduceToNat, Nat.reduceLT, Nat.reduceEqDiff, Nat.reduceAdd, Nat.reduceMul, Nat.reduceSub, Nat.reduceLeDiff, Nat.reduceBEq, q3]
       first
         | refine hK _ _ ?_
         | refine ⟨_, ⟨rfl, by first | rfl | trivial⟩, hK _ ?_⟩
         | refine ⟨_, ⟨_, _, rfl, by decide, by decide, rfl, by first | rfl | trivial⟩, hK _ ?_⟩
       clear hK)
    | refine wpOps_skip rfl ?_
    | refine quiet_skip rfl ?_
    | refine quiet_nil ?_
    | (refine wpOps_nil ?_
       simp only [thenA, inBlockA, noGotoA]
       first
         | ((first | refine hS _ _ ?_ | (clear hS; refine hS _ _ ?_) | (clear hS; clear hS; refine hS _ _ ?_) | (clear hS; clear hS; clear hS; refine hS _ _ ?_) | (clear hS; clear hS; clear hS; clear hS; refine hS _ _ ?_)); clear hS)
         | skip)
    | (refine wpC_label ?_
       simp only [thenA]
       (first | refine hS _ _ ?_ | (clear hS; refine hS _ _ ?_) | (clear hS; clear hS; refine hS _ _ ?_) | (clear hS; clear hS; clear hS; refine hS _ _ ?_) | (clear hS; clear hS; clear hS; clear hS; refine hS _ _ ?_))
       clear hS)
    | refine wpC_seq fun K hS => ?_
    | refine wpC_region rfl ?_
    | refine wpC_block ?_
    | refine wpC_scope ?_
    | (refine wpC_ret ?_
       simp (disch := omega) only [thenA, inBlockA, noGotoA, endsA, ressV, resV, oneV, putT, BB, ↓updA, ↓reduceIte, Nat.reduceLT, Nat.reduceEqDiff, q3]))
        refine wpC_true rfl ?_
        repeat (first
    | ((first | refine wpOps_cons rfl fun K hK => ?_ | refine quiet_cons rfl fun K hK => ?_)
       simp (disch := omega) only [wpOp, pval, putT, owned, initT, IntKind.bits, tab, callV, wpBuiltin, builtinV, BB, ↓updA, ↓reduceIte, Int.reduceLT, Int.reduceNeg, Int.reduceLE, Int.reduceToNat, Nat.reduceLT, Nat.reduceEqDiff, Nat.reduceAdd, Nat.reduceMul, Nat.reduceSub, Nat.reduceLeDiff, Nat.reduceBEq]
       first
         | refine hK _ _ ?_
         | refine ⟨_, ⟨rfl, by first | rfl | trivial⟩, hK _ ?_⟩
         | refine ⟨_, ⟨_, _, rfl, by decide, by decide, rfl, by first | rfl | trivial⟩, hK _ ?_⟩
       clear hK)
    | refine wpOps_skip rfl ?_
    | refine quiet_skip rfl ?_
    | refine quiet_nil ?_
    | (refine wpOps_nil ?_
       simp only [thenA, inBlockA, noGotoA]
       first
         | ((first | refine hS _ _ ?_ | (clear hS; refine hS _ _ ?_) | (clear hS; clear hS; refine hS _ _ ?_) | (clear hS; clear hS; clear hS; refine hS _ _ ?_) | (clear hS; clear hS; clear hS; clear hS; refine hS _ _ ?_)); clear hS)
         | skip)
    | (refine wpC_label ?_
       simp only [thenA]
       (first | refine hS _ _ ?_ | (clear hS; refine hS _ _ ?_) | (clear hS; clear hS; refine hS _ _ ?_) | (clear hS; clear hS; clear hS; refine hS _ _ ?_) | (clear hS; clear hS; clear hS; clear hS; refine hS _ _ ?_))
       clear hS)
    | refine wpC_seq fun K hS => ?_
    | refine wpC_region rfl ?_
    | refine wpC_block ?_
    | refine wpC_scope ?_
    | (refine wpC_ret ?_
       simp (disch := omega) only [thenA, inBlockA, noGotoA, endsA, ressV, resV, oneV, putT, BB, ↓updA, ↓reduceIte, Nat.reduceLT, Nat.reduceEqDiff]))
        exact ⟨_, rfl, [], _, hle_refl _, hQe⟩
      · have hly' := lenV_view (P := Try.prog) sl22 hv'
        repeat (first
    | ((first | refine wpOps_cons rfl fun K hK => ?_ | refine quiet_cons rfl fun K hK => ?_)
       simp (disch := omega) only [wpOp, pval, putT, owned, initT, IntKind.bits, tab, callV, wpBuiltin, builtinV, BB, ↓updA, ↓reduceIte, Int.reduceLT, Int.reduceNeg, Int.reduceLE, Int.reduceToNat, Nat.reduceLT, Nat.reduceEqDiff, Nat.reduceAdd, Nat.reduceMul, Nat.reduceSub, Nat.reduceLeDiff, Nat.reduceBEq, q3, hly]
       first
         | refine hK _ _ ?_
         | refine ⟨_, ⟨rfl, by first | rfl | trivial⟩, hK _ ?_⟩
         | refine ⟨_, ⟨_, _, rfl, by decide, by decide, rfl, by first | rfl | trivial⟩, hK _ ?_⟩
       clear hK)
    | refine wpOps_skip rfl ?_
    | refine quiet_skip rfl ?_
    | refine quiet_nil ?_
    | (refine wpOps_nil ?_
       simp only [thenA, inBlockA, noGotoA]
       first
         | ((first | refine hS _ _ ?_ | (clear hS; refine hS _ _ ?_) | (clear hS; clear hS; refine hS _ _ ?_) | (clear hS; clear hS; clear hS; refine hS _ _ ?_) | (clear hS; clear hS; clear hS; clear hS; refine hS _ _ ?_)); clear hS)
         | skip)
    | (refine wpC_label ?_
       simp only [thenA]
       (first | refine hS _ _ ?_ | (clear hS; refine hS _ _ ?_) | (clear hS; clear hS; refine hS _ _ ?_) | (clear hS; clear hS; clear hS; refine hS _ _ ?_) | (clear hS; clear hS; clear hS; clear hS; refine hS _ _ ?_))
       clear hS)
    | refine wpC_seq fun K hS => ?_
    | refine wpC_region rfl ?_
    | refine wpC_block ?_
    | refine wpC_scope ?_
    | (refine wpC_ret ?_
       simp (disch := omega) only [thenA, inBlockA, noGotoA, endsA, ressV, resV, oneV, putT, BB, ↓updA, ↓reduceIte, Nat.reduceLT, Nat.reduceEqDiff, q3, hly]))
        refine wpC_dec rfl (fun hd => ?_) (fun hd => ?_)
        · rw [if_pos (by omega)] at hnext
          repeat (first
    | ((first | refine wpOps_cons rfl fun K hK => ?_ | refine quiet_cons rfl fun K hK => ?_)
       simp (disch := omega) only [wpOp, pval, putT, owned, initT, IntKind.bits, tab, callV, wpBuiltin, builtinV, BB, ↓updA, ↓reduceIte, Int.reduceLT, Int.reduceNeg, Int.reduceLE, Int.reduceToNat, Nat.reduceLT, Nat.reduceEqDiff, Nat.reduceAdd, Nat.reduceMul, Nat.reduceSub, Nat.reduceLeDiff, Nat.reduceBEq]
       first
         | refine hK _ _ ?_
         | refine ⟨_, ⟨rfl, by first | rfl | trivial⟩, hK _ ?_⟩
         | refine ⟨_, ⟨_, _, rfl, by decide, by decide, rfl, by first | rfl | trivial⟩, hK _ ?_⟩
       clear hK)
    | refine wpOps_skip rfl ?_
    | refine quiet_skip rfl ?_
    | refine quiet_nil ?_
    | (refine wpOps_nil ?_
       simp only [thenA, inBlockA, noGotoA]
       first
         | ((first | refine hS _ _ ?_ | (clear hS; refine hS _ _ ?_) | (clear hS; clear hS; refine hS _ _ ?_) | (clear hS; clear hS; clear hS; refine hS _ _ ?_) | (clear hS; clear hS; clear hS; clear hS; refine hS _ _ ?_)); clear hS)
         | skip)
    | (refine wpC_label ?_
       simp only [thenA]
       (first | refine hS _ _ ?_ | (clear hS; refine hS _ _ ?_) | (clear hS; clear hS; refine hS _ _ ?_) | (clear hS; clear hS; clear hS; refine hS _ _ ?_) | (clear hS; clear hS; clear hS; clear hS; refine hS _ _ ?_))
       clear hS)
    | refine wpC_seq fun K hS => ?_
    | refine wpC_region rfl ?_
    | refine wpC_block ?_
    | refine wpC_scope ?_
    | (refine wpC_ret ?_
       simp (disch := omega) only [thenA, inBlockA, noGotoA, endsA, ressV, resV, oneV, putT, BB, ↓updA, ↓reduceIte, Nat.reduceLT, Nat.reduceEqDiff]))
          exact ⟨_, rfl, [], _, hle_refl _, hnext⟩
        · (refine wpC_skip ?_; simp only [thenA, inBlockA, noGotoA]; (first | refine hS _ _ ?_ | (clear hS; refine hS _ _ ?_) | (clear hS; clear hS; refine hS _ _ ?_) | (clear hS; clear hS; clear hS; refine hS _ _ ?_) | (clear hS; clear hS; clear hS; clear hS; refine hS _ _ ?_)); clear hS)
          rw [if_neg (by omega)] at hnext
          repeat (first
    | ((first | refine wpOps_cons rfl fun K hK => ?_ | refine quiet_cons rfl fun K hK => ?_)
       simp (disch := omega) only [wpOp, pval, putT, owned, initT, IntKind.bits, tab, callV, wpBuiltin, builtinV, BB, ↓updA, ↓reduceIte, Int.reduceLT, Int.reduceNeg, Int.reduceLE, Int.reduceToNat, Nat.reduceLT, Nat.reduceEqDiff, Nat.reduceAdd, Nat.reduceMul, Nat.reduceSub, Nat.reduceLeDiff, Nat.reduceBEq, q3]
       first
         | refine hK _ _ ?_
         | refine ⟨_, ⟨rfl, by first | rfl | trivial⟩, hK _ ?_⟩
         | refine ⟨_, ⟨_, _, rfl, by decide, by decide, rfl, by first | rfl | trivial⟩, hK _ ?_⟩
       clear hK)
    | refine wpOps_skip rfl ?_
    | refine quiet_skip rfl ?_
    | refine quiet_nil ?_
    | (refine wpOps_nil ?_
       simp only [thenA, inBlockA, noGotoA]
       first
         | ((first | refine hS _ _ ?_ | (clear hS; refine hS _ _ ?_) | (clear hS; clear hS; refine hS _ _ ?_) | (clear hS; clear hS; clear hS; refine hS _ _ ?_) | (clear hS; clear hS; clear hS; clear hS; refine hS _ _ ?_)); clear hS)
         | skip)
    | (refine wpC_label ?_
       simp only [thenA]
       (first | refine hS _ _ ?_ | (clear hS; refine hS _ _ ?_) | (clear hS; clear hS; refine hS _ _ ?_) | (clear hS; clear hS; clear hS; refine hS _ _ ?_) | (clear hS; clear hS; clear hS; clear hS; refine hS _ _ ?_))
       clear hS)
    | refine wpC_seq fun K hS => ?_
    | refine wpC_region rfl ?_
    | refine wpC_block ?_
    | refine wpC_scope ?_
    | (refine wpC_ret ?_
       simp (disch := omega) only [thenA, inBlockA, noGotoA, endsA, ressV, resV, oneV, putT, BB, ↓updA, ↓reduceIte, Nat.reduceLT, Nat.reduceEqDiff, q3]))
          refine wpOps_cons rfl fun K hK => ⟨v, lv, ?_, hv', hx, hlv, h32, hl, hK _ _ ?_⟩
          · simp (disch := omega) only [wpOp, pval, putT, owned, initT, IntKind.bits, tab, callV, wpBuiltin, builtinV, BB, ↓updA, ↓reduceIte, Int.reduceLT, Int.reduceNeg, Int.reduceLE, Int.reduceToNat, Nat.reduceLT, Nat.reduceEqDiff, Nat.reduceAdd, Nat.reduceMul, Nat.reduceSub, Nat.reduceLeDiff, Nat.reduceBEq, q3]
          have hlp := lenV_view (P := Try.prog) (t := 81) (H := X') sl81 (show view X' 64 (.sl 64 (pE (pairsOf lv)) false) = some (pE (pairsOf lv)) by simp [view])
          rw [pE_len] at hlp
          have hplen := pairsOf_len lv
          repeat (first
    | ((first | refine wpOps_cons rfl fun K hK => ?_ | refine quiet_cons rfl fun K hK => ?_)
       simp (disch := omega) only [wpOp, pval, putT, owned, initT, IntKind.bits, tab, callV, wpBuiltin, builtinV, BB, ↓updA, ↓reduceIte, Int.reduceLT, Int.reduceNeg, Int.reduceLE, Int.reduceToNat, Nat.reduceLT, Nat.reduceEqDiff, Nat.reduceAdd, Nat.reduceMul, Nat.reduceSub, Nat.reduceLeDiff, Nat.reduceBEq, hlp]
       first
         | refine hK _ _ ?_
         | refine ⟨_, ⟨rfl, by first | rfl | trivial⟩, hK _ ?_⟩
         | refine ⟨_, ⟨_, _, rfl, by decide, by decide, rfl, by first | rfl | trivial⟩, hK _ ?_⟩
       clear hK)
    | refine wpOps_skip rfl ?_
    | refine quiet_skip rfl ?_
    | refine quiet_nil ?_
    | (refine wpOps_nil ?_
       simp only [thenA, inBlockA, noGotoA]
       first
         | ((first | refine hS _ _ ?_ | (clear hS; refine hS _ _ ?_) | (clear hS; clear hS; refine hS _ _ ?_) | (clear hS; clear hS; clear hS; refine hS _ _ ?_) | (clear hS; clear hS; clear hS; clear hS; refine hS _ _ ?_)); clear hS)
         | skip)
    | (refine wpC_label ?_
       simp only [thenA]
       (first | refine hS _ _ ?_ | (clear hS; refine hS _ _ ?_) | (clear hS; clear hS; refine hS _ _ ?_) | (clear hS; clear hS; clear hS; refine hS _ _ ?_) | (clear hS; clear hS; clear hS; clear hS; refine hS _ _ ?_))
       clear hS)
    | refine wpC_seq fun K hS => ?_
    | refine wpC_region rfl ?_
    | refine wpC_block ?_
    | refine wpC_scope ?_
    | (refine wpC_ret ?_
       simp (disch := omega) only [thenA, inBlockA, noGotoA, endsA, ressV, resV, oneV, putT, BB, ↓updA, ↓reduceIte, Nat.reduceLT, Nat.reduceEqDiff, hlp]))
          refine l49_2 (ps := pairsOf lv) ?_ ?_ ?_ ?_ (pairsOf_32 lv h32) (by omega) fun t2 v' X2 f0 f4 hok hX => ?_
          · simp (disch := omega) only [wpOp, pval, putT, owned, initT, IntKind.bits, tab, callV, wpBuiltin, builtinV, BB, ↓updA, ↓reduceIte, Int.reduceLT, Int.reduceNeg, Int.reduceLE, Int.reduceToNat, Nat.reduceLT, Nat.reduceEqDiff, Nat.reduceAdd, Nat.reduceMul, Nat.reduceSub, Nat.reduceLeDiff, Nat.reduceBEq]
          · simp (disch := omega) only [wpOp, pval, putT, owned, initT, IntKind.bits, tab, callV, wpBuiltin, builtinV, BB, ↓updA, ↓reduceIte, Int.reduceLT, Int.reduceNeg, Int.reduceLE, Int.reduceToNat, Nat.reduceLT, Nat.reduceEqDiff, Nat.reduceAdd, Nat.reduceMul, Nat.reduceSub, Nat.reduceLeDiff, Nat.reduceBEq]
          · simp (disch := omega) only [wpOp, pval, putT, owned, initT, IntKind.bits, tab, callV, wpBuiltin, builtinV, BB, ↓updA, ↓reduceIte, Int.reduceLT, Int.reduceNeg, Int.reduceLE, Int.reduceToNat, Nat.reduceLT, Nat.reduceEqDiff, Nat.reduceAdd, Nat.reduceMul, Nat.reduceSub, Nat.reduceLeDiff, Nat.reduceBEq]
          · simp (disch := omega) only [wpOp, pval, putT, owned, initT, IntKind.bits, tab, callV, wpBuiltin, builtinV, BB, ↓updA, ↓reduceIte, Int.reduceLT, Int.reduceNeg, Int.reduceLE, Int.reduceToNat, Nat.reduceLT, Nat.reduceEqDiff, Nat.reduceAdd, Nat.reduceMul, Nat.reduceSub, Nat.reduceLeDiff, Nat.reduceBEq]
          simp only [putT, updA, Nat.reduceEqDiff, ↓reduceIte, Nat.reduceLT, q0] at f0
          (simp only [thenA, inBlockA, noGotoA, ↓reduceIte, Nat.reduceEqDiff]; (first | refine hS _ _ ?_ | (clear hS; refine hS _ _ ?_) | (clear hS; clear hS; refine hS _ _ ?_) | (clear hS; clear hS; clear hS; refine hS _ _ ?_) | (clear hS; clear hS; clear hS; clear hS; refine hS _ _ ?_)); clear hS)
          refine wpC_region rfl ?_
          rcases hok with ⟨h0, _⟩ | ⟨e, h1, h2, rfl⟩
          · exfalso
            have := congrArg List.length h0
            rw [hE_len, List.length_map, hplen, List.length_nil] at this
            omega
          refine wpOps_cons rfl fun K hK => ⟨[e], ?_⟩
          have hf4 : evT t2 (.tmp 4) = .osl e 0 (hE ((pairsOf lv).map hashP)).length 32 false := f4
          rw [hf4]
          refine freeze_osl h2 (hle_upd hX h1) (hK _ _ ?_)
          repeat (first
    | ((first | refine wpOps_cons rfl fun K hK => ?_ | refine quiet_cons rfl fun K hK => ?_)
       simp (disch := omega) only [wpOp, pval, putT, owned, initT, IntKind.bits, tab, callV, wpBuiltin, builtinV, BB, ↓updA, ↓reduceIte, Int.reduceLT, Int.reduceNeg, Int.reduceLE, Int.reduceToNat, Nat.reduceLT, Nat.reduceEqDiff, Nat.reduceAdd, Nat.reduceMul, Nat.reduceSub, Nat.reduceLeDiff, Nat.reduceBEq]
       first
         | refine hK _ _ ?_
         | refine ⟨_, ⟨rfl, by first | rfl | trivial⟩, hK _ ?_⟩
         | refine ⟨_, ⟨_, _, rfl, by decide, by decide, rfl, by first | rfl | trivial⟩, hK _ ?_⟩
       clear hK)
    | refine wpOps_skip rfl ?_
    | refine quiet_skip rfl ?_
    | refine quiet_nil ?_
    | (refine wpOps_nil ?_
       simp only [thenA, inBlockA, noGotoA]
       first
         | ((first | refine hS _ _ ?_ | (clear hS; refine hS _ _ ?_) | (clear hS; clear hS; refine hS _ _ ?_) | (clear hS; clear hS; clear hS; refine hS _ _ ?_) | (clear hS; clear hS; clear hS; clear hS; refine hS _ _ ?_)); clear hS)
         | skip)
    | (refine wpC_label ?_
       simp only [thenA]
       (first | refine hS _ _ ?_ | (clear hS; refine hS _ _ ?_) | (clear hS; clear hS; refine hS _ _ ?_) | (clear hS; clear hS; clear hS; refine hS _ _ ?_) | (clear hS; clear hS; clear hS; clear hS; refine hS _ _ ?_))
       clear hS)
    | refine wpC_seq fun K hS => ?_
    | refine wpC_region rfl ?_
    | refine wpC_block ?_
    | refine wpC_scope ?_
    | (refine wpC_ret ?_
       simp (disch := omega) only [thenA, inBlockA, noGotoA, endsA, ressV, resV, oneV, putT, BB, ↓updA, ↓reduceIte, Nat.reduceLT, Nat.reduceEqDiff]))
          refine hKL _ _ _ (Nat.lt_succ_self m) ⟨.sl 32 (hE (above lv)) false, above lv, ?_, ?_, by simp [view], rfl, above_32 lv, by rw [above_len]; omega, by rw [above_len]; omega, ?_⟩
          · simp (disch := omega) only [wpOp, pval, putT, owned, initT, IntKind.bits, tab, callV, wpBuiltin, builtinV, BB, ↓updA, ↓reduceIte, Int.reduceLT, Int.reduceNeg, Int.reduceLE, Int.reduceToNat, Nat.reduceLT, Nat.reduceEqDiff, Nat.reduceAdd, Nat.reduceMul, Nat.reduceSub, Nat.reduceLeDiff, Nat.reduceBEq, f0]
          · simp (disch := omega) only [wpOp, pval, putT, owned, initT, IntKind.bits, tab, callV, wpBuiltin, builtinV, BB, ↓updA, ↓reduceIte, Int.reduceLT, Int.reduceNeg, Int.reduceLE, Int.reduceToNat, Nat.reduceLT, Nat.reduceEqDiff, Nat.reduceAdd, Nat.reduceMul, Nat.reduceSub, Nat.reduceLeDiff, Nat.reduceBEq]
            rfl
          · have hab : above lv ≠ [] := fun e => by
              have := congrArg List.length e
              rw [above_len, List.length_nil] at this
              omega
            cases m with
            | zero => omega
            | succ m =>
              rw [levelsOf, if_neg hab] at hnext ⊢
              exact hnext
  · refine wpC_exit ?_
    simp only [thenA, inBlockA, ↓reduceIte]
    have hlv : lv = [] := List.eq_nil_of_length_eq_zero (by omega)
    subst hlv
    have hS' : Q (.tup []) X := by
      cases m with
      | zero => exact hS
      | succ m => rw [levelsOf, if_pos rfl] at hS; exact hS
    exact ⟨_, rfl, [], _, hle_refl _, hS'⟩
end Go.Av
