/-
  bytes.Join, Raw: of two hashes.
  Raw of two hashes; package block: EncodeHeader.
  Package tx: scripts.
  Package tx: Check.
  Package tx: Encode.
  Package tx: Id; package block: Ids.
  Package block: Encode; package whole: size.
  Package whole: root.
-/
import Derived.Test.YtgjlmmjdofceiaaYV

set_option linter.unusedSimpArgs false
set_option linter.unusedVariables false
namespace Go.Av
open Go.RowKit Go.Proofs

def s108b : Spec := fun _ args H Q => ∃ x y z bs cs, args = [x, .nils] ∧ ao H 1 x = some [[y], [z]] ∧ ao H 1 y = some (nE .u8 bs) ∧ ao H 1 z = some (nE .u8 cs) ∧ bs.length = 32 ∧ cs.length = 32 ∧ ∀ v, isB v (bs ++ cs) → Q v H

theorem slice_osl3 {b n : Nat} : bf Try.prog 64 (.osl b 0 n 1 false) none (some (vN .i64 n)) (some (vN .i64 n)) = some (.osl b 0 n 1 true) := by
  simp only [bf, ar64, sl64, bD, Option.isSome_some, Option.isNone_some, Bool.false_eq_true, and_false, if_false, if_true, bnd_N n (Nat.le_refl n), bnd_none, Option.bind_some, true_or, Nat.add_zero, Nat.sub_zero, decide_true]
theorem slice_oslL {b n l : Nat} (h : l < n) : bf Try.prog 64 (.osl b 0 n 1 true) (some (vN .i64 l)) none none = some (.osl b l (n - l) 1 true) := by
  simp only [bf, ar64, sl64, bD, Option.isSome_none, Option.isNone_none, Bool.false_eq_true, false_and, if_false, if_true, bnd_none, bnd_N l (Nat.le_of_lt h), Option.bind_some, h, or_true, Nat.zero_add, decide_true, Bool.and_self]
/-- copy into an owned row. -/
theorem copy_osl {H : Hp} {b i n : Nat} {full : Bool} {x : V} {es fs : List Nat} {Q : V → Hp → Prop} (hb : H b = some (.arr 1 (nE .u8 es))) (hl : i + n ≤ es.length) (hv : ao H 1 x = some (nE .u8 fs)) (hf : fs.length ≤ n)
    (hQ : Q (vN .i64 fs.length) (upd H b (some (.arr 1 (nE .u8 (es.take i ++ (fs ++ es.drop (i + fs.length))))))) ) : wpCopy Try.prog H 64 64 (.osl b i n 1 full) x Q := by
  refine ⟨1, nE .u8 fs, ds64, srcV_view sl64 hv, nE_ones _ _, ?_⟩
  simp only [hb]
  refine ⟨trivial, trivial, by rw [az]; exact hl, ?_⟩
  rw [az, Nat.min_eq_left hf, nE_take, nE_drop, nE_take, List.take_of_length_le hf, nE_append, nE_append]
  exact hQ

section
variable {Y : aC} {Q : Exit → T → Hp → Prop} {t : T} {H X : Hp} {x y z x1 : V} {bs cs es2 : List Nat} {b : Nat}

theorem l108a (q0 : t 0 = x) (q1 : t 1 = .nils) (q5 : t 5 = vN .i64 0) (q42 : t 42 = x) (q43 : t 43 = vN .i64 2) (q44 : t 44 = vN .i64 0) (hvx : ao H 1 x = some [[y], [z]]) (hly : lenV Try.prog 64 y = some (vN .i64 32)) (hlz : lenV Try.prog 64 z = some (vN .i64 32))
    (hQ : ∀ t', t' 0 = x → t' 1 = .nils → t' 5 = vN .i64 64 → Q (.exit 0) t' H) : wpC Try.prog (tab [(110, s110)]) Y [] 92 (aU Try.f108 0) true Q t H := by
  refine aO (fun m t X => ∃ i, m = 2 - i ∧ i ≤ 2 ∧ X = H ∧ t 0 = x ∧ t 1 = .nils ∧ t 5 = vN .i64 (32 * i) ∧ t 42 = x ∧ t 43 = vN .i64 2 ∧ t 44 = vN .i64 i) 2
    ⟨0, rfl, by omega, rfl, q0, q1, q5, q42, q43, q44⟩ fun KL m t X hI hKL => ?_
  clear q0 q1 q5 q42 q43 q44
  obtain ⟨i, rfl, hi, rfl, q0, q1, q5, q42, q43, q44⟩ := hI
  repeat (first
    | (refine aa rfl fun K hK => ?_; simp (disch := omega) only [WW, BB, ↓ab, simprocAttr, q43, q44]; refine hK _ _ ?_; clear hK) | (refine ae ?_; simp only [TH]; (((repeat ((fail_if_success refine hS _ _ ?_); clear hS)); refine hS _ _ ?_); clear hS; try clear hF)) | refine af fun K hS hF => ?_ | refine ac rfl ?_)
  refine aH rfl (fun hd => ?_) (fun hd => ?_)
  · (refine am ?_; simp only [TH]; ((repeat ((fail_if_success refine hS _ _ ?_); clear hS)); refine hS _ _ ?_); clear hS; try clear hF)
    obtain ⟨u, hu, hlu⟩ : ∃ u, ([[y], [z]] : List (List V))[i]? = some [u] ∧ lenV Try.prog 64 u = some (vN .i64 32) := by
      rcases (by omega : i = 0 ∨ i = 1) with rfl | rfl
      · exact ⟨y, rfl, hly⟩
      · exact ⟨z, rfl, hlz⟩
    obtain ⟨p, hp, hq⟩ := ci (P := Try.prog) (k := .i64) ar115 sl115 hvx hu
    repeat (first
    | (refine aa rfl fun K hK => ?_; simp (disch := omega) only [WW, BB, ↓ab, simprocAttr, q42, q44, hp, hq, ty64, hlu, q5, i64_sub, decide_eq_false (show ¬ 9223372036854775807 - 32 * i < 32 by omega)]; refine hK _ _ ?_; clear hK) | (refine ae ?_; simp only [TH]; (((repeat ((fail_if_success refine hS _ _ ?_); clear hS)); refine hS _ _ ?_); clear hS; try clear hF)) | refine af fun K hS hF => ?_ | refine ac rfl ?_)
    refine aE (by simp (disch := omega) only [WW, BB, ↓ab, simprocAttr]) ?_
    (refine am ?_; simp only [TH]; ((repeat ((fail_if_success refine hS _ _ ?_); clear hS)); refine hS _ _ ?_); clear hS; try clear hF)
    repeat (first
    | (refine aa rfl fun K hK => ?_; simp (disch := omega) only [WW, BB, ↓ab, simprocAttr, q5, hlu, aP, q44]; refine hK _ _ ?_; clear hK) | (refine ae ?_; simp only [TH]; first | (((repeat ((fail_if_success refine hS _ _ ?_); clear hS)); refine hS _ _ ?_); clear hS; try clear hF) | skip) | refine ac rfl ?_)
    refine hKL (2 - (i + 1)) _ _ (by omega) ⟨i + 1, rfl, by omega, rfl, ?_, ?_, ?_, ?_, ?_, ?_⟩
    · simp (disch := omega) only [WW, BB, ↓ab, simprocAttr, q0]
    · simp (disch := omega) only [WW, BB, ↓ab, simprocAttr, q1]
    · simp (disch := omega) only [WW, BB, ↓ab, simprocAttr]
      congr 1
    · simp (disch := omega) only [WW, BB, ↓ab, simprocAttr, q42]
    · simp (disch := omega) only [WW, BB, ↓ab, simprocAttr, q43]
    · simp (disch := omega) only [WW, BB, ↓ab, simprocAttr]
  · refine aG ?_
    simp only [TH]
    have : i = 2 := by omega
    subst this
    exact hQ _ q0 q1 q5

theorem l108b (q1 : t 1 = .nils) (q8 : t 8 = .osl b 0 64 1 true) (q9 : t 9 = vN .i64 32) (q70 : t 70 = x1) (q71 : t 71 = vN .i64 1) (q72 : t 72 = vN .i64 0) (hb : bs.length = 32) (hc : cs.length = 32) (hl2 : es2.length = 32)
    (hvx1 : ∀ r, ao (upd H b r) 1 x1 = some [[z]]) (hvz : ∀ r, ao (upd H b r) 1 z = some (nE .u8 cs)) (hX : X = upd H b (some (.arr 1 (nE .u8 (bs ++ es2)))))
    (hQ : ∀ t', t' 8 = .osl b 0 64 1 true → Q (.exit 2) t' (upd H b (some (.arr 1 (nE .u8 (bs ++ cs)))))) : wpC Try.prog (tab [(110, s110)]) Y [] 92 (aU Try.f108 1) true Q t X := by
  refine aO (fun m t X' => ∃ k, m = 1 - k ∧ k ≤ 1 ∧ X' = upd H b (some (.arr 1 (nE .u8 (if k = 0 then bs ++ es2 else bs ++ cs)))) ∧ t 1 = .nils ∧ t 8 = .osl b 0 64 1 true ∧ t 9 = vN .i64 (32 * (k + 1)) ∧ t 70 = x1 ∧ t 71 = vN .i64 1 ∧ t 72 = vN .i64 k) 1
    ⟨0, rfl, by omega, hX, q1, q8, q9, q70, q71, q72⟩ fun KL m t X' hI hKL => ?_
  clear q1 q8 q9 q70 q71 q72 hX
  obtain ⟨k, rfl, hk, rfl, q1, q8, q9, q70, q71, q72⟩ := hI
  repeat (first
    | (refine aa rfl fun K hK => ?_; simp (disch := omega) only [WW, BB, ↓ab, simprocAttr, q71, q72]; refine hK _ _ ?_; clear hK) | (refine ae ?_; simp only [TH]; (((repeat ((fail_if_success refine hS _ _ ?_); clear hS)); refine hS _ _ ?_); clear hS; try clear hF)) | refine af fun K hS hF => ?_ | refine ac rfl ?_)
  refine aH rfl (fun hd => ?_) (fun hd => ?_)
  · (refine am ?_; simp only [TH]; ((repeat ((fail_if_success refine hS _ _ ?_); clear hS)); refine hS _ _ ?_); clear hS; try clear hF)
    have : k = 0 := by omega
    subst this
    rw [if_pos rfl]
    obtain ⟨p1, hp1, hq1⟩ := ci (P := Try.prog) (k := .i64) (i := 0) (y := z) ar115 sl115 (hvx1 (some (.arr 1 (nE .u8 (bs ++ es2))))) rfl
    repeat (first
    | (refine aa rfl fun K hK => ?_; simp (disch := omega) only [WW, BB, ↓ab, simprocAttr, q70, q72, hp1, hq1, ty64, q8, q9, slice_oslL, q1]; refine hK _ _ ?_; clear hK) | (refine ae ?_; simp only [TH]; (((repeat ((fail_if_success refine hS _ _ ?_); clear hS)); refine hS _ _ ?_); clear hS; try clear hF)) | refine af fun K hS hF => ?_ | refine ac rfl ?_)
    refine aa rfl fun K hK => ?_
    simp (disch := omega) only [WW, BB, ↓ab, simprocAttr, q1]
    refine copy_osl (es := bs ++ es2) (fs := []) (ag _ _ _) (by simp [hb, hl2]) rfl (by simp) (hK _ _ ?_)
    rw [aD, List.nil_append, List.length_nil, Nat.add_zero, List.take_append_drop]
    repeat (first
    | (refine aa rfl fun K hK => ?_; simp (disch := omega) only [WW, BB, ↓ab, simprocAttr, aP, q8, slice_oslL]; refine hK _ _ ?_; clear hK) | (refine ae ?_; simp only [TH]; (((repeat ((fail_if_success refine hS _ _ ?_); clear hS)); refine hS _ _ ?_); clear hS; try clear hF)) | refine ac rfl ?_)
    refine aa rfl fun K hK => ?_
    simp (disch := omega) only [WW, BB, ↓ab, simprocAttr]
    refine copy_osl (es := bs ++ es2) (fs := cs) (ag _ _ _) (by simp [hb, hl2]) (hvz _) (by omega) (hK _ _ ?_)
    have e : (bs ++ es2).take 32 ++ (cs ++ (bs ++ es2).drop (32 + cs.length)) = bs ++ cs := by
      rw [List.take_append_of_le_length (by omega), List.take_of_length_le (by omega), hc, List.drop_of_length_le (by simp [hb, hl2]), List.append_nil]
    rw [aD, e, hc]
    repeat (first
    | (refine aa rfl fun K hK => ?_; simp (disch := omega) only [WW, BB, ↓ab, simprocAttr, aP, q72]; refine hK _ _ ?_; clear hK) | (refine ae ?_; simp only [TH]; first | (((repeat ((fail_if_success refine hS _ _ ?_); clear hS)); refine hS _ _ ?_); clear hS; try clear hF) | skip) | refine ac rfl ?_)
    refine hKL 0 _ _ (by omega) ⟨1, rfl, by omega, by rw [if_neg (by omega)], ?_, ?_, ?_, ?_, ?_, ?_⟩
    · simp (disch := omega) only [WW, BB, ↓ab, simprocAttr, q1]
    · simp (disch := omega) only [WW, BB, ↓ab, simprocAttr, q8]
    · simp (disch := omega) only [WW, BB, ↓ab, simprocAttr]
    · simp (disch := omega) only [WW, BB, ↓ab, simprocAttr, q70]
    · simp (disch := omega) only [WW, BB, ↓ab, simprocAttr, q71]
    · simp (disch := omega) only [WW, BB, ↓ab, simprocAttr]
  · refine aG ?_
    simp only [TH]
    have : k = 1 := by omega
    subst this
    rw [if_neg (by omega)]
    exact hQ _ q8
end

theorem snd108b : Sound Try.prog 108 s108b := by
  refine ak pm (ap [(110, s110)] (by simp [snd110])) [] Try.func108 rfl (by kernel_rfl) ?_
  rintro Y args H Q ⟨x, y, z, bs, cs, rfl, hvx, hvy, hvz, hb, hc, hQ⟩
  refine ⟨by simp [Try.f108], ?_⟩
  show wpC Try.prog (tab [(110, s110)]) Y [] 92 _ true (aB Try.prog [.tmp 4] Q) _ H
  have hl : lenV Try.prog 115 x = some (vN .i64 2) := av (P := Try.prog) sl115 hvx
  have hn : lenV Try.prog 64 .nils = some (vN .i64 0) := by kernel_rfl
  have hly : lenV Try.prog 64 y = some (vN .i64 32) := by have := av (P := Try.prog) sl64 hvy; rwa [az, hb] at this
  have hlz : lenV Try.prog 64 z = some (vN .i64 32) := by have := av (P := Try.prog) sl64 hvz; rwa [az, hc] at this
  repeat (first
    | (refine aa rfl fun K hK => ?_; simp (disch := omega) only [WW, BB, ↓ab, simprocAttr, hl, Nat.reduceEqDiff, decide_false, decide_true]; refine hK _ _ ?_; clear hK) | (refine ae ?_; simp only [TH]; (((repeat ((fail_if_success refine hS _ _ ?_); clear hS)); refine hS _ _ ?_); clear hS; try clear hF)) | refine af fun K hS hF => ?_ | refine ac rfl ?_)
  refine aE (by simp (disch := omega) only [WW, BB, ↓ab, simprocAttr]) ?_
  repeat (first
    | (refine aa rfl fun K hK => ?_; simp (disch := omega) only [WW, BB, ↓ab, simprocAttr, hl, Nat.reduceEqDiff, decide_false, decide_true]; refine hK _ _ ?_; clear hK) | ((first | refine ae ?_ | refine am ?_); simp only [TH]; (((repeat ((fail_if_success refine hS _ _ ?_); clear hS)); refine hS _ _ ?_); clear hS; try clear hF)) | refine af fun K hS hF => ?_ | refine ac rfl ?_)
  refine aE (by simp (disch := omega) only [WW, BB, ↓ab, simprocAttr]) ?_
  repeat (first
    | (refine aa rfl fun K hK => ?_; simp (disch := omega) only [WW, BB, ↓ab, simprocAttr, hn, decide_false, Nat.lt_irrefl]; refine hK _ _ ?_; clear hK) | ((first | refine ae ?_ | refine am ?_); simp only [TH]; (((repeat ((fail_if_success refine hS _ _ ?_); clear hS)); refine hS _ _ ?_); clear hS; try clear hF)) | refine af fun K hS hF => ?_ | refine ac rfl ?_)
  refine aE (by simp (disch := omega) only [WW, BB, ↓ab, simprocAttr]) ?_
  repeat (first
    | (refine aa rfl fun K hK => ?_; simp (disch := omega) only [WW, BB, ↓ab, simprocAttr, hl]; refine hK _ _ ?_; clear hK) | ((first | refine ae ?_ | refine am ?_); simp only [TH]; (((repeat ((fail_if_success refine hS _ _ ?_); clear hS)); refine hS _ _ ?_); clear hS; try clear hF)) | refine af fun K hS hF => ?_ | refine ac rfl ?_ | refine ax ?_)
  refine l108a (x := x) (y := y) (z := z) ?_ ?_ ?_ ?_ ?_ ?_ hvx hly hlz fun t q0 q1 q5 => ?_
  · rfl
  · rfl
  · simp (disch := omega) only [WW, BB, ↓ab, simprocAttr]
  · simp (disch := omega) only [WW, BB, ↓ab, simprocAttr]
  · simp (disch := omega) only [WW, BB, ↓ab, simprocAttr]
  · simp (disch := omega) only [WW, BB, ↓ab, simprocAttr]
  (simp only [TH, ↓reduceIte, Nat.reduceEqDiff]; ((repeat ((fail_if_success refine hS _ _ ?_); clear hS)); refine hS _ _ ?_); clear hS; try clear hF)
  repeat (first
    | (refine aa rfl fun K hK => ?_; simp (disch := omega) only [WW, BB, ↓ab, simprocAttr, q5]; refine hK _ _ ?_; clear hK) | refine af fun K hS hF => ?_ | refine ac rfl ?_)
  refine aa rfl fun K hK => ⟨64, rfl, by omega, fun b es hb0 hel hey => hK _ _ ?_⟩
  have hle1 : ∀ z, hle H (upd H b z) := fun z => ai (aj _) hb0
  obtain ⟨p0, hp0, hq0⟩ := ci (P := Try.prog) (H := upd H b (some (.arr 1 (nE .u8 es)))) (k := .i64) (i := 0) (y := y) ar115 sl115 (aL (hle1 _) hvx) rfl
  repeat (first
    | (refine aa rfl fun K hK => ?_; simp (disch := omega) only [WW, BB, ↓ab, simprocAttr, slice_osl3, q5, q0, hp0, hq0, ty64]; refine hK _ _ ?_; clear hK) | (refine ae ?_; simp only [TH]; (((repeat ((fail_if_success refine hS _ _ ?_); clear hS)); refine hS _ _ ?_); clear hS; try clear hF)) | refine af fun K hS hF => ?_ | refine ac rfl ?_)
  refine aa rfl fun K hK => ?_
  simp (disch := omega) only [WW, BB, ↓ab, simprocAttr]
  refine copy_osl (fs := bs) (ag _ _ _) (by omega) (aL (hle1 _) hvy) (by omega) (hK _ _ ?_)
  rw [aD, List.take_zero, List.nil_append, hb]
  generalize hes : es.drop (0 + 32) = es2
  have hl2 : es2.length = 32 := by rw [← hes]; simp [hel]
  obtain ⟨x1, hx1, hvx1⟩ : ∃ w, bf Try.prog 115 x (some (vN .i64 1)) none none = some w ∧ ao H 1 w = some [[z]] :=
    slice_view (P := Try.prog) (lo := some (vN .i64 1)) (hi := none) ar115 sl115 hvx rfl (bnd_N 1 (by simp)) (by simp) (Nat.le_refl _)
  have hlx1 : lenV Try.prog 115 x1 = some (vN .i64 1) := av (P := Try.prog) sl115 hvx1
  repeat (first
    | (refine aa rfl fun K hK => ?_; simp (disch := omega) only [WW, BB, ↓ab, simprocAttr, q0, hx1, hlx1]; refine hK _ _ ?_; clear hK) | (refine ae ?_; simp only [TH]; (((repeat ((fail_if_success refine hS _ _ ?_); clear hS)); refine hS _ _ ?_); clear hS; try clear hF)) | refine af fun K hS hF => ?_ | refine ac rfl ?_ | refine ax ?_)
  refine l108b (b := b) (x1 := x1) (z := z) (bs := bs) (cs := cs) (es2 := es2) (H := H) ?_ ?_ ?_ ?_ ?_ ?_ hb hc hl2 (fun r => aL (hle1 r) hvx1) (fun r => aL (hle1 r) hvz) rfl fun t q8 => ?_
  · simp (disch := omega) only [WW, BB, ↓ab, simprocAttr, q1]
  · simp (disch := omega) only [WW, BB, ↓ab, simprocAttr]
  · simp (disch := omega) only [WW, BB, ↓ab, simprocAttr]
  · simp (disch := omega) only [WW, BB, ↓ab, simprocAttr]
  · simp (disch := omega) only [WW, BB, ↓ab, simprocAttr]
  · simp (disch := omega) only [WW, BB, ↓ab, simprocAttr]
  (simp only [TH, ↓reduceIte, Nat.reduceEqDiff]; ((repeat ((fail_if_success refine hS _ _ ?_); clear hS)); refine hS _ _ ?_); clear hS; try clear hF)
  repeat (first
    | (refine aa rfl fun K hK => ?_; simp (disch := omega) only [WW, BB, ↓ab, simprocAttr, q8]; refine hK _ _ ?_; clear hK) | (refine ae ?_; simp only [TH]; (((repeat ((fail_if_success refine hS _ _ ?_); clear hS)); refine hS _ _ ?_); clear hS; try clear hF)) | refine af fun K hS hF => ?_ | refine ac rfl ?_ | (refine al ?_; simp (disch := omega) only [TH, TE, WW, BB, ↓ab, simprocAttr, q8]))
  have h64 : (64 : Nat) = (bs ++ cs).length := by simp [hb, hc]
  rw [h64]
  exact ⟨_, rfl, [b], freeze_end hb0 (hQ _ (.inr ⟨true, rfl⟩))⟩
end Go.Av

set_option linter.unusedSimpArgs false
set_option linter.unusedVariables false
namespace Go.Av
open Go.RowKit Go.Proofs
theorem fl46_0 : fldT Try.prog 46 0 = some (0, 44) := by kernel_rfl
theorem fl46_1 : fldT Try.prog 46 1 = some (1, 25) := by kernel_rfl
theorem fl46_2 : fldT Try.prog 46 2 = some (33, 25) := by kernel_rfl
theorem fl46_3 : fldT Try.prog 46 3 = some (65, 44) := by kernel_rfl
theorem fl46_4 : fldT Try.prog 46 4 = some (66, 44) := by kernel_rfl
theorem fl46_5 : fldT Try.prog 46 5 = some (67, 44) := by kernel_rfl

def s93b : Spec := fun _ args H Q => ∃ G p bs x y z a c, args = [.ptr p 0, x] ∧ Pen G H p bs ∧ ao G 1 x = some [[y], [z]] ∧ ao G 1 y = some (nE .u8 a) ∧ ao G 1 z = some (nE .u8 c) ∧ a.length = 32 ∧ c.length = 32 ∧ bs.length + 64 ≤ 140737488355328 ∧ ∀ H', Pen G H' p (bs ++ (a ++ c)) → Q (vN .i64 0) H'

theorem snd93b : Sound Try.prog 93 s93b := by
  refine ak pm (ap [(108, s108b)] (by simp [snd108b])) [] Try.func93 rfl (by kernel_rfl) ?_
  rintro Y args H Q ⟨G, p, bs, x, y0, z0, a, c, rfl, hP, hvx, hvy, hvz, hal, hcl, hb, hQ⟩
  refine ⟨by simp [Try.f93], ?_⟩
  show wpC Try.prog (tab [(108, s108b)]) Y [] 17 _ true (aB Try.prog [.tmp 4] Q) _ H
  have hP0 := hP
  obtain ⟨hG, hGp, y, hy, _⟩ := hP0
  repeat (first
    | (refine aa rfl fun K hK => ?_; simp (disch := omega) only [WW, BB, ↓ab, simprocAttr, pnil153]; refine hK _ _ ?_; clear hK) | (refine ae ?_; simp only [TH]; (((repeat ((fail_if_success refine hS _ _ ?_); clear hS)); refine hS _ _ ?_); clear hS; try clear hF)) | refine af fun K hS hF => ?_ | refine ac rfl ?_)
  refine aE (by simp (disch := omega) only [WW, BB, ↓ab, simprocAttr]) ?_
  repeat (first
    | (refine am ?_; simp only [TH]; (((repeat ((fail_if_success refine hS _ _ ?_); clear hS)); refine hS _ _ ?_); clear hS; try clear hF)) | refine af fun K hS hF => ?_)
  refine ck 8 [0, 1, 2, 3, 4, 5] (fun i => decide (6 ≤ i)) (fun H' => hle G H' ∧ H' p = some (.row [y])) (by kernel_rfl) ⟨hG, hy⟩ fun L B hBd hL => ?_
  refine ay rfl rfl rfl ⟨.ptr p 0, fun H' hC' => ?_, ?_⟩
  · simp (disch := omega) only [WW, BB, ↓ab, simprocAttr]
    exact ⟨trivial, trivial⟩
  refine ay rfl rfl rfl ⟨.ptr p 0, fun H' hC' => ?_, ?_⟩
  · simp (disch := omega) only [WW, BB, ↓ab, simprocAttr]
    exact ⟨trivial, trivial⟩
  refine ay rfl rfl rfl ⟨.ptr p 0, fun H' hC' => ?_, ?_⟩
  · simp (disch := omega) only [WW, BB, ↓ab, simprocAttr]
    exact ⟨trivial, trivial⟩
  refine ay rfl rfl rfl ⟨.ptr p 0, fun H' hC' => ?_, ?_⟩
  · simp (disch := omega) only [WW, BB, ↓ab, simprocAttr, fl136_0]
    exact ⟨trivial, trivial⟩
  refine ay rfl rfl rfl ⟨y, fun H' hC' => ?_, ?_⟩
  · simp (disch := omega) only [WW, BB, ↓ab, simprocAttr, aw (off := 0) hC'.2 ty64 rfl]
    exact ⟨trivial, trivial⟩
  refine ay rfl rfl rfl ⟨x, fun H' hC' => ?_, ?_⟩
  · simp (disch := omega) only [WW, BB, ↓ab, simprocAttr]
    exact ⟨trivial, trivial⟩
  refine cj (aV [6] (by kernel_rfl) (by simp) fun i hi => ?_)
  have hi' : i = 6 := by simpa using hi
  subst hi'
  refine ⟨by omega, bS rfl rfl rfl ⟨fun v H' => isB v (a ++ c) ∧ H' = H, ?_, ?_⟩⟩
  · refine ⟨x, y0, z0, a, c, ?_, aL hG hvx, aL hG hvy, aL hG hvz, hal, hcl, fun v hv => ⟨hv, rfl⟩⟩
    simp (disch := omega) only [WW, BB, ↓ab, simprocAttr]
  rintro v H' ⟨hv, rfl⟩
  refine ⟨⟨hG, hy⟩, aV [7] (by kernel_rfl) (by simp) fun i hi => ?_⟩
  have hi' : i = 7 := by simpa using hi
  subst hi'
  refine ⟨by omega, bS rfl rfl rfl ⟨fun y' X => X p = some (.row [y]) ∧ aW y' = some [y'] ∧ one y' = true ∧ Pen G (upd X p (some (.row [y']))) p (bs ++ (a ++ c)), ?_, ?_⟩⟩
  · simp (disch := omega) only [WW, BB, ↓ab, simprocAttr]
    exact pen_append hP hy (isB_view hv _) (by rw [List.length_append]; omega) fun y' X h1 h2 h3 h4 => ⟨h1, h2, h3, h4⟩
  rintro y' X ⟨h1, h2, h3, h4⟩
  have hGX : hle G X := fun j c hj => by
    have hjp : j ≠ p := fun e => by subst e; rw [hGp] at hj; cases hj
    have := h4.1 j c hj
    rwa [ah _ _ _ hjp] at this
  refine ⟨⟨hGX, h1⟩, bN (hL _ _ _ (by rw [hBd]; kernel_rfl) ?_)⟩
  repeat (refine aa rfl fun K hK => ?_; simp (disch := omega) only [WW, BB, ↓ab, simprocAttr, fl136_0]; refine hK _ _ ?_; clear hK)
  refine aq (p := .ptr p 0) (v := y') rfl rfl rfl (by simp (disch := omega) only [WW, BB, ↓ab, simprocAttr]) rfl (aT (b := p) (off := 0) h1 ty64 h2 h3 (by simp)) ?_
  repeat (first
    | (refine aa rfl fun K hK => ?_; simp (disch := omega) only [WW, BB, ↓ab, simprocAttr]; refine hK _ _ ?_; clear hK) | (refine ae ?_; simp only [TH]; (((repeat ((fail_if_success refine hS _ _ ?_); clear hS)); refine hS _ _ ?_); clear hS; try clear hF)) | refine af fun K hS hF => ?_ | refine ac rfl ?_ | (refine al ?_; simp (disch := omega) only [TH, TE, WW, BB, ↓ab, simprocAttr]))
  exact ⟨_, rfl, [], _, aj _, hQ _ h4⟩

structure Hdr where
  ver : Nat
  prev : List Nat
  root : List Nat
  time : Nat
  bits : Nat
  nonce : Nat
def okHd (h : Hdr) : Prop := okH h.prev ∧ okH h.root ∧ h.ver < 4294967296 ∧ h.time < 4294967296 ∧ h.bits < 4294967296 ∧ h.nonce < 4294967296
def hdC (h : Hdr) : List V := vN .u32 h.ver :: (nR .u8 h.prev ++ (nR .u8 h.root ++ [vN .u32 h.time, vN .u32 h.bits, vN .u32 h.nonce]))
theorem aX {h : Hdr} (ho : okHd h) : (hdC h).length = 68 := by simp [hdC, ar, ho.1.1, ho.2.1.1]
def encH (h : Hdr) : List Nat := leB 4 h.ver ++ ((h.prev ++ h.root) ++ (leB 4 h.time ++ (leB 4 h.bits ++ leB 4 h.nonce)))
theorem encH_len {h : Hdr} (ho : okHd h) : (encH h).length = 80 := by simp [encH, bq, ho.1.1, ho.2.1.1]
theorem hdC_tail {h : Hdr} (ho : okHd h) : (hdC h).drop 65 = [vN .u32 h.time, vN .u32 h.bits, vN .u32 h.nonce] := by
  simp only [hdC]
  rw [List.drop_succ_cons, List.drop_append, List.drop_of_length_le (by rw [ar, ho.1.1]; omega), List.nil_append, ar, ho.1.1, List.drop_append, List.drop_of_length_le (by rw [ar, ho.2.1.1]; omega), List.nil_append, ar, ho.2.1.1]
  rfl
theorem hdC_get {h : Hdr} (ho : okHd h) (j : Nat) : (hdC h)[65 + j]? = [vN .u32 h.time, vN .u32 h.bits, vN .u32 h.nonce][j]? := by
  rw [← hdC_tail ho, List.getElem?_drop]
theorem ldh {h : Hdr} (ho : okHd h) (m : Nat) : ldc (some (false, m)) (hdC h) 65 = some (vN .u32 h.time) ∧ ldc (some (false, m)) (hdC h) 66 = some (vN .u32 h.bits) ∧ ldc (some (false, m)) (hdC h) 67 = some (vN .u32 h.nonce) ∧ ldc (some (false, m)) (hdC h) 0 = some (vN .u32 h.ver) :=
  ⟨hdC_get ho 0, hdC_get ho 1, hdC_get ho 2, rfl⟩
theorem chunks_app (k : IntKind) {l : List Nat} {r : List V} {n : Nat} (hl : l.length = n) : bG 1 n (nR k l ++ r) = nE k l := by
  subst hl
  induction l with
  | nil => rfl
  | cons a l ih =>
    simp only [nR, nE, List.map_cons, List.length_cons, bG, List.cons_append, List.take_succ_cons, List.take_zero, List.drop_succ_cons, List.drop_zero] at ih ⊢
    rw [ih]
theorem sl_prev {h : Hdr} (ho : okHd h) : bf Try.prog 25 (.cptr (hdC h) 1) none none none = some (.sl 1 (nE .u8 h.prev) true) := by
  simp only [bf, ar25, Option.isSome_none, Bool.false_eq_true, if_false, false_and, sliceArr, bnd_none, Option.bind_some]
  rw [if_pos ⟨by rw [aX ho]; omega, by omega⟩]
  have : (hdC h).drop (1 + 0 * 1) = nR .u8 h.prev ++ (nR .u8 h.root ++ [vN .u32 h.time, vN .u32 h.bits, vN .u32 h.nonce]) := rfl
  rw [this, chunks_app _ (by rw [ho.1.1])]
  rfl
theorem sl_root {h : Hdr} (ho : okHd h) : bf Try.prog 25 (.cptr (hdC h) 33) none none none = some (.sl 1 (nE .u8 h.root) true) := by
  simp only [bf, ar25, Option.isSome_none, Bool.false_eq_true, if_false, false_and, sliceArr, bnd_none, Option.bind_some]
  rw [if_pos ⟨by rw [aX ho]; omega, by omega⟩]
  have : (hdC h).drop (33 + 0 * 1) = nR .u8 h.root ++ [vN .u32 h.time, vN .u32 h.bits, vN .u32 h.nonce] := by
    simp only [hdC]
    rw [List.drop_succ_cons, List.drop_append, List.drop_of_length_le (by rw [ar, ho.1.1]; omega), List.nil_append, ar, ho.1.1]
    rfl
  rw [this, chunks_app _ (by rw [ho.2.1.1])]
  rfl
theorem z136 : zeroT Try.prog 136 = some [.nils] := by kernel_rfl
theorem pen_new {H : Hp} {b : Nat} (hb : H b = none) : Pen H (upd H b (some (.row [.nils]))) b [] := ⟨ai (aj _) hb, hb, .nils, ag _ _ _, .inl ⟨rfl, rfl⟩⟩
theorem goes4' {x : Nat} (h : x < 4294967296) : goesIn x 4 = true := by
  simp only [goesIn, Nat.reduceEqDiff, decide_false, Bool.false_or, Nat.reduceMul, Nat.reducePow, decide_eq_true_eq]
  omega
theorem bs115b {S : Nat → Spec} {Y : aC} {H : Hp} {t : T} {Q : V → Hp → Prop} {x y : Operand} {z w : V} (hx : evT t x = z) (hy : evT t y = w) (hc : aW z = some [z]) (hc2 : aW w = some [w]) (h : Q (.sl 1 [[z], [w]] true) H) : wpOp Try.prog S Y false H (evT t) (.buildSlice 115 2 #[(0, x), (1, y)]) Q := by
  refine ⟨1, [[.nils], [.nils]], [[z], [w]], by kernel_rfl, by omega, ?_, h⟩
  simp only [List.map_cons, List.map_nil, bv, hx, hy, hc, hc2]
  rfl
theorem bu158 {a b c : Nat} : bH Try.prog 158 [(0, vN .u32 a), (1, vN .u32 b), (2, vN .u32 c)] = some (.agg [vN .u32 a, vN .u32 b, vN .u32 c]) := by kernel_rfl

def s96 : Spec := fun _ args H Q => ∃ h, args = [.agg (hdC h)] ∧ okHd h ∧ ∀ v, isB v (encH h) → Q v H
theorem snd96 : Sound Try.prog 96 s96 := by
  refine ak pm (ap [(91, s91), (93, s93b), (95, s95)] (by simp [snd91, snd93b, snd95])) [1] Try.func96 rfl (by kernel_rfl) ?_
  rintro Y args H Q ⟨h, rfl, ho, hQ⟩
  refine ⟨by simp [Try.f96], ?_⟩
  show wpC Try.prog (tab [(91, s91), (93, s93b), (95, s95)]) Y [1] 35 _ true (aB Try.prog [.tmp 2] Q) _ H
  have hv := ho.2.2
  repeat (first
    | (refine aa rfl fun K hK => ?_; simp (disch := omega) only [WW, BB, ↓ab, simprocAttr]; refine hK _ _ ?_; clear hK) | (refine ae ?_; simp only [TH]; (((repeat ((fail_if_success refine hS _ _ ?_); clear hS)); refine hS _ _ ?_); clear hS; try clear hF)) | refine af fun K hS hF => ?_ | refine ac rfl ?_)
  refine aa rfl fun K hK => ⟨_, z136, fun p hp => hK _ _ ?_⟩
  have hP := pen_new hp
  generalize upd H p (some (.row [.nils])) = X at *
  repeat (first
    | (refine aa rfl fun K hK => ?_; simp (disch := omega) only [WW, BB, ↓ab, simprocAttr, fl46_0, ty44, (ldh ho 1).2.2.2, conv_u64 _ us44 i91, Nat.mod_eq_of_lt (show h.ver < 18446744073709551616 by omega)]; refine hK _ _ ?_; clear hK) | (refine ae ?_; simp only [TH]; (((repeat ((fail_if_success refine hS _ _ ?_); clear hS)); refine hS _ _ ?_); clear hS; try clear hF)) | refine af fun K hS hF => ?_ | refine ac rfl ?_)
  refine aa rfl fun K hK => ?_
  simp (disch := omega) only [WW, BB, ↓ab, simprocAttr]
  refine ⟨H, p, [], 4, h.ver, rfl, hP, by simp [isW], goes4' hv.1, by omega, by simp, fun X1 hP1 => hK _ _ ?_⟩
  rw [List.nil_append] at hP1
  repeat (first
    | (refine ae ?_; simp only [TH]; (((repeat ((fail_if_success refine hS _ _ ?_); clear hS)); refine hS _ _ ?_); clear hS; try clear hF)) | refine af fun K hS hF => ?_)
  refine bJ 5 (by kernel_rfl) rfl rfl ?_
  repeat (refine aQ rfl fun K hK => ?_; simp (disch := omega) only [WW, BB, ↓ab, simprocAttr, fl46_1, fl46_2, sl_prev ho, sl_root ho]; refine ⟨_, ⟨rfl, by first | rfl | trivial⟩, hK _ ?_⟩; clear hK)
  refine aQ rfl fun K hK => ⟨.sl 1 [[.sl 1 (nE .u8 h.prev) true], [.sl 1 (nE .u8 h.root) true]] true, bs115b (by simp (disch := omega) only [WW, BB, ↓ab, simprocAttr]) (by simp (disch := omega) only [WW, BB, ↓ab, simprocAttr]) rfl rfl ⟨rfl, rfl⟩, hK _ ?_⟩
  refine bx ?_
  refine aa rfl fun K hK => ⟨H, p, leB 4 h.ver, .sl 1 [[.sl 1 (nE .u8 h.prev) true], [.sl 1 (nE .u8 h.root) true]] true, .sl 1 (nE .u8 h.prev) true, .sl 1 (nE .u8 h.root) true, h.prev, h.root, ?_, hP1, bg, bg, bg, ho.1.1, ho.2.1.1, by rw [bq]; omega, fun X2 hP2 => hK _ _ ?_⟩
  · simp (disch := omega) only [WW, BB, ↓ab, simprocAttr]
  repeat (first
    | (refine aa rfl fun K hK => ?_; simp (disch := omega) only [WW, BB, ↓ab, simprocAttr, fl46_3, fl46_4, fl46_5, ty44, (ldh ho 1).1, (ldh ho 1).2.1, (ldh ho 1).2.2.1, bu158]; refine hK _ _ ?_; clear hK) | (refine ae ?_; simp only [TH]; (((repeat ((fail_if_success refine hS _ _ ?_); clear hS)); refine hS _ _ ?_); clear hS; try clear hF)) | refine af fun K hS hF => ?_ | refine ac rfl ?_ | refine ax ?_)
  refine aO (fun m t X => ∃ i, m = 3 - i ∧ i ≤ 3 ∧ t 4 = .fn (.func 91) [.ptr p 0] [] ∧ t 3 = .ptr p 0 ∧ t 25 = .agg [vN .u32 h.time, vN .u32 h.bits, vN .u32 h.nonce] ∧ t 26 = vN .i64 i ∧ Pen H X p (leB 4 h.ver ++ (h.prev ++ h.root) ++ (([h.time, h.bits, h.nonce].take i).flatMap (leB 4)))) 3
    ⟨0, rfl, by omega, by simp (disch := omega) only [WW, BB, ↓ab, simprocAttr], by simp (disch := omega) only [WW, BB, ↓ab, simprocAttr], by simp (disch := omega) only [WW, BB, ↓ab, simprocAttr], by simp (disch := omega) only [WW, BB, ↓ab, simprocAttr], by simpa using hP2⟩ fun KL m t X hI hKL => ?_
  obtain ⟨i, rfl, hi, q4, q3, q25, q26, hP3⟩ := hI
  repeat (first
    | (refine aa rfl fun K hK => ?_; simp (disch := omega) only [WW, BB, ↓ab, simprocAttr, q26]; refine hK _ _ ?_; clear hK) | (refine ae ?_; simp only [TH]; (((repeat ((fail_if_success refine hS _ _ ?_); clear hS)); refine hS _ _ ?_); clear hS; try clear hF)) | refine af fun K hS hF => ?_ | refine ac rfl ?_)
  refine aH rfl (fun hd => ?_) (fun hd => ?_)
  · (refine am ?_; simp only [TH]; ((repeat ((fail_if_success refine hS _ _ ?_); clear hS)); refine hS _ _ ?_); clear hS; try clear hF)
    obtain ⟨x, hx⟩ : ∃ x, [h.time, h.bits, h.nonce][i]? = some x := ⟨_, List.getElem?_eq_getElem (by simpa using hd)⟩
    have hxl : x < 4294967296 := by
      have := List.mem_of_getElem? hx
      simp only [List.mem_cons, List.not_mem_nil, or_false] at this
      rcases this with rfl | rfl | rfl
      · exact hv.2.1
      · exact hv.2.2.1
      · exact hv.2.2.2
    have hix : indexV Try.prog 158 (.agg [vN .u32 h.time, vN .u32 h.bits, vN .u32 h.nonce]) (vN .i64 i) = some (vN .u32 x) := by
      rcases (by omega : i = 0 ∨ i = 1 ∨ i = 2) with rfl | rfl | rfl <;> cases hx <;> kernel_rfl
    have htk : ([h.time, h.bits, h.nonce].take (i + 1)).flatMap (leB 4) = ([h.time, h.bits, h.nonce].take i).flatMap (leB 4) ++ leB 4 x := by
      rw [List.take_add_one, hx]
      simp
    have hlen : (([h.time, h.bits, h.nonce].take i).flatMap (leB 4)).length ≤ 12 := by
      rcases (by omega : i = 0 ∨ i = 1 ∨ i = 2) with rfl | rfl | rfl <;> simp [bq]
    repeat (first
    | (refine aa rfl fun K hK => ?_; simp (disch := omega) only [WW, BB, ↓ab, simprocAttr, q25, q26, hix, q4, conv_u64 _ us44 i91, Nat.mod_eq_of_lt (show x < 18446744073709551616 by omega)]; refine hK _ _ ?_; clear hK) | (refine ae ?_; simp only [TH]; (((repeat ((fail_if_success refine hS _ _ ?_); clear hS)); refine hS _ _ ?_); clear hS; try clear hF)) | refine af fun K hS hF => ?_ | refine ac rfl ?_)
    refine aa rfl fun K hK => ?_
    simp (disch := omega) only [WW, BB, ↓ab, simprocAttr, q4]
    refine ⟨H, p, _, 4, x, rfl, hP3, by simp [isW], goes4' hxl, by omega, ?_, fun X4 hP4 => hK _ _ ?_⟩
    · simp only [List.length_append, bq, ho.1.1, ho.2.1.1]
      omega
    rw [List.append_assoc, ← htk] at hP4
    repeat (first
    | (refine aa rfl fun K hK => ?_; simp (disch := omega) only [WW, BB, ↓ab, simprocAttr, q26, aP]; refine hK _ _ ?_; clear hK) | (refine ae ?_; simp only [TH]; first | (((repeat ((fail_if_success refine hS _ _ ?_); clear hS)); refine hS _ _ ?_); clear hS; try clear hF) | skip) | refine ac rfl ?_)
    refine hKL (3 - (i + 1)) _ _ (by omega) ⟨i + 1, rfl, by omega, ?_, ?_, ?_, ?_, hP4⟩
    · simp (disch := omega) only [WW, BB, ↓ab, simprocAttr, q4]
    · simp (disch := omega) only [WW, BB, ↓ab, simprocAttr, q3]
    · simp (disch := omega) only [WW, BB, ↓ab, simprocAttr, q25]
    · simp (disch := omega) only [WW, BB, ↓ab, simprocAttr]
  · (refine aG ?_; simp only [TH, ↓reduceIte, Nat.reduceEqDiff]; ((repeat ((fail_if_success refine hS _ _ ?_); clear hS)); refine hS _ _ ?_); clear hS; try clear hF)
    have : i = 3 := by omega
    subst this
    have he : leB 4 h.ver ++ (h.prev ++ h.root) ++ (([h.time, h.bits, h.nonce].take 3).flatMap (leB 4)) = encH h := by
      simp [encH]
    rw [he] at hP3
    repeat (first
    | refine af fun K hS hF => ?_ | refine ac rfl ?_)
    refine aa rfl fun K hK => ⟨H, p, encH h, ?_, hP3, by rw [encH_len ho]; omega, fun v hv => hK _ _ ?_⟩
    · simp (disch := omega) only [WW, BB, ↓ab, simprocAttr, q3]
    repeat (first
    | (refine aa rfl fun K hK => ?_; simp (disch := omega) only [WW, BB, ↓ab, simprocAttr]; refine hK _ _ ?_; clear hK) | (refine ae ?_; simp only [TH]; (((repeat ((fail_if_success refine hS _ _ ?_); clear hS)); refine hS _ _ ?_); clear hS; try clear hF)) | (refine al ?_; simp (disch := omega) only [TH, TE, WW, BB, ↓ab, simprocAttr]))
    exact ⟨_, rfl, [], H, hP3.1, hQ _ hv⟩
end Go.Av

set_option linter.unusedSimpArgs false
set_option linter.unusedVariables false
namespace Go.Av
open Go.RowKit Go.Proofs

/-- The iterator over scripts. -/
def scrS (Y : aC) (l : Nat) (G : Hp) (Qe : Hp → Prop) : List (List Nat) → Hp → Prop
  | [], X => Qe X
  | s :: r, X => ∀ v, ao G 1 v = some (nE .u8 s) → ∃ Q₁ : V → Hp → Prop, Y l [v] X Q₁ ∧ ∀ b X', Q₁ b X' → (b = .bool false ∧ Qe X') ∨ (b = .bool true ∧ hle G X' ∧ scrS Y l G Qe r X')

def scripts (x : TTx) : List (List Nat) := x.ins.map (·.script) ++ x.outs.map (·.script)

def s103 : Spec := fun _ args H Q => ∃ cs, args = [.agg cs] ∧ Q (.fn (.func 109) [] [.cptr cs 0]) H
theorem snd103 : Sound Try.prog 103 s103 := by
  refine ak pm (ap [] (by simp)) [1] Try.func103 rfl (by kernel_rfl) ?_
  rintro Y args H Q ⟨cs, rfl, hQ⟩
  refine ⟨by simp [Try.f103], ?_⟩
  show wpC Try.prog (tab []) Y [1] 4 _ true (aB Try.prog [.tmp 2] Q) _ H
  repeat (first
    | (refine aa rfl fun K hK => ?_; simp (disch := omega) only [WW, BB, ↓ab, simprocAttr]; refine hK _ _ ?_; clear hK) | (refine ae ?_; simp only [TH]; (((repeat ((fail_if_success refine hS _ _ ?_); clear hS)); refine hS _ _ ?_); clear hS; try clear hF)) | refine af fun K hS hF => ?_ | refine ac rfl ?_ | (refine al ?_; simp (disch := omega) only [TH, TE, WW, BB, ↓ab, simprocAttr]))
  exact ⟨_, rfl, [], _, aj _, hQ⟩

def s109 : Spec := fun Y args H Q => ∃ l cs x G, args = [.fn (.yield l) [] [], .cptr cs 0] ∧ isTx G cs x ∧ hle G H ∧ x.ins.length ≤ 60 ∧ x.outs.length ≤ 60 ∧ scrS Y l G (fun X => Q (.tup []) X) (scripts x) H

theorem snd109 : Sound Try.prog 109 s109 := by
  refine ak pm (ap [] (by simp)) [] Try.func109 rfl (by kernel_rfl) ?_
  rintro Y args H Q ⟨l, cs, x, G, rfl, ⟨vi, vo, ei, eo, rfl, hvi, hni, hei, hvo, hno, heo, hver, hlock⟩, hG, h6, h7, hR⟩
  refine ⟨by simp [Try.f109], ?_⟩
  show wpC Try.prog (tab []) Y [] 33 _ true (aB Try.prog [] Q) _ H
  have hly := av (P := Try.prog) sl53 hvi
  rw [hei.1] at hly
  have hly2 := av (P := Try.prog) sl54 hvo
  rw [heo.1] at hly2
  repeat (first
    | (refine aa rfl fun K hK => ?_; simp (disch := omega) only [WW, BB, ↓ab, simprocAttr, bA, ty53, hly]; refine hK _ _ ?_; clear hK) | (refine ae ?_; simp only [TH]; (((repeat ((fail_if_success refine hS _ _ ?_); clear hS)); refine hS _ _ ?_); clear hS; try clear hF)) | refine af fun K hS hF => ?_ | refine ac rfl ?_ | refine ax ?_)
  refine aO (fun m t X => ∃ i, m = x.ins.length - i ∧ i ≤ x.ins.length ∧ hle G X ∧ t 0 = .fn (.yield l) [] [] ∧ t 1 = .cptr [vN .u32 x.ver, vi, vo, vN .u32 x.lock] 0 ∧ t 8 = vi ∧ t 9 = vN .i64 x.ins.length ∧ t 10 = vN .i64 i ∧ scrS Y l G (fun X => Q (.tup []) X) ((x.ins.drop i).map (·.script) ++ x.outs.map (·.script)) X) x.ins.length
    ⟨0, rfl, by omega, hG, rfl, rfl, by simp (disch := omega) only [WW, BB, ↓ab, simprocAttr], by simp (disch := omega) only [WW, BB, ↓ab, simprocAttr], by simp (disch := omega) only [WW, BB, ↓ab, simprocAttr], hR⟩ fun KL m t X hI hKL => ?_
  clear hG hR
  obtain ⟨i, rfl, hi, hG, q0, q1, q8, q9, q10, hR⟩ := hI
  repeat (first
    | (refine aa rfl fun K hK => ?_; simp (disch := omega) only [WW, BB, ↓ab, simprocAttr, q9, q10]; refine hK _ _ ?_; clear hK) | (refine ae ?_; simp only [TH]; (((repeat ((fail_if_success refine hS _ _ ?_); clear hS)); refine hS _ _ ?_); clear hS; try clear hF)) | refine af fun K hS hF => ?_ | refine ac rfl ?_)
  refine aH rfl (fun hd => ?_) (fun hd => ?_)
  · (refine am ?_; simp only [TH]; ((repeat ((fail_if_success refine hS _ _ ?_); clear hS)); refine hS _ _ ?_); clear hS; try clear hF)
    obtain ⟨o, ho⟩ : ∃ o, x.ins[i]? = some o := ⟨_, List.getElem?_eq_getElem hd⟩
    obtain ⟨e, he, hio⟩ := hei.get ho
    obtain ⟨pp, hp, hpl⟩ := bc (P := Try.prog) (k := .i64) ar53 sl53 (aL hG hvi) he (isIn_len hio)
    obtain ⟨s, hes, hvs, hns, hok1, hn, hsq, hsl⟩ := hio
    have hes' : e = pC o.tx o.n ++ [s, vN .u32 o.seq] := by rw [hes, pC, List.append_assoc]; rfl
    subst hes'
    have hdr : x.ins.drop i = o :: x.ins.drop (i + 1) := by
      rw [List.drop_eq_getElem_cons hd, (List.getElem?_eq_some_iff.1 ho).2]
    rw [hdr, List.map_cons, List.cons_append] at hR
    obtain ⟨Q₁, hY, hQ₁⟩ := hR s hvs
    repeat (first
    | (refine aa rfl fun K hK => ?_; simp (disch := omega) only [WW, BB, ↓ab, simprocAttr, q8, q10, hp, hpl, ty68]; refine hK _ _ ?_; clear hK) | refine af fun K hS hF => ?_ | refine ac rfl ?_)
    refine as_frz (d := 4) (v := .agg (pC o.tx o.n ++ [s, vN .u32 o.seq])) rfl rfl rfl rfl rfl rfl z68 (fun H' b hb => au hb ty68 (by simp [bP hok1.1]) (by rw [List.all_append, pC_ones]; simp only [List.all_cons, (bd hvs).1]; rfl) (by rw [List.length_append, bP h0_ok.1]; rfl)) (by decide) hF (fun p => by simp (disch := omega) only [WW, BB, ↓ab, simprocAttr]) ?_
    have hld : ldc (some (false, 1)) (pC o.tx o.n ++ [s, vN .u32 o.seq]) 33 = some s := by
      simp only [ldc]
      rw [List.getElem?_append_right (by rw [bP hok1.1]; omega), bP hok1.1]
      rfl
    repeat (first
    | (refine aa rfl fun K hK => ?_; simp (disch := omega) only [WW, BB, ↓ab, simprocAttr, fl68_1, ty64, hld, q0]; refine hK _ _ ?_; clear hK) | refine af fun K hS hF => ?_ | refine ac rfl ?_)
    refine aa rfl fun K hK => ?_
    simp (disch := omega) only [WW, BB, ↓ab, simprocAttr, q0]
    refine ⟨Q₁, hY, fun r X' hq => hK _ _ ?_⟩
    clear hK
    rcases hQ₁ r X' hq with ⟨rfl, hQe⟩ | ⟨rfl, hG', hnext⟩
    · repeat (first
    | (refine aa rfl fun K hK => ?_; simp (disch := omega) only [WW, BB, ↓ab, simprocAttr]; refine hK _ _ ?_; clear hK) | (refine ae ?_; simp only [TH]; (((repeat ((fail_if_success refine hS _ _ ?_); clear hS)); refine hS _ _ ?_); clear hS; try clear hF)))
      refine aS rfl ?_
      repeat (refine al ?_; simp (disch := omega) only [TH, TE, WW, BB, ↓ab, simprocAttr])
      exact ⟨_, rfl, [], _, aj _, hQe⟩
    · repeat (first
    | (refine aa rfl fun K hK => ?_; simp (disch := omega) only [WW, BB, ↓ab, simprocAttr]; refine hK _ _ ?_; clear hK) | (refine ae ?_; simp only [TH]; (((repeat ((fail_if_success refine hS _ _ ?_); clear hS)); refine hS _ _ ?_); clear hS; try clear hF)))
      refine aE rfl ?_
      repeat (first
    | (refine aa rfl fun K hK => ?_; simp (disch := omega) only [WW, BB, ↓ab, simprocAttr, q10, aP]; refine hK _ _ ?_; clear hK) | ((first | refine ae ?_ | refine am ?_); simp only [TH]; first | (((repeat ((fail_if_success refine hS _ _ ?_); clear hS)); refine hS _ _ ?_); clear hS; try clear hF) | skip) | refine ac rfl ?_)
      refine hKL (x.ins.length - (i + 1)) _ _ (by omega) ⟨i + 1, rfl, by omega, hG', ?_, ?_, ?_, ?_, ?_, hnext⟩
      · simp (disch := omega) only [WW, BB, ↓ab, simprocAttr, q0]
      · simp (disch := omega) only [WW, BB, ↓ab, simprocAttr, q1]
      · simp (disch := omega) only [WW, BB, ↓ab, simprocAttr, q8]
      · simp (disch := omega) only [WW, BB, ↓ab, simprocAttr, q9]
      · simp (disch := omega) only [WW, BB, ↓ab, simprocAttr]
  · (refine aG ?_; simp only [TH, ↓reduceIte, Nat.reduceEqDiff]; ((repeat ((fail_if_success refine hS _ _ ?_); clear hS)); refine hS _ _ ?_); clear hS; try clear hF)
    have : i = x.ins.length := by omega
    subst this
    rw [List.drop_of_length_le (Nat.le_refl _), List.map_nil, List.nil_append] at hR
    repeat (first
    | (refine aa rfl fun K hK => ?_; simp (disch := omega) only [WW, BB, ↓ab, simprocAttr, fl56_2, ty54, hly2, q1]; refine hK _ _ ?_; clear hK) | (refine ae ?_; simp only [TH]; (((repeat ((fail_if_success refine hS _ _ ?_); clear hS)); refine hS _ _ ?_); clear hS; try clear hF)) | refine af fun K hS hF => ?_ | refine ac rfl ?_ | refine ax ?_)
    refine aO (fun m t X => ∃ i, m = x.outs.length - i ∧ i ≤ x.outs.length ∧ hle G X ∧ t 0 = .fn (.yield l) [] [] ∧ t 21 = vo ∧ t 22 = vN .i64 x.outs.length ∧ t 23 = vN .i64 i ∧ scrS Y l G (fun X => Q (.tup []) X) ((x.outs.drop i).map (·.script)) X) x.outs.length
      ⟨0, rfl, by omega, hG, by simp (disch := omega) only [WW, BB, ↓ab, simprocAttr, q0], by simp (disch := omega) only [WW, BB, ↓ab, simprocAttr], by simp (disch := omega) only [WW, BB, ↓ab, simprocAttr], by simp (disch := omega) only [WW, BB, ↓ab, simprocAttr], hR⟩ fun KL m t X hI hKL => ?_
    clear hG hR q0 q1 q8 q9 q10
    obtain ⟨i, rfl, hi, hG, q0, q21, q22, q23, hR⟩ := hI
    repeat (first
    | (refine aa rfl fun K hK => ?_; simp (disch := omega) only [WW, BB, ↓ab, simprocAttr, q22, q23]; refine hK _ _ ?_; clear hK) | (refine ae ?_; simp only [TH]; (((repeat ((fail_if_success refine hS _ _ ?_); clear hS)); refine hS _ _ ?_); clear hS; try clear hF)) | refine af fun K hS hF => ?_ | refine ac rfl ?_)
    refine aH rfl (fun hd => ?_) (fun hd => ?_)
    · (refine am ?_; simp only [TH]; ((repeat ((fail_if_success refine hS _ _ ?_); clear hS)); refine hS _ _ ?_); clear hS; try clear hF)
      obtain ⟨o, ho⟩ : ∃ o, x.outs[i]? = some o := ⟨_, List.getElem?_eq_getElem hd⟩
      obtain ⟨e, he, hio⟩ := heo.get ho
      obtain ⟨pp, hp, hpl⟩ := bc (P := Try.prog) (k := .i64) ar54 sl54 (aL hG hvo) he (isOut_len hio)
      obtain ⟨s, rfl, hvs, hns, hz, hsl⟩ := hio
      have hdr : x.outs.drop i = o :: x.outs.drop (i + 1) := by
        rw [List.drop_eq_getElem_cons hd, (List.getElem?_eq_some_iff.1 ho).2]
      rw [hdr, List.map_cons] at hR
      obtain ⟨Q₁, hY, hQ₁⟩ := hR s hvs
      repeat (first
    | (refine aa rfl fun K hK => ?_; simp (disch := omega) only [WW, BB, ↓ab, simprocAttr, q21, q23, hp, hpl, ty70]; refine hK _ _ ?_; clear hK) | refine af fun K hS hF => ?_ | refine ac rfl ?_)
      refine as_frz (d := 6) (v := .agg [.int .i64 o.value, s]) rfl rfl rfl rfl rfl rfl z70 (fun H' b hb => au hb ty70 rfl (by rw [List.all_cons, List.all_cons, (bd hvs).1]; rfl) rfl) (by decide) hF (fun p => by simp (disch := omega) only [WW, BB, ↓ab, simprocAttr]) ?_
      repeat (first
    | (refine aa rfl fun K hK => ?_; simp (disch := omega) only [WW, BB, ↓ab, simprocAttr, fl70_1, ty64, q0]; refine hK _ _ ?_; clear hK) | refine af fun K hS hF => ?_ | refine ac rfl ?_)
      refine aa rfl fun K hK => ?_
      simp (disch := omega) only [WW, BB, ↓ab, simprocAttr, q0]
      refine ⟨Q₁, hY, fun r X' hq => hK _ _ ?_⟩
      clear hK
      rcases hQ₁ r X' hq with ⟨rfl, hQe⟩ | ⟨rfl, hG', hnext⟩
      · repeat (first
    | (refine aa rfl fun K hK => ?_; simp (disch := omega) only [WW, BB, ↓ab, simprocAttr]; refine hK _ _ ?_; clear hK) | (refine ae ?_; simp only [TH]; (((repeat ((fail_if_success refine hS _ _ ?_); clear hS)); refine hS _ _ ?_); clear hS; try clear hF)))
        refine aS rfl ?_
        repeat (refine al ?_; simp (disch := omega) only [TH, TE, WW, BB, ↓ab, simprocAttr])
        exact ⟨_, rfl, [], _, aj _, hQe⟩
      · repeat (first
    | (refine aa rfl fun K hK => ?_; simp (disch := omega) only [WW, BB, ↓ab, simprocAttr]; refine hK _ _ ?_; clear hK) | (refine ae ?_; simp only [TH]; (((repeat ((fail_if_success refine hS _ _ ?_); clear hS)); refine hS _ _ ?_); clear hS; try clear hF)))
        refine aE rfl ?_
        repeat (first
    | (refine aa rfl fun K hK => ?_; simp (disch := omega) only [WW, BB, ↓ab, simprocAttr, q23, aP]; refine hK _ _ ?_; clear hK) | ((first | refine ae ?_ | refine am ?_); simp only [TH]; first | (((repeat ((fail_if_success refine hS _ _ ?_); clear hS)); refine hS _ _ ?_); clear hS; try clear hF) | skip) | refine ac rfl ?_)
        refine hKL (x.outs.length - (i + 1)) _ _ (by omega) ⟨i + 1, rfl, by omega, hG', ?_, ?_, ?_, ?_, hnext⟩
        · simp (disch := omega) only [WW, BB, ↓ab, simprocAttr, q0]
        · simp (disch := omega) only [WW, BB, ↓ab, simprocAttr, q21]
        · simp (disch := omega) only [WW, BB, ↓ab, simprocAttr, q22]
        · simp (disch := omega) only [WW, BB, ↓ab, simprocAttr]
    · refine aG ?_
      simp only [TH, TE, ↓reduceIte]
      have : i = x.outs.length := by omega
      subst this
      rw [List.drop_of_length_le (Nat.le_refl _)] at hR
      exact ⟨[], rfl, [], _, aj _, hR⟩
end Go.Av

set_option linter.unusedSimpArgs false
set_option linter.unusedVariables false
namespace Go.Av
open Go.RowKit Go.Proofs
theorem ty26 : tyT Try.prog 26 = some (false, 1) := by kernel_rfl

def longS (s : List Nat) : Bool := decide (2000 < s.length)
def F90 (Y : aC) (t : T) (l : Nat) (ob : LoopState → Option Code → Obj) : Spec0 := fun args H' QY => args.length = 1 ∧ H' l = some (.raw (ob .ready none)) ∧
  wpC Try.prog (tab [(103, s103), (109, s109)]) Y [1] 34 (asgOf (aU Try.f90 0)) false (onlyA fun t₁ H₁ => H₁ l = some (.raw (ob .ready none)) ∧
    wpC Try.prog (tab [(103, s103), (109, s109)]) Y [1] 34 (rbodyOf (aU Try.f90 0)) false (bL l ob QY) t₁ (upd H₁ l (some (.raw (ob .busy none))))) (putsT 34 t [29] args) H'

theorem scr90 {Y Y' : aC} {t : T} {l r : Nat} {ob : LoopState → Option Code → Obj} {G : Hp} {Qe : Hp → Prop} (q3 : t 3 = .ptr r 0) (gr : G r = none) (gl : G l = none) (hrl : r ≠ l) :
    ∀ (ss : List (List Nat)) (e : Nat) (X : Hp), (∀ s ∈ ss, s.length ≤ 2100) → X r = some (.row [vN .i64 e]) → X l = some (.raw (ob .ready none)) → hle G X →
      (∀ X', hle G X' → X' r = some (.row [vN .i64 (if ss.any longS then 60 else e)]) → (X' l = some (.raw (ob .ready none)) ∨ X' l = some (.raw (ob .done (some (.exit 0))))) → Qe X') → scrS (upd Y' l (F90 Y t l ob)) l G Qe ss X
  | [], e, X, _, xr, xl, hG, hQ => hQ X hG xr (.inl xl)
  | s :: ss, e, X, hss, xr, xl, hG, hQ => fun v hv => by
    have hly := av (P := Try.prog) sl64 hv
    rw [az] at hly
    have hs := hss s (by simp)
    refine ⟨fun b X' => (longS s = true → b = .bool false ∧ X' r = some (.row [vN .i64 60]) ∧ X' l = some (.raw (ob .done (some (.exit 0)))) ∧ hle G X') ∧
      (longS s = false → b = .bool true ∧ X' r = some (.row [vN .i64 e]) ∧ X' l = some (.raw (ob .ready none)) ∧ hle G X'), ?_, ?_⟩
    · rw [ag]
      refine ⟨rfl, xl, ?_⟩
      show wpC Try.prog _ Y [1] 34 (asgOf (aU Try.f90 0)) false (onlyA _) (putT 34 t (some 29) v) X
      refine ac rfl ?_
      repeat (first
    | (refine aa rfl fun K hK => ?_; simp (disch := omega) only [WW, BB, ↓ab, simprocAttr]; refine hK _ _ ?_; clear hK) | (refine ae ?_; simp only [TH]; (((repeat ((fail_if_success refine hS _ _ ?_); clear hS)); refine hS _ _ ?_); clear hS; try clear hF)))
      refine ae ?_
      simp only [onlyA]
      refine ⟨xl, ?_⟩
      have yr : upd X l (some (.raw (ob .busy none))) r = some (.row [vN .i64 e]) := by rw [ah _ _ _ hrl]; exact xr
      have yl : upd X l (some (.raw (ob .busy none))) l = some (.raw (ob .busy none)) := ag _ _ _
      have yG : hle G (upd X l (some (.raw (ob .busy none)))) := ai hG gl
      have yX : ∀ z, upd (upd X l (some (.raw (ob .busy none)))) l z = upd X l z := fun z => aD _ _ _ _
      generalize upd X l (some (.raw (ob .busy none))) = X1 at *
      refine ax ?_
      by_cases c : 2000 < s.length
      · have d : decide (2000 < s.length) = true := decide_eq_true c
        have hl : longS s = true := d
        repeat (first
    | (refine aa rfl fun K hK => ?_; simp (disch := omega) only [WW, BB, ↓ab, simprocAttr, hly, d]; refine hK _ _ ?_; clear hK) | (refine ae ?_; simp only [TH]; (((repeat ((fail_if_success refine hS _ _ ?_); clear hS)); refine hS _ _ ?_); clear hS; try clear hF)) | refine af fun K hS hF => ?_ | refine ac rfl ?_)
        refine aS (by simp (disch := omega) only [WW, BB, ↓ab, simprocAttr]) ?_
        repeat (first
    | refine af fun K hS hF => ?_ | refine ac rfl ?_)
        refine aq (p := .ptr r 0) (v := vN .i64 60) rfl rfl rfl (by simp (disch := omega) only [WW, BB, ↓ab, simprocAttr, q3]) (by simp (disch := omega) only [WW, BB, ↓ab, simprocAttr]) (aT (b := r) (off := 0) yr ty26 rfl rfl (by simp)) ?_
        repeat (refine ae ?_; simp only [TH]; (((repeat ((fail_if_success refine hS _ _ ?_); clear hS)); refine hS _ _ ?_); clear hS; try clear hF))
        refine aG ?_
        simp only [TH, Nat.reduceEqDiff, if_false, bL]
        refine ⟨⟨_, _, by rw [ah _ _ _ (Ne.symm hrl)]; exact yl⟩, fun _ => ⟨trivial, ?_, ag _ _ _, ai (ai yG gr) gl⟩, fun h => by rw [hl] at h; cases h⟩
        rw [ah _ _ _ hrl]
        exact ag _ _ _
      · have d : decide (2000 < s.length) = false := decide_eq_false c
        have hl : longS s = false := d
        repeat (first
    | (refine aa rfl fun K hK => ?_; simp (disch := omega) only [WW, BB, ↓ab, simprocAttr, hly, d]; refine hK _ _ ?_; clear hK) | (refine ae ?_; simp only [TH]; (((repeat ((fail_if_success refine hS _ _ ?_); clear hS)); refine hS _ _ ?_); clear hS; try clear hF)) | refine af fun K hS hF => ?_ | refine ac rfl ?_)
        refine aE (by simp (disch := omega) only [WW, BB, ↓ab, simprocAttr]) ?_
        refine am ?_
        simp only [TH, bL]
        refine ⟨⟨_, _, yl⟩, fun h => (by rw [hl] at h; cases h), fun _ => ⟨trivial, ?_, ag _ _ _, ai yG gl⟩⟩
        rw [ah _ _ _ hrl]
        exact yr
    · rintro b X' ⟨h1, h2⟩
      cases hl : longS s with
      | true =>
        obtain ⟨rfl, y1, y2, y3⟩ := h1 hl
        refine .inl ⟨rfl, hQ X' y3 ?_ (.inr y2)⟩
        rw [List.any_cons, hl, Bool.true_or, if_pos rfl]
        exact y1
      | false =>
        obtain ⟨rfl, y1, y2, y3⟩ := h2 hl
        refine .inr ⟨rfl, y3, ?_⟩
        refine scr90 q3 gr gl hrl ss e X' (fun s hs => hss s (by simp [hs])) y1 y2 y3 fun X2 z1 z2 z3 => hQ X2 z1 ?_ z3
        rw [List.any_cons, hl, Bool.false_or]
        exact z2

def badN (x : TTx) : Bool := decide (x.ins.length < 1) || decide (50 < x.ins.length) || decide (x.outs.length < 1) || decide (50 < x.outs.length)
def chkB (x : TTx) : Bool := badN x || (scripts x).any longS
def s90 : Spec := fun _ args H Q => ∃ cs x, args = [.agg cs] ∧ isTx H cs x ∧ okT x ∧ Q (vN .i64 (if chkB x then 60 else 0)) H

theorem z26 : zeroT Try.prog 26 = some [vN .i64 0] := by kernel_rfl
theorem agg56 {a b c d : V} : ldc (some (true, 4)) [a, b, c, d] 0 = some (.agg [a, b, c, d]) := rfl
theorem scripts_ok {x : TTx} (h : okT x) : ∀ s ∈ scripts x, s.length ≤ 2100 := fun s hs => by
  rcases List.mem_append.1 hs with h1 | h1
  · obtain ⟨i, hi, rfl⟩ := List.mem_map.1 h1
    exact h.2.2.1 i hi
  · obtain ⟨i, hi, rfl⟩ := List.mem_map.1 h1
    exact h.2.2.2 i hi

section
variable {Y : aC} {t : T} {H X : Hp} {cs : List V} {x : TTx} {r e : Nat} {Q : V → Hp → Prop}
/-- From the iterator on. -/
theorem end90 (q1 : t 1 = .cptr cs 0) (q3 : t 3 = .ptr r 0) (hx : isTx H cs x) (ho : okT x) (hr : H r = none) (hX : hle H X) (xr : X r = some (.row [vN .i64 e])) (hQ : Q (vN .i64 (if (scripts x).any longS then 60 else e)) H) :
    wpC Try.prog (tab [(103, s103), (109, s109)]) Y [1] 34 (.seq (.label 0) (.seq (regAt Try.f90 4) (.seq (.block 0 (aU Try.f90 0)) (.seq (regAt Try.f90 8) .ret)))) true (noGotoA (aB Try.prog [.tmp 2] Q)) t X := by
  have hx' := hx
  obtain ⟨vi, vo, ei, eo, rfl, hvi, hni, hei, hvo, hno, heo, hver, hlock⟩ := hx'
  refine bZ fun K hS => ?_
  refine wpC_label ?_
  simp only [TH]
  refine hS _ _ ?_
  clear hS
  refine af fun K hS hF => ?_
  show wpC Try.prog _ Y [1] 34 (.region 4 _ false) true _ t X
  repeat (first
    | (refine aa rfl fun K hK => ?_; simp (disch := omega) only [WW, BB, ↓ab, simprocAttr, q1, ty56, agg56]; refine hK _ _ ?_; clear hK) | refine ac rfl ?_)
  refine aa rfl fun K hK => ⟨_, rfl, hK _ _ ?_⟩
  repeat (first
    | (refine ae ?_; simp only [TH]; (((repeat ((fail_if_success refine hS _ _ ?_); clear hS)); refine hS _ _ ?_); clear hS; try clear hF)) | refine af fun K hS hF => ?_ | refine ax ?_)
  refine wpC_range (f := 109) (first := []) (caps := [.cptr [vN .u32 x.ver, vi, vo, vN .u32 x.lock] 0]) (by simp (disch := omega) only [WW, BB, ↓ab, simprocAttr]) (by kernel_rfl) fun l ob hl0 => ?_
  have hrl : r ≠ l := fun h => by subst h; rw [xr] at hl0; cases hl0
  have gl : H l = none := bI hX hl0
  refine ⟨l, _, x, H, rfl, hx, ai hX gl, ho.1, ho.2.1, ?_⟩
  refine scr90 (Y := Y) (r := r) (G := H) ?_ hr gl hrl (scripts x) e _ (scripts_ok ho) (by rw [ah _ _ _ hrl]; exact xr) (ag _ _ _) (ai hX gl) fun X' z1 z2 z3 => ?_
  · simp (disch := omega) only [WW, BB, ↓ab, simprocAttr, q3]
  have fin : ∀ (t' : T), t' 3 = .ptr r 0 → wpC Try.prog (tab [(103, s103), (109, s109)]) Y [1] 34 (.seq (regAt Try.f90 8) .ret) true (noGotoA (aB Try.prog [.tmp 2] Q)) t' (upd X' l none) := fun t' q3' => by
    refine af fun K hS hF => ?_
    show wpC Try.prog _ Y [1] 34 (.region 8 _ false) true _ t' _
    repeat (first
    | (refine aa rfl fun K hK => ?_; simp (disch := omega) only [WW, BB, ↓ab, simprocAttr, q3', aw (off := 0) (show upd X' l none r = _ by rw [ah _ _ _ hrl]; exact z2) ty26 rfl]; refine hK _ _ ?_; clear hK) | (refine ae ?_; simp only [TH]; (((repeat ((fail_if_success refine hS _ _ ?_); clear hS)); refine hS _ _ ?_); clear hS; try clear hF)) | refine ac rfl ?_ | (refine al ?_; simp (disch := omega) only [TH, TE, WW, BB, ↓ab, simprocAttr, q3', aw (off := 0) (show upd X' l none r = _ by rw [ah _ _ _ hrl]; exact z2) ty26 rfl]))
    exact ⟨_, rfl, [], H, ai z1 gl, hQ⟩
  rcases z3 with z3 | z3
  · refine ⟨_, _, z3, by simp, ?_⟩
    simp only [endA, TH]
    refine hS _ _ (fin _ ?_)
    simp (disch := omega) only [WW, BB, ↓ab, simprocAttr, q3]
  · refine ⟨_, _, z3, by simp, ?_⟩
    simp only [endA, TH, ↓reduceIte]
    refine hS _ _ (fin _ ?_)
    simp (disch := omega) only [WW, BB, ↓ab, simprocAttr, q3]
end

theorem snd90 : Sound Try.prog 90 s90 := by
  refine ak pm (ap [(103, s103), (109, s109)] (by simp [snd103, snd109])) [1] Try.func90 rfl (by kernel_rfl) ?_
  rintro Y args H Q ⟨cs, x, rfl, hx, ho, hQ⟩
  refine ⟨by simp [Try.f90], ?_⟩
  show wpC Try.prog (tab [(103, s103), (109, s109)]) Y [1] 34 _ true (aB Try.prog [.tmp 2] Q) _ H
  have hx' := hx
  obtain ⟨vi, vo, ei, eo, rfl, hvi, hni, hei, hvo, hno, heo, hver, hlock⟩ := hx'
  have hly := av (P := Try.prog) sl53 hvi
  rw [hei.1] at hly
  have hly2 := av (P := Try.prog) sl54 hvo
  rw [heo.1] at hly2
  have h1 := ho.1
  have h2 := ho.2.1
  repeat (first
    | (refine aa rfl fun K hK => ?_; simp (disch := omega) only [WW, BB, ↓ab, simprocAttr]; refine hK _ _ ?_; clear hK) | (refine ae ?_; simp only [TH]; (((repeat ((fail_if_success refine hS _ _ ?_); clear hS)); refine hS _ _ ?_); clear hS; try clear hF)) | refine af fun K hS hF => ?_ | refine ac rfl ?_)
  refine aa rfl fun K hK => ⟨_, z26, fun r hr => hK _ _ ?_⟩
  refine aq (p := .ptr r 0) (v := vN .i64 0) rfl rfl rfl (by simp (disch := omega) only [WW, BB, ↓ab, simprocAttr]) (by simp (disch := omega) only [WW, BB, ↓ab, simprocAttr]) (aT (b := r) (off := 0) (ag _ _ _) ty26 rfl rfl (by simp)) ?_
  have hX : hle H (upd (upd H r (some (.row [vN .i64 0]))) r (some (.row [vN .i64 0]))) := ai (ai (aj _) hr) hr
  have xr : upd (upd H r (some (.row [vN .i64 0]))) r (some (.row [vN .i64 0])) r = some (.row [vN .i64 0]) := ag _ _ _
  simp only [List.set_cons_zero]
  generalize upd (upd H r (some (.row [vN .i64 0]))) r (some (.row [vN .i64 0])) = X at *
  rw [chkB] at hQ
  have bad : ∀ {t' : T} {K : T → Hp → Prop} {Q' : Exit → T → Hp → Prop}, badN x = true → t' 1 = .cptr [vN .u32 x.ver, vi, vo, vN .u32 x.lock] 0 → t' 3 = .ptr r 0 → (∀ t' H', wpC Try.prog (tab [(103, s103), (109, s109)]) Y [1] 34 (.seq (.label 0) (.seq (regAt Try.f90 4) (.seq (.block 0 (aU Try.f90 0)) (.seq (regAt Try.f90 8) .ret)))) true (noGotoA (aB Try.prog [.tmp 2] Q)) t' H' → K t' H') →
      wpC Try.prog (tab [(103, s103), (109, s109)]) Y [1] 34 (regAt Try.f90 3) true (bC K Q') t' X := by
    intro t' K Q' hb q1 q3 hS
    refine ac rfl ?_
    refine aq (p := .ptr r 0) (v := vN .i64 60) rfl rfl rfl (by simp (disch := omega) only [WW, BB, ↓ab, simprocAttr, q3]) (by simp (disch := omega) only [WW, BB, ↓ab, simprocAttr]) (aT (b := r) (off := 0) xr ty26 rfl rfl (by simp)) ?_
    refine ae ?_
    simp only [TH]
    refine hS _ _ (end90 (r := r) (e := 60) q1 q3 hx ho hr (ai hX hr) (ag _ _ _) ?_)
    rw [hb, Bool.true_or, if_pos rfl] at hQ
    rw [ite_self]
    exact hQ
  by_cases c1 : x.ins.length < 1
  · have d1 : decide (x.ins.length < 1) = true := decide_eq_true c1
    repeat (first
    | (refine aa rfl fun K hK => ?_; simp (disch := omega) only [WW, BB, ↓ab, simprocAttr, bA, ty53, hly, d1]; refine hK _ _ ?_; clear hK) | refine bl rfl ?_ | (refine ae ?_; simp only [TH]; (((repeat ((fail_if_success refine hS _ _ ?_); clear hS)); refine hS _ _ ?_); clear hS; try clear hF)) | refine af fun K hS hF => ?_ | refine ac rfl ?_)
    refine aS (by simp (disch := omega) only [WW, BB, ↓ab, simprocAttr]) (bad (by rw [badN, d1]; rfl) ?_ ?_ hS)
    · simp (disch := omega) only [WW, BB, ↓ab, simprocAttr]
    · simp (disch := omega) only [WW, BB, ↓ab, simprocAttr]
  have d1 : decide (x.ins.length < 1) = false := decide_eq_false c1
  by_cases c2 : 50 < x.ins.length
  · have d2 : decide (50 < x.ins.length) = true := decide_eq_true c2
    repeat (first
    | (refine aa rfl fun K hK => ?_; simp (disch := omega) only [WW, BB, ↓ab, simprocAttr, bA, ty53, hly, d1, d2]; refine hK _ _ ?_; clear hK) | refine bl rfl ?_ | (refine ae ?_; simp only [TH]; (((repeat ((fail_if_success refine hS _ _ ?_); clear hS)); refine hS _ _ ?_); clear hS; try clear hF)) | refine af fun K hS hF => ?_ | refine ac rfl ?_)
    refine aS (by simp (disch := omega) only [WW, BB, ↓ab, simprocAttr]) (bad (by rw [badN, d1, d2]; rfl) ?_ ?_ hS)
    · simp (disch := omega) only [WW, BB, ↓ab, simprocAttr]
    · simp (disch := omega) only [WW, BB, ↓ab, simprocAttr]
  have d2 : decide (50 < x.ins.length) = false := decide_eq_false c2
  by_cases c3 : x.outs.length < 1
  · have d3 : decide (x.outs.length < 1) = true := decide_eq_true c3
    repeat (first
    | (refine aa rfl fun K hK => ?_; simp (disch := omega) only [WW, BB, ↓ab, simprocAttr, bA, ty53, hly, fl56_2, ty54, hly2, d1, d2, d3]; refine hK _ _ ?_; clear hK) | refine bl rfl ?_ | (refine ae ?_; simp only [TH]; (((repeat ((fail_if_success refine hS _ _ ?_); clear hS)); refine hS _ _ ?_); clear hS; try clear hF)) | refine af fun K hS hF => ?_ | refine ac rfl ?_)
    refine aS (by simp (disch := omega) only [WW, BB, ↓ab, simprocAttr]) (bad (by rw [badN, d1, d2, d3]; rfl) ?_ ?_ hS)
    · simp (disch := omega) only [WW, BB, ↓ab, simprocAttr]
    · simp (disch := omega) only [WW, BB, ↓ab, simprocAttr]
  have d3 : decide (x.outs.length < 1) = false := decide_eq_false c3
  by_cases c4 : 50 < x.outs.length
  · have d4 : decide (50 < x.outs.length) = true := decide_eq_true c4
    repeat (first
    | (refine aa rfl fun K hK => ?_; simp (disch := omega) only [WW, BB, ↓ab, simprocAttr, bA, ty53, hly, fl56_2, ty54, hly2, d1, d2, d3, d4]; refine hK _ _ ?_; clear hK) | (refine ae ?_; simp only [TH]; (((repeat ((fail_if_success refine hS _ _ ?_); clear hS)); refine hS _ _ ?_); clear hS; try clear hF)) | refine af fun K hS hF => ?_ | refine ac rfl ?_)
    refine aS (by simp (disch := omega) only [WW, BB, ↓ab, simprocAttr]) (bad (by rw [badN, d1, d2, d3, d4]; rfl) ?_ ?_ hS)
    · simp (disch := omega) only [WW, BB, ↓ab, simprocAttr]
    · simp (disch := omega) only [WW, BB, ↓ab, simprocAttr]
  have d4 : decide (50 < x.outs.length) = false := decide_eq_false c4
  repeat (first
    | (refine aa rfl fun K hK => ?_; simp (disch := omega) only [WW, BB, ↓ab, simprocAttr, bA, ty53, hly, fl56_2, ty54, hly2, d1, d2, d3, d4]; refine hK _ _ ?_; clear hK) | (refine ae ?_; simp only [TH]; (((repeat ((fail_if_success refine hS _ _ ?_); clear hS)); refine hS _ _ ?_); clear hS; try clear hF)) | refine af fun K hS hF => ?_ | refine ac rfl ?_)
  refine aE (by simp (disch := omega) only [WW, BB, ↓ab, simprocAttr]) ?_
  refine am ?_
  simp only [TH]
  have hb : badN x = false := by rw [badN, d1, d2, d3, d4]; rfl
  rw [hb, Bool.false_or] at hQ
  refine hS _ _ (end90 (r := r) (e := 0) ?_ ?_ hx ho hr hX xr hQ)
  · simp (disch := omega) only [WW, BB, ↓ab, simprocAttr]
  · simp (disch := omega) only [WW, BB, ↓ab, simprocAttr]
end Go.Av

set_option linter.unusedSimpArgs false
set_option linter.unusedVariables false
namespace Go.Av
open Go.RowKit Go.Proofs
theorem fl66_0 : fldT Try.prog 66 0 = some (0, 25) := by kernel_rfl
theorem fl66_1 : fldT Try.prog 66 1 = some (32, 44) := by kernel_rfl
theorem fl68_2 : fldT Try.prog 68 2 = some (34, 44) := by kernel_rfl
theorem us2 : (Try.prog.underlying 2).isSome = true := by kernel_rfl
theorem fl56_0 : fldT Try.prog 56 0 = some (0, 44) := by kernel_rfl
theorem fl56_3 : fldT Try.prog 56 3 = some (3, 44) := by kernel_rfl

def encI (i : TIn) : List Nat := i.tx ++ (leB 4 i.n ++ ((cmpB i.script.length ++ i.script) ++ leB 4 i.seq))
def encO (o : TOut) : List Nat := leB 8 (o.value % 18446744073709551616).toNat ++ (cmpB o.script.length ++ o.script)
def encT (x : TTx) : List Nat := leB 4 x.ver ++ (cmpB x.ins.length ++ (x.ins.flatMap encI ++ (cmpB x.outs.length ++ (x.outs.flatMap encO ++ leB 4 x.lock))))

theorem convI64 {P : Program} {H : Hp} {s d : TypeId} {z : Int} {Q : V → Hp → Prop} (hs : (P.underlying s).isSome = true) (hd : intT P d = some .u64) : wpConv P H s d (.int .i64 z) Q = val (some (vN .u64 (z % 18446744073709551616).toNat)) H Q := by
  show val (convV P s d (.int .i64 z)) H Q = _
  have : IntKind.wrap .u64 z = (((z % 18446744073709551616).toNat : Nat) : Int) := by
    show (z % 2 ^ 64 : Int) = _
    omega
  simp only [convV, hs, if_true, hd, Option.map_some, this, vN]
theorem sl_arr {e : List V} {a : List Nat} {r : List V} (he : e = nR .u8 a ++ r) (ha : a.length = 32) : bf Try.prog 25 (.cptr e 0) none none none = some (.sl 1 (nE .u8 a) true) := by
  subst he
  simp only [bf, ar25, Option.isSome_none, Bool.false_eq_true, if_false, false_and, sliceArr, bnd_none, Option.bind_some]
  rw [if_pos ⟨by simp [ar, ha], by omega⟩]
  have : (nR .u8 a ++ r).drop (0 + 0 * 1) = nR .u8 a ++ r := rfl
  rw [this, chunks_app _ (by rw [ha])]
  rfl
theorem encI_len (i : TIn) (h : okH i.tx) (hs : i.script.length ≤ 2100) : (encI i).length ≤ 2200 := by
  have := cmpB_len i.script.length
  simp only [encI, List.length_append, bq, h.1]
  omega
theorem encO_len (o : TOut) (hs : o.script.length ≤ 2100) : (encO o).length ≤ 2200 := by
  have := cmpB_len o.script.length
  simp only [encO, List.length_append, bq]
  omega
theorem flat_len {α : Type} {f : α → List Nat} {n : Nat} : ∀ l : List α, (∀ a ∈ l, (f a).length ≤ n) → (l.flatMap f).length ≤ l.length * n
  | [], _ => by simp
  | a :: l, h => by
    have h1 := h a (by simp)
    have h2 := flat_len l fun a ha => h a (by simp [ha])
    rw [List.flatMap_cons, List.length_append, List.length_cons, Nat.succ_mul]
    omega
theorem isIn_ok {H : Hp} {cs : List V} {x : TIn} (h : isIn H cs x) : okH x.tx := by
  obtain ⟨s, _, _, _, ho, _⟩ := h
  exact ho
theorem pen_le {G H : Hp} {p : Nat} {bs : List Nat} (h : Pen G H p bs) : hle G H := h.1

section
variable {Y : aC} {Q : Exit → T → Hp → Prop} {t : T} {H X : Hp} {v u : V} {ei : List (List V)} {ins : List TIn} {outs : List TOut} {p : Nat} {bs : List Nat}

theorem l74a (q1 : t 1 = u) (q5 : t 5 = .ptr p 0) (q25 : t 25 = v) (q26 : t 26 = vN .i64 ins.length) (q27 : t 27 = vN .i64 0) (hv : ao H 35 v = some ei) (hei : Each (isIn H) ei ins) (hl : ins.length ≤ 60) (hsc : ∀ i ∈ ins, i.script.length ≤ 2100) (hP : Pen H X p bs) (hb : bs.length ≤ 1000)
    (hQ : ∀ t' X', t' 1 = u → t' 5 = .ptr p 0 → Pen H X' p (bs ++ ins.flatMap encI) → Q (.exit 0) t' X') :
    wpC Try.prog (tab [(90, s90), (91, s91), (92, s92), (93, s93), (94, s94), (95, s95)]) Y [1] 74 (aU Try.f74 0) true Q t X := by
  refine aO (fun m t X => ∃ i, m = ins.length - i ∧ i ≤ ins.length ∧ t 1 = u ∧ t 5 = .ptr p 0 ∧ t 25 = v ∧ t 26 = vN .i64 ins.length ∧ t 27 = vN .i64 i ∧ Pen H X p (bs ++ (ins.take i).flatMap encI)) ins.length
    ⟨0, rfl, by omega, q1, q5, q25, q26, q27, by simpa using hP⟩ fun KL m t X hI hKL => ?_
  clear q1 q5 q25 q26 q27 hP
  obtain ⟨i, rfl, hi, q1, q5, q25, q26, q27, hP⟩ := hI
  repeat (first
    | (refine aa rfl fun K hK => ?_; simp (disch := omega) only [WW, BB, ↓ab, simprocAttr, q26, q27]; refine hK _ _ ?_; clear hK) | (refine ae ?_; simp only [TH]; (((repeat ((fail_if_success refine hS _ _ ?_); clear hS)); refine hS _ _ ?_); clear hS; try clear hF)) | refine af fun K hS hF => ?_ | refine ac rfl ?_)
  refine aH rfl (fun hd => ?_) (fun hd => ?_)
  · (refine am ?_; simp only [TH]; ((repeat ((fail_if_success refine hS _ _ ?_); clear hS)); refine hS _ _ ?_); clear hS; try clear hF)
    obtain ⟨o, ho⟩ : ∃ o, ins[i]? = some o := ⟨_, List.getElem?_eq_getElem hd⟩
    obtain ⟨e, he, hio⟩ := hei.get ho
    have hso := hsc o (List.mem_of_getElem? ho)
    have hall : ∀ a ∈ ins.take i, (encI a).length ≤ 2200 := fun a ha => by
      have ham := List.mem_of_mem_take ha
      obtain ⟨j, hj⟩ := List.mem_iff_getElem?.1 ham
      obtain ⟨e', _, hio'⟩ := hei.get hj
      exact encI_len a (isIn_ok hio') (hsc a ham)
    have hlen := flat_len (ins.take i) hall
    rw [List.length_take] at hlen
    have hcm := cmpB_len o.script.length
    obtain ⟨pp, hp, hpl⟩ := bc (P := Try.prog) (k := .i64) ar53 sl53 (aL hP.1 hv) he (isIn_len hio)
    obtain ⟨s, hes, hvs, hns, hok1, hn, hsq, hsl⟩ := hio
    have hes' : e = pC o.tx o.n ++ [s, vN .u32 o.seq] := by rw [hes, pC, List.append_assoc]; rfl
    subst hes'
    have htk : ins.take (i + 1) = ins.take i ++ [o] := by
      rw [List.take_succ_eq_append_getElem hd, ← (List.getElem?_eq_some_iff.1 ho).2]
    repeat (first
    | (refine aa rfl fun K hK => ?_; simp (disch := omega) only [WW, BB, ↓ab, simprocAttr, q25, q27, hp, hpl, ty68]; refine hK _ _ ?_; clear hK) | refine af fun K hS hF => ?_ | refine ac rfl ?_)
    refine as_frz (d := 7) (v := .agg (pC o.tx o.n ++ [s, vN .u32 o.seq])) rfl rfl rfl rfl rfl rfl z68 (fun H' b hb => au hb ty68 (by simp [bP hok1.1]) (by rw [List.all_append, pC_ones]; simp only [List.all_cons, (bd hvs).1]; rfl) (by rw [List.length_append, bP h0_ok.1]; rfl)) (by decide) hF (fun p => by simp (disch := omega) only [WW, BB, ↓ab, simprocAttr]) ?_
    have ld33 : ldc (some (false, 1)) (pC o.tx o.n ++ [s, vN .u32 o.seq]) 33 = some s := by
      simp only [ldc]
      rw [List.getElem?_append_right (by rw [bP hok1.1]; omega), bP hok1.1]
      rfl
    have ld34 : ldc (some (false, 1)) (pC o.tx o.n ++ [s, vN .u32 o.seq]) 34 = some (vN .u32 o.seq) := by
      simp only [ldc]
      rw [List.getElem?_append_right (by rw [bP hok1.1]; omega), bP hok1.1]
      rfl
    have ld32 : ldc (some (false, 1)) (pC o.tx o.n ++ [s, vN .u32 o.seq]) 32 = some (vN .u32 o.n) := by
      simp only [ldc]
      rw [List.getElem?_append_left (by rw [bP hok1.1]; omega), pC, List.getElem?_append_right (by rw [ar, hok1.1]; omega), ar, hok1.1]
      rfl
    have hst : bf Try.prog 25 (.cptr (pC o.tx o.n ++ [s, vN .u32 o.seq]) 0) none none none = some (.sl 1 (nE .u8 o.tx) true) := sl_arr (by rw [pC, List.append_assoc]) hok1.1
    repeat (first
    | (refine aa rfl fun K hK => ?_; simp (disch := omega) only [WW, BB, ↓ab, simprocAttr, fl68_0, fl66_0, hst]; refine hK _ _ ?_; clear hK) | refine af fun K hS hF => ?_ | refine ac rfl ?_)
    refine aa rfl fun K hK => bs115 (z := .sl 1 (nE .u8 o.tx) true) (by simp (disch := omega) only [WW, BB, ↓ab, simprocAttr]) rfl (hK _ _ ?_)
    refine aa rfl fun K hK => ⟨H, p, _, .sl 1 [[.sl 1 (nE .u8 o.tx) true]] true, .sl 1 (nE .u8 o.tx) true, o.tx, ?_, hP, bg, bg, ?_, fun X1 hP1 => hK _ _ ?_⟩
    · simp (disch := omega) only [WW, BB, ↓ab, simprocAttr, q5]
    · rw [List.length_append, hok1.1]; omega
    repeat (first
    | (refine aa rfl fun K hK => ?_; simp (disch := omega) only [WW, BB, ↓ab, simprocAttr, fl68_0, fl66_1, ty44, ld32, conv_u64 _ us44 i91, Nat.mod_eq_of_lt (show o.n < 18446744073709551616 by omega)]; refine hK _ _ ?_; clear hK) | (refine ae ?_; simp only [TH]; (((repeat ((fail_if_success refine hS _ _ ?_); clear hS)); refine hS _ _ ?_); clear hS; try clear hF)) | refine af fun K hS hF => ?_ | refine ac rfl ?_)
    refine aa rfl fun K hK => ⟨H, p, _, 4, o.n, ?_, hP1, by simp [isW], goes4' hn, by omega, ?_, fun X2 hP2 => hK _ _ ?_⟩
    · simp (disch := omega) only [WW, BB, ↓ab, simprocAttr, q5]
    · simp only [List.length_append, hok1.1]; omega
    repeat (first
    | (refine aa rfl fun K hK => ?_; simp (disch := omega) only [WW, BB, ↓ab, simprocAttr, fl68_1, ty64, ld33]; refine hK _ _ ?_; clear hK) | (refine ae ?_; simp only [TH]; (((repeat ((fail_if_success refine hS _ _ ?_); clear hS)); refine hS _ _ ?_); clear hS; try clear hF)) | refine af fun K hS hF => ?_ | refine ac rfl ?_)
    refine aa rfl fun K hK => ⟨H, p, _, s, o.script, ?_, hP2, hvs, ?_, fun X3 hP3 => hK _ _ ?_⟩
    · simp (disch := omega) only [WW, BB, ↓ab, simprocAttr, q5]
    · simp only [List.length_append, hok1.1, bq]; omega
    repeat (first
    | (refine aa rfl fun K hK => ?_; simp (disch := omega) only [WW, BB, ↓ab, simprocAttr, fl68_2, ty44, ld34, conv_u64 _ us44 i91, Nat.mod_eq_of_lt (show o.seq < 18446744073709551616 by omega)]; refine hK _ _ ?_; clear hK) | (refine ae ?_; simp only [TH]; (((repeat ((fail_if_success refine hS _ _ ?_); clear hS)); refine hS _ _ ?_); clear hS; try clear hF)) | refine ac rfl ?_)
    refine aa rfl fun K hK => ⟨H, p, _, 4, o.seq, ?_, hP3, by simp [isW], goes4' hsq, by omega, ?_, fun X4 hP4 => hK _ _ ?_⟩
    · simp (disch := omega) only [WW, BB, ↓ab, simprocAttr, q5]
    · simp only [List.length_append, hok1.1, bq]; omega
    repeat (first
    | (refine aa rfl fun K hK => ?_; simp (disch := omega) only [WW, BB, ↓ab, simprocAttr, q27, aP]; refine hK _ _ ?_; clear hK) | (refine ae ?_; simp only [TH]; first | (((repeat ((fail_if_success refine hS _ _ ?_); clear hS)); refine hS _ _ ?_); clear hS; try clear hF) | skip) | refine ac rfl ?_)
    refine hKL (ins.length - (i + 1)) _ _ (by omega) ⟨i + 1, rfl, by omega, ?_, ?_, ?_, ?_, ?_, ?_⟩
    · simp (disch := omega) only [WW, BB, ↓ab, simprocAttr, q1]
    · simp (disch := omega) only [WW, BB, ↓ab, simprocAttr, q5]
    · simp (disch := omega) only [WW, BB, ↓ab, simprocAttr, q25]
    · simp (disch := omega) only [WW, BB, ↓ab, simprocAttr, q26]
    · simp (disch := omega) only [WW, BB, ↓ab, simprocAttr]
    · have e : bs ++ (ins.take (i + 1)).flatMap encI = bs ++ (ins.take i).flatMap encI ++ o.tx ++ leB 4 o.n ++ (cmpB o.script.length ++ o.script) ++ leB 4 o.seq := by
        rw [htk]
        simp [encI]
      rw [e]
      exact hP4
  · refine aG ?_
    simp only [TH]
    have : i = ins.length := by omega
    subst this
    rw [List.take_of_length_le (Nat.le_refl _)] at hP
    exact hQ _ _ q1 q5 hP

theorem l74b (q1 : t 1 = u) (q5 : t 5 = .ptr p 0) (q55 : t 55 = v) (q56 : t 56 = vN .i64 outs.length) (q57 : t 57 = vN .i64 0) (hv : ao H 2 v = some ei) (hei : Each (isOut H) ei outs) (hl : outs.length ≤ 60) (hsc : ∀ i ∈ outs, i.script.length ≤ 2100) (hP : Pen H X p bs) (hb : bs.length ≤ 1000000)
    (hQ : ∀ t' X', t' 1 = u → t' 5 = .ptr p 0 → Pen H X' p (bs ++ outs.flatMap encO) → Q (.exit 2) t' X') :
    wpC Try.prog (tab [(90, s90), (91, s91), (92, s92), (93, s93), (94, s94), (95, s95)]) Y [1] 74 (aU Try.f74 1) true Q t X := by
  refine aO (fun m t X => ∃ i, m = outs.length - i ∧ i ≤ outs.length ∧ t 1 = u ∧ t 5 = .ptr p 0 ∧ t 55 = v ∧ t 56 = vN .i64 outs.length ∧ t 57 = vN .i64 i ∧ Pen H X p (bs ++ (outs.take i).flatMap encO)) outs.length
    ⟨0, rfl, by omega, q1, q5, q55, q56, q57, by simpa using hP⟩ fun KL m t X hI hKL => ?_
  clear q1 q5 q55 q56 q57 hP
  obtain ⟨i, rfl, hi, q1, q5, q55, q56, q57, hP⟩ := hI
  repeat (first
    | (refine aa rfl fun K hK => ?_; simp (disch := omega) only [WW, BB, ↓ab, simprocAttr, q56, q57]; refine hK _ _ ?_; clear hK) | (refine ae ?_; simp only [TH]; (((repeat ((fail_if_success refine hS _ _ ?_); clear hS)); refine hS _ _ ?_); clear hS; try clear hF)) | refine af fun K hS hF => ?_ | refine ac rfl ?_)
  refine aH rfl (fun hd => ?_) (fun hd => ?_)
  · (refine am ?_; simp only [TH]; ((repeat ((fail_if_success refine hS _ _ ?_); clear hS)); refine hS _ _ ?_); clear hS; try clear hF)
    obtain ⟨o, ho⟩ : ∃ o, outs[i]? = some o := ⟨_, List.getElem?_eq_getElem hd⟩
    obtain ⟨e, he, hio⟩ := hei.get ho
    have hso := hsc o (List.mem_of_getElem? ho)
    have hlen := flat_len (f := encO) (n := 2200) (outs.take i) fun a ha => encO_len a (hsc a (List.mem_of_mem_take ha))
    rw [List.length_take] at hlen
    have hcm := cmpB_len o.script.length
    obtain ⟨pp, hp, hpl⟩ := bc (P := Try.prog) (k := .i64) ar54 sl54 (aL hP.1 hv) he (isOut_len hio)
    obtain ⟨s, rfl, hvs, hns, hz, hsl⟩ := hio
    have htk : outs.take (i + 1) = outs.take i ++ [o] := by
      rw [List.take_succ_eq_append_getElem hd, ← (List.getElem?_eq_some_iff.1 ho).2]
    repeat (first
    | (refine aa rfl fun K hK => ?_; simp (disch := omega) only [WW, BB, ↓ab, simprocAttr, q55, q57, hp, hpl, ty70]; refine hK _ _ ?_; clear hK) | refine af fun K hS hF => ?_ | refine ac rfl ?_)
    refine as_frz (d := 9) (v := .agg [.int .i64 o.value, s]) rfl rfl rfl rfl rfl rfl z70 (fun H' b hb => au hb ty70 rfl (by rw [List.all_cons, List.all_cons, (bd hvs).1]; rfl) rfl) (by decide) hF (fun p => by simp (disch := omega) only [WW, BB, ↓ab, simprocAttr]) ?_
    repeat (first
    | (refine aa rfl fun K hK => ?_; simp (disch := omega) only [WW, BB, ↓ab, simprocAttr, fl70_0, ty2, convI64 us2 i91]; refine hK _ _ ?_; clear hK) | refine af fun K hS hF => ?_ | refine ac rfl ?_)
    refine aa rfl fun K hK => ⟨H, p, _, 8, (o.value % 18446744073709551616).toNat, ?_, hP, by simp [isW], by simp [goesIn], by omega, ?_, fun X1 hP1 => hK _ _ ?_⟩
    · simp (disch := omega) only [WW, BB, ↓ab, simprocAttr, q5]
    · simp only [List.length_append]; omega
    repeat (first
    | (refine aa rfl fun K hK => ?_; simp (disch := omega) only [WW, BB, ↓ab, simprocAttr, fl70_1, ty64]; refine hK _ _ ?_; clear hK) | (refine ae ?_; simp only [TH]; (((repeat ((fail_if_success refine hS _ _ ?_); clear hS)); refine hS _ _ ?_); clear hS; try clear hF)) | refine ac rfl ?_)
    refine aa rfl fun K hK => ⟨H, p, _, s, o.script, ?_, hP1, hvs, ?_, fun X2 hP2 => hK _ _ ?_⟩
    · simp (disch := omega) only [WW, BB, ↓ab, simprocAttr, q5]
    · simp only [List.length_append, bq]; omega
    repeat (first
    | (refine aa rfl fun K hK => ?_; simp (disch := omega) only [WW, BB, ↓ab, simprocAttr, q57, aP]; refine hK _ _ ?_; clear hK) | (refine ae ?_; simp only [TH]; first | (((repeat ((fail_if_success refine hS _ _ ?_); clear hS)); refine hS _ _ ?_); clear hS; try clear hF) | skip) | refine ac rfl ?_)
    refine hKL (outs.length - (i + 1)) _ _ (by omega) ⟨i + 1, rfl, by omega, ?_, ?_, ?_, ?_, ?_, ?_⟩
    · simp (disch := omega) only [WW, BB, ↓ab, simprocAttr, q1]
    · simp (disch := omega) only [WW, BB, ↓ab, simprocAttr, q5]
    · simp (disch := omega) only [WW, BB, ↓ab, simprocAttr, q55]
    · simp (disch := omega) only [WW, BB, ↓ab, simprocAttr, q56]
    · simp (disch := omega) only [WW, BB, ↓ab, simprocAttr]
    · have e : bs ++ (outs.take (i + 1)).flatMap encO = bs ++ (outs.take i).flatMap encO ++ leB 8 (o.value % 18446744073709551616).toNat ++ (cmpB o.script.length ++ o.script) := by
        rw [htk]
        simp [encO]
      rw [e]
      exact hP2
  · refine aG ?_
    simp only [TH]
    have : i = outs.length := by omega
    subst this
    rw [List.take_of_length_le (Nat.le_refl _)] at hP
    exact hQ _ _ q1 q5 hP
end

def s74 : Spec := fun _ args H Q => ∃ cs x, args = [.agg cs] ∧ isTx H cs x ∧ okT x ∧ (chkB x = true → Q (.tup [.nils, vN .i64 60]) H) ∧ (chkB x = false → ∀ v, isB v (encT x) → Q (.tup [v, vN .i64 0]) H)
theorem snd74 : Sound Try.prog 74 s74 := by
  refine ak pm (ap [(90, s90), (91, s91), (92, s92), (93, s93), (94, s94), (95, s95)] (by simp [snd90, snd91, snd92, snd93, snd94, snd95])) [1] Try.func74 rfl (by kernel_rfl) ?_
  rintro Y args H Q ⟨cs, x, rfl, hx, ho, hQ1, hQ2⟩
  refine ⟨by simp [Try.f74], ?_⟩
  show wpC Try.prog (tab [(90, s90), (91, s91), (92, s92), (93, s93), (94, s94), (95, s95)]) Y [1] 74 _ true (aB Try.prog [.tmp 2, .tmp 3] Q) _ H
  have hx' := hx
  obtain ⟨vi, vo, ei, eo, rfl, hvi, hni, hei, hvo, hno, heo, hver, hlock⟩ := hx'
  have hly := av (P := Try.prog) sl53 hvi
  rw [hei.1] at hly
  have hly2 := av (P := Try.prog) sl54 hvo
  rw [heo.1] at hly2
  have h1 := ho.1
  have h2 := ho.2.1
  repeat (first
    | (refine aa rfl fun K hK => ?_; simp (disch := omega) only [WW, BB, ↓ab, simprocAttr, ty56, agg56]; refine hK _ _ ?_; clear hK) | (refine ae ?_; simp only [TH]; (((repeat ((fail_if_success refine hS _ _ ?_); clear hS)); refine hS _ _ ?_); clear hS; try clear hF)) | refine af fun K hS hF => ?_ | refine ac rfl ?_)
  refine aa rfl fun K hK => ⟨_, x, rfl, hx, ho, hK _ _ ?_⟩
  clear hK
  cases hc : chkB x with
  | true =>
    rw [if_pos rfl]
    repeat (first
    | (refine aa rfl fun K hK => ?_; simp (disch := omega) only [WW, BB, ↓ab, simprocAttr, ne_eq, Nat.reduceEqDiff, not_false_eq_true, decide_true]; refine hK _ _ ?_; clear hK) | (refine ae ?_; simp only [TH]; (((repeat ((fail_if_success refine hS _ _ ?_); clear hS)); refine hS _ _ ?_); clear hS; try clear hF)) | refine af fun K hS hF => ?_ | refine ac rfl ?_)
    refine aS (by simp (disch := omega) only [WW, BB, ↓ab, simprocAttr]) ?_
    repeat (first
    | (refine aa rfl fun K hK => ?_; simp (disch := omega) only [WW, BB, ↓ab, simprocAttr]; refine hK _ _ ?_; clear hK) | (refine ae ?_; simp only [TH]; (((repeat ((fail_if_success refine hS _ _ ?_); clear hS)); refine hS _ _ ?_); clear hS; try clear hF)) | refine af fun K hS hF => ?_ | refine ac rfl ?_ | (refine al ?_; simp (disch := omega) only [TH, TE, WW, BB, ↓ab, simprocAttr]))
    exact ⟨_, rfl, [], _, aj _, hQ1 hc⟩
  | false =>
    rw [if_neg (by simp)]
    repeat (first
    | (refine aa rfl fun K hK => ?_; simp (disch := omega) only [WW, BB, ↓ab, simprocAttr, ne_eq, not_true, decide_false]; refine hK _ _ ?_; clear hK) | (refine ae ?_; simp only [TH]; (((repeat ((fail_if_success refine hS _ _ ?_); clear hS)); refine hS _ _ ?_); clear hS; try clear hF)) | refine af fun K hS hF => ?_ | refine ac rfl ?_)
    refine aE (by simp (disch := omega) only [WW, BB, ↓ab, simprocAttr]) ?_
    repeat (first
    | (refine am ?_; simp only [TH]; (((repeat ((fail_if_success refine hS _ _ ?_); clear hS)); refine hS _ _ ?_); clear hS; try clear hF)) | refine af fun K hS hF => ?_ | refine ac rfl ?_)
    refine aa rfl fun K hK => ⟨_, z136, fun p hp => hK _ _ ?_⟩
    have hP := pen_new hp
    generalize upd H p (some (.row [.nils])) = X at *
    repeat (first
    | (refine aa rfl fun K hK => ?_; simp (disch := omega) only [WW, BB, ↓ab, simprocAttr, fl56_0, ty44, conv_u64 _ us44 i91, Nat.mod_eq_of_lt (show x.ver < 18446744073709551616 by omega)]; refine hK _ _ ?_; clear hK) | (refine ae ?_; simp only [TH]; (((repeat ((fail_if_success refine hS _ _ ?_); clear hS)); refine hS _ _ ?_); clear hS; try clear hF)) | refine af fun K hS hF => ?_ | refine ac rfl ?_)
    refine aa rfl fun K hK => ⟨H, p, [], 4, x.ver, ?_, hP, by simp [isW], goes4' hver, by omega, by simp, fun X1 hP1 => hK _ _ ?_⟩
    · simp (disch := omega) only [WW, BB, ↓ab, simprocAttr]
    repeat (first
    | (refine aa rfl fun K hK => ?_; simp (disch := omega) only [WW, BB, ↓ab, simprocAttr, bA, ty53, hly, conv_u64 _ us3 i91, Nat.mod_eq_of_lt (show x.ins.length < 18446744073709551616 by omega)]; refine hK _ _ ?_; clear hK) | (refine ae ?_; simp only [TH]; (((repeat ((fail_if_success refine hS _ _ ?_); clear hS)); refine hS _ _ ?_); clear hS; try clear hF)) | refine af fun K hS hF => ?_ | refine ac rfl ?_)
    refine aa rfl fun K hK => ⟨H, p, _, x.ins.length, ?_, hP1, by omega, by simp [bq], fun X2 hP2 => hK _ _ ?_⟩
    · simp (disch := omega) only [WW, BB, ↓ab, simprocAttr]
    have hc1 := cmpB_len x.ins.length
    have hc2 := cmpB_len x.outs.length
    repeat (first
    | (refine aa rfl fun K hK => ?_; simp (disch := omega) only [WW, BB, ↓ab, simprocAttr, bA, ty53, hly]; refine hK _ _ ?_; clear hK) | (refine ae ?_; simp only [TH]; (((repeat ((fail_if_success refine hS _ _ ?_); clear hS)); refine hS _ _ ?_); clear hS; try clear hF)) | refine af fun K hS hF => ?_ | refine ac rfl ?_ | refine ax ?_)
    refine l74a (u := .cptr [vN .u32 x.ver, vi, vo, vN .u32 x.lock] 0) (ins := x.ins) (p := p) ?_ ?_ ?_ ?_ ?_ hvi hei h1 ho.2.2.1 hP2 (by simp only [List.length_append, List.length_nil, bq]; omega) fun t' X' q1 q5 hP3 => ?_
    · simp (disch := omega) only [WW, BB, ↓ab, simprocAttr]
    · simp (disch := omega) only [WW, BB, ↓ab, simprocAttr]
    · simp (disch := omega) only [WW, BB, ↓ab, simprocAttr]
    · simp (disch := omega) only [WW, BB, ↓ab, simprocAttr]
    · simp (disch := omega) only [WW, BB, ↓ab, simprocAttr]
    have hil := flat_len (f := encI) (n := 2200) x.ins fun a ha => by
      obtain ⟨j, hj⟩ := List.mem_iff_getElem?.1 ha
      obtain ⟨e', _, hio'⟩ := hei.get hj
      exact encI_len a (isIn_ok hio') (ho.2.2.1 a ha)
    have hol := flat_len (f := encO) (n := 2200) x.outs fun a ha => encO_len a (ho.2.2.2 a ha)
    (simp only [TH, ↓reduceIte, Nat.reduceEqDiff]; ((repeat ((fail_if_success refine hS _ _ ?_); clear hS)); refine hS _ _ ?_); clear hS; try clear hF)
    repeat (first
    | (refine aa rfl fun K hK => ?_; simp (disch := omega) only [WW, BB, ↓ab, simprocAttr, fl56_2, ty54, hly2, q1, conv_u64 _ us3 i91, Nat.mod_eq_of_lt (show x.outs.length < 18446744073709551616 by omega)]; refine hK _ _ ?_; clear hK) | refine af fun K hS hF => ?_ | refine ac rfl ?_)
    refine aa rfl fun K hK => ⟨H, p, _, x.outs.length, ?_, hP3, by omega, by simp only [List.length_append, List.length_nil, bq]; omega, fun X4 hP4 => hK _ _ ?_⟩
    · simp (disch := omega) only [WW, BB, ↓ab, simprocAttr, q5]
    repeat (first
    | (refine aa rfl fun K hK => ?_; simp (disch := omega) only [WW, BB, ↓ab, simprocAttr, fl56_2, ty54, hly2, q1]; refine hK _ _ ?_; clear hK) | (refine ae ?_; simp only [TH]; (((repeat ((fail_if_success refine hS _ _ ?_); clear hS)); refine hS _ _ ?_); clear hS; try clear hF)) | refine af fun K hS hF => ?_ | refine ac rfl ?_ | refine ax ?_)
    refine l74b (u := .cptr [vN .u32 x.ver, vi, vo, vN .u32 x.lock] 0) (outs := x.outs) (p := p) ?_ ?_ ?_ ?_ ?_ hvo heo h2 ho.2.2.2 hP4 (by simp only [List.length_append, List.length_nil, bq]; omega) fun t' X' q1 q5 hP5 => ?_
    · simp (disch := omega) only [WW, BB, ↓ab, simprocAttr, q1]
    · simp (disch := omega) only [WW, BB, ↓ab, simprocAttr, q5]
    · simp (disch := omega) only [WW, BB, ↓ab, simprocAttr]
    · simp (disch := omega) only [WW, BB, ↓ab, simprocAttr]
    · simp (disch := omega) only [WW, BB, ↓ab, simprocAttr]
    (simp only [TH, ↓reduceIte, Nat.reduceEqDiff]; ((repeat ((fail_if_success refine hS _ _ ?_); clear hS)); refine hS _ _ ?_); clear hS; try clear hF)
    repeat (first
    | (refine aa rfl fun K hK => ?_; simp (disch := omega) only [WW, BB, ↓ab, simprocAttr, fl56_3, ty44, q1, conv_u64 _ us44 i91, Nat.mod_eq_of_lt (show x.lock < 18446744073709551616 by omega)]; refine hK _ _ ?_; clear hK) | refine af fun K hS hF => ?_ | refine ac rfl ?_)
    refine aa rfl fun K hK => ⟨H, p, _, 4, x.lock, ?_, hP5, by simp [isW], goes4' hlock, by omega, by simp only [List.length_append, List.length_nil, bq]; omega, fun X6 hP6 => hK _ _ ?_⟩
    · simp (disch := omega) only [WW, BB, ↓ab, simprocAttr, q5]
    have he : [] ++ leB 4 x.ver ++ cmpB x.ins.length ++ x.ins.flatMap encI ++ cmpB x.outs.length ++ x.outs.flatMap encO ++ leB 4 x.lock = encT x := by
      simp [encT]
    have hel : (encT x).length ≤ 300000 := by
      rw [← he]
      simp only [List.length_append, List.length_nil, bq]
      omega
    rw [he] at hP6
    repeat (first
    | (refine ae ?_; simp only [TH]; (((repeat ((fail_if_success refine hS _ _ ?_); clear hS)); refine hS _ _ ?_); clear hS; try clear hF)) | refine af fun K hS hF => ?_ | refine ac rfl ?_)
    refine aa rfl fun K hK => ⟨H, p, encT x, ?_, hP6, by omega, fun v hv => hK _ _ ?_⟩
    · simp (disch := omega) only [WW, BB, ↓ab, simprocAttr, q5]
    repeat (first
    | (refine aa rfl fun K hK => ?_; simp (disch := omega) only [WW, BB, ↓ab, simprocAttr]; refine hK _ _ ?_; clear hK) | (refine ae ?_; simp only [TH]; (((repeat ((fail_if_success refine hS _ _ ?_); clear hS)); refine hS _ _ ?_); clear hS; try clear hF)) | (refine al ?_; simp (disch := omega) only [TH, TE, WW, BB, ↓ab, simprocAttr]))
    exact ⟨_, rfl, [], H, hP6.1, hQ2 hc v hv⟩
end Go.Av

set_option linter.unusedSimpArgs false
set_option linter.unusedVariables false
namespace Go.Av
open Go.RowKit Go.Proofs

theorem frz_row {t' : T} {X X' : Hp} {K W : T → Hp → Prop} {d b : Nat} {xs : List V} (hF : ∀ ds t' H', frzA ds t' H' W → K t' H') (hd : t' d = .ptr b 0) (hX : X' = upd X b (some (.row xs))) (hb : X b = none) (hW : W (upd t' d (.cptr xs 0)) X) : K t' X' := by
  refine hF [d] _ _ ⟨b, .row xs, by rw [hX]; exact upd_same _ _ _, rfl, ?_⟩
  rw [hd, hX, upd_id hb]
  simpa [subV, frzA] using hW

def idOf (x : TTx) : List Nat := aR (encT x)
def s59 : Spec := fun _ args H Q => ∃ cs x, args = [.agg cs] ∧ isTx H cs x ∧ okT x ∧ (chkB x = true → Q (.tup [.agg (nR .u8 h0), vN .i64 60]) H) ∧ (chkB x = false → Q (.tup [.agg (nR .u8 (idOf x)), vN .i64 0]) H)

theorem encT_len {H : Hp} {cs : List V} {x : TTx} (hx : isTx H cs x) (ho : okT x) : (encT x).length ≤ 300000 := by
  obtain ⟨vi, vo, ei, eo, rfl, hvi, hni, hei, hvo, hno, heo, hver, hlock⟩ := hx
  have hil := flat_len (f := encI) (n := 2200) x.ins fun a ha => by
    obtain ⟨j, hj⟩ := List.mem_iff_getElem?.1 ha
    obtain ⟨e', _, hio'⟩ := hei.get hj
    exact encI_len a (isIn_ok hio') (ho.2.2.1 a ha)
  have hol := flat_len (f := encO) (n := 2200) x.outs fun a ha => encO_len a (ho.2.2.2 a ha)
  have hc1 := cmpB_len x.ins.length
  have hc2 := cmpB_len x.outs.length
  have h1 := ho.1
  have h2 := ho.2.1
  simp only [encT, List.length_append, bq]
  omega

theorem snd59 : Sound Try.prog 59 s59 := by
  refine ak pm (ap [(36, s36), (74, s74)] (by simp [snd36, snd74])) [1] Try.func59 rfl (by kernel_rfl) ?_
  rintro Y args H Q ⟨cs, x, rfl, hx, ho, hQ1, hQ2⟩
  refine ⟨by simp [Try.f59], ?_⟩
  show wpC Try.prog (tab [(36, s36), (74, s74)]) Y [1] 17 _ true (aB Try.prog [.cell 2 25, .tmp 3] Q) _ H
  have hx' := hx
  obtain ⟨vi, vo, ei, eo, rfl, _⟩ := hx'
  repeat (first
    | (refine aa rfl fun K hK => ?_; simp (disch := omega) only [WW, BB, ↓ab, ↓reduceIte, Int.reduceLT, Int.reduceNeg, Int.reduceLE, Int.reduceToNat, Nat.reduceLT, Nat.reduceEqDiff, Nat.reduceAdd, Nat.reduceMul, Nat.reduceSub, Nat.reduceLeDiff, Nat.reduceBEq]; refine hK _ _ ?_; clear hK) | refine af fun K hS hF => ?_ | refine ac rfl ?_)
  refine aa rfl fun K hK => ⟨_, z25, fun b hb => hK _ _ ?_⟩
  have hle1 : ∀ z, hle H (upd H b z) := fun z => ai (aj _) hb
  repeat (first
    | (refine aa rfl fun K hK => ?_; simp (disch := omega) only [WW, BB, ↓ab, ↓reduceIte, Int.reduceLT, Int.reduceNeg, Int.reduceLE, Int.reduceToNat, Nat.reduceLT, Nat.reduceEqDiff, Nat.reduceAdd, Nat.reduceMul, Nat.reduceSub, Nat.reduceLeDiff, Nat.reduceBEq, ty56, agg56]; refine hK _ _ ?_; clear hK) | (refine ae ?_; simp only [TH]; (((repeat ((fail_if_success refine hS _ _ ?_); clear hS)); refine hS _ _ ?_); clear hS; try clear hF)) | refine af fun K hS hF => ?_ | refine ac rfl ?_)
  refine aa rfl fun K hK => ⟨_, x, rfl, isTx_le (hle1 _) hx, ho, fun hc => hK _ _ ?_, fun hc v hv => hK _ _ ?_⟩
  · repeat (first
    | (refine aa rfl fun K hK => ?_; simp (disch := omega) only [WW, BB, ↓ab, ↓reduceIte, Int.reduceLT, Int.reduceNeg, Int.reduceLE, Int.reduceToNat, Nat.reduceLT, Nat.reduceEqDiff, Nat.reduceAdd, Nat.reduceMul, Nat.reduceSub, Nat.reduceLeDiff, Nat.reduceBEq, ne_eq, Nat.reduceEqDiff, not_false_eq_true, decide_true]; refine hK _ _ ?_; clear hK) | (refine ae ?_; simp only [TH]; (((repeat ((fail_if_success refine hS _ _ ?_); clear hS)); refine hS _ _ ?_); clear hS; try clear hF)) | refine af fun K hS hF => ?_ | refine ac rfl ?_)
    refine aS (by simp (disch := omega) only [WW, BB, ↓ab, ↓reduceIte, Int.reduceLT, Int.reduceNeg, Int.reduceLE, Int.reduceToNat, Nat.reduceLT, Nat.reduceEqDiff, Nat.reduceAdd, Nat.reduceMul, Nat.reduceSub, Nat.reduceLeDiff, Nat.reduceBEq]) ?_
    repeat (first
    | (refine aa rfl fun K hK => ?_; simp (disch := omega) only [WW, BB, ↓ab, ↓reduceIte, Int.reduceLT, Int.reduceNeg, Int.reduceLE, Int.reduceToNat, Nat.reduceLT, Nat.reduceEqDiff, Nat.reduceAdd, Nat.reduceMul, Nat.reduceSub, Nat.reduceLeDiff, Nat.reduceBEq, bu25]; refine hK _ _ ?_; clear hK) | refine af fun K hS hF => ?_ | refine ac rfl ?_)
    refine aa rfl fun K hK => ?_
    simp (disch := omega) only [WW, BB, ↓ab, ↓reduceIte, Int.reduceLT, Int.reduceNeg, Int.reduceLE, Int.reduceToNat, Nat.reduceLT, Nat.reduceEqDiff, Nat.reduceAdd, Nat.reduceMul, Nat.reduceSub, Nat.reduceLeDiff, Nat.reduceBEq]
    refine ⟨_, au (b := b) (ag _ _ _) bb rfl (bk _ _) rfl, hK _ _ ?_⟩
    rw [aD]
    repeat (first
    | (refine aa rfl fun K hK => ?_; simp (disch := omega) only [WW, BB, ↓ab, ↓reduceIte, Int.reduceLT, Int.reduceNeg, Int.reduceLE, Int.reduceToNat, Nat.reduceLT, Nat.reduceEqDiff, Nat.reduceAdd, Nat.reduceMul, Nat.reduceSub, Nat.reduceLeDiff, Nat.reduceBEq, aJ (P := Try.prog) (t := 25) (ag H b (some (.row (nR .u8 (List.replicate 32 0))))) bb rfl]; refine hK _ _ ?_; clear hK) | (refine ae ?_; simp only [TH]; (((repeat ((fail_if_success refine hS _ _ ?_); clear hS)); refine hS _ _ ?_); clear hS; try clear hF)) | (refine al ?_; simp (disch := omega) only [TH, TE, WW, BB, ↓ab, ↓reduceIte, Int.reduceLT, Int.reduceNeg, Int.reduceLE, Int.reduceToNat, Nat.reduceLT, Nat.reduceEqDiff, Nat.reduceAdd, Nat.reduceMul, Nat.reduceSub, Nat.reduceLeDiff, Nat.reduceBEq, aJ (P := Try.prog) (t := 25) (ag H b (some (.row (nR .u8 (List.replicate 32 0))))) bb rfl]))
    exact ⟨_, rfl, [], H, hle1 _, hQ1 hc⟩
  · repeat (first
    | (refine aa rfl fun K hK => ?_; simp (disch := omega) only [WW, BB, ↓ab, ↓reduceIte, Int.reduceLT, Int.reduceNeg, Int.reduceLE, Int.reduceToNat, Nat.reduceLT, Nat.reduceEqDiff, Nat.reduceAdd, Nat.reduceMul, Nat.reduceSub, Nat.reduceLeDiff, Nat.reduceBEq, ne_eq, not_true, decide_false]; refine hK _ _ ?_; clear hK) | (refine ae ?_; simp only [TH]; (((repeat ((fail_if_success refine hS _ _ ?_); clear hS)); refine hS _ _ ?_); clear hS; try clear hF)) | refine af fun K hS hF => ?_ | refine ac rfl ?_)
    refine aE (by simp (disch := omega) only [WW, BB, ↓ab, ↓reduceIte, Int.reduceLT, Int.reduceNeg, Int.reduceLE, Int.reduceToNat, Nat.reduceLT, Nat.reduceEqDiff, Nat.reduceAdd, Nat.reduceMul, Nat.reduceSub, Nat.reduceLeDiff, Nat.reduceBEq]) ?_
    repeat (first
    | (refine aa rfl fun K hK => ?_; simp (disch := omega) only [WW, BB, ↓ab, ↓reduceIte, Int.reduceLT, Int.reduceNeg, Int.reduceLE, Int.reduceToNat, Nat.reduceLT, Nat.reduceEqDiff, Nat.reduceAdd, Nat.reduceMul, Nat.reduceSub, Nat.reduceLeDiff, Nat.reduceBEq]; refine hK _ _ ?_; clear hK) | (refine am ?_; simp only [TH]; (((repeat ((fail_if_success refine hS _ _ ?_); clear hS)); refine hS _ _ ?_); clear hS; try clear hF)) | refine af fun K hS hF => ?_ | refine ac rfl ?_)
    refine aa rfl fun K hK => ⟨v, encT x, rfl, isB_view hv _, by have := encT_len hx ho; omega, hK _ _ ?_⟩
    refine aa rfl fun K hK => ?_
    simp (disch := omega) only [WW, BB, ↓ab, ↓reduceIte, Int.reduceLT, Int.reduceNeg, Int.reduceLE, Int.reduceToNat, Nat.reduceLT, Nat.reduceEqDiff, Nat.reduceAdd, Nat.reduceMul, Nat.reduceSub, Nat.reduceLeDiff, Nat.reduceBEq]
    refine ⟨_, au (b := b) (ag _ _ _) bb (by rw [ar, bt]) (bk _ _) rfl, hK _ _ ?_⟩
    rw [aD]
    repeat (first
    | (refine aa rfl fun K hK => ?_; simp (disch := omega) only [WW, BB, ↓ab, ↓reduceIte, Int.reduceLT, Int.reduceNeg, Int.reduceLE, Int.reduceToNat, Nat.reduceLT, Nat.reduceEqDiff, Nat.reduceAdd, Nat.reduceMul, Nat.reduceSub, Nat.reduceLeDiff, Nat.reduceBEq, aJ (P := Try.prog) (t := 25) (ag H b (some (.row (nR .u8 (aR (encT x)))))) bb (by rw [ar, bt])]; refine hK _ _ ?_; clear hK) | (refine ae ?_; simp only [TH]; (((repeat ((fail_if_success refine hS _ _ ?_); clear hS)); refine hS _ _ ?_); clear hS; try clear hF)) | (refine al ?_; simp (disch := omega) only [TH, TE, WW, BB, ↓ab, ↓reduceIte, Int.reduceLT, Int.reduceNeg, Int.reduceLE, Int.reduceToNat, Nat.reduceLT, Nat.reduceEqDiff, Nat.reduceAdd, Nat.reduceMul, Nat.reduceSub, Nat.reduceLeDiff, Nat.reduceBEq, aJ (P := Try.prog) (t := 25) (ag H b (some (.row (nR .u8 (aR (encT x)))))) bb (by rw [ar, bt])]))
    exact ⟨_, rfl, [], H, hle1 _, hQ2 hc⟩

theorem okO_seal2 {H X : Hp} {v : V} {sz k : Nat} {es : List (List V)} {Q : V → Hp → Prop} (h : okO H X v sz es) (hX : hle H X) (hQ : ∀ w, ((w = .nils ∧ es = []) ∨ w = .sl sz es false) → Q (.tup [w, vN .i64 k]) H) : ∃ B, sealA B (.tup [v, vN .i64 k]) X Q := by
  rcases h with ⟨rfl, rfl⟩ | ⟨e, he, hXe, rfl⟩
  · exact ⟨[], H, hX, hQ _ (.inl ⟨rfl, rfl⟩)⟩
  · refine ⟨[e], .arr sz es, hXe, rfl, H, ai hX he, ?_⟩
    simp only [subV, subL, if_true, vN]
    rw [if_pos ⟨trivial, by omega⟩, List.drop_zero, List.take_of_length_le (Nat.le_refl _)]
    exact hQ _ (.inr rfl)
def isHs (v : V) (hs : List (List Nat)) : Prop := (v = .nils ∧ hE hs = []) ∨ v = .sl 32 (hE hs) false
def s46 : Spec := fun _ args H Q => ∃ cs hd l, args = [.agg cs] ∧ isBlk H cs hd l ∧ okTs l ∧ (l.any chkB = true → Q (.tup [.nils, vN .i64 70]) H) ∧ (l.any chkB = false → ∀ v, isHs v (l.map idOf) → Q (.tup [v, vN .i64 0]) H)

theorem zs22 : zeroEs Try.prog 22 1 = some (32, [List.replicate 32 (vN .u8 0)]) := by kernel_rfl

theorem snd46 : Sound Try.prog 46 s46 := by
  refine ak pm (ap [(59, s59)] (by simp [snd59])) [1] Try.func46 rfl (by kernel_rfl) ?_
  rintro Y args H Q ⟨cs, hd, l, rfl, ⟨v, rfl, hhd, hv0⟩, hl, hQ1, hQ2⟩
  refine ⟨by simp [Try.f46], ?_⟩
  show wpC Try.prog (tab [(59, s59)]) Y [1] 29 _ true (aB Try.prog [.tmp 2, .tmp 3] Q) _ H
  obtain ⟨es, hv, hnv, hes⟩ := hv0
  have hly := av (P := Try.prog) sl47 hv
  rw [hes.1] at hly
  have hl1 := hl.1
  repeat (first
    | (refine aa rfl fun K hK => ?_; simp (disch := omega) only [WW, BB, ↓ab, ↓reduceIte, Int.reduceLT, Int.reduceNeg, Int.reduceLE, Int.reduceToNat, Nat.reduceLT, Nat.reduceEqDiff, Nat.reduceAdd, Nat.reduceMul, Nat.reduceSub, Nat.reduceLeDiff, Nat.reduceBEq, bu, ty47, bE hhd, hly]; refine hK _ _ ?_; clear hK) | (refine ae ?_; simp only [TH]; (((repeat ((fail_if_success refine hS _ _ ?_); clear hS)); refine hS _ _ ?_); clear hS; try clear hF)) | refine af fun K hS hF => ?_ | refine ac rfl ?_ | refine ax ?_)
  refine aO (fun m t X => ∃ i w, m = l.length - i ∧ i ≤ l.length ∧ t 4 = w ∧ t 10 = v ∧ t 11 = vN .i64 l.length ∧ t 12 = vN .i64 i ∧ okO H X w 32 (hE ((l.take i).map idOf)) ∧ hle H X ∧ (l.take i).any chkB = false) l.length
    ⟨0, .nils, rfl, by omega, by simp (disch := omega) only [WW, BB, ↓ab, ↓reduceIte, Int.reduceLT, Int.reduceNeg, Int.reduceLE, Int.reduceToNat, Nat.reduceLT, Nat.reduceEqDiff, Nat.reduceAdd, Nat.reduceMul, Nat.reduceSub, Nat.reduceLeDiff, Nat.reduceBEq], by simp (disch := omega) only [WW, BB, ↓ab, ↓reduceIte, Int.reduceLT, Int.reduceNeg, Int.reduceLE, Int.reduceToNat, Nat.reduceLT, Nat.reduceEqDiff, Nat.reduceAdd, Nat.reduceMul, Nat.reduceSub, Nat.reduceLeDiff, Nat.reduceBEq], by simp (disch := omega) only [WW, BB, ↓ab, ↓reduceIte, Int.reduceLT, Int.reduceNeg, Int.reduceLE, Int.reduceToNat, Nat.reduceLT, Nat.reduceEqDiff, Nat.reduceAdd, Nat.reduceMul, Nat.reduceSub, Nat.reduceLeDiff, Nat.reduceBEq], by simp (disch := omega) only [WW, BB, ↓ab, ↓reduceIte, Int.reduceLT, Int.reduceNeg, Int.reduceLE, Int.reduceToNat, Nat.reduceLT, Nat.reduceEqDiff, Nat.reduceAdd, Nat.reduceMul, Nat.reduceSub, Nat.reduceLeDiff, Nat.reduceBEq], .inl ⟨rfl, rfl⟩, aj _, rfl⟩ fun KL m t X hI hKL => ?_
  obtain ⟨i, w, rfl, hi, q4, q10, q11, q12, hok, hG, hno⟩ := hI
  repeat (first
    | (refine aa rfl fun K hK => ?_; simp (disch := omega) only [WW, BB, ↓ab, ↓reduceIte, Int.reduceLT, Int.reduceNeg, Int.reduceLE, Int.reduceToNat, Nat.reduceLT, Nat.reduceEqDiff, Nat.reduceAdd, Nat.reduceMul, Nat.reduceSub, Nat.reduceLeDiff, Nat.reduceBEq, q11, q12]; refine hK _ _ ?_; clear hK) | (refine ae ?_; simp only [TH]; (((repeat ((fail_if_success refine hS _ _ ?_); clear hS)); refine hS _ _ ?_); clear hS; try clear hF)) | refine af fun K hS hF => ?_ | refine ac rfl ?_)
  refine aH rfl (fun hd => ?_) (fun hd => ?_)
  · (refine am ?_; simp only [TH]; ((repeat ((fail_if_success refine hS _ _ ?_); clear hS)); refine hS _ _ ?_); clear hS; try clear hF)
    obtain ⟨o, ho⟩ : ∃ o, l[i]? = some o := ⟨_, List.getElem?_eq_getElem hd⟩
    have hmem := List.mem_of_getElem? ho
    obtain ⟨e, he, hio⟩ := hes.get ho
    obtain ⟨pp, hp, hpl⟩ := bc (P := Try.prog) (k := .i64) ar47 sl47 (aL hG hv) he (isTx_len hio)
    have hio' := hio
    obtain ⟨vi, vo, ei, eo, rfl, hvi, hni, hei, hvo, hno', heo, hver, hlock⟩ := hio'
    have htk : l.take (i + 1) = l.take i ++ [o] := by
      rw [List.take_succ_eq_append_getElem hd, ← (List.getElem?_eq_some_iff.1 ho).2]
    repeat (first
    | (refine aa rfl fun K hK => ?_; simp (disch := omega) only [WW, BB, ↓ab, ↓reduceIte, Int.reduceLT, Int.reduceNeg, Int.reduceLE, Int.reduceToNat, Nat.reduceLT, Nat.reduceEqDiff, Nat.reduceAdd, Nat.reduceMul, Nat.reduceSub, Nat.reduceLeDiff, Nat.reduceBEq, q10, q12, hp, hpl, ty56]; refine hK _ _ ?_; clear hK) | refine af fun K hS hF => ?_ | refine ac rfl ?_)
    refine as_frz (d := 6) (v := .agg [vN .u32 o.ver, vi, vo, vN .u32 o.lock]) rfl rfl rfl rfl rfl rfl z56 (fun H' b hb => au hb ty56 rfl (by rw [List.all_cons, List.all_cons, List.all_cons, (bd hvi).1, (bd hvo).1]; rfl) rfl) (by decide) hF (fun p => by simp (disch := omega) only [WW, BB, ↓ab, ↓reduceIte, Int.reduceLT, Int.reduceNeg, Int.reduceLE, Int.reduceToNat, Nat.reduceLT, Nat.reduceEqDiff, Nat.reduceAdd, Nat.reduceMul, Nat.reduceSub, Nat.reduceLeDiff, Nat.reduceBEq]) ?_
    repeat (first
    | (refine aa rfl fun K hK => ?_; simp (disch := omega) only [WW, BB, ↓ab, ↓reduceIte, Int.reduceLT, Int.reduceNeg, Int.reduceLE, Int.reduceToNat, Nat.reduceLT, Nat.reduceEqDiff, Nat.reduceAdd, Nat.reduceMul, Nat.reduceSub, Nat.reduceLeDiff, Nat.reduceBEq, ty56, agg56]; refine hK _ _ ?_; clear hK) | refine af fun K hS hF => ?_ | refine ac rfl ?_)
    refine aa rfl fun K hK => ⟨_, o, rfl, isTx_le hG hio, hl.2 o hmem, fun hc => hK _ _ ?_, fun hc => hK _ _ ?_⟩
    · repeat (refine aa rfl fun K hK => ?_; simp (disch := omega) only [WW, BB, ↓ab, ↓reduceIte, Int.reduceLT, Int.reduceNeg, Int.reduceLE, Int.reduceToNat, Nat.reduceLT, Nat.reduceEqDiff, Nat.reduceAdd, Nat.reduceMul, Nat.reduceSub, Nat.reduceLeDiff, Nat.reduceBEq]; refine hK _ _ ?_; clear hK)
      refine aa rfl fun K hK => ⟨_, z25, fun b hb => hK _ _ ?_⟩
      refine aq (p := .ptr b 0) (v := .agg (nR .u8 h0)) rfl rfl rfl (by simp (disch := omega) only [WW, BB, ↓ab, ↓reduceIte, Int.reduceLT, Int.reduceNeg, Int.reduceLE, Int.reduceToNat, Nat.reduceLT, Nat.reduceEqDiff, Nat.reduceAdd, Nat.reduceMul, Nat.reduceSub, Nat.reduceLeDiff, Nat.reduceBEq]) (by simp (disch := omega) only [WW, BB, ↓ab, ↓reduceIte, Int.reduceLT, Int.reduceNeg, Int.reduceLE, Int.reduceToNat, Nat.reduceLT, Nat.reduceEqDiff, Nat.reduceAdd, Nat.reduceMul, Nat.reduceSub, Nat.reduceLeDiff, Nat.reduceBEq]) (au (b := b) (ag _ _ _) bb (by rw [ar]; rfl) (bk _ _) rfl) ?_
      repeat (first
    | (refine aa rfl fun K hK => ?_; simp (disch := omega) only [WW, BB, ↓ab, ↓reduceIte, Int.reduceLT, Int.reduceNeg, Int.reduceLE, Int.reduceToNat, Nat.reduceLT, Nat.reduceEqDiff, Nat.reduceAdd, Nat.reduceMul, Nat.reduceSub, Nat.reduceLeDiff, Nat.reduceBEq, ne_eq, Nat.reduceEqDiff, not_false_eq_true, decide_true]; refine hK _ _ ?_; clear hK) | (refine ae ?_; simp only [TH]; (((repeat ((fail_if_success refine hS _ _ ?_); clear hS)); refine hS _ _ ?_); clear hS; try clear hF)) | refine af fun K hS hF => ?_ | refine ac rfl ?_)
      refine aS (by simp (disch := omega) only [WW, BB, ↓ab, ↓reduceIte, Int.reduceLT, Int.reduceNeg, Int.reduceLE, Int.reduceToNat, Nat.reduceLT, Nat.reduceEqDiff, Nat.reduceAdd, Nat.reduceMul, Nat.reduceSub, Nat.reduceLeDiff, Nat.reduceBEq]) ?_
      repeat (first
    | (refine aa rfl fun K hK => ?_; simp (disch := omega) only [WW, BB, ↓ab, ↓reduceIte, Int.reduceLT, Int.reduceNeg, Int.reduceLE, Int.reduceToNat, Nat.reduceLT, Nat.reduceEqDiff, Nat.reduceAdd, Nat.reduceMul, Nat.reduceSub, Nat.reduceLeDiff, Nat.reduceBEq]; refine hK _ _ ?_; clear hK) | (refine ae ?_; simp only [TH]; (((repeat ((fail_if_success refine hS _ _ ?_); clear hS)); refine hS _ _ ?_); clear hS; try clear hF)) | refine af fun K hS hF => ?_ | refine ac rfl ?_ | (refine al ?_; simp (disch := omega) only [TH, TE, WW, BB, ↓ab, ↓reduceIte, Int.reduceLT, Int.reduceNeg, Int.reduceLE, Int.reduceToNat, Nat.reduceLT, Nat.reduceEqDiff, Nat.reduceAdd, Nat.reduceMul, Nat.reduceSub, Nat.reduceLeDiff, Nat.reduceBEq]))
      refine ⟨_, rfl, [], H, ai (ai hG (bI hG hb)) (bI hG hb), hQ1 ?_⟩
      exact List.any_eq_true.2 ⟨o, hmem, hc⟩
    · repeat (refine aa rfl fun K hK => ?_; simp (disch := omega) only [WW, BB, ↓ab, ↓reduceIte, Int.reduceLT, Int.reduceNeg, Int.reduceLE, Int.reduceToNat, Nat.reduceLT, Nat.reduceEqDiff, Nat.reduceAdd, Nat.reduceMul, Nat.reduceSub, Nat.reduceLeDiff, Nat.reduceBEq]; refine hK _ _ ?_; clear hK)
      refine aa rfl fun K hK => ⟨_, z25, fun b hb => hK _ _ ?_⟩
      refine aq (p := .ptr b 0) (v := .agg (nR .u8 (idOf o))) rfl rfl rfl (by simp (disch := omega) only [WW, BB, ↓ab, ↓reduceIte, Int.reduceLT, Int.reduceNeg, Int.reduceLE, Int.reduceToNat, Nat.reduceLT, Nat.reduceEqDiff, Nat.reduceAdd, Nat.reduceMul, Nat.reduceSub, Nat.reduceLeDiff, Nat.reduceBEq]) (by simp (disch := omega) only [WW, BB, ↓ab, ↓reduceIte, Int.reduceLT, Int.reduceNeg, Int.reduceLE, Int.reduceToNat, Nat.reduceLT, Nat.reduceEqDiff, Nat.reduceAdd, Nat.reduceMul, Nat.reduceSub, Nat.reduceLeDiff, Nat.reduceBEq]) (au (b := b) (ag _ _ _) bb (by rw [ar, idOf, bt]) (bk _ _) rfl) ?_
      refine aa rfl fun K hK => ?_
      simp (disch := omega) only [WW, BB, ↓ab, ↓reduceIte, Int.reduceLT, Int.reduceNeg, Int.reduceLE, Int.reduceToNat, Nat.reduceLT, Nat.reduceEqDiff, Nat.reduceAdd, Nat.reduceMul, Nat.reduceSub, Nat.reduceLeDiff, Nat.reduceBEq]
      refine hK _ _ (ae ?_)
      simp only [TH]
      refine frz_row (d := 7) (b := b) (xs := nR .u8 (idOf o)) (X := X) hF ?_ ?_ hb ?_
      · simp (disch := omega) only [WW, BB, ↓ab, ↓reduceIte, Int.reduceLT, Int.reduceNeg, Int.reduceLE, Int.reduceToNat, Nat.reduceLT, Nat.reduceEqDiff, Nat.reduceAdd, Nat.reduceMul, Nat.reduceSub, Nat.reduceLeDiff, Nat.reduceBEq]
      · rw [aD]
      have hid : (idOf o).length = 32 := bt _
      repeat (first
    | (refine aa rfl fun K hK => ?_; simp (disch := omega) only [WW, BB, ↓ab, ↓reduceIte, Int.reduceLT, Int.reduceNeg, Int.reduceLE, Int.reduceToNat, Nat.reduceLT, Nat.reduceEqDiff, Nat.reduceAdd, Nat.reduceMul, Nat.reduceSub, Nat.reduceLeDiff, Nat.reduceBEq, ne_eq, not_true, decide_false]; refine hK _ _ ?_; clear hK) | (refine ae ?_; simp only [TH]; (((repeat ((fail_if_success refine hS _ _ ?_); clear hS)); refine hS _ _ ?_); clear hS; try clear hF)) | refine af fun K hS hF => ?_ | refine ac rfl ?_)
      refine aE (by simp (disch := omega) only [WW, BB, ↓ab, ↓reduceIte, Int.reduceLT, Int.reduceNeg, Int.reduceLE, Int.reduceToNat, Nat.reduceLT, Nat.reduceEqDiff, Nat.reduceAdd, Nat.reduceMul, Nat.reduceSub, Nat.reduceLeDiff, Nat.reduceBEq]) ?_
      have hlA : ldc (some (true, 32)) (nR .u8 (idOf o)) 0 = some (.agg (nR .u8 (idOf o))) := by
        simp only [ldc]
        rw [if_pos (by rw [ar, hid]; omega), List.drop_zero, List.take_of_length_le (by rw [ar, hid]; omega)]
      repeat (first
    | (refine aa rfl fun K hK => ?_; simp (disch := omega) only [WW, BB, ↓ab, ↓reduceIte, Int.reduceLT, Int.reduceNeg, Int.reduceLE, Int.reduceToNat, Nat.reduceLT, Nat.reduceEqDiff, Nat.reduceAdd, Nat.reduceMul, Nat.reduceSub, Nat.reduceLeDiff, Nat.reduceBEq, q4, bb, hlA]; refine hK _ _ ?_; clear hK) | (refine am ?_; simp only [TH]; (((repeat ((fail_if_success refine hS _ _ ?_); clear hS)); refine hS _ _ ?_); clear hS; try clear hF)) | refine ac rfl ?_)
      refine aa rfl fun K hK => bsA1 (xs := nR .u8 (idOf o)) zs22 (by simp (disch := omega) only [WW, BB, ↓ab, ↓reduceIte, Int.reduceLT, Int.reduceNeg, Int.reduceLE, Int.reduceToNat, Nat.reduceLT, Nat.reduceEqDiff, Nat.reduceAdd, Nat.reduceMul, Nat.reduceSub, Nat.reduceLeDiff, Nat.reduceBEq]) (by rw [ar, hid]) (by omega) (hK _ _ ?_)
      refine aa rfl fun K hK => ?_
      simp (disch := omega) only [WW, BB, ↓ab, ↓reduceIte, Int.reduceLT, Int.reduceNeg, Int.reduceLE, Int.reduceToNat, Nat.reduceLT, Nat.reduceEqDiff, Nat.reduceAdd, Nat.reduceMul, Nat.reduceSub, Nat.reduceLeDiff, Nat.reduceBEq]
      refine cg (fs := hE [idOf o]) hok hG ds22 sl22 bg (hE_ones _) (by simp [hE]) (by rw [by22, hE_len, hE_len]; simp; omega) (by rw [hE_len, hE_len]; simp; omega) fun w' X2 hok2 hG2 hX2 => hK _ _ ?_
      repeat (first
    | (refine aa rfl fun K hK => ?_; simp (disch := omega) only [WW, BB, ↓ab, ↓reduceIte, Int.reduceLT, Int.reduceNeg, Int.reduceLE, Int.reduceToNat, Nat.reduceLT, Nat.reduceEqDiff, Nat.reduceAdd, Nat.reduceMul, Nat.reduceSub, Nat.reduceLeDiff, Nat.reduceBEq, q12, aP]; refine hK _ _ ?_; clear hK) | (refine ae ?_; simp only [TH]; first | (((repeat ((fail_if_success refine hS _ _ ?_); clear hS)); refine hS _ _ ?_); clear hS; try clear hF) | skip) | refine ac rfl ?_)
      refine hKL (l.length - (i + 1)) _ _ (by omega) ⟨i + 1, w', rfl, by omega, ?_, ?_, ?_, ?_, ?_, hG2, ?_⟩
      · simp (disch := omega) only [WW, BB, ↓ab, ↓reduceIte, Int.reduceLT, Int.reduceNeg, Int.reduceLE, Int.reduceToNat, Nat.reduceLT, Nat.reduceEqDiff, Nat.reduceAdd, Nat.reduceMul, Nat.reduceSub, Nat.reduceLeDiff, Nat.reduceBEq]
      · simp (disch := omega) only [WW, BB, ↓ab, ↓reduceIte, Int.reduceLT, Int.reduceNeg, Int.reduceLE, Int.reduceToNat, Nat.reduceLT, Nat.reduceEqDiff, Nat.reduceAdd, Nat.reduceMul, Nat.reduceSub, Nat.reduceLeDiff, Nat.reduceBEq, q10]
      · simp (disch := omega) only [WW, BB, ↓ab, ↓reduceIte, Int.reduceLT, Int.reduceNeg, Int.reduceLE, Int.reduceToNat, Nat.reduceLT, Nat.reduceEqDiff, Nat.reduceAdd, Nat.reduceMul, Nat.reduceSub, Nat.reduceLeDiff, Nat.reduceBEq, q11]
      · simp (disch := omega) only [WW, BB, ↓ab, ↓reduceIte, Int.reduceLT, Int.reduceNeg, Int.reduceLE, Int.reduceToNat, Nat.reduceLT, Nat.reduceEqDiff, Nat.reduceAdd, Nat.reduceMul, Nat.reduceSub, Nat.reduceLeDiff, Nat.reduceBEq]
      · rw [htk, List.map_append, ← hE_append]
        exact hok2
      · rw [htk, List.any_append, hno]
        simpa using hc
  · (refine aG ?_; simp only [TH, ↓reduceIte, Nat.reduceEqDiff]; ((repeat ((fail_if_success refine hS _ _ ?_); clear hS)); refine hS _ _ ?_); clear hS; try clear hF)
    have : i = l.length := by omega
    subst this
    rw [List.take_of_length_le (Nat.le_refl _)] at hok hno
    repeat (first
    | (refine aa rfl fun K hK => ?_; simp (disch := omega) only [WW, BB, ↓ab, ↓reduceIte, Int.reduceLT, Int.reduceNeg, Int.reduceLE, Int.reduceToNat, Nat.reduceLT, Nat.reduceEqDiff, Nat.reduceAdd, Nat.reduceMul, Nat.reduceSub, Nat.reduceLeDiff, Nat.reduceBEq, q4]; refine hK _ _ ?_; clear hK) | (refine ae ?_; simp only [TH]; (((repeat ((fail_if_success refine hS _ _ ?_); clear hS)); refine hS _ _ ?_); clear hS; try clear hF)) | refine af fun K hS hF => ?_ | refine ac rfl ?_ | (refine al ?_; simp (disch := omega) only [TH, TE, WW, BB, ↓ab, ↓reduceIte, Int.reduceLT, Int.reduceNeg, Int.reduceLE, Int.reduceToNat, Nat.reduceLT, Nat.reduceEqDiff, Nat.reduceAdd, Nat.reduceMul, Nat.reduceSub, Nat.reduceLeDiff, Nat.reduceBEq, q4]))
    exact ⟨_, rfl, okO_seal2 hok hG fun w hw => hQ2 hno w hw⟩
end Go.Av

set_option linter.unusedSimpArgs false
set_option linter.unusedVariables false
namespace Go.Av
open Go.RowKit Go.Proofs

def encL (l : List TTx) : List Nat := cmpB l.length ++ l.flatMap encT
def encB (h : Hdr) (l : List TTx) : List Nat := encH h ++ encL l
theorem agg46 {h : Hdr} {v : V} (ho : okHd h) : ldc (some (true, 68)) (hdC h ++ [v]) 0 = some (.agg (hdC h)) := by
  have hl := aX ho
  simp only [ldc]
  rw [if_pos (by simp [hl]), List.drop_zero, List.take_append_of_le_length (by omega), List.take_of_length_le (by omega)]
theorem agg49 {h : Hdr} {v : V} (ho : okHd h) : ldc (some (true, 69)) (hdC h ++ [v]) 0 = some (.agg (hdC h ++ [v])) := agg98 (aX ho)

def s75 : Spec := fun _ args H Q => ∃ h v l, args = [.agg (hdC h ++ [v])] ∧ okHd h ∧ isTxs H v l ∧ okTs l ∧ (l.any chkB = true → Q (.tup [.nils, vN .i64 70]) H) ∧ (l.any chkB = false → ∀ v, isB v (encB h l) → Q (.tup [v, vN .i64 0]) H)

theorem snd75 : Sound Try.prog 75 s75 := by
  refine ak pm (ap [(74, s74), (92, s92), (93, s93), (95, s95), (96, s96)] (by simp [snd74, snd92, snd93, snd95, snd96])) [1] Try.func75 rfl (by kernel_rfl) ?_
  rintro Y args H Q ⟨h, v, l, rfl, hoh, ⟨es, hv, hnv, hes⟩, hl, hQ1, hQ2⟩
  refine ⟨by simp [Try.f75], ?_⟩
  show wpC Try.prog (tab [(74, s74), (92, s92), (93, s93), (95, s95), (96, s96)]) Y [1] 38 _ true (aB Try.prog [.tmp 2, .tmp 3] Q) _ H
  have hly := av (P := Try.prog) sl47 hv
  rw [hes.1] at hly
  have hl1 := hl.1
  have hhl := aX hoh
  repeat (first
    | (refine aa rfl fun K hK => ?_; simp (disch := omega) only [WW, BB, ↓ab, simprocAttr]; refine hK _ _ ?_; clear hK) | (refine ae ?_; simp only [TH]; (((repeat ((fail_if_success refine hS _ _ ?_); clear hS)); refine hS _ _ ?_); clear hS; try clear hF)) | refine af fun K hS hF => ?_ | refine ac rfl ?_)
  refine aa rfl fun K hK => ⟨_, z136, fun p hp => hK _ _ ?_⟩
  have hP := pen_new hp
  generalize upd H p (some (.row [.nils])) = X at *
  repeat (first
    | (refine aa rfl fun K hK => ?_; simp (disch := omega) only [WW, BB, ↓ab, simprocAttr, fl49_0, ty46, agg46 hoh]; refine hK _ _ ?_; clear hK) | (refine ae ?_; simp only [TH]; (((repeat ((fail_if_success refine hS _ _ ?_); clear hS)); refine hS _ _ ?_); clear hS; try clear hF)) | refine af fun K hS hF => ?_ | refine ac rfl ?_)
  refine aa rfl fun K hK => ⟨h, rfl, hoh, fun w hw => hK _ _ ?_⟩
  clear hK
  skip
  refine aa rfl fun K hK => bs115 (z := w) (by simp (disch := omega) only [WW, BB, ↓ab, simprocAttr]) (isB_one hw).2 (hK _ _ ?_)
  refine aa rfl fun K hK => ⟨H, p, [], .sl 1 [[w]] true, w, encH h, ?_, hP, bg, isB_view hw _, by rw [encH_len hoh]; simp, fun X1 hP1 => hK _ _ ?_⟩
  · simp (disch := omega) only [WW, BB, ↓ab, simprocAttr]
  repeat (first
    | (refine aa rfl fun K hK => ?_; simp (disch := omega) only [WW, BB, ↓ab, simprocAttr, bu, ty47, bE hhl, hly, conv_u64 _ us3 i91, Nat.mod_eq_of_lt (show l.length < 18446744073709551616 by omega)]; refine hK _ _ ?_; clear hK) | (refine ae ?_; simp only [TH]; (((repeat ((fail_if_success refine hS _ _ ?_); clear hS)); refine hS _ _ ?_); clear hS; try clear hF)) | refine af fun K hS hF => ?_ | refine ac rfl ?_)
  refine aa rfl fun K hK => ⟨H, p, _, l.length, ?_, hP1, by omega, by rw [List.nil_append, encH_len hoh]; omega, fun X2 hP2 => hK _ _ ?_⟩
  · simp (disch := omega) only [WW, BB, ↓ab, simprocAttr]
  have hc1 := cmpB_len l.length
  rw [List.nil_append] at hP2
  repeat (first
    | (refine aa rfl fun K hK => ?_; simp (disch := omega) only [WW, BB, ↓ab, simprocAttr, bu, ty47, bE hhl, hly]; refine hK _ _ ?_; clear hK) | (refine ae ?_; simp only [TH]; (((repeat ((fail_if_success refine hS _ _ ?_); clear hS)); refine hS _ _ ?_); clear hS; try clear hF)) | refine af fun K hS hF => ?_ | refine ac rfl ?_ | refine ax ?_)
  refine aO (fun m t X => ∃ i, m = l.length - i ∧ i ≤ l.length ∧ t 4 = .ptr p 0 ∧ t 20 = v ∧ t 21 = vN .i64 l.length ∧ t 22 = vN .i64 i ∧ Pen H X p (encH h ++ cmpB l.length ++ (l.take i).flatMap encT) ∧ (l.take i).any chkB = false) l.length
    ⟨0, rfl, by omega, by simp (disch := omega) only [WW, BB, ↓ab, simprocAttr], by simp (disch := omega) only [WW, BB, ↓ab, simprocAttr], by simp (disch := omega) only [WW, BB, ↓ab, simprocAttr], by simp (disch := omega) only [WW, BB, ↓ab, simprocAttr], by simpa using hP2, rfl⟩ fun KL m t X hI hKL => ?_
  obtain ⟨i, rfl, hi, q4, q20, q21, q22, hP3, hno⟩ := hI
  have hall : ∀ a ∈ l.take i, (encT a).length ≤ 300000 := fun a ha => by
    have ham := List.mem_of_mem_take ha
    obtain ⟨j, hj⟩ := List.mem_iff_getElem?.1 ham
    obtain ⟨e', _, hio'⟩ := hes.get hj
    exact encT_len hio' (hl.2 a ham)
  have hlen := flat_len (l.take i) hall
  rw [List.length_take] at hlen
  have heh := encH_len hoh
  repeat (first
    | (refine aa rfl fun K hK => ?_; simp (disch := omega) only [WW, BB, ↓ab, simprocAttr, q21, q22]; refine hK _ _ ?_; clear hK) | (refine ae ?_; simp only [TH]; (((repeat ((fail_if_success refine hS _ _ ?_); clear hS)); refine hS _ _ ?_); clear hS; try clear hF)) | refine af fun K hS hF => ?_ | refine ac rfl ?_)
  refine aH rfl (fun hd => ?_) (fun hd => ?_)
  · (refine am ?_; simp only [TH]; ((repeat ((fail_if_success refine hS _ _ ?_); clear hS)); refine hS _ _ ?_); clear hS; try clear hF)
    obtain ⟨o, ho⟩ : ∃ o, l[i]? = some o := ⟨_, List.getElem?_eq_getElem hd⟩
    have hmem := List.mem_of_getElem? ho
    obtain ⟨e, he, hio⟩ := hes.get ho
    obtain ⟨pp, hpp, hpl⟩ := bc (P := Try.prog) (k := .i64) ar47 sl47 (aL hP3.1 hv) he (isTx_len hio)
    have hel := encT_len hio (hl.2 o hmem)
    have hio' := hio
    obtain ⟨vi, vo, ei, eo, rfl, hvi, hni, hei, hvo, hno', heo, hver, hlock⟩ := hio'
    have htk : l.take (i + 1) = l.take i ++ [o] := by
      rw [List.take_succ_eq_append_getElem hd, ← (List.getElem?_eq_some_iff.1 ho).2]
    repeat (first
    | (refine aa rfl fun K hK => ?_; simp (disch := omega) only [WW, BB, ↓ab, simprocAttr, q20, q22, hpp, hpl, ty56]; refine hK _ _ ?_; clear hK) | refine af fun K hS hF => ?_ | refine ac rfl ?_)
    refine as_frz (d := 6) (v := .agg [vN .u32 o.ver, vi, vo, vN .u32 o.lock]) rfl rfl rfl rfl rfl rfl z56 (fun H' b hb => au hb ty56 rfl (by rw [List.all_cons, List.all_cons, List.all_cons, (bd hvi).1, (bd hvo).1]; rfl) rfl) (by decide) hF (fun p => by simp (disch := omega) only [WW, BB, ↓ab, simprocAttr]) ?_
    repeat (first
    | (refine aa rfl fun K hK => ?_; simp (disch := omega) only [WW, BB, ↓ab, simprocAttr, ty56, agg56]; refine hK _ _ ?_; clear hK) | refine af fun K hS hF => ?_ | refine ac rfl ?_)
    refine aa rfl fun K hK => ⟨_, o, rfl, isTx_le hP3.1 hio, hl.2 o hmem, fun hc => hK _ _ ?_, fun hc w hw => hK _ _ ?_⟩
    · repeat (first
    | (refine aa rfl fun K hK => ?_; simp (disch := omega) only [WW, BB, ↓ab, simprocAttr, ne_eq, Nat.reduceEqDiff, not_false_eq_true, decide_true]; refine hK _ _ ?_; clear hK) | (refine ae ?_; simp only [TH]; (((repeat ((fail_if_success refine hS _ _ ?_); clear hS)); refine hS _ _ ?_); clear hS; try clear hF)) | refine af fun K hS hF => ?_ | refine ac rfl ?_)
      refine aS (by simp (disch := omega) only [WW, BB, ↓ab, simprocAttr]) ?_
      repeat (first
    | (refine aa rfl fun K hK => ?_; simp (disch := omega) only [WW, BB, ↓ab, simprocAttr]; refine hK _ _ ?_; clear hK) | (refine ae ?_; simp only [TH]; (((repeat ((fail_if_success refine hS _ _ ?_); clear hS)); refine hS _ _ ?_); clear hS; try clear hF)) | refine af fun K hS hF => ?_ | refine ac rfl ?_ | (refine al ?_; simp (disch := omega) only [TH, TE, WW, BB, ↓ab, simprocAttr]))
      exact ⟨_, rfl, [], H, hP3.1, hQ1 (List.any_eq_true.2 ⟨o, hmem, hc⟩)⟩
    · repeat (first
    | (refine aa rfl fun K hK => ?_; simp (disch := omega) only [WW, BB, ↓ab, simprocAttr, ne_eq, not_true, decide_false]; refine hK _ _ ?_; clear hK) | (refine ae ?_; simp only [TH]; (((repeat ((fail_if_success refine hS _ _ ?_); clear hS)); refine hS _ _ ?_); clear hS; try clear hF)) | refine af fun K hS hF => ?_ | refine ac rfl ?_)
      refine aE (by simp (disch := omega) only [WW, BB, ↓ab, simprocAttr]) ?_
      repeat (first
    | (refine aa rfl fun K hK => ?_; simp (disch := omega) only [WW, BB, ↓ab, simprocAttr]; refine hK _ _ ?_; clear hK) | (refine am ?_; simp only [TH]; (((repeat ((fail_if_success refine hS _ _ ?_); clear hS)); refine hS _ _ ?_); clear hS; try clear hF)) | refine ac rfl ?_)
      refine aa rfl fun K hK => bs115 (z := w) (by simp (disch := omega) only [WW, BB, ↓ab, simprocAttr]) (isB_one hw).2 (hK _ _ ?_)
      refine aa rfl fun K hK => ⟨H, p, _, .sl 1 [[w]] true, w, encT o, ?_, hP3, bg, isB_view hw _, by simp only [List.length_append]; omega, fun X4 hP4 => hK _ _ ?_⟩
      · simp (disch := omega) only [WW, BB, ↓ab, simprocAttr, q4]
      repeat (first
    | (refine aa rfl fun K hK => ?_; simp (disch := omega) only [WW, BB, ↓ab, simprocAttr, q22, aP]; refine hK _ _ ?_; clear hK) | (refine ae ?_; simp only [TH]; first | (((repeat ((fail_if_success refine hS _ _ ?_); clear hS)); refine hS _ _ ?_); clear hS; try clear hF) | skip) | refine ac rfl ?_)
      refine hKL (l.length - (i + 1)) _ _ (by omega) ⟨i + 1, rfl, by omega, ?_, ?_, ?_, ?_, ?_, ?_⟩
      · simp (disch := omega) only [WW, BB, ↓ab, simprocAttr, q4]
      · simp (disch := omega) only [WW, BB, ↓ab, simprocAttr, q20]
      · simp (disch := omega) only [WW, BB, ↓ab, simprocAttr, q21]
      · simp (disch := omega) only [WW, BB, ↓ab, simprocAttr]
      · have e : encH h ++ cmpB l.length ++ (l.take (i + 1)).flatMap encT = encH h ++ cmpB l.length ++ (l.take i).flatMap encT ++ encT o := by
          rw [htk]; simp
        rw [e]
        exact hP4
      · rw [htk, List.any_append, hno]
        simpa using hc
  · (refine aG ?_; simp only [TH, ↓reduceIte, Nat.reduceEqDiff]; ((repeat ((fail_if_success refine hS _ _ ?_); clear hS)); refine hS _ _ ?_); clear hS; try clear hF)
    have : i = l.length := by omega
    subst this
    rw [List.take_of_length_le (Nat.le_refl _)] at hP3 hno hlen
    have e : encH h ++ cmpB l.length ++ l.flatMap encT = encB h l := by simp [encB, encL]
    have hbl : (encB h l).length ≤ 1000000000 := by
      rw [← e]
      simp only [List.length_append]
      omega
    rw [e] at hP3
    repeat (first
    | refine af fun K hS hF => ?_ | refine ac rfl ?_)
    refine aa rfl fun K hK => ⟨H, p, encB h l, ?_, hP3, by omega, fun w hw => hK _ _ ?_⟩
    · simp (disch := omega) only [WW, BB, ↓ab, simprocAttr, q4]
    repeat (first
    | (refine aa rfl fun K hK => ?_; simp (disch := omega) only [WW, BB, ↓ab, simprocAttr]; refine hK _ _ ?_; clear hK) | (refine ae ?_; simp only [TH]; (((repeat ((fail_if_success refine hS _ _ ?_); clear hS)); refine hS _ _ ?_); clear hS; try clear hF)) | (refine al ?_; simp (disch := omega) only [TH, TE, WW, BB, ↓ab, simprocAttr]))
    exact ⟨_, rfl, [], H, hP3.1, hQ2 hno w hw⟩

/-- Is a block too great? -/
def sizeB (l : List TTx) : Bool := decide (100 < l.length) || l.any chkB || decide (20000 < 80 + (encL l).length)
def s61 : Spec := fun _ args H Q => ∃ h v l, args = [.agg (hdC h ++ [v])] ∧ okHd h ∧ isTxs H v l ∧ okTs l ∧ Q (.bool (sizeB l)) H
theorem snd61 : Sound Try.prog 61 s61 := by
  refine ak pm (ap [(75, s75)] (by simp [snd75])) [1] Try.func61 rfl (by kernel_rfl) ?_
  rintro Y args H Q ⟨h, v, l, rfl, hoh, hx, hl, hQ⟩
  refine ⟨by simp [Try.f61], ?_⟩
  show wpC Try.prog (tab [(75, s75)]) Y [1] 23 _ true (aB Try.prog [.tmp 2] Q) _ H
  have hx' := hx
  obtain ⟨es, hv, hnv, hes⟩ := hx'
  have hly := av (P := Try.prog) sl47 hv
  rw [hes.1] at hly
  have hhl := aX hoh
  rw [sizeB] at hQ
  by_cases c1 : 100 < l.length
  · have d1 : decide (100 < l.length) = true := decide_eq_true c1
    repeat (first
    | (refine aa rfl fun K hK => ?_; simp (disch := omega) only [WW, BB, ↓ab, simprocAttr, fl98_0, bu, ty47, bE hhl, hly, d1]; refine hK _ _ ?_; clear hK) | (refine ae ?_; simp only [TH]; (((repeat ((fail_if_success refine hS _ _ ?_); clear hS)); refine hS _ _ ?_); clear hS; try clear hF)) | refine af fun K hS hF => ?_ | refine ac rfl ?_)
    refine aS (by simp (disch := omega) only [WW, BB, ↓ab, simprocAttr]) ?_
    repeat (first
    | (refine aa rfl fun K hK => ?_; simp (disch := omega) only [WW, BB, ↓ab, simprocAttr]; refine hK _ _ ?_; clear hK) | (refine ae ?_; simp only [TH]; (((repeat ((fail_if_success refine hS _ _ ?_); clear hS)); refine hS _ _ ?_); clear hS; try clear hF)) | refine af fun K hS hF => ?_ | refine ac rfl ?_ | (refine al ?_; simp (disch := omega) only [TH, TE, WW, BB, ↓ab, simprocAttr]))
    rw [d1, Bool.true_or, Bool.true_or] at hQ
    exact ⟨_, rfl, [], _, aj _, hQ⟩
  have d1 : decide (100 < l.length) = false := decide_eq_false c1
  rw [d1, Bool.false_or] at hQ
  repeat (first
    | (refine aa rfl fun K hK => ?_; simp (disch := omega) only [WW, BB, ↓ab, simprocAttr, fl98_0, bu, ty47, bE hhl, hly, d1]; refine hK _ _ ?_; clear hK) | (refine ae ?_; simp only [TH]; (((repeat ((fail_if_success refine hS _ _ ?_); clear hS)); refine hS _ _ ?_); clear hS; try clear hF)) | refine af fun K hS hF => ?_ | refine ac rfl ?_)
  refine aE (by simp (disch := omega) only [WW, BB, ↓ab, simprocAttr]) ?_
  repeat (first
    | (refine aa rfl fun K hK => ?_; simp (disch := omega) only [WW, BB, ↓ab, simprocAttr, fl98_0, ty49, agg49 hoh]; refine hK _ _ ?_; clear hK) | (refine am ?_; simp only [TH]; (((repeat ((fail_if_success refine hS _ _ ?_); clear hS)); refine hS _ _ ?_); clear hS; try clear hF)) | refine af fun K hS hF => ?_ | refine ac rfl ?_)
  refine aa rfl fun K hK => ⟨h, v, l, rfl, hoh, hx, hl, fun hc => hK _ _ ?_, fun hc w hw => hK _ _ ?_⟩
  · clear hK
    rw [hc, Bool.true_or] at hQ
    repeat (first
    | (refine aa rfl fun K hK => ?_; simp (disch := omega) only [WW, BB, ↓ab, simprocAttr, ne_eq, Nat.reduceEqDiff, not_false_eq_true, decide_true]; refine hK _ _ ?_; clear hK) | refine bl rfl ?_ | (refine ae ?_; simp only [TH]; (((repeat ((fail_if_success refine hS _ _ ?_); clear hS)); refine hS _ _ ?_); clear hS; try clear hF)) | refine af fun K hS hF => ?_ | refine ac rfl ?_ | (refine al ?_; simp (disch := omega) only [TH, TE, WW, BB, ↓ab, simprocAttr, ne_eq, Nat.reduceEqDiff, not_false_eq_true, decide_true]))
    exact ⟨_, rfl, [], _, aj _, hQ⟩
  · clear hK
    rw [hc, Bool.false_or] at hQ
    have hlw := av (P := Try.prog) sl64 (isB_view hw H)
    rw [az, encB, List.length_append, encH_len hoh] at hlw
    repeat (first
    | (refine aa rfl fun K hK => ?_; simp (disch := omega) only [WW, BB, ↓ab, simprocAttr, ne_eq, not_true, decide_false, hlw]; refine hK _ _ ?_; clear hK) | (refine ae ?_; simp only [TH]; (((repeat ((fail_if_success refine hS _ _ ?_); clear hS)); refine hS _ _ ?_); clear hS; try clear hF)) | refine af fun K hS hF => ?_ | refine ac rfl ?_ | (refine al ?_; simp (disch := omega) only [TH, TE, WW, BB, ↓ab, simprocAttr, ne_eq, not_true, decide_false, hlw]))
    exact ⟨_, rfl, [], _, aj _, hQ⟩
end Go.Av

set_option linter.unusedSimpArgs false
set_option linter.unusedVariables false
namespace Go.Av
open Go.RowKit Go.Proofs

def idsL (l : List TTx) : List (List Nat) := if l.any chkB then [] else l.map idOf
theorem idsL_H (l : List TTx) : allH (idsL l) := by
  unfold idsL
  split
  · intro h hh; cases hh
  · intro h hh
    obtain ⟨x, _, rfl⟩ := List.mem_map.1 hh
    exact okH_twice _
theorem idsL_len (l : List TTx) : (idsL l).length ≤ l.length := by
  unfold idsL
  split <;> simp
theorem isHs_view {v : V} {hs : List (List Nat)} (h : isHs v hs) (H : Hp) : ao H 32 v = some (hE hs) := by
  rcases h with ⟨rfl, h⟩ | rfl
  · rw [h]; rfl
  · simp [ao]
theorem isHs_notR {v : V} {hs : List (List Nat)} (h : isHs v hs) : notR v = true := by
  rcases h with ⟨rfl, h⟩ | rfl <;> rfl
theorem rootR_ok {hs : List (List Nat)} (h : allH hs) : okH (rootR hs).1 := by
  unfold rootR
  split
  · exact h0_ok
  · rename_i hne
    exact rootOf_H hne h
def rootB (rt : List Nat) (l : List TTx) : Bool := decide ((rootR (idsL l)).2 ≠ 0) || decide ((rootR (idsL l)).1 ≠ rt) || swollen (idsL l)
def s63 : Spec := fun _ args H Q => ∃ h v l, args = [.agg (hdC h ++ [v])] ∧ okHd h ∧ isTxs H v l ∧ okTs l ∧ Q (.bool (rootB h.root l)) H
theorem aggR {h : Hdr} {r : List V} (ho : okHd h) : ldc (some (true, 32)) (hdC h ++ r) 33 = some (.agg (nR .u8 h.root)) := by
  have hl := aX ho
  simp only [ldc]
  rw [if_pos (by simp [hl]; omega), List.drop_append_of_le_length (by omega)]
  have : (hdC h).drop 33 = nR .u8 h.root ++ [vN .u32 h.time, vN .u32 h.bits, vN .u32 h.nonce] := by
    simp only [hdC]
    rw [List.drop_succ_cons, List.drop_append, List.drop_of_length_le (by rw [ar, ho.1.1]; omega), List.nil_append, ar, ho.1.1]
    rfl
  rw [this, List.append_assoc, List.take_append_of_le_length (by rw [ar, ho.2.1.1]; omega), List.take_of_length_le (by rw [ar, ho.2.1.1]; omega)]

theorem snd63 : Sound Try.prog 63 s63 := by
  refine ak pm (ap [(13, s13), (15, s15), (46, s46)] (by simp [snd13, snd15, snd46])) [1] Try.func63 rfl (by kernel_rfl) ?_
  rintro Y args H Q ⟨h, v, l, rfl, hoh, hx, hl, hQ⟩
  refine ⟨by simp [Try.f63], ?_⟩
  show wpC Try.prog (tab [(13, s13), (15, s15), (46, s46)]) Y [1] 32 _ true (aB Try.prog [.tmp 2] Q) _ H
  have hhl := aX hoh
  have hl1 := hl.1
  have hidl := idsL_len l
  have hidH := idsL_H l
  have hroot := rootR_ok hidH
  repeat (first
    | (refine aa rfl fun K hK => ?_; simp (disch := omega) only [WW, BB, ↓ab, simprocAttr, fl98_0, ty49, agg49 hoh]; refine hK _ _ ?_; clear hK) | (refine ae ?_; simp only [TH]; (((repeat ((fail_if_success refine hS _ _ ?_); clear hS)); refine hS _ _ ?_); clear hS; try clear hF)) | refine af fun K hS hF => ?_ | refine ac rfl ?_)
  refine aa rfl fun K hK => ?_
  have hcall : ∀ Q' : V → Hp → Prop, (∀ w k, isHs w (idsL l) → Q' (.tup [w, vN .i64 k]) H) → s46 Y [.agg (hdC h ++ [v])] H Q' := fun Q' hq => by
    refine ⟨_, hdC h, l, rfl, ⟨v, rfl, hhl, hx⟩, hl, fun hc => hq _ _ ?_, fun hc w hw => hq _ _ ?_⟩
    · rw [idsL, if_pos hc]; exact .inl ⟨rfl, rfl⟩
    · rw [idsL, if_neg (by rw [hc]; simp)]; exact hw
  simp (disch := omega) only [WW, BB, ↓ab, simprocAttr]
  refine hcall _ fun w k hw => hK _ _ ?_
  clear hK hcall
  repeat (first
    | (refine aa rfl fun K hK => ?_; simp (disch := omega) only [WW, BB, ↓ab, simprocAttr]; refine hK _ _ ?_; clear hK) | (refine ae ?_; simp only [TH]; (((repeat ((fail_if_success refine hS _ _ ?_); clear hS)); refine hS _ _ ?_); clear hS; try clear hF)) | refine af fun K hS hF => ?_ | refine ac rfl ?_)
  refine aa rfl fun K hK => ⟨w, idsL l, rfl, isHs_view hw _, isHs_notR hw, allH_32 hidH, by omega, hK _ _ ?_⟩
  repeat (refine aa rfl fun K hK => ?_; simp (disch := omega) only [WW, BB, ↓ab, simprocAttr]; refine hK _ _ ?_; clear hK)
  refine aa rfl fun K hK => ⟨_, z25, fun b hb => hK _ _ ?_⟩
  refine aq (p := .ptr b 0) (v := .agg (nR .u8 (rootR (idsL l)).1)) rfl rfl rfl (by simp (disch := omega) only [WW, BB, ↓ab, simprocAttr]) (by simp (disch := omega) only [WW, BB, ↓ab, simprocAttr]) (au (b := b) (ag _ _ _) bb (by rw [ar, hroot.1]) (bk _ _) rfl) ?_
  refine aa rfl fun K hK => ?_
  simp (disch := omega) only [WW, BB, ↓ab, simprocAttr]
  refine hK _ _ (ae ?_)
  clear hK
  simp only [TH]
  refine frz_row (d := 5) (b := b) (xs := nR .u8 (rootR (idsL l)).1) (X := H) hF ?_ ?_ hb ?_
  · simp (disch := omega) only [WW, BB, ↓ab, simprocAttr]
  · rw [aD]
  have hlA : ldc (some (true, 32)) (nR .u8 (rootR (idsL l)).1) 0 = some (.agg (nR .u8 (rootR (idsL l)).1)) := by
    simp only [ldc]
    rw [if_pos (by rw [ar, hroot.1]; omega), List.drop_zero, List.take_of_length_le (by rw [ar, hroot.1]; omega)]
  rw [rootB] at hQ
  have hne := ne25 hroot hoh.2.1
  generalize (rootR (idsL l)).2 = e at *
  generalize (rootR (idsL l)).1 = rt at *
  by_cases c1 : e ≠ 0
  · have d1 : decide (e ≠ 0) = true := decide_eq_true c1
    repeat (first
    | (refine aa rfl fun K hK => ?_; simp (disch := omega) only [WW, BB, ↓ab, simprocAttr, d1]; refine hK _ _ ?_; clear hK) | refine bl rfl ?_ | (refine ae ?_; simp only [TH]; (((repeat ((fail_if_success refine hS _ _ ?_); clear hS)); refine hS _ _ ?_); clear hS; try clear hF)) | refine af fun K hS hF => ?_ | refine ac rfl ?_ | (refine al ?_; simp (disch := omega) only [TH, TE, WW, BB, ↓ab, simprocAttr, d1]))
    rw [d1, Bool.true_or, Bool.true_or] at hQ
    exact ⟨_, rfl, [], _, aj _, hQ⟩
  have d1 : decide (e ≠ 0) = false := decide_eq_false c1
  rw [d1, Bool.false_or] at hQ
  by_cases c2 : rt ≠ h.root
  · have d2 : decide (rt ≠ h.root) = true := decide_eq_true c2
    rw [d2] at hne
    repeat (first
    | (refine aa rfl fun K hK => ?_; simp (disch := omega) only [WW, BB, ↓ab, simprocAttr, d1, bb, hlA, fl98_0, fl49_0, fl46_2, aggR hoh, wpBin_A, hne]; refine hK _ _ ?_; clear hK) | refine bl rfl ?_ | (refine ae ?_; simp only [TH]; (((repeat ((fail_if_success refine hS _ _ ?_); clear hS)); refine hS _ _ ?_); clear hS; try clear hF)) | refine af fun K hS hF => ?_ | refine ac rfl ?_ | (refine al ?_; simp (disch := omega) only [TH, TE, WW, BB, ↓ab, simprocAttr, d1, bb, hlA, fl98_0, fl49_0, fl46_2, aggR hoh, wpBin_A, hne]))
    rw [d2, Bool.true_or] at hQ
    exact ⟨_, rfl, [], _, aj _, hQ⟩
  have d2 : decide (rt ≠ h.root) = false := decide_eq_false c2
  rw [d2] at hne
  rw [d2, Bool.false_or] at hQ
  repeat (first
    | (refine aa rfl fun K hK => ?_; simp (disch := omega) only [WW, BB, ↓ab, simprocAttr, d1, bb, hlA, fl98_0, fl49_0, fl46_2, aggR hoh, wpBin_A, hne]; refine hK _ _ ?_; clear hK) | refine af fun K hS hF => ?_ | refine ac rfl ?_)
  refine aa rfl fun K hK => ⟨w, idsL l, rfl, isHs_view hw _, isHs_notR hw, hidH, by omega, hK _ _ ?_⟩
  repeat (first
    | (refine aa rfl fun K hK => ?_; simp (disch := omega) only [WW, BB, ↓ab, simprocAttr]; refine hK _ _ ?_; clear hK) | (refine ae ?_; simp only [TH]; (((repeat ((fail_if_success refine hS _ _ ?_); clear hS)); refine hS _ _ ?_); clear hS; try clear hF)) | (refine al ?_; simp (disch := omega) only [TH, TE, WW, BB, ↓ab, simprocAttr]))
  exact ⟨_, rfl, [], _, aj _, hQ⟩
end Go.Av
