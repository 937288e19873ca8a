/-
  slices.Grow and slices.Concat of bytes; the hash of a pair.
  The hash of a pair: merkle's; the law's.
  slices.Chunk of hashes; pairs.
  merkle: pairs.
  merkle: levels.
  merkle: Root.
  The statements of layer 8: their first examples.
  merkle: like.
  merkle: Swollen.
  merkle: Swollen.
-/
import Derived.Test.YtgjlmmjdofceiaaYS

set_option linter.unusedSimpArgs false
set_option linter.unusedVariables false
namespace Go.Av
open Go.RowKit Go.Proofs

theorem un3 : Try.prog.underlying 3 = some (.int .i64) := by kernel_rfl
theorem un64 : Try.prog.underlying 64 = some (.slice 5) := by kernel_rfl
theorem cap64n : capV Try.prog 64 .nils = some (vN .i64 0) := by simp [capV, un64, vN]
theorem len64n : lenV Try.prog 64 .nils = some (vN .i64 0) := av (H := fun _ => none) sl64 (es := []) rfl
theorem sn64 : bf Try.prog 64 .nils none (some (vN .i64 0)) none = some .nils := by simp [bf, ar64, sl64, bD, bnd, vN]
theorem so64 (b n : Nat) : bf Try.prog 64 (.osl b 0 n 1 false) none (some (vN .i64 0)) none = some (.osl b 0 0 1 false) := by
  simp only [bf, ar64, sl64, bD, bnd_none, bnd_N 0 (Nat.zero_le n), Option.isSome_none, Option.bind_some]
  simp

def s72 : Spec := fun _ args H Q => ∃ n, args = [.nils, vN .i64 n] ∧ 0 < n ∧ n ≤ 1099511627776 ∧ ∀ b, H b = none → Q (.osl b 0 0 1 false) (upd H b (some (.arr 1 [])))

theorem snd72 : Sound Try.prog 72 s72 := by
  refine ak pm (ap [] (by simp)) [] Try.func72 rfl (by kernel_rfl) ?_
  rintro Y args H Q ⟨n, rfl, h0, h1, hQ⟩
  refine ⟨by simp [Try.f72], ?_⟩
  show wpC Try.prog (tab []) Y [] 27 _ true (aB Try.prog [.tmp 4] Q) _ H
  repeat (first
    | (refine aa rfl fun K hK => ?_; simp (disch := omega) only [WW, BB, ↓ab, simprocAttr]; refine hK _ _ ?_; clear hK) | (refine ae ?_; simp only [TH]; (((repeat ((fail_if_success refine hS _ _ ?_); clear hS)); refine hS _ _ ?_); clear hS; try clear hF)) | refine af fun K hS hF => ?_ | refine ac rfl ?_)
  refine aH rfl (fun hd => ?_) (fun hd => ?_)
  · omega
  · (refine am ?_; simp only [TH]; ((repeat ((fail_if_success refine hS _ _ ?_); clear hS)); refine hS _ _ ?_); clear hS; try clear hF)
    repeat (first
    | (refine aa rfl fun K hK => ?_; simp (disch := omega) only [WW, BB, ↓ab, simprocAttr, cap64n, len64n, i64_sub, Nat.sub_zero]; refine hK _ _ ?_; clear hK) | (refine ae ?_; simp only [TH]; (((repeat ((fail_if_success refine hS _ _ ?_); clear hS)); refine hS _ _ ?_); clear hS; try clear hF)) | refine af fun K hS hF => ?_ | refine ac rfl ?_)
    refine aH rfl (fun hd => ?_) (fun hd => ?_)
    · repeat (first
    | (refine aa rfl fun K hK => ?_; simp (disch := omega) only [WW, BB, ↓ab, simprocAttr, cap64n, len64n, sn64]; refine hK _ _ ?_; clear hK) | refine ac rfl ?_)
      refine aa rfl fun K hK => ?_
      simp (disch := omega) only [WW, BB, ↓ab, simprocAttr]
      refine .inr ⟨rfl, n, 1, .i64, rfl, un3, ds64, h0, by rw [by64]; omega, by omega, fun b hb => hK _ _ ?_⟩
      repeat (first
    | (refine aa rfl fun K hK => ?_; simp (disch := omega) only [WW, BB, ↓ab, simprocAttr, len64n, so64]; refine hK _ _ ?_; clear hK) | (refine ae ?_; simp only [TH]; (((repeat ((fail_if_success refine hS _ _ ?_); clear hS)); refine hS _ _ ?_); clear hS; try clear hF)) | refine af fun K hS hF => ?_ | refine ac rfl ?_ | (refine al ?_; simp (disch := omega) only [TH, TE, WW, BB, ↓ab, simprocAttr, len64n, so64]))
      exact ⟨_, rfl, [], _, aj _, hQ b hb⟩
    · omega

theorem sl115 : sliT Try.prog 115 = some 1 := by kernel_rfl
theorem ar115 : arrT Try.prog 115 = none := by kernel_rfl

/-- Slices of bytes, and what they hold. -/
def manyB (H : Hp) : List V → List (List Nat) → Prop
  | [], [] => True
  | p :: ps, b :: bs => ao H 1 p = some (nE .u8 b) ∧ manyB H ps bs
  | _, _ => False
theorem manyB_len {H : Hp} : ∀ {ps : List V} {bs : List (List Nat)}, manyB H ps bs → ps.length = bs.length
  | [], [], _ => rfl
  | _ :: _, _ :: _, h => congrArg (· + 1) (manyB_len h.2)
theorem manyB_get {H : Hp} : ∀ {ps : List V} {bs : List (List Nat)}, manyB H ps bs → ∀ i, i < ps.length → ∃ p, ps[i]? = some p ∧ ao H 1 p = some (nE .u8 (bs.getD i []))
  | p :: _, b :: _, h, 0, _ => ⟨p, rfl, h.1⟩
  | _ :: ps, _ :: bs, h, i + 1, hi => by
    obtain ⟨p, h1, h2⟩ := manyB_get h.2 i (by simpa using hi)
    exact ⟨p, by simpa using h1, by simpa using h2⟩
theorem manyB_le {H G : Hp} (hle : hle H G) : ∀ {ps : List V} {bs : List (List Nat)}, manyB H ps bs → manyB G ps bs
  | [], [], _ => trivial
  | _ :: _, _ :: _, h => ⟨aL hle h.1, manyB_le hle h.2⟩

theorem flat_take (bs : List (List Nat)) (i : Nat) (hi : i < bs.length) : (bs.take (i + 1)).flatten = (bs.take i).flatten ++ bs.getD i [] := by
  rw [List.take_succ_eq_append_getElem hi, List.flatten_append, List.getD_eq_getElem?_getD, List.getElem?_eq_getElem hi]
  rw [List.flatten_cons, List.flatten_nil, List.append_nil]
  rfl
theorem flat_take_le (bs : List (List Nat)) (i : Nat) : (bs.take i).flatten.length ≤ bs.flatten.length := by
  have : bs.flatten = (bs.take i).flatten ++ (bs.drop i).flatten := by rw [← List.flatten_append, List.take_append_drop]
  rw [this, List.length_append]
  omega

def s54 : Spec := fun _ args H Q => ∃ x ps bs, args = [x] ∧ ao H 1 x = some (ps.map fun p => [p]) ∧ manyB H ps bs ∧ 0 < bs.flatten.length ∧ bs.flatten.length ≤ 1099511627776 ∧ ps.length ≤ 1099511627776 ∧ Q (.sl 1 (nE .u8 bs.flatten) false) H

section
variable {Y : aC} {Q : Exit → T → Hp → Prop} {t : T} {H : Hp} {x : V} {ps : List V} {bs : List (List Nat)}

theorem l54_1 (q0 : t 0 = x) (q3 : t 3 = vN .i64 0) (q9 : t 9 = x) (q10 : t 10 = vN .i64 ps.length) (q11 : t 11 = vN .i64 0) (hv : ao H 1 x = some (ps.map fun p => [p])) (hm : manyB H ps bs) (hl : bs.flatten.length ≤ 1099511627776) (hpl : ps.length ≤ 1099511627776)
    (hQ : ∀ t', t' 0 = x → t' 3 = vN .i64 bs.flatten.length → Q (.exit 0) t' H) :
    wpC Try.prog (tab [(72, s72)]) Y [] 36 (aU Try.f54 0) true Q t H := by
  refine aO (fun m t' H' => ∃ i, m = ps.length - i ∧ i ≤ ps.length ∧ t' 0 = x ∧ t' 3 = vN .i64 (bs.take i).flatten.length ∧ t' 9 = x ∧ t' 10 = vN .i64 ps.length ∧ t' 11 = vN .i64 i ∧ H' = H) ps.length ⟨0, rfl, by omega, q0, q3, q9, q10, q11, rfl⟩ fun KL m t1 H' hI hKL => ?_
  obtain ⟨i, rfl, hi, q0, q3, q9, q10, q11, rfl⟩ := hI
  repeat (first
    | (refine aa rfl fun K hK => ?_; simp (disch := omega) only [WW, BB, ↓ab, simprocAttr, q10, q11]; refine hK _ _ ?_; clear hK) | (refine ae ?_; simp only [TH]; (((repeat ((fail_if_success refine hS _ _ ?_); clear hS)); refine hS _ _ ?_); clear hS; try clear hF)) | refine af fun K hS hF => ?_ | refine ac rfl ?_)
  refine aH rfl (fun hd => ?_) (fun hd => ?_)
  · (refine am ?_; simp only [TH]; ((repeat ((fail_if_success refine hS _ _ ?_); clear hS)); refine hS _ _ ?_); clear hS; try clear hF)
    obtain ⟨p, hp, hvp⟩ := manyB_get hm i hd
    obtain ⟨a, ha, hq⟩ := ci (k := .i64) ar115 sl115 hv (i := i) (y := p) (by rw [List.getElem?_map, hp]; rfl)
    have hly := av (P := Try.prog) sl64 hvp
    rw [az] at hly
    have hft := flat_take bs i (by rw [← manyB_len hm]; exact hd)
    have hfl := flat_take_le bs (i + 1)
    rw [hft, List.length_append] at hfl
    repeat (first
    | (refine aa rfl fun K hK => ?_; simp (disch := omega) only [WW, BB, ↓ab, simprocAttr, q3, q9, q11, ha, hq, ty64, hly, aP]; refine hK _ _ ?_; clear hK) | (refine ae ?_; simp only [TH]; (((repeat ((fail_if_success refine hS _ _ ?_); clear hS)); refine hS _ _ ?_); clear hS; try clear hF)) | refine af fun K hS hF => ?_ | refine ac rfl ?_)
    refine aH rfl (fun hd => ?_) (fun hd => ?_)
    · omega
    · (refine am ?_; simp only [TH]; ((repeat ((fail_if_success refine hS _ _ ?_); clear hS)); refine hS _ _ ?_); clear hS; try clear hF)
      repeat (first
    | (refine aa rfl fun K hK => ?_; simp (disch := omega) only [WW, BB, ↓ab, simprocAttr, q11, aP]; refine hK _ _ ?_; clear hK) | (refine ae ?_; simp only [TH]; first | (((repeat ((fail_if_success refine hS _ _ ?_); clear hS)); refine hS _ _ ?_); clear hS; try clear hF) | skip) | refine ac rfl ?_)
      refine hKL _ _ _ (by omega : ps.length - (i + 1) < ps.length - i) ⟨i + 1, rfl, by omega, ?_, ?_, ?_, ?_, ?_, rfl⟩
      · simp (disch := omega) only [WW, BB, ↓ab, simprocAttr, q0]
      · simp (disch := omega) only [WW, BB, ↓ab, simprocAttr, hft, List.length_append]
      · simp (disch := omega) only [WW, BB, ↓ab, simprocAttr, q9]
      · simp (disch := omega) only [WW, BB, ↓ab, simprocAttr, q10]
      · simp (disch := omega) only [WW, BB, ↓ab, simprocAttr]
  · refine aG ?_
    have : i = ps.length := by omega
    subst this
    refine hQ _ ?_ ?_
    · simp (disch := omega) only [WW, BB, ↓ab, simprocAttr, q0]
    · simp (disch := omega) only [WW, BB, ↓ab, simprocAttr, q3]
      rw [List.take_of_length_le (by rw [manyB_len hm]; omega)]

theorem l54_2 {b : Nat} (q6 : t 6 = .osl b 0 0 1 false) (q25 : t 25 = x) (q26 : t 26 = vN .i64 ps.length) (q27 : t 27 = vN .i64 0) (hb : H b = none) (hv : ao H 1 x = some (ps.map fun p => [p])) (hm : manyB H ps bs) (hl : bs.flatten.length ≤ 1099511627776) (hpl : ps.length ≤ 1099511627776)
    (hQ : ∀ t' e, H e = none → t' 6 = .osl e 0 bs.flatten.length 1 false → Q (.exit 2) t' (upd H e (some (.arr 1 (nE .u8 bs.flatten))))) :
    wpC Try.prog (tab [(72, s72)]) Y [] 36 (aU Try.f54 1) true Q t (upd H b (some (.arr 1 []))) := by
  refine aO (fun m t' H' => ∃ i e, m = ps.length - i ∧ i ≤ ps.length ∧ H e = none ∧ t' 6 = .osl e 0 (bs.take i).flatten.length 1 false ∧ t' 25 = x ∧ t' 26 = vN .i64 ps.length ∧ t' 27 = vN .i64 i ∧ H' = upd H e (some (.arr 1 (nE .u8 (bs.take i).flatten)))) ps.length ⟨0, b, rfl, by omega, hb, q6, q25, q26, q27, rfl⟩ fun KL m t1 H' hI hKL => ?_
  obtain ⟨i, e, rfl, hi, he, q6, q25, q26, q27, rfl⟩ := hI
  have hle1 : hle H (upd H e (some (.arr 1 (nE .u8 (bs.take i).flatten)))) := ai (aj _) he
  repeat (first
    | (refine aa rfl fun K hK => ?_; simp (disch := omega) only [WW, BB, ↓ab, simprocAttr, q26, q27]; refine hK _ _ ?_; clear hK) | (refine ae ?_; simp only [TH]; (((repeat ((fail_if_success refine hS _ _ ?_); clear hS)); refine hS _ _ ?_); clear hS; try clear hF)) | refine af fun K hS hF => ?_ | refine ac rfl ?_)
  refine aH rfl (fun hd => ?_) (fun hd => ?_)
  · (refine am ?_; simp only [TH]; ((repeat ((fail_if_success refine hS _ _ ?_); clear hS)); refine hS _ _ ?_); clear hS; try clear hF)
    obtain ⟨p, hp, hvp⟩ := manyB_get (manyB_le hle1 hm) i hd
    obtain ⟨a, ha, hq⟩ := ci (k := .i64) ar115 sl115 (aL hle1 hv) (i := i) (y := p) (by rw [List.getElem?_map, hp]; rfl)
    have hft := flat_take bs i (by rw [← manyB_len hm]; exact hd)
    have hfl := flat_take_le bs (i + 1)
    rw [hft, List.length_append] at hfl
    repeat (first
    | (refine aa rfl fun K hK => ?_; simp (disch := omega) only [WW, BB, ↓ab, simprocAttr, q6, q25, q27, ha, hq, ty64]; refine hK _ _ ?_; clear hK) | (refine ae ?_; simp only [TH]; (((repeat ((fail_if_success refine hS _ _ ?_); clear hS)); refine hS _ _ ?_); clear hS; try clear hF)) | refine af fun K hS hF => ?_ | refine ac rfl ?_)
    refine aa rfl fun K hK => ?_
    simp (disch := omega) only [WW, BB, ↓ab, simprocAttr]
    refine append_osl (x := p) (ag _ _ _) (az _ _).symm ds64 sl64 hvp (nE_ones _ _) (by rw [by64, az]; omega) (by rw [az]; omega) fun e' he' => hK _ _ ?_
    have he2 : H e' = none ∧ upd (upd (upd H e (some (.arr 1 (nE .u8 (bs.take i).flatten)))) e none) e' (some (.arr 1 (nE .u8 (bs.take (i + 1)).flatten))) = upd H e' (some (.arr 1 (nE .u8 (bs.take (i + 1)).flatten))) := by
      refine ⟨?_, ?_⟩
      · rcases he' with rfl | he'
        · exact he
        · exact (aF he').2
      · rw [aD]
        have h0 : upd H e none = H := by
          funext j
          by_cases hj : j = e
          · subst hj; rw [ag, he]
          · rw [ah _ _ _ hj]
        rw [h0]
    rw [nE_append, ← hft, he2.2]
    repeat (first
    | (refine aa rfl fun K hK => ?_; simp (disch := omega) only [WW, BB, ↓ab, simprocAttr, q27, aP]; refine hK _ _ ?_; clear hK) | (refine ae ?_; simp only [TH]; first | (((repeat ((fail_if_success refine hS _ _ ?_); clear hS)); refine hS _ _ ?_); clear hS; try clear hF) | skip) | refine ac rfl ?_)
    refine hKL _ _ _ (by omega : ps.length - (i + 1) < ps.length - i) ⟨i + 1, e', rfl, by omega, he2.1, ?_, ?_, ?_, ?_, rfl⟩
    · simp (disch := omega) only [WW, BB, ↓ab, simprocAttr, hft, List.length_append, az]
    · simp (disch := omega) only [WW, BB, ↓ab, simprocAttr, q25]
    · simp (disch := omega) only [WW, BB, ↓ab, simprocAttr, q26]
    · simp (disch := omega) only [WW, BB, ↓ab, simprocAttr]
  · refine aG ?_
    have : i = ps.length := by omega
    subst this
    rw [List.take_of_length_le (by rw [manyB_len hm]; omega)] at q6 ⊢
    exact hQ _ e he (by simp (disch := omega) only [WW, BB, ↓ab, simprocAttr, q6])
end

theorem snd54 : Sound Try.prog 54 s54 := by
  refine ak pm (ap [(72, s72)] (by simp [snd72])) [] Try.func54 rfl (by kernel_rfl) ?_
  rintro Y args H Q ⟨x, ps, bs, rfl, hv, hm, h0, h1, hpl, hQ⟩
  refine ⟨by simp [Try.f54], ?_⟩
  show wpC Try.prog (tab [(72, s72)]) Y [] 36 _ true (aB Try.prog [.tmp 2] Q) _ H
  have hly := av sl115 hv
  rw [List.length_map] at hly
  repeat (first
    | (refine aa rfl fun K hK => ?_; simp (disch := omega) only [WW, BB, ↓ab, simprocAttr, hly]; refine hK _ _ ?_; clear hK) | (refine ae ?_; simp only [TH]; (((repeat ((fail_if_success refine hS _ _ ?_); clear hS)); refine hS _ _ ?_); clear hS; try clear hF)) | refine af fun K hS hF => ?_ | refine ac rfl ?_ | refine ax ?_)
  refine l54_1 (x := x) (ps := ps) (bs := bs) ?_ ?_ ?_ ?_ ?_ hv hm h1 hpl fun t1 e0 e3 => ?_
  · simp (disch := omega) only [WW, BB, ↓ab, simprocAttr]
  · simp (disch := omega) only [WW, BB, ↓ab, simprocAttr]
  · simp (disch := omega) only [WW, BB, ↓ab, simprocAttr]
  · simp (disch := omega) only [WW, BB, ↓ab, simprocAttr]
  · simp (disch := omega) only [WW, BB, ↓ab, simprocAttr]
  (simp only [TH, ↓reduceIte, Nat.reduceEqDiff]; ((repeat ((fail_if_success refine hS _ _ ?_); clear hS)); refine hS _ _ ?_); clear hS; try clear hF)
  repeat (first
    | (refine aa rfl fun K hK => ?_; simp (disch := omega) only [WW, BB, ↓ab, simprocAttr, e0, e3]; refine hK _ _ ?_; clear hK) | refine af fun K hS hF => ?_ | refine ac rfl ?_)
  refine aa rfl fun K hK => ⟨_, ?_, h0, h1, fun b hb => hK _ _ ?_⟩
  · simp (disch := omega) only [WW, BB, ↓ab, simprocAttr]
  repeat (first
    | (refine aa rfl fun K hK => ?_; simp (disch := omega) only [WW, BB, ↓ab, simprocAttr, e0, hly]; refine hK _ _ ?_; clear hK) | (refine ae ?_; simp only [TH]; (((repeat ((fail_if_success refine hS _ _ ?_); clear hS)); refine hS _ _ ?_); clear hS; try clear hF)) | refine af fun K hS hF => ?_ | refine ac rfl ?_ | refine ax ?_)
  refine l54_2 (b := b) (x := x) (ps := ps) (bs := bs) ?_ ?_ ?_ ?_ hb hv hm h1 hpl fun t2 e he f6 => ?_
  · simp (disch := omega) only [WW, BB, ↓ab, simprocAttr]
  · simp (disch := omega) only [WW, BB, ↓ab, simprocAttr, e0]
  · simp (disch := omega) only [WW, BB, ↓ab, simprocAttr]
  · simp (disch := omega) only [WW, BB, ↓ab, simprocAttr]
  (simp only [TH, ↓reduceIte, Nat.reduceEqDiff]; ((repeat ((fail_if_success refine hS _ _ ?_); clear hS)); refine hS _ _ ?_); clear hS; try clear hF)
  repeat (first
    | (refine aa rfl fun K hK => ?_; simp (disch := omega) only [WW, BB, ↓ab, simprocAttr, f6]; refine hK _ _ ?_; clear hK) | (refine ae ?_; simp only [TH]; (((repeat ((fail_if_success refine hS _ _ ?_); clear hS)); refine hS _ _ ?_); clear hS; try clear hF)) | refine af fun K hS hF => ?_ | refine ac rfl ?_ | (refine al ?_; simp (disch := omega) only [TH, TE, WW, BB, ↓ab, simprocAttr, f6]))
  exact ⟨_, rfl, [e], freeze_end he hQ⟩
end Go.Av

set_option linter.unusedSimpArgs false
set_option linter.unusedVariables false
namespace Go.Av
open Go.RowKit Go.Proofs

theorem ty84 : tyT Try.prog 84 = some (true, 64) := by kernel_rfl
theorem ar84 : arrT Try.prog 84 = some (2, 32) := by kernel_rfl

theorem ix_arr {P : Program} {b o n esz i : Nat} {k : IntKind} {t : TypeId} (ha : arrT P t = some (n, esz)) (hi : i < n) : bw P t (.ptr b o) (vN k i) = some (.ptr b (o + i * esz)) := by
  simp only [bw, ha, idxOf_N _ hi, Option.bind_some, bp]

theorem chunks_pre (k : IntKind) : ∀ (n : Nat) (l : List Nat), n ≤ l.length → bG 1 n (nR k l) = nE k (l.take n)
  | 0, l, _ => by simp [bG, nE]
  | n + 1, [], h => by simp at h
  | n + 1, x :: l, h => by
    have := chunks_pre k n l (by simpa using h)
    simp only [nR, nE] at this
    simp only [nR, nE, List.map_cons, bG, List.take_succ_cons, List.take_zero, List.drop_succ_cons, List.drop_zero, this]
theorem view_rslO {H : Hp} {d o n : Nat} {k : IntKind} {l : List Nat} (h : H d = some (.row (nR k l))) (hn : o + n ≤ l.length) : ao H 1 (.rsl d o n 1) = some (nE k ((l.drop o).take n)) := by
  simp only [ao, h]
  rw [if_pos ⟨trivial, by rw [ar]; omega⟩, nR_drop, chunks_pre _ _ _ (by rw [List.length_drop]; omega)]
theorem sa25o (d o : Nat) : bf Try.prog 25 (.ptr d o) none none none = some (.rsl d o 32 1) := by
  simp [bf, ar25, sliceArr, bnd]

def s14 : Spec := fun _ args H Q => ∃ a b, args = [.agg (nR .u8 a), .agg (nR .u8 b)] ∧ a.length = 32 ∧ b.length = 32 ∧ Q (.agg (nR .u8 (aR (a ++ b)))) H

theorem snd14 : Sound Try.prog 14 s14 := by
  refine ak pm (ap [(36, s36)] (by simp [snd36])) [] Try.func14 rfl (by kernel_rfl) ?_
  rintro Y args H Q ⟨a, b, rfl, ha, hb, hQ⟩
  refine ⟨by simp [Try.f14], ?_⟩
  show wpC Try.prog (tab [(36, s36)]) Y [] 11 _ true (aB Try.prog [.cell 4 25] Q) _ H
  repeat (first
    | refine af fun K hS hF => ?_ | refine ac rfl ?_)
  refine aa rfl fun K hK => ⟨nR .u8 a, rfl, fun c hc => hK _ _ ?_⟩
  refine aa rfl fun K hK => ⟨nR .u8 b, rfl, fun d hd => hK _ _ ?_⟩
  refine aa rfl fun K hK => ⟨_, z25, fun r hr => hK _ _ ?_⟩
  have hd' := aF hd
  have hr' := aF hr
  have hr'' := aF hr'.2
  refine ae ?_
  (simp only [TH, ↓reduceIte, Nat.reduceEqDiff]; ((repeat ((fail_if_success refine hS _ _ ?_); clear hS)); refine hS _ _ ?_); clear hS; try clear hF)
  refine wpC_cut (F := fun t' => t' 2 = .ptr c 0 ∧ t' 3 = .ptr d 0 ∧ t' 4 = .ptr r 0) ⟨?_, ?_, ?_⟩ ?_
  · simp (disch := omega) only [WW, BB, ↓ab, simprocAttr]
  · simp (disch := omega) only [WW, BB, ↓ab, simprocAttr]
  · simp (disch := omega) only [WW, BB, ↓ab, simprocAttr]
  rintro t1 ⟨q2, q3, q4⟩
  generalize hHc : upd (upd (upd H c (some (.row (nR .u8 a)))) d (some (.row (nR .u8 b)))) r (some (.row (List.replicate 32 (vN .u8 0)))) = Hc
  have xc : Hc c = some (.row (nR .u8 a)) := by rw [← hHc, ah _ _ _ (Ne.symm hr''.1.symm), ah _ _ _ (Ne.symm hd'.1.symm), ag]
  have xd : Hc d = some (.row (nR .u8 b)) := by rw [← hHc, ah _ _ _ (Ne.symm hr'.1.symm), ag]
  have xr : Hc r = some (.row (List.replicate 32 (vN .u8 0))) := by rw [← hHc, ag]
  have hle1 : hle H Hc := by rw [← hHc]; exact ai (ai (ai (aj _) hc) hd'.2) hr''.2
  refine bZ fun K hS => ?_
  refine ck 4 [0, 1, 3] (fun i => decide (i = 2)) (fun H' => hle Hc H') (by kernel_rfl) (aj _) fun L B hBd hL => ?_
  refine ay rfl rfl rfl ⟨.sl 1 [] true, fun H' hC => bs64 ⟨rfl, rfl⟩, ?_⟩
  refine ay rfl rfl rfl ⟨.rsl c 0 32 1, fun H' hC => ?_, ?_⟩
  · simp (disch := omega) only [WW, BB, ↓ab, simprocAttr, q2, sa25o]
    exact ⟨trivial, trivial⟩
  refine ay rfl rfl rfl ⟨.rsl d 0 32 1, fun H' hC => ?_, ?_⟩
  · simp (disch := omega) only [WW, BB, ↓ab, simprocAttr, q3, sa25o]
    exact ⟨trivial, trivial⟩
  refine cj (aV [2] (by kernel_rfl) (by simp) fun i hi => ?_)
  have hi' : i = 2 := by simpa using hi
  subst hi'
  refine ⟨by omega, bS rfl rfl rfl ⟨fun x H' => ∃ e, Hc e = none ∧ x = .osl e 0 32 1 false ∧ H' = upd Hc e (some (.arr 1 (nE .u8 a))), ?_, ?_⟩⟩
  · simp (disch := omega) only [WW, BB, ↓ab, simprocAttr]
    have hv : ao Hc 1 (.rsl c 0 32 1) = some (nE .u8 a) := view_rsl xc ha
    refine append_new (x := .rsl c 0 32 1) (.inr rfl) ds64 sl64 hv (nE_ones _ _) (by rw [by64, az]; omega) (by rw [az]; omega) (fun hn => ?_) (fun hn e he => ⟨e, he, by rw [az, ha], rfl⟩)
    have := congrArg List.length hn
    rw [az, ha] at this
    cases this
  rintro x H' ⟨e, he, rfl, rfl⟩
  have hce : c ≠ e := aA xc he
  have hde : d ≠ e := aA xd he
  have hre : r ≠ e := aA xr he
  refine ⟨ai (aj _) he, bN (hL _ _ _ (by rw [hBd]; kernel_rfl) ?_)⟩
  refine aa rfl fun K hK => ?_
  simp (disch := omega) only [WW, BB, ↓ab, simprocAttr]
  refine append_osl (x := .rsl d 0 32 1) (ag _ _ _) (by rw [az, ha]) ds64 sl64 (view_rsl (l := b) (k := .u8) (by rw [ah _ _ _ hde]; exact xd) hb) (nE_ones _ _) (by rw [by64, az]; omega) (by rw [az]; omega) fun e' he' => hK _ _ ?_
  have he2 : Hc e' = none := by
    rcases he' with rfl | he'
    · exact he
    · exact (aF he').2
  have h0 : upd Hc e none = Hc := by
    funext j
    by_cases hj : j = e
    · subst hj; rw [ag, he]
    · rw [ah _ _ _ hj]
  rw [aD, h0, nE_append, az, hb]
  have hv2 : ao (upd Hc e' (some (.arr 1 (nE .u8 (a ++ b))))) 1 (.osl e' 0 64 1 false) = some (nE .u8 (a ++ b)) := by
    have := view_osl (H := Hc) (d := e') (sz := 1) (full := false) (es := nE .u8 (a ++ b))
    rw [az, List.length_append, ha, hb] at this
    exact this
  refine aa rfl fun K hK => ⟨.osl e' 0 64 1 false, a ++ b, rfl, hv2, by rw [List.length_append, ha, hb]; omega, hK _ _ ?_⟩
  refine aa rfl fun K hK => ?_
  simp (disch := omega) only [WW, BB, ↓ab, simprocAttr, q4]
  refine ⟨_, au (b := r) (by rw [ah _ _ _ (aA xr he2)]; exact xr) bb (by rw [ar, bt]) (bk _ _) rfl, hK _ _ ?_⟩
  refine ae ?_
  (simp only [TH, ↓reduceIte, Nat.reduceEqDiff]; ((repeat ((fail_if_success refine hS _ _ ?_); clear hS)); refine hS _ _ ?_); clear hS; try clear hF)
  repeat (refine al ?_; simp (disch := omega) only [TH, TE, WW, BB, ↓ab, simprocAttr])
  refine ⟨_, res_cell (r := r) ?_ (ag _ _ _) bb (by rw [ar, bt]), [], H, ?_, hQ⟩
  · simp (disch := omega) only [WW, BB, ↓ab, simprocAttr, q4]
  · have hHe : H e' = none := by
      cases hh : H e' with
      | none => rfl
      | some y => rw [hle1 _ _ hh] at he2; cases he2
    exact ai (ai hle1 hHe) hr''.2

def s39 : Spec := fun _ args H Q => ∃ a b, args = [.agg (nR .u8 (a ++ b))] ∧ a.length = 32 ∧ b.length = 32 ∧ Q (.agg (nR .u8 (aR (a ++ b)))) H

theorem snd39 : Sound Try.prog 39 s39 := by
  refine ak pm (ap [(36, s36), (54, s54)] (by simp [snd36, snd54])) [] Try.func39 rfl (by kernel_rfl) ?_
  rintro Y args H Q ⟨a, b, rfl, ha, hb, hQ⟩
  refine ⟨by simp [Try.f39], ?_⟩
  show wpC Try.prog (tab [(36, s36), (54, s54)]) Y [] 10 _ true (aB Try.prog [.cell 2 25] Q) _ H
  repeat (first
    | refine af fun K hS hF => ?_ | refine ac rfl ?_)
  refine aa rfl fun K hK => ⟨nR .u8 (a ++ b), rfl, fun c hc => hK _ _ ?_⟩
  refine aa rfl fun K hK => ⟨_, z25, fun r hr => hK _ _ ?_⟩
  have hr' := aF hr
  refine ae ?_
  (simp only [TH, ↓reduceIte, Nat.reduceEqDiff]; ((repeat ((fail_if_success refine hS _ _ ?_); clear hS)); refine hS _ _ ?_); clear hS; try clear hF)
  refine bZ fun K hS => ?_
  refine bJ 7 (by kernel_rfl) rfl rfl ?_
  have hl : (a ++ b).length = 64 := by rw [List.length_append, ha, hb]
  have xc : upd (upd H c (some (.row (nR .u8 (a ++ b))))) r (some (.row (List.replicate 32 (vN .u8 0)))) c = some (.row (nR .u8 (a ++ b))) := by rw [ah _ _ _ hr'.1, ag]
  have v0 := view_rslO (o := 0) (n := 32) xc (by rw [hl]; omega)
  have v1 := view_rslO (o := 32) (n := 32) xc (by rw [hl]; omega)
  rw [List.drop_zero, List.take_append_of_le_length (by omega), List.take_of_length_le (by omega)] at v0
  rw [List.drop_append_of_le_length (by omega), List.drop_of_length_le (by omega), List.nil_append, List.take_of_length_le (by omega)] at v1
  have hfl : [a, b].flatten = a ++ b := by simp
  repeat (refine aQ rfl fun K hK => ?_; simp (disch := omega) only [WW, BB, ↓ab, simprocAttr, ix_arr ar84, sa25o]; refine ⟨_, ⟨rfl, by first | rfl | trivial⟩, hK _ ?_⟩; clear hK)
  refine aQ rfl fun K hK => ⟨.sl 1 [[.rsl c 0 32 1], [.rsl c 32 32 1]] true, ⟨1, [[.nils], [.nils]], _, by kernel_rfl, by omega, rfl, rfl, rfl⟩, hK _ ?_⟩
  refine aQ rfl fun K hK => ⟨.sl 1 (nE .u8 (a ++ b)) false, ⟨.sl 1 [[.rsl c 0 32 1], [.rsl c 32 32 1]] true, [.rsl c 0 32 1, .rsl c 32 32 1], [a, b], rfl, rfl, ⟨v0, v1, trivial⟩, by rw [hfl, hl]; omega, by rw [hfl, hl]; omega, by simp, by rw [hfl]; exact ⟨rfl, rfl⟩⟩, hK _ ?_⟩
  refine aQ rfl fun K hK => ⟨.agg (nR .u8 (aR (a ++ b))), ⟨.sl 1 (nE .u8 (a ++ b)) false, a ++ b, rfl, by simp [ao], by rw [hl]; omega, rfl, rfl⟩, hK _ ?_⟩
  refine bx ?_
  refine aa rfl fun K hK => ?_
  simp (disch := omega) only [WW, BB, ↓ab, simprocAttr]
  refine ⟨_, au (b := r) (ag _ _ _) bb (by rw [ar, bt]) (bk _ _) rfl, hK _ _ ?_⟩
  refine ae ?_
  (simp only [TH, ↓reduceIte, Nat.reduceEqDiff]; ((repeat ((fail_if_success refine hS _ _ ?_); clear hS)); refine hS _ _ ?_); clear hS; try clear hF)
  repeat (refine al ?_; simp (disch := omega) only [TH, TE, WW, BB, ↓ab, simprocAttr])
  refine ⟨_, res_cell (r := r) rfl (ag _ _ _) bb (by rw [ar, bt]), [], H, ?_, hQ⟩
  exact ai (ai (ai (aj _) hc) hr'.2) hr'.2
end Go.Av

set_option linter.unusedSimpArgs false
set_option linter.unusedVariables false
namespace Go.Av
open Go.RowKit Go.Proofs

def hE (hs : List (List Nat)) : List (List V) := hs.map (nR .u8)
theorem hE_len (hs : List (List Nat)) : (hE hs).length = hs.length := by simp [hE]
theorem hE_take (hs : List (List Nat)) (n : Nat) : (hE hs).take n = hE (hs.take n) := by simp [hE, List.map_take]
theorem hE_drop (hs : List (List Nat)) (n : Nat) : (hE hs).drop n = hE (hs.drop n) := by simp [hE, List.map_drop]
theorem hE_append (a b : List (List Nat)) : hE a ++ hE b = hE (a ++ b) := by simp [hE]
theorem hE_get (hs : List (List Nat)) (i : Nat) (h : i < hs.length) : (hE hs)[i]? = some (nR .u8 (hs.getD i [])) := by
  simp [hE, List.getElem?_eq_getElem h]
theorem hE_ones (hs : List (List Nat)) : bo (hE hs) = true := by
  simp [bo, hE, nR, one, vN]
def all32 (hs : List (List Nat)) : Prop := ∀ h ∈ hs, h.length = 32
theorem all32_get {hs : List (List Nat)} (h : all32 hs) {i : Nat} (hi : i < hs.length) : (hs.getD i []).length = 32 := by
  rw [List.getD_eq_getElem?_getD, List.getElem?_eq_getElem hi]
  exact h _ (List.getElem_mem hi)

theorem sl22 : sliT Try.prog 22 = some 32 := by kernel_rfl
theorem ar22 : arrT Try.prog 22 = none := by kernel_rfl
theorem ty22 : tyT Try.prog 22 = some (false, 1) := by kernel_rfl
theorem ty3 : tyT Try.prog 3 = some (false, 1) := by kernel_rfl
theorem ty81 : tyT Try.prog 81 = some (false, 1) := by kernel_rfl
theorem sl81 : sliT Try.prog 81 = some 64 := by kernel_rfl
theorem ar81 : arrT Try.prog 81 = none := by kernel_rfl
theorem ds81 : dstT Try.prog 81 = some 64 := by kernel_rfl
theorem by81 : bT Try.prog 81 = 64 := by kernel_rfl
theorem z81 : zeroT Try.prog 81 = some [.nils] := by kernel_rfl
theorem ds22 : dstT Try.prog 22 = some 32 := by kernel_rfl
theorem by22 : bT Try.prog 22 = 32 := by kernel_rfl

def notR : V → Bool
  | .rsl .. => false
  | _ => true

/-- A piece of a slice, its capacity cut. -/
theorem slice_view3 {P : Program} {H : Hp} {sz : Nat} {x : V} {es : List (List V)} {t : TypeId} (ha : arrT P t = none) (ht : sliT P t = some sz) (hv : ao H sz x = some es) (hx : notR x = true) {kl kh km : IntKind} {l h m : Nat} (h1 : l ≤ h) (h2 : h ≤ m) (h3 : m ≤ es.length) :
    ∃ y, bf P t x (some (vN kl l)) (some (vN kh h)) (some (vN km m)) = some y ∧ ao H sz y = some ((es.take h).drop l) ∧ notR y = true := by
  have e : bf P t x (some (vN kl l)) (some (vN kh h)) (some (vN km m)) = bD sz x (some (vN kl l)) (some (vN kh h)) (some (vN km m)) := by
    unfold bf
    simp [ha, ht]
  rw [e]
  unfold ao at hv
  split at hv
  · cases hv
    simp only [List.length_nil] at h3
    have : m = 0 := by omega
    subst this
    have : h = 0 := by omega
    subst this
    have : l = 0 := by omega
    subst this
    exact ⟨.nils, by simp only [bD, bnd_N 0 (Nat.le_refl 0), Option.bind_some], by simp [ao], rfl⟩
  · rename_i sz' es' full
    split at hv
    · rename_i hs
      cases hv
      subst hs
      refine ⟨_, by simp only [bD, if_true, bnd_N m h3, bnd_N h h2, bnd_N l h1, Option.bind_some]; rfl, by simp [ao], rfl⟩
    · cases hv
  · rename_i b i n sz' full
    split at hv
    · rename_i sz'' es' hb
      split at hv
      · rename_i hc
        obtain ⟨rfl, rfl, hle⟩ := hc
        cases hv
        have hlen : ((es'.drop i).take n).length = n := by simp; omega
        rw [hlen] at h3
        refine ⟨_, by simp only [bD, if_true, bnd_N m h3, bnd_N h h2, bnd_N l h1, Option.bind_some]; rfl, ?_, ?_⟩
        · split
          · rename_i hc
            simp only [ao, hb]
            rw [if_pos ⟨trivial, trivial, by omega⟩]
            congr 1
            rw [List.take_take, Nat.min_eq_left (by omega), List.drop_take, List.drop_drop]
          · rename_i hc
            have : l = h := by omega
            subst this
            simp only [ao, if_true]
            congr 1
            rw [List.drop_eq_nil_of_le]
            simp
            omega
        · split <;> rfl
      · cases hv
    · cases hv
  · cases hx
  · cases hv

/-- Elements of many cells. -/
theorem bc {P : Program} {H : Hp} {sz : Nat} {x : V} {es : List (List V)} {t : TypeId} (ha : arrT P t = none) (ht : sliT P t = some sz) (hv : ao H sz x = some es) {k : IntKind} {i : Nat} {e : List V} (he : es[i]? = some e) (hsz : e.length = sz) :
    ∃ p, bw P t x (vN k i) = some p ∧ ((aK H p).bind fun x => ldc (some (true, sz)) x.1 x.2) = some (.agg e) := by
  obtain ⟨p, h1, c, o, h2, h3, h4⟩ := elem_view (k := k) ha ht hv he hsz
  refine ⟨p, h1, ?_⟩
  rw [h2]
  simp only [Option.bind_some, ldc]
  rw [if_pos h3, h4]

/-- An iterator over slices that are told one by one. -/
def seqS (Y : aC) (l sz : Nat) (G : Hp) (Qe : Hp → Prop) : List (List (List V)) → Hp → Prop
  | [], H => hle G H ∧ Qe H
  | es :: rest, H => hle G H ∧ ∀ part, ao G sz part = some es → notR part = true → ∃ Q₁ : V → Hp → Prop, Y l [part] H Q₁ ∧ ∀ r H', Q₁ r H' → (r = .bool false ∧ Qe H') ∨ (r = .bool true ∧ seqS Y l sz G Qe rest H')
theorem seqS_le {Y : aC} {l sz : Nat} {G : Hp} {Qe : Hp → Prop} {es : List (List (List V))} {H : Hp} (h : seqS Y l sz G Qe es H) : hle G H := by
  cases es <;> exact h.1

def chk2 {α : Type} : List α → List (List α)
  | [] => []
  | [a] => [[a]]
  | a :: b :: r => [a, b] :: chk2 r
theorem chk2_cons {α : Type} (l : List α) (h : l ≠ []) : chk2 l = l.take 2 :: chk2 (l.drop 2) := by
  match l, h with
  | [a], _ => rfl
  | a :: b :: r, _ => rfl

def s51 : Spec := fun _ args H Q => ∃ x, args = [x, vN .i64 2] ∧ aW x = some [x] ∧ ∀ b c, H b = none → upd H b (some (.row [x])) c = none → Q (.fn (.func 70) [] [.ptr b 0, .ptr c 0]) (upd (upd H b (some (.row [x]))) c (some (.row [vN .i64 2])))

theorem snd51 : Sound Try.prog 51 s51 := by
  refine ak pm (ap [] (by simp)) [] Try.func51 rfl (by kernel_rfl) ?_
  rintro Y args H Q ⟨x, rfl, hcx, hQ⟩
  refine ⟨by simp [Try.f51], ?_⟩
  show wpC Try.prog (tab []) Y [] 9 _ true (aB Try.prog [.tmp 4] Q) _ H
  repeat (first
    | refine af fun K hS hF => ?_ | refine ac rfl ?_)
  refine aa rfl fun K hK => ⟨[x], hcx, fun b hb => hK _ _ ?_⟩
  refine aa rfl fun K hK => ⟨[vN .i64 2], rfl, fun c hc => hK _ _ ?_⟩
  have hld := aw (P := Try.prog) (t := 3) (off := 0) (ag (upd H b (some (.row [x]))) c (some (.row [vN .i64 2]))) ty3 rfl
  repeat (first
    | (refine aa rfl fun K hK => ?_; simp (disch := omega) only [WW, BB, ↓ab, simprocAttr, hld]; refine hK _ _ ?_; clear hK) | (refine ae ?_; simp only [TH]; (((repeat ((fail_if_success refine hS _ _ ?_); clear hS)); refine hS _ _ ?_); clear hS; try clear hF)) | refine af fun K hS hF => ?_ | refine ac rfl ?_)
  refine aE rfl ?_
  (refine am ?_; simp only [TH]; ((repeat ((fail_if_success refine hS _ _ ?_); clear hS)); refine hS _ _ ?_); clear hS; try clear hF)
  repeat (first
    | (refine aa rfl fun K hK => ?_; simp (disch := omega) only [WW, BB, ↓ab, simprocAttr]; refine hK _ _ ?_; clear hK) | (refine ae ?_; simp only [TH]; (((repeat ((fail_if_success refine hS _ _ ?_); clear hS)); refine hS _ _ ?_); clear hS; try clear hF)) | refine af fun K hS hF => ?_ | refine ac rfl ?_ | (refine al ?_; simp (disch := omega) only [TH, TE, WW, BB, ↓ab, simprocAttr]))
  exact ⟨_, rfl, [], _, aj _, hQ b c hb hc⟩

theorem minV {a b : Nat} : foldV min2V (vN .i64 a) [vN .i64 b] = some (vN .i64 (min a b)) := by
  simp only [foldV, vN, min2V, Option.bind_some]
  congr 2
  split <;> omega

def s70 : Spec := fun Y args H Q => ∃ l b c x es G, args = [.fn (.yield l) [] [], .ptr b 0, .ptr c 0] ∧ G b = some (.row [x]) ∧ G c = some (.row [vN .i64 2]) ∧ ao G 32 x = some es ∧ notR x = true ∧ es.length ≤ 1073741824 ∧ seqS Y l 32 G (fun H' => Q (.tup []) H') (chk2 es) H

theorem snd70 : Sound Try.prog 70 s70 := by
  refine ak pm (ap [] (by simp)) [] Try.func70 rfl (by kernel_rfl) ?_
  rintro Y args H Q ⟨l, b, c, x, es, G, rfl, gb, gc, hv, hx, hl, hS⟩
  refine ⟨by simp [Try.f70], ?_⟩
  show wpC Try.prog (tab []) Y [] 31 _ true (aB Try.prog [] Q) _ H
  repeat (first
    | (refine aa rfl fun K hK => ?_; simp (disch := omega) only [WW, BB, ↓ab, simprocAttr]; refine hK _ _ ?_; clear hK) | (refine ae ?_; simp only [TH]; (((repeat ((fail_if_success refine hS _ _ ?_); clear hS)); refine hS _ _ ?_); clear hS; try clear hF)) | refine af fun K hS hF => ?_ | refine ac rfl ?_ | refine ax ?_)
  refine aO (fun m t H' => ∃ i, m = es.length + 1 - i ∧ i ≤ es.length + 1 ∧ t 0 = .fn (.yield l) [] [] ∧ t 1 = .ptr b 0 ∧ t 2 = .ptr c 0 ∧ t 4 = vN .i64 i ∧ seqS Y l 32 G (fun H' => Q (.tup []) H') (chk2 (es.drop i)) H') (es.length + 1) ⟨0, rfl, by omega, rfl, rfl, rfl, rfl, hS⟩ fun KL m t H' hI hKL => ?_
  clear hS
  obtain ⟨i, rfl, hi, q0, q1, q2, q4, hI⟩ := hI
  have hle := seqS_le hI
  have hly := av (P := Try.prog) sl22 hv
  repeat (first
    | (refine aa rfl fun K hK => ?_; simp (disch := omega) only [WW, BB, ↓ab, simprocAttr, q1, q4, aw (off := 0) (hle _ _ gb) ty22 rfl, hly]; refine hK _ _ ?_; clear hK) | (refine ae ?_; simp only [TH]; (((repeat ((fail_if_success refine hS _ _ ?_); clear hS)); refine hS _ _ ?_); clear hS; try clear hF)) | refine af fun K hS hF => ?_ | refine ac rfl ?_)
  refine aH rfl (fun hd => ?_) (fun hd => ?_)
  · (refine am ?_; simp only [TH]; ((repeat ((fail_if_success refine hS _ _ ?_); clear hS)); refine hS _ _ ?_); clear hS; try clear hF)
    repeat refine af fun K hS hF => ?_
    obtain ⟨y, hy, hvy⟩ := slice_view (P := Try.prog) (lo := some (vN .i64 i)) (hi := none) ar22 sl22 hv (bnd_none _ _) (bnd_N i (by omega)) (by omega) (Nat.le_refl _)
    rw [List.take_of_length_le (Nat.le_refl _)] at hvy
    have hlz := av (P := Try.prog) sl22 hvy
    rw [List.length_drop] at hlz
    refine bJ 5 (by kernel_rfl) rfl rfl ?_
    repeat (first
    | ((first | refine aa rfl fun K hK => ?_ | refine aQ rfl fun K hK => ?_); simp (disch := omega) only [WW, BB, ↓ab, simprocAttr, q1, q2, q4, aw (off := 0) (hle _ _ gb) ty22 rfl, aw (off := 0) (hle _ _ gc) ty3 rfl, hy, hlz, minV]; (first | refine hK _ _ ?_ | refine ⟨_, ⟨rfl, by first | rfl | trivial⟩, hK _ ?_⟩); clear hK) | refine bx ?_ | (refine ae ?_; simp only [TH]; (((repeat ((fail_if_success refine hS _ _ ?_); clear hS)); refine hS _ _ ?_); clear hS; try clear hF)) | refine af fun K hS hF => ?_ | refine ac rfl ?_)
    obtain ⟨z, hz, hvz, hrz⟩ := slice_view3 (P := Try.prog) (kl := .i64) (kh := .i64) (km := .i64) (l := i) (h := i + min 2 (es.length - i)) (m := i + min 2 (es.length - i)) ar22 sl22 hv hx (by omega) (Nat.le_refl _) (by omega)
    have hne : es.drop i ≠ [] := fun e => by
      have := congrArg List.length e
      rw [List.length_drop, List.length_nil] at this
      omega
    rw [chk2_cons _ hne] at hI
    have hpart : (es.take (i + min 2 (es.length - i))).drop i = (es.drop i).take 2 := by
      rw [List.drop_take, Nat.add_sub_cancel_left]
      by_cases h2 : 2 ≤ es.length - i
      · rw [Nat.min_eq_left h2]
      · rw [Nat.min_eq_right (by omega), List.take_of_length_le (by rw [List.length_drop]; omega), List.take_of_length_le (by rw [List.length_drop]; omega)]
    rw [hpart] at hvz
    obtain ⟨Q₁, hY, hQ₁⟩ := hI.2 z hvz hrz
    repeat (refine aa rfl fun K hK => ?_; simp (disch := omega) only [WW, BB, ↓ab, simprocAttr, q0, q1, q4, aw (off := 0) (hle _ _ gb) ty22 rfl, aP, hz]; refine hK _ _ ?_; clear hK)
    refine aa rfl fun K hK => ?_
    simp (disch := omega) only [WW, BB, ↓ab, simprocAttr, q0]
    refine ⟨Q₁, hY, fun r H'' hq => hK _ _ ?_⟩
    rcases hQ₁ r H'' hq with ⟨rfl, hQe⟩ | ⟨rfl, hnext⟩
    · repeat (first
    | (refine aa rfl fun K hK => ?_; simp (disch := omega) only [WW, BB, ↓ab, simprocAttr]; refine hK _ _ ?_; clear hK) | (refine ae ?_; simp only [TH]; (((repeat ((fail_if_success refine hS _ _ ?_); clear hS)); refine hS _ _ ?_); clear hS; try clear hF)))
      refine aS rfl ?_
      repeat (refine al ?_; simp (disch := omega) only [TH, TE, WW, BB, ↓ab, simprocAttr])
      exact ⟨_, rfl, [], _, aj _, hQe⟩
    · repeat (first
    | (refine aa rfl fun K hK => ?_; simp (disch := omega) only [WW, BB, ↓ab, simprocAttr]; refine hK _ _ ?_; clear hK) | (refine ae ?_; simp only [TH]; (((repeat ((fail_if_success refine hS _ _ ?_); clear hS)); refine hS _ _ ?_); clear hS; try clear hF)))
      refine aE rfl ?_
      (refine am ?_; simp only [TH]; ((repeat ((fail_if_success refine hS _ _ ?_); clear hS)); refine hS _ _ ?_); clear hS; try clear hF)
      have hle2 := seqS_le hnext
      repeat (first
    | (refine aa rfl fun K hK => ?_; simp (disch := omega) only [WW, BB, ↓ab, simprocAttr, q2, q4, aw (off := 0) (hle2 _ _ gc) ty3 rfl, aP]; refine hK _ _ ?_; clear hK) | (refine ae ?_; simp only [TH]; first | (((repeat ((fail_if_success refine hS _ _ ?_); clear hS)); refine hS _ _ ?_); clear hS; try clear hF) | skip) | refine ac rfl ?_)
      refine hKL _ _ _ (by omega : es.length + 1 - (i + 2) < es.length + 1 - i) ⟨i + 2, rfl, by omega, ?_, ?_, ?_, ?_, ?_⟩
      · simp (disch := omega) only [WW, BB, ↓ab, simprocAttr, q0]
      · simp (disch := omega) only [WW, BB, ↓ab, simprocAttr, q1]
      · simp (disch := omega) only [WW, BB, ↓ab, simprocAttr, q2]
      · simp (disch := omega) only [WW, BB, ↓ab, simprocAttr]
      · rw [List.drop_drop] at hnext
        exact hnext
  · refine aG ?_
    simp only [bC, bi, ↓reduceIte]
    have hn : es.drop i = [] := List.drop_eq_nil_of_le (by omega)
    rw [hn] at hI
    exact ⟨_, rfl, [], _, aj _, hI.2⟩
end Go.Av

set_option linter.unusedSimpArgs false
set_option linter.unusedVariables false
namespace Go.Av
open Go.RowKit Go.Proofs

def aN {α : Type} : List α → List (α × α)
  | [] => []
  | [a] => [(a, a)]
  | a :: b :: r => (a, b) :: aN r
theorem pairsOf_len {α : Type} : ∀ l : List α, (aN l).length = (l.length + 1) / 2
  | [] => by simp [aN]
  | [_] => by simp [aN]
  | _ :: _ :: r => by
    simp only [aN, List.length_cons, pairsOf_len r]
    omega
def pE (ps : List (List Nat × List Nat)) : List (List V) := ps.map fun p => nR .u8 (p.1 ++ p.2)
theorem pE_len (ps : List (List Nat × List Nat)) : (pE ps).length = ps.length := by simp [pE]
theorem pE_append (a b : List (List Nat × List Nat)) : pE a ++ pE b = pE (a ++ b) := by simp [pE]
theorem pE_ones (ps : List (List Nat × List Nat)) : bo (pE ps) = true := by
  simp [bo, pE, nR, one, vN]

theorem bu84 {a b : List Nat} (ha : a.length = 32) (hb : b.length = 32) : bH Try.prog 84 [(0, .agg (nR .u8 a)), (1, .agg (nR .u8 b))] = some (.agg (nR .u8 (a ++ b))) := by
  have h1 : buildOk Try.prog 84 = true := by kernel_rfl
  have h2 : zeroT Try.prog 84 = some (List.replicate 64 (vN .u8 0)) := by kernel_rfl
  have h3 : placeT Try.prog 84 0 = some (0, 32) := by kernel_rfl
  have h4 : placeT Try.prog 84 1 = some (32, 32) := by kernel_rfl
  have la : (nR .u8 a).length = 32 := by rw [ar, ha]
  have lb : (nR .u8 b).length = 32 := by rw [ar, hb]
  have e1 : br (List.replicate 64 (vN .u8 0)) 0 (nR .u8 a) = nR .u8 a ++ List.replicate 32 (vN .u8 0) := by
    simp [br, la]
  have e2 : br (nR .u8 a ++ List.replicate 32 (vN .u8 0)) 32 (nR .u8 b) = nR .u8 (a ++ b) := by
    have hd : List.drop 64 (nR .u8 a ++ List.replicate 32 (vN .u8 0)) = [] := List.drop_of_length_le (by rw [List.length_append, la, List.length_replicate]; omega)
    have ht : List.take 32 (nR .u8 a ++ List.replicate 32 (vN .u8 0)) = nR .u8 a := by rw [List.take_append_of_le_length (by omega), List.take_of_length_le (by omega)]
    simp only [br, lb]
    rw [hd, ht, List.append_nil, nR_append]
  simp only [bH, h1, if_true, h2, Option.bind_some, fillV, h3, h4, aW]
  rw [if_pos ⟨la, by rw [la, List.length_replicate]; omega⟩, e1]
  rw [if_pos ⟨lb, by rw [lb, List.length_append, la, List.length_replicate]; omega⟩, e2]
  simp only [Option.map_some]

/-- What has been gathered. -/
def okO (G X : Hp) (v : V) (sz : Nat) (es : List (List V)) : Prop := (es = [] ∧ v = .nils) ∨ ∃ e, G e = none ∧ X e = some (.arr sz es) ∧ v = .osl e 0 es.length sz false

theorem bB {G X : Hp} {v : V} {sz : Nat} {es : List (List V)} (h : okO G X v sz es) : aW v = some [v] ∧ one v = true := by
  rcases h with ⟨_, rfl⟩ | ⟨e, _, _, rfl⟩ <;> exact ⟨rfl, rfl⟩

/-- Another block is written. -/
theorem bj {G X : Hp} {v : V} {sz : Nat} {es : List (List V)} (h : okO G X v sz es) {r : Nat} {z : Option Blk} (hr : ∀ es', X r ≠ some (.arr sz es')) : okO G (upd X r z) v sz es := by
  rcases h with h | ⟨e, h1, h2, h3⟩
  · exact .inl h
  · refine .inr ⟨e, h1, ?_, h3⟩
    rw [ah _ _ _ (fun er => by subst er; exact hr _ h2)]
    exact h2

/-- One more. -/
theorem cg {P : Program} {G X : Hp} {v : V} {t tx sz : Nat} {es fs : List (List V)} {x : V} {Q : V → Hp → Prop} (h : okO G X v sz es) (hG : hle G X) (hs : dstT P t = some sz) (hx : sliT P tx = some sz) (hv : ao X sz x = some fs) (ho : bo fs = true) (hne : fs ≠ [])
    (hb : (es.length + fs.length) * bT P t ≤ 140737488355328) (hl : es.length + fs.length ≤ 140737488355328)
    (hQ : ∀ v' X', okO G X' v' sz (es ++ fs) → hle G X' → (∀ j y, X j = some y → (∀ es', y ≠ .arr sz es') → X' j = some y) → Q v' X') : wpAppend P X t tx v x Q := by
  have hGe : ∀ e, X e = none → G e = none := fun e he => by
    cases hh : G e with
    | none => rfl
    | some y => rw [hG _ _ hh] at he; cases he
  rcases h with ⟨rfl, rfl⟩ | ⟨e, h1, h2, rfl⟩
  · refine append_new (x := x) (.inl rfl) hs hx hv ho (by simpa using hb) (by simpa using hl) (fun hn => absurd hn hne) fun _ e he => hQ _ _ ?_ ?_ ?_
    · exact .inr ⟨e, hGe e he, by rw [ag, List.nil_append], by rw [List.nil_append]⟩
    · exact ai hG (hGe e he)
    · intro j y hj _
      rw [ah _ _ _ (aA hj he)]
      exact hj
  · refine append_osl (x := x) h2 rfl hs hx hv ho hb hl fun e' he' => ?_
    rw [← List.length_append]
    have hge : G e' = none := by
      rcases he' with rfl | he'
      · exact h1
      · exact hGe e' he'
    refine hQ _ _ (.inr ⟨e', hge, ag _ _ _, rfl⟩) (ai (ai hG h1) hge) ?_
    intro j y hj hy
    have hje : j ≠ e := fun ee => by subst ee; rw [h2] at hj; cases hj; exact hy _ rfl
    have hje' : j ≠ e' := by
      rcases he' with rfl | he'
      · exact hje
      · exact aA hj he'
    rw [ah _ _ _ hje', ah _ _ _ hje]
    exact hj

section
variable {Y : aC} {Q : Exit → T → Hp → Prop} {t : T} {G X : Hp} {r : Nat} {v part : V} {ps : List (List Nat)} {done : List (List Nat × List Nat)}

theorem rd37 (q3 : t 3 = .ptr r 0) (q4 : t 4 = part) (xr : X r = some (.row [v])) (hv : ao X 32 part = some (hE ps)) (hne : ps ≠ []) (h32 : all32 ps) (hok : okO G X v 64 (pE done)) (hG : hle G X) (gr : G r = none) (hl : done.length ≤ 1073741824)
    (hpl : ps.length ≤ 2)
    (hQ : ∀ t' v' X', X' r = some (.row [v']) → okO G X' v' 64 (pE (done ++ [(ps.getD 0 [], ps.getD (ps.length - 1) [])])) → hle G X' → (∀ j y, j ≠ r → X j = some y → (∀ es', y ≠ .arr 64 es') → X' j = some y) → Q .normal t' X') :
    wpC Try.prog (tab [(51, s51), (70, s70)]) Y [] 22 (rbodyOf (aU Try.f37 0)) false Q t X := by
  have hp0 : 0 < ps.length := List.length_pos_iff.2 hne
  obtain ⟨p, hp, hpl1⟩ := bc (P := Try.prog) (k := .i64) ar22 sl22 hv (hE_get ps 0 hp0) (by rw [ar]; exact all32_get h32 hp0)
  obtain ⟨q, hq, hql⟩ := bc (P := Try.prog) (k := .i64) ar22 sl22 hv (hE_get ps (ps.length - 1) (by omega)) (by rw [ar]; exact all32_get h32 (by omega))
  have hly := av (P := Try.prog) sl22 hv
  rw [hE_len] at hly
  have la := all32_get h32 hp0
  have lb := all32_get h32 (show ps.length - 1 < ps.length by omega)
  generalize ps.getD 0 [] = a at hpl1 hQ la
  generalize ps.getD (ps.length - 1) [] = b at hql hQ lb
  refine ax ?_
  refine bJ 12 (by kernel_rfl) rfl rfl ?_
  repeat (refine aQ rfl fun K hK => ?_; simp (disch := omega) only [WW, BB, ↓ab, simprocAttr, q3, q4, aw (off := 0) xr ty81 rfl, hp, hpl1, hq, hql, bb, hly, i64_sub]; refine ⟨_, ⟨rfl, by first | rfl | trivial⟩, hK _ ?_⟩; clear hK)
  have hb := bu84 la lb
  repeat (refine aQ rfl fun K hK => ?_; simp (disch := omega) only [WW, BB, ↓ab, simprocAttr, hb]; refine ⟨_, ⟨rfl, by first | rfl | trivial⟩, hK _ ?_⟩; clear hK)
  refine aQ rfl fun K hK => ⟨.sl 64 [nR .u8 (a ++ b)] true, ⟨64, [List.replicate 64 (vN .u8 0)], _, by kernel_rfl, by omega, ?_, rfl, rfl⟩, hK _ ?_⟩
  · simp only [List.map_cons, List.map_nil, bv]
    simp (disch := omega) only [WW, BB, ↓ab, simprocAttr, aW]
    rw [if_pos ⟨by rw [ar, List.length_append, la, lb], by simp⟩]
    rfl
  refine bx ?_
  refine aa rfl fun K hK => ?_
  simp (disch := omega) only [WW, BB, ↓ab, simprocAttr]
  refine cg (x := .sl 64 [nR .u8 (a ++ b)] true) (fs := pE [(a, b)]) hok hG ds81 sl81 (by simp [ao, pE]) (pE_ones _) (by simp [pE]) (by rw [by81, pE_len, pE_len]; simp; omega) (by rw [pE_len, pE_len]; simp; omega) fun v' X' hok' hG' hX' => hK _ _ ?_
  rw [pE_append] at hok'
  have xr' := hX' _ _ xr (fun _ h => by cases h)
  refine aa rfl fun K hK => ?_
  simp (disch := omega) only [WW, BB, ↓ab, simprocAttr, q3]
  refine ⟨_, aT (off := 0) (b := r) xr' ty81 (bB hok').1 (bB hok').2 (by simp), hK _ _ ?_⟩
  refine ae ?_
  simp only [bi]
  refine hQ _ v' _ (ag _ _ _) (bj hok' fun es' h => by rw [xr'] at h; cases h) (ai hG' gr) ?_
  intro j y hj hjy hy
  rw [ah _ _ _ hj]
  exact hX' _ _ hjy hy
end

def F37 (Y : aC) (t : T) (l : Nat) (ob : LoopState → Option Code → Obj) : Spec0 := fun args H' QY => args.length = 1 ∧ H' l = some (.raw (ob .ready none)) ∧
  wpC Try.prog (tab [(51, s51), (70, s70)]) Y [] 22 (asgOf (aU Try.f37 0)) false (onlyA fun t₁ H₁ => H₁ l = some (.raw (ob .ready none)) ∧
    wpC Try.prog (tab [(51, s51), (70, s70)]) Y [] 22 (rbodyOf (aU Try.f37 0)) false (bL l ob QY) t₁ (upd H₁ l (some (.raw (ob .busy none))))) (putsT 22 t [7] args) H'

theorem blk37 {Y Y' : aC} {t : T} {l r : Nat} {ob : LoopState → Option Code → Obj} {G : Hp} {Qe : Hp → Prop} (q3 : t 3 = .ptr r 0) (gr : G r = none) (gl : G l = none) (hrl : r ≠ l) :
    ∀ (n : Nat) (hs : List (List Nat)) (done : List (List Nat × List Nat)) (v : V) (X : Hp), hs.length ≤ n → all32 hs → done.length + hs.length ≤ 1073741824 → X r = some (.row [v]) → X l = some (.raw (ob .ready none)) → hle G X → okO G X v 64 (pE done) →
      (∀ v' X', X' r = some (.row [v']) → X' l = some (.raw (ob .ready none)) → hle G X' → okO G X' v' 64 (pE (done ++ aN hs)) → Qe X') → seqS (upd Y' l (F37 Y t l ob)) l 32 G Qe (chk2 (hE hs)) X
  | n, [], done, v, X, _, _, _, xr, xl, hG, hok, hQ => ⟨hG, hQ v X xr xl hG (by simpa [aN] using hok)⟩
  | 0, _ :: _, _, _, _, hn, _, _, _, _, _, _, _ => by simp at hn
  | n + 1, a :: hs, done, v, X, hn, h32, hlen, xr, xl, hG, hok, hQ => by
    have hhne : hE (a :: hs) ≠ [] := by simp [hE]
    have yl : ∀ args H Q, F37 Y t l ob args H Q → upd Y' l (F37 Y t l ob) l args H Q := fun args H Q h => by rw [ag]; exact h
    rw [chk2_cons _ hhne, hE_take, hE_drop]
    have hps : ∀ h ∈ (a :: hs).take 2, h.length = 32 := fun h hm => h32 h (List.mem_of_mem_take hm)
    have hpn : (a :: hs).take 2 ≠ [] := by simp
    have hpair : done ++ [(((a :: hs).take 2).getD 0 [], ((a :: hs).take 2).getD (((a :: hs).take 2).length - 1) [])] ++ aN ((a :: hs).drop 2) = done ++ aN (a :: hs) := by
      cases hs with
      | nil => simp [aN]
      | cons b hs => simp [aN]
    refine ⟨hG, fun part hp _ => ⟨fun rr X' => rr = .bool true ∧ ∃ v', X' r = some (.row [v']) ∧ X' l = some (.raw (ob .ready none)) ∧ hle G X' ∧ okO G X' v' 64 (pE (done ++ [(((a :: hs).take 2).getD 0 [], ((a :: hs).take 2).getD (((a :: hs).take 2).length - 1) [])])), yl _ _ _ ⟨rfl, xl, ?_⟩, ?_⟩⟩
    · show wpC Try.prog (tab [(51, s51), (70, s70)]) Y [] 22 (asgOf (aU Try.f37 0)) false (onlyA _) (putT 22 t (some 7) part) X
      refine ac rfl ?_
      repeat (first
    | (refine aa rfl fun K hK => ?_; simp (disch := omega) only [WW, BB, ↓ab, simprocAttr]; refine hK _ _ ?_; clear hK) | (refine ae ?_; simp only [TH]; (((repeat ((fail_if_success refine hS _ _ ?_); clear hS)); refine hS _ _ ?_); clear hS; try clear hF)))
      refine ae ?_
      simp only [onlyA]
      refine ⟨xl, rd37 (r := r) (v := v) (part := part) (ps := (a :: hs).take 2) (done := done) ?_ ?_ ?_ (aL (ai hG gl) hp) hpn hps ?_ (ai hG gl) gr (by omega) (by simp; omega) fun t' v' X' z1 z2 z3 z4 => ?_⟩
      · simp (disch := omega) only [WW, BB, ↓ab, simprocAttr, q3]
      · simp (disch := omega) only [WW, BB, ↓ab, simprocAttr]
      · rw [ah _ _ _ hrl]; exact xr
      · exact bj hok fun es' h => by rw [xl] at h; cases h
      · have z5 := z4 l _ (Ne.symm hrl) (ag _ _ _) (fun _ h => by cases h)
        simp only [bL]
        refine ⟨⟨_, _, z5⟩, trivial, v', ?_, ag _ _ _, ai z3 gl, bj z2 fun es' h => by rw [z5] at h; cases h⟩
        rw [ah _ _ _ hrl]
        exact z1
    · rintro rr X' ⟨rfl, v', y1, y2, y3, y4⟩
      refine .inr ⟨rfl, ?_⟩
      refine blk37 q3 gr gl hrl n ((a :: hs).drop 2) _ v' X' (by simp at hn ⊢; omega) (fun h hm => h32 h (List.mem_of_mem_drop hm)) (by simp at hlen ⊢; omega) y1 y2 y3 y4 fun v'' X'' w1 w2 w3 w4 => ?_
      rw [hpair] at w4
      exact hQ v'' X'' w1 w2 w3 w4

def s37 : Spec := fun _ args H Q => ∃ x hs, args = [x] ∧ ao H 32 x = some (hE hs) ∧ notR x = true ∧ hs ≠ [] ∧ all32 hs ∧ hs.length ≤ 1073741824 ∧ Q (.sl 64 (pE (aN hs)) false) H

theorem freeze_osl {H H' : Hp} {e sz : Nat} {es : List (List V)} {full : Bool} {Q : V → Hp → Prop} (hb : H' e = some (.arr sz es)) (hle : hle H (upd H' e none)) (hQ : Q (.sl sz es full) H) : sealA [e] (.osl e 0 es.length sz full) H' Q := by
  refine ⟨_, hb, rfl, H, hle, ?_⟩
  simp only [subV, if_true, Nat.zero_add, Nat.le_refl, and_self, List.drop_zero]
  rw [List.take_of_length_le (Nat.le_refl _)]
  exact hQ

theorem snd37 : Sound Try.prog 37 s37 := by
  refine ak pm (ap [(51, s51), (70, s70)] (by simp [snd51, snd70])) [] Try.func37 rfl (by kernel_rfl) ?_
  rintro Y args H Q ⟨x, hs, rfl, hv, hx, hne, h32, hl, hQ⟩
  refine ⟨by simp [Try.f37], ?_⟩
  show wpC Try.prog (tab [(51, s51), (70, s70)]) Y [] 22 _ true (aB Try.prog [.tmp 2] Q) _ H
  repeat (first
    | (refine aa rfl fun K hK => ?_; simp (disch := omega) only [WW, BB, ↓ab, simprocAttr]; refine hK _ _ ?_; clear hK) | (refine ae ?_; simp only [TH]; (((repeat ((fail_if_success refine hS _ _ ?_); clear hS)); refine hS _ _ ?_); clear hS; try clear hF)) | refine af fun K hS hF => ?_ | refine ac rfl ?_)
  refine aa rfl fun K hK => ⟨_, z81, fun r hr => hK _ _ ?_⟩
  repeat (first
    | (refine aa rfl fun K hK => ?_; simp (disch := omega) only [WW, BB, ↓ab, simprocAttr]; refine hK _ _ ?_; clear hK) | (refine ae ?_; simp only [TH]; (((repeat ((fail_if_success refine hS _ _ ?_); clear hS)); refine hS _ _ ?_); clear hS; try clear hF)) | refine af fun K hS hF => ?_ | refine ac rfl ?_)
  refine aa rfl fun K hK => ⟨x, rfl, (bd hv).2, fun b c hb hc => hK _ _ ?_⟩
  have hb' := aF hb
  have hc' := aF hc
  have hc'' := aF hc'.2
  repeat (first
    | (refine ae ?_; simp only [TH]; (((repeat ((fail_if_success refine hS _ _ ?_); clear hS)); refine hS _ _ ?_); clear hS; try clear hF)) | refine ax ?_)
  refine wpC_range (f := 70) (first := []) (caps := [.ptr b 0, .ptr c 0]) ?_ (by kernel_rfl) fun l ob hl0 => ?_
  · simp (disch := omega) only [WW, BB, ↓ab, simprocAttr]
  have hl1 := aF hl0
  have hl2 := aF hl1.2
  have hl3 := aF hl2.2
  have hG0 : hle H (upd (upd (upd (upd H r (some (.row [.nils]))) b (some (.row [x]))) c (some (.row [vN .i64 2]))) r none) := ai (ai (ai (ai (aj _) hr) hb'.2) hc''.2) hr
  refine ⟨l, b, c, x, hE hs, upd (upd (upd (upd H r (some (.row [.nils]))) b (some (.row [x]))) c (some (.row [vN .i64 2]))) r none, rfl, ?_, ?_, aL hG0 hv, hx, by rw [hE_len]; exact hl, ?_⟩
  · rw [ah _ _ _ (Ne.symm hb'.1), ah _ _ _ hc'.1, ag]
  · rw [ah _ _ _ (Ne.symm hc''.1), ag]
  refine blk37 (Y := Y) (r := r) ?_ (ag _ _ _) ?_ hl3.1 hs.length hs [] .nils _ (Nat.le_refl _) h32 (by simpa using hl) ?_ (ag _ _ _) ?_ (.inl ⟨rfl, rfl⟩) fun v' X' w1 w2 w3 w4 => ?_
  · simp (disch := omega) only [WW, BB, ↓ab, simprocAttr]
  · rw [ah _ _ _ (Ne.symm hl3.1)]; exact hl0
  · rw [ah _ _ _ hl3.1, ah _ _ _ hc''.1, ah _ _ _ hb'.1, ag]
  · exact ai (hle_del _ _) (by rw [ah _ _ _ (Ne.symm hl3.1)]; exact hl0)
  refine ⟨_, _, w2, by simp, ?_⟩
  simp only [endA, bi, bC]
  have x1 : upd X' l none r = some (.row [v']) := by rw [ah _ _ _ hl3.1]; exact w1
  refine hS _ _ ?_
  clear hS
  repeat (first
    | (refine aa rfl fun K hK => ?_; simp (disch := omega) only [WW, BB, ↓ab, simprocAttr, aw (off := 0) x1 ty81 rfl]; refine hK _ _ ?_; clear hK) | (refine ae ?_; simp only [TH]; (((repeat ((fail_if_success refine hS _ _ ?_); clear hS)); refine hS _ _ ?_); clear hS; try clear hF)) | refine af fun K hS hF => ?_ | refine ac rfl ?_ | (refine al ?_; simp (disch := omega) only [TH, TE, WW, BB, ↓ab, simprocAttr, aw (off := 0) x1 ty81 rfl]))
  rw [List.nil_append] at w4
  rcases w4 with ⟨h0, _⟩ | ⟨e, h1, h2, rfl⟩
  · exfalso
    have := congrArg List.length h0
    rw [pE_len, pairsOf_len, List.length_nil] at this
    have : 0 < hs.length := List.length_pos_iff.2 hne
    omega
  · have hel : e ≠ l := fun ee => by subst ee; rw [w2] at h2; cases h2
    refine ⟨_, rfl, [e], freeze_osl (by rw [ah _ _ _ hel]; exact h2) ?_ hQ⟩
    have hHe : H e = none := by
      cases hh : H e with
      | none => rfl
      | some y => rw [hG0 _ _ hh] at h1; cases h1
    exact ai (ai (bn hG0 w3) hl3.2) hHe
end Go.Av

set_option linter.unusedSimpArgs false
set_option linter.unusedVariables false
namespace Go.Av
open Go.RowKit Go.Proofs

def hashP (p : List Nat × List Nat) : List Nat := aR (p.1 ++ p.2)
def above (hs : List (List Nat)) : List (List Nat) := (aN hs).map hashP
def bQ : Nat → List (List Nat) → List (List (List Nat))
  | 0, _ => []
  | f + 1, hs => if hs = [] then [] else hs :: (if hs.length ≤ 1 then [] else bQ f (above hs))

theorem above_len (hs : List (List Nat)) : (above hs).length = (hs.length + 1) / 2 := by rw [above, List.length_map, pairsOf_len]
theorem above_32 (hs : List (List Nat)) : all32 (above hs) := by
  intro h hm
  obtain ⟨p, _, rfl⟩ := List.mem_map.1 hm
  exact bt _

def pair32 (ps : List (List Nat × List Nat)) : Prop := ∀ p ∈ ps, p.1.length = 32 ∧ p.2.length = 32
theorem pairsOf_32 : ∀ hs : List (List Nat), all32 hs → pair32 (aN hs)
  | [], _ => fun p hp => by simp [aN] at hp
  | [a], h => fun p hp => by
    simp only [aN, List.mem_singleton] at hp
    subst hp
    exact ⟨h a (by simp), h a (by simp)⟩
  | a :: b :: r, h => fun p hp => by
    simp only [aN, List.mem_cons] at hp
    rcases hp with rfl | hp
    · exact ⟨h a (by simp), h b (by simp)⟩
    · exact pairsOf_32 r (fun x hx => h x (by simp [hx])) p hp

/-- The iterator over levels. -/
def lvlS (Y : aC) (l : Nat) (Qe : Hp → Prop) : List (List (List Nat)) → V → Hp → Prop
  | [], _, H => Qe H
  | lv :: rest, v, H => ∃ Q₁ : V → Hp → Prop, Y l [v] H Q₁ ∧ ∀ r H', Q₁ r H' → (r = .bool false ∧ Qe H') ∨ (r = .bool true ∧ ao H' 32 v = some (hE lv) ∧ lvlS Y l Qe rest (.sl 32 (hE (rest.headD [])) false) H')

def s35 : Spec := fun _ args H Q => ∃ v, args = [v] ∧ aW v = some [v] ∧ ∀ c, H c = none → Q (.fn (.func 49) [] [.ptr c 0]) (upd H c (some (.row [v])))

theorem snd35 : Sound Try.prog 35 s35 := by
  refine ak pm (ap [] (by simp)) [] Try.func35 rfl (by kernel_rfl) ?_
  rintro Y args H Q ⟨v, rfl, h2, hQ⟩
  refine ⟨by simp [Try.f35], ?_⟩
  show wpC Try.prog (tab []) Y [] 4 _ true (aB Try.prog [.tmp 2] Q) _ H
  repeat (first
    | refine af fun K hS hF => ?_ | refine ac rfl ?_)
  refine aa rfl fun K hK => ⟨[v], h2, fun c hc => hK _ _ ?_⟩
  repeat (first
    | (refine aa rfl fun K hK => ?_; simp (disch := omega) only [WW, BB, ↓ab, simprocAttr]; refine hK _ _ ?_; clear hK) | (refine ae ?_; simp only [TH]; (((repeat ((fail_if_success refine hS _ _ ?_); clear hS)); refine hS _ _ ?_); clear hS; try clear hF)) | refine af fun K hS hF => ?_ | refine ac rfl ?_ | (refine al ?_; simp (disch := omega) only [TH, TE, WW, BB, ↓ab, simprocAttr]))
  exact ⟨_, rfl, [], _, aj _, hQ c hc⟩

theorem z84 : zeroT Try.prog 84 = some (List.replicate 64 (vN .u8 0)) := by kernel_rfl

theorem pE_get (ps : List (List Nat × List Nat)) (i : Nat) (h : i < ps.length) : (pE ps)[i]? = some (nR .u8 ((ps.getD i ([], [])).1 ++ (ps.getD i ([], [])).2)) := by
  simp [pE, List.getElem?_eq_getElem h]
theorem pair32_get {ps : List (List Nat × List Nat)} (h : pair32 ps) {i : Nat} (hi : i < ps.length) : (ps.getD i ([], [])).1.length = 32 ∧ (ps.getD i ([], [])).2.length = 32 := by
  rw [List.getD_eq_getElem?_getD, List.getElem?_eq_getElem hi]
  exact h _ (List.getElem_mem hi)

theorem hle_none {G X : Hp} (h : hle G X) {e : Nat} (he : X e = none) : G e = none := by
  cases hh : G e with
  | none => rfl
  | some y => rw [h _ _ hh] at he; cases he

section
variable {Y : aC} {Q : Exit → T → Hp → Prop} {t : T} {H : Hp} {ps : List (List Nat × List Nat)}

theorem l49_2 (q4 : t 4 = .nils) (q21 : t 21 = .sl 64 (pE ps) false) (q22 : t 22 = vN .i64 ps.length) (q23 : t 23 = vN .i64 0) (h32 : pair32 ps) (hl : ps.length ≤ 1073741824)
    (hQ : ∀ t' v' X', t' 0 = t 0 → t' 4 = v' → okO H X' v' 32 (hE (ps.map hashP)) → hle H X' → Q (.exit 2) t' X') :
    wpC Try.prog (tab [(37, s37), (39, s39)]) Y [33] 34 (aU Try.f49 1) true Q t H := by
  refine aO (fun m t' X => ∃ i v, m = ps.length - i ∧ i ≤ ps.length ∧ t' 0 = t 0 ∧ t' 4 = v ∧ t' 21 = .sl 64 (pE ps) false ∧ t' 22 = vN .i64 ps.length ∧ t' 23 = vN .i64 i ∧ okO H X v 32 (hE ((ps.take i).map hashP)) ∧ hle H X) ps.length ⟨0, .nils, rfl, by omega, rfl, q4, q21, q22, q23, .inl ⟨rfl, rfl⟩, aj _⟩ fun KL m t1 X hI hKL => ?_
  obtain ⟨i, v, rfl, hi, q0, q4, q21, q22, q23, hok, hX⟩ := hI
  repeat (first
    | (refine aa rfl fun K hK => ?_; simp (disch := omega) only [WW, BB, ↓ab, simprocAttr, q22, q23]; refine hK _ _ ?_; clear hK) | (refine ae ?_; simp only [TH]; (((repeat ((fail_if_success refine hS _ _ ?_); clear hS)); refine hS _ _ ?_); clear hS; try clear hF)) | refine af fun K hS hF => ?_ | refine ac rfl ?_)
  refine aH rfl (fun hd => ?_) (fun hd => ?_)
  · (refine am ?_; simp only [TH]; ((repeat ((fail_if_success refine hS _ _ ?_); clear hS)); refine hS _ _ ?_); clear hS; try clear hF)
    have hv : ao X 64 (.sl 64 (pE ps) false) = some (pE ps) := by simp [ao]
    obtain ⟨g1, g2⟩ := pair32_get h32 hd
    obtain ⟨p, hp, hpl⟩ := bc (P := Try.prog) (k := .i64) ar81 sl81 hv (pE_get ps i hd) (by rw [ar, List.length_append, g1, g2])
    have htk : (ps.take (i + 1)).map hashP = (ps.take i).map hashP ++ [aR ((ps.getD i ([], [])).1 ++ (ps.getD i ([], [])).2)] := by
      rw [List.take_succ_eq_append_getElem hd, List.map_append, List.getD_eq_getElem?_getD, List.getElem?_eq_getElem hd]
      rfl
    have hlt : (hE ((ps.take i).map hashP)).length = i := by rw [hE_len, List.length_map, List.length_take]; omega
    generalize (ps.getD i ([], [])).1 = a at *
    generalize (ps.getD i ([], [])).2 = b at *
    repeat (first
    | (refine aa rfl fun K hK => ?_; simp (disch := omega) only [WW, BB, ↓ab, simprocAttr, q21, q23, hp, hpl, ty84]; refine hK _ _ ?_; clear hK) | refine af fun K hS hF => ?_ | refine ac rfl ?_)
    refine aa rfl fun K hK => ⟨_, z84, fun c hc => hK _ _ ?_⟩
    refine aa rfl fun K hK => ?_
    simp (disch := omega) only [WW, BB, ↓ab, simprocAttr]
    refine ⟨_, au (b := c) (ag _ _ _) ty84 (by rw [ar, List.length_append, g1, g2]) (bk _ _) rfl, hK _ _ ?_⟩
    rw [aD]
    repeat (first
    | (refine aa rfl fun K hK => ?_; simp (disch := omega) only [WW, BB, ↓ab, simprocAttr, aJ (P := Try.prog) (t := 84) (ag X c (some (.row (nR .u8 (a ++ b))))) ty84 (by rw [ar, List.length_append, g1, g2])]; refine hK _ _ ?_; clear hK) | (refine ae ?_; simp only [TH]; (((repeat ((fail_if_success refine hS _ _ ?_); clear hS)); refine hS _ _ ?_); clear hS; try clear hF)) | refine ac rfl ?_)
    refine aa rfl fun K hK => ⟨a, b, rfl, g1, g2, hK _ _ ?_⟩
    refine aa rfl fun K hK => ⟨32, [List.replicate 32 (vN .u8 0)], [nR .u8 (aR (a ++ b))], by kernel_rfl, by omega, ?_, hK _ _ ?_⟩
    · simp only [List.map_cons, List.map_nil, bv]
      simp (disch := omega) only [WW, BB, ↓ab, simprocAttr, aW]
      rw [if_pos ⟨by rw [ar, bt], by simp⟩]
      rfl
    skip
    refine aa rfl fun K hK => ?_
    simp (disch := omega) only [WW, BB, ↓ab, simprocAttr, q4]
    have hok2 : okO H (upd X c (some (.row (nR .u8 (a ++ b))))) v 32 (hE ((ps.take i).map hashP)) := bj hok fun es' h => by rw [hc] at h; cases h
    have hle2 : hle H (upd X c (some (.row (nR .u8 (a ++ b))))) := ai hX (hle_none hX hc)
    refine cg (x := .sl 32 [nR .u8 (aR (a ++ b))] true) (fs := hE [aR (a ++ b)]) hok2 hle2 ds22 sl22 (by simp [ao, hE]) (hE_ones _) (by simp [hE]) (by rw [by22, hlt, hE_len]; simp; omega) (by rw [hlt, hE_len]; simp; omega) fun v' X' hok' hG' _ => hK _ _ ?_
    rw [hE_append, ← htk] at hok'
    repeat (first
    | (refine aa rfl fun K hK => ?_; simp (disch := omega) only [WW, BB, ↓ab, simprocAttr, q23, aP]; refine hK _ _ ?_; clear hK) | (refine ae ?_; simp only [TH]; first | (((repeat ((fail_if_success refine hS _ _ ?_); clear hS)); refine hS _ _ ?_); clear hS; try clear hF) | skip) | refine ac rfl ?_)
    refine hKL _ _ _ (by omega : ps.length - (i + 1) < ps.length - i) ⟨i + 1, v', rfl, by omega, ?_, ?_, ?_, ?_, ?_, hok', hG'⟩
    · simp (disch := omega) only [WW, BB, ↓ab, simprocAttr, q0]
    · simp (disch := omega) only [WW, BB, ↓ab, simprocAttr]
    · simp (disch := omega) only [WW, BB, ↓ab, simprocAttr, q21]
    · simp (disch := omega) only [WW, BB, ↓ab, simprocAttr, q22]
    · simp (disch := omega) only [WW, BB, ↓ab, simprocAttr]
  · refine aG ?_
    have : i = ps.length := by omega
    subst this
    rw [List.take_of_length_le (Nat.le_refl _)] at hok
    refine hQ _ v _ ?_ ?_ hok hX
    · simp (disch := omega) only [WW, BB, ↓ab, simprocAttr, q0]
    · simp (disch := omega) only [WW, BB, ↓ab, simprocAttr, q4]
end

def s49 : Spec := fun Y args H Q => ∃ l b x hs f, args = [.fn (.yield l) [] [], .ptr b 0] ∧ H b = some (.row [x]) ∧ ao H 32 x = some (hE hs) ∧ notR x = true ∧ all32 hs ∧ hs.length ≤ 1073741824 ∧ hs.length ≤ f ∧ lvlS Y l (fun H' => Q (.tup []) H') (bQ f hs) x H

theorem snd49 : Sound Try.prog 49 s49 := by
  refine ak pm (ap [(37, s37), (39, s39)] (by simp [snd37, snd39])) [33] Try.func49 rfl (by kernel_rfl) ?_
  rintro Y args H Q ⟨l, b, x, hs, f, rfl, hb, hv, hx, h32, hl, hf, hS⟩
  refine ⟨by simp [Try.f49], ?_⟩
  show wpC Try.prog (tab [(37, s37), (39, s39)]) Y [33] 34 _ true (aB Try.prog [] Q) _ H
  repeat (first
    | (refine aa rfl fun K hK => ?_; simp (disch := omega) only [WW, BB, ↓ab, simprocAttr, aw (off := 0) hb ty22 rfl]; refine hK _ _ ?_; clear hK) | (refine ae ?_; simp only [TH]; (((repeat ((fail_if_success refine hS _ _ ?_); clear hS)); refine hS _ _ ?_); clear hS; try clear hF)) | refine af fun K hS hF => ?_ | refine ac rfl ?_ | refine ax ?_)
  refine aO (fun m t X => ∃ v lv, t 0 = .fn (.yield l) [] [] ∧ t 3 = v ∧ ao X 32 v = some (hE lv) ∧ notR v = true ∧ all32 lv ∧ lv.length ≤ 1073741824 ∧ lv.length ≤ m ∧ lvlS Y l (fun H' => Q (.tup []) H') (bQ m lv) v X) f ⟨x, hs, rfl, rfl, hv, hx, h32, hl, hf, hS⟩ fun KL m t X hI hKL => ?_
  clear hS hv hb hx h32 hl hf
  obtain ⟨v, lv, q0, q3, hv, hx, h32, hl, hm, hS⟩ := hI
  have hly := av (P := Try.prog) sl22 hv
  rw [hE_len] at hly
  repeat (first
    | (refine aa rfl fun K hK => ?_; simp (disch := omega) only [WW, BB, ↓ab, simprocAttr, q3, hly]; refine hK _ _ ?_; clear hK) | (refine ae ?_; simp only [TH]; (((repeat ((fail_if_success refine hS _ _ ?_); clear hS)); refine hS _ _ ?_); clear hS; try clear hF)) | refine af fun K hS hF => ?_ | refine ac rfl ?_)
  refine aH rfl (fun hd => ?_) (fun hd => ?_)
  · (refine am ?_; simp only [TH]; ((repeat ((fail_if_success refine hS _ _ ?_); clear hS)); refine hS _ _ ?_); clear hS; try clear hF)
    cases m with
    | zero => omega
    | succ m =>
      have hlv : lv ≠ [] := fun e => by subst e; simp at hd
      rw [bQ, if_neg hlv] at hS
      obtain ⟨Q₁, hY, hQ₁⟩ := hS
      repeat (first
    | (refine aa rfl fun K hK => ?_; simp (disch := omega) only [WW, BB, ↓ab, simprocAttr, q0, q3]; refine hK _ _ ?_; clear hK) | refine af fun K hS hF => ?_ | refine ac rfl ?_)
      refine aa rfl fun K hK => ?_
      simp (disch := omega) only [WW, BB, ↓ab, simprocAttr, q0]
      refine ⟨Q₁, hY, fun r X' hq => hK _ _ ?_⟩
      rcases hQ₁ r X' hq with ⟨rfl, hQe⟩ | ⟨rfl, hv', hnext⟩
      · repeat (first
    | (refine aa rfl fun K hK => ?_; simp (disch := omega) only [WW, BB, ↓ab, simprocAttr, q3]; refine hK _ _ ?_; clear hK) | refine bl rfl ?_ | (refine ae ?_; simp only [TH]; (((repeat ((fail_if_success refine hS _ _ ?_); clear hS)); refine hS _ _ ?_); clear hS; try clear hF)))
        refine aS rfl ?_
        repeat (refine al ?_; simp (disch := omega) only [TH, TE, WW, BB, ↓ab, simprocAttr])
        exact ⟨_, rfl, [], _, aj _, hQe⟩
      · have hly' := av (P := Try.prog) sl22 hv'
        repeat (first
    | (refine aa rfl fun K hK => ?_; simp (disch := omega) only [WW, BB, ↓ab, simprocAttr, q3, hly]; refine hK _ _ ?_; clear hK) | (refine ae ?_; simp only [TH]; (((repeat ((fail_if_success refine hS _ _ ?_); clear hS)); refine hS _ _ ?_); clear hS; try clear hF)))
        refine aH rfl (fun hd => ?_) (fun hd => ?_)
        · rw [if_pos (by omega)] at hnext
          repeat (refine al ?_; simp (disch := omega) only [TH, TE, WW, BB, ↓ab, simprocAttr])
          exact ⟨_, rfl, [], _, aj _, hnext⟩
        · (refine am ?_; simp only [TH]; ((repeat ((fail_if_success refine hS _ _ ?_); clear hS)); refine hS _ _ ?_); clear hS; try clear hF)
          rw [if_neg (by omega)] at hnext
          repeat (first
    | (refine aa rfl fun K hK => ?_; simp (disch := omega) only [WW, BB, ↓ab, simprocAttr, q3]; refine hK _ _ ?_; clear hK) | (refine ae ?_; simp only [TH]; (((repeat ((fail_if_success refine hS _ _ ?_); clear hS)); refine hS _ _ ?_); clear hS; try clear hF)) | refine af fun K hS hF => ?_ | refine ac rfl ?_)
          refine aa rfl fun K hK => ⟨v, lv, ?_, hv', hx, hlv, h32, hl, hK _ _ ?_⟩
          · simp (disch := omega) only [WW, BB, ↓ab, simprocAttr, q3]
          have hlp := av (P := Try.prog) (t := 81) (H := X') sl81 (show ao X' 64 (.sl 64 (pE (aN lv)) false) = some (pE (aN lv)) by simp [ao])
          rw [pE_len] at hlp
          have hplen := pairsOf_len lv
          repeat (first
    | (refine aa rfl fun K hK => ?_; simp (disch := omega) only [WW, BB, ↓ab, simprocAttr, hlp]; refine hK _ _ ?_; clear hK) | (refine ae ?_; simp only [TH]; (((repeat ((fail_if_success refine hS _ _ ?_); clear hS)); refine hS _ _ ?_); clear hS; try clear hF)) | refine ax ?_)
          refine l49_2 (ps := aN lv) ?_ ?_ ?_ ?_ (pairsOf_32 lv h32) (by omega) fun t2 v' X2 f0 f4 hok hX => ?_
          · simp (disch := omega) only [WW, BB, ↓ab, simprocAttr]
          · simp (disch := omega) only [WW, BB, ↓ab, simprocAttr]
          · simp (disch := omega) only [WW, BB, ↓ab, simprocAttr]
          · simp (disch := omega) only [WW, BB, ↓ab, simprocAttr]
          simp only [putT, ab, Nat.reduceEqDiff, ↓reduceIte, Nat.reduceLT, q0] at f0
          (simp only [TH, ↓reduceIte, Nat.reduceEqDiff]; ((repeat ((fail_if_success refine hS _ _ ?_); clear hS)); refine hS _ _ ?_); clear hS; try clear hF)
          refine ac rfl ?_
          rcases hok with ⟨h0, _⟩ | ⟨e, h1, h2, rfl⟩
          · exfalso
            have := congrArg List.length h0
            rw [hE_len, List.length_map, hplen, List.length_nil] at this
            omega
          refine aa rfl fun K hK => ⟨[e], ?_⟩
          have hf4 : evT t2 (.tmp 4) = .osl e 0 (hE ((aN lv).map hashP)).length 32 false := f4
          rw [hf4]
          refine freeze_osl h2 (ai hX h1) (hK _ _ ?_)
          repeat (first
    | (refine aa rfl fun K hK => ?_; simp (disch := omega) only [WW, BB, ↓ab, simprocAttr]; refine hK _ _ ?_; clear hK) | (refine ae ?_; simp only [TH]; first | (((repeat ((fail_if_success refine hS _ _ ?_); clear hS)); refine hS _ _ ?_); clear hS; try clear hF) | skip))
          refine hKL _ _ _ (Nat.lt_succ_self m) ⟨.sl 32 (hE (above lv)) false, above lv, ?_, ?_, by simp [ao], rfl, above_32 lv, by rw [above_len]; omega, by rw [above_len]; omega, ?_⟩
          · simp (disch := omega) only [WW, BB, ↓ab, simprocAttr, f0]
          · simp (disch := omega) only [WW, BB, ↓ab, simprocAttr]
            rfl
          · have hab : above lv ≠ [] := fun e => by
              have := congrArg List.length e
              rw [above_len, List.length_nil] at this
              omega
            cases m with
            | zero => omega
            | succ m =>
              rw [bQ, if_neg hab] at hnext ⊢
              exact hnext
  · refine aG ?_
    simp only [bC, bi, ↓reduceIte]
    have hlv : lv = [] := List.eq_nil_of_length_eq_zero (by omega)
    subst hlv
    have hS' : Q (.tup []) X := by
      cases m with
      | zero => exact hS
      | succ m => rw [bQ, if_pos rfl] at hS; exact hS
    exact ⟨_, rfl, [], _, aj _, hS'⟩
end Go.Av

set_option linter.unusedSimpArgs false
set_option linter.unusedVariables false
namespace Go.Av
open Go.RowKit Go.Proofs

def rootF : Nat → List (List Nat) → List Nat
  | 0, _ => []
  | f + 1, hs => if hs.length = 1 then hs.getD 0 [] else rootF f (above hs)
def rootOf (hs : List (List Nat)) : List Nat := rootF hs.length hs

theorem rootF_more : ∀ (n f : Nat) (hs : List (List Nat)), hs.length ≤ n → hs ≠ [] → hs.length ≤ f → rootF f hs = rootF hs.length hs
  | 0, f, hs, hn, hne, _ => absurd (List.eq_nil_of_length_eq_zero (by omega)) hne
  | n + 1, f, hs, hn, hne, hf => by
    have h0 : 0 < hs.length := List.length_pos_iff.2 hne
    obtain ⟨f', rfl⟩ : ∃ f', f = f' + 1 := ⟨f - 1, by omega⟩
    obtain ⟨k, hk⟩ : ∃ k, hs.length = k + 1 := ⟨hs.length - 1, by omega⟩
    rw [hk, rootF, rootF]
    by_cases h1 : hs.length = 1
    · rw [if_pos h1, if_pos h1]
    · rw [if_neg h1, if_neg h1]
      have hl := above_len hs
      have hane : above hs ≠ [] := fun e => by rw [e, List.length_nil] at hl; omega
      rw [rootF_more n f' (above hs) (by omega) hane (by omega), rootF_more n k (above hs) (by omega) hane (by omega)]

theorem rootF_32 : ∀ (f : Nat) (hs : List (List Nat)), hs.length ≤ f → hs ≠ [] → all32 hs → (rootF f hs).length = 32
  | 0, hs, hf, hne, _ => absurd (List.eq_nil_of_length_eq_zero (by omega)) hne
  | f + 1, hs, hf, hne, h32 => by
    have h0 : 0 < hs.length := List.length_pos_iff.2 hne
    rw [rootF]
    split
    · exact all32_get h32 h0
    · have hl := above_len hs
      exact rootF_32 f (above hs) (by omega) (fun e => by rw [e, List.length_nil] at hl; omega) (above_32 hs)

theorem rootOf_one (h : List Nat) : rootOf [h] = h := rfl
theorem rootOf_more (hs : List (List Nat)) (h : 1 < hs.length) : rootOf hs = rootOf (above hs) := by
  have hl := above_len hs
  have hne : above hs ≠ [] := fun e => by rw [e, List.length_nil] at hl; omega
  obtain ⟨k, hk⟩ : ∃ k, hs.length = k + 1 := ⟨hs.length - 1, by omega⟩
  rw [rootOf, hk, rootF, if_neg (by omega), rootF_more _ k _ (Nat.le_refl _) hne (by omega), rootOf]
theorem rootOf_32 {hs : List (List Nat)} (hne : hs ≠ []) (h : all32 hs) : (rootOf hs).length = 32 := rootF_32 _ _ (Nat.le_refl _) hne h

section
variable {Y : aC} {Q : Exit → T → Hp → Prop} {t : T} {X : Hp} {ro : Nat} {v : V} {hs : List (List Nat)} {cells : List V}

theorem rd13 (q4 : t 4 = .ptr ro 0) (q5 : t 5 = v) (xr : X ro = some (.row cells)) (hc : cells.length = 32) (hv : ao X 32 v = some (hE hs)) (hne : hs ≠ []) (h32 : all32 hs)
    (h1 : hs.length = 1 → ∀ t', Q (.exit 0) t' (upd X ro (some (.row (nR .u8 (hs.getD 0 []))))))
    (h2 : hs.length ≠ 1 → ∀ t', Q .normal t' (upd X ro (some (.row (nR .u8 (hs.getD 0 [])))))) :
    wpC Try.prog (tab [(35, s35), (49, s49)]) Y [] 20 (rbodyOf (aU Try.f13 0)) false Q t X := by
  have h0 : 0 < hs.length := List.length_pos_iff.2 hne
  obtain ⟨p, hp, hpl⟩ := bc (P := Try.prog) (k := .i64) ar22 sl22 hv (hE_get hs 0 h0) (by rw [ar]; exact all32_get h32 h0)
  have hly := av (P := Try.prog) sl22 hv
  rw [hE_len] at hly
  refine ax ?_
  repeat (first
    | (refine aa rfl fun K hK => ?_; simp (disch := omega) only [WW, BB, ↓ab, ↓reduceIte, Int.reduceLT, Int.reduceNeg, Int.reduceLE, Int.reduceToNat, Nat.reduceLT, Nat.reduceEqDiff, Nat.reduceAdd, Nat.reduceMul, Nat.reduceSub, Nat.reduceLeDiff, Nat.reduceBEq, q5, hp, hpl, bb]; refine hK _ _ ?_; clear hK) | refine af fun K hS hF => ?_ | refine ac rfl ?_)
  refine aa rfl fun K hK => ?_
  simp (disch := omega) only [WW, BB, ↓ab, ↓reduceIte, Int.reduceLT, Int.reduceNeg, Int.reduceLE, Int.reduceToNat, Nat.reduceLT, Nat.reduceEqDiff, Nat.reduceAdd, Nat.reduceMul, Nat.reduceSub, Nat.reduceLeDiff, Nat.reduceBEq, q4]
  refine ⟨_, au (b := ro) xr bb (by rw [ar]; exact all32_get h32 h0) (bk _ _) hc, hK _ _ ?_⟩
  repeat (first
    | (refine aa rfl fun K hK => ?_; simp (disch := omega) only [WW, BB, ↓ab, ↓reduceIte, Int.reduceLT, Int.reduceNeg, Int.reduceLE, Int.reduceToNat, Nat.reduceLT, Nat.reduceEqDiff, Nat.reduceAdd, Nat.reduceMul, Nat.reduceSub, Nat.reduceLeDiff, Nat.reduceBEq, q5, hly]; refine hK _ _ ?_; clear hK) | (refine ae ?_; simp only [TH]; (((repeat ((fail_if_success refine hS _ _ ?_); clear hS)); refine hS _ _ ?_); clear hS; try clear hF)) | refine af fun K hS hF => ?_ | refine ac rfl ?_)
  refine aH rfl (fun hd => ?_) (fun hd => ?_)
  · refine aG ?_
    simp only [bi, Nat.reduceEqDiff, ↓reduceIte]
    exact h1 hd _
  · refine am ?_
    simp only [bi]
    exact h2 hd _
end

def F13 (Y : aC) (t : T) (l : Nat) (ob : LoopState → Option Code → Obj) : Spec0 := fun args H' QY => args.length = 1 ∧ H' l = some (.raw (ob .ready none)) ∧
  wpC Try.prog (tab [(35, s35), (49, s49)]) Y [] 20 (asgOf (aU Try.f13 0)) false (onlyA fun t₁ H₁ => H₁ l = some (.raw (ob .ready none)) ∧
    wpC Try.prog (tab [(35, s35), (49, s49)]) Y [] 20 (rbodyOf (aU Try.f13 0)) false (bL l ob QY) t₁ (upd H₁ l (some (.raw (ob .busy none))))) (putsT 20 t [12] args) H'

theorem lvl13 {Y Y' : aC} {t : T} {l ro : Nat} {ob : LoopState → Option Code → Obj} {G : Hp} {Qe : Hp → Prop} (q4 : t 4 = .ptr ro 0) (gr : G ro = none) (gl : G l = none) (hrl : ro ≠ l) :
    ∀ (f : Nat) (hs : List (List Nat)) (v : V) (X : Hp) (cells : List V), hs ≠ [] → hs.length ≤ f → all32 hs → ao G 32 v = some (hE hs) → X ro = some (.row cells) → cells.length = 32 → X l = some (.raw (ob .ready none)) → hle G X →
      (∀ X', X' ro = some (.row (nR .u8 (rootF f hs))) → X' l = some (.raw (ob .done (some (.exit 0)))) → hle G X' → Qe X') → lvlS (upd Y' l (F13 Y t l ob)) l Qe (bQ f hs) v X
  | 0, hs, v, X, cells, hne, hf, _, _, _, _, _, _, _ => absurd (List.eq_nil_of_length_eq_zero (by omega)) hne
  | f + 1, hs, v, X, cells, hne, hf, h32, hv, xr, hc, xl, hG, hQ => by
    have yl : ∀ args H Q, F13 Y t l ob args H Q → upd Y' l (F13 Y t l ob) l args H Q := fun args H Q h => by rw [ag]; exact h
    have h0 : 0 < hs.length := List.length_pos_iff.2 hne
    have hal := above_len hs
    rw [bQ, if_neg hne]
    rw [rootF] at hQ
    refine ⟨fun r X' => (hs.length = 1 → r = .bool false ∧ X' ro = some (.row (nR .u8 (hs.getD 0 []))) ∧ X' l = some (.raw (ob .done (some (.exit 0)))) ∧ hle G X') ∧
      (hs.length ≠ 1 → r = .bool true ∧ X' ro = some (.row (nR .u8 (hs.getD 0 []))) ∧ X' l = some (.raw (ob .ready none)) ∧ hle G X'), yl _ _ _ ⟨rfl, xl, ?_⟩, ?_⟩
    · show wpC Try.prog (tab [(35, s35), (49, s49)]) Y [] 20 (asgOf (aU Try.f13 0)) false (onlyA _) (putT 20 t (some 12) v) X
      refine ac rfl ?_
      repeat (first
    | (refine aa rfl fun K hK => ?_; simp (disch := omega) only [WW, BB, ↓ab, ↓reduceIte, Int.reduceLT, Int.reduceNeg, Int.reduceLE, Int.reduceToNat, Nat.reduceLT, Nat.reduceEqDiff, Nat.reduceAdd, Nat.reduceMul, Nat.reduceSub, Nat.reduceLeDiff, Nat.reduceBEq]; refine hK _ _ ?_; clear hK) | (refine ae ?_; simp only [TH]; (((repeat ((fail_if_success refine hS _ _ ?_); clear hS)); refine hS _ _ ?_); clear hS; try clear hF)))
      refine ae ?_
      simp only [onlyA]
      refine ⟨xl, rd13 (ro := ro) (v := v) (hs := hs) (cells := cells) ?_ ?_ ?_ hc (aL (ai hG gl) hv) hne h32 (fun h t' => ?_) (fun h t' => ?_)⟩
      · simp (disch := omega) only [WW, BB, ↓ab, ↓reduceIte, Int.reduceLT, Int.reduceNeg, Int.reduceLE, Int.reduceToNat, Nat.reduceLT, Nat.reduceEqDiff, Nat.reduceAdd, Nat.reduceMul, Nat.reduceSub, Nat.reduceLeDiff, Nat.reduceBEq, q4]
      · simp (disch := omega) only [WW, BB, ↓ab, ↓reduceIte, Int.reduceLT, Int.reduceNeg, Int.reduceLE, Int.reduceToNat, Nat.reduceLT, Nat.reduceEqDiff, Nat.reduceAdd, Nat.reduceMul, Nat.reduceSub, Nat.reduceLeDiff, Nat.reduceBEq]
      · rw [ah _ _ _ hrl]; exact xr
      · simp only [bL]
        refine ⟨⟨_, _, by rw [ah _ _ _ (Ne.symm hrl), ag]⟩, fun _ => ⟨trivial, ?_, ag _ _ _, ai (ai (ai hG gl) gr) gl⟩, fun hn => absurd h hn⟩
        rw [ah _ _ _ hrl, ag]
      · simp only [bL]
        refine ⟨⟨_, _, by rw [ah _ _ _ (Ne.symm hrl), ag]⟩, fun hn => absurd hn h, fun _ => ⟨trivial, ?_, ag _ _ _, ai (ai (ai hG gl) gr) gl⟩⟩
        rw [ah _ _ _ hrl, ag]
    · rintro r X' ⟨g1, g2⟩
      by_cases h1 : hs.length = 1
      · obtain ⟨rfl, y1, y2, y3⟩ := g1 h1
        rw [if_pos h1] at hQ
        exact .inl ⟨rfl, hQ X' y1 y2 y3⟩
      · obtain ⟨rfl, y1, y2, y3⟩ := g2 h1
        rw [if_neg h1] at hQ
        refine .inr ⟨rfl, aL y3 hv, ?_⟩
        rw [if_neg (by omega)]
        have hab : above hs ≠ [] := fun e => by rw [e, List.length_nil] at hal; omega
        have hhd : (bQ f (above hs)).headD [] = above hs := by
          cases f with
          | zero => omega
          | succ f => rw [bQ, if_neg hab]; rfl
        rw [hhd]
        refine lvl13 q4 gr gl hrl f (above hs) (.sl 32 (hE (above hs)) false) X' (nR .u8 (hs.getD 0 [])) hab (by omega) (above_32 hs) (by simp [ao]) y1 (by rw [ar]; exact all32_get h32 h0) y2 y3 hQ

/-- Root: the hash, and the error. -/
def rootR (hs : List (List Nat)) : List Nat × Nat := if hs = [] then (List.replicate 32 0, 80) else (rootOf hs, 0)

def s13 : Spec := fun _ args H Q => ∃ x hs, args = [x] ∧ ao H 32 x = some (hE hs) ∧ notR x = true ∧ all32 hs ∧ hs.length ≤ 1073741824 ∧ Q (.tup [.agg (nR .u8 (rootR hs).1), vN .i64 (rootR hs).2]) H

theorem res_cell2 {P : Program} {H : Hp} {t : T} {s s' ty n r : Nat} {cells : List V} {y : V} (ht : t s = .ptr r 0) (hr : H r = some (.row cells)) (hty : tyT P ty = some (true, n)) (hn : cells.length = n) (hy : t s' = y) : ressV P t H [.cell s ty, .tmp s'] = some [.agg cells, y] := by
  simp only [ressV, resV, ht, aJ hr hty hn, Option.bind_some, Option.map_some, hy]

theorem bu25 : bH Try.prog 25 [] = some (.agg (nR .u8 (List.replicate 32 0))) := by kernel_rfl

theorem snd13 : Sound Try.prog 13 s13 := by
  refine ak pm (ap [(35, s35), (49, s49)] (by simp [snd35, snd49])) [] Try.func13 rfl (by kernel_rfl) ?_
  rintro Y args H Q ⟨x, hs, rfl, hv, hx, h32, hl, hQ⟩
  refine ⟨by simp [Try.f13], ?_⟩
  show wpC Try.prog (tab [(35, s35), (49, s49)]) Y [] 20 _ true (aB Try.prog [.cell 2 25, .tmp 3] Q) _ H
  have hly := av (P := Try.prog) sl22 hv
  rw [hE_len] at hly
  repeat (first
    | refine af fun K hS hF => ?_ | refine ac rfl ?_)
  refine aa rfl fun K hK => ⟨_, z25, fun r hr => hK _ _ ?_⟩
  repeat (first
    | (refine aa rfl fun K hK => ?_; simp (disch := omega) only [WW, BB, ↓ab, ↓reduceIte, Int.reduceLT, Int.reduceNeg, Int.reduceLE, Int.reduceToNat, Nat.reduceLT, Nat.reduceEqDiff, Nat.reduceAdd, Nat.reduceMul, Nat.reduceSub, Nat.reduceLeDiff, Nat.reduceBEq, hly]; refine hK _ _ ?_; clear hK) | (refine ae ?_; simp only [TH]; (((repeat ((fail_if_success refine hS _ _ ?_); clear hS)); refine hS _ _ ?_); clear hS; try clear hF)) | refine af fun K hS hF => ?_ | refine ac rfl ?_)
  refine aH rfl (fun hd => ?_) (fun hd => ?_)
  · have hn : hs = [] := List.eq_nil_of_length_eq_zero hd
    rw [rootR, if_pos hn] at hQ
    repeat (first
    | (refine aa rfl fun K hK => ?_; simp (disch := omega) only [WW, BB, ↓ab, ↓reduceIte, Int.reduceLT, Int.reduceNeg, Int.reduceLE, Int.reduceToNat, Nat.reduceLT, Nat.reduceEqDiff, Nat.reduceAdd, Nat.reduceMul, Nat.reduceSub, Nat.reduceLeDiff, Nat.reduceBEq, bu25]; refine hK _ _ ?_; clear hK) | refine af fun K hS hF => ?_ | refine ac rfl ?_)
    refine aa rfl fun K hK => ?_
    simp (disch := omega) only [WW, BB, ↓ab, ↓reduceIte, Int.reduceLT, Int.reduceNeg, Int.reduceLE, Int.reduceToNat, Nat.reduceLT, Nat.reduceEqDiff, Nat.reduceAdd, Nat.reduceMul, Nat.reduceSub, Nat.reduceLeDiff, Nat.reduceBEq]
    refine ⟨_, au (b := r) (ag _ _ _) bb rfl (bk _ _) rfl, hK _ _ ?_⟩
    repeat (first
    | (refine aa rfl fun K hK => ?_; simp (disch := omega) only [WW, BB, ↓ab, ↓reduceIte, Int.reduceLT, Int.reduceNeg, Int.reduceLE, Int.reduceToNat, Nat.reduceLT, Nat.reduceEqDiff, Nat.reduceAdd, Nat.reduceMul, Nat.reduceSub, Nat.reduceLeDiff, Nat.reduceBEq, aJ (P := Try.prog) (t := 25) (ag (upd H r (some (.row (List.replicate 32 (vN .u8 0))))) r (some (.row (nR .u8 (List.replicate 32 0))))) bb rfl]; refine hK _ _ ?_; clear hK) | (refine ae ?_; simp only [TH]; (((repeat ((fail_if_success refine hS _ _ ?_); clear hS)); refine hS _ _ ?_); clear hS; try clear hF)) | (refine al ?_; simp (disch := omega) only [TH, TE, WW, BB, ↓ab, ↓reduceIte, Int.reduceLT, Int.reduceNeg, Int.reduceLE, Int.reduceToNat, Nat.reduceLT, Nat.reduceEqDiff, Nat.reduceAdd, Nat.reduceMul, Nat.reduceSub, Nat.reduceLeDiff, Nat.reduceBEq, aJ (P := Try.prog) (t := 25) (ag (upd H r (some (.row (List.replicate 32 (vN .u8 0))))) r (some (.row (nR .u8 (List.replicate 32 0))))) bb rfl]))
    exact ⟨_, rfl, [], H, ai (ai (aj _) hr) hr, hQ⟩
  · have hne : hs ≠ [] := fun e => hd (by rw [e]; rfl)
    rw [rootR, if_neg hne] at hQ
    (refine am ?_; simp only [TH]; ((repeat ((fail_if_success refine hS _ _ ?_); clear hS)); refine hS _ _ ?_); clear hS; try clear hF)
    repeat (first
    | refine af fun K hS hF => ?_ | refine ac rfl ?_)
    refine aa rfl fun K hK => ⟨_, z25, fun ro hro => hK _ _ ?_⟩
    have hro' := aF hro
    repeat (first
    | (refine aa rfl fun K hK => ?_; simp (disch := omega) only [WW, BB, ↓ab, ↓reduceIte, Int.reduceLT, Int.reduceNeg, Int.reduceLE, Int.reduceToNat, Nat.reduceLT, Nat.reduceEqDiff, Nat.reduceAdd, Nat.reduceMul, Nat.reduceSub, Nat.reduceLeDiff, Nat.reduceBEq]; refine hK _ _ ?_; clear hK) | ((first | refine ae ?_ | refine wpC_label ?_); simp only [TH]; (((repeat ((fail_if_success refine hS _ _ ?_); clear hS)); refine hS _ _ ?_); clear hS; try clear hF)) | refine af fun K hS hF => ?_ | refine ac rfl ?_)
    refine aa rfl fun K hK => ⟨x, rfl, (bd hv).2, fun b hb => hK _ _ ?_⟩
    have hb' := aF hb
    have hb'' := aF hb'.2
    repeat (first
    | (refine ae ?_; simp only [TH]; (((repeat ((fail_if_success refine hS _ _ ?_); clear hS)); refine hS _ _ ?_); clear hS; try clear hF)) | refine ax ?_)
    refine wpC_range (f := 49) (first := []) (caps := [.ptr b 0]) ?_ (by kernel_rfl) fun l ob hl0 => ?_
    · simp (disch := omega) only [WW, BB, ↓ab, ↓reduceIte, Int.reduceLT, Int.reduceNeg, Int.reduceLE, Int.reduceToNat, Nat.reduceLT, Nat.reduceEqDiff, Nat.reduceAdd, Nat.reduceMul, Nat.reduceSub, Nat.reduceLeDiff, Nat.reduceBEq]
    have hl1 := aF hl0
    have hl2 := aF hl1.2
    have hl3 := aF hl2.2
    generalize hG : upd (upd (upd (upd H r (some (.row (List.replicate 32 (vN .u8 0))))) ro (some (.row (List.replicate 32 (vN .u8 0))))) b (some (.row [x]))) ro none = G
    have hHG : hle H G := by rw [← hG]; exact ai (ai (ai (ai (aj _) hr) hro'.2) hb''.2) hro'.2
    have gr : G ro = none := by rw [← hG]; exact ag _ _ _
    have gl : G l = none := by rw [← hG, ah _ _ _ (Ne.symm hl2.1)]; exact hl0
    have grr : G r = some (.row (List.replicate 32 (vN .u8 0))) := by rw [← hG, ah _ _ _ hro'.1, ah _ _ _ hb''.1, ah _ _ _ hro'.1, ag]
    have hGX : ∀ z, hle G (upd (upd (upd (upd H r (some (.row (List.replicate 32 (vN .u8 0))))) ro (some (.row (List.replicate 32 (vN .u8 0))))) b (some (.row [x]))) l z) := fun z => by
      refine ai ?_ gl
      rw [← hG]
      exact hle_del _ _
    refine ⟨l, b, x, hs, hs.length, rfl, ?_, aL (bn hHG (hGX _)) hv, hx, h32, hl, Nat.le_refl _, ?_⟩
    · rw [ah _ _ _ hl1.1, ag]
    refine lvl13 (Y := Y) (ro := ro) ?_ gr gl hl2.1 hs.length hs x _ (List.replicate 32 (vN .u8 0)) hne (Nat.le_refl _) h32 (aL hHG hv) ?_ rfl (ag _ _ _) (hGX _) fun X' w1 w2 w3 => ?_
    · simp (disch := omega) only [WW, BB, ↓ab, ↓reduceIte, Int.reduceLT, Int.reduceNeg, Int.reduceLE, Int.reduceToNat, Nat.reduceLT, Nat.reduceEqDiff, Nat.reduceAdd, Nat.reduceMul, Nat.reduceSub, Nat.reduceLeDiff, Nat.reduceBEq]
    · rw [ah _ _ _ hl2.1, ah _ _ _ hb'.1.symm.symm, ag]
    refine ⟨_, _, w2, by simp, ?_⟩
    simp only [endA, bi, bC, ↓reduceIte]
    have x1 : upd X' l none ro = some (.row (nR .u8 (rootOf hs))) := by rw [ah _ _ _ hl2.1]; exact w1
    refine hS _ _ ?_
    clear hS
    repeat (first
    | (refine aa rfl fun K hK => ?_; simp (disch := omega) only [WW, BB, ↓ab, ↓reduceIte, Int.reduceLT, Int.reduceNeg, Int.reduceLE, Int.reduceToNat, Nat.reduceLT, Nat.reduceEqDiff, Nat.reduceAdd, Nat.reduceMul, Nat.reduceSub, Nat.reduceLeDiff, Nat.reduceBEq, aJ (P := Try.prog) (t := 25) x1 bb (by rw [ar]; exact rootOf_32 hne h32)]; refine hK _ _ ?_; clear hK) | refine af fun K hS hF => ?_ | refine ac rfl ?_)
    refine aa rfl fun K hK => ?_
    simp (disch := omega) only [WW, BB, ↓ab, ↓reduceIte, Int.reduceLT, Int.reduceNeg, Int.reduceLE, Int.reduceToNat, Nat.reduceLT, Nat.reduceEqDiff, Nat.reduceAdd, Nat.reduceMul, Nat.reduceSub, Nat.reduceLeDiff, Nat.reduceBEq]
    refine ⟨_, au (b := r) (cells := List.replicate 32 (vN .u8 0)) ?_ bb (by rw [ar]; exact rootOf_32 hne h32) (bk _ _) rfl, hK _ _ ?_⟩
    · rw [ah _ _ _ hl3.1]; exact w3 _ _ grr
    repeat (first
    | (refine aa rfl fun K hK => ?_; simp (disch := omega) only [WW, BB, ↓ab, ↓reduceIte, Int.reduceLT, Int.reduceNeg, Int.reduceLE, Int.reduceToNat, Nat.reduceLT, Nat.reduceEqDiff, Nat.reduceAdd, Nat.reduceMul, Nat.reduceSub, Nat.reduceLeDiff, Nat.reduceBEq, aJ (P := Try.prog) (t := 25) (ag (upd X' l none) r (some (.row (nR .u8 (rootOf hs))))) bb (by rw [ar]; exact rootOf_32 hne h32)]; refine hK _ _ ?_; clear hK) | (refine ae ?_; simp only [TH]; (((repeat ((fail_if_success refine hS _ _ ?_); clear hS)); refine hS _ _ ?_); clear hS; try clear hF)) | (refine al ?_; simp (disch := omega) only [TH, TE, WW, BB, ↓ab, ↓reduceIte, Int.reduceLT, Int.reduceNeg, Int.reduceLE, Int.reduceToNat, Nat.reduceLT, Nat.reduceEqDiff, Nat.reduceAdd, Nat.reduceMul, Nat.reduceSub, Nat.reduceLeDiff, Nat.reduceBEq, aJ (P := Try.prog) (t := 25) (ag (upd X' l none) r (some (.row (nR .u8 (rootOf hs))))) bb (by rw [ar]; exact rootOf_32 hne h32)]))
    refine ⟨_, rfl, [], H, ?_, hQ⟩
    exact ai (ai (bn hHG w3) hl3.2) hr
end Go.Av

set_option linter.unusedSimpArgs false
set_option linter.unusedVariables false
namespace Go.Av
open Go.RowKit Go.Proofs

/-! ### hashes are bytes -/
theorem outN_lt (st : List Nat) : ∀ n, lt8 (outN st n)
  | 0 => fun x hx => by
    have : x = 0 := by simpa [outN] using hx
    omega
  | n + 1 => by
    rw [outN_succ]
    intro x hx
    rcases List.mem_or_eq_of_mem_set hx with hx | rfl
    · exact outN_lt st n x hx
    · exact Nat.mod_lt _ (by omega)
theorem sumEnd_lt (st rs : List Nat) (m : Nat) : lt8 (sumEnd st rs m) := by
  unfold sumEnd
  split
  · intro x hx
    have := List.eq_of_mem_replicate hx
    omega
  · exact outN_lt _ _
theorem twiceOf_lt (bs : List Nat) : lt8 (aR bs) := sumEnd_lt _ _ _

def okH (h : List Nat) : Prop := h.length = 32 ∧ lt8 h
theorem okH_twice (bs : List Nat) : okH (aR bs) := ⟨bt bs, twiceOf_lt bs⟩
def allH (hs : List (List Nat)) : Prop := ∀ h ∈ hs, okH h
theorem allH_32 {hs : List (List Nat)} (h : allH hs) : all32 hs := fun x hx => (h x hx).1
theorem above_H (hs : List (List Nat)) : allH (above hs) := by
  intro h hm
  obtain ⟨p, _, rfl⟩ := List.mem_map.1 hm
  exact okH_twice _
theorem allH_get {hs : List (List Nat)} (h : allH hs) {i : Nat} (hi : i < hs.length) : okH (hs.getD i []) := by
  rw [List.getD_eq_getElem?_getD, List.getElem?_eq_getElem hi]
  exact h _ (List.getElem_mem hi)
theorem rootF_H : ∀ (f : Nat) (hs : List (List Nat)), hs.length ≤ f → hs ≠ [] → allH hs → okH (rootF f hs)
  | 0, hs, hf, hne, _ => absurd (List.eq_nil_of_length_eq_zero (by omega)) hne
  | f + 1, hs, hf, hne, hH => by
    have h0 : 0 < hs.length := List.length_pos_iff.2 hne
    rw [rootF]
    split
    · exact allH_get hH h0
    · have hl := above_len hs
      exact rootF_H f (above hs) (by omega) (fun e => by rw [e, List.length_nil] at hl; omega) (above_H hs)
theorem rootOf_H {hs : List (List Nat)} (hne : hs ≠ []) (h : allH hs) : okH (rootOf hs) := rootF_H _ _ (Nat.le_refl _) hne h

theorem ag25 : aggEqT Try.prog 25 = true := by kernel_rfl
theorem un25 : Try.prog.underlying 25 = some (.array 32 5) := by kernel_rfl
theorem un5 : Try.prog.underlying 5 = some (.int .u8) := by kernel_rfl
theorem co25 : Try.prog.cellsOf 25 = 32 := by kernel_rfl
theorem co5 : Try.prog.cellsOf 5 = 1 := by kernel_rfl
theorem li25 {h : List Nat} (hh : okH h) : (litsV Try.prog 25 (nR .u8 h)).isSome = true :=
  lits_nR un25 un5 co25 co5 hh.1 (fun x hx => by
    have := hh.2 x hx
    simp only [Lit.wf, IntKind.min, IntKind.max, IntKind.signed, IntKind.bits]
    simp
    omega)
theorem eq25 {a b : List Nat} (ha : okH a) (hb : okH b) : aI Try.prog .eql 25 (.agg (nR .u8 a)) (.agg (nR .u8 b)) = some (.bool (decide (a = b))) := by
  simp only [aI, ag25, li25 ha, li25 hb, and_self, if_true, eqC_nR, eqop]
theorem ne25 {a b : List Nat} (ha : okH a) (hb : okH b) : aI Try.prog .neq 25 (.agg (nR .u8 a)) (.agg (nR .u8 b)) = some (.bool (decide (a ≠ b))) := by
  simp only [aI, ag25, li25 ha, li25 hb, and_self, if_true, eqC_nR, eqop, decide_not]

/-! ### the examples -/
def hA : List Nat := 1 :: List.replicate 31 0
def hB : List Nat := 2 :: List.replicate 31 0
def hC : List Nat := 3 :: List.replicate 31 0
theorem hA_ok : okH hA := ⟨rfl, fun x hx => by simp [hA] at hx; omega⟩
theorem hB_ok : okH hB := ⟨rfl, fun x hx => by simp [hB] at hx; omega⟩
theorem hC_ok : okH hC := ⟨rfl, fun x hx => by simp [hC] at hx; omega⟩
theorem bu25A : bH Try.prog 25 [(0, vN .u8 1)] = some (.agg (nR .u8 hA)) := by kernel_rfl
theorem bu25B : bH Try.prog 25 [(0, vN .u8 2)] = some (.agg (nR .u8 hB)) := by kernel_rfl
theorem bu25C : bH Try.prog 25 [(0, vN .u8 3)] = some (.agg (nR .u8 hC)) := by kernel_rfl
set_option maxRecDepth 100000 in
theorem hAB_ne : (aR (hA ++ hB) == hA) = false := by kernel_rfl

theorem bs22 {S : Nat → Spec} {Y : aC} {H : Hp} {t : T} {Q : V → Hp → Prop} {parts : Array (Nat × Operand)} {n : Nat} {hs : List (List Nat)} {qs : List (Nat × V)} (hq : (parts.toList.map fun (i, x) => (i, evT t x)) = qs) (hn : n * 32 ≤ 16777216)
    (hb : bv 32 (List.replicate n (List.replicate 32 (vN .u8 0))) qs = some (hE hs)) (h : Q (.sl 32 (hE hs) true) H) : wpOp Try.prog S Y false H (evT t) (.buildSlice 22 n parts) Q := by
  refine ⟨32, List.replicate n (List.replicate 32 (vN .u8 0)), hE hs, ?_, hn, by rw [hq]; exact hb, h⟩
  have e1 : Try.prog.underlying 22 = some (.slice 25) := by kernel_rfl
  have e2 : ((Try.prog.info? 25).map fun i => i.size) = some 32 := by kernel_rfl
  cases h3 : Try.prog.info? 25 with
  | none => rw [h3] at e2; cases e2
  | some i =>
    rw [h3] at e2
    simp only [Option.map_some, Option.some.injEq] at e2
    simp only [zeroEs, e1, h3, z25, e2]
    rfl

theorem buildEs1 {a : List Nat} (ha : a.length = 32) (z : List V) : bv 32 [z] [(0, .agg (nR .u8 a))] = some (hE [a]) := by
  simp only [bv, aW]
  rw [if_pos ⟨by rw [ar, ha], by simp⟩]
  rfl
theorem buildEs2 {a b : List Nat} (ha : a.length = 32) (hb : b.length = 32) (z w : List V) : bv 32 [z, w] [(0, .agg (nR .u8 a)), (1, .agg (nR .u8 b))] = some (hE [a, b]) := by
  simp only [bv, aW]
  rw [if_pos ⟨by rw [ar, ha], by simp⟩]
  rw [if_pos ⟨by rw [ar, hb], by simp⟩]
  rfl
theorem buildEs3 {a b c : List Nat} (ha : a.length = 32) (hb : b.length = 32) (hc : c.length = 32) (z w v : List V) : bv 32 [z, w, v] [(0, .agg (nR .u8 a)), (1, .agg (nR .u8 b)), (2, .agg (nR .u8 c))] = some (hE [a, b, c]) := by
  simp only [bv, aW]
  rw [if_pos ⟨by rw [ar, ha], by simp⟩]
  rw [if_pos ⟨by rw [ar, hb], by simp⟩]
  rw [if_pos ⟨by rw [ar, hc], by simp⟩]
  rfl

theorem all32_A : all32 [hA] := fun h hm => by simp at hm; subst hm; rfl
theorem all32_AB : all32 [hA, hB] := fun h hm => by simp at hm; rcases hm with rfl | rfl <;> rfl
theorem all32_ABC : all32 [hA, hB, hC] := fun h hm => by simp at hm; rcases hm with rfl | rfl | rfl <;> rfl

theorem bg {H : Hp} {sz : Nat} {es : List (List V)} {full : Bool} : ao H sz (.sl sz es full) = some es := by simp [ao]

theorem rootR_A : rootR [hA] = (hA, 0) := rfl
theorem rootOf_two (a b : List Nat) : rootOf [a, b] = aR (a ++ b) := by
  rw [rootOf_more _ (by simp)]
  show rootOf [aR (a ++ b)] = _
  rw [rootOf_one]
theorem rootR_AB : rootR [hA, hB] = (aR (hA ++ hB), 0) := by
  rw [rootR, if_neg (by simp), rootOf_two]
theorem rootR_ABC : rootR [hA, hB, hC] = (aR (aR (hA ++ hB) ++ aR (hC ++ hC)), 0) := by
  rw [rootR, if_neg (by simp), rootOf_more _ (by simp)]
  show (rootOf [aR (hA ++ hB), aR (hC ++ hC)], 0) = _
  rw [rootOf_two]

def s12 : Spec := fun _ args H Q => args = [] ∧ Q (.bool true) H

theorem snd12 : Sound Try.prog 12 s12 := by
  refine ak pm (ap [(13, s13), (14, s14)] (by simp [snd13, snd14])) [] Try.func12 rfl (by kernel_rfl) ?_
  rintro Y args H Q ⟨rfl, hQ⟩
  refine ⟨by simp [Try.f12], ?_⟩
  show wpC Try.prog (tab [(13, s13), (14, s14)]) Y [] 72 _ true (aB Try.prog [.tmp 0] Q) _ H
  repeat (first
    | (refine aa rfl fun K hK => ?_; simp (disch := omega) only [WW, BB, ↓ab, ↓reduceIte, Int.reduceLT, Int.reduceNeg, Int.reduceLE, Int.reduceToNat, Nat.reduceLT, Nat.reduceEqDiff, Nat.reduceAdd, Nat.reduceMul, Nat.reduceSub, Nat.reduceLeDiff, Nat.reduceBEq, bu25A, bu25B, bu25C]; refine hK _ _ ?_; clear hK) | (refine ae ?_; simp only [TH]; (((repeat ((fail_if_success refine hS _ _ ?_); clear hS)); refine hS _ _ ?_); clear hS; try clear hF)) | refine af fun K hS hF => ?_ | refine ac rfl ?_)
  refine aa rfl fun K hK => ⟨_, z25, fun a ha => hK _ _ ?_⟩
  refine aa rfl fun K hK => ⟨_, z25, fun b hb => hK _ _ ?_⟩
  refine aa rfl fun K hK => ⟨_, z25, fun c hc => hK _ _ ?_⟩
  have hb' := aF hb
  have hc' := aF hc
  have hc'' := aF hc'.2
  refine aa rfl fun K hK => ?_
  simp (disch := omega) only [WW, BB, ↓ab, ↓reduceIte, Int.reduceLT, Int.reduceNeg, Int.reduceLE, Int.reduceToNat, Nat.reduceLT, Nat.reduceEqDiff, Nat.reduceAdd, Nat.reduceMul, Nat.reduceSub, Nat.reduceLeDiff, Nat.reduceBEq]
  refine ⟨_, au (b := a) (by rw [ah _ _ _ hc''.1, ah _ _ _ hb'.1, ag]) bb rfl (bk _ _) rfl, hK _ _ ?_⟩
  refine aa rfl fun K hK => ?_
  simp (disch := omega) only [WW, BB, ↓ab, ↓reduceIte, Int.reduceLT, Int.reduceNeg, Int.reduceLE, Int.reduceToNat, Nat.reduceLT, Nat.reduceEqDiff, Nat.reduceAdd, Nat.reduceMul, Nat.reduceSub, Nat.reduceLeDiff, Nat.reduceBEq]
  refine ⟨_, au (b := b) (by rw [ah _ _ _ (Ne.symm hb'.1), ah _ _ _ hc'.1, ag]) bb rfl (bk _ _) rfl, hK _ _ ?_⟩
  refine aa rfl fun K hK => ?_
  simp (disch := omega) only [WW, BB, ↓ab, ↓reduceIte, Int.reduceLT, Int.reduceNeg, Int.reduceLE, Int.reduceToNat, Nat.reduceLT, Nat.reduceEqDiff, Nat.reduceAdd, Nat.reduceMul, Nat.reduceSub, Nat.reduceLeDiff, Nat.reduceBEq]
  refine ⟨_, au (b := c) (by rw [ah _ _ _ (Ne.symm hc'.1), ah _ _ _ (Ne.symm hc''.1), ag]) bb rfl (bk _ _) rfl, hK _ _ ?_⟩
  generalize hX : upd (upd (upd (upd (upd (upd H a (some (.row (List.replicate 32 (vN .u8 0))))) b (some (.row (List.replicate 32 (vN .u8 0))))) c (some (.row (List.replicate 32 (vN .u8 0))))) a (some (.row (nR .u8 hA)))) b (some (.row (nR .u8 hB)))) c (some (.row (nR .u8 hC))) = X
  have xa : X a = some (.row (nR .u8 hA)) := by rw [← hX, ah _ _ _ hc''.1, ah _ _ _ hb'.1, ag]
  have xb : X b = some (.row (nR .u8 hB)) := by rw [← hX, ah _ _ _ hc'.1, ag]
  have xc : X c = some (.row (nR .u8 hC)) := by rw [← hX, ag]
  have hHX : hle H X := by rw [← hX]; exact ai (ai (ai (ai (ai (ai (aj _) ha) hb'.2) hc''.2) ha) hb'.2) hc''.2
  clear hX
  have la := aJ (P := Try.prog) (t := 25) xa bb rfl
  repeat (first
    | (refine aa rfl fun K hK => ?_; simp (disch := omega) only [WW, BB, ↓ab, ↓reduceIte, Int.reduceLT, Int.reduceNeg, Int.reduceLE, Int.reduceToNat, Nat.reduceLT, Nat.reduceEqDiff, Nat.reduceAdd, Nat.reduceMul, Nat.reduceSub, Nat.reduceLeDiff, Nat.reduceBEq, la]; refine hK _ _ ?_; clear hK) | (refine ae ?_; simp only [TH]; (((repeat ((fail_if_success refine hS _ _ ?_); clear hS)); refine hS _ _ ?_); clear hS; try clear hF)) | refine af fun K hS hF => ?_ | refine ac rfl ?_)
  refine aa rfl fun K hK => bs22 (hs := [hA]) rfl (by omega) (by simp (disch := omega) only [WW, BB, ↓ab, ↓reduceIte, Int.reduceLT, Int.reduceNeg, Int.reduceLE, Int.reduceToNat, Nat.reduceLT, Nat.reduceEqDiff, Nat.reduceAdd, Nat.reduceMul, Nat.reduceSub, Nat.reduceLeDiff, Nat.reduceBEq]; exact buildEs1 rfl _) (hK _ _ ?_)
  refine aa rfl fun K hK => ⟨.sl 32 (hE [hA]) true, [hA], rfl, bg, rfl, all32_A, by simp, hK _ _ ?_⟩
  rw [rootR_A]
  repeat (refine aa rfl fun K hK => ?_; simp (disch := omega) only [WW, BB, ↓ab, ↓reduceIte, Int.reduceLT, Int.reduceNeg, Int.reduceLE, Int.reduceToNat, Nat.reduceLT, Nat.reduceEqDiff, Nat.reduceAdd, Nat.reduceMul, Nat.reduceSub, Nat.reduceLeDiff, Nat.reduceBEq]; refine hK _ _ ?_; clear hK)
  refine aa rfl fun K hK => ⟨_, z25, fun d hd => hK _ _ ?_⟩
  refine aa rfl fun K hK => ?_
  simp (disch := omega) only [WW, BB, ↓ab, ↓reduceIte, Int.reduceLT, Int.reduceNeg, Int.reduceLE, Int.reduceToNat, Nat.reduceLT, Nat.reduceEqDiff, Nat.reduceAdd, Nat.reduceMul, Nat.reduceSub, Nat.reduceLeDiff, Nat.reduceBEq]
  refine ⟨_, au (b := d) (ag _ _ _) bb rfl (bk _ _) rfl, hK _ _ ?_⟩
  rw [aD]
  have hX1 : hle X (upd X d (some (.row (nR .u8 hA)))) := ai (aj _) hd
  have xd : upd X d (some (.row (nR .u8 hA))) d = some (.row (nR .u8 hA)) := ag _ _ _
  generalize upd X d (some (.row (nR .u8 hA))) = X1 at *
  replace xa := hX1 _ _ xa
  replace xb := hX1 _ _ xb
  replace xc := hX1 _ _ xc
  replace hHX := bn hHX hX1
  clear hX1 hd la X
  have la := aJ (P := Try.prog) (t := 25) xa bb rfl
  have lb := aJ (P := Try.prog) (t := 25) xb bb rfl
  repeat (first
    | (refine aa rfl fun K hK => ?_; simp (disch := omega) only [WW, BB, ↓ab, ↓reduceIte, Int.reduceLT, Int.reduceNeg, Int.reduceLE, Int.reduceToNat, Nat.reduceLT, Nat.reduceEqDiff, Nat.reduceAdd, Nat.reduceMul, Nat.reduceSub, Nat.reduceLeDiff, Nat.reduceBEq, la, lb]; refine hK _ _ ?_; clear hK) | (refine ae ?_; simp only [TH]; (((repeat ((fail_if_success refine hS _ _ ?_); clear hS)); refine hS _ _ ?_); clear hS; try clear hF)) | refine af fun K hS hF => ?_ | refine ac rfl ?_)
  refine aa rfl fun K hK => bs22 (hs := [hA, hB]) rfl (by omega) (by simp (disch := omega) only [WW, BB, ↓ab, ↓reduceIte, Int.reduceLT, Int.reduceNeg, Int.reduceLE, Int.reduceToNat, Nat.reduceLT, Nat.reduceEqDiff, Nat.reduceAdd, Nat.reduceMul, Nat.reduceSub, Nat.reduceLeDiff, Nat.reduceBEq]; exact buildEs2 rfl rfl _ _) (hK _ _ ?_)
  refine aa rfl fun K hK => ⟨.sl 32 (hE [hA, hB]) true, [hA, hB], rfl, bg, rfl, all32_AB, by simp, hK _ _ ?_⟩
  rw [rootR_AB]
  repeat (refine aa rfl fun K hK => ?_; simp (disch := omega) only [WW, BB, ↓ab, ↓reduceIte, Int.reduceLT, Int.reduceNeg, Int.reduceLE, Int.reduceToNat, Nat.reduceLT, Nat.reduceEqDiff, Nat.reduceAdd, Nat.reduceMul, Nat.reduceSub, Nat.reduceLeDiff, Nat.reduceBEq]; refine hK _ _ ?_; clear hK)
  refine aa rfl fun K hK => ⟨_, z25, fun e he => hK _ _ ?_⟩
  refine aa rfl fun K hK => ?_
  simp (disch := omega) only [WW, BB, ↓ab, ↓reduceIte, Int.reduceLT, Int.reduceNeg, Int.reduceLE, Int.reduceToNat, Nat.reduceLT, Nat.reduceEqDiff, Nat.reduceAdd, Nat.reduceMul, Nat.reduceSub, Nat.reduceLeDiff, Nat.reduceBEq]
  refine ⟨_, au (b := e) (ag _ _ _) bb (by rw [ar]; exact bt _) (bk _ _) rfl, hK _ _ ?_⟩
  rw [aD]
  have hX1 : hle X1 (upd X1 e (some (.row (nR .u8 (aR (hA ++ hB)))))) := ai (aj _) he
  have xe : upd X1 e (some (.row (nR .u8 (aR (hA ++ hB))))) e = some (.row (nR .u8 (aR (hA ++ hB)))) := ag _ _ _
  generalize upd X1 e (some (.row (nR .u8 (aR (hA ++ hB))))) = X2 at *
  replace xa := hX1 _ _ xa
  replace xb := hX1 _ _ xb
  replace xc := hX1 _ _ xc
  replace xd := hX1 _ _ xd
  replace hHX := bn hHX hX1
  clear hX1 he la lb X1
  have la := aJ (P := Try.prog) (t := 25) xa bb rfl
  have lb := aJ (P := Try.prog) (t := 25) xb bb rfl
  have lc := aJ (P := Try.prog) (t := 25) xc bb rfl
  repeat (first
    | (refine aa rfl fun K hK => ?_; simp (disch := omega) only [WW, BB, ↓ab, ↓reduceIte, Int.reduceLT, Int.reduceNeg, Int.reduceLE, Int.reduceToNat, Nat.reduceLT, Nat.reduceEqDiff, Nat.reduceAdd, Nat.reduceMul, Nat.reduceSub, Nat.reduceLeDiff, Nat.reduceBEq, la, lb, lc]; refine hK _ _ ?_; clear hK) | (refine ae ?_; simp only [TH]; (((repeat ((fail_if_success refine hS _ _ ?_); clear hS)); refine hS _ _ ?_); clear hS; try clear hF)) | refine af fun K hS hF => ?_ | refine ac rfl ?_)
  refine aa rfl fun K hK => bs22 (hs := [hA, hB, hC]) rfl (by omega) (by simp (disch := omega) only [WW, BB, ↓ab, ↓reduceIte, Int.reduceLT, Int.reduceNeg, Int.reduceLE, Int.reduceToNat, Nat.reduceLT, Nat.reduceEqDiff, Nat.reduceAdd, Nat.reduceMul, Nat.reduceSub, Nat.reduceLeDiff, Nat.reduceBEq]; exact buildEs3 rfl rfl rfl _ _ _) (hK _ _ ?_)
  refine aa rfl fun K hK => ⟨.sl 32 (hE [hA, hB, hC]) true, [hA, hB, hC], rfl, bg, rfl, all32_ABC, by simp, hK _ _ ?_⟩
  rw [rootR_ABC]
  repeat (refine aa rfl fun K hK => ?_; simp (disch := omega) only [WW, BB, ↓ab, ↓reduceIte, Int.reduceLT, Int.reduceNeg, Int.reduceLE, Int.reduceToNat, Nat.reduceLT, Nat.reduceEqDiff, Nat.reduceAdd, Nat.reduceMul, Nat.reduceSub, Nat.reduceLeDiff, Nat.reduceBEq]; refine hK _ _ ?_; clear hK)
  refine aa rfl fun K hK => ⟨_, z25, fun f hf => hK _ _ ?_⟩
  refine aa rfl fun K hK => ?_
  simp (disch := omega) only [WW, BB, ↓ab, ↓reduceIte, Int.reduceLT, Int.reduceNeg, Int.reduceLE, Int.reduceToNat, Nat.reduceLT, Nat.reduceEqDiff, Nat.reduceAdd, Nat.reduceMul, Nat.reduceSub, Nat.reduceLeDiff, Nat.reduceBEq]
  refine ⟨_, au (b := f) (ag _ _ _) bb (by rw [ar]; exact bt _) (bk _ _) rfl, hK _ _ ?_⟩
  rw [aD]
  have hX1 : hle X2 (upd X2 f (some (.row (nR .u8 (aR (aR (hA ++ hB) ++ aR (hC ++ hC))))))) := ai (aj _) hf
  have xf : upd X2 f (some (.row (nR .u8 (aR (aR (hA ++ hB) ++ aR (hC ++ hC)))))) f = some (.row (nR .u8 (aR (aR (hA ++ hB) ++ aR (hC ++ hC))))) := ag _ _ _
  generalize upd X2 f (some (.row (nR .u8 (aR (aR (hA ++ hB) ++ aR (hC ++ hC)))))) = X3 at *
  replace xa := hX1 _ _ xa
  replace xb := hX1 _ _ xb
  replace xc := hX1 _ _ xc
  replace xd := hX1 _ _ xd
  replace xe := hX1 _ _ xe
  replace hHX := bn hHX hX1
  clear hX1 hf la lb lc X2
  have la := aJ (P := Try.prog) (t := 25) xa bb rfl
  have lb := aJ (P := Try.prog) (t := 25) xb bb rfl
  have lc := aJ (P := Try.prog) (t := 25) xc bb rfl
  have ld := aJ (P := Try.prog) (t := 25) xd bb rfl
  have le := aJ (P := Try.prog) (t := 25) xe bb (by rw [ar]; exact bt _)
  have lf := aJ (P := Try.prog) (t := 25) xf bb (by rw [ar]; exact bt _)
  repeat (first
    | (refine aa rfl fun K hK => ?_; simp (disch := omega) only [WW, BB, ↓ab, ↓reduceIte, Int.reduceLT, Int.reduceNeg, Int.reduceLE, Int.reduceToNat, Nat.reduceLT, Nat.reduceEqDiff, Nat.reduceAdd, Nat.reduceMul, Nat.reduceSub, Nat.reduceLeDiff, Nat.reduceBEq]; refine hK _ _ ?_; clear hK) | (refine ae ?_; simp only [TH]; (((repeat ((fail_if_success refine hS _ _ ?_); clear hS)); refine hS _ _ ?_); clear hS; try clear hF)) | refine af fun K hS hF => ?_)
  refine wpC_cut (F := fun t' => t' 1 = .ptr a 0 ∧ t' 2 = .ptr b 0 ∧ t' 3 = .ptr c 0 ∧ t' 4 = .ptr d 0 ∧ t' 5 = vN .i64 0 ∧ t' 6 = .ptr e 0 ∧ t' 7 = vN .i64 0 ∧ t' 8 = .ptr f 0 ∧ t' 9 = vN .i64 0) ⟨?_, ?_, ?_, ?_, ?_, ?_, ?_, ?_, ?_⟩ ?_
  · simp (disch := omega) only [WW, BB, ↓ab, ↓reduceIte, Int.reduceLT, Int.reduceNeg, Int.reduceLE, Int.reduceToNat, Nat.reduceLT, Nat.reduceEqDiff, Nat.reduceAdd, Nat.reduceMul, Nat.reduceSub, Nat.reduceLeDiff, Nat.reduceBEq]
  · simp (disch := omega) only [WW, BB, ↓ab, ↓reduceIte, Int.reduceLT, Int.reduceNeg, Int.reduceLE, Int.reduceToNat, Nat.reduceLT, Nat.reduceEqDiff, Nat.reduceAdd, Nat.reduceMul, Nat.reduceSub, Nat.reduceLeDiff, Nat.reduceBEq]
  · simp (disch := omega) only [WW, BB, ↓ab, ↓reduceIte, Int.reduceLT, Int.reduceNeg, Int.reduceLE, Int.reduceToNat, Nat.reduceLT, Nat.reduceEqDiff, Nat.reduceAdd, Nat.reduceMul, Nat.reduceSub, Nat.reduceLeDiff, Nat.reduceBEq]
  · simp (disch := omega) only [WW, BB, ↓ab, ↓reduceIte, Int.reduceLT, Int.reduceNeg, Int.reduceLE, Int.reduceToNat, Nat.reduceLT, Nat.reduceEqDiff, Nat.reduceAdd, Nat.reduceMul, Nat.reduceSub, Nat.reduceLeDiff, Nat.reduceBEq]
  · simp (disch := omega) only [WW, BB, ↓ab, ↓reduceIte, Int.reduceLT, Int.reduceNeg, Int.reduceLE, Int.reduceToNat, Nat.reduceLT, Nat.reduceEqDiff, Nat.reduceAdd, Nat.reduceMul, Nat.reduceSub, Nat.reduceLeDiff, Nat.reduceBEq]
  · simp (disch := omega) only [WW, BB, ↓ab, ↓reduceIte, Int.reduceLT, Int.reduceNeg, Int.reduceLE, Int.reduceToNat, Nat.reduceLT, Nat.reduceEqDiff, Nat.reduceAdd, Nat.reduceMul, Nat.reduceSub, Nat.reduceLeDiff, Nat.reduceBEq]
  · simp (disch := omega) only [WW, BB, ↓ab, ↓reduceIte, Int.reduceLT, Int.reduceNeg, Int.reduceLE, Int.reduceToNat, Nat.reduceLT, Nat.reduceEqDiff, Nat.reduceAdd, Nat.reduceMul, Nat.reduceSub, Nat.reduceLeDiff, Nat.reduceBEq]
  · simp (disch := omega) only [WW, BB, ↓ab, ↓reduceIte, Int.reduceLT, Int.reduceNeg, Int.reduceLE, Int.reduceToNat, Nat.reduceLT, Nat.reduceEqDiff, Nat.reduceAdd, Nat.reduceMul, Nat.reduceSub, Nat.reduceLeDiff, Nat.reduceBEq]
  · simp (disch := omega) only [WW, BB, ↓ab, ↓reduceIte, Int.reduceLT, Int.reduceNeg, Int.reduceLE, Int.reduceToNat, Nat.reduceLT, Nat.reduceEqDiff, Nat.reduceAdd, Nat.reduceMul, Nat.reduceSub, Nat.reduceLeDiff, Nat.reduceBEq]
  rintro t1 ⟨q1, q2, q3, q4, q5, q6, q7, q8, q9⟩
  have hne : decide (aR (hA ++ hB) ≠ hA) = true := by
    refine decide_eq_true fun h => ?_
    have := hAB_ne
    rw [h] at this
    simp at this
  have o1 := okH_twice (hA ++ hB)
  have o2 := okH_twice (hC ++ hC)
  have o3 := okH_twice (aR (hA ++ hB) ++ aR (hC ++ hC))
  generalize hw1 : aR (hA ++ hB) = w1 at *
  generalize hw2 : aR (hC ++ hC) = w2 at *
  generalize hw3 : aR (w1 ++ w2) = w3 at *
  have e1 := eq25 hA_ok hA_ok
  have e2 := eq25 o1 o1
  have e3 := eq25 o3 o3
  have e4 := ne25 o1 hA_ok
  rw [hne] at e4
  simp only [decide_true] at e1 e2 e3
  refine bJ 38 (by kernel_rfl) rfl rfl ?_
  repeat (refine aQ rfl fun K hK => ?_; simp (disch := omega) only [WW, BB, ↓ab, ↓reduceIte, Int.reduceLT, Int.reduceNeg, Int.reduceLE, Int.reduceToNat, Nat.reduceLT, Nat.reduceEqDiff, Nat.reduceAdd, Nat.reduceMul, Nat.reduceSub, Nat.reduceLeDiff, Nat.reduceBEq, q1, q2, q3, q4, q5, q6, q7, q8, q9, la, lb, lc, ld, le, lf, wpBin_A, e1, e2, eq_self, decide_true, hw1, hw2]; (first | refine ⟨_, ⟨rfl, by first | rfl | trivial⟩, hK _ ?_⟩ | refine ⟨_, ⟨_, _, rfl, by decide, by decide, rfl, by first | rfl | trivial⟩, hK _ ?_⟩); clear hK)
  refine aQ rfl fun K hK => ⟨.agg (nR .u8 w3), ⟨w1, w2, ?_, o1.1, o2.1, ?_⟩, hK _ ?_⟩
  · simp (disch := omega) only [WW, BB, ↓ab, ↓reduceIte, Int.reduceLT, Int.reduceNeg, Int.reduceLE, Int.reduceToNat, Nat.reduceLT, Nat.reduceEqDiff, Nat.reduceAdd, Nat.reduceMul, Nat.reduceSub, Nat.reduceLeDiff, Nat.reduceBEq, hw1, hw2]
  · rw [hw3]
    exact ⟨rfl, rfl⟩
  repeat (first
    | ((first | refine aa rfl fun K hK => ?_ | refine aQ rfl fun K hK => ?_); simp (disch := omega) only [WW, BB, ↓ab, ↓reduceIte, Int.reduceLT, Int.reduceNeg, Int.reduceLE, Int.reduceToNat, Nat.reduceLT, Nat.reduceEqDiff, Nat.reduceAdd, Nat.reduceMul, Nat.reduceSub, Nat.reduceLeDiff, Nat.reduceBEq, q1, q2, q3, q4, q5, q6, q7, q8, q9, la, lb, lc, ld, le, lf, wpBin_A, e3, e4, eq_self, decide_true]; (first | refine hK _ _ ?_ | refine ⟨_, ⟨rfl, by first | rfl | trivial⟩, hK _ ?_⟩); clear hK) | refine bx ?_ | (refine ae ?_; simp only [TH]; (((repeat ((fail_if_success refine hS _ _ ?_); clear hS)); refine hS _ _ ?_); clear hS; try clear hF)) | (refine al ?_; simp (disch := omega) only [TH, TE, WW, BB, ↓ab, ↓reduceIte, Int.reduceLT, Int.reduceNeg, Int.reduceLE, Int.reduceToNat, Nat.reduceLT, Nat.reduceEqDiff, Nat.reduceAdd, Nat.reduceMul, Nat.reduceSub, Nat.reduceLeDiff, Nat.reduceBEq, q1, q2, q3, q4, q5, q6, q7, q8, q9, la, lb, lc, ld, le, lf, wpBin_A, e3, e4, eq_self, decide_true]))
  exact ⟨_, rfl, [], H, hHX, hQ⟩
end Go.Av

set_option linter.unusedSimpArgs false
set_option linter.unusedVariables false
namespace Go.Av
open Go.RowKit Go.Proofs

def s53 : Spec := fun _ args H Q => ∃ h b x hs, args = [.agg (nR .u8 h), .ptr b 0] ∧ H b = some (.row [x]) ∧ ao H 32 x = some (hE hs) ∧ hs ≠ [] ∧ okH h ∧ allH hs ∧ Q (.bool (decide (h ≠ hs.getD 0 []))) H

theorem snd53 : Sound Try.prog 53 s53 := by
  refine ak pm (ap [] (by simp)) [] Try.func53 rfl (by kernel_rfl) ?_
  rintro Y args H Q ⟨h, b, x, hs, rfl, hb, hv, hne, hh, hH, hQ⟩
  refine ⟨by simp [Try.f53], ?_⟩
  show wpC Try.prog (tab []) Y [] 9 _ true (aB Try.prog [.tmp 3] Q) _ H
  have h0 : 0 < hs.length := List.length_pos_iff.2 hne
  repeat (first
    | refine af fun K hS hF => ?_ | refine ac rfl ?_)
  refine aa rfl fun K hK => ⟨nR .u8 h, rfl, fun c hc => hK _ _ ?_⟩
  have hle1 : hle H (upd H c (some (.row (nR .u8 h)))) := ai (aj _) hc
  have xb := hle1 _ _ hb
  have xc := ag H c (some (.row (nR .u8 h)))
  have hv1 := aL hle1 hv
  generalize upd H c (some (.row (nR .u8 h))) = X at *
  obtain ⟨p, hp, hpl⟩ := bc (P := Try.prog) (k := .i64) ar22 sl22 hv1 (hE_get hs 0 h0) (by rw [ar]; exact (allH_get hH h0).1)
  repeat (first
    | (refine aa rfl fun K hK => ?_; simp (disch := omega) only [WW, BB, ↓ab, simprocAttr]; refine hK _ _ ?_; clear hK) | (refine ae ?_; simp only [TH]; (((repeat ((fail_if_success refine hS _ _ ?_); clear hS)); refine hS _ _ ?_); clear hS; try clear hF)) | refine af fun K hS hF => ?_)
  refine bJ 5 (by kernel_rfl) rfl rfl ?_
  have e1 := ne25 hh (allH_get hH h0)
  have lc := aJ (P := Try.prog) (t := 25) xc bb (by rw [ar]; exact hh.1)
  rw [bb] at lc
  repeat (first
    | ((first | refine aa rfl fun K hK => ?_ | refine aQ rfl fun K hK => ?_); simp (disch := omega) only [WW, BB, ↓ab, simprocAttr, lc, aw (off := 0) xb ty22 rfl, hp, hpl, bb, wpBin_A, e1]; (first | refine hK _ _ ?_ | refine ⟨_, ⟨rfl, by first | rfl | trivial⟩, hK _ ?_⟩); clear hK) | refine bx ?_ | (refine ae ?_; simp only [TH]; (((repeat ((fail_if_success refine hS _ _ ?_); clear hS)); refine hS _ _ ?_); clear hS; try clear hF)) | (refine al ?_; simp (disch := omega) only [TH, TE, WW, BB, ↓ab, simprocAttr, lc, aw (off := 0) xb ty22 rfl, hp, hpl, bb, wpBin_A, e1]))
  exact ⟨_, rfl, [], H, hle1, hQ⟩

def differs (hs : List (List Nat)) : Bool := hs.any fun h => decide (h ≠ hs.getD 0 [])

def s71 : Spec := fun _ args H Q => ∃ x b y hs, args = [x, .fn (.func 53) [] [.ptr b 0]] ∧ H b = some (.row [y]) ∧ ao H 32 y = some (hE hs) ∧ ao H 32 x = some (hE hs) ∧ allH hs ∧ hs.length ≤ 1073741824 ∧ ∀ n : Int, decide (n ≥ 0) = differs hs → Q (.int .i64 n) H

theorem snd71 : Sound Try.prog 71 s71 := by
  refine ak pm (ap [(53, s53)] (by simp [snd53])) [] Try.func71 rfl (by kernel_rfl) ?_
  rintro Y args H Q ⟨x, b, y, hs, rfl, hb, hvy, hv, hH, hl, hQ⟩
  refine ⟨by simp [Try.f71], ?_⟩
  show wpC Try.prog (tab [(53, s53)]) Y [] 19 _ true (aB Try.prog [.tmp 4] Q) _ H
  have hly := av (P := Try.prog) sl22 hv
  rw [hE_len] at hly
  repeat (first
    | (refine aa rfl fun K hK => ?_; simp (disch := omega) only [WW, BB, ↓ab, simprocAttr, hly]; refine hK _ _ ?_; clear hK) | (refine ae ?_; simp only [TH]; (((repeat ((fail_if_success refine hS _ _ ?_); clear hS)); refine hS _ _ ?_); clear hS; try clear hF)) | refine af fun K hS hF => ?_ | refine ac rfl ?_ | refine ax ?_)
  refine aO (fun m t X => ∃ i, m = hs.length - i ∧ i ≤ hs.length ∧ t 0 = x ∧ t 1 = .fn (.func 53) [] [.ptr b 0] ∧ t 7 = vN .i64 hs.length ∧ t 8 = vN .i64 i ∧ X = H ∧ (hs.take i).any (fun h => decide (h ≠ hs.getD 0 [])) = false) hs.length ⟨0, rfl, by omega, rfl, rfl, rfl, rfl, rfl, rfl⟩ fun KL m t X hI hKL => ?_
  obtain ⟨i, rfl, hi, q0, q1, q7, q8, rfl, hno⟩ := hI
  repeat (first
    | (refine aa rfl fun K hK => ?_; simp (disch := omega) only [WW, BB, ↓ab, simprocAttr, q7, q8]; refine hK _ _ ?_; clear hK) | (refine ae ?_; simp only [TH]; (((repeat ((fail_if_success refine hS _ _ ?_); clear hS)); refine hS _ _ ?_); clear hS; try clear hF)) | refine af fun K hS hF => ?_ | refine ac rfl ?_)
  refine aH rfl (fun hd => ?_) (fun hd => ?_)
  · (refine am ?_; simp only [TH]; ((repeat ((fail_if_success refine hS _ _ ?_); clear hS)); refine hS _ _ ?_); clear hS; try clear hF)
    obtain ⟨p, hp, hpl⟩ := bc (P := Try.prog) (k := .i64) ar22 sl22 hv (hE_get hs i hd) (by rw [ar]; exact (allH_get hH hd).1)
    have hne : hs ≠ [] := fun e => by subst e; simp at hd
    have htk : hs.take (i + 1) = hs.take i ++ [hs.getD i []] := by
      rw [List.take_succ_eq_append_getElem hd, List.getD_eq_getElem?_getD, List.getElem?_eq_getElem hd]
      rfl
    repeat (first
    | (refine aa rfl fun K hK => ?_; simp (disch := omega) only [WW, BB, ↓ab, simprocAttr, q0, q1, q8, hp, hpl, bb]; refine hK _ _ ?_; clear hK) | (refine ae ?_; simp only [TH]; (((repeat ((fail_if_success refine hS _ _ ?_); clear hS)); refine hS _ _ ?_); clear hS; try clear hF)) | refine af fun K hS hF => ?_ | refine ac rfl ?_)
    refine aa rfl fun K hK => ?_
    simp (disch := omega) only [WW, BB, ↓ab, simprocAttr, q1]
    refine ⟨hs.getD i [], b, y, hs, rfl, hb, hvy, hne, allH_get hH hd, hH, hK _ _ ?_⟩
    repeat (refine ae ?_; simp only [TH]; (((repeat ((fail_if_success refine hS _ _ ?_); clear hS)); refine hS _ _ ?_); clear hS; try clear hF))
    refine wpC_cond rfl (fun h1 => ?_) (fun h1 => ?_)
    · repeat (first
    | (refine aa rfl fun K hK => ?_; simp (disch := omega) only [WW, BB, ↓ab, simprocAttr, q8]; refine hK _ _ ?_; clear hK) | (refine ae ?_; simp only [TH]; (((repeat ((fail_if_success refine hS _ _ ?_); clear hS)); refine hS _ _ ?_); clear hS; try clear hF)) | refine af fun K hS hF => ?_ | refine ac rfl ?_ | (refine al ?_; simp (disch := omega) only [TH, TE, WW, BB, ↓ab, simprocAttr, q8]))
      refine ⟨_, rfl, [], _, aj _, hQ _ ?_⟩
      have e1 : differs hs = true := by
        refine List.any_eq_true.2 ⟨hs.getD i [], ?_, h1⟩
        rw [List.getD_eq_getElem?_getD, List.getElem?_eq_getElem hd]
        exact List.getElem_mem hd
      rw [e1]
      exact decide_eq_true (by omega)
    · (refine am ?_; simp only [TH]; ((repeat ((fail_if_success refine hS _ _ ?_); clear hS)); refine hS _ _ ?_); clear hS; try clear hF)
      repeat (first
    | (refine aa rfl fun K hK => ?_; simp (disch := omega) only [WW, BB, ↓ab, simprocAttr, q8, aP]; refine hK _ _ ?_; clear hK) | (refine ae ?_; simp only [TH]; first | (((repeat ((fail_if_success refine hS _ _ ?_); clear hS)); refine hS _ _ ?_); clear hS; try clear hF) | skip) | refine ac rfl ?_)
      refine hKL _ _ _ (by omega : hs.length - (i + 1) < hs.length - i) ⟨i + 1, rfl, by omega, ?_, ?_, ?_, ?_, rfl, ?_⟩
      · simp (disch := omega) only [WW, BB, ↓ab, simprocAttr, q0]
      · simp (disch := omega) only [WW, BB, ↓ab, simprocAttr, q1]
      · simp (disch := omega) only [WW, BB, ↓ab, simprocAttr, q7]
      · simp (disch := omega) only [WW, BB, ↓ab, simprocAttr]
      · rw [htk, List.any_append, hno]
        simp only [List.any_cons, List.any_nil, Bool.or_false, Bool.false_or]
        exact h1
  · (refine aG ?_; simp only [TH, ↓reduceIte, Nat.reduceEqDiff]; ((repeat ((fail_if_success refine hS _ _ ?_); clear hS)); refine hS _ _ ?_); clear hS; try clear hF)
    have : i = hs.length := by omega
    subst this
    repeat (first
    | (refine aa rfl fun K hK => ?_; simp (disch := omega) only [WW, BB, ↓ab, simprocAttr]; refine hK _ _ ?_; clear hK) | (refine ae ?_; simp only [TH]; (((repeat ((fail_if_success refine hS _ _ ?_); clear hS)); refine hS _ _ ?_); clear hS; try clear hF)) | refine af fun K hS hF => ?_ | refine ac rfl ?_ | (refine al ?_; simp (disch := omega) only [TH, TE, WW, BB, ↓ab, simprocAttr]))
    refine ⟨_, rfl, [], _, aj _, hQ _ ?_⟩
    rw [List.take_of_length_le (Nat.le_refl _)] at hno
    rw [differs, hno]
    rfl

def s52 : Spec := fun _ args H Q => ∃ x b y hs, args = [x, .fn (.func 53) [] [.ptr b 0]] ∧ H b = some (.row [y]) ∧ ao H 32 y = some (hE hs) ∧ ao H 32 x = some (hE hs) ∧ allH hs ∧ hs.length ≤ 1073741824 ∧ Q (.bool (differs hs)) H

theorem snd52 : Sound Try.prog 52 s52 := by
  refine ak pm (ap [(71, s71)] (by simp [snd71])) [] Try.func52 rfl (by kernel_rfl) ?_
  rintro Y args H Q ⟨x, b, y, hs, rfl, hb, hvy, hv, hH, hl, hQ⟩
  refine ⟨by simp [Try.f52], ?_⟩
  show wpC Try.prog (tab [(71, s71)]) Y [] 9 _ true (aB Try.prog [.tmp 4] Q) _ H
  repeat (first
    | (refine aa rfl fun K hK => ?_; simp (disch := omega) only [WW, BB, ↓ab, simprocAttr]; refine hK _ _ ?_; clear hK) | (refine ae ?_; simp only [TH]; (((repeat ((fail_if_success refine hS _ _ ?_); clear hS)); refine hS _ _ ?_); clear hS; try clear hF)) | refine af fun K hS hF => ?_ | refine ac rfl ?_)
  refine aa rfl fun K hK => ⟨x, b, y, hs, rfl, hb, hvy, hv, hH, hl, fun n hn => hK _ _ ?_⟩
  have e1 : aI Try.prog .geq 3 (.int .i64 n) (vN .i64 0) = some (.bool (differs hs)) := by
    rw [← hn]
    simp only [vN, aZ, bz]
    rfl
  have e2 : ∀ (H : Hp) (Q : V → Hp → Prop), wpBin Try.prog H .geq 3 (.int .i64 n) (vN .i64 0) Q = val (aI Try.prog .geq 3 (.int .i64 n) (vN .i64 0)) H Q := fun _ _ => rfl
  repeat (first
    | (refine aa rfl fun K hK => ?_; simp (disch := omega) only [WW, BB, ↓ab, simprocAttr, e2, e1]; refine hK _ _ ?_; clear hK) | (refine ae ?_; simp only [TH]; (((repeat ((fail_if_success refine hS _ _ ?_); clear hS)); refine hS _ _ ?_); clear hS; try clear hF)) | (refine al ?_; simp (disch := omega) only [TH, TE, WW, BB, ↓ab, simprocAttr, e2, e1]))
  exact ⟨_, rfl, [], _, aj _, hQ⟩

def s38 : Spec := fun _ args H Q => ∃ x hs, args = [x] ∧ ao H 32 x = some (hE hs) ∧ allH hs ∧ hs.length ≤ 1073741824 ∧ Q (.bool (!differs hs)) H

theorem snd38 : Sound Try.prog 38 s38 := by
  refine ak pm (ap [(52, s52)] (by simp [snd52])) [] Try.func38 rfl (by kernel_rfl) ?_
  rintro Y args H Q ⟨x, hs, rfl, hv, hH, hl, hQ⟩
  refine ⟨by simp [Try.f38], ?_⟩
  show wpC Try.prog (tab [(52, s52)]) Y [] 7 _ true (aB Try.prog [.tmp 2] Q) _ H
  repeat (first
    | refine af fun K hS hF => ?_ | refine ac rfl ?_)
  refine aa rfl fun K hK => ⟨[x], (bd hv).2, fun b hb => hK _ _ ?_⟩
  have hle1 : hle H (upd H b (some (.row [x]))) := ai (aj _) hb
  have xb := ag H b (some (.row [x]))
  have hv1 := aL hle1 hv
  generalize upd H b (some (.row [x])) = X at *
  repeat (first
    | (refine aa rfl fun K hK => ?_; simp (disch := omega) only [WW, BB, ↓ab, simprocAttr, aw (off := 0) xb ty22 rfl]; refine hK _ _ ?_; clear hK) | (refine ae ?_; simp only [TH]; (((repeat ((fail_if_success refine hS _ _ ?_); clear hS)); refine hS _ _ ?_); clear hS; try clear hF)) | refine af fun K hS hF => ?_ | refine ac rfl ?_)
  refine aa rfl fun K hK => ⟨x, b, x, hs, rfl, xb, hv1, hv1, hH, hl, hK _ _ ?_⟩
  repeat (first
    | (refine aa rfl fun K hK => ?_; simp (disch := omega) only [WW, BB, ↓ab, simprocAttr]; refine hK _ _ ?_; clear hK) | (refine ae ?_; simp only [TH]; (((repeat ((fail_if_success refine hS _ _ ?_); clear hS)); refine hS _ _ ?_); clear hS; try clear hF)) | (refine al ?_; simp (disch := omega) only [TH, TE, WW, BB, ↓ab, simprocAttr]))
  exact ⟨_, rfl, [], _, hle1, hQ⟩
end Go.Av

set_option linter.unusedSimpArgs false
set_option linter.unusedVariables false
namespace Go.Av
open Go.RowKit Go.Proofs

def swAt (lv : List (List Nat)) (i : Nat) : Bool := decide (2 * i + 1 < lv.length) && !differs [((aN lv).getD i ([], [])).1, ((aN lv).getD i ([], [])).2]
def swLv (lv : List (List Nat)) : Bool := (List.range (aN lv).length).any (swAt lv)
def swollen (hs : List (List Nat)) : Bool := (bQ hs.length hs).any swLv

theorem sa84 (d : Nat) : bf Try.prog 84 (.ptr d 0) none none none = some (.rsl d 0 2 32) := by
  simp [bf, ar84, sliceArr, bnd]
theorem view_pair {X : Hp} {d : Nat} {a b : List Nat} (hd : X d = some (.row (nR .u8 (a ++ b)))) (ha : a.length = 32) (hb : b.length = 32) : ao X 32 (.rsl d 0 2 32) = some (hE [a, b]) := by
  simp only [ao, hd]
  rw [if_pos ⟨trivial, by rw [ar, List.length_append, ha, hb]; omega⟩]
  have la : (nR .u8 a).length = 32 := by rw [ar, ha]
  have lb : (nR .u8 b).length = 32 := by rw [ar, hb]
  simp only [bG, List.drop_zero, hE, List.map_cons, List.map_nil, ← nR_append]
  rw [List.take_append_of_le_length (by omega), List.take_of_length_le (by omega), List.drop_append_of_le_length (by omega), List.drop_of_length_le (by omega), List.nil_append, List.take_of_length_le (by omega)]

theorem pairsOf_H : ∀ hs : List (List Nat), allH hs → ∀ p ∈ aN hs, okH p.1 ∧ okH p.2
  | [], _ => fun p hp => by simp [aN] at hp
  | [a], h => fun p hp => by
    simp only [aN, List.mem_singleton] at hp
    subst hp
    exact ⟨h a (by simp), h a (by simp)⟩
  | a :: b :: r, h => fun p hp => by
    simp only [aN, List.mem_cons] at hp
    rcases hp with rfl | hp
    · exact ⟨h a (by simp), h b (by simp)⟩
    · exact pairsOf_H r (fun x hx => h x (by simp [hx])) p hp

theorem ty4 : tyT Try.prog 4 = some (false, 1) := by kernel_rfl
theorem z4 : zeroT Try.prog 4 = some [.bool false] := by kernel_rfl

section
variable {Y : aC} {Q : Exit → T → Hp → Prop} {t : T} {G X : Hp} {r : Nat} {v : V} {lv : List (List Nat)}

theorem l15 (q2 : t 2 = .ptr r 0) (q3 : t 3 = v) (q10 : t 10 = .sl 64 (pE (aN lv)) false) (q11 : t 11 = vN .i64 (aN lv).length) (q12 : t 12 = vN .i64 0) (xr : X r = some (.row [.bool false])) (hv : ao G 32 v = some (hE lv)) (hH : allH lv) (hl : lv.length ≤ 1073741824)
    (gr : G r = none) (hG : hle G X)
    (h1 : swLv lv = true → ∀ t' X', X' r = some (.row [.bool true]) → hle G X' → (∀ j y, j ≠ r → X j = some y → X' j = some y) → Q .ret t' X')
    (h2 : swLv lv = false → ∀ t' X', X' r = some (.row [.bool false]) → hle G X' → (∀ j y, j ≠ r → X j = some y → X' j = some y) → Q (.exit 2) t' X') :
    wpC Try.prog (tab [(35, s35), (37, s37), (38, s38), (49, s49)]) Y [] 28 (aU Try.f15 1) false Q t X := by
  have hplen := pairsOf_len lv
  refine aO (fun m t' X' => ∃ i, m = (aN lv).length - i ∧ i ≤ (aN lv).length ∧ t' 2 = .ptr r 0 ∧ t' 3 = v ∧ t' 10 = .sl 64 (pE (aN lv)) false ∧ t' 11 = vN .i64 (aN lv).length ∧ t' 12 = vN .i64 i ∧ X' r = some (.row [.bool false]) ∧ hle G X' ∧ (∀ j y, j ≠ r → X j = some y → X' j = some y) ∧ (List.range i).any (swAt lv) = false)
    (aN lv).length ⟨0, rfl, by omega, q2, q3, q10, q11, q12, xr, hG, fun _ _ _ h => h, rfl⟩ fun KL m t1 X1 hI hKL => ?_
  clear q2 q3 q10 q11 q12
  obtain ⟨i, rfl, hi, q2, q3, q10, q11, q12, x1, hG1, hX1, hno⟩ := hI
  have hlv := av (P := Try.prog) sl22 hv
  rw [hE_len] at hlv
  repeat (first
    | (refine aa rfl fun K hK => ?_; simp (disch := omega) only [WW, BB, ↓ab, simprocAttr, q11, q12]; refine hK _ _ ?_; clear hK) | (refine ae ?_; simp only [TH]; (((repeat ((fail_if_success refine hS _ _ ?_); clear hS)); refine hS _ _ ?_); clear hS; try clear hF)) | refine af fun K hS hF => ?_ | refine ac rfl ?_)
  refine aH rfl (fun hd => ?_) (fun hd => ?_)
  · (refine am ?_; simp only [TH]; ((repeat ((fail_if_success refine hS _ _ ?_); clear hS)); refine hS _ _ ?_); clear hS; try clear hF)
    obtain ⟨g1, g2⟩ : okH ((aN lv).getD i ([], [])).1 ∧ okH ((aN lv).getD i ([], [])).2 := by
      rw [List.getD_eq_getElem?_getD, List.getElem?_eq_getElem hd]
      exact pairsOf_H lv hH _ (List.getElem_mem hd)
    have hvp : ao X1 64 (.sl 64 (pE (aN lv)) false) = some (pE (aN lv)) := bg
    obtain ⟨p, hp, hpl⟩ := bc (P := Try.prog) (k := .i64) ar81 sl81 hvp (pE_get _ i hd) (by rw [ar, List.length_append, g1.1, g2.1])
    have hsw : swAt lv i = (decide (2 * i + 1 < lv.length) && !differs [((aN lv).getD i ([], [])).1, ((aN lv).getD i ([], [])).2]) := rfl
    have hrs : (List.range (i + 1)).any (swAt lv) = swAt lv i := by
      rw [List.range_succ, List.any_append, hno]
      simp only [List.any_cons, List.any_nil, Bool.or_false, Bool.false_or]
    have hall : swAt lv i = true → swLv lv = true := fun h => List.any_eq_true.2 ⟨i, List.mem_range.2 hd, h⟩
    generalize ((aN lv).getD i ([], [])).1 = a at *
    generalize ((aN lv).getD i ([], [])).2 = b at *
    repeat (first
    | (refine aa rfl fun K hK => ?_; simp (disch := omega) only [WW, BB, ↓ab, simprocAttr, q10, q12, hp, hpl, ty84]; refine hK _ _ ?_; clear hK) | refine af fun K hS hF => ?_ | refine ac rfl ?_)
    refine aa rfl fun K hK => ⟨_, z84, fun d hdn => hK _ _ ?_⟩
    repeat (refine aa rfl fun K hK => ?_; simp (disch := omega) only [WW, BB, ↓ab, simprocAttr]; refine hK _ _ ?_; clear hK)
    refine aa rfl fun K hK => ?_
    simp (disch := omega) only [WW, BB, ↓ab, simprocAttr]
    refine ⟨_, au (b := d) (ag _ _ _) ty84 (by rw [ar, List.length_append, g1.1, g2.1]) (bk _ _) rfl, hK _ _ ?_⟩
    rw [aD]
    have hrd : r ≠ d := aA x1 hdn
    have hX2 : hle X1 (upd X1 d (some (.row (nR .u8 (a ++ b))))) := ai (aj _) hdn
    have x2 := hX2 _ _ x1
    have xd := ag X1 d (some (.row (nR .u8 (a ++ b))))
    generalize upd X1 d (some (.row (nR .u8 (a ++ b)))) = X2 at *
    have hX02 : ∀ j y, j ≠ r → X j = some y → X2 j = some y := fun j y hj hy => hX2 _ _ (hX1 j y hj hy)
    have hvd := view_pair xd g1.1 g2.1
    by_cases hlt : 2 * i + 1 < lv.length
    · have d1 : decide (2 * i + 1 < lv.length) = true := decide_eq_true hlt
      rw [d1, Bool.true_and] at hsw
      repeat (first
    | (refine aa rfl fun K hK => ?_; simp (disch := omega) only [WW, BB, ↓ab, simprocAttr, q3, hlv, i64_mul, aP, d1, sa84]; refine hK _ _ ?_; clear hK) | (refine ae ?_; simp only [TH]; (((repeat ((fail_if_success refine hS _ _ ?_); clear hS)); refine hS _ _ ?_); clear hS; try clear hF)) | refine af fun K hS hF => ?_ | refine ac rfl ?_)
      refine aa rfl fun K hK => ⟨.rsl d 0 2 32, [a, b], rfl, hvd, fun h hm => by simp at hm; rcases hm with rfl | rfl <;> assumption, by simp, hK _ _ ?_⟩
      repeat (first
    | (refine aa rfl fun K hK => ?_; simp (disch := omega) only [WW, BB, ↓ab, simprocAttr]; refine hK _ _ ?_; clear hK) | (refine ae ?_; simp only [TH]; (((repeat ((fail_if_success refine hS _ _ ?_); clear hS)); refine hS _ _ ?_); clear hS; try clear hF)))
      refine wpC_cond rfl (fun h3 => ?_) (fun h3 => ?_)
      · repeat (first
    | refine af fun K hS hF => ?_ | refine ac rfl ?_)
        refine aq (p := .ptr r 0) (v := .bool true) rfl rfl rfl (by simp (disch := omega) only [WW, BB, ↓ab, simprocAttr, q2]) rfl (aT (b := r) (off := 0) x2 ty4 rfl rfl (by simp)) ?_
        refine ae ?_
        (simp only [TH, ↓reduceIte, Nat.reduceEqDiff]; ((repeat ((fail_if_success refine hS _ _ ?_); clear hS)); refine hS _ _ ?_); clear hS; try clear hF)
        refine al ?_
        simp only [bC, bi]
        refine h1 (hall (by rw [hsw]; exact h3)) _ _ (ag _ _ _) (ai (bn hG1 hX2) gr) fun j y hj hy => ?_
        rw [ah _ _ _ hj]
        exact hX02 j y hj hy
      · (refine am ?_; simp only [TH]; ((repeat ((fail_if_success refine hS _ _ ?_); clear hS)); refine hS _ _ ?_); clear hS; try clear hF)
        repeat (first
    | (refine aa rfl fun K hK => ?_; simp (disch := omega) only [WW, BB, ↓ab, simprocAttr, q12, aP]; refine hK _ _ ?_; clear hK) | (refine ae ?_; simp only [TH]; first | (((repeat ((fail_if_success refine hS _ _ ?_); clear hS)); refine hS _ _ ?_); clear hS; try clear hF) | skip) | refine ac rfl ?_)
        refine hKL _ _ _ (by omega : (aN lv).length - (i + 1) < (aN lv).length - i) ⟨i + 1, rfl, by omega, ?_, ?_, ?_, ?_, ?_, x2, bn hG1 hX2, hX02, ?_⟩
        · simp (disch := omega) only [WW, BB, ↓ab, simprocAttr, q2]
        · simp (disch := omega) only [WW, BB, ↓ab, simprocAttr, q3]
        · simp (disch := omega) only [WW, BB, ↓ab, simprocAttr, q10]
        · simp (disch := omega) only [WW, BB, ↓ab, simprocAttr, q11]
        · simp (disch := omega) only [WW, BB, ↓ab, simprocAttr]
        · rw [hrs, hsw]
          exact h3
    · have d1 : decide (2 * i + 1 < lv.length) = false := decide_eq_false hlt
      rw [d1, Bool.false_and] at hsw
      repeat (first
    | (refine aa rfl fun K hK => ?_; simp (disch := omega) only [WW, BB, ↓ab, simprocAttr, q3, hlv, i64_mul, aP, d1]; refine hK _ _ ?_; clear hK) | refine bl rfl ?_ | (refine ae ?_; simp only [TH]; (((repeat ((fail_if_success refine hS _ _ ?_); clear hS)); refine hS _ _ ?_); clear hS; try clear hF)) | refine af fun K hS hF => ?_ | refine ac rfl ?_)
      refine aE rfl ?_
      (refine am ?_; simp only [TH]; ((repeat ((fail_if_success refine hS _ _ ?_); clear hS)); refine hS _ _ ?_); clear hS; try clear hF)
      repeat (first
    | (refine aa rfl fun K hK => ?_; simp (disch := omega) only [WW, BB, ↓ab, simprocAttr, q12, aP]; refine hK _ _ ?_; clear hK) | (refine ae ?_; simp only [TH]; first | (((repeat ((fail_if_success refine hS _ _ ?_); clear hS)); refine hS _ _ ?_); clear hS; try clear hF) | skip) | refine ac rfl ?_)
      refine hKL _ _ _ (by omega : (aN lv).length - (i + 1) < (aN lv).length - i) ⟨i + 1, rfl, by omega, ?_, ?_, ?_, ?_, ?_, x2, bn hG1 hX2, hX02, ?_⟩
      · simp (disch := omega) only [WW, BB, ↓ab, simprocAttr, q2]
      · simp (disch := omega) only [WW, BB, ↓ab, simprocAttr, q3]
      · simp (disch := omega) only [WW, BB, ↓ab, simprocAttr, q10]
      · simp (disch := omega) only [WW, BB, ↓ab, simprocAttr, q11]
      · simp (disch := omega) only [WW, BB, ↓ab, simprocAttr]
      · rw [hrs, hsw]
  · refine aG ?_
    simp only [bC]
    have : i = (aN lv).length := by omega
    subst this
    exact h2 hno _ _ x1 hG1 hX1

theorem rd15 (q2 : t 2 = .ptr r 0) (q3 : t 3 = v) (xr : X r = some (.row [.bool false])) (hv : ao G 32 v = some (hE lv)) (hnr : notR v = true) (hne : lv ≠ []) (hH : allH lv) (hl : lv.length ≤ 1073741824)
    (gr : G r = none) (hG : hle G X)
    (h1 : swLv lv = true → ∀ t' X', X' r = some (.row [.bool true]) → hle G X' → (∀ j y, j ≠ r → X j = some y → X' j = some y) → Q .ret t' X')
    (h2 : swLv lv = false → ∀ t' X', X' r = some (.row [.bool false]) → hle G X' → (∀ j y, j ≠ r → X j = some y → X' j = some y) → Q .normal t' X') :
    wpC Try.prog (tab [(35, s35), (37, s37), (38, s38), (49, s49)]) Y [] 28 (rbodyOf (aU Try.f15 0)) false Q t X := by
  have hlp := av (P := Try.prog) (t := 81) (H := X) sl81 (bg (es := pE (aN lv)) (full := false))
  rw [pE_len] at hlp
  refine ax ?_
  repeat (first
    | (refine aa rfl fun K hK => ?_; simp (disch := omega) only [WW, BB, ↓ab, simprocAttr, q3]; refine hK _ _ ?_; clear hK) | refine af fun K hS hF => ?_ | refine ac rfl ?_)
  refine aa rfl fun K hK => ⟨v, lv, ?_, aL hG hv, hnr, hne, allH_32 hH, hl, hK _ _ ?_⟩
  · simp (disch := omega) only [WW, BB, ↓ab, simprocAttr, q3]
  repeat (first
    | (refine aa rfl fun K hK => ?_; simp (disch := omega) only [WW, BB, ↓ab, simprocAttr, hlp]; refine hK _ _ ?_; clear hK) | (refine ae ?_; simp only [TH]; (((repeat ((fail_if_success refine hS _ _ ?_); clear hS)); refine hS _ _ ?_); clear hS; try clear hF)) | refine ax ?_)
  refine l15 (r := r) (v := v) (lv := lv) ?_ ?_ ?_ ?_ ?_ xr hv hH hl gr hG (fun hs t' X' z1 z2 z3 => ?_) (fun hs t' X' z1 z2 z3 => ?_)
  · simp (disch := omega) only [WW, BB, ↓ab, simprocAttr, q2]
  · simp (disch := omega) only [WW, BB, ↓ab, simprocAttr, q3]
  · simp (disch := omega) only [WW, BB, ↓ab, simprocAttr]
  · simp (disch := omega) only [WW, BB, ↓ab, simprocAttr]
  · simp (disch := omega) only [WW, BB, ↓ab, simprocAttr]
  · simp only [bi]
    exact h1 hs _ _ z1 z2 z3
  · simp only [bi, ↓reduceIte]
    exact h2 hs _ _ z1 z2 z3
end
end Go.Av

set_option linter.unusedSimpArgs false
set_option linter.unusedVariables false
namespace Go.Av
open Go.RowKit Go.Proofs

def F15 (Y : aC) (t : T) (l : Nat) (ob : LoopState → Option Code → Obj) : Spec0 := fun args H' QY => args.length = 1 ∧ H' l = some (.raw (ob .ready none)) ∧
  wpC Try.prog (tab [(35, s35), (37, s37), (38, s38), (49, s49)]) Y [] 28 (asgOf (aU Try.f15 0)) false (onlyA fun t₁ H₁ => H₁ l = some (.raw (ob .ready none)) ∧
    wpC Try.prog (tab [(35, s35), (37, s37), (38, s38), (49, s49)]) Y [] 28 (rbodyOf (aU Try.f15 0)) false (bL l ob QY) t₁ (upd H₁ l (some (.raw (ob .busy none))))) (putsT 28 t [8] args) H'

theorem lvl15 {Y Y' : aC} {t : T} {l r : Nat} {ob : LoopState → Option Code → Obj} {G : Hp} {Qe : Hp → Prop} (q2 : t 2 = .ptr r 0) (gr : G r = none) (gl : G l = none) (hrl : r ≠ l) :
    ∀ (f : Nat) (hs : List (List Nat)) (v : V) (X : Hp), hs ≠ [] → hs.length ≤ f → hs.length ≤ 1073741824 → allH hs → ao G 32 v = some (hE hs) → notR v = true → X r = some (.row [.bool false]) → X l = some (.raw (ob .ready none)) → hle G X →
      ((bQ f hs).any swLv = true → ∀ X', X' r = some (.row [.bool true]) → X' l = some (.raw (ob .done (some .ret))) → hle G X' → Qe X') →
      ((bQ f hs).any swLv = false → ∀ X', X' r = some (.row [.bool false]) → X' l = some (.raw (ob .ready none)) → hle G X' → Qe X') → lvlS (upd Y' l (F15 Y t l ob)) l Qe (bQ f hs) v X
  | 0, hs, v, X, hne, hf, _, _, _, _, _, _, _, _, _ => absurd (List.eq_nil_of_length_eq_zero (by omega)) hne
  | f + 1, hs, v, X, hne, hf, hl, hH, hv, hnr, xr, xl, hG, hQ1, hQ2 => by
    have yl : ∀ args H Q, F15 Y t l ob args H Q → upd Y' l (F15 Y t l ob) l args H Q := fun args H Q h => by rw [ag]; exact h
    have h0 : 0 < hs.length := List.length_pos_iff.2 hne
    have hal := above_len hs
    rw [bQ, if_neg hne] at hQ1 hQ2 ⊢
    simp only [List.any_cons] at hQ1 hQ2
    refine ⟨fun rr X' => (swLv hs = true → rr = .bool false ∧ X' r = some (.row [.bool true]) ∧ X' l = some (.raw (ob .done (some .ret))) ∧ hle G X') ∧
      (swLv hs = false → rr = .bool true ∧ X' r = some (.row [.bool false]) ∧ X' l = some (.raw (ob .ready none)) ∧ hle G X'), yl _ _ _ ⟨rfl, xl, ?_⟩, ?_⟩
    · show wpC Try.prog (tab [(35, s35), (37, s37), (38, s38), (49, s49)]) Y [] 28 (asgOf (aU Try.f15 0)) false (onlyA _) (putT 28 t (some 8) v) X
      refine ac rfl ?_
      repeat (first
    | (refine aa rfl fun K hK => ?_; simp (disch := omega) only [WW, BB, ↓ab, simprocAttr]; refine hK _ _ ?_; clear hK) | (refine ae ?_; simp only [TH]; (((repeat ((fail_if_success refine hS _ _ ?_); clear hS)); refine hS _ _ ?_); clear hS; try clear hF)))
      refine ae ?_
      simp only [onlyA]
      refine ⟨xl, rd15 (G := G) (r := r) (v := v) (lv := hs) ?_ ?_ ?_ hv hnr hne hH hl gr (ai hG gl) (fun h t' X' z1 z2 z3 => ?_) (fun h t' X' z1 z2 z3 => ?_)⟩
      · simp (disch := omega) only [WW, BB, ↓ab, simprocAttr, q2]
      · simp (disch := omega) only [WW, BB, ↓ab, simprocAttr]
      · rw [ah _ _ _ hrl]; exact xr
      · have z4 := z3 l _ (Ne.symm hrl) (ag _ _ _)
        simp only [bL]
        refine ⟨⟨_, _, z4⟩, fun _ => ⟨trivial, ?_, ag _ _ _, ai z2 gl⟩, fun hn => by rw [h] at hn; cases hn⟩
        rw [ah _ _ _ hrl]; exact z1
      · have z4 := z3 l _ (Ne.symm hrl) (ag _ _ _)
        simp only [bL]
        refine ⟨⟨_, _, z4⟩, fun hn => by (rw [h] at hn; cases hn), fun _ => ⟨trivial, ?_, ag _ _ _, ai z2 gl⟩⟩
        rw [ah _ _ _ hrl]; exact z1
    · rintro rr X' ⟨g1, g2⟩
      cases hsw : swLv hs with
      | true =>
        obtain ⟨rfl, y1, y2, y3⟩ := g1 hsw
        exact .inl ⟨rfl, hQ1 (by rw [hsw]; rfl) X' y1 y2 y3⟩
      | false =>
        obtain ⟨rfl, y1, y2, y3⟩ := g2 hsw
        rw [hsw] at hQ1 hQ2
        simp only [Bool.false_or] at hQ1 hQ2
        refine .inr ⟨rfl, aL y3 hv, ?_⟩
        by_cases h1 : hs.length ≤ 1
        · rw [if_pos h1] at hQ2 ⊢
          exact hQ2 rfl X' y1 y2 y3
        · rw [if_neg h1] at hQ1 hQ2 ⊢
          have hab : above hs ≠ [] := fun e => by rw [e, List.length_nil] at hal; omega
          have hhd : (bQ f (above hs)).headD [] = above hs := by
            cases f with
            | zero => omega
            | succ f => rw [bQ, if_neg hab]; rfl
          rw [hhd]
          exact lvl15 q2 gr gl hrl f (above hs) (.sl 32 (hE (above hs)) false) X' hab (by omega) (by omega) (above_H hs) bg rfl y1 y2 y3 hQ1 hQ2

def s15 : Spec := fun _ args H Q => ∃ x hs, args = [x] ∧ ao H 32 x = some (hE hs) ∧ notR x = true ∧ allH hs ∧ hs.length ≤ 1073741824 ∧ Q (.bool (swollen hs)) H

theorem snd15 : Sound Try.prog 15 s15 := by
  refine ak pm (ap [(35, s35), (37, s37), (38, s38), (49, s49)] (by simp [snd35, snd37, snd38, snd49])) [] Try.func15 rfl (by kernel_rfl) ?_
  rintro Y args H Q ⟨x, hs, rfl, hv, hx, hH, hl, hQ⟩
  refine ⟨by simp [Try.f15], ?_⟩
  show wpC Try.prog (tab [(35, s35), (37, s37), (38, s38), (49, s49)]) Y [] 28 _ true (aB Try.prog [.cell 2 4] Q) _ H
  repeat (first
    | refine af fun K hS hF => ?_ | refine ac rfl ?_)
  refine aa rfl fun K hK => ⟨_, z4, fun r hr => hK _ _ ?_⟩
  repeat (first
    | (refine aa rfl fun K hK => ?_; simp (disch := omega) only [WW, BB, ↓ab, simprocAttr]; refine hK _ _ ?_; clear hK) | (refine ae ?_; simp only [TH]; (((repeat ((fail_if_success refine hS _ _ ?_); clear hS)); refine hS _ _ ?_); clear hS; try clear hF)) | refine af fun K hS hF => ?_ | refine ac rfl ?_)
  refine aa rfl fun K hK => ⟨x, rfl, (bd hv).2, fun b hb => hK _ _ ?_⟩
  have hb' := aF hb
  repeat (first
    | (refine ae ?_; simp only [TH]; (((repeat ((fail_if_success refine hS _ _ ?_); clear hS)); refine hS _ _ ?_); clear hS; try clear hF)) | refine ax ?_)
  refine wpC_range (f := 49) (first := []) (caps := [.ptr b 0]) ?_ (by kernel_rfl) fun l ob hl0 => ?_
  · simp (disch := omega) only [WW, BB, ↓ab, simprocAttr]
  have hl1 := aF hl0
  have hl2 := aF hl1.2
  generalize hG : upd (upd (upd H r (some (.row [.bool false]))) b (some (.row [x]))) r none = G
  have hHG : hle H G := by rw [← hG]; exact ai (ai (ai (aj _) hr) hb'.2) hr
  have gr : G r = none := by rw [← hG]; exact ag _ _ _
  have gl : G l = none := by rw [← hG, ah _ _ _ (Ne.symm hl2.1)]; exact hl0
  have hGX : ∀ z, hle G (upd (upd (upd H r (some (.row [.bool false]))) b (some (.row [x]))) l z) := fun z => by
    refine ai ?_ gl
    rw [← hG]
    exact hle_del _ _
  have rb2 : ∀ {b : Bool} {t : T} {X : Hp} {r : Nat}, t 2 = .ptr r 0 → X r = some (.row [.bool b]) → ressV Try.prog t X [.cell 2 4] = some [.bool b] := fun ht hr => by
    simp only [ressV, resV, ht, aw (off := 0) hr ty4 rfl, Option.bind_some, Option.map_some]
  refine ⟨l, b, x, hs, hs.length, rfl, ?_, aL (bn hHG (hGX _)) hv, hx, allH_32 hH, hl, Nat.le_refl _, ?_⟩
  · rw [ah _ _ _ hl1.1, ag]
  have w1 : upd (upd (upd H r (some (.row [.bool false]))) b (some (.row [x]))) l (some (.raw (ob .ready none))) r = some (.row [.bool false]) := by rw [ah _ _ _ hl2.1, ah _ _ _ hb'.1, ag]
  have w2 : upd (upd (upd H r (some (.row [.bool false]))) b (some (.row [x]))) l (some (.raw (ob .ready none))) l = some (.raw (ob .ready none)) := ag _ _ _
  have w3 := hGX (some (.raw (ob .ready none)))
  generalize upd (upd (upd H r (some (.row [.bool false]))) b (some (.row [x]))) l (some (.raw (ob .ready none))) = X0 at *
  by_cases hne : hs = []
  · subst hne
    have hsw : swollen [] = false := rfl
    refine ⟨_, _, w2, by simp, ?_⟩
    simp only [endA, bi, bC]
    have x1 : upd X0 l none r = some (.row [.bool false]) := by rw [ah _ _ _ hl2.1]; exact w1
    refine hS _ _ ?_
    clear hS
    refine bZ fun K hS => ?_
    refine ac rfl ?_
    refine aq (p := .ptr r 0) (v := .bool false) rfl rfl rfl (by simp (disch := omega) only [WW, BB, ↓ab, simprocAttr]) rfl (aT (b := r) (off := 0) x1 ty4 rfl rfl (by simp)) ?_
    refine ae ?_
    (simp only [TH, ↓reduceIte, Nat.reduceEqDiff]; ((repeat ((fail_if_success refine hS _ _ ?_); clear hS)); refine hS _ _ ?_); clear hS; try clear hF)
    refine al ?_
    refine ⟨_, rb2 (b := false) (r := r) (by simp (disch := omega) only [WW, BB, ↓ab, simprocAttr]) (ag _ _ _), [], H, ?_, ?_⟩
    · exact ai (ai (bn hHG w3) hl2.2) hr
    · rw [← hsw]; exact hQ
  · refine lvl15 (Y := Y) (r := r) ?_ gr gl hl2.1 hs.length hs x X0 hne (Nat.le_refl _) hl hH (aL hHG hv) hx w1 w2 w3 (fun hsw X' w1 w2 w3 => ?_) (fun hsw X' w1 w2 w3 => ?_)
    · simp (disch := omega) only [WW, BB, ↓ab, simprocAttr]
    · refine ⟨_, _, w2, by simp, ?_⟩
      simp only [endA, bi, bC]
      refine ⟨_, rb2 (b := true) (r := r) (by simp (disch := omega) only [WW, BB, ↓ab, simprocAttr]) (by rw [ah _ _ _ hl2.1]; exact w1), [], H, ai (bn hHG w3) hl2.2, ?_⟩
      have hsw' : swollen hs = true := hsw
      rw [hsw'] at hQ
      exact hQ
    · have hsw : swollen hs = false := hsw
      refine ⟨_, _, w2, by simp, ?_⟩
      simp only [endA, bi, bC]
      have x1 : upd X' l none r = some (.row [.bool false]) := by rw [ah _ _ _ hl2.1]; exact w1
      refine hS _ _ ?_
      clear hS
      refine bZ fun K hS => ?_
      refine ac rfl ?_
      refine aq (p := .ptr r 0) (v := .bool false) rfl rfl rfl (by simp (disch := omega) only [WW, BB, ↓ab, simprocAttr]) rfl (aT (b := r) (off := 0) x1 ty4 rfl rfl (by simp)) ?_
      refine ae ?_
      (simp only [TH, ↓reduceIte, Nat.reduceEqDiff]; ((repeat ((fail_if_success refine hS _ _ ?_); clear hS)); refine hS _ _ ?_); clear hS; try clear hF)
      refine al ?_
      refine ⟨_, rb2 (b := false) (r := r) (by simp (disch := omega) only [WW, BB, ↓ab, simprocAttr]) (ag _ _ _), [], H, ?_, ?_⟩
      · exact ai (ai (bn hHG w3) hl2.2) hr
      · rw [← hsw]; exact hQ
end Go.Av
