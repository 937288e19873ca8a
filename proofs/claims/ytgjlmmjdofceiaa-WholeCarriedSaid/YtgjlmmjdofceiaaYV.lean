/-
  Package octet: widths, compact sizes.
  Package octet: the pen.
  Package octet: Fixed, Size, All.
  Package octet: All.
  bytealg.MakeNoZero: n bytes, whatever they are.
  bytes.Join: of one part.
  Package octet: Raw of one part, Bytes.
  Transactions and blocks, as they lie.
  Fields of elements; Coinbase.
  Package tx: Coinbase; package whole: rest.
  Package whole: value$1; package slices: IndexFunc, ContainsFunc over transactions.
  Package slices: IndexFunc, ContainsFunc over transactions; package whole: coinbase, value.
  Package whole: Points; package slices: Index, Contains over outpoints; form.
  Package slices: Index, Contains over outpoints; package whole: form.
  Package whole: again.
-/
import Derived.Test.YtgjlmmjdofceiaaYM
import Derived.Lib.MakeNoZero
import Derived.Laws.Externs
import Derived.Test.YtgjlmmjdofceiaaYC

set_option linter.unusedSimpArgs false
set_option linter.unusedVariables false
namespace Go.Av
open Go.RowKit Go.Proofs
theorem i64 : intT Try.prog 64 = none := by kernel_rfl

def isW (n : Nat) : Prop := n = 1 ∨ n = 2 ∨ n = 4 ∨ n = 8
theorem isW_and {n : Nat} (h : isW n) : n &&& (n - 1) = 0 := by rcases h with rfl | rfl | rfl | rfl <;> rfl

def s104 : Spec := fun _ args H Q => ∃ n, args = [vN .i64 n] ∧ isW n ∧ Q (.bool true) H
theorem snd104 : Sound Try.prog 104 s104 := by
  refine ak pm (ap [] (by simp)) [] Try.func104 rfl (by kernel_rfl) ?_
  rintro Y args H Q ⟨n, rfl, hn, hQ⟩
  refine ⟨by simp [Try.f104], ?_⟩
  show wpC Try.prog (tab []) Y [] 16 _ true (aB Try.prog [.tmp 2] Q) _ H
  have h1 : 0 < n := by rcases hn with rfl | rfl | rfl | rfl <;> omega
  have h2 : n ≤ 8 := by rcases hn with rfl | rfl | rfl | rfl <;> omega
  have d1 : decide (0 < n) = true := decide_eq_true h1
  have d2 : decide (n ≤ 8) = true := decide_eq_true h2
  repeat (first
    | (refine aa rfl fun K hK => ?_; simp (disch := omega) only [WW, BB, ↓ab, simprocAttr, d1, d2, i64_sub, i64_and, isW_and hn, decide_true, eq_self]; refine hK _ _ ?_; clear hK) | (refine ae ?_; simp only [TH]; (((repeat ((fail_if_success refine hS _ _ ?_); clear hS)); refine hS _ _ ?_); clear hS; try clear hF)) | refine af fun K hS hF => ?_ | refine ac rfl ?_ | (refine al ?_; simp (disch := omega) only [TH, TE, WW, BB, ↓ab, simprocAttr, d1, d2, i64_sub, i64_and, isW_and hn, decide_true, eq_self]))
  exact ⟨_, rfl, [], _, aj _, hQ⟩

def goesIn (x k : Nat) : Bool := decide (k = 8) || decide (x / 2 ^ (8 * k) = 0)
def s105 : Spec := fun _ args H Q => ∃ x k, args = [vN .u64 x, vN .i64 k] ∧ k ≤ 8 ∧ x < 18446744073709551616 ∧ Q (.bool (goesIn x k)) H
theorem snd105 : Sound Try.prog 105 s105 := by
  refine ak pm (ap [] (by simp)) [] Try.func105 rfl (by kernel_rfl) ?_
  rintro Y args H Q ⟨x, k, rfl, hk, hx, hQ⟩
  refine ⟨by simp [Try.f105], ?_⟩
  show wpC Try.prog (tab []) Y [] 14 _ true (aB Try.prog [.tmp 4] Q) _ H
  by_cases h8 : k = 8
  · have d1 : decide (k = 8) = true := decide_eq_true h8
    repeat (first
    | (refine aa rfl fun K hK => ?_; simp (disch := omega) only [WW, BB, ↓ab, simprocAttr, d1]; refine hK _ _ ?_; clear hK) | refine bl rfl ?_ | (refine ae ?_; simp only [TH]; (((repeat ((fail_if_success refine hS _ _ ?_); clear hS)); refine hS _ _ ?_); clear hS; try clear hF)) | refine af fun K hS hF => ?_ | refine ac rfl ?_ | (refine al ?_; simp (disch := omega) only [TH, TE, WW, BB, ↓ab, simprocAttr, d1]))
    rw [goesIn, d1] at hQ
    exact ⟨_, rfl, [], _, aj _, hQ⟩
  · have d1 : decide (k = 8) = false := decide_eq_false h8
    have hm : min (8 * k) 64 = 8 * k := by omega
    repeat (first
    | (refine aa rfl fun K hK => ?_; simp (disch := omega) only [WW, BB, ↓ab, simprocAttr, d1, i64_mul, hm]; refine hK _ _ ?_; clear hK) | (refine ae ?_; simp only [TH]; (((repeat ((fail_if_success refine hS _ _ ?_); clear hS)); refine hS _ _ ?_); clear hS; try clear hF)) | refine af fun K hS hF => ?_ | refine ac rfl ?_ | (refine al ?_; simp (disch := omega) only [TH, TE, WW, BB, ↓ab, simprocAttr, d1, i64_mul, hm]))
    rw [goesIn, d1] at hQ
    exact ⟨_, rfl, [], _, aj _, hQ⟩

def ce (x : Nat) : Nat := if x < 253 then 1 else if x < 65536 then 3 else if x < 4294967296 then 5 else 9
theorem goes2 {x : Nat} : goesIn x 2 = decide (x < 65536) := by
  simp only [goesIn, Nat.reduceEqDiff, decide_false, Bool.false_or, Nat.reduceMul, Nat.reducePow]
  congr 1
  simp only [Nat.div_eq_zero_iff, eq_iff_iff]
  omega
theorem goes4 {x : Nat} : goesIn x 4 = decide (x < 4294967296) := by
  simp only [goesIn, Nat.reduceEqDiff, decide_false, Bool.false_or, Nat.reduceMul, Nat.reducePow]
  congr 1
  simp only [Nat.div_eq_zero_iff, eq_iff_iff]
  omega
def s107 : Spec := fun _ args H Q => ∃ x, args = [vN .u64 x] ∧ x < 18446744073709551616 ∧ Q (vN .i64 (ce x)) H
theorem snd107 : Sound Try.prog 107 s107 := by
  refine ak pm (ap [(105, s105)] (by simp [snd105])) [] Try.func107 rfl (by kernel_rfl) ?_
  rintro Y args H Q ⟨x, rfl, hx, hQ⟩
  refine ⟨by simp [Try.f107], ?_⟩
  show wpC Try.prog (tab [(105, s105)]) Y [] 12 _ true (aB Try.prog [.tmp 2] Q) _ H
  repeat (first
    | (refine aa rfl fun K hK => ?_; simp (disch := omega) only [WW, BB, ↓ab, simprocAttr]; refine hK _ _ ?_; clear hK) | (refine ae ?_; simp only [TH]; (((repeat ((fail_if_success refine hS _ _ ?_); clear hS)); refine hS _ _ ?_); clear hS; try clear hF)) | refine af fun K hS hF => ?_ | refine ac rfl ?_)
  by_cases h1 : x < 253
  · have d1 : decide (x < 253) = true := decide_eq_true h1
    refine aS (by simp (disch := omega) only [WW, BB, ↓ab, simprocAttr, d1]) ?_
    repeat (first
    | (refine aa rfl fun K hK => ?_; simp (disch := omega) only [WW, BB, ↓ab, simprocAttr]; refine hK _ _ ?_; clear hK) | (refine ae ?_; simp only [TH]; (((repeat ((fail_if_success refine hS _ _ ?_); clear hS)); refine hS _ _ ?_); clear hS; try clear hF)) | refine af fun K hS hF => ?_ | refine ac rfl ?_ | (refine al ?_; simp (disch := omega) only [TH, TE, WW, BB, ↓ab, simprocAttr]))
    rw [ce, if_pos h1] at hQ
    exact ⟨_, rfl, [], _, aj _, hQ⟩
  have d1 : decide (x < 253) = false := decide_eq_false h1
  refine aE (by simp (disch := omega) only [WW, BB, ↓ab, simprocAttr, d1]) ?_
  repeat (first
    | (refine aa rfl fun K hK => ?_; simp (disch := omega) only [WW, BB, ↓ab, simprocAttr]; refine hK _ _ ?_; clear hK) | refine af fun K hS hF => ?_ | refine ac rfl ?_)
  refine aa rfl fun K hK => ⟨x, 2, rfl, by omega, hx, hK _ _ ?_⟩
  rw [goes2]
  repeat (first
    | (refine aa rfl fun K hK => ?_; simp (disch := omega) only [WW, BB, ↓ab, simprocAttr]; refine hK _ _ ?_; clear hK) | (refine ae ?_; simp only [TH]; (((repeat ((fail_if_success refine hS _ _ ?_); clear hS)); refine hS _ _ ?_); clear hS; try clear hF)))
  by_cases h2 : x < 65536
  · refine aS (by simp (disch := omega) only [WW, BB, ↓ab, simprocAttr, decide_eq_true h2]) ?_
    repeat (first
    | (refine aa rfl fun K hK => ?_; simp (disch := omega) only [WW, BB, ↓ab, simprocAttr]; refine hK _ _ ?_; clear hK) | (refine ae ?_; simp only [TH]; (((repeat ((fail_if_success refine hS _ _ ?_); clear hS)); refine hS _ _ ?_); clear hS; try clear hF)) | refine af fun K hS hF => ?_ | refine ac rfl ?_ | (refine al ?_; simp (disch := omega) only [TH, TE, WW, BB, ↓ab, simprocAttr]))
    rw [ce, if_neg h1, if_pos h2] at hQ
    exact ⟨_, rfl, [], _, aj _, hQ⟩
  refine aE (by simp (disch := omega) only [WW, BB, ↓ab, simprocAttr, decide_eq_false h2]) ?_
  repeat (first
    | (refine aa rfl fun K hK => ?_; simp (disch := omega) only [WW, BB, ↓ab, simprocAttr]; refine hK _ _ ?_; clear hK) | refine af fun K hS hF => ?_ | refine ac rfl ?_)
  refine aa rfl fun K hK => ⟨x, 4, rfl, by omega, hx, hK _ _ ?_⟩
  rw [goes4]
  repeat (first
    | (refine aa rfl fun K hK => ?_; simp (disch := omega) only [WW, BB, ↓ab, simprocAttr]; refine hK _ _ ?_; clear hK) | (refine ae ?_; simp only [TH]; (((repeat ((fail_if_success refine hS _ _ ?_); clear hS)); refine hS _ _ ?_); clear hS; try clear hF)))
  by_cases h3 : x < 4294967296
  · refine aS (by simp (disch := omega) only [WW, BB, ↓ab, simprocAttr, decide_eq_true h3]) ?_
    repeat (first
    | (refine aa rfl fun K hK => ?_; simp (disch := omega) only [WW, BB, ↓ab, simprocAttr]; refine hK _ _ ?_; clear hK) | (refine ae ?_; simp only [TH]; (((repeat ((fail_if_success refine hS _ _ ?_); clear hS)); refine hS _ _ ?_); clear hS; try clear hF)) | refine af fun K hS hF => ?_ | refine ac rfl ?_ | (refine al ?_; simp (disch := omega) only [TH, TE, WW, BB, ↓ab, simprocAttr]))
    rw [ce, if_neg h1, if_neg h2, if_pos h3] at hQ
    exact ⟨_, rfl, [], _, aj _, hQ⟩
  refine aE (by simp (disch := omega) only [WW, BB, ↓ab, simprocAttr, decide_eq_false h3]) ?_
  (refine am ?_; simp only [TH]; ((repeat ((fail_if_success refine hS _ _ ?_); clear hS)); refine hS _ _ ?_); clear hS; try clear hF)
  repeat (first
    | (refine aa rfl fun K hK => ?_; simp (disch := omega) only [WW, BB, ↓ab, simprocAttr]; refine hK _ _ ?_; clear hK) | (refine ae ?_; simp only [TH]; (((repeat ((fail_if_success refine hS _ _ ?_); clear hS)); refine hS _ _ ?_); clear hS; try clear hF)) | refine af fun K hS hF => ?_ | refine ac rfl ?_ | (refine al ?_; simp (disch := omega) only [TH, TE, WW, BB, ↓ab, simprocAttr]))
  rw [ce, if_neg h1, if_neg h2, if_neg h3] at hQ
  exact ⟨_, rfl, [], _, aj _, hQ⟩
end Go.Av

set_option linter.unusedSimpArgs false
set_option linter.unusedVariables false
namespace Go.Av
open Go.RowKit Go.Proofs

/-- A pen, made since G: what it has written. -/
def Pen (G H : Hp) (p : Nat) (bs : List Nat) : Prop :=
  hle G H ∧ G p = none ∧ ∃ y, H p = some (.row [y]) ∧ ((y = .nils ∧ bs = []) ∨ ∃ e, y = .osl e 0 bs.length 1 false ∧ H e = some (.arr 1 (nE .u8 bs)) ∧ G e = none)

theorem bI {G H : Hp} {b : Nat} (h : hle G H) (hb : H b = none) : G b = none := by
  cases hg : G b with
  | none => rfl
  | some y => rw [h _ _ hg] at hb; cases hb

theorem pen_append {G H : Hp} {p : Nat} {bs cs : List Nat} {y x : V} {Q : V → Hp → Prop} (h : Pen G H p bs) (hy : H p = some (.row [y])) (hx : ao H 1 x = some (nE .u8 cs)) (hl : bs.length + cs.length ≤ 140737488355328)
    (hQ : ∀ y' H', H' p = some (.row [y]) → aW y' = some [y'] → one y' = true → Pen G (upd H' p (some (.row [y']))) p (bs ++ cs) → Q y' H') : wpAppend Try.prog H 64 64 y x Q := by
  obtain ⟨hG, hp, y0, hy0, hc⟩ := h
  rw [hy] at hy0
  cases hy0
  have new : ∀ b, H b = none → b ≠ p := fun b hb hbp => by subst hbp; rw [hy] at hb; cases hb
  rcases hc with ⟨rfl, rfl⟩ | ⟨e, rfl, he, hGe⟩
  · refine append_new (x := x) (.inl rfl) ds64 sl64 hx (nE_ones _ _) (by rw [by64, az]; simp only [List.length_nil] at hl; omega) (by rw [az]; simp only [List.length_nil] at hl; omega) (fun hn => ?_) (fun hn b hb => ?_)
    · have : cs = [] := by
        cases cs with
        | nil => rfl
        | cons a r => simp [nE] at hn
      subst this
      exact hQ _ _ hy rfl rfl ⟨ai hG hp, hp, _, ag _ _ _, .inl ⟨rfl, rfl⟩⟩
    · rw [az]
      have hbp := new b hb
      refine hQ _ _ (by rw [ah _ _ _ (Ne.symm hbp)]; exact hy) rfl rfl ⟨ai (ai hG (bI hG hb)) hp, hp, _, ag _ _ _, .inr ⟨b, rfl, ?_, bI hG hb⟩⟩
      rw [ah _ _ _ hbp, ag]
      rfl
  · have hep : e ≠ p := fun hh => by subst hh; rw [hy] at he; cases he
    refine append_osl (x := x) he (az _ _).symm ds64 sl64 hx (nE_ones _ _) (by rw [by64, az]; omega) (by rw [az]; omega) fun b hb => ?_
    have hbp : b ≠ p := by
      rcases hb with rfl | hb
      · exact hep
      · exact new b hb
    have hGb : G b = none := by
      rcases hb with rfl | hb
      · exact hGe
      · exact bI hG hb
    rw [nE_append, az]
    refine hQ _ _ (by rw [ah _ _ _ (Ne.symm hbp), ah _ _ _ (Ne.symm hep)]; exact hy) rfl rfl ⟨ai (ai (ai hG hGe) hGb) hp, hp, _, ag _ _ _, .inr ⟨b, by rw [List.length_append], ?_, hGb⟩⟩
    rw [ah _ _ _ hbp, ag]

theorem fl136_0 : fldT Try.prog 136 0 = some (0, 64) := by kernel_rfl

/-- A number's bytes, the low one first. -/
def leB : Nat → Nat → List Nat
  | 0, _ => []
  | k + 1, x => x % 256 :: leB k (x / 256)
theorem bq : ∀ k x, (leB k x).length = k
  | 0, _ => rfl
  | k + 1, x => by rw [leB, List.length_cons, bq]
theorem leB_succ : ∀ k x, leB (k + 1) x = leB k x ++ [x / 2 ^ (8 * k) % 256]
  | 0, x => by simp [leB]
  | k + 1, x => by
    rw [leB, leB_succ k (x / 256), leB, Nat.div_div_eq_div_mul, show 256 * 2 ^ (8 * k) = 2 ^ (8 * (k + 1)) by rw [Nat.mul_add, Nat.pow_add, Nat.mul_comm]]
    rfl

def s106 : Spec := fun _ args H Q => ∃ G p bs k x, args = [.ptr p 0, vN .i64 k, vN .u64 x] ∧ Pen G H p bs ∧ k ≤ 8 ∧ x < 18446744073709551616 ∧ bs.length + 8 ≤ 140737488355328 ∧ ∀ H', Pen G H' p (bs ++ leB k x) → Q (.tup []) H'

theorem snd106 : Sound Try.prog 106 s106 := by
  refine ak pm (ap [] (by simp)) [] Try.func106 rfl (by kernel_rfl) ?_
  rintro Y args H Q ⟨G, p, bs, k, x, rfl, hP, hk, hx, hb, hQ⟩
  refine ⟨by simp [Try.f106], ?_⟩
  show wpC Try.prog (tab []) Y [] 23 _ true (aB Try.prog [] Q) _ H
  repeat (first
    | (refine aa rfl fun K hK => ?_; simp (disch := omega) only [WW, BB, ↓ab, simprocAttr]; refine hK _ _ ?_; clear hK) | (refine ae ?_; simp only [TH]; (((repeat ((fail_if_success refine hS _ _ ?_); clear hS)); refine hS _ _ ?_); clear hS; try clear hF)) | refine af fun K hS hF => ?_ | refine ac rfl ?_ | refine ax ?_)
  refine aO (fun m t' X => ∃ i, m = k - i ∧ i ≤ k ∧ t' 0 = .ptr p 0 ∧ t' 2 = vN .u64 (x / 2 ^ (8 * i)) ∧ t' 6 = vN .i64 k ∧ t' 7 = vN .i64 i ∧ Pen G X p (bs ++ leB i x)) k ⟨0, rfl, by omega, by simp (disch := omega) only [WW, BB, ↓ab, simprocAttr], by simp (disch := omega) only [WW, BB, ↓ab, simprocAttr, Nat.mul_zero, Nat.pow_zero, Nat.div_one], by simp (disch := omega) only [WW, BB, ↓ab, simprocAttr], by simp (disch := omega) only [WW, BB, ↓ab, simprocAttr], by simpa [leB] using hP⟩ fun KL m t1 X hI hKL => ?_
  obtain ⟨i, rfl, hi, q0, q2, q6, q7, hP⟩ := hI
  repeat (first
    | (refine aa rfl fun K hK => ?_; simp (disch := omega) only [WW, BB, ↓ab, simprocAttr, q6, q7]; refine hK _ _ ?_; clear hK) | (refine ae ?_; simp only [TH]; (((repeat ((fail_if_success refine hS _ _ ?_); clear hS)); refine hS _ _ ?_); clear hS; try clear hF)) | refine af fun K hS hF => ?_ | refine ac rfl ?_)
  refine aH rfl (fun hd => ?_) (fun hd => ?_)
  · (refine am ?_; simp only [TH]; ((repeat ((fail_if_success refine hS _ _ ?_); clear hS)); refine hS _ _ ?_); clear hS; try clear hF)
    have hP0 := hP
    obtain ⟨_, _, y, hy, _⟩ := hP0
    repeat (first
    | (refine aa rfl fun K hK => ?_; simp (disch := omega) only [WW, BB, ↓ab, simprocAttr, q0, q2, fl136_0, bp, aw (off := 0) hy ty64 rfl, conv_u8 _ us91 i5]; refine hK _ _ ?_; clear hK) | refine af fun K hS hF => ?_ | refine ac rfl ?_)
    refine aa rfl fun K hK => bs64_own (y := vN .u8 (x / 2 ^ (8 * i) % 256)) (by simp (disch := omega) only [WW, BB, ↓ab, simprocAttr]) rfl (hK _ _ ?_)
    clear hK
    refine aa rfl fun K hK => ?_
    simp (disch := omega) only [WW, BB, ↓ab, simprocAttr]
    refine pen_append (cs := [x / 2 ^ (8 * i) % 256]) hP hy rfl (by rw [List.length_append, bq]; simp; omega) fun y' X' hy' hc1 ho1 hP' => hK _ _ ?_
    clear hK
    repeat (refine aa rfl fun K hK => ?_; simp (disch := omega) only [WW, BB, ↓ab, simprocAttr, fl136_0, bp]; refine hK _ _ ?_; clear hK)
    refine aq (p := .ptr p 0) (v := y') rfl rfl rfl (by simp (disch := omega) only [WW, BB, ↓ab, simprocAttr]) rfl (aT (b := p) (off := 0) hy' ty64 hc1 ho1 (by simp)) ?_
    repeat (first
    | (refine aa rfl fun K hK => ?_; simp (disch := omega) only [WW, BB, ↓ab, simprocAttr, q2, q7, aP]; refine hK _ _ ?_; clear hK) | (refine ae ?_; simp only [TH]; first | (((repeat ((fail_if_success refine hS _ _ ?_); clear hS)); refine hS _ _ ?_); clear hS; try clear hF) | skip) | refine ac rfl ?_)
    have h8 : x / 2 ^ (8 * i) / 2 ^ min 8 64 = x / 2 ^ (8 * (i + 1)) := by
      rw [Nat.div_div_eq_div_mul, ← Nat.pow_add]
      rfl
    refine hKL (k - (i + 1)) _ _ (by omega) ⟨i + 1, rfl, by omega, ?_, ?_, ?_, ?_, ?_⟩
    · simp (disch := omega) only [WW, BB, ↓ab, simprocAttr, q0]
    · simp (disch := omega) only [WW, BB, ↓ab, simprocAttr, h8]
    · simp (disch := omega) only [WW, BB, ↓ab, simprocAttr, q6]
    · simp (disch := omega) only [WW, BB, ↓ab, simprocAttr]
    · rw [leB_succ, ← List.append_assoc]
      exact hP'
  · have : i = k := by omega
    subst this
    refine aG ?_
    simp only [bC, bi, aB, ressV, resV, ↓reduceIte]
    exact ⟨_, rfl, [], _, aj _, hQ _ hP⟩
end Go.Av

set_option linter.unusedSimpArgs false
set_option linter.unusedVariables false
namespace Go.Av
open Go.RowKit Go.Proofs

theorem pnil153 {H : Hp} {p : Nat} {Q : V → Hp → Prop} : wpBin Try.prog H .eql 153 (.ptr p 0) .nilp Q = val (some (.bool false)) H Q := by
  show val (aI Try.prog .eql 153 (.ptr p 0) .nilp) H Q = _
  rw [show aI Try.prog .eql 153 (.ptr p 0) .nilp = some (.bool false) from by kernel_rfl]

def s91 : Spec := fun _ args H Q => ∃ G p bs k x, args = [.ptr p 0, vN .i64 k, vN .u64 x] ∧ Pen G H p bs ∧ isW k ∧ goesIn x k = true ∧ x < 18446744073709551616 ∧ bs.length + 8 ≤ 140737488355328 ∧ ∀ H', Pen G H' p (bs ++ leB k x) → Q (vN .i64 0) H'
theorem snd91 : Sound Try.prog 91 s91 := by
  refine ak pm (ap [(104, s104), (105, s105), (106, s106)] (by simp [snd104, snd105, snd106])) [] Try.func91 rfl (by kernel_rfl) ?_
  rintro Y args H Q ⟨G, p, bs, k, x, rfl, hP, hk, hg, hx, hb, hQ⟩
  refine ⟨by simp [Try.f91], ?_⟩
  show wpC Try.prog (tab [(104, s104), (105, s105), (106, s106)]) Y [] 23 _ true (aB Try.prog [.tmp 6] Q) _ H
  have h8 : k ≤ 8 := by rcases hk with rfl | rfl | rfl | rfl <;> omega
  repeat (first
    | (refine aa rfl fun K hK => ?_; simp (disch := omega) only [WW, BB, ↓ab, simprocAttr, pnil153]; refine hK _ _ ?_; clear hK) | (refine ae ?_; simp only [TH]; (((repeat ((fail_if_success refine hS _ _ ?_); clear hS)); refine hS _ _ ?_); clear hS; try clear hF)) | refine af fun K hS hF => ?_ | refine ac rfl ?_)
  refine aE (by simp (disch := omega) only [WW, BB, ↓ab, simprocAttr]) ?_
  repeat (first
    | (refine aa rfl fun K hK => ?_; simp (disch := omega) only [WW, BB, ↓ab, simprocAttr]; refine hK _ _ ?_; clear hK) | refine af fun K hS hF => ?_ | refine ac rfl ?_)
  refine aa rfl fun K hK => ⟨k, rfl, hk, hK _ _ ?_⟩
  repeat (first
    | (refine aa rfl fun K hK => ?_; simp (disch := omega) only [WW, BB, ↓ab, simprocAttr, Bool.not_true]; refine hK _ _ ?_; clear hK) | (refine ae ?_; simp only [TH]; (((repeat ((fail_if_success refine hS _ _ ?_); clear hS)); refine hS _ _ ?_); clear hS; try clear hF)))
  refine aE (by simp (disch := omega) only [WW, BB, ↓ab, simprocAttr]) ?_
  repeat (first
    | (refine aa rfl fun K hK => ?_; simp (disch := omega) only [WW, BB, ↓ab, simprocAttr]; refine hK _ _ ?_; clear hK) | refine af fun K hS hF => ?_ | refine ac rfl ?_)
  refine aa rfl fun K hK => ⟨x, k, rfl, h8, hx, hK _ _ ?_⟩
  rw [hg]
  repeat (first
    | (refine aa rfl fun K hK => ?_; simp (disch := omega) only [WW, BB, ↓ab, simprocAttr, Bool.not_true]; refine hK _ _ ?_; clear hK) | (refine ae ?_; simp only [TH]; (((repeat ((fail_if_success refine hS _ _ ?_); clear hS)); refine hS _ _ ?_); clear hS; try clear hF)))
  refine aE (by simp (disch := omega) only [WW, BB, ↓ab, simprocAttr]) ?_
  (refine am ?_; simp only [TH]; ((repeat ((fail_if_success refine hS _ _ ?_); clear hS)); refine hS _ _ ?_); clear hS; try clear hF)
  repeat (first
    | (refine aa rfl fun K hK => ?_; simp (disch := omega) only [WW, BB, ↓ab, simprocAttr]; refine hK _ _ ?_; clear hK) | refine af fun K hS hF => ?_ | refine ac rfl ?_)
  refine aa rfl fun K hK => ⟨G, p, bs, k, x, rfl, hP, h8, hx, hb, fun H' hP' => hK _ _ ?_⟩
  repeat (first
    | (refine aa rfl fun K hK => ?_; simp (disch := omega) only [WW, BB, ↓ab, simprocAttr]; refine hK _ _ ?_; clear hK) | (refine ae ?_; simp only [TH]; (((repeat ((fail_if_success refine hS _ _ ?_); clear hS)); refine hS _ _ ?_); clear hS; try clear hF)) | refine af fun K hS hF => ?_ | refine ac rfl ?_ | (refine al ?_; simp (disch := omega) only [TH, TE, WW, BB, ↓ab, simprocAttr]))
  exact ⟨_, rfl, [], _, aj _, hQ _ hP'⟩

/-- A ce size's bytes. -/
def cmpB (x : Nat) : List Nat := if ce x = 3 then leB 1 253 ++ leB 2 x else if ce x = 5 then leB 1 254 ++ leB 4 x else if ce x = 9 then leB 1 255 ++ leB 8 x else leB 1 x
def s92 : Spec := fun _ args H Q => ∃ G p bs x, args = [.ptr p 0, vN .u64 x] ∧ Pen G H p bs ∧ x < 18446744073709551616 ∧ bs.length + 9 ≤ 140737488355328 ∧ ∀ H', Pen G H' p (bs ++ cmpB x) → Q (vN .i64 0) H'
theorem snd92 : Sound Try.prog 92 s92 := by
  refine ak pm (ap [(106, s106), (107, s107)] (by simp [snd106, snd107])) [] Try.func92 rfl (by kernel_rfl) ?_
  rintro Y args H Q ⟨G, p, bs, x, rfl, hP, hx, hb, hQ⟩
  refine ⟨by simp [Try.f92], ?_⟩
  show wpC Try.prog (tab [(106, s106), (107, s107)]) Y [] 33 _ true (aB Try.prog [.tmp 4] Q) _ H
  repeat (first
    | (refine aa rfl fun K hK => ?_; simp (disch := omega) only [WW, BB, ↓ab, simprocAttr, pnil153]; refine hK _ _ ?_; clear hK) | (refine ae ?_; simp only [TH]; (((repeat ((fail_if_success refine hS _ _ ?_); clear hS)); refine hS _ _ ?_); clear hS; try clear hF)) | refine af fun K hS hF => ?_ | refine ac rfl ?_)
  refine aE (by simp (disch := omega) only [WW, BB, ↓ab, simprocAttr]) ?_
  (refine am ?_; simp only [TH]; ((repeat ((fail_if_success refine hS _ _ ?_); clear hS)); refine hS _ _ ?_); clear hS; try clear hF)
  repeat (first
    | (refine aa rfl fun K hK => ?_; simp (disch := omega) only [WW, BB, ↓ab, simprocAttr]; refine hK _ _ ?_; clear hK) | refine af fun K hS hF => ?_ | refine ac rfl ?_)
  refine aa rfl fun K hK => ⟨x, rfl, hx, hK _ _ ?_⟩
  repeat (first
    | (refine aa rfl fun K hK => ?_; simp (disch := omega) only [WW, BB, ↓ab, simprocAttr]; refine hK _ _ ?_; clear hK) | (refine ae ?_; simp only [TH]; (((repeat ((fail_if_success refine hS _ _ ?_); clear hS)); refine hS _ _ ?_); clear hS; try clear hF)) | refine af fun K hS hF => ?_ | refine ac rfl ?_)
  rw [cmpB] at hQ
  by_cases h3 : ce x = 3
  · rw [if_pos h3] at hQ
    refine aS (by simp (disch := omega) only [WW, BB, ↓ab, simprocAttr, decide_eq_true h3]) ?_
    repeat (first
    | (refine aa rfl fun K hK => ?_; simp (disch := omega) only [WW, BB, ↓ab, simprocAttr]; refine hK _ _ ?_; clear hK) | refine af fun K hS hF => ?_ | refine ac rfl ?_)
    refine aa rfl fun K hK => ⟨G, p, bs, 1, 253, rfl, hP, by omega, by omega, by omega, fun H1 hP1 => hK _ _ ?_⟩
    repeat (first
    | (refine aa rfl fun K hK => ?_; simp (disch := omega) only [WW, BB, ↓ab, simprocAttr]; refine hK _ _ ?_; clear hK) | (refine ae ?_; simp only [TH]; (((repeat ((fail_if_success refine hS _ _ ?_); clear hS)); refine hS _ _ ?_); clear hS; try clear hF)) | refine ac rfl ?_)
    refine aa rfl fun K hK => ⟨G, p, _, 2, x, rfl, hP1, by omega, hx, by rw [List.length_append, bq]; omega, fun H2 hP2 => hK _ _ ?_⟩
    repeat (first
    | (refine aa rfl fun K hK => ?_; simp (disch := omega) only [WW, BB, ↓ab, simprocAttr]; refine hK _ _ ?_; clear hK) | (refine ae ?_; simp only [TH]; (((repeat ((fail_if_success refine hS _ _ ?_); clear hS)); refine hS _ _ ?_); clear hS; try clear hF)) | refine af fun K hS hF => ?_ | refine ac rfl ?_ | (refine al ?_; simp (disch := omega) only [TH, TE, WW, BB, ↓ab, simprocAttr]))
    rw [List.append_assoc] at hP2
    exact ⟨_, rfl, [], _, aj _, hQ _ hP2⟩
  rw [if_neg h3] at hQ
  refine aE (by simp (disch := omega) only [WW, BB, ↓ab, simprocAttr, decide_eq_false h3]) ?_
  repeat (first
    | (refine aa rfl fun K hK => ?_; simp (disch := omega) only [WW, BB, ↓ab, simprocAttr]; refine hK _ _ ?_; clear hK) | (refine ae ?_; simp only [TH]; (((repeat ((fail_if_success refine hS _ _ ?_); clear hS)); refine hS _ _ ?_); clear hS; try clear hF)) | refine af fun K hS hF => ?_ | refine ac rfl ?_)
  by_cases h5 : ce x = 5
  · rw [if_pos h5] at hQ
    refine aS (by simp (disch := omega) only [WW, BB, ↓ab, simprocAttr, decide_eq_true h5]) ?_
    repeat (first
    | (refine aa rfl fun K hK => ?_; simp (disch := omega) only [WW, BB, ↓ab, simprocAttr]; refine hK _ _ ?_; clear hK) | refine af fun K hS hF => ?_ | refine ac rfl ?_)
    refine aa rfl fun K hK => ⟨G, p, bs, 1, 254, rfl, hP, by omega, by omega, by omega, fun H1 hP1 => hK _ _ ?_⟩
    repeat (first
    | (refine aa rfl fun K hK => ?_; simp (disch := omega) only [WW, BB, ↓ab, simprocAttr]; refine hK _ _ ?_; clear hK) | (refine ae ?_; simp only [TH]; (((repeat ((fail_if_success refine hS _ _ ?_); clear hS)); refine hS _ _ ?_); clear hS; try clear hF)) | refine ac rfl ?_)
    refine aa rfl fun K hK => ⟨G, p, _, 4, x, rfl, hP1, by omega, hx, by rw [List.length_append, bq]; omega, fun H2 hP2 => hK _ _ ?_⟩
    repeat (first
    | (refine aa rfl fun K hK => ?_; simp (disch := omega) only [WW, BB, ↓ab, simprocAttr]; refine hK _ _ ?_; clear hK) | (refine ae ?_; simp only [TH]; (((repeat ((fail_if_success refine hS _ _ ?_); clear hS)); refine hS _ _ ?_); clear hS; try clear hF)) | refine af fun K hS hF => ?_ | refine ac rfl ?_ | (refine al ?_; simp (disch := omega) only [TH, TE, WW, BB, ↓ab, simprocAttr]))
    rw [List.append_assoc] at hP2
    exact ⟨_, rfl, [], _, aj _, hQ _ hP2⟩
  rw [if_neg h5] at hQ
  refine aE (by simp (disch := omega) only [WW, BB, ↓ab, simprocAttr, decide_eq_false h5]) ?_
  repeat (first
    | (refine aa rfl fun K hK => ?_; simp (disch := omega) only [WW, BB, ↓ab, simprocAttr]; refine hK _ _ ?_; clear hK) | (refine ae ?_; simp only [TH]; (((repeat ((fail_if_success refine hS _ _ ?_); clear hS)); refine hS _ _ ?_); clear hS; try clear hF)) | refine af fun K hS hF => ?_ | refine ac rfl ?_)
  by_cases h9 : ce x = 9
  · rw [if_pos h9] at hQ
    refine aS (by simp (disch := omega) only [WW, BB, ↓ab, simprocAttr, decide_eq_true h9]) ?_
    repeat (first
    | (refine aa rfl fun K hK => ?_; simp (disch := omega) only [WW, BB, ↓ab, simprocAttr]; refine hK _ _ ?_; clear hK) | refine af fun K hS hF => ?_ | refine ac rfl ?_)
    refine aa rfl fun K hK => ⟨G, p, bs, 1, 255, rfl, hP, by omega, by omega, by omega, fun H1 hP1 => hK _ _ ?_⟩
    repeat (first
    | (refine aa rfl fun K hK => ?_; simp (disch := omega) only [WW, BB, ↓ab, simprocAttr]; refine hK _ _ ?_; clear hK) | (refine ae ?_; simp only [TH]; (((repeat ((fail_if_success refine hS _ _ ?_); clear hS)); refine hS _ _ ?_); clear hS; try clear hF)) | refine ac rfl ?_)
    refine aa rfl fun K hK => ⟨G, p, _, 8, x, rfl, hP1, by omega, hx, by rw [List.length_append, bq]; omega, fun H2 hP2 => hK _ _ ?_⟩
    repeat (first
    | (refine aa rfl fun K hK => ?_; simp (disch := omega) only [WW, BB, ↓ab, simprocAttr]; refine hK _ _ ?_; clear hK) | (refine ae ?_; simp only [TH]; (((repeat ((fail_if_success refine hS _ _ ?_); clear hS)); refine hS _ _ ?_); clear hS; try clear hF)) | refine af fun K hS hF => ?_ | refine ac rfl ?_ | (refine al ?_; simp (disch := omega) only [TH, TE, WW, BB, ↓ab, simprocAttr]))
    rw [List.append_assoc] at hP2
    exact ⟨_, rfl, [], _, aj _, hQ _ hP2⟩
  rw [if_neg h9] at hQ
  refine aE (by simp (disch := omega) only [WW, BB, ↓ab, simprocAttr, decide_eq_false h9]) ?_
  repeat (first
    | (refine aa rfl fun K hK => ?_; simp (disch := omega) only [WW, BB, ↓ab, simprocAttr]; refine hK _ _ ?_; clear hK) | refine ac rfl ?_)
  refine aa rfl fun K hK => ⟨G, p, bs, 1, x, rfl, hP, by omega, hx, by omega, fun H1 hP1 => hK _ _ ?_⟩
  repeat (first
    | (refine aa rfl fun K hK => ?_; simp (disch := omega) only [WW, BB, ↓ab, simprocAttr]; refine hK _ _ ?_; clear hK) | (refine ae ?_; simp only [TH]; (((repeat ((fail_if_success refine hS _ _ ?_); clear hS)); refine hS _ _ ?_); clear hS; try clear hF)) | refine af fun K hS hF => ?_ | refine ac rfl ?_ | (refine al ?_; simp (disch := omega) only [TH, TE, WW, BB, ↓ab, simprocAttr]))
  exact ⟨_, rfl, [], _, aj _, hQ _ hP1⟩
end Go.Av

set_option linter.unusedSimpArgs false
set_option linter.unusedVariables false
namespace Go.Av
open Go.RowKit Go.Proofs

theorem pen_view {G H : Hp} {p : Nat} {bs : List Nat} (h : Pen G H p bs) : ∃ y, H p = some (.row [y]) ∧ ao H 1 y = some (nE .u8 bs) := by
  obtain ⟨_, _, y, hy, hc⟩ := h
  refine ⟨y, hy, ?_⟩
  rcases hc with ⟨rfl, rfl⟩ | ⟨e, rfl, he, _⟩
  · rfl
  · have := view_osl (H := H) (d := e) (sz := 1) (full := false) (es := nE .u8 bs)
    rw [az] at this
    have hu : upd H e (some (.arr 1 (nE .u8 bs))) = H := by
      funext j
      by_cases hj : j = e
      · subst hj; rw [ag, he]
      · rw [ah _ _ _ hj]
    rw [hu] at this
    exact this

def s95 : Spec := fun _ args H Q => ∃ G p bs, args = [.ptr p 0] ∧ Pen G H p bs ∧ bs.length ≤ 140737488355328 ∧ ∀ v, isB v bs → Q v H
theorem snd95 : Sound Try.prog 95 s95 := by
  refine ak pm (ap [(82, s82)] (by simp [snd82])) [] Try.func95 rfl (by kernel_rfl) ?_
  rintro Y args H Q ⟨G, p, bs, rfl, hP, hb, hQ⟩
  refine ⟨by simp [Try.f95], ?_⟩
  show wpC Try.prog (tab [(82, s82)]) Y [] 10 _ true (aB Try.prog [.tmp 2] Q) _ H
  obtain ⟨y, hy, hv⟩ := pen_view hP
  repeat (first
    | (refine aa rfl fun K hK => ?_; simp (disch := omega) only [WW, BB, ↓ab, simprocAttr, pnil153]; refine hK _ _ ?_; clear hK) | (refine ae ?_; simp only [TH]; (((repeat ((fail_if_success refine hS _ _ ?_); clear hS)); refine hS _ _ ?_); clear hS; try clear hF)) | refine af fun K hS hF => ?_ | refine ac rfl ?_)
  refine aE (by simp (disch := omega) only [WW, BB, ↓ab, simprocAttr]) ?_
  (refine am ?_; simp only [TH]; ((repeat ((fail_if_success refine hS _ _ ?_); clear hS)); refine hS _ _ ?_); clear hS; try clear hF)
  repeat (first
    | (refine aa rfl fun K hK => ?_; simp (disch := omega) only [WW, BB, ↓ab, simprocAttr, fl136_0, bp, aw (off := 0) hy ty64 rfl]; refine hK _ _ ?_; clear hK) | refine af fun K hS hF => ?_ | refine ac rfl ?_)
  refine aa rfl fun K hK => ⟨y, bs, rfl, hv, hb, .inr fun v hv => hK _ _ ?_⟩
  repeat (first
    | (refine aa rfl fun K hK => ?_; simp (disch := omega) only [WW, BB, ↓ab, simprocAttr]; refine hK _ _ ?_; clear hK) | (refine ae ?_; simp only [TH]; (((repeat ((fail_if_success refine hS _ _ ?_); clear hS)); refine hS _ _ ?_); clear hS; try clear hF)) | (refine al ?_; simp (disch := omega) only [TH, TE, WW, BB, ↓ab, simprocAttr]))
  exact ⟨_, rfl, [], _, aj _, hQ _ hv⟩
end Go.Av

set_option linter.unusedSimpArgs false
set_option linter.unusedVariables false
namespace Go.Av
open Go.RowKit Go.Proofs

theorem digits_get : ∀ (n t : Nat) (acc : Array Value) (i : Nat), i < n → (Extern.BytealgMakeNoZero.digits n t acc)[acc.size + i]? = some (.int .u8 ((t / 256 ^ i % 256 : Nat) : Int))
  | n + 1, t, acc, 0, _ => by
    rw [Extern.BytealgMakeNoZero.digits]
    have : ∀ (m u : Nat) (a : Array Value) (j : Nat), j < a.size → (Extern.BytealgMakeNoZero.digits m u a)[j]? = a[j]? := by
      intro m
      induction m with
      | zero => intro u a j _; rfl
      | succ m ih =>
        intro u a j hj
        rw [Extern.BytealgMakeNoZero.digits, ih _ _ _ (by simp; omega), Array.getElem?_push_lt hj, Array.getElem?_eq_getElem hj]
    rw [this _ _ _ _ (by simp)]
    simp
  | n + 1, t, acc, i + 1, h => by
    rw [Extern.BytealgMakeNoZero.digits]
    have := digits_get n (t / 256) (acc.push (.int .u8 (Int.ofNat (t % 256)))) i (by omega)
    rw [Array.size_push] at this
    rw [show acc.size + (i + 1) = acc.size + 1 + i by omega, this, Nat.div_div_eq_div_mul, Nat.pow_succ, Nat.mul_comm]

theorem run_noZero {P : Program} (w : World) (ps : Array TypeId) (t e : TypeId) (ht : P.underlying t = some (.slice e)) (n : Nat) (hn : n ≤ 281474976710656) :
    ∃ cap bytes, (Extern.BytealgMakeNoZero.makeNoZero ps #[t] #[.int .i64 n]).run P w = .ok (.slice (some ⟨w.heap.size, 0, none⟩) n cap) (w.drew.drew.alloc (.cells (Extern.BytealgMakeNoZero.digits cap bytes #[]) e)) ∧ n ≤ cap := by
  have hdef : Extern.BytealgMakeNoZero.makeNoZero ps #[t] #[.int .i64 n] =
      (do
        let .slice elem ← underlying t | stuck "bytealg.MakeNoZero: slice type expected"
        if (n : Int) < 0 || (n : Int) > 2 ^ 48 then runtimePanic (.error "makeslice: len out of range")
        let cap ← choose (.appendCap (n : Int).toNat 0 elem)
        askRoom cap
        let bytes ← choose (.extern "internal/bytealg.MakeNoZero.bytes" 0)
        let a ← newRow elem (Extern.BytealgMakeNoZero.digits cap bytes #[])
        pure (.slice (some a) (n : Int).toNat cap)) := rfl
  refine ⟨grownCap w n 0 e, (Question.extern "internal/bytealg.MakeNoZero.bytes" 0).cut (w.tape (w.drawn + 1) (.extern "internal/bytealg.MakeNoZero.bytes" 0)), ?_, ?_⟩
  · rw [hdef]
    have h1 : ¬ (n : Int) < 0 := by omega
    have h2 : ¬ (281474976710656 : Int) < (n : Int) := by omega
    simp [run_underlying ht, h1, h2, Question.forced, newRow, grownCap]
  · simpa using grownCap_ge w n 0 e

def s110 : Spec := fun _ args H Q => ∃ n, args = [vN .i64 n] ∧ n ≤ 281474976710656 ∧ ∀ b bs, H b = none → bs.length = n → (∀ y ∈ bs, y < 256) → Q (.osl b 0 n 1 false) (upd H b (some (.arr 1 (nE .u8 bs))))

theorem find110 : Extern.find Try.f110 = some (Extern.BytealgMakeNoZero.makeNoZero Try.f110.params #[64]) := by rfl

theorem snd110 : Sound Try.prog 110 s110 := by
  rintro Y args H Q ⟨n, rfl, hn, hQ⟩ k w cargs hY hr hc
  left
  obtain ⟨hl, hcv⟩ := hc
  obtain ⟨v, rfl⟩ : ∃ v, cargs = #[v] := by
    match cargs, hl with
    | ⟨[v]⟩, _ => exact ⟨v, rfl⟩
  have hv := hcv 0 v (vN .i64 n) rfl rfl
  cases hv
  obtain ⟨cap, bytes, hrun, hcap⟩ := run_noZero (P := Try.prog) w Try.f110.params 64 5 un64 n hn
  have hr2 : Rel k H w.drew.drew := hr.heap rfl
  have hL : Laid k (Extern.BytealgMakeNoZero.digits cap bytes #[]) 1 (nE .u8 ((List.range n).map fun i => bytes / 256 ^ i % 256)) := by
    refine ⟨?_, fun e he => ?_, fun i e j x hi hj => ?_⟩
    · rw [az, Lib.size_digits]; simp; omega
    · simp only [nE, List.mem_map] at he
      obtain ⟨a, _, rfl⟩ := he
      rfl
    · simp only [nE, List.getElem?_map, Option.map_eq_some_iff] at hi
      obtain ⟨a, ⟨i', hi', rfl⟩, rfl⟩ := hi
      obtain ⟨hi2, hi3⟩ := List.getElem?_eq_some_iff.1 hi'
      rw [List.getElem_range] at hi3
      subst hi3
      rw [List.length_range] at hi2
      have hj0 : j = 0 := by
        have := (List.getElem?_eq_some_iff.1 hj).1
        simpa using this
      subst hj0
      simp only [List.getElem?_cons_zero, Option.some.injEq] at hj
      subst hj
      have := digits_get cap bytes #[] i (by omega)
      simp only [Array.size_empty, Nat.zero_add] at this
      exact ⟨_, by simpa using this, .int _ _⟩
  obtain ⟨g1, g2, g3⟩ := alloc_arr (e := 5) hr2 hL
  have hlen : ((List.range n).map fun i => bytes / 256 ^ i % 256).length = n := by simp
  refine ⟨.slice (some ⟨w.heap.size, 0, none⟩) n cap, _, ?_, _, _, _, hQ w.heap.size _ hr.fresh hlen (fun y hy => ?_), g1, g2, ?_, ?_⟩
  · rw [run_callFunc_extern Try.func110 (by kernel_rfl) (by kernel_rfl) (by rfl) find110, hrun]
    rfl
  · obtain ⟨i, _, rfl⟩ := List.mem_map.1 hy
    omega
  · have := Conc.osl (k := k.putR w.heap.size (Extern.BytealgMakeNoZero.digits cap bytes #[]).size) w.heap.size 0 n 1 cap _ false g3 hcap (by rw [Lib.size_digits]; simp) (fun h => by cases h)
    exact this
  · have h0 : Fr H w H w.drew.drew := ⟨rfl, rfl, rfl, Nat.le_refl _, fun _ _ _ => rfl, fun _ _ h => h⟩
    exact h0.trans (Fr.alloc_own (w := w.drew.drew) (.cells (Extern.BytealgMakeNoZero.digits cap bytes #[]) 5) _)
end Go.Av

set_option linter.unusedSimpArgs false
set_option linter.unusedVariables false
namespace Go.Av
open Go.RowKit Go.Proofs

def s108 : Spec := fun _ args H Q => ∃ x y bs, args = [x, .nils] ∧ ao H 1 x = some [[y]] ∧ ao H 1 y = some (nE .u8 bs) ∧ bs.length ≤ 140737488355328 ∧ ∀ v, isB v bs → Q v H

theorem snd108 : Sound Try.prog 108 s108 := by
  refine ak pm (ap [(110, s110)] (by simp [snd110])) [] Try.func108 rfl (by kernel_rfl) ?_
  rintro Y args H Q ⟨x, y, bs, rfl, hvx, hv, hb, hQ⟩
  refine ⟨by simp [Try.f108], ?_⟩
  show wpC Try.prog (tab [(110, s110)]) Y [] 92 _ true (aB Try.prog [.tmp 4] Q) _ H
  have hl := av (P := Try.prog) sl115 hvx
  obtain ⟨p, hp, hq⟩ := ci (P := Try.prog) (k := .i64) (i := 0) (y := y) ar115 sl115 hvx rfl
  repeat (first
    | (refine aa rfl fun K hK => ?_; simp (disch := omega) only [WW, BB, ↓ab, simprocAttr, hl, List.length_cons, List.length_nil, Nat.zero_add, Nat.reduceEqDiff, decide_false, decide_true, Nat.one_ne_zero]; refine hK _ _ ?_; clear hK) | (refine ae ?_; simp only [TH]; (((repeat ((fail_if_success refine hS _ _ ?_); clear hS)); refine hS _ _ ?_); clear hS; try clear hF)) | refine af fun K hS hF => ?_ | refine ac rfl ?_)
  refine aE (by simp (disch := omega) only [WW, BB, ↓ab, simprocAttr]) ?_
  (refine am ?_; simp only [TH]; ((repeat ((fail_if_success refine hS _ _ ?_); clear hS)); refine hS _ _ ?_); clear hS; try clear hF)
  repeat (first
    | (refine aa rfl fun K hK => ?_; simp (disch := omega) only [WW, BB, ↓ab, simprocAttr, hl, List.length_cons, List.length_nil, Nat.zero_add, Nat.reduceEqDiff, decide_false, decide_true]; refine hK _ _ ?_; clear hK) | (refine ae ?_; simp only [TH]; (((repeat ((fail_if_success refine hS _ _ ?_); clear hS)); refine hS _ _ ?_); clear hS; try clear hF)) | refine af fun K hS hF => ?_ | refine ac rfl ?_)
  refine aS (by simp (disch := omega) only [WW, BB, ↓ab, simprocAttr]) ?_
  repeat (first
    | (refine aa rfl fun K hK => ?_; simp (disch := omega) only [WW, BB, ↓ab, simprocAttr, hp, hq, ty64]; refine hK _ _ ?_; clear hK) | refine af fun K hS hF => ?_ | refine ac rfl ?_)
  refine aa rfl fun K hK => ?_
  simp (disch := omega) only [WW, BB, ↓ab, simprocAttr]
  refine append_new (x := y) (.inl rfl) ds64 sl64 hv (nE_ones _ _) (by rw [by64, az]; omega) (by rw [az]; omega) (fun hn => hK _ _ ?_) (fun hn b hb => hK _ _ ?_)
  · have hn' : bs = [] := by
      have := congrArg List.length hn
      rw [az] at this
      exact List.eq_nil_of_length_eq_zero this
    repeat (first
    | (refine aa rfl fun K hK => ?_; simp (disch := omega) only [WW, BB, ↓ab, simprocAttr]; refine hK _ _ ?_; clear hK) | (refine ae ?_; simp only [TH]; (((repeat ((fail_if_success refine hS _ _ ?_); clear hS)); refine hS _ _ ?_); clear hS; try clear hF)) | (refine al ?_; simp (disch := omega) only [TH, TE, WW, BB, ↓ab, simprocAttr]))
    exact ⟨_, rfl, [], H, aj H, hQ _ (.inl ⟨rfl, hn'⟩)⟩
  · repeat (first
    | (refine aa rfl fun K hK => ?_; simp (disch := omega) only [WW, BB, ↓ab, simprocAttr]; refine hK _ _ ?_; clear hK) | (refine ae ?_; simp only [TH]; (((repeat ((fail_if_success refine hS _ _ ?_); clear hS)); refine hS _ _ ?_); clear hS; try clear hF)) | (refine al ?_; simp (disch := omega) only [TH, TE, WW, BB, ↓ab, simprocAttr]))
    rw [az]
    exact ⟨_, rfl, [b], freeze_end hb (hQ _ (.inr ⟨false, rfl⟩))⟩
end Go.Av

set_option linter.unusedSimpArgs false
set_option linter.unusedVariables false
namespace Go.Av
open Go.RowKit Go.Proofs

def s93 : Spec := fun _ args H Q => ∃ G p bs x z cs, args = [.ptr p 0, x] ∧ Pen G H p bs ∧ ao G 1 x = some [[z]] ∧ ao G 1 z = some (nE .u8 cs) ∧ bs.length + cs.length ≤ 140737488355328 ∧ ∀ H', Pen G H' p (bs ++ cs) → Q (vN .i64 0) H'

theorem snd93 : Sound Try.prog 93 s93 := by
  refine ak pm (ap [(108, s108)] (by simp [snd108])) [] Try.func93 rfl (by kernel_rfl) ?_
  rintro Y args H Q ⟨G, p, bs, x, z, cs, rfl, hP, hvx, hvz, hb, hQ⟩
  refine ⟨by simp [Try.f93], ?_⟩
  show wpC Try.prog (tab [(108, s108)]) Y [] 17 _ true (aB Try.prog [.tmp 4] Q) _ H
  have hP0 := hP
  obtain ⟨hG, hGp, y, hy, _⟩ := hP0
  repeat (first
    | (refine aa rfl fun K hK => ?_; simp (disch := omega) only [WW, BB, ↓ab, simprocAttr, pnil153]; refine hK _ _ ?_; clear hK) | (refine ae ?_; simp only [TH]; (((repeat ((fail_if_success refine hS _ _ ?_); clear hS)); refine hS _ _ ?_); clear hS; try clear hF)) | refine af fun K hS hF => ?_ | refine ac rfl ?_)
  refine aE (by simp (disch := omega) only [WW, BB, ↓ab, simprocAttr]) ?_
  (refine am ?_; simp only [TH]; ((repeat ((fail_if_success refine hS _ _ ?_); clear hS)); refine hS _ _ ?_); clear hS; try clear hF)
  refine bZ fun K hS => ?_
  refine ck 8 [0, 1, 2, 3, 4, 5] (fun i => decide (6 ≤ i)) (fun H' => hle G H' ∧ H' p = some (.row [y])) (by kernel_rfl) ⟨hG, hy⟩ fun L B hBd hL => ?_
  refine ay rfl rfl rfl ⟨.ptr p 0, fun H' hC' => ?_, ?_⟩
  · simp (disch := omega) only [WW, BB, ↓ab, simprocAttr]
    exact ⟨trivial, trivial⟩
  refine ay rfl rfl rfl ⟨.ptr p 0, fun H' hC' => ?_, ?_⟩
  · simp (disch := omega) only [WW, BB, ↓ab, simprocAttr]
    exact ⟨trivial, trivial⟩
  refine ay rfl rfl rfl ⟨.ptr p 0, fun H' hC' => ?_, ?_⟩
  · simp (disch := omega) only [WW, BB, ↓ab, simprocAttr]
    exact ⟨trivial, trivial⟩
  refine ay rfl rfl rfl ⟨.ptr p 0, fun H' hC' => ?_, ?_⟩
  · simp (disch := omega) only [WW, BB, ↓ab, simprocAttr, fl136_0, bp]
    exact ⟨trivial, trivial⟩
  refine ay rfl rfl rfl ⟨y, fun H' hC' => ?_, ?_⟩
  · simp (disch := omega) only [WW, BB, ↓ab, simprocAttr, aw (off := 0) hC'.2 ty64 rfl]
    exact ⟨trivial, trivial⟩
  refine ay rfl rfl rfl ⟨x, fun H' hC' => ?_, ?_⟩
  · simp (disch := omega) only [WW, BB, ↓ab, simprocAttr]
    exact ⟨trivial, trivial⟩
  refine cj (aV [6] (by kernel_rfl) (by simp) fun i hi => ?_)
  have hi' : i = 6 := by simpa using hi
  subst hi'
  refine ⟨by omega, bS rfl rfl rfl ⟨fun v H' => isB v cs ∧ H' = H, ?_, ?_⟩⟩
  · refine ⟨x, z, cs, ?_, aL hG hvx, aL hG hvz, by omega, fun v hv => ⟨hv, rfl⟩⟩
    simp (disch := omega) only [WW, BB, ↓ab, simprocAttr]
  rintro v H' ⟨hv, rfl⟩
  refine ⟨⟨hG, hy⟩, aV [7] (by kernel_rfl) (by simp) fun i hi => ?_⟩
  have hi' : i = 7 := by simpa using hi
  subst hi'
  refine ⟨by omega, bS rfl rfl rfl ⟨fun y' X => X p = some (.row [y]) ∧ aW y' = some [y'] ∧ one y' = true ∧ Pen G (upd X p (some (.row [y']))) p (bs ++ cs), ?_, ?_⟩⟩
  · simp (disch := omega) only [WW, BB, ↓ab, simprocAttr]
    exact pen_append hP hy (isB_view hv _) hb fun y' X h1 h2 h3 h4 => ⟨h1, h2, h3, h4⟩
  rintro y' X ⟨h1, h2, h3, h4⟩
  have hGX : hle G X := fun j c hj => by
    have hjp : j ≠ p := fun e => by subst e; rw [hGp] at hj; cases hj
    have := h4.1 j c hj
    rwa [ah _ _ _ hjp] at this
  refine ⟨⟨hGX, h1⟩, bN (hL _ _ _ (by rw [hBd]; kernel_rfl) ?_)⟩
  repeat (refine aa rfl fun K hK => ?_; simp (disch := omega) only [WW, BB, ↓ab, simprocAttr, fl136_0, bp]; refine hK _ _ ?_; clear hK)
  refine aq (p := .ptr p 0) (v := y') rfl rfl rfl (by simp (disch := omega) only [WW, BB, ↓ab, simprocAttr]) rfl (aT (b := p) (off := 0) h1 ty64 h2 h3 (by simp)) ?_
  repeat (first
    | (refine aa rfl fun K hK => ?_; simp (disch := omega) only [WW, BB, ↓ab, simprocAttr]; refine hK _ _ ?_; clear hK) | (refine ae ?_; simp only [TH]; (((repeat ((fail_if_success refine hS _ _ ?_); clear hS)); refine hS _ _ ?_); clear hS; try clear hF)) | refine af fun K hS hF => ?_ | refine ac rfl ?_ | (refine al ?_; simp (disch := omega) only [TH, TE, WW, BB, ↓ab, simprocAttr]))
  exact ⟨_, rfl, [], _, aj _, hQ _ h4⟩

theorem cellsV_view {H : Hp} {z : V} {sz : Nat} {es : List (List V)} (h : ao H sz z = some es) : aW z = some [z] := by
  cases z <;> first | rfl | (simp [ao] at h)

theorem bs115 {S : Nat → Spec} {Y : aC} {H : Hp} {t : T} {Q : V → Hp → Prop} {x : Operand} {z : V} (hx : evT t x = z) (hc : aW z = some [z]) (h : Q (.sl 1 [[z]] true) H) : wpOp Try.prog S Y false H (evT t) (.buildSlice 115 1 #[(0, x)]) Q := by
  refine ⟨1, [[.nils]], [[z]], by kernel_rfl, by omega, ?_, h⟩
  simp only [List.map_cons, List.map_nil, bv, hx, hc]
  rfl

def s94 : Spec := fun _ args H Q => ∃ G p bs z cs, args = [.ptr p 0, z] ∧ Pen G H p bs ∧ ao G 1 z = some (nE .u8 cs) ∧ bs.length + cs.length + 9 ≤ 140737488355328 ∧ ∀ H', Pen G H' p (bs ++ (cmpB cs.length ++ cs)) → Q (vN .i64 0) H'

theorem cmpB_len (x : Nat) : (cmpB x).length ≤ 9 := by
  unfold cmpB
  split
  · simp [bq]
  · split
    · simp [bq]
    · split <;> simp [bq]

theorem snd94 : Sound Try.prog 94 s94 := by
  refine ak pm (ap [(92, s92), (93, s93)] (by simp [snd92, snd93])) [] Try.func94 rfl (by kernel_rfl) ?_
  rintro Y args H Q ⟨G, p, bs, z, cs, rfl, hP, hvz, hb, hQ⟩
  refine ⟨by simp [Try.f94], ?_⟩
  show wpC Try.prog (tab [(92, s92), (93, s93)]) Y [] 18 _ true (aB Try.prog [.tmp 4] Q) _ H
  have hl := av (P := Try.prog) sl64 (aL hP.1 hvz)
  rw [az] at hl
  have hm : cs.length % 18446744073709551616 = cs.length := Nat.mod_eq_of_lt (by omega)
  repeat (first
    | (refine aa rfl fun K hK => ?_; simp (disch := omega) only [WW, BB, ↓ab, simprocAttr, hl, conv_u64 _ us3 i91, hm]; refine hK _ _ ?_; clear hK) | (refine ae ?_; simp only [TH]; (((repeat ((fail_if_success refine hS _ _ ?_); clear hS)); refine hS _ _ ?_); clear hS; try clear hF)) | refine af fun K hS hF => ?_ | refine ac rfl ?_)
  refine aa rfl fun K hK => ⟨G, p, bs, cs.length, rfl, hP, by omega, by omega, fun H1 hP1 => hK _ _ ?_⟩
  repeat (first
    | (refine aa rfl fun K hK => ?_; simp (disch := omega) only [WW, BB, ↓ab, simprocAttr, ne_eq, not_true, decide_false]; refine hK _ _ ?_; clear hK) | (refine ae ?_; simp only [TH]; (((repeat ((fail_if_success refine hS _ _ ?_); clear hS)); refine hS _ _ ?_); clear hS; try clear hF)) | refine af fun K hS hF => ?_ | refine ac rfl ?_)
  refine aE (by simp (disch := omega) only [WW, BB, ↓ab, simprocAttr]) ?_
  (refine am ?_; simp only [TH]; ((repeat ((fail_if_success refine hS _ _ ?_); clear hS)); refine hS _ _ ?_); clear hS; try clear hF)
  repeat (first
    | (refine aa rfl fun K hK => ?_; simp (disch := omega) only [WW, BB, ↓ab, simprocAttr]; refine hK _ _ ?_; clear hK) | refine af fun K hS hF => ?_ | refine ac rfl ?_)
  have hcl := cmpB_len cs.length
  refine aa rfl fun K hK => bs115 (z := z) (by simp (disch := omega) only [WW, BB, ↓ab, simprocAttr]) (cellsV_view hvz) (hK _ _ ?_)
  refine aa rfl fun K hK => ⟨G, p, _, .sl 1 [[z]] true, z, cs, ?_, hP1, rfl, hvz, by rw [List.length_append]; omega, fun H2 hP2 => hK _ _ ?_⟩
  · simp (disch := omega) only [WW, BB, ↓ab, simprocAttr]
  repeat (first
    | (refine aa rfl fun K hK => ?_; simp (disch := omega) only [WW, BB, ↓ab, simprocAttr]; refine hK _ _ ?_; clear hK) | (refine ae ?_; simp only [TH]; (((repeat ((fail_if_success refine hS _ _ ?_); clear hS)); refine hS _ _ ?_); clear hS; try clear hF)) | (refine al ?_; simp (disch := omega) only [TH, TE, WW, BB, ↓ab, simprocAttr]))
  rw [List.append_assoc] at hP2
  exact ⟨_, rfl, [], _, aj _, hQ _ hP2⟩
end Go.Av

set_option linter.unusedSimpArgs false
set_option linter.unusedVariables false
namespace Go.Av
open Go.RowKit Go.Proofs

structure TIn where
  tx : List Nat
  n : Nat
  script : List Nat
  seq : Nat
structure TOut where
  value : Int
  script : List Nat
structure TTx where
  ver : Nat
  ins : List TIn
  outs : List TOut
  lock : Nat

/-- Elements that stand for others, one by one. -/
def Each {α β : Type} (R : α → β → Prop) (xs : List α) (bs : List β) : Prop := xs.length = bs.length ∧ ∀ (i : Nat) a b, xs[i]? = some a → bs[i]? = some b → R a b
theorem Each.imp {α β : Type} {R S : α → β → Prop} (h : ∀ a b, R a b → S a b) {xs : List α} {bs : List β} (he : Each R xs bs) : Each S xs bs := ⟨he.1, fun i a b ha hb => h a b (he.2 i a b ha hb)⟩
theorem Each.get {α β : Type} {R : α → β → Prop} {xs : List α} {bs : List β} (he : Each R xs bs) {i : Nat} {b : β} (hb : bs[i]? = some b) : ∃ a, xs[i]? = some a ∧ R a b := by
  have hi : i < xs.length := by rw [he.1]; exact (List.getElem?_eq_some_iff.1 hb).1
  exact ⟨xs[i], List.getElem?_eq_getElem hi, he.2 i _ b (List.getElem?_eq_getElem hi) hb⟩
theorem Each.append {α β : Type} {R : α → β → Prop} {xs xs' : List α} {bs bs' : List β} (h : Each R xs bs) (h' : Each R xs' bs') : Each R (xs ++ xs') (bs ++ bs') := by
  refine ⟨by simp [h.1, h'.1], fun i a b ha hb => ?_⟩
  by_cases hi : i < xs.length
  · rw [List.getElem?_append_left hi] at ha
    rw [List.getElem?_append_left (by rw [← h.1]; exact hi)] at hb
    exact h.2 i a b ha hb
  · rw [List.getElem?_append_right (by omega)] at ha
    rw [List.getElem?_append_right (by rw [← h.1]; omega), ← h.1] at hb
    exact h'.2 _ a b ha hb
theorem Each.take {α β : Type} {R : α → β → Prop} {xs : List α} {bs : List β} (h : Each R xs bs) (n : Nat) : Each R (xs.take n) (bs.take n) := by
  refine ⟨by simp [h.1], fun i a b ha hb => ?_⟩
  rw [List.getElem?_take] at ha hb
  split at ha
  · rename_i hi
    rw [if_pos hi] at hb
    exact h.2 i a b ha hb
  · cases ha
theorem Each.drop {α β : Type} {R : α → β → Prop} {xs : List α} {bs : List β} (h : Each R xs bs) (n : Nat) : Each R (xs.drop n) (bs.drop n) := by
  refine ⟨by simp [h.1], fun i a b ha hb => ?_⟩
  rw [List.getElem?_drop] at ha hb
  exact h.2 _ a b ha hb

def isIn (H : Hp) (cs : List V) (x : TIn) : Prop := ∃ s, cs = nR .u8 x.tx ++ [vN .u32 x.n, s, vN .u32 x.seq] ∧ ao H 1 s = some (nE .u8 x.script) ∧ notR s = true ∧ okH x.tx ∧ x.n < 4294967296 ∧ x.seq < 4294967296 ∧ 0 ≤ x.script.length
def isOut (H : Hp) (cs : List V) (x : TOut) : Prop := ∃ s, cs = [.int .i64 x.value, s] ∧ ao H 1 s = some (nE .u8 x.script) ∧ notR s = true ∧ (-9223372036854775808 ≤ x.value ∧ x.value < 9223372036854775808) ∧ 0 ≤ x.script.length
def isTx (H : Hp) (cs : List V) (x : TTx) : Prop := ∃ vi vo ei eo, cs = [vN .u32 x.ver, vi, vo, vN .u32 x.lock] ∧ ao H 35 vi = some ei ∧ notR vi = true ∧ Each (isIn H) ei x.ins ∧ ao H 2 vo = some eo ∧ notR vo = true ∧ Each (isOut H) eo x.outs ∧ x.ver < 4294967296 ∧ x.lock < 4294967296
def isTxs (H : Hp) (v : V) (l : List TTx) : Prop := ∃ es, ao H 4 v = some es ∧ notR v = true ∧ Each (isTx H) es l

theorem isIn_le {H H' : Hp} (h : hle H H') {cs : List V} {x : TIn} (hi : isIn H cs x) : isIn H' cs x := by
  obtain ⟨s, h1, h2, h3⟩ := hi
  exact ⟨s, h1, aL h h2, h3⟩
theorem isOut_le {H H' : Hp} (h : hle H H') {cs : List V} {x : TOut} (hi : isOut H cs x) : isOut H' cs x := by
  obtain ⟨s, h1, h2, h3⟩ := hi
  exact ⟨s, h1, aL h h2, h3⟩
theorem isTx_le {H H' : Hp} (h : hle H H') {cs : List V} {x : TTx} (hi : isTx H cs x) : isTx H' cs x := by
  obtain ⟨vi, vo, ei, eo, h1, h2, h3, h4, h5, h6, h7, h8⟩ := hi
  exact ⟨vi, vo, ei, eo, h1, aL h h2, h3, h4.imp fun _ _ => isIn_le h, aL h h5, h6, h7.imp fun _ _ => isOut_le h, h8⟩
theorem bX {H H' : Hp} (h : hle H H') {v : V} {l : List TTx} (hi : isTxs H v l) : isTxs H' v l := by
  obtain ⟨es, h1, h2, h3⟩ := hi
  exact ⟨es, aL h h1, h2, h3.imp fun _ _ => isTx_le h⟩

theorem ty56 : tyT Try.prog 56 = some (true, 4) := by kernel_rfl
theorem ty68 : tyT Try.prog 68 = some (true, 35) := by kernel_rfl
theorem ty70 : tyT Try.prog 70 = some (true, 2) := by kernel_rfl
theorem ty53 : tyT Try.prog 53 = some (false, 1) := by kernel_rfl
theorem ty54 : tyT Try.prog 54 = some (false, 1) := by kernel_rfl
theorem ty66 : tyT Try.prog 66 = some (true, 33) := by kernel_rfl
theorem ty49 : tyT Try.prog 49 = some (true, 69) := by kernel_rfl
theorem ty46 : tyT Try.prog 46 = some (true, 68) := by kernel_rfl
theorem ty98 : tyT Try.prog 98 = some (true, 69) := by kernel_rfl
theorem sl53 : sliT Try.prog 53 = some 35 := by kernel_rfl
theorem sl54 : sliT Try.prog 54 = some 2 := by kernel_rfl
theorem sl47 : sliT Try.prog 47 = some 4 := by kernel_rfl
theorem ar53 : arrT Try.prog 53 = none := by kernel_rfl
theorem ar54 : arrT Try.prog 54 = none := by kernel_rfl
theorem ar47 : arrT Try.prog 47 = none := by kernel_rfl
theorem bA : fldT Try.prog 56 1 = some (1, 53) := by kernel_rfl
theorem fl56_2 : fldT Try.prog 56 2 = some (2, 54) := by kernel_rfl
theorem fl68_0 : fldT Try.prog 68 0 = some (0, 66) := by kernel_rfl
theorem fl68_1 : fldT Try.prog 68 1 = some (33, 64) := by kernel_rfl
theorem fl70_0 : fldT Try.prog 70 0 = some (0, 2) := by kernel_rfl
theorem fl70_1 : fldT Try.prog 70 1 = some (1, 64) := by kernel_rfl
theorem fl98_0 : fldT Try.prog 98 0 = some (0, 49) := by kernel_rfl
theorem bu : fldT Try.prog 49 1 = some (68, 47) := by kernel_rfl
theorem fl49_0 : fldT Try.prog 49 0 = some (0, 46) := by kernel_rfl
end Go.Av

set_option linter.unusedSimpArgs false
set_option linter.unusedVariables false
namespace Go.Av
open Go.RowKit Go.Proofs

theorem ptr_shift {H : Hp} {p : V} {c : List V} {o : Nat} (off : Nat) (h : aK H p = some (c, o)) : ∃ q, bp p off = some q ∧ aK H q = some (c, o + off) := by
  cases p with
  | ptr b f =>
    refine ⟨_, rfl, ?_⟩
    simp only [aK] at h ⊢
    split at h
    · cases h
      rfl
    · cases h
  | eptr b i f sz =>
    refine ⟨_, rfl, ?_⟩
    simp only [aK] at h ⊢
    split at h
    · split at h
      · rename_i hs
        rw [if_pos hs]
        obtain ⟨e, he, h2⟩ := Option.map_eq_some_iff.1 h
        cases h2
        rw [he]
        rfl
      · cases h
    · cases h
  | cptr e f =>
    refine ⟨_, rfl, ?_⟩
    simp only [aK] at h ⊢
    cases h
    rfl
  | _ => simp [aK] at h

/-- A field of an element: an aggregate; a cell. -/
theorem elem_fieldA {P : Program} {H : Hp} {sz : Nat} {x : V} {es : List (List V)} {t : TypeId} (ha : arrT P t = none) (ht : sliT P t = some sz) (hv : ao H sz x = some es) {k : IntKind} {i : Nat} {e : List V} (he : es[i]? = some e) (hsz : e.length = sz) (off n : Nat) (hn : off + n ≤ sz) :
    ∃ p q, bw P t x (vN k i) = some p ∧ bp p off = some q ∧ ((aK H q).bind fun x => ldc (some (true, n)) x.1 x.2) = some (.agg ((e.drop off).take n)) := by
  obtain ⟨p, h1, c, o, h2, h3, h4⟩ := elem_view (k := k) ha ht hv he hsz
  obtain ⟨q, h5, h6⟩ := ptr_shift off h2
  refine ⟨p, q, h1, h5, ?_⟩
  rw [h6]
  simp only [Option.bind_some, ldc]
  rw [if_pos (by omega), ← h4, List.drop_take, List.take_take, List.drop_drop, Nat.min_eq_left (by omega)]
theorem elem_field1 {P : Program} {H : Hp} {sz : Nat} {x : V} {es : List (List V)} {t : TypeId} (ha : arrT P t = none) (ht : sliT P t = some sz) (hv : ao H sz x = some es) {k : IntKind} {i : Nat} {e : List V} (he : es[i]? = some e) (hsz : e.length = sz) (off : Nat) {y : V} (hy : e[off]? = some y) :
    ∃ p q, bw P t x (vN k i) = some p ∧ bp p off = some q ∧ ∀ m, ((aK H q).bind fun x => ldc (some (false, m)) x.1 x.2) = some y := by
  obtain ⟨p, h1, c, o, h2, h3, h4⟩ := elem_view (k := k) ha ht hv he hsz
  obtain ⟨q, h5, h6⟩ := ptr_shift off h2
  refine ⟨p, q, h1, h5, fun m => ?_⟩
  rw [h6]
  simp only [Option.bind_some, ldc]
  have ho : off < sz := by
    have := (List.getElem?_eq_some_iff.1 hy).1
    omega
  rw [← h4, List.getElem?_take, if_pos ho, List.getElem?_drop] at hy
  exact hy
end Go.Av

set_option linter.unusedSimpArgs false
set_option linter.unusedVariables false
namespace Go.Av
open Go.RowKit Go.Proofs
theorem ty47 : tyT Try.prog 47 = some (false, 1) := by kernel_rfl

theorem klits_nR {P : Program} {t e : TypeId} {n d : Nat} {k : IntKind} (ht : P.underlying t = some (.array n e)) (he : P.underlying e = some (.int k)) (hct : P.cellsOf t = n) (hce : P.cellsOf e = 1) {l : List Nat} (hl : l.length = n)
    (hw : ∀ x ∈ l, (Lit.int k (x : Nat)).wf = true) : (P.keyLits (d + 2) t (l.map fun x : Nat => Value.int k x)).isSome = true := by
  unfold Program.keyLits
  simp only [ht]
  rw [if_pos (by simp [hct, hl]), Option.isSome_map]
  refine mapM_isSome _ _ fun i hi => ?_
  have hi' : i < l.length := by rw [hl]; simpa using hi
  rw [hce, Nat.mul_one]
  have hd : ((l.map fun x : Nat => Value.int k x).drop i).take 1 = [Value.int k (l[i] : Nat)] := by
    rw [List.drop_eq_getElem_cons (by simpa using hi'), List.take_succ_cons, List.take_zero, List.getElem_map]
  rw [hd]
  unfold Program.keyLits
  simp only [he]
  rw [if_pos ⟨trivial, hw _ (List.getElem_mem hi')⟩]
  rfl
theorem toVals_append : ∀ (xs ys : List V) (vs us : List Value), bK xs = some vs → bK ys = some us → bK (xs ++ ys) = some (vs ++ us)
  | [], ys, vs, us, h, g => by simp only [bK] at h; cases h; exact g
  | x :: xs, ys, vs, us, h, g => by
    simp only [bK] at h
    split at h
    · rename_i v vs' h1 h2
      cases h
      simp only [List.cons_append, bK, h1, toVals_append xs ys vs' us h2 g]
    · cases h
theorem eqC_append : ∀ (a b x y : List V), a.length = b.length → eqC (a ++ x) (b ++ y) = (eqC a b && eqC x y)
  | [], [], x, y, _ => by simp [eqC]
  | [], _ :: _, _, _, h => by simp at h
  | _ :: _, [], _, _, h => by simp at h
  | u :: a, w :: b, x, y, h => by
    simp only [List.cons_append, eqC, eqC_append a b x y (by simpa using h), Bool.and_assoc]
theorem eqC_one (k : IntKind) (n m : Nat) : eqC [vN k n] [vN k m] = decide (n = m) := by
  have := eqC_nR k [n] [m]
  simp only [nR, List.map_cons, List.map_nil] at this
  rw [this]
  simp

def pC (a : List Nat) (n : Nat) : List V := nR .u8 a ++ [vN .u32 n]
theorem bP {a : List Nat} (h : a.length = 32) (n : Nat) : (pC a n).length = 33 := by simp [pC, ar, h]
theorem un66 : Try.prog.underlying 66 = some (.struct #[{ name := "Tx", type := 25, offset := 0, embedded := false, tag := "", pkgPath := "", byteOffset := 0 }, { name := "N", type := 44, offset := 32, embedded := false, tag := "", pkgPath := "", byteOffset := 32 }]) := by kernel_rfl
theorem ag66 : aggEqT Try.prog 66 = true := by kernel_rfl
theorem co66 : Try.prog.cellsOf 66 = 33 := by kernel_rfl
theorem li66 {a : List Nat} {n : Nat} (ha : okH a) (hn : n < 4294967296) : (litsV Try.prog 66 (pC a n)).isSome = true := by
  have h1 : bK (pC a n) = some ((a.map fun x : Nat => Value.int .u8 x) ++ [Value.int .u32 (n : Nat)]) := toVals_append _ _ _ _ (toVals_nR _ _) rfl
  have hw : ∀ x ∈ a, (Lit.int .u8 (x : Nat)).wf = true := fun x hx => by
    have := ha.2 x hx
    simp only [Lit.wf, IntKind.min, IntKind.max, IntKind.signed, IntKind.bits]
    simp
    omega
  have hk := Option.isSome_iff_exists.1 (klits_nR (P := Try.prog) (d := 17) un25 un5 co25 co5 ha.1 hw)
  obtain ⟨l1, hl1⟩ := hk
  have hl2 : Try.prog.keyLits 19 44 [Value.int .u32 (n : Nat)] = some [.int .u32 (n : Nat)] := by
    unfold Program.keyLits
    simp only [un44]
    rw [if_pos]
    refine ⟨trivial, ?_⟩
    simp only [Lit.wf, IntKind.min, IntKind.max, IntKind.signed, IntKind.bits]
    simp
    omega
  unfold litsV
  rw [h1, Option.bind_some]
  unfold Program.keyLits
  simp only [un66]
  have ha1 := ha.1
  rw [if_pos ⟨by rw [co66]; simp [ha1], by kernel_rfl⟩]
  have hd1 : (List.drop 0 ((a.map fun x : Nat => Value.int .u8 x) ++ [Value.int .u32 (n : Nat)])).take (Try.prog.cellsOf 25) = a.map fun x : Nat => Value.int .u8 x := by
    rw [co25, List.drop_zero, List.take_append_of_le_length (by simp [ha1]), List.take_of_length_le (by simp [ha1])]
  have hd2 : (List.drop 32 ((a.map fun x : Nat => Value.int .u8 x) ++ [Value.int .u32 (n : Nat)])).take (Try.prog.cellsOf 44) = [Value.int .u32 (n : Nat)] := by
    rw [co44, List.drop_append_of_le_length (by simp [ha1]), List.drop_of_length_le (by simp [ha1])]
    rfl
  simp only [List.mapM_cons, List.mapM_nil, hd1, hd2, hl1, hl2]
  rfl
theorem eq66 {a b : List Nat} {n m : Nat} (ha : okH a) (hb : okH b) (hn : n < 4294967296) (hm : m < 4294967296) : aI Try.prog .eql 66 (.agg (pC a n)) (.agg (pC b m)) = some (.bool (decide (a = b ∧ n = m))) := by
  have e : eqC (pC a n) (pC b m) = decide (a = b ∧ n = m) := by
    rw [pC, pC, eqC_append _ _ _ _ (by rw [ar, ar, ha.1, hb.1]), eqC_nR, eqC_one, Bool.decide_and]
  simp only [aI, ag66, li66 ha hn, li66 hb hm, and_self, if_true, eqop, e]

def h0 : List Nat := List.replicate 32 0
theorem h0_ok : okH h0 := ⟨rfl, fun x hx => by simp [h0] at hx; omega⟩
theorem bu66 : bH Try.prog 66 [(1, vN .u32 4294967295)] = some (.agg (pC h0 4294967295)) := by kernel_rfl

theorem isTx_one {H : Hp} {cs : List V} {x : TTx} (h : isTx H cs x) : x.ver < 4294967296 ∧ x.lock < 4294967296 := by
  obtain ⟨vi, vo, ei, eo, _, _, _, _, _, _, _, h1, h2⟩ := h
  exact ⟨h1, h2⟩
theorem isIn_len {H : Hp} {cs : List V} {x : TIn} (h : isIn H cs x) : cs.length = 35 := by
  obtain ⟨s, rfl, _, _, ho, _⟩ := h
  simp [ar, ho.1]

/-- Is an input the coinbase's? -/
def nulI (i : TIn) : Bool := decide (i.tx = h0 ∧ i.n = 4294967295)
def coinB (x : TTx) : Bool := match x.ins with
  | [i] => nulI i
  | _ => false

def s76 : Spec := fun _ args H Q => ∃ cs x, args = [.agg cs] ∧ isTx H cs x ∧ x.ins.length < 4611686018427387904 ∧ Q (.bool (coinB x)) H
theorem snd76 : Sound Try.prog 76 s76 := by
  refine ak pm (ap [] (by simp)) [1] Try.func76 rfl (by kernel_rfl) ?_
  rintro Y args H Q ⟨cs, x, rfl, ⟨vi, vo, ei, eo, rfl, hvi, hni, hei, hvo, hno, heo, hver, hlock⟩, hil, hQ⟩
  refine ⟨by simp [Try.f76], ?_⟩
  show wpC Try.prog (tab []) Y [1] 16 _ true (aB Try.prog [.tmp 2] Q) _ H
  have hly := av (P := Try.prog) sl53 hvi
  rw [hei.1] at hly
  by_cases h1 : x.ins.length = 1
  · obtain ⟨i, hi⟩ := List.length_eq_one_iff.1 h1
    rw [hi] at hei
    obtain ⟨e, he, hin⟩ := hei.get (i := 0) (b := i) rfl
    obtain ⟨s, hes, hvs, hns, hok, hn, hsq, hsl⟩ := hin
    have hlen : e.length = 35 := by rw [hes]; simp [ar, hok.1]
    obtain ⟨p, q, hp, hq, hl⟩ := elem_fieldA (P := Try.prog) (k := .i64) ar53 sl53 hvi he hlen 0 33 (by omega)
    have hfe : (e.drop 0).take 33 = pC i.tx i.n := by
      rw [hes, List.drop_zero, pC]
      rw [List.take_append, ar, hok.1, List.take_of_length_le (by rw [ar, hok.1]; omega)]
      rfl
    rw [hfe] at hl
    have d1 : decide (x.ins.length = 1) = true := decide_eq_true h1
    repeat (first
    | (refine aa rfl fun K hK => ?_; simp (disch := omega) only [WW, BB, ↓ab, simprocAttr, bA, ty53, hly, d1, hp, hq, fl68_0, ty66, hl, bu66, wpBin_A, eq66 hok h0_ok hn (by omega : 4294967295 < 4294967296)]; refine hK _ _ ?_; clear hK) | (refine ae ?_; simp only [TH]; (((repeat ((fail_if_success refine hS _ _ ?_); clear hS)); refine hS _ _ ?_); clear hS; try clear hF)) | refine af fun K hS hF => ?_ | refine ac rfl ?_ | (refine al ?_; simp (disch := omega) only [TH, TE, WW, BB, ↓ab, simprocAttr, bA, ty53, hly, d1, hp, hq, fl68_0, ty66, hl, bu66, wpBin_A, eq66 hok h0_ok hn (by omega : 4294967295 < 4294967296)]))
    refine ⟨_, rfl, [], _, aj _, ?_⟩
    have e : coinB x = decide (i.tx = h0 ∧ i.n = 4294967295) := by rw [coinB, hi]; rfl
    rw [e] at hQ
    exact hQ
  · have d1 : decide (x.ins.length = 1) = false := decide_eq_false h1
    repeat (first
    | (refine aa rfl fun K hK => ?_; simp (disch := omega) only [WW, BB, ↓ab, simprocAttr, bA, ty53, hly, d1]; refine hK _ _ ?_; clear hK) | refine bl rfl ?_ | (refine ae ?_; simp only [TH]; (((repeat ((fail_if_success refine hS _ _ ?_); clear hS)); refine hS _ _ ?_); clear hS; try clear hF)) | refine af fun K hS hF => ?_ | refine ac rfl ?_ | (refine al ?_; simp (disch := omega) only [TH, TE, WW, BB, ↓ab, simprocAttr, bA, ty53, hly, d1]))
    refine ⟨_, rfl, [], _, aj _, ?_⟩
    have e : coinB x = false := by
      unfold coinB
      split
      · rename_i i hi; rw [hi] at h1; exact absurd rfl h1
      · rfl
    rw [e] at hQ
    exact hQ

/-- A block's transactions, where its cells lie. -/
def isBlk (H : Hp) (cs : List V) (hd : List V) (l : List TTx) : Prop := ∃ v, cs = hd ++ [v] ∧ hd.length = 68 ∧ isTxs H v l

theorem bE {hd : List V} {v : V} {m n : Nat} (h : hd.length = n) : ldc (some (false, m)) (hd ++ [v]) n = some v := by
  simp only [ldc]
  rw [List.getElem?_append_right (by omega), h, Nat.sub_self]
  rfl

theorem slice_viewM {P : Program} {H : Hp} {sz : Nat} {x : V} {es : List (List V)} {t : TypeId} (ha : arrT P t = none) (ht : sliT P t = some sz) (hv : ao H sz x = some es) (hx : notR x = true) {lo hi : Option V} {l h : Nat}
    (hh : bnd hi es.length es.length = some h) (hl : bnd lo 0 h = some l) (h1 : l ≤ h) (h2 : h ≤ es.length) :
    ∃ y, bf P t x lo hi none = some y ∧ ao H sz y = some ((es.take h).drop l) ∧ notR y = true := by
  obtain ⟨y, hy, hvy⟩ := slice_view ha ht hv hh hl h1 h2
  refine ⟨y, hy, hvy, ?_⟩
  have e : bf P t x lo hi none = bD sz x lo hi none := by
    unfold bf
    simp [ha, ht]
  rw [e] at hy
  cases x <;> simp only [bD, reduceCtorEq] at hy <;> try (cases hx; done)
  · simp only [Option.bind_eq_some_iff] at hy
    obtain ⟨_, _, _, _, _, _, hz⟩ := hy
    cases hz
    rfl
  · split at hy
    · simp only [Option.bind_eq_some_iff] at hy
      obtain ⟨_, _, _, _, _, _, hz⟩ := hy
      cases hz
      rfl
    · cases hy
  · split at hy
    · simp only [Option.bind_eq_some_iff] at hy
      obtain ⟨_, _, _, _, _, _, hz⟩ := hy
      split at hz <;> cases hz <;> rfl
    · cases hy

def s48 : Spec := fun _ args H Q => ∃ cs hd l, args = [.agg cs] ∧ isBlk H cs hd l ∧ l.length < 4611686018427387904 ∧ ∀ v, isTxs H v l.tail → Q v H
theorem snd48 : Sound Try.prog 48 s48 := by
  refine ak pm (ap [] (by simp)) [1] Try.func48 rfl (by kernel_rfl) ?_
  rintro Y args H Q ⟨cs, hd, l, rfl, ⟨v, rfl, hhd, es, hv, hnv, hes⟩, hl, hQ⟩
  refine ⟨by simp [Try.f48], ?_⟩
  show wpC Try.prog (tab []) Y [1] 12 _ true (aB Try.prog [.tmp 2] Q) _ H
  have hly := av (P := Try.prog) sl47 hv
  rw [hes.1] at hly
  obtain ⟨y, hy, hvy, hny⟩ := slice_viewM (P := Try.prog) (lo := some (vN .i64 (min 1 l.length))) (hi := none) ar47 sl47 hv hnv rfl (bnd_N (k := .i64) (a := min 1 l.length) (by rw [hes.1]; omega)) (by rw [hes.1]; omega) (Nat.le_refl _)
  rw [List.take_of_length_le (Nat.le_refl _)] at hvy
  repeat (first
    | (refine aa rfl fun K hK => ?_; simp (disch := omega) only [WW, BB, ↓ab, simprocAttr, fl98_0, bu, ty47, bE hhd, hly, minV, hy]; refine hK _ _ ?_; clear hK) | (refine ae ?_; simp only [TH]; (((repeat ((fail_if_success refine hS _ _ ?_); clear hS)); refine hS _ _ ?_); clear hS; try clear hF)) | refine af fun K hS hF => ?_ | refine ac rfl ?_ | (refine al ?_; simp (disch := omega) only [TH, TE, WW, BB, ↓ab, simprocAttr, fl98_0, bu, ty47, bE hhd, hly, minV, hy]))
  refine ⟨_, rfl, [], _, aj _, hQ y ⟨_, hvy, hny, ?_⟩⟩
  have e : l.tail = l.drop (min 1 l.length) := by
    cases l with
    | nil => rfl
    | cons a l => simp
  rw [e]
  exact hes.drop _
end Go.Av

set_option linter.unusedSimpArgs false
set_option linter.unusedVariables false
namespace Go.Av
open Go.RowKit Go.Proofs
theorem ty2 : tyT Try.prog 2 = some (false, 1) := by kernel_rfl

section
variable {P : Program} {H : Hp} {t : TypeId} {Q : V → Hp → Prop} {k : IntKind} (z : Int) (b : Nat)
theorem lssI : wpBin P H .lss t (.int k z) (vN k b) Q = val (some (.bool (decide (z < b)))) H Q := by
  show val (aI P .lss t (.int k z) (vN k b)) H Q = _
  rw [vN, aZ, bz]
theorem gtrI : wpBin P H .gtr t (.int k z) (vN k b) Q = val (some (.bool (decide (z > b)))) H Q := by
  show val (aI P .gtr t (.int k z) (vN k b)) H Q = _
  rw [vN, aZ, bz]
theorem geqI : wpBin P H .geq t (.int k z) (vN k b) Q = val (some (.bool (decide (z ≥ b)))) H Q := by
  show val (aI P .geq t (.int k z) (vN k b)) H Q = _
  rw [vN, aZ, bz]
end

theorem sum_le60 : ∀ (l : List TOut), (∀ o ∈ l, 0 ≤ o.value ∧ o.value ≤ 2100000000000000) → 0 ≤ (l.map (·.value)).sum ∧ (l.map (·.value)).sum ≤ (l.length : Int) * 2100000000000000
  | [], _ => by simp
  | o :: l, h => by
    have h1 := h o (by simp)
    have h2 := sum_le60 l fun o ho => h o (by simp [ho])
    simp only [List.map_cons, List.sum_cons, List.length_cons]
    omega

def badO (o : TOut) : Bool := decide (o.value < 0) || decide (o.value > 2100000000000000)
def valB (x : TTx) : Bool := x.outs.any badO || decide ((x.outs.map (·.value)).sum > 2100000000000000)
theorem z70 : zeroT Try.prog 70 = some [vN .i64 0, .nils] := by kernel_rfl
theorem isOut_len {H : Hp} {cs : List V} {x : TOut} (h : isOut H cs x) : cs.length = 2 := by
  obtain ⟨s, rfl, _⟩ := h
  rfl

def s79 : Spec := fun _ args H Q => ∃ cs x, args = [.agg cs] ∧ isTx H cs x ∧ x.outs.length ≤ 60 ∧ Q (.bool (valB x)) H
theorem snd79 : Sound Try.prog 79 s79 := by
  refine ak pm (ap [] (by simp)) [1] Try.func79 rfl (by kernel_rfl) ?_
  rintro Y args H Q ⟨cs, x, rfl, ⟨vi, vo, ei, eo, rfl, hvi, hni, hei, hvo, hno, heo, hver, hlock⟩, hil, hQ⟩
  refine ⟨by simp [Try.f79], ?_⟩
  show wpC Try.prog (tab []) Y [1] 28 _ true (aB Try.prog [.tmp 2] Q) _ H
  have hly := av (P := Try.prog) sl54 hvo
  rw [heo.1] at hly
  repeat (first
    | (refine aa rfl fun K hK => ?_; simp (disch := omega) only [WW, BB, ↓ab, simprocAttr, fl56_2, ty54, hly]; refine hK _ _ ?_; clear hK) | (refine ae ?_; simp only [TH]; (((repeat ((fail_if_success refine hS _ _ ?_); clear hS)); refine hS _ _ ?_); clear hS; try clear hF)) | refine af fun K hS hF => ?_ | refine ac rfl ?_ | refine ax ?_)
  refine aO (fun m t X => ∃ i s, m = x.outs.length - i ∧ i ≤ x.outs.length ∧ X = H ∧ t 3 = vN .i64 s ∧ t 7 = vo ∧ t 8 = vN .i64 x.outs.length ∧ t 9 = vN .i64 i ∧ (s : Int) = ((x.outs.take i).map (·.value)).sum ∧ ∀ o ∈ x.outs.take i, 0 ≤ o.value ∧ o.value ≤ 2100000000000000) x.outs.length
    ⟨0, 0, rfl, by omega, rfl, by simp (disch := omega) only [WW, BB, ↓ab, simprocAttr], by simp (disch := omega) only [WW, BB, ↓ab, simprocAttr], by simp (disch := omega) only [WW, BB, ↓ab, simprocAttr], by simp (disch := omega) only [WW, BB, ↓ab, simprocAttr], rfl, by simp⟩ fun KL m t X hI hKL => ?_
  obtain ⟨i, s, rfl, hi, rfl, q3, q7, q8, q9, hs, hb⟩ := hI
  repeat (first
    | (refine aa rfl fun K hK => ?_; simp (disch := omega) only [WW, BB, ↓ab, simprocAttr, q8, q9]; refine hK _ _ ?_; clear hK) | (refine ae ?_; simp only [TH]; (((repeat ((fail_if_success refine hS _ _ ?_); clear hS)); refine hS _ _ ?_); clear hS; try clear hF)) | refine af fun K hS hF => ?_ | refine ac rfl ?_)
  refine aH rfl (fun hd => ?_) (fun hd => ?_)
  · (refine am ?_; simp only [TH]; ((repeat ((fail_if_success refine hS _ _ ?_); clear hS)); refine hS _ _ ?_); clear hS; try clear hF)
    obtain ⟨o, ho⟩ : ∃ o, x.outs[i]? = some o := ⟨_, List.getElem?_eq_getElem hd⟩
    obtain ⟨e, he, hio⟩ := heo.get ho
    obtain ⟨sc, hes, hvs, hns, hz, hsl⟩ := hio
    obtain ⟨p, hp, hpl⟩ := bc (P := Try.prog) (k := .i64) ar54 sl54 hvo he (by rw [hes]; rfl)
    repeat (first
    | (refine aa rfl fun K hK => ?_; simp (disch := omega) only [WW, BB, ↓ab, simprocAttr, q7, q9, hp, hpl, ty70]; refine hK _ _ ?_; clear hK) | refine af fun K hS hF => ?_ | refine ac rfl ?_)
    subst hes
    refine as_frz (d := 5) (v := .agg [.int .i64 o.value, sc]) rfl rfl rfl rfl rfl rfl z70 (fun H' b hb => au hb ty70 rfl (by rw [List.all_cons, List.all_cons, (bd hvs).1]; rfl) rfl) (by decide) hF (fun p => by simp (disch := omega) only [WW, BB, ↓ab, simprocAttr]) ?_
    have htk : x.outs.take (i + 1) = x.outs.take i ++ [o] := by
      rw [List.take_succ_eq_append_getElem hd, ← (List.getElem?_eq_some_iff.1 ho).2]
    have fin : ∀ b, badO o = b → b = true → valB x = true := fun b h1 h2 => by
      rw [valB, Bool.or_eq_true]
      exact .inl (List.any_eq_true.2 ⟨o, List.mem_of_getElem? ho, by rw [h1, h2]⟩)
    by_cases c1 : o.value < 0
    · have d1 : decide (o.value < 0) = true := decide_eq_true c1
      repeat (first
    | (refine aa rfl fun K hK => ?_; simp (disch := omega) only [WW, BB, ↓ab, simprocAttr, fl70_0, ty2, lssI, Int.cast_ofNat_Int, d1]; refine hK _ _ ?_; clear hK) | refine bl rfl ?_ | (refine ae ?_; simp only [TH]; (((repeat ((fail_if_success refine hS _ _ ?_); clear hS)); refine hS _ _ ?_); clear hS; try clear hF)) | refine af fun K hS hF => ?_ | refine ac rfl ?_)
      refine aS (by simp (disch := omega) only [WW, BB, ↓ab, simprocAttr]) ?_
      repeat (first
    | (refine aa rfl fun K hK => ?_; simp (disch := omega) only [WW, BB, ↓ab, simprocAttr]; refine hK _ _ ?_; clear hK) | (refine ae ?_; simp only [TH]; (((repeat ((fail_if_success refine hS _ _ ?_); clear hS)); refine hS _ _ ?_); clear hS; try clear hF)) | refine af fun K hS hF => ?_ | refine ac rfl ?_ | (refine al ?_; simp (disch := omega) only [TH, TE, WW, BB, ↓ab, simprocAttr]))
      refine ⟨_, rfl, [], _, aj _, ?_⟩
      rw [fin true (by rw [badO, d1]; rfl) rfl] at hQ
      exact hQ
    have d1 : decide (o.value < 0) = false := decide_eq_false c1
    by_cases c2 : o.value > 2100000000000000
    · have d2 : decide (o.value > 2100000000000000) = true := decide_eq_true c2
      repeat (first
    | (refine aa rfl fun K hK => ?_; simp (disch := omega) only [WW, BB, ↓ab, simprocAttr, fl70_0, ty2, lssI, gtrI, Int.cast_ofNat_Int, d1, d2]; refine hK _ _ ?_; clear hK) | (refine ae ?_; simp only [TH]; (((repeat ((fail_if_success refine hS _ _ ?_); clear hS)); refine hS _ _ ?_); clear hS; try clear hF)) | refine af fun K hS hF => ?_ | refine ac rfl ?_)
      refine aS (by simp (disch := omega) only [WW, BB, ↓ab, simprocAttr]) ?_
      repeat (first
    | (refine aa rfl fun K hK => ?_; simp (disch := omega) only [WW, BB, ↓ab, simprocAttr]; refine hK _ _ ?_; clear hK) | (refine ae ?_; simp only [TH]; (((repeat ((fail_if_success refine hS _ _ ?_); clear hS)); refine hS _ _ ?_); clear hS; try clear hF)) | refine af fun K hS hF => ?_ | refine ac rfl ?_ | (refine al ?_; simp (disch := omega) only [TH, TE, WW, BB, ↓ab, simprocAttr]))
      refine ⟨_, rfl, [], _, aj _, ?_⟩
      rw [fin true (by rw [badO, d2, Bool.or_true]) rfl] at hQ
      exact hQ
    have d2 : decide (o.value > 2100000000000000) = false := decide_eq_false c2
    repeat (first
    | (refine aa rfl fun K hK => ?_; simp (disch := omega) only [WW, BB, ↓ab, simprocAttr, fl70_0, ty2, lssI, gtrI, Int.cast_ofNat_Int, d1, d2]; refine hK _ _ ?_; clear hK) | (refine ae ?_; simp only [TH]; (((repeat ((fail_if_success refine hS _ _ ?_); clear hS)); refine hS _ _ ?_); clear hS; try clear hF)) | refine af fun K hS hF => ?_ | refine ac rfl ?_)
    refine aE (by simp (disch := omega) only [WW, BB, ↓ab, simprocAttr]) ?_
    (refine am ?_; simp only [TH]; ((repeat ((fail_if_success refine hS _ _ ?_); clear hS)); refine hS _ _ ?_); clear hS; try clear hF)
    obtain ⟨n, hn⟩ : ∃ n : Nat, o.value = n := ⟨o.value.toNat, by omega⟩
    have e1 : V.int .i64 o.value = vN .i64 n := by rw [hn]; rfl
    have hsum := sum_le60 (x.outs.take i) hb
    rw [← hs, List.length_take] at hsum
    repeat (first
    | (refine aa rfl fun K hK => ?_; simp (disch := omega) only [WW, BB, ↓ab, simprocAttr, fl70_0, ty2, q3, q9, e1, aP]; refine hK _ _ ?_; clear hK) | (refine ae ?_; simp only [TH]; first | (((repeat ((fail_if_success refine hS _ _ ?_); clear hS)); refine hS _ _ ?_); clear hS; try clear hF) | skip) | refine ac rfl ?_)
    refine hKL (x.outs.length - (i + 1)) _ _ (by omega) ⟨i + 1, s + n, rfl, by omega, rfl, ?_, ?_, ?_, ?_, ?_, ?_⟩
    · simp (disch := omega) only [WW, BB, ↓ab, simprocAttr]
    · simp (disch := omega) only [WW, BB, ↓ab, simprocAttr, q7]
    · simp (disch := omega) only [WW, BB, ↓ab, simprocAttr, q8]
    · simp (disch := omega) only [WW, BB, ↓ab, simprocAttr]
    · rw [htk, List.map_append, List.sum_append, ← hs]
      simp [hn]
    · intro o' ho'
      rw [htk] at ho'
      rcases List.mem_append.1 ho' with h | h
      · exact hb o' h
      · rw [List.mem_singleton] at h
        subst h
        omega
  · (refine aG ?_; simp only [TH, ↓reduceIte, Nat.reduceEqDiff]; ((repeat ((fail_if_success refine hS _ _ ?_); clear hS)); refine hS _ _ ?_); clear hS; try clear hF)
    have : i = x.outs.length := by omega
    subst this
    rw [List.take_of_length_le (Nat.le_refl _)] at hs hb
    repeat (first
    | (refine aa rfl fun K hK => ?_; simp (disch := omega) only [WW, BB, ↓ab, simprocAttr, q3]; refine hK _ _ ?_; clear hK) | (refine ae ?_; simp only [TH]; (((repeat ((fail_if_success refine hS _ _ ?_); clear hS)); refine hS _ _ ?_); clear hS; try clear hF)) | refine af fun K hS hF => ?_ | refine ac rfl ?_ | (refine al ?_; simp (disch := omega) only [TH, TE, WW, BB, ↓ab, simprocAttr, q3]))
    refine ⟨_, rfl, [], _, aj _, ?_⟩
    have e : valB x = decide (2100000000000000 < s) := by
      have h1 : x.outs.any badO = false := List.any_eq_false.2 fun o ho => by
        have := hb o ho
        simp only [badO, Bool.or_eq_true, decide_eq_true_eq]
        omega
      rw [valB, h1, Bool.false_or, ← hs, decide_eq_decide]
      omega
    rw [e] at hQ
    exact hQ
end Go.Av

set_option linter.unusedSimpArgs false
set_option linter.unusedVariables false
namespace Go.Av
open Go.RowKit Go.Proofs

def okT (x : TTx) : Prop := x.ins.length ≤ 60 ∧ x.outs.length ≤ 60 ∧ (∀ i ∈ x.ins, i.script.length ≤ 2100) ∧ ∀ o ∈ x.outs, o.script.length ≤ 2100
def okTs (l : List TTx) : Prop := l.length ≤ 1000 ∧ ∀ x ∈ l, okT x
theorem okTs_tail {l : List TTx} (h : okTs l) : okTs l.tail := ⟨by have := h.1; rw [List.length_tail]; omega, fun x hx => h.2 x (List.mem_of_mem_tail hx)⟩
theorem isTx_len {H : Hp} {cs : List V} {x : TTx} (h : isTx H cs x) : cs.length = 4 := by
  obtain ⟨vi, vo, ei, eo, rfl, _⟩ := h
  rfl

/-- A function on transactions, and what it answers. -/
def isP (g : Nat) (p : TTx → Bool) : Prop := (g = 76 ∧ p = coinB) ∨ (g = 79 ∧ p = valB)
theorem isP_call {g : Nat} {p : TTx → Bool} (h : isP g p) {Y : aC} {cs : List V} {x : TTx} {H : Hp} {Q : V → Hp → Prop} (hx : isTx H cs x) (ho : okT x) (hQ : Q (.bool (p x)) H) :
    callV (tab [(76, s76), (79, s79)]) Y (.fn (.func g) [] []) [.agg cs] H Q := by
  rcases h with ⟨rfl, rfl⟩ | ⟨rfl, rfl⟩
  · exact ⟨cs, x, rfl, hx, by have := ho.1; omega, hQ⟩
  · exact ⟨cs, x, rfl, hx, ho.2.1, hQ⟩

def s97 : Spec := fun _ args H Q => ∃ x l g p, args = [x, .fn (.func g) [] []] ∧ isTxs H x l ∧ okTs l ∧ isP g p ∧ ∀ n : Int, decide (n ≥ 0) = l.any p → Q (.int .i64 n) H
theorem snd97 : Sound Try.prog 97 s97 := by
  refine ak pm (ap [(76, s76), (79, s79)] (by simp [snd76, snd79])) [] Try.func97 rfl (by kernel_rfl) ?_
  rintro Y args H Q ⟨x, l, g, p, rfl, ⟨es, hv, hnv, hes⟩, hl, hg, hQ⟩
  refine ⟨by simp [Try.f97], ?_⟩
  show wpC Try.prog (tab [(76, s76), (79, s79)]) Y [] 19 _ true (aB Try.prog [.tmp 4] Q) _ H
  have hly := av (P := Try.prog) sl47 hv
  rw [hes.1] at hly
  have hl1 := hl.1
  repeat (first
    | (refine aa rfl fun K hK => ?_; simp (disch := omega) only [WW, BB, ↓ab, ↓reduceIte, Int.reduceLT, Int.reduceNeg, Int.reduceLE, Int.reduceToNat, Nat.reduceLT, Nat.reduceEqDiff, Nat.reduceAdd, Nat.reduceMul, Nat.reduceSub, Nat.reduceLeDiff, Nat.reduceBEq, hly]; refine hK _ _ ?_; clear hK) | (refine ae ?_; simp only [TH]; (((repeat ((fail_if_success refine hS _ _ ?_); clear hS)); refine hS _ _ ?_); clear hS; try clear hF)) | refine af fun K hS hF => ?_ | refine ac rfl ?_ | refine ax ?_)
  refine aO (fun m t X => ∃ i, m = l.length - i ∧ i ≤ l.length ∧ X = H ∧ t 0 = x ∧ t 1 = .fn (.func g) [] [] ∧ t 7 = vN .i64 l.length ∧ t 8 = vN .i64 i ∧ (l.take i).any p = false) l.length
    ⟨0, rfl, by omega, rfl, rfl, rfl, by simp (disch := omega) only [WW, BB, ↓ab, ↓reduceIte, Int.reduceLT, Int.reduceNeg, Int.reduceLE, Int.reduceToNat, Nat.reduceLT, Nat.reduceEqDiff, Nat.reduceAdd, Nat.reduceMul, Nat.reduceSub, Nat.reduceLeDiff, Nat.reduceBEq], by simp (disch := omega) only [WW, BB, ↓ab, ↓reduceIte, Int.reduceLT, Int.reduceNeg, Int.reduceLE, Int.reduceToNat, Nat.reduceLT, Nat.reduceEqDiff, Nat.reduceAdd, Nat.reduceMul, Nat.reduceSub, Nat.reduceLeDiff, Nat.reduceBEq], rfl⟩ fun KL m t X hI hKL => ?_
  obtain ⟨i, rfl, hi, rfl, q0, q1, q7, q8, hb⟩ := hI
  repeat (first
    | (refine aa rfl fun K hK => ?_; simp (disch := omega) only [WW, BB, ↓ab, ↓reduceIte, Int.reduceLT, Int.reduceNeg, Int.reduceLE, Int.reduceToNat, Nat.reduceLT, Nat.reduceEqDiff, Nat.reduceAdd, Nat.reduceMul, Nat.reduceSub, Nat.reduceLeDiff, Nat.reduceBEq, q7, q8]; refine hK _ _ ?_; clear hK) | (refine ae ?_; simp only [TH]; (((repeat ((fail_if_success refine hS _ _ ?_); clear hS)); refine hS _ _ ?_); clear hS; try clear hF)) | refine af fun K hS hF => ?_ | refine ac rfl ?_)
  refine aH rfl (fun hd => ?_) (fun hd => ?_)
  · (refine am ?_; simp only [TH]; ((repeat ((fail_if_success refine hS _ _ ?_); clear hS)); refine hS _ _ ?_); clear hS; try clear hF)
    obtain ⟨o, ho⟩ : ∃ o, l[i]? = some o := ⟨_, List.getElem?_eq_getElem hd⟩
    obtain ⟨e, he, hio⟩ := hes.get ho
    obtain ⟨pp, hp, hpl⟩ := bc (P := Try.prog) (k := .i64) ar47 sl47 hv he (isTx_len hio)
    have htk : l.take (i + 1) = l.take i ++ [o] := by
      rw [List.take_succ_eq_append_getElem hd, ← (List.getElem?_eq_some_iff.1 ho).2]
    repeat (first
    | (refine aa rfl fun K hK => ?_; simp (disch := omega) only [WW, BB, ↓ab, ↓reduceIte, Int.reduceLT, Int.reduceNeg, Int.reduceLE, Int.reduceToNat, Nat.reduceLT, Nat.reduceEqDiff, Nat.reduceAdd, Nat.reduceMul, Nat.reduceSub, Nat.reduceLeDiff, Nat.reduceBEq, q0, q1, q8, hp, hpl, ty56]; refine hK _ _ ?_; clear hK) | (refine ae ?_; simp only [TH]; (((repeat ((fail_if_success refine hS _ _ ?_); clear hS)); refine hS _ _ ?_); clear hS; try clear hF)) | refine af fun K hS hF => ?_ | refine ac rfl ?_)
    refine aa rfl fun K hK => ?_
    simp only [WW, BB, ↓ab, ↓reduceIte, Nat.reduceEqDiff, q1]
    refine isP_call hg hio (hl.2 o (List.mem_of_getElem? ho)) (hK _ _ ?_)
    repeat (refine ae ?_; simp only [TH]; (((repeat ((fail_if_success refine hS _ _ ?_); clear hS)); refine hS _ _ ?_); clear hS; try clear hF))
    refine wpC_cond rfl (fun h1 => ?_) (fun h1 => ?_)
    · repeat (first
    | (refine aa rfl fun K hK => ?_; simp (disch := omega) only [WW, BB, ↓ab, ↓reduceIte, Int.reduceLT, Int.reduceNeg, Int.reduceLE, Int.reduceToNat, Nat.reduceLT, Nat.reduceEqDiff, Nat.reduceAdd, Nat.reduceMul, Nat.reduceSub, Nat.reduceLeDiff, Nat.reduceBEq, q8]; refine hK _ _ ?_; clear hK) | (refine ae ?_; simp only [TH]; (((repeat ((fail_if_success refine hS _ _ ?_); clear hS)); refine hS _ _ ?_); clear hS; try clear hF)) | refine af fun K hS hF => ?_ | refine ac rfl ?_ | (refine al ?_; simp (disch := omega) only [TH, TE, WW, BB, ↓ab, ↓reduceIte, Int.reduceLT, Int.reduceNeg, Int.reduceLE, Int.reduceToNat, Nat.reduceLT, Nat.reduceEqDiff, Nat.reduceAdd, Nat.reduceMul, Nat.reduceSub, Nat.reduceLeDiff, Nat.reduceBEq, q8]))
      refine ⟨_, rfl, [], _, aj _, hQ _ ?_⟩
      have e1 : l.any p = true := List.any_eq_true.2 ⟨o, List.mem_of_getElem? ho, h1⟩
      rw [e1]
      exact decide_eq_true (by omega)
    · (refine am ?_; simp only [TH]; ((repeat ((fail_if_success refine hS _ _ ?_); clear hS)); refine hS _ _ ?_); clear hS; try clear hF)
      repeat (first
    | (refine aa rfl fun K hK => ?_; simp (disch := omega) only [WW, BB, ↓ab, ↓reduceIte, Int.reduceLT, Int.reduceNeg, Int.reduceLE, Int.reduceToNat, Nat.reduceLT, Nat.reduceEqDiff, Nat.reduceAdd, Nat.reduceMul, Nat.reduceSub, Nat.reduceLeDiff, Nat.reduceBEq, q8, aP]; refine hK _ _ ?_; clear hK) | (refine ae ?_; simp only [TH]; first | (((repeat ((fail_if_success refine hS _ _ ?_); clear hS)); refine hS _ _ ?_); clear hS; try clear hF) | skip) | refine ac rfl ?_)
      refine hKL _ _ _ (by omega : l.length - (i + 1) < l.length - i) ⟨i + 1, rfl, by omega, rfl, ?_, ?_, ?_, ?_, ?_⟩
      · simp (disch := omega) only [WW, BB, ↓ab, ↓reduceIte, Int.reduceLT, Int.reduceNeg, Int.reduceLE, Int.reduceToNat, Nat.reduceLT, Nat.reduceEqDiff, Nat.reduceAdd, Nat.reduceMul, Nat.reduceSub, Nat.reduceLeDiff, Nat.reduceBEq, q0]
      · simp (disch := omega) only [WW, BB, ↓ab, ↓reduceIte, Int.reduceLT, Int.reduceNeg, Int.reduceLE, Int.reduceToNat, Nat.reduceLT, Nat.reduceEqDiff, Nat.reduceAdd, Nat.reduceMul, Nat.reduceSub, Nat.reduceLeDiff, Nat.reduceBEq, q1]
      · simp (disch := omega) only [WW, BB, ↓ab, ↓reduceIte, Int.reduceLT, Int.reduceNeg, Int.reduceLE, Int.reduceToNat, Nat.reduceLT, Nat.reduceEqDiff, Nat.reduceAdd, Nat.reduceMul, Nat.reduceSub, Nat.reduceLeDiff, Nat.reduceBEq, q7]
      · simp (disch := omega) only [WW, BB, ↓ab, ↓reduceIte, Int.reduceLT, Int.reduceNeg, Int.reduceLE, Int.reduceToNat, Nat.reduceLT, Nat.reduceEqDiff, Nat.reduceAdd, Nat.reduceMul, Nat.reduceSub, Nat.reduceLeDiff, Nat.reduceBEq]
      · rw [htk, List.any_append, hb]
        simpa using h1
  · (refine aG ?_; simp only [TH, ↓reduceIte, Nat.reduceEqDiff]; ((repeat ((fail_if_success refine hS _ _ ?_); clear hS)); refine hS _ _ ?_); clear hS; try clear hF)
    have : i = l.length := by omega
    subst this
    repeat (first
    | (refine aa rfl fun K hK => ?_; simp (disch := omega) only [WW, BB, ↓ab, ↓reduceIte, Int.reduceLT, Int.reduceNeg, Int.reduceLE, Int.reduceToNat, Nat.reduceLT, Nat.reduceEqDiff, Nat.reduceAdd, Nat.reduceMul, Nat.reduceSub, Nat.reduceLeDiff, Nat.reduceBEq]; refine hK _ _ ?_; clear hK) | (refine ae ?_; simp only [TH]; (((repeat ((fail_if_success refine hS _ _ ?_); clear hS)); refine hS _ _ ?_); clear hS; try clear hF)) | refine af fun K hS hF => ?_ | refine ac rfl ?_ | (refine al ?_; simp (disch := omega) only [TH, TE, WW, BB, ↓ab, ↓reduceIte, Int.reduceLT, Int.reduceNeg, Int.reduceLE, Int.reduceToNat, Nat.reduceLT, Nat.reduceEqDiff, Nat.reduceAdd, Nat.reduceMul, Nat.reduceSub, Nat.reduceLeDiff, Nat.reduceBEq]))
    refine ⟨_, rfl, [], _, aj _, hQ _ ?_⟩
    rw [List.take_of_length_le (Nat.le_refl _)] at hb
    rw [hb]
    rfl

def s77 : Spec := fun _ args H Q => ∃ x l g p, args = [x, .fn (.func g) [] []] ∧ isTxs H x l ∧ okTs l ∧ isP g p ∧ Q (.bool (l.any p)) H
theorem snd77 : Sound Try.prog 77 s77 := by
  refine ak pm (ap [(97, s97)] (by simp [snd97])) [] Try.func77 rfl (by kernel_rfl) ?_
  rintro Y args H Q ⟨x, l, g, p, rfl, hx, hl, hg, hQ⟩
  refine ⟨by simp [Try.f77], ?_⟩
  show wpC Try.prog (tab [(97, s97)]) Y [] 9 _ true (aB Try.prog [.tmp 4] Q) _ H
  repeat (first
    | (refine aa rfl fun K hK => ?_; simp (disch := omega) only [WW, BB, ↓ab, ↓reduceIte, Int.reduceLT, Int.reduceNeg, Int.reduceLE, Int.reduceToNat, Nat.reduceLT, Nat.reduceEqDiff, Nat.reduceAdd, Nat.reduceMul, Nat.reduceSub, Nat.reduceLeDiff, Nat.reduceBEq]; refine hK _ _ ?_; clear hK) | (refine ae ?_; simp only [TH]; (((repeat ((fail_if_success refine hS _ _ ?_); clear hS)); refine hS _ _ ?_); clear hS; try clear hF)) | refine af fun K hS hF => ?_ | refine ac rfl ?_)
  refine aa rfl fun K hK => ⟨x, l, g, p, rfl, hx, hl, hg, fun n hn => hK _ _ ?_⟩
  have e0 : decide (n ≥ ((0 : Nat) : Int)) = l.any p := hn
  repeat (first
    | (refine aa rfl fun K hK => ?_; simp (disch := omega) only [WW, BB, ↓ab, ↓reduceIte, Int.reduceLT, Int.reduceNeg, Int.reduceLE, Int.reduceToNat, Nat.reduceLT, Nat.reduceEqDiff, Nat.reduceAdd, Nat.reduceMul, Nat.reduceSub, Nat.reduceLeDiff, Nat.reduceBEq, geqI, e0]; refine hK _ _ ?_; clear hK) | (refine ae ?_; simp only [TH]; (((repeat ((fail_if_success refine hS _ _ ?_); clear hS)); refine hS _ _ ?_); clear hS; try clear hF)) | (refine al ?_; simp (disch := omega) only [TH, TE, WW, BB, ↓ab, ↓reduceIte, Int.reduceLT, Int.reduceNeg, Int.reduceLE, Int.reduceToNat, Nat.reduceLT, Nat.reduceEqDiff, Nat.reduceAdd, Nat.reduceMul, Nat.reduceSub, Nat.reduceLeDiff, Nat.reduceBEq, geqI, e0]))
  exact ⟨_, rfl, [], _, aj _, hQ⟩

def s65 : Spec := fun _ args H Q => ∃ cs hd l, args = [.agg cs] ∧ isBlk H cs hd l ∧ okTs l ∧ Q (.bool (l.any valB)) H
theorem snd65 : Sound Try.prog 65 s65 := by
  refine ak pm (ap [(77, s77)] (by simp [snd77])) [1] Try.func65 rfl (by kernel_rfl) ?_
  rintro Y args H Q ⟨cs, hd, l, rfl, ⟨v, rfl, hhd, hv⟩, hl, hQ⟩
  refine ⟨by simp [Try.f65], ?_⟩
  show wpC Try.prog (tab [(77, s77)]) Y [1] 7 _ true (aB Try.prog [.tmp 2] Q) _ H
  repeat (first
    | (refine aa rfl fun K hK => ?_; simp (disch := omega) only [WW, BB, ↓ab, ↓reduceIte, Int.reduceLT, Int.reduceNeg, Int.reduceLE, Int.reduceToNat, Nat.reduceLT, Nat.reduceEqDiff, Nat.reduceAdd, Nat.reduceMul, Nat.reduceSub, Nat.reduceLeDiff, Nat.reduceBEq, fl98_0, bu, ty47, bE hhd]; refine hK _ _ ?_; clear hK) | (refine ae ?_; simp only [TH]; (((repeat ((fail_if_success refine hS _ _ ?_); clear hS)); refine hS _ _ ?_); clear hS; try clear hF)) | refine af fun K hS hF => ?_ | refine ac rfl ?_)
  refine aa rfl fun K hK => ⟨v, l, 79, valB, rfl, hv, hl, .inr ⟨rfl, rfl⟩, hK _ _ ?_⟩
  repeat (first
    | (refine aa rfl fun K hK => ?_; simp (disch := omega) only [WW, BB, ↓ab, ↓reduceIte, Int.reduceLT, Int.reduceNeg, Int.reduceLE, Int.reduceToNat, Nat.reduceLT, Nat.reduceEqDiff, Nat.reduceAdd, Nat.reduceMul, Nat.reduceSub, Nat.reduceLeDiff, Nat.reduceBEq]; refine hK _ _ ?_; clear hK) | (refine ae ?_; simp only [TH]; (((repeat ((fail_if_success refine hS _ _ ?_); clear hS)); refine hS _ _ ?_); clear hS; try clear hF)) | (refine al ?_; simp (disch := omega) only [TH, TE, WW, BB, ↓ab, ↓reduceIte, Int.reduceLT, Int.reduceNeg, Int.reduceLE, Int.reduceToNat, Nat.reduceLT, Nat.reduceEqDiff, Nat.reduceAdd, Nat.reduceMul, Nat.reduceSub, Nat.reduceLeDiff, Nat.reduceBEq]))
  exact ⟨_, rfl, [], _, aj _, hQ⟩

/-- Is there not just one coinbase, ahead? -/
def cbB (l : List TTx) : Bool := match l with
  | [] => true
  | x :: r => !coinB x || r.any coinB || (match x.ins with
    | i :: _ => decide (i.script.length < 2) || decide (100 < i.script.length)
    | [] => true)
def s62 : Spec := fun _ args H Q => ∃ cs hd l, args = [.agg cs] ∧ isBlk H cs hd l ∧ okTs l ∧ Q (.bool (cbB l)) H
theorem agg98 {hd : List V} {v : V} (hhd : hd.length = 68) : ldc (some (true, 69)) (hd ++ [v]) 0 = some (.agg (hd ++ [v])) := by
  simp only [ldc]
  rw [if_pos (by simp [hhd]), List.drop_zero, List.take_of_length_le (by simp [hhd])]
theorem snd62 : Sound Try.prog 62 s62 := by
  refine ak pm (ap [(48, s48), (76, s76), (77, s77)] (by simp [snd48, snd76, snd77])) [1] Try.func62 rfl (by kernel_rfl) ?_
  rintro Y args H Q ⟨cs, hd, l, rfl, ⟨v, rfl, hhd, hv0⟩, hl, hQ⟩
  refine ⟨by simp [Try.f62], ?_⟩
  show wpC Try.prog (tab [(48, s48), (76, s76), (77, s77)]) Y [1] 39 _ true (aB Try.prog [.tmp 2] Q) _ H
  have hv0' := hv0
  obtain ⟨es, hv, hnv, hes⟩ := hv0'
  have hly := av (P := Try.prog) sl47 hv
  rw [hes.1] at hly
  have hl1 := hl.1
  cases l with
  | nil =>
    repeat (first
    | (refine aa rfl fun K hK => ?_; simp (disch := omega) only [WW, BB, ↓ab, ↓reduceIte, Int.reduceLT, Int.reduceNeg, Int.reduceLE, Int.reduceToNat, Nat.reduceLT, Nat.reduceEqDiff, Nat.reduceAdd, Nat.reduceMul, Nat.reduceSub, Nat.reduceLeDiff, Nat.reduceBEq, fl98_0, bu, ty47, bE hhd, hly, List.length_nil, decide_true]; refine hK _ _ ?_; clear hK) | refine bl rfl ?_ | (refine ae ?_; simp only [TH]; (((repeat ((fail_if_success refine hS _ _ ?_); clear hS)); refine hS _ _ ?_); clear hS; try clear hF)) | refine af fun K hS hF => ?_ | refine ac rfl ?_)
    refine aS (by simp (disch := omega) only [WW, BB, ↓ab, ↓reduceIte, Int.reduceLT, Int.reduceNeg, Int.reduceLE, Int.reduceToNat, Nat.reduceLT, Nat.reduceEqDiff, Nat.reduceAdd, Nat.reduceMul, Nat.reduceSub, Nat.reduceLeDiff, Nat.reduceBEq]) ?_
    repeat (first
    | (refine aa rfl fun K hK => ?_; simp (disch := omega) only [WW, BB, ↓ab, ↓reduceIte, Int.reduceLT, Int.reduceNeg, Int.reduceLE, Int.reduceToNat, Nat.reduceLT, Nat.reduceEqDiff, Nat.reduceAdd, Nat.reduceMul, Nat.reduceSub, Nat.reduceLeDiff, Nat.reduceBEq]; refine hK _ _ ?_; clear hK) | (refine ae ?_; simp only [TH]; (((repeat ((fail_if_success refine hS _ _ ?_); clear hS)); refine hS _ _ ?_); clear hS; try clear hF)) | refine af fun K hS hF => ?_ | refine ac rfl ?_ | (refine al ?_; simp (disch := omega) only [TH, TE, WW, BB, ↓ab, ↓reduceIte, Int.reduceLT, Int.reduceNeg, Int.reduceLE, Int.reduceToNat, Nat.reduceLT, Nat.reduceEqDiff, Nat.reduceAdd, Nat.reduceMul, Nat.reduceSub, Nat.reduceLeDiff, Nat.reduceBEq]))
    exact ⟨_, rfl, [], _, aj _, hQ⟩
  | cons x r =>
    have d0 : decide ((x :: r).length = 0) = false := rfl
    obtain ⟨e, he, hio⟩ := hes.get (i := 0) (b := x) rfl
    obtain ⟨p, hp, hpl⟩ := bc (P := Try.prog) (k := .i64) ar47 sl47 hv he (isTx_len hio)
    have hx : okT x := hl.2 x (by simp)
    repeat (first
    | (refine aa rfl fun K hK => ?_; simp (disch := omega) only [WW, BB, ↓ab, ↓reduceIte, Int.reduceLT, Int.reduceNeg, Int.reduceLE, Int.reduceToNat, Nat.reduceLT, Nat.reduceEqDiff, Nat.reduceAdd, Nat.reduceMul, Nat.reduceSub, Nat.reduceLeDiff, Nat.reduceBEq, fl98_0, bu, ty47, bE hhd, hly, d0, hp, hpl, ty56]; refine hK _ _ ?_; clear hK) | (refine ae ?_; simp only [TH]; (((repeat ((fail_if_success refine hS _ _ ?_); clear hS)); refine hS _ _ ?_); clear hS; try clear hF)) | refine af fun K hS hF => ?_ | refine ac rfl ?_)
    refine aa rfl fun K hK => ⟨e, x, rfl, hio, by have := hx.1; omega, hK _ _ ?_⟩
    clear hK
    cases hc : coinB x with
    | false =>
      repeat (first
    | (refine aa rfl fun K hK => ?_; simp (disch := omega) only [WW, BB, ↓ab, ↓reduceIte, Int.reduceLT, Int.reduceNeg, Int.reduceLE, Int.reduceToNat, Nat.reduceLT, Nat.reduceEqDiff, Nat.reduceAdd, Nat.reduceMul, Nat.reduceSub, Nat.reduceLeDiff, Nat.reduceBEq, hc]; refine hK _ _ ?_; clear hK) | refine bl rfl ?_ | (refine ae ?_; simp only [TH]; (((repeat ((fail_if_success refine hS _ _ ?_); clear hS)); refine hS _ _ ?_); clear hS; try clear hF)))
      refine aS (by simp (disch := omega) only [WW, BB, ↓ab, ↓reduceIte, Int.reduceLT, Int.reduceNeg, Int.reduceLE, Int.reduceToNat, Nat.reduceLT, Nat.reduceEqDiff, Nat.reduceAdd, Nat.reduceMul, Nat.reduceSub, Nat.reduceLeDiff, Nat.reduceBEq]) ?_
      repeat (first
    | (refine aa rfl fun K hK => ?_; simp (disch := omega) only [WW, BB, ↓ab, ↓reduceIte, Int.reduceLT, Int.reduceNeg, Int.reduceLE, Int.reduceToNat, Nat.reduceLT, Nat.reduceEqDiff, Nat.reduceAdd, Nat.reduceMul, Nat.reduceSub, Nat.reduceLeDiff, Nat.reduceBEq]; refine hK _ _ ?_; clear hK) | (refine ae ?_; simp only [TH]; (((repeat ((fail_if_success refine hS _ _ ?_); clear hS)); refine hS _ _ ?_); clear hS; try clear hF)) | refine af fun K hS hF => ?_ | refine ac rfl ?_ | (refine al ?_; simp (disch := omega) only [TH, TE, WW, BB, ↓ab, ↓reduceIte, Int.reduceLT, Int.reduceNeg, Int.reduceLE, Int.reduceToNat, Nat.reduceLT, Nat.reduceEqDiff, Nat.reduceAdd, Nat.reduceMul, Nat.reduceSub, Nat.reduceLeDiff, Nat.reduceBEq]))
      refine ⟨_, rfl, [], _, aj _, ?_⟩
      have e1 : cbB (x :: r) = true := by rw [cbB, hc]; rfl
      rw [e1] at hQ
      exact hQ
    | true =>
      repeat (refine aa rfl fun K hK => ?_; simp (disch := omega) only [WW, BB, ↓ab, ↓reduceIte, Int.reduceLT, Int.reduceNeg, Int.reduceLE, Int.reduceToNat, Nat.reduceLT, Nat.reduceEqDiff, Nat.reduceAdd, Nat.reduceMul, Nat.reduceSub, Nat.reduceLeDiff, Nat.reduceBEq, hc, ty98, agg98 hhd]; refine hK _ _ ?_; clear hK)
      refine aa rfl fun K hK => ⟨_, hd, x :: r, rfl, ⟨v, rfl, hhd, hv0⟩, by omega, fun w hw => hK _ _ ?_⟩
      skip
      refine aa rfl fun K hK => ⟨w, r, 76, coinB, rfl, hw, okTs_tail hl, .inl ⟨rfl, rfl⟩, hK _ _ ?_⟩
      repeat (first
    | (refine aa rfl fun K hK => ?_; simp (disch := omega) only [WW, BB, ↓ab, ↓reduceIte, Int.reduceLT, Int.reduceNeg, Int.reduceLE, Int.reduceToNat, Nat.reduceLT, Nat.reduceEqDiff, Nat.reduceAdd, Nat.reduceMul, Nat.reduceSub, Nat.reduceLeDiff, Nat.reduceBEq]; refine hK _ _ ?_; clear hK) | (refine ae ?_; simp only [TH]; (((repeat ((fail_if_success refine hS _ _ ?_); clear hS)); refine hS _ _ ?_); clear hS; try clear hF)))
      refine wpC_cond (b := r.any coinB) (by simp (disch := omega) only [WW, BB, ↓ab, ↓reduceIte, Int.reduceLT, Int.reduceNeg, Int.reduceLE, Int.reduceToNat, Nat.reduceLT, Nat.reduceEqDiff, Nat.reduceAdd, Nat.reduceMul, Nat.reduceSub, Nat.reduceLeDiff, Nat.reduceBEq]) (fun h1 => ?_) (fun h1 => ?_)
      · repeat (first
    | (refine aa rfl fun K hK => ?_; simp (disch := omega) only [WW, BB, ↓ab, ↓reduceIte, Int.reduceLT, Int.reduceNeg, Int.reduceLE, Int.reduceToNat, Nat.reduceLT, Nat.reduceEqDiff, Nat.reduceAdd, Nat.reduceMul, Nat.reduceSub, Nat.reduceLeDiff, Nat.reduceBEq]; refine hK _ _ ?_; clear hK) | (refine ae ?_; simp only [TH]; (((repeat ((fail_if_success refine hS _ _ ?_); clear hS)); refine hS _ _ ?_); clear hS; try clear hF)) | refine af fun K hS hF => ?_ | refine ac rfl ?_ | (refine al ?_; simp (disch := omega) only [TH, TE, WW, BB, ↓ab, ↓reduceIte, Int.reduceLT, Int.reduceNeg, Int.reduceLE, Int.reduceToNat, Nat.reduceLT, Nat.reduceEqDiff, Nat.reduceAdd, Nat.reduceMul, Nat.reduceSub, Nat.reduceLeDiff, Nat.reduceBEq]))
        refine ⟨_, rfl, [], _, aj _, ?_⟩
        have e1 : cbB (x :: r) = true := by rw [cbB, h1, Bool.or_true]; rfl
        rw [e1] at hQ
        exact hQ
      · (refine am ?_; simp only [TH]; ((repeat ((fail_if_success refine hS _ _ ?_); clear hS)); refine hS _ _ ?_); clear hS; try clear hF)
        have hone : ∃ i, x.ins = [i] := by
          unfold coinB at hc
          split at hc
          · rename_i i hi; exact ⟨i, hi⟩
          · cases hc
        obtain ⟨i, hi⟩ := hone
        obtain ⟨vi, vo, ei, eo, rfl, hvi, hni, hei, hvo, hno, heo, hver, hlock⟩ := hio
        rw [hi] at hei
        obtain ⟨e2, he2, hin⟩ := hei.get (i := 0) (b := i) rfl
        have hlen := isIn_len hin
        obtain ⟨s, hes2, hvs, hns, hok, hn, hsq, hsl⟩ := hin
        obtain ⟨p1, q1, hp1, hq1, hl1'⟩ := elem_field1 (P := Try.prog) (k := .i64) ar47 sl47 hv he rfl 1 (y := vi) rfl
        obtain ⟨p2, q2, hp2, hq2, hl2⟩ := elem_field1 (P := Try.prog) (k := .i64) ar53 sl53 hvi he2 hlen 33 (y := s) (by
          rw [hes2, List.getElem?_append_right (by rw [ar, hok.1]; omega), ar, hok.1]; rfl)
        have hls := av (P := Try.prog) sl64 hvs
        rw [az] at hls
        have e1 : cbB (x :: r) = (decide (i.script.length < 2) || decide (100 < i.script.length)) := by rw [cbB, hc, h1, hi]; rfl
        rw [e1] at hQ
        by_cases c1 : i.script.length < 2
        · have d1 : decide (i.script.length < 2) = true := decide_eq_true c1
          repeat (first
    | (refine aa rfl fun K hK => ?_; simp (disch := omega) only [WW, BB, ↓ab, ↓reduceIte, Int.reduceLT, Int.reduceNeg, Int.reduceLE, Int.reduceToNat, Nat.reduceLT, Nat.reduceEqDiff, Nat.reduceAdd, Nat.reduceMul, Nat.reduceSub, Nat.reduceLeDiff, Nat.reduceBEq, fl98_0, bu, ty47, bE hhd, hp1, bA, hq1, ty53, hl1', hp2, fl68_1, hq2, ty64, hl2, hls, d1]; refine hK _ _ ?_; clear hK) | refine bl rfl ?_ | (refine ae ?_; simp only [TH]; (((repeat ((fail_if_success refine hS _ _ ?_); clear hS)); refine hS _ _ ?_); clear hS; try clear hF)) | refine af fun K hS hF => ?_ | refine ac rfl ?_ | (refine al ?_; simp (disch := omega) only [TH, TE, WW, BB, ↓ab, ↓reduceIte, Int.reduceLT, Int.reduceNeg, Int.reduceLE, Int.reduceToNat, Nat.reduceLT, Nat.reduceEqDiff, Nat.reduceAdd, Nat.reduceMul, Nat.reduceSub, Nat.reduceLeDiff, Nat.reduceBEq, fl98_0, bu, ty47, bE hhd, hp1, bA, hq1, ty53, hl1', hp2, fl68_1, hq2, ty64, hl2, hls, d1]))
          refine ⟨_, rfl, [], _, aj _, ?_⟩
          rw [d1] at hQ
          exact hQ
        · have d1 : decide (i.script.length < 2) = false := decide_eq_false c1
          repeat (first
    | (refine aa rfl fun K hK => ?_; simp (disch := omega) only [WW, BB, ↓ab, ↓reduceIte, Int.reduceLT, Int.reduceNeg, Int.reduceLE, Int.reduceToNat, Nat.reduceLT, Nat.reduceEqDiff, Nat.reduceAdd, Nat.reduceMul, Nat.reduceSub, Nat.reduceLeDiff, Nat.reduceBEq, fl98_0, bu, ty47, bE hhd, hp1, bA, hq1, ty53, hl1', hp2, fl68_1, hq2, ty64, hl2, hls, d1]; refine hK _ _ ?_; clear hK) | (refine ae ?_; simp only [TH]; (((repeat ((fail_if_success refine hS _ _ ?_); clear hS)); refine hS _ _ ?_); clear hS; try clear hF)) | refine af fun K hS hF => ?_ | refine ac rfl ?_ | (refine al ?_; simp (disch := omega) only [TH, TE, WW, BB, ↓ab, ↓reduceIte, Int.reduceLT, Int.reduceNeg, Int.reduceLE, Int.reduceToNat, Nat.reduceLT, Nat.reduceEqDiff, Nat.reduceAdd, Nat.reduceMul, Nat.reduceSub, Nat.reduceLeDiff, Nat.reduceBEq, fl98_0, bu, ty47, bE hhd, hp1, bA, hq1, ty53, hl1', hp2, fl68_1, hq2, ty64, hl2, hls, d1]))
          refine ⟨_, rfl, [], _, aj _, ?_⟩
          rw [d1] at hQ
          exact hQ
end Go.Av

set_option linter.unusedSimpArgs false
set_option linter.unusedVariables false
namespace Go.Av
open Go.RowKit Go.Proofs
theorem sl73 : sliT Try.prog 73 = some 33 := by kernel_rfl

theorem bsA1 {P : Program} {S : Nat → Spec} {Y : aC} {H : Hp} {t : T} {Q : V → Hp → Prop} {x : Operand} {ty sz : Nat} {z xs : List V} (hz : zeroEs P ty 1 = some (sz, [z])) (hx : evT t x = .agg xs) (hl : xs.length = sz) (hm : sz ≤ 16777216) (h : Q (.sl sz [xs] true) H) :
    wpOp P S Y false H (evT t) (.buildSlice ty 1 #[(0, x)]) Q := by
  refine ⟨sz, [z], [xs], hz, by omega, ?_, h⟩
  simp only [List.map_cons, List.map_nil, bv, hx, aW]
  rw [if_pos ⟨hl, by simp⟩]
  rfl
theorem okO_seal {H X : Hp} {v : V} {sz : Nat} {es : List (List V)} {Q : V → Hp → Prop} (h : okO H X v sz es) (hX : hle H X) (hQ : ∀ w, ((w = .nils ∧ es = []) ∨ w = .sl sz es false) → Q w H) : ∃ B, sealA B v X Q := by
  rcases h with ⟨rfl, rfl⟩ | ⟨e, he, hXe, rfl⟩
  · exact ⟨[], H, hX, hQ _ (.inl ⟨rfl, rfl⟩)⟩
  · refine ⟨[e], .arr sz es, hXe, rfl, H, ai hX he, ?_⟩
    simp only [subV, if_true]
    rw [if_pos ⟨trivial, by omega⟩, List.drop_zero, List.take_of_length_le (Nat.le_refl _)]
    exact hQ _ (.inr rfl)

def pnt (i : TIn) : List Nat × Nat := (i.tx, i.n)
def pnts (x : TTx) : List (List Nat × Nat) := x.ins.map pnt
/-- The outpoints that a block spends. -/
def ptsOf (l : List TTx) : List (List Nat × Nat) := l.tail.flatMap pnts
def qE (ps : List (List Nat × Nat)) : List (List V) := ps.map fun p => pC p.1 p.2
theorem qE_len (ps : List (List Nat × Nat)) : (qE ps).length = ps.length := by simp [qE]
theorem pC_ones (a : List Nat) (n : Nat) : (pC a n).all one = true := by
  rw [pC, List.all_append, bk]
  rfl
theorem qE_ones (ps : List (List Nat × Nat)) : bo (qE ps) = true := by
  simp only [bo, List.all_eq_true, qE, List.mem_map]
  rintro e ⟨p, _, rfl⟩
  exact List.all_eq_true.1 (pC_ones _ _)
theorem agg66 {a : List Nat} {n : Nat} {r : List V} (ha : a.length = 32) : ldc (some (true, 33)) (pC a n ++ r) 0 = some (.agg (pC a n)) := by
  simp only [ldc]
  rw [if_pos (by simp [bP ha]), List.drop_zero, List.take_append_of_le_length (by rw [bP ha]; omega), List.take_of_length_le (by rw [bP ha]; omega)]
theorem ds73 : dstT Try.prog 73 = some 33 := by kernel_rfl
theorem by73 : bT Try.prog 73 = 36 := by kernel_rfl
theorem zs73 : zeroEs Try.prog 73 1 = some (33, [pC h0 0]) := by kernel_rfl
theorem z56 : zeroT Try.prog 56 = some [vN .u32 0, .nils, .nils, vN .u32 0] := by kernel_rfl
theorem z68 : zeroT Try.prog 68 = some (pC h0 0 ++ [.nils, vN .u32 0]) := by kernel_rfl

theorem pts_len : ∀ (l : List TTx), (∀ x ∈ l, okT x) → (l.flatMap pnts).length ≤ l.length * 60
  | [], _ => by simp
  | x :: l, h => by
    have h1 := (h x (by simp)).1
    have h2 := pts_len l fun x hx => h x (by simp [hx])
    rw [List.flatMap_cons, List.length_append, List.length_cons]
    simp only [pnts, List.length_map]
    omega

def isPts (v : V) (ps : List (List Nat × Nat)) : Prop := (v = .nils ∧ qE ps = []) ∨ v = .sl 33 (qE ps) false
theorem isPts_view {v : V} {ps : List (List Nat × Nat)} (h : isPts v ps) (H : Hp) : ao H 33 v = some (qE ps) := by
  rcases h with ⟨rfl, h⟩ | rfl
  · rw [h]; rfl
  · simp [ao]
def s34 : Spec := fun _ args H Q => ∃ cs hd l, args = [.agg cs] ∧ isBlk H cs hd l ∧ okTs l ∧ ∀ v, isPts v (ptsOf l) → Q v H

section
variable {Y : aC} {Q : Exit → T → Hp → Prop} {t : T} {G X : Hp} {vi w u : V} {ei : List (List V)} {ins : List TIn} {dn : List (List Nat × Nat)} {i n : Nat}

/-- The inputs of one transaction. -/
theorem l34 (q3 : t 3 = w) (q10 : t 10 = u) (q11 : t 11 = vN .i64 n) (q12 : t 12 = vN .i64 i) (q17 : t 17 = vi) (q18 : t 18 = vN .i64 ins.length) (q19 : t 19 = vN .i64 0) (hvi : ao G 35 vi = some ei) (hei : Each (isIn G) ei ins) (hl : ins.length ≤ 60)
    (hok : okO G X w 33 (qE dn)) (hG : hle G X) (hdn : dn.length ≤ 60000)
    (hQ : ∀ t' w' X', t' 3 = w' → t' 10 = u → t' 11 = vN .i64 n → t' 12 = vN .i64 i → okO G X' w' 33 (qE (dn ++ ins.map pnt)) → hle G X' → Q (.exit 2) t' X') :
    wpC Try.prog (tab [(48, s48)]) Y [1] 31 (aU Try.f34 1) true Q t X := by
  refine aO (fun m t X => ∃ k w, m = ins.length - k ∧ k ≤ ins.length ∧ t 3 = w ∧ t 10 = u ∧ t 11 = vN .i64 n ∧ t 12 = vN .i64 i ∧ t 17 = vi ∧ t 18 = vN .i64 ins.length ∧ t 19 = vN .i64 k ∧ okO G X w 33 (qE (dn ++ (ins.take k).map pnt)) ∧ hle G X) ins.length
    ⟨0, w, rfl, by omega, q3, q10, q11, q12, q17, q18, q19, by simpa using hok, hG⟩ fun KL m t X hI hKL => ?_
  clear q3 q10 q11 q12 q17 q18 q19 hok hG
  obtain ⟨k, w, rfl, hi, q3, q10, q11, q12, q17, q18, q19, hok, hG⟩ := hI
  repeat (first
    | (refine aa rfl fun K hK => ?_; simp (disch := omega) only [WW, BB, ↓ab, simprocAttr, q18, q19]; refine hK _ _ ?_; clear hK) | (refine ae ?_; simp only [TH]; (((repeat ((fail_if_success refine hS _ _ ?_); clear hS)); refine hS _ _ ?_); clear hS; try clear hF)) | refine af fun K hS hF => ?_ | refine ac rfl ?_)
  refine aH rfl (fun hd => ?_) (fun hd => ?_)
  · (refine am ?_; simp only [TH]; ((repeat ((fail_if_success refine hS _ _ ?_); clear hS)); refine hS _ _ ?_); clear hS; try clear hF)
    obtain ⟨o, ho⟩ : ∃ o, ins[k]? = some o := ⟨_, List.getElem?_eq_getElem hd⟩
    obtain ⟨e, he, hio⟩ := hei.get ho
    obtain ⟨pp, hp, hpl⟩ := bc (P := Try.prog) (k := .i64) ar53 sl53 (aL hG hvi) he (isIn_len hio)
    obtain ⟨s, hes, hvs, hns, hok1, hn, hsq, hsl⟩ := hio
    have hes' : e = pC o.tx o.n ++ [s, vN .u32 o.seq] := by rw [hes, pC, List.append_assoc]; rfl
    subst hes'
    repeat (first
    | (refine aa rfl fun K hK => ?_; simp (disch := omega) only [WW, BB, ↓ab, simprocAttr, q17, q19, hp, hpl, ty68]; refine hK _ _ ?_; clear hK) | refine af fun K hS hF => ?_ | refine ac rfl ?_)
    refine as_frz (d := 7) (v := .agg (pC o.tx o.n ++ [s, vN .u32 o.seq])) rfl rfl rfl rfl rfl rfl z68 (fun H' b hb => au hb ty68 (by simp [bP hok1.1]) (by rw [List.all_append, pC_ones]; simp only [List.all_cons, (bd hvs).1]; rfl) (by rw [List.length_append, bP h0_ok.1]; rfl)) (by decide) hF (fun p => by simp (disch := omega) only [WW, BB, ↓ab, simprocAttr]) ?_
    have htk : ins.take (k + 1) = ins.take k ++ [o] := by
      rw [List.take_succ_eq_append_getElem hd, ← (List.getElem?_eq_some_iff.1 ho).2]
    repeat (first
    | (refine aa rfl fun K hK => ?_; simp (disch := omega) only [WW, BB, ↓ab, simprocAttr, fl68_0, ty66, agg66 hok1.1, q3]; refine hK _ _ ?_; clear hK) | refine ac rfl ?_)
    refine aa rfl fun K hK => bsA1 (xs := pC o.tx o.n) zs73 (by simp (disch := omega) only [WW, BB, ↓ab, simprocAttr]) (bP hok1.1 _) (by omega) (hK _ _ ?_)
    refine aa rfl fun K hK => ?_
    simp (disch := omega) only [WW, BB, ↓ab, simprocAttr]
    refine cg (fs := qE [pnt o]) hok hG ds73 sl73 bg (qE_ones _) (by simp [qE]) (by rw [by73, qE_len, qE_len]; simp; omega) (by rw [qE_len, qE_len]; simp; omega) fun w' X2 hok2 hG2 hX2 => hK _ _ ?_
    repeat (first
    | (refine aa rfl fun K hK => ?_; simp (disch := omega) only [WW, BB, ↓ab, simprocAttr, q19, aP]; refine hK _ _ ?_; clear hK) | (refine ae ?_; simp only [TH]; first | (((repeat ((fail_if_success refine hS _ _ ?_); clear hS)); refine hS _ _ ?_); clear hS; try clear hF) | skip) | refine ac rfl ?_)
    refine hKL (ins.length - (k + 1)) _ _ (by omega) ⟨k + 1, w', rfl, by omega, ?_, ?_, ?_, ?_, ?_, ?_, ?_, ?_, hG2⟩
    · simp (disch := omega) only [WW, BB, ↓ab, simprocAttr]
    · simp (disch := omega) only [WW, BB, ↓ab, simprocAttr, q10]
    · simp (disch := omega) only [WW, BB, ↓ab, simprocAttr, q11]
    · simp (disch := omega) only [WW, BB, ↓ab, simprocAttr, q12]
    · simp (disch := omega) only [WW, BB, ↓ab, simprocAttr, q17]
    · simp (disch := omega) only [WW, BB, ↓ab, simprocAttr, q18]
    · simp (disch := omega) only [WW, BB, ↓ab, simprocAttr]
    · have e : qE (dn ++ (ins.take k).map pnt) ++ qE [pnt o] = qE (dn ++ (ins.take (k + 1)).map pnt) := by
        rw [htk]; simp [qE]
      rw [← e]
      exact hok2
  · refine aG ?_
    simp only [TH]
    have : k = ins.length := by omega
    subst this
    rw [List.take_of_length_le (Nat.le_refl _)] at hok
    exact hQ _ _ _ q3 q10 q11 q12 hok hG
end

theorem build1 {P : Program} {t m : Nat} {xs : List V} (ho : buildOk P t = true) (hz : (zeroT P t).map List.length = some m) (hp : placeT P t 0 = some (0, m)) (hl : xs.length = m) : bH P t [(0, .agg xs)] = some (.agg xs) := by
  obtain ⟨z, hz, hzl⟩ := Option.map_eq_some_iff.1 hz
  simp only [bH, ho, if_true, hz, Option.bind_some, fillV, hp, aW]
  rw [if_pos ⟨hl, by omega⟩]
  simp only [fillV, Option.map_some, br, List.take_zero, List.nil_append, Nat.zero_add]
  rw [List.drop_of_length_le (by omega), List.append_nil]
theorem bu98 {hd : List V} {v : V} (h : hd.length = 68) : bH Try.prog 98 [(0, .agg (hd ++ [v]))] = some (.agg (hd ++ [v])) :=
  build1 (m := 69) (by kernel_rfl) (by kernel_rfl) (by kernel_rfl) (by simp [h])

theorem snd34 : Sound Try.prog 34 s34 := by
  refine ak pm (ap [(48, s48)] (by simp [snd48])) [1] Try.func34 rfl (by kernel_rfl) ?_
  rintro Y args H Q ⟨cs, hd, l, rfl, ⟨v, rfl, hhd, hv0⟩, hl, hQ⟩
  refine ⟨by simp [Try.f34], ?_⟩
  show wpC Try.prog (tab [(48, s48)]) Y [1] 31 _ true (aB Try.prog [.tmp 2] Q) _ H
  have hl1 := hl.1
  repeat (first
    | (refine aa rfl fun K hK => ?_; simp (disch := omega) only [WW, BB, ↓ab, simprocAttr, ty49, agg98 hhd, bu98 hhd]; refine hK _ _ ?_; clear hK) | (refine ae ?_; simp only [TH]; (((repeat ((fail_if_success refine hS _ _ ?_); clear hS)); refine hS _ _ ?_); clear hS; try clear hF)) | refine af fun K hS hF => ?_ | refine ac rfl ?_)
  refine aa rfl fun K hK => ⟨_, hd, l, rfl, ⟨v, rfl, hhd, hv0⟩, by omega, fun y hy => hK _ _ ?_⟩
  obtain ⟨es, hv, hnv, hes⟩ := hy
  have hly := av (P := Try.prog) sl47 hv
  rw [hes.1] at hly
  repeat (first
    | (refine aa rfl fun K hK => ?_; simp (disch := omega) only [WW, BB, ↓ab, simprocAttr, hly]; refine hK _ _ ?_; clear hK) | (refine ae ?_; simp only [TH]; (((repeat ((fail_if_success refine hS _ _ ?_); clear hS)); refine hS _ _ ?_); clear hS; try clear hF)) | refine ax ?_)
  have hlt : l.tail.length ≤ 1000 := by rw [List.length_tail]; omega
  refine aO (fun m t X => ∃ i w, m = l.tail.length - i ∧ i ≤ l.tail.length ∧ t 3 = w ∧ t 10 = y ∧ t 11 = vN .i64 l.tail.length ∧ t 12 = vN .i64 i ∧ okO H X w 33 (qE ((l.tail.take i).flatMap pnts)) ∧ hle H X) l.tail.length
    ⟨0, .nils, rfl, by omega, by simp (disch := omega) only [WW, BB, ↓ab, simprocAttr], by simp (disch := omega) only [WW, BB, ↓ab, simprocAttr], by simp (disch := omega) only [WW, BB, ↓ab, simprocAttr], by simp (disch := omega) only [WW, BB, ↓ab, simprocAttr], .inl ⟨rfl, rfl⟩, aj _⟩ fun KL m t X hI hKL => ?_
  obtain ⟨i, w, rfl, hi, q3, q10, q11, q12, hok, hG⟩ := hI
  repeat (first
    | (refine aa rfl fun K hK => ?_; simp (disch := omega) only [WW, BB, ↓ab, simprocAttr, q11, q12]; refine hK _ _ ?_; clear hK) | (refine ae ?_; simp only [TH]; (((repeat ((fail_if_success refine hS _ _ ?_); clear hS)); refine hS _ _ ?_); clear hS; try clear hF)) | refine af fun K hS hF => ?_ | refine ac rfl ?_)
  refine aH rfl (fun hd => ?_) (fun hd => ?_)
  · (refine am ?_; simp only [TH]; ((repeat ((fail_if_success refine hS _ _ ?_); clear hS)); refine hS _ _ ?_); clear hS; try clear hF)
    obtain ⟨o, ho⟩ : ∃ o, l.tail[i]? = some o := ⟨_, List.getElem?_eq_getElem hd⟩
    obtain ⟨e, he, hio⟩ := hes.get ho
    obtain ⟨pp, hp, hpl⟩ := bc (P := Try.prog) (k := .i64) ar47 sl47 (aL hG hv) he (isTx_len hio)
    obtain ⟨vi, vo, ei, eo, rfl, hvi, hni, hei, hvo, hno, heo, hver, hlock⟩ := hio
    have hlt2 : okT o := hl.2 o (List.mem_of_mem_tail (List.mem_of_getElem? ho))
    have hly2 := av (P := Try.prog) sl53 hvi
    rw [hei.1] at hly2
    repeat (first
    | (refine aa rfl fun K hK => ?_; simp (disch := omega) only [WW, BB, ↓ab, simprocAttr, q10, q12, hp, hpl, ty56]; refine hK _ _ ?_; clear hK) | refine af fun K hS hF => ?_ | refine ac rfl ?_)
    refine as_frz (d := 5) (v := .agg [vN .u32 o.ver, vi, vo, vN .u32 o.lock]) rfl rfl rfl rfl rfl rfl z56 (fun H' b hb => au hb ty56 rfl (by rw [List.all_cons, List.all_cons, List.all_cons, (bd hvi).1, (bd hvo).1]; rfl) rfl) (by decide) hF (fun p => by simp (disch := omega) only [WW, BB, ↓ab, simprocAttr]) ?_
    repeat (first
    | (refine aa rfl fun K hK => ?_; simp (disch := omega) only [WW, BB, ↓ab, simprocAttr, bA, ty53, hly2]; refine hK _ _ ?_; clear hK) | (refine ae ?_; simp only [TH]; (((repeat ((fail_if_success refine hS _ _ ?_); clear hS)); refine hS _ _ ?_); clear hS; try clear hF)) | refine af fun K hS hF => ?_ | refine ac rfl ?_ | refine ax ?_)
    have hdl := pts_len (l.tail.take i) fun x hx => hl.2 x (List.mem_of_mem_tail (List.mem_of_mem_take hx))
    rw [List.length_take] at hdl
    refine l34 (u := y) (n := l.tail.length) (i := i) (vi := vi) (w := w) (ins := o.ins) (dn := (l.tail.take i).flatMap pnts) ?_ ?_ ?_ ?_ ?_ ?_ ?_ hvi hei hlt2.1 hok hG (by omega) fun t' w' X' r3 r10 r11 r12 hok' hG' => ?_
    · simp (disch := omega) only [WW, BB, ↓ab, simprocAttr, q3]
    · simp (disch := omega) only [WW, BB, ↓ab, simprocAttr, q10]
    · simp (disch := omega) only [WW, BB, ↓ab, simprocAttr, q11]
    · simp (disch := omega) only [WW, BB, ↓ab, simprocAttr, q12]
    · simp (disch := omega) only [WW, BB, ↓ab, simprocAttr]
    · simp (disch := omega) only [WW, BB, ↓ab, simprocAttr]
    · simp (disch := omega) only [WW, BB, ↓ab, simprocAttr]
    (simp only [TH, ↓reduceIte, Nat.reduceEqDiff]; ((repeat ((fail_if_success refine hS _ _ ?_); clear hS)); refine hS _ _ ?_); clear hS; try clear hF)
    repeat (first
    | (refine aa rfl fun K hK => ?_; simp (disch := omega) only [WW, BB, ↓ab, simprocAttr, r12, aP]; refine hK _ _ ?_; clear hK) | (refine ae ?_; simp only [TH]; first | (((repeat ((fail_if_success refine hS _ _ ?_); clear hS)); refine hS _ _ ?_); clear hS; try clear hF) | skip) | refine ac rfl ?_)
    refine hKL (l.tail.length - (i + 1)) _ _ (by omega) ⟨i + 1, w', rfl, by omega, ?_, ?_, ?_, ?_, ?_, hG'⟩
    · simp (disch := omega) only [WW, BB, ↓ab, simprocAttr, r3]
    · simp (disch := omega) only [WW, BB, ↓ab, simprocAttr, r10]
    · simp (disch := omega) only [WW, BB, ↓ab, simprocAttr, r11]
    · simp (disch := omega) only [WW, BB, ↓ab, simprocAttr]
    · have htk : l.tail.take (i + 1) = l.tail.take i ++ [o] := by
        rw [List.take_succ_eq_append_getElem hd, ← (List.getElem?_eq_some_iff.1 ho).2]
      rw [htk, List.flatMap_append, List.flatMap_cons, List.flatMap_nil, List.append_nil]
      exact hok'
  · (refine aG ?_; simp only [TH, ↓reduceIte, Nat.reduceEqDiff]; ((repeat ((fail_if_success refine hS _ _ ?_); clear hS)); refine hS _ _ ?_); clear hS; try clear hF)
    have : i = l.tail.length := by omega
    subst this
    rw [List.take_of_length_le (Nat.le_refl _)] at hok
    repeat (first
    | (refine aa rfl fun K hK => ?_; simp (disch := omega) only [WW, BB, ↓ab, simprocAttr, q3]; refine hK _ _ ?_; clear hK) | (refine ae ?_; simp only [TH]; (((repeat ((fail_if_success refine hS _ _ ?_); clear hS)); refine hS _ _ ?_); clear hS; try clear hF)) | refine af fun K hS hF => ?_ | refine ac rfl ?_ | (refine al ?_; simp (disch := omega) only [TH, TE, WW, BB, ↓ab, simprocAttr, q3]))
    exact ⟨_, rfl, okO_seal hok hG fun w hw => hQ w hw⟩
end Go.Av

set_option linter.unusedSimpArgs false
set_option linter.unusedVariables false
namespace Go.Av
open Go.RowKit Go.Proofs
theorem ar73 : arrT Try.prog 73 = none := by kernel_rfl

def okP (ps : List (List Nat × Nat)) : Prop := ∀ p ∈ ps, okH p.1 ∧ p.2 < 4294967296
theorem qE_get {ps : List (List Nat × Nat)} {i : Nat} {p : List Nat × Nat} (h : ps[i]? = some p) : (qE ps)[i]? = some (pC p.1 p.2) := by simp [qE, h]
theorem agg66' {a : List Nat} {n : Nat} (ha : a.length = 32) : ldc (some (true, 33)) (pC a n) 0 = some (.agg (pC a n)) := by
  have := agg66 (r := []) (n := n) ha
  rwa [List.append_nil] at this

def s98 : Spec := fun _ args H Q => ∃ v ps a m, args = [v, .agg (pC a m)] ∧ ao H 33 v = some (qE ps) ∧ okP ps ∧ ps.length ≤ 60000 ∧ okH a ∧ m < 4294967296 ∧ ∀ n : Int, decide (n ≥ 0) = ps.contains (a, m) → Q (.int .i64 n) H
theorem snd98 : Sound Try.prog 98 s98 := by
  refine ak pm (ap [] (by simp)) [3] Try.func98 rfl (by kernel_rfl) ?_
  rintro Y args H Q ⟨v, ps, a, m, rfl, hv, hps, hl, ha, hm, hQ⟩
  refine ⟨by simp [Try.f98], ?_⟩
  show wpC Try.prog (tab []) Y [3] 19 _ true (aB Try.prog [.tmp 4] Q) _ H
  have hly := av (P := Try.prog) sl73 hv
  rw [qE_len] at hly
  repeat (first
    | (refine aa rfl fun K hK => ?_; simp (disch := omega) only [WW, BB, ↓ab, ↓reduceIte, Int.reduceLT, Int.reduceNeg, Int.reduceLE, Int.reduceToNat, Nat.reduceLT, Nat.reduceEqDiff, Nat.reduceAdd, Nat.reduceMul, Nat.reduceSub, Nat.reduceLeDiff, Nat.reduceBEq, hly]; refine hK _ _ ?_; clear hK) | (refine ae ?_; simp only [TH]; (((repeat ((fail_if_success refine hS _ _ ?_); clear hS)); refine hS _ _ ?_); clear hS; try clear hF)) | refine af fun K hS hF => ?_ | refine ac rfl ?_ | refine ax ?_)
  refine aO (fun k t X => ∃ i, k = ps.length - i ∧ i ≤ ps.length ∧ X = H ∧ t 0 = v ∧ t 3 = .cptr (pC a m) 0 ∧ t 7 = vN .i64 ps.length ∧ t 8 = vN .i64 i ∧ (ps.take i).contains (a, m) = false) ps.length
    ⟨0, rfl, by omega, rfl, rfl, by simp (disch := omega) only [WW, BB, ↓ab, ↓reduceIte, Int.reduceLT, Int.reduceNeg, Int.reduceLE, Int.reduceToNat, Nat.reduceLT, Nat.reduceEqDiff, Nat.reduceAdd, Nat.reduceMul, Nat.reduceSub, Nat.reduceLeDiff, Nat.reduceBEq], by simp (disch := omega) only [WW, BB, ↓ab, ↓reduceIte, Int.reduceLT, Int.reduceNeg, Int.reduceLE, Int.reduceToNat, Nat.reduceLT, Nat.reduceEqDiff, Nat.reduceAdd, Nat.reduceMul, Nat.reduceSub, Nat.reduceLeDiff, Nat.reduceBEq], by simp (disch := omega) only [WW, BB, ↓ab, ↓reduceIte, Int.reduceLT, Int.reduceNeg, Int.reduceLE, Int.reduceToNat, Nat.reduceLT, Nat.reduceEqDiff, Nat.reduceAdd, Nat.reduceMul, Nat.reduceSub, Nat.reduceLeDiff, Nat.reduceBEq], rfl⟩ fun KL k t X hI hKL => ?_
  obtain ⟨i, rfl, hi, rfl, q0, q3, q7, q8, hb⟩ := hI
  repeat (first
    | (refine aa rfl fun K hK => ?_; simp (disch := omega) only [WW, BB, ↓ab, ↓reduceIte, Int.reduceLT, Int.reduceNeg, Int.reduceLE, Int.reduceToNat, Nat.reduceLT, Nat.reduceEqDiff, Nat.reduceAdd, Nat.reduceMul, Nat.reduceSub, Nat.reduceLeDiff, Nat.reduceBEq, q7, q8]; refine hK _ _ ?_; clear hK) | (refine ae ?_; simp only [TH]; (((repeat ((fail_if_success refine hS _ _ ?_); clear hS)); refine hS _ _ ?_); clear hS; try clear hF)) | refine af fun K hS hF => ?_ | refine ac rfl ?_)
  refine aH rfl (fun hd => ?_) (fun hd => ?_)
  · (refine am ?_; simp only [TH]; ((repeat ((fail_if_success refine hS _ _ ?_); clear hS)); refine hS _ _ ?_); clear hS; try clear hF)
    obtain ⟨o, ho⟩ : ∃ o, ps[i]? = some o := ⟨_, List.getElem?_eq_getElem hd⟩
    have hmem := List.mem_of_getElem? ho
    obtain ⟨pp, hp, hpl⟩ := bc (P := Try.prog) (k := .i64) ar73 sl73 hv (qE_get ho) (bP (hps o hmem).1.1 _)
    have htk : ps.take (i + 1) = ps.take i ++ [o] := by
      rw [List.take_succ_eq_append_getElem hd, ← (List.getElem?_eq_some_iff.1 ho).2]
    repeat (first
    | (refine aa rfl fun K hK => ?_; simp (disch := omega) only [WW, BB, ↓ab, ↓reduceIte, Int.reduceLT, Int.reduceNeg, Int.reduceLE, Int.reduceToNat, Nat.reduceLT, Nat.reduceEqDiff, Nat.reduceAdd, Nat.reduceMul, Nat.reduceSub, Nat.reduceLeDiff, Nat.reduceBEq, q8]; refine hK _ _ ?_; clear hK) | (refine ae ?_; simp only [TH]; (((repeat ((fail_if_success refine hS _ _ ?_); clear hS)); refine hS _ _ ?_); clear hS; try clear hF)) | refine af fun K hS hF => ?_ | refine ac rfl ?_)
    refine bJ 5 (by kernel_rfl) rfl rfl ?_
    repeat (first
    | ((first | refine aa rfl fun K hK => ?_ | refine aQ rfl fun K hK => ?_); simp (disch := omega) only [WW, BB, ↓ab, ↓reduceIte, Int.reduceLT, Int.reduceNeg, Int.reduceLE, Int.reduceToNat, Nat.reduceLT, Nat.reduceEqDiff, Nat.reduceAdd, Nat.reduceMul, Nat.reduceSub, Nat.reduceLeDiff, Nat.reduceBEq, q0, q3, q8, hp, hpl, ty66, agg66' ha.1, wpBin_A, eq66 ha (hps o hmem).1 hm (hps o hmem).2]; (first | refine hK _ _ ?_ | refine ⟨_, ⟨rfl, by first | rfl | trivial⟩, hK _ ?_⟩); clear hK) | refine bx ?_ | (refine ae ?_; simp only [TH]; (((repeat ((fail_if_success refine hS _ _ ?_); clear hS)); refine hS _ _ ?_); clear hS; try clear hF)))
    refine aH (p := a = o.1 ∧ m = o.2) (by simp (disch := omega) only [WW, BB, ↓ab, ↓reduceIte, Int.reduceLT, Int.reduceNeg, Int.reduceLE, Int.reduceToNat, Nat.reduceLT, Nat.reduceEqDiff, Nat.reduceAdd, Nat.reduceMul, Nat.reduceSub, Nat.reduceLeDiff, Nat.reduceBEq]) (fun h1 => ?_) (fun h1 => ?_)
    · repeat (first
    | (refine aa rfl fun K hK => ?_; simp (disch := omega) only [WW, BB, ↓ab, ↓reduceIte, Int.reduceLT, Int.reduceNeg, Int.reduceLE, Int.reduceToNat, Nat.reduceLT, Nat.reduceEqDiff, Nat.reduceAdd, Nat.reduceMul, Nat.reduceSub, Nat.reduceLeDiff, Nat.reduceBEq]; refine hK _ _ ?_; clear hK) | (refine ae ?_; simp only [TH]; (((repeat ((fail_if_success refine hS _ _ ?_); clear hS)); refine hS _ _ ?_); clear hS; try clear hF)) | refine af fun K hS hF => ?_ | refine ac rfl ?_ | (refine al ?_; simp (disch := omega) only [TH, TE, WW, BB, ↓ab, ↓reduceIte, Int.reduceLT, Int.reduceNeg, Int.reduceLE, Int.reduceToNat, Nat.reduceLT, Nat.reduceEqDiff, Nat.reduceAdd, Nat.reduceMul, Nat.reduceSub, Nat.reduceLeDiff, Nat.reduceBEq]))
      refine ⟨_, rfl, [], _, aj _, hQ _ ?_⟩
      have e1 : ps.contains (a, m) = true := by
        rw [List.contains_iff_mem]
        have : o = (a, m) := by rw [h1.1, h1.2]
        rw [← this]; exact hmem
      rw [e1]
      exact decide_eq_true (by omega)
    · (refine am ?_; simp only [TH]; ((repeat ((fail_if_success refine hS _ _ ?_); clear hS)); refine hS _ _ ?_); clear hS; try clear hF)
      repeat (first
    | (refine aa rfl fun K hK => ?_; simp (disch := omega) only [WW, BB, ↓ab, ↓reduceIte, Int.reduceLT, Int.reduceNeg, Int.reduceLE, Int.reduceToNat, Nat.reduceLT, Nat.reduceEqDiff, Nat.reduceAdd, Nat.reduceMul, Nat.reduceSub, Nat.reduceLeDiff, Nat.reduceBEq, q8, aP]; refine hK _ _ ?_; clear hK) | (refine ae ?_; simp only [TH]; first | (((repeat ((fail_if_success refine hS _ _ ?_); clear hS)); refine hS _ _ ?_); clear hS; try clear hF) | skip) | refine ac rfl ?_)
      refine hKL _ _ _ (by omega : ps.length - (i + 1) < ps.length - i) ⟨i + 1, rfl, by omega, rfl, ?_, ?_, ?_, ?_, ?_⟩
      · simp (disch := omega) only [WW, BB, ↓ab, ↓reduceIte, Int.reduceLT, Int.reduceNeg, Int.reduceLE, Int.reduceToNat, Nat.reduceLT, Nat.reduceEqDiff, Nat.reduceAdd, Nat.reduceMul, Nat.reduceSub, Nat.reduceLeDiff, Nat.reduceBEq, q0]
      · simp (disch := omega) only [WW, BB, ↓ab, ↓reduceIte, Int.reduceLT, Int.reduceNeg, Int.reduceLE, Int.reduceToNat, Nat.reduceLT, Nat.reduceEqDiff, Nat.reduceAdd, Nat.reduceMul, Nat.reduceSub, Nat.reduceLeDiff, Nat.reduceBEq, q3]
      · simp (disch := omega) only [WW, BB, ↓ab, ↓reduceIte, Int.reduceLT, Int.reduceNeg, Int.reduceLE, Int.reduceToNat, Nat.reduceLT, Nat.reduceEqDiff, Nat.reduceAdd, Nat.reduceMul, Nat.reduceSub, Nat.reduceLeDiff, Nat.reduceBEq, q7]
      · simp (disch := omega) only [WW, BB, ↓ab, ↓reduceIte, Int.reduceLT, Int.reduceNeg, Int.reduceLE, Int.reduceToNat, Nat.reduceLT, Nat.reduceEqDiff, Nat.reduceAdd, Nat.reduceMul, Nat.reduceSub, Nat.reduceLeDiff, Nat.reduceBEq]
      · rw [htk, Bool.eq_false_iff]
        intro h
        rw [List.contains_iff_mem, List.mem_append] at h
        rcases h with h | h
        · rw [← List.contains_iff_mem, hb] at h; cases h
        · rw [List.mem_singleton] at h
          exact h1 (by rw [← h]; exact ⟨rfl, rfl⟩)
  · (refine aG ?_; simp only [TH, ↓reduceIte, Nat.reduceEqDiff]; ((repeat ((fail_if_success refine hS _ _ ?_); clear hS)); refine hS _ _ ?_); clear hS; try clear hF)
    have : i = ps.length := by omega
    subst this
    repeat (first
    | (refine aa rfl fun K hK => ?_; simp (disch := omega) only [WW, BB, ↓ab, ↓reduceIte, Int.reduceLT, Int.reduceNeg, Int.reduceLE, Int.reduceToNat, Nat.reduceLT, Nat.reduceEqDiff, Nat.reduceAdd, Nat.reduceMul, Nat.reduceSub, Nat.reduceLeDiff, Nat.reduceBEq]; refine hK _ _ ?_; clear hK) | (refine ae ?_; simp only [TH]; (((repeat ((fail_if_success refine hS _ _ ?_); clear hS)); refine hS _ _ ?_); clear hS; try clear hF)) | refine af fun K hS hF => ?_ | refine ac rfl ?_ | (refine al ?_; simp (disch := omega) only [TH, TE, WW, BB, ↓ab, ↓reduceIte, Int.reduceLT, Int.reduceNeg, Int.reduceLE, Int.reduceToNat, Nat.reduceLT, Nat.reduceEqDiff, Nat.reduceAdd, Nat.reduceMul, Nat.reduceSub, Nat.reduceLeDiff, Nat.reduceBEq]))
    refine ⟨_, rfl, [], _, aj _, hQ _ ?_⟩
    rw [List.take_of_length_le (Nat.le_refl _)] at hb
    rw [hb]
    rfl

def s78 : Spec := fun _ args H Q => ∃ v ps a m, args = [v, .agg (pC a m)] ∧ ao H 33 v = some (qE ps) ∧ okP ps ∧ ps.length ≤ 60000 ∧ okH a ∧ m < 4294967296 ∧ Q (.bool (ps.contains (a, m))) H
theorem snd78 : Sound Try.prog 78 s78 := by
  refine ak pm (ap [(98, s98)] (by simp [snd98])) [3] Try.func78 rfl (by kernel_rfl) ?_
  rintro Y args H Q ⟨v, ps, a, m, rfl, hv, hps, hl, ha, hm, hQ⟩
  refine ⟨by simp [Try.f78], ?_⟩
  show wpC Try.prog (tab [(98, s98)]) Y [3] 9 _ true (aB Try.prog [.tmp 4] Q) _ H
  repeat (first
    | (refine aa rfl fun K hK => ?_; simp (disch := omega) only [WW, BB, ↓ab, ↓reduceIte, Int.reduceLT, Int.reduceNeg, Int.reduceLE, Int.reduceToNat, Nat.reduceLT, Nat.reduceEqDiff, Nat.reduceAdd, Nat.reduceMul, Nat.reduceSub, Nat.reduceLeDiff, Nat.reduceBEq, ty66, agg66' ha.1]; refine hK _ _ ?_; clear hK) | (refine ae ?_; simp only [TH]; (((repeat ((fail_if_success refine hS _ _ ?_); clear hS)); refine hS _ _ ?_); clear hS; try clear hF)) | refine af fun K hS hF => ?_ | refine ac rfl ?_)
  refine aa rfl fun K hK => ⟨v, ps, a, m, ?_, hv, hps, hl, ha, hm, fun n hn => hK _ _ ?_⟩
  · simp (disch := omega) only [WW, BB, ↓ab, ↓reduceIte, Int.reduceLT, Int.reduceNeg, Int.reduceLE, Int.reduceToNat, Nat.reduceLT, Nat.reduceEqDiff, Nat.reduceAdd, Nat.reduceMul, Nat.reduceSub, Nat.reduceLeDiff, Nat.reduceBEq]
  have e0 : decide (n ≥ ((0 : Nat) : Int)) = ps.contains (a, m) := hn
  repeat (first
    | (refine aa rfl fun K hK => ?_; simp (disch := omega) only [WW, BB, ↓ab, ↓reduceIte, Int.reduceLT, Int.reduceNeg, Int.reduceLE, Int.reduceToNat, Nat.reduceLT, Nat.reduceEqDiff, Nat.reduceAdd, Nat.reduceMul, Nat.reduceSub, Nat.reduceLeDiff, Nat.reduceBEq, geqI, e0]; refine hK _ _ ?_; clear hK) | (refine ae ?_; simp only [TH]; (((repeat ((fail_if_success refine hS _ _ ?_); clear hS)); refine hS _ _ ?_); clear hS; try clear hF)) | (refine al ?_; simp (disch := omega) only [TH, TE, WW, BB, ↓ab, ↓reduceIte, Int.reduceLT, Int.reduceNeg, Int.reduceLE, Int.reduceToNat, Nat.reduceLT, Nat.reduceEqDiff, Nat.reduceAdd, Nat.reduceMul, Nat.reduceSub, Nat.reduceLeDiff, Nat.reduceBEq, geqI, e0]))
  exact ⟨_, rfl, [], _, aj _, hQ⟩

theorem okP_pts {H : Hp} {v : V} {l : List TTx} (h : isTxs H v l) : okP (l.flatMap pnts) := by
  obtain ⟨es, hv, hnv, hes⟩ := h
  intro p hp
  obtain ⟨x, hx, hp⟩ := List.mem_flatMap.1 hp
  obtain ⟨i, hi, rfl⟩ := List.mem_map.1 hp
  obtain ⟨j, hj⟩ := List.mem_iff_getElem?.1 hx
  obtain ⟨e, he, vi, vo, ei, eo, rfl, hvi, hni, hei, _⟩ := hes.get hj
  obtain ⟨k, hk⟩ := List.mem_iff_getElem?.1 hi
  obtain ⟨e2, he2, s, hes2, hvs, hns, hok, hn, _⟩ := hei.get hk
  exact ⟨hok, hn⟩
theorem isTxs_tail {H : Hp} {v : V} {l : List TTx} (h : isTxs H v l) : okP (ptsOf l) := by
  have := okP_pts h
  intro p hp
  obtain ⟨x, hx, hp⟩ := List.mem_flatMap.1 hp
  exact this p (List.mem_flatMap.2 ⟨x, List.mem_of_mem_tail hx, hp⟩)
theorem ptsOf_len {l : List TTx} (h : okTs l) : (ptsOf l).length ≤ 60000 := by
  have := pts_len l.tail fun x hx => h.2 x (List.mem_of_mem_tail hx)
  have h1 := h.1
  rw [ptsOf]
  rw [List.length_tail] at this
  omega

def s64 : Spec := fun _ args H Q => ∃ cs hd l, args = [.agg cs] ∧ isBlk H cs hd l ∧ okTs l ∧ Q (.bool ((ptsOf l).contains (h0, 4294967295))) H
theorem agg98z {hd : List V} {v : V} (hhd : hd.length = 68) : ldc (some (true, 69)) (hd ++ [v]) 0 = some (.agg (hd ++ [v])) := agg98 hhd
theorem snd64 : Sound Try.prog 64 s64 := by
  refine ak pm (ap [(34, s34), (78, s78)] (by simp [snd34, snd78])) [1] Try.func64 rfl (by kernel_rfl) ?_
  rintro Y args H Q ⟨cs, hd, l, rfl, ⟨v, rfl, hhd, hv0⟩, hl, hQ⟩
  refine ⟨by simp [Try.f64], ?_⟩
  show wpC Try.prog (tab [(34, s34), (78, s78)]) Y [1] 8 _ true (aB Try.prog [.tmp 2] Q) _ H
  repeat (first
    | (refine aa rfl fun K hK => ?_; simp (disch := omega) only [WW, BB, ↓ab, ↓reduceIte, Int.reduceLT, Int.reduceNeg, Int.reduceLE, Int.reduceToNat, Nat.reduceLT, Nat.reduceEqDiff, Nat.reduceAdd, Nat.reduceMul, Nat.reduceSub, Nat.reduceLeDiff, Nat.reduceBEq, fl98_0, ty49, agg98 hhd]; refine hK _ _ ?_; clear hK) | (refine ae ?_; simp only [TH]; (((repeat ((fail_if_success refine hS _ _ ?_); clear hS)); refine hS _ _ ?_); clear hS; try clear hF)) | refine af fun K hS hF => ?_ | refine ac rfl ?_)
  refine aa rfl fun K hK => ⟨_, hd, l, rfl, ⟨v, rfl, hhd, hv0⟩, hl, fun w hw => hK _ _ ?_⟩
  repeat (refine aa rfl fun K hK => ?_; simp (disch := omega) only [WW, BB, ↓ab, ↓reduceIte, Int.reduceLT, Int.reduceNeg, Int.reduceLE, Int.reduceToNat, Nat.reduceLT, Nat.reduceEqDiff, Nat.reduceAdd, Nat.reduceMul, Nat.reduceSub, Nat.reduceLeDiff, Nat.reduceBEq, bu66]; refine hK _ _ ?_; clear hK)
  refine aa rfl fun K hK => ⟨w, ptsOf l, h0, 4294967295, rfl, isPts_view hw _, isTxs_tail hv0, ptsOf_len hl, h0_ok, by omega, hK _ _ ?_⟩
  repeat (first
    | (refine aa rfl fun K hK => ?_; simp (disch := omega) only [WW, BB, ↓ab, ↓reduceIte, Int.reduceLT, Int.reduceNeg, Int.reduceLE, Int.reduceToNat, Nat.reduceLT, Nat.reduceEqDiff, Nat.reduceAdd, Nat.reduceMul, Nat.reduceSub, Nat.reduceLeDiff, Nat.reduceBEq]; refine hK _ _ ?_; clear hK) | (refine ae ?_; simp only [TH]; (((repeat ((fail_if_success refine hS _ _ ?_); clear hS)); refine hS _ _ ?_); clear hS; try clear hF)) | (refine al ?_; simp (disch := omega) only [TH, TE, WW, BB, ↓ab, ↓reduceIte, Int.reduceLT, Int.reduceNeg, Int.reduceLE, Int.reduceToNat, Nat.reduceLT, Nat.reduceEqDiff, Nat.reduceAdd, Nat.reduceMul, Nat.reduceSub, Nat.reduceLeDiff, Nat.reduceBEq]))
  exact ⟨_, rfl, [], _, aj _, hQ⟩
end Go.Av

set_option linter.unusedSimpArgs false
set_option linter.unusedVariables false
namespace Go.Av
open Go.RowKit Go.Proofs

theorem findK_none {cs : List V} : ∀ (es : Ents) (i : Nat), (∀ e ∈ es, ∃ ds, e.1 = .agg ds ∧ eqC cs ds = false) → findK cs es i = none
  | [], _, _ => rfl
  | (k, v, n) :: es, i, h => by
    obtain ⟨ds, rfl, hd⟩ : ∃ ds, k = .agg ds ∧ eqC cs ds = false := h (k, v, n) (by simp)
    rw [findK, if_neg (by rw [hd]; simp)]
    exact findK_none es (i + 1) fun e he => h e (by simp [he])
theorem findK_at {cs ds : List V} {v : V} {n : Nat} : ∀ (es : Ents) (i j : Nat), es[j]? = some (.agg ds, v, n) → eqC cs ds = true → (∀ k e, k < j → es[k]? = some e → ∃ ds, e.1 = .agg ds ∧ eqC cs ds = false) → findK cs es i = some (i + j, v, n)
  | [], _, _, h, _, _ => by simp at h
  | e :: es, i, 0, h, hc, _ => by
    simp only [List.getElem?_cons_zero, Option.some.injEq] at h
    subst h
    rw [findK, if_pos hc]
    rfl
  | (k, w, m) :: es, i, j + 1, h, hc, hk => by
    obtain ⟨ds', rfl, hd⟩ : ∃ ds, k = .agg ds ∧ eqC cs ds = false := hk 0 (k, w, m) (by omega) rfl
    rw [findK, if_neg (by rw [hd]; simp), findK_at es (i + 1) j (by simpa using h) hc fun k e h1 h2 => hk (k + 1) e (by omega) (by simpa using h2)]
    congr 2
    omega

theorem eqC_pC {a b : List Nat} {n m : Nat} (ha : okH a) (hb : okH b) : eqC (pC a n) (pC b m) = decide (a = b ∧ n = m) := by
  rw [pC, pC, eqC_append _ _ _ _ (by rw [ar, ar, ha.1, hb.1]), eqC_nR, eqC_one, Bool.decide_and]

/-- The entries of the outpoints seen. -/
def mE (ps : List (List Nat × Nat)) : Ents := ps.zipIdx.map fun p => (.agg (pC p.1.1 p.1.2), vN .i64 1, p.2)
theorem mE_get {ps : List (List Nat × Nat)} (j : Nat) : (mE ps)[j]? = (ps[j]?).map fun p => (.agg (pC p.1 p.2), vN .i64 1, j) := by
  rw [mE, List.getElem?_map, List.getElem?_zipIdx]
  cases ps[j]? <;> simp
theorem mE_len (ps : List (List Nat × Nat)) : (mE ps).length = ps.length := by simp [mE]
theorem mE_snoc (ps : List (List Nat × Nat)) (p : List Nat × Nat) : mE (ps ++ [p]) = mE ps ++ [(.agg (pC p.1 p.2), vN .i64 1, ps.length)] := by
  simp [mE, List.zipIdx_append]
theorem mp123 : mapT Try.prog 123 = some (66, 3) := by kernel_rfl
theorem zo3 : zero1 Try.prog 3 = some (vN .i64 0) := by kernel_rfl
theorem z66 : zeroT Try.prog 66 = some (pC h0 0) := by kernel_rfl
theorem key66 {a : List Nat} {n : Nat} (ha : okH a) (hn : n < 4294967296) : keyC Try.prog 66 (.agg (pC a n)) = some (pC a n) := by
  rw [keyC, if_pos ⟨ag66, li66 ha hn⟩]
theorem ents66 {ps : List (List Nat × Nat)} (h : okP ps) {es : Ents} (he : ∀ e ∈ es, ∃ p ∈ ps, e.1 = .agg (pC p.1 p.2)) : entsOk Try.prog 66 es := fun e hm => by
  obtain ⟨p, hp, hep⟩ := he e hm
  rw [hep, key66 (h p hp).1 (h p hp).2]
  rfl
theorem mE_mem {ps : List (List Nat × Nat)} : ∀ e ∈ mE ps, ∃ p ∈ ps, e.1 = .agg (pC p.1 p.2) := fun e he => by
  obtain ⟨j, hj⟩ := List.mem_iff_getElem?.1 he
  rw [mE_get] at hj
  obtain ⟨p, hp, rfl⟩ := Option.map_eq_some_iff.1 hj
  exact ⟨p, List.mem_of_getElem? hp, rfl⟩

def againB (l : List TTx) : Bool := !decide (ptsOf l).Nodup
def s66 : Spec := fun _ args H Q => ∃ cs hd l, args = [.agg cs] ∧ isBlk H cs hd l ∧ okTs l ∧ Q (.bool (againB l)) H

theorem snd66 : Sound Try.prog 66 s66 := by
  refine ak pm (ap [(34, s34)] (by simp [snd34])) [1] Try.func66 rfl (by kernel_rfl) ?_
  rintro Y args H Q ⟨cs, hd, l, rfl, ⟨v, rfl, hhd, hv0⟩, hl, hQ⟩
  refine ⟨by simp [Try.f66], ?_⟩
  show wpC Try.prog (tab [(34, s34)]) Y [1] 26 _ true (aB Try.prog [.tmp 2] Q) _ H
  repeat (first
    | (refine aa rfl fun K hK => ?_; simp (disch := omega) only [WW, BB, ↓ab, simprocAttr]; refine hK _ _ ?_; clear hK) | (refine ae ?_; simp only [TH]; (((repeat ((fail_if_success refine hS _ _ ?_); clear hS)); refine hS _ _ ?_); clear hS; try clear hF)) | refine af fun K hS hF => ?_ | refine ac rfl ?_)
  refine aa rfl fun K hK => ⟨rfl, fun b hb => hK _ _ ?_⟩
  have hle1 : ∀ z, hle H (upd H b z) := fun z => ai (aj _) hb
  repeat (first
    | (refine aa rfl fun K hK => ?_; simp (disch := omega) only [WW, BB, ↓ab, simprocAttr, fl98_0, ty49, agg98 hhd]; refine hK _ _ ?_; clear hK) | (refine ae ?_; simp only [TH]; (((repeat ((fail_if_success refine hS _ _ ?_); clear hS)); refine hS _ _ ?_); clear hS; try clear hF)) | refine af fun K hS hF => ?_ | refine ac rfl ?_)
  refine aa rfl fun K hK => ⟨_, hd, l, rfl, ⟨v, rfl, hhd, bX (hle1 _) hv0⟩, hl, fun w hw => hK _ _ ?_⟩
  have hps := isTxs_tail hv0
  have hpl := ptsOf_len hl
  rw [againB] at hQ
  generalize ptsOf l = ps at *
  have hly := fun H => av (P := Try.prog) sl73 (isPts_view hw H)
  simp only [qE_len] at hly
  repeat (first
    | (refine aa rfl fun K hK => ?_; simp (disch := omega) only [WW, BB, ↓ab, simprocAttr, hly H]; refine hK _ _ ?_; clear hK) | (refine ae ?_; simp only [TH]; (((repeat ((fail_if_success refine hS _ _ ?_); clear hS)); refine hS _ _ ?_); clear hS; try clear hF)) | refine ax ?_)
  refine aO (fun k t X => ∃ i, k = ps.length - i ∧ i ≤ ps.length ∧ X = upd H b (some (.map (mE (ps.take i)) i)) ∧ t 3 = .mp b ∧ t 9 = w ∧ t 10 = vN .i64 ps.length ∧ t 11 = vN .i64 i ∧ (ps.take i).Nodup) ps.length
    ⟨0, rfl, by omega, rfl, by simp (disch := omega) only [WW, BB, ↓ab, simprocAttr], by simp (disch := omega) only [WW, BB, ↓ab, simprocAttr], by simp (disch := omega) only [WW, BB, ↓ab, simprocAttr], by simp (disch := omega) only [WW, BB, ↓ab, simprocAttr], by simp⟩ fun KL k t X hI hKL => ?_
  obtain ⟨i, rfl, hi, rfl, q3, q9, q10, q11, hnd⟩ := hI
  repeat (first
    | (refine aa rfl fun K hK => ?_; simp (disch := omega) only [WW, BB, ↓ab, simprocAttr, q10, q11]; refine hK _ _ ?_; clear hK) | (refine ae ?_; simp only [TH]; (((repeat ((fail_if_success refine hS _ _ ?_); clear hS)); refine hS _ _ ?_); clear hS; try clear hF)) | refine af fun K hS hF => ?_ | refine ac rfl ?_)
  refine aH rfl (fun hd => ?_) (fun hd => ?_)
  · (refine am ?_; simp only [TH]; ((repeat ((fail_if_success refine hS _ _ ?_); clear hS)); refine hS _ _ ?_); clear hS; try clear hF)
    obtain ⟨o, ho⟩ : ∃ o, ps[i]? = some o := ⟨_, List.getElem?_eq_getElem hd⟩
    have hmem := List.mem_of_getElem? ho
    obtain ⟨pp, hp, hpl2⟩ := bc (P := Try.prog) (k := .i64) ar73 sl73 (isPts_view hw (upd H b (some (.map (mE (ps.take i)) i)))) (qE_get ho) (bP (hps o hmem).1.1 _)
    have htk : ps.take (i + 1) = ps.take i ++ [o] := by
      rw [List.take_succ_eq_append_getElem hd, ← (List.getElem?_eq_some_iff.1 ho).2]
    have hkey := key66 (hps o hmem).1 (hps o hmem).2
    have hpst : okP (ps.take i) := fun p hp => hps p (List.mem_of_mem_take hp)
    repeat (first
    | (refine aa rfl fun K hK => ?_; simp (disch := omega) only [WW, BB, ↓ab, simprocAttr, q9, q11, hp, hpl2, ty66]; refine hK _ _ ?_; clear hK) | refine af fun K hS hF => ?_ | refine ac rfl ?_)
    refine as_frz (d := 5) (v := .agg (pC o.1 o.2)) rfl rfl rfl rfl rfl rfl z66 (fun H' b hb => au hb ty66 (bP (hps o hmem).1.1 _) (pC_ones _ _) (bP h0_ok.1 _)) (by decide) hF (fun p => by simp (disch := omega) only [WW, BB, ↓ab, simprocAttr]) ?_
    refine af fun K hS hF => ?_
    have lk : ∀ {S : Nat → Spec} {Y : aC} {own : Bool} {t : T} {H' : Hp} {es : Ents} {c : Nat} {Q : V → Hp → Prop} {xm xk : Operand} (r : Option (Nat × V × Nat)), evT t xm = .mp b → evT t xk = .agg (pC o.1 o.2) → H' b = some (.map es c) → (∀ e ∈ es, ∃ p ∈ ps, e.1 = .agg (pC p.1 p.2)) → findK (pC o.1 o.2) es 0 = r → Q (found false (vN .i64 0) r) H' → wpOp Try.prog S Y own H' (evT t) (.lookup 123 xm xk false) Q :=
      fun r h1 h2 h3 h4 h5 h6 => ⟨66, 3, pC o.1 o.2, vN .i64 0, mp123, by rw [h2]; exact hkey, zo3, .inr ⟨b, _, _, h1, h3, ents66 hps h4, by rw [h5]; exact h6⟩⟩
    have hmm : ∀ e ∈ mE (ps.take i), ∃ p ∈ ps, e.1 = .agg (pC p.1 p.2) := fun e he => by
      obtain ⟨p, hp, h⟩ := mE_mem e he
      exact ⟨p, List.mem_of_mem_take hp, h⟩
    by_cases hin : o ∈ ps.take i
    · obtain ⟨j, hj⟩ := List.mem_iff_getElem?.1 hin
      have hjg : (mE (ps.take i))[j]? = some (.agg (pC o.1 o.2), vN .i64 1, j) := by rw [mE_get, hj]; rfl
      have hjl : j < (ps.take i).length := (List.getElem?_eq_some_iff.1 hj).1
      have hself : eqC (pC o.1 o.2) (pC o.1 o.2) = true := by rw [eqC_pC (hps o hmem).1 (hps o hmem).1]; simp
      have hbef : ∀ k p, k < j → (ps.take i)[k]? = some p → eqC (pC o.1 o.2) (pC p.1 p.2) = false := fun k p hk hp => by
        have hpm := hpst p (List.mem_of_getElem? hp)
        rw [eqC_pC (hps o hmem).1 hpm.1, decide_eq_false_iff_not]
        rintro ⟨h1, h2⟩
        have hop : o = p := Prod.ext h1 h2
        have hkl : k < (ps.take i).length := by omega
        have := List.pairwise_iff_getElem.1 hnd k j hkl hjl hk
        rw [(List.getElem?_eq_some_iff.1 hp).2, (List.getElem?_eq_some_iff.1 hj).2] at this
        exact this hop.symm
      have hfk : findK (pC o.1 o.2) (mE (ps.take i)) 0 = some (j, vN .i64 1, j) := by
        have := findK_at (v := vN .i64 1) (n := j) (mE (ps.take i)) 0 j hjg hself fun k e hk he => by
          rw [mE_get] at he
          obtain ⟨p, hp, rfl⟩ := Option.map_eq_some_iff.1 he
          exact ⟨_, rfl, hbef k p hk hp⟩
        rwa [Nat.zero_add] at this
      generalize hX : upd H b (some (.map (mE (ps.take i)) i)) = X at *
      have hXb : X b = some (.map (mE (ps.take i)) i) := by rw [← hX]; exact ag _ _ _
      have hXX : upd X b (some (.map (mE (ps.take i)) i)) = X := by rw [← hX, aD]
      refine ck 6 [0, 1, 2, 3] (fun i => decide (4 ≤ i)) (fun H' => H' = X) (by kernel_rfl) rfl fun L B hBd hL => ?_
      refine ay rfl rfl rfl ⟨.mp b, fun H' hC' => ?_, ?_⟩
      · subst hC'
        simp (disch := omega) only [WW, BB, ↓ab, simprocAttr, q3]
        exact ⟨trivial, trivial⟩
      refine ay rfl rfl rfl ⟨.agg (pC o.1 o.2), fun H' hC' => ?_, ?_⟩
      · subst hC'
        simp (disch := omega) only [WW, BB, ↓ab, simprocAttr, ty66, agg66' (hps o hmem).1.1]
        exact ⟨trivial, trivial⟩
      refine ay rfl rfl rfl ⟨vN .i64 1, fun H' hC' => ?_, ?_⟩
      · subst hC'
        refine lk _ ?_ ?_ hXb hmm hfk ⟨rfl, rfl⟩
        · simp (disch := omega) only [WW, BB, ↓ab, simprocAttr]
        · simp (disch := omega) only [WW, BB, ↓ab, simprocAttr]
      refine ay rfl rfl rfl ⟨vN .i64 2, fun H' hC' => ?_, ?_⟩
      · subst hC'
        simp (disch := omega) only [WW, BB, ↓ab, simprocAttr, aP]
        exact ⟨trivial, trivial⟩
      refine cj (aV [4] (by kernel_rfl) (by simp) fun i' hi' => ?_)
      have hi4 : i' = 4 := by simpa using hi'
      subst hi4
      refine ⟨by omega, bS rfl rfl rfl ⟨fun v H' => v = .tup [vN .i64 1, vN .i64 j] ∧ H' = X, ⟨66, 3, pC o.1 o.2, vN .i64 0, b, _, _, mp123, ?_, zo3, ?_, hXb, ents66 hps hmm, ?_⟩, ?_⟩⟩
      · simp (disch := omega) only [WW, BB, ↓ab, simprocAttr, hkey]
      · simp (disch := omega) only [WW, BB, ↓ab, simprocAttr]
      · rw [hfk, hXX]
        exact ⟨rfl, rfl⟩
      rintro v H' ⟨rfl, hH⟩
      rw [hH]
      refine ⟨rfl, aV [5] (by kernel_rfl) (by simp) fun i' hi' => ?_⟩
      have hi5 : i' = 5 := by simpa using hi'
      subst hi5
      refine ⟨by omega, bS rfl rfl rfl ⟨fun v H' => v = vN .i64 j ∧ H' = X, ?_, ?_⟩⟩
      · simp (disch := omega) only [WW, BB, ↓ab, simprocAttr]
        exact ⟨trivial, trivial⟩
      rintro v H' ⟨rfl, hH⟩
      rw [hH]
      refine ⟨rfl, bN (hL _ _ _ (by rw [hBd]; kernel_rfl) ?_)⟩
      have hidx : (mE (ps.take i)).findIdx? (fun e => (e.2.2 : Int) == (j : Int)) = some j := by
        rw [List.findIdx?_eq_some_iff_getElem]
        refine ⟨by rw [mE_len]; exact hjl, ?_, fun k hk => ?_⟩
        · rw [(List.getElem?_eq_some_iff.1 hjg).2]; simp
        · have hkl : k < (mE (ps.take i)).length := by rw [mE_len]; omega
          have := mE_get (ps := ps.take i) k
          rw [List.getElem?_eq_getElem hkl, List.getElem?_eq_getElem (by rw [mE_len] at hkl; exact hkl)] at this
          simp only [Option.map_some, Option.some.injEq] at this
          rw [this]
          simp
          omega
      refine aa rfl fun K hK => ?_
      simp (disch := omega) only [WW, BB, ↓ab, simprocAttr]
      refine ⟨b, _, _, (j : Int), j, rfl, hXb, rfl, hidx, hK _ _ ?_⟩
      have hm2 : ∀ e ∈ (mE (ps.take i)).modify j (fun e => (e.1, vN .i64 2, e.2.2)), ∃ p ∈ ps, e.1 = .agg (pC p.1 p.2) := fun e he => by
        obtain ⟨k, hk⟩ := List.mem_iff_getElem?.1 he
        rw [List.getElem?_modify] at hk
        simp only [Option.map_eq_map, Option.map_eq_some_iff] at hk
        obtain ⟨e', he', rfl⟩ := hk
        obtain ⟨p, hp, h⟩ := hmm e' (List.mem_of_getElem? he')
        refine ⟨p, hp, ?_⟩
        split
        · exact h
        · exact h
      have hf2 : findK (pC o.1 o.2) ((mE (ps.take i)).modify j (fun e => (e.1, vN .i64 2, e.2.2))) 0 = some (j, vN .i64 2, j) := by
        have := findK_at (v := vN .i64 2) (n := j) ((mE (ps.take i)).modify j (fun e => (e.1, vN .i64 2, e.2.2))) 0 j (by rw [List.getElem?_modify, hjg]; simp) hself fun k e hk he => by
          rw [List.getElem?_modify, mE_get] at he
          simp only [Option.map_eq_map, Option.map_eq_some_iff] at he
          obtain ⟨e', ⟨p, hp, rfl⟩, rfl⟩ := he
          rw [if_neg (by omega)]
          exact ⟨_, rfl, hbef k p hk hp⟩
        rwa [Nat.zero_add] at this
      repeat (first
    | (refine aa rfl fun K hK => ?_; simp (disch := omega) only [WW, BB, ↓ab, simprocAttr, ty66, agg66' (hps o hmem).1.1, q3]; refine hK _ _ ?_; clear hK) | (refine ae ?_; simp only [TH]; (((repeat ((fail_if_success refine hS _ _ ?_); clear hS)); refine hS _ _ ?_); clear hS; try clear hF)) | refine af fun K hS hF => ?_ | refine ac rfl ?_)
      refine aa rfl fun K hK => lk _ ?_ ?_ (ag _ _ _) hm2 hf2 (hK _ _ ?_)
      · simp (disch := omega) only [WW, BB, ↓ab, simprocAttr, q3]
      · simp (disch := omega) only [WW, BB, ↓ab, simprocAttr]
      repeat (first
    | (refine aa rfl fun K hK => ?_; simp (disch := omega) only [WW, BB, ↓ab, simprocAttr, found, decide_true]; refine hK _ _ ?_; clear hK) | (refine ae ?_; simp only [TH]; (((repeat ((fail_if_success refine hS _ _ ?_); clear hS)); refine hS _ _ ?_); clear hS; try clear hF)))
      refine aS (by simp (disch := omega) only [WW, BB, ↓ab, simprocAttr]) ?_
      repeat (first
    | (refine aa rfl fun K hK => ?_; simp (disch := omega) only [WW, BB, ↓ab, simprocAttr]; refine hK _ _ ?_; clear hK) | (refine ae ?_; simp only [TH]; (((repeat ((fail_if_success refine hS _ _ ?_); clear hS)); refine hS _ _ ?_); clear hS; try clear hF)) | refine af fun K hS hF => ?_ | refine ac rfl ?_ | (refine al ?_; simp (disch := omega) only [TH, TE, WW, BB, ↓ab, simprocAttr]))
      have hnn : ¬ ps.Nodup := fun h => by
        have h1 := h.sublist (List.take_sublist (i + 1) ps)
        rw [htk, List.nodup_append] at h1
        exact h1.2.2 o hin o (by simp) rfl
      rw [decide_eq_false hnn] at hQ
      refine ⟨_, rfl, [], H, ?_, hQ⟩
      rw [← hX, aD]
      exact hle1 _
    · have hself : eqC (pC o.1 o.2) (pC o.1 o.2) = true := by rw [eqC_pC (hps o hmem).1 (hps o hmem).1]; simp
      have hno : ∀ e ∈ mE (ps.take i), ∃ ds, e.1 = .agg ds ∧ eqC (pC o.1 o.2) ds = false := fun e he => by
        obtain ⟨p, hp, h⟩ := mE_mem e he
        refine ⟨_, h, ?_⟩
        rw [eqC_pC (hps o hmem).1 (hpst p hp).1, decide_eq_false_iff_not]
        rintro ⟨h1, h2⟩
        exact hin (by rw [show o = p from Prod.ext h1 h2]; exact hp)
      have hlen : (mE (ps.take i)).length = i := by rw [mE_len, List.length_take]; omega
      have hfk : findK (pC o.1 o.2) (mE (ps.take i)) 0 = none := findK_none _ _ hno
      have hfx : ∀ v, findK (pC o.1 o.2) (mE (ps.take i) ++ [(.agg (pC o.1 o.2), v, i)]) 0 = some (i, v, i) := fun v => by
        have := findK_at (cs := pC o.1 o.2) (ds := pC o.1 o.2) (v := v) (n := i) (mE (ps.take i) ++ [(.agg (pC o.1 o.2), v, i)]) 0 i (by rw [List.getElem?_append_right (by omega), hlen]; simp) hself fun k e hk he => by
          rw [List.getElem?_append_left (by omega)] at he
          exact hno e (List.mem_of_getElem? he)
        rwa [Nat.zero_add] at this
      have hmx : ∀ v, ∀ e ∈ mE (ps.take i) ++ [(.agg (pC o.1 o.2), v, i)], ∃ p ∈ ps, e.1 = .agg (pC p.1 p.2) := fun v e he => by
        rcases List.mem_append.1 he with h | h
        · exact hmm e h
        · rw [List.mem_singleton] at h
          subst h
          exact ⟨o, hmem, rfl⟩
      generalize hX : upd H b (some (.map (mE (ps.take i)) i)) = X at *
      have hXb : X b = some (.map (mE (ps.take i)) i) := by rw [← hX]; exact ag _ _ _
      generalize hX' : upd X b (some (.map (mE (ps.take i) ++ [(.agg (pC o.1 o.2), vN .i64 0, i)]) (i + 1))) = X'
      have hXb' : X' b = some (.map (mE (ps.take i) ++ [(.agg (pC o.1 o.2), vN .i64 0, i)]) (i + 1)) := by rw [← hX']; exact ag _ _ _
      refine ck 6 [0, 1, 2, 3] (fun i => decide (4 ≤ i)) (fun H' => H' = X ∨ H' = X') (by kernel_rfl) (.inl rfl) fun L B hBd hL => ?_
      refine ay rfl rfl rfl ⟨.mp b, fun H' hC' => ?_, ?_⟩
      · simp (disch := omega) only [WW, BB, ↓ab, simprocAttr, q3]
        exact ⟨trivial, trivial⟩
      refine ay rfl rfl rfl ⟨.agg (pC o.1 o.2), fun H' hC' => ?_, ?_⟩
      · simp (disch := omega) only [WW, BB, ↓ab, simprocAttr, ty66, agg66' (hps o hmem).1.1]
        exact ⟨trivial, trivial⟩
      refine ay rfl rfl rfl ⟨vN .i64 0, fun H' hC' => ?_, ?_⟩
      · rcases hC' with rfl | rfl
        · refine lk _ ?_ ?_ hXb hmm hfk ⟨rfl, rfl⟩
          · simp (disch := omega) only [WW, BB, ↓ab, simprocAttr]
          · simp (disch := omega) only [WW, BB, ↓ab, simprocAttr]
        · refine lk _ ?_ ?_ hXb' (hmx _) (hfx _) ⟨rfl, rfl⟩
          · simp (disch := omega) only [WW, BB, ↓ab, simprocAttr]
          · simp (disch := omega) only [WW, BB, ↓ab, simprocAttr]
      refine ay rfl rfl rfl ⟨vN .i64 1, fun H' hC' => ?_, ?_⟩
      · simp (disch := omega) only [WW, BB, ↓ab, simprocAttr, aP]
        exact ⟨trivial, trivial⟩
      refine cj (aV [4] (by kernel_rfl) (by simp) fun i' hi' => ?_)
      have hi4 : i' = 4 := by simpa using hi'
      subst hi4
      refine ⟨by omega, bS rfl rfl rfl ⟨fun v H' => v = .tup [vN .i64 0, vN .i64 i] ∧ H' = X', ⟨66, 3, pC o.1 o.2, vN .i64 0, b, _, _, mp123, ?_, zo3, ?_, hXb, ents66 hps hmm, ?_⟩, ?_⟩⟩
      · simp (disch := omega) only [WW, BB, ↓ab, simprocAttr, hkey]
      · simp (disch := omega) only [WW, BB, ↓ab, simprocAttr]
      · rw [hfk]
        refine ⟨rfl, ?_⟩
        rw [← hX']
        simp (disch := omega) only [WW, BB, ↓ab, simprocAttr]
      rintro v H' ⟨rfl, hH⟩
      rw [hH]
      refine ⟨.inr rfl, aV [5] (by kernel_rfl) (by simp) fun i' hi' => ?_⟩
      have hi5 : i' = 5 := by simpa using hi'
      subst hi5
      refine ⟨by omega, bS rfl rfl rfl ⟨fun v H' => v = vN .i64 i ∧ H' = X', ?_, ?_⟩⟩
      · simp (disch := omega) only [WW, BB, ↓ab, simprocAttr]
        exact ⟨trivial, trivial⟩
      rintro v H' ⟨rfl, hH⟩
      rw [hH]
      refine ⟨.inr rfl, bN (hL _ _ _ (by rw [hBd]; kernel_rfl) ?_)⟩
      have hidx : (mE (ps.take i) ++ [(V.agg (pC o.1 o.2), vN .i64 0, i)]).findIdx? (fun e => (e.2.2 : Int) == (i : Int)) = some i := by
        rw [List.findIdx?_eq_some_iff_getElem]
        refine ⟨by simp [hlen], ?_, fun k hk => ?_⟩
        · rw [List.getElem_append_right (by omega)]
          simp [hlen]
        · have hkl : k < (mE (ps.take i)).length := by omega
          rw [List.getElem_append_left hkl]
          have := mE_get (ps := ps.take i) k
          rw [List.getElem?_eq_getElem hkl, List.getElem?_eq_getElem (by rw [mE_len] at hkl; exact hkl)] at this
          simp only [Option.map_some, Option.some.injEq] at this
          rw [this]
          simp
          omega
      refine aa rfl fun K hK => ?_
      simp (disch := omega) only [WW, BB, ↓ab, simprocAttr]
      refine ⟨b, _, _, (i : Int), i, rfl, hXb', rfl, hidx, hK _ _ ?_⟩
      have hmod : (mE (ps.take i) ++ [(V.agg (pC o.1 o.2), vN .i64 0, i)]).modify i (fun e => (e.1, vN .i64 1, e.2.2)) = mE (ps.take (i + 1)) := by
        rw [htk, mE_snoc]
        have hl2 : (ps.take i).length = i := by rw [List.length_take]; omega
        rw [hl2]
        apply List.ext_getElem?
        intro k
        rw [List.getElem?_modify]
        by_cases hk : k < i
        · rw [List.getElem?_append_left (by omega), List.getElem?_append_left (by omega)]
          have hne : ¬ i = k := by omega
          simp only [hne, if_false]
          cases (mE (ps.take i))[k]? <;> rfl
        · by_cases hk2 : k = i
          · subst hk2
            rw [List.getElem?_append_right (by omega), List.getElem?_append_right (by omega), hlen]
            simp
          · rw [List.getElem?_eq_none (by simp; omega), List.getElem?_eq_none (by simp; omega)]
            rfl
      rw [hmod]
      have hX2 : upd X' b (some (.map (mE (ps.take (i + 1))) (i + 1))) = upd H b (some (.map (mE (ps.take (i + 1))) (i + 1))) := by
        rw [← hX', ← hX, aD, aD]
      rw [hX2]
      have hm3 : ∀ e ∈ mE (ps.take (i + 1)), ∃ p ∈ ps, e.1 = .agg (pC p.1 p.2) := fun e he => by
        obtain ⟨p, hp, h⟩ := mE_mem e he
        exact ⟨p, List.mem_of_mem_take hp, h⟩
      have hf3 : findK (pC o.1 o.2) (mE (ps.take (i + 1))) 0 = some (i, vN .i64 1, i) := by
        have hl2 : (ps.take i).length = i := by rw [List.length_take]; omega
        rw [htk, mE_snoc, hl2]
        exact hfx _
      repeat (first
    | (refine aa rfl fun K hK => ?_; simp (disch := omega) only [WW, BB, ↓ab, simprocAttr, ty66, agg66' (hps o hmem).1.1, q3]; refine hK _ _ ?_; clear hK) | (refine ae ?_; simp only [TH]; (((repeat ((fail_if_success refine hS _ _ ?_); clear hS)); refine hS _ _ ?_); clear hS; try clear hF)) | refine af fun K hS hF => ?_ | refine ac rfl ?_)
      refine aa rfl fun K hK => lk _ ?_ ?_ (ag _ _ _) hm3 hf3 (hK _ _ ?_)
      · simp (disch := omega) only [WW, BB, ↓ab, simprocAttr, q3]
      · simp (disch := omega) only [WW, BB, ↓ab, simprocAttr]
      repeat (first
    | (refine aa rfl fun K hK => ?_; simp (disch := omega) only [WW, BB, ↓ab, simprocAttr, found, decide_false, Nat.lt_irrefl]; refine hK _ _ ?_; clear hK) | (refine ae ?_; simp only [TH]; (((repeat ((fail_if_success refine hS _ _ ?_); clear hS)); refine hS _ _ ?_); clear hS; try clear hF)))
      refine aE (by simp (disch := omega) only [WW, BB, ↓ab, simprocAttr]) ?_
      (refine am ?_; simp only [TH]; ((repeat ((fail_if_success refine hS _ _ ?_); clear hS)); refine hS _ _ ?_); clear hS; try clear hF)
      repeat (first
    | (refine aa rfl fun K hK => ?_; simp (disch := omega) only [WW, BB, ↓ab, simprocAttr, q11, aP]; refine hK _ _ ?_; clear hK) | (refine ae ?_; simp only [TH]; first | (((repeat ((fail_if_success refine hS _ _ ?_); clear hS)); refine hS _ _ ?_); clear hS; try clear hF) | skip) | refine ac rfl ?_)
      refine hKL _ _ _ (by omega : ps.length - (i + 1) < ps.length - i) ⟨i + 1, rfl, by omega, rfl, ?_, ?_, ?_, ?_, ?_⟩
      · simp (disch := omega) only [WW, BB, ↓ab, simprocAttr, q3]
      · simp (disch := omega) only [WW, BB, ↓ab, simprocAttr, q9]
      · simp (disch := omega) only [WW, BB, ↓ab, simprocAttr, q10]
      · simp (disch := omega) only [WW, BB, ↓ab, simprocAttr]
      · rw [htk, List.nodup_append]
        exact ⟨hnd, by simp, fun a ha b hb => by rw [List.mem_singleton] at hb; subst hb; exact fun h => hin (h ▸ ha)⟩
  · (refine aG ?_; simp only [TH, ↓reduceIte, Nat.reduceEqDiff]; ((repeat ((fail_if_success refine hS _ _ ?_); clear hS)); refine hS _ _ ?_); clear hS; try clear hF)
    have : i = ps.length := by omega
    subst this
    rw [List.take_of_length_le (Nat.le_refl _)] at hnd
    repeat (first
    | (refine aa rfl fun K hK => ?_; simp (disch := omega) only [WW, BB, ↓ab, simprocAttr]; refine hK _ _ ?_; clear hK) | (refine ae ?_; simp only [TH]; (((repeat ((fail_if_success refine hS _ _ ?_); clear hS)); refine hS _ _ ?_); clear hS; try clear hF)) | refine af fun K hS hF => ?_ | refine ac rfl ?_ | (refine al ?_; simp (disch := omega) only [TH, TE, WW, BB, ↓ab, simprocAttr]))
    refine ⟨_, rfl, [], _, hle1 _, ?_⟩
    rw [decide_eq_true hnd] at hQ
    exact hQ
end Go.Av
