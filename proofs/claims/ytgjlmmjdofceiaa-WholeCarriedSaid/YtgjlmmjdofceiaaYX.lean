/-
  Package whole: faults, Judge.
  Package whole: Judge.
  Package whole: Judge (its body).
  The law's rooted, base.
  The reference's Great.
  The reference's Twin, and its Copy of a transaction.
  The reference's Copy of a transaction: outputs; its body.
  The reference's Copy of a block.
  The law's alive; the plain law of WholeAgain.
  Arguments: blocks of transactions.
  Arguments: inputs, outputs, transactions, blocks.
-/
import Derived.Test.YtgjlmmjdofceiaaYW

set_option linter.unusedSimpArgs false
set_option linter.unusedVariables false
namespace Go.Av
open Go.RowKit Go.Proofs
theorem sl110 : sliT Try.prog 110 = some 1 := by kernel_rfl
theorem ar110 : arrT Try.prog 110 = none := by kernel_rfl
theorem ty23 : tyT Try.prog 23 = some (false, 1) := by kernel_rfl

def fltS (Y : aC) (l : Nat) (Qe : Hp → Prop) : List (Nat × V) → Hp → Prop
  | [], X => Qe X
  | (e, f) :: r, X => ∃ Q₁ : V → Hp → Prop, Y l [vN .i64 e, f] X Q₁ ∧ ∀ b X', Q₁ b X' → (b = .bool false ∧ Qe X') ∨ (b = .bool true ∧ fltS Y l Qe r X')
def fnL (cs : List V) (g : Nat) : V := .fn (.func g) [.agg cs] []
def fltL (cs : List V) : List (Nat × V) := [(240, fnL cs 61), (241, fnL cs 62), (242, fnL cs 63), (243, fnL cs 64), (244, fnL cs 65), (245, fnL cs 66)]
theorem aggAll {cs : List V} {n : Nat} (h : cs.length = n) : ldc (some (true, n)) cs 0 = some (.agg cs) := by
  simp only [ldc]
  rw [if_pos (by omega), List.drop_zero, List.take_of_length_le (by omega)]

def s47 : Spec := fun _ args H Q => ∃ cs, args = [.agg cs] ∧ Q (.fn (.func 60) [] [.cptr cs 0]) H
theorem snd47 : Sound Try.prog 47 s47 := by
  refine ak pm (ap [] (by simp)) [1] Try.func47 rfl (by kernel_rfl) ?_
  rintro Y args H Q ⟨cs, rfl, hQ⟩
  refine ⟨by simp [Try.f47], ?_⟩
  show wpC Try.prog (tab []) Y [1] 4 _ true (aB Try.prog [.tmp 2] Q) _ H
  repeat (first
    | (refine aa rfl fun K hK => ?_; simp (disch := omega) only [WW, BB, ↓ab, simprocAttr]; refine hK _ _ ?_; clear hK) | (refine ae ?_; simp only [TH]; (((repeat ((fail_if_success refine hS _ _ ?_); clear hS)); refine hS _ _ ?_); clear hS; try clear hF)) | refine af fun K hS hF => ?_ | refine ac rfl ?_ | (refine al ?_; simp (disch := omega) only [TH, TE, WW, BB, ↓ab, simprocAttr]))
  exact ⟨_, rfl, [], _, aj _, hQ⟩

theorem bs110 {S : Nat → Spec} {Y : aC} {H : Hp} {t : T} {Q : V → Hp → Prop} {a b c d e f : Operand} {cs : List V} (ha : evT t a = fnL cs 61) (hb : evT t b = fnL cs 62) (hc : evT t c = fnL cs 63) (hd : evT t d = fnL cs 64) (he : evT t e = fnL cs 65) (hf : evT t f = fnL cs 66)
    (h : Q (.sl 1 ((fltL cs).map fun p => [p.2]) true) H) : wpOp Try.prog S Y false H (evT t) (.buildSlice 110 6 #[(0, a), (1, b), (2, c), (3, d), (4, e), (5, f)]) Q := by
  refine ⟨1, List.replicate 6 [.niln], _, by kernel_rfl, by omega, ?_, h⟩
  simp only [List.map_cons, List.map_nil, ha, hb, hc, hd, he, hf]
  rfl

def s60 : Spec := fun Y args H Q => ∃ l cs, args = [.fn (.yield l) [] [], .cptr cs 0] ∧ cs.length = 69 ∧ fltS Y l (fun X => Q (.tup []) X) (fltL cs) H
theorem snd60 : Sound Try.prog 60 s60 := by
  refine ak pm (ap [] (by simp)) [] Try.func60 rfl (by kernel_rfl) ?_
  rintro Y args H Q ⟨l, cs, rfl, hcs, hR⟩
  refine ⟨by simp [Try.f60], ?_⟩
  show wpC Try.prog (tab []) Y [] 33 _ true (aB Try.prog [] Q) _ H
  repeat (first
    | (refine aa rfl fun K hK => ?_; simp (disch := omega) only [WW, BB, ↓ab, simprocAttr, ty98, aggAll hcs]; refine hK _ _ ?_; clear hK) | refine af fun K hS hF => ?_ | refine ac rfl ?_)
  refine aa rfl fun K hK => bs110 (cs := cs) ?_ ?_ ?_ ?_ ?_ ?_ (hK _ _ ?_)
  · simp (disch := omega) only [WW, BB, ↓ab, simprocAttr, fnL]
  · simp (disch := omega) only [WW, BB, ↓ab, simprocAttr, fnL]
  · simp (disch := omega) only [WW, BB, ↓ab, simprocAttr, fnL]
  · simp (disch := omega) only [WW, BB, ↓ab, simprocAttr, fnL]
  · simp (disch := omega) only [WW, BB, ↓ab, simprocAttr, fnL]
  · simp (disch := omega) only [WW, BB, ↓ab, simprocAttr, fnL]
  have hly : ∀ H, lenV Try.prog 110 (.sl 1 ((fltL cs).map fun p => [p.2]) true) = some (vN .i64 6) := fun H => av (P := Try.prog) (H := H) sl110 bg
  repeat (first
    | (refine aa rfl fun K hK => ?_; simp (disch := omega) only [WW, BB, ↓ab, simprocAttr, hly H]; refine hK _ _ ?_; clear hK) | (refine ae ?_; simp only [TH]; (((repeat ((fail_if_success refine hS _ _ ?_); clear hS)); refine hS _ _ ?_); clear hS; try clear hF)) | refine af fun K hS hF => ?_ | refine ac rfl ?_ | refine ax ?_)
  refine aO (fun m t X => ∃ i, m = 6 - i ∧ i ≤ 6 ∧ t 0 = .fn (.yield l) [] [] ∧ t 19 = .sl 1 ((fltL cs).map fun p => [p.2]) true ∧ t 20 = vN .i64 6 ∧ t 21 = vN .i64 i ∧ fltS Y l (fun X => Q (.tup []) X) ((fltL cs).drop i) X) 6
    ⟨0, rfl, by omega, rfl, by simp (disch := omega) only [WW, BB, ↓ab, simprocAttr], by simp (disch := omega) only [WW, BB, ↓ab, simprocAttr], by simp (disch := omega) only [WW, BB, ↓ab, simprocAttr], hR⟩ fun KL m t X hI hKL => ?_
  clear hR
  obtain ⟨i, rfl, hi, q0, q19, q20, q21, hR⟩ := hI
  repeat (first
    | (refine aa rfl fun K hK => ?_; simp (disch := omega) only [WW, BB, ↓ab, simprocAttr, q20, q21]; refine hK _ _ ?_; clear hK) | (refine ae ?_; simp only [TH]; (((repeat ((fail_if_success refine hS _ _ ?_); clear hS)); refine hS _ _ ?_); clear hS; try clear hF)) | refine af fun K hS hF => ?_ | refine ac rfl ?_)
  refine aH rfl (fun hd => ?_) (fun hd => ?_)
  · (refine am ?_; simp only [TH]; ((repeat ((fail_if_success refine hS _ _ ?_); clear hS)); refine hS _ _ ?_); clear hS; try clear hF)
    have hil : i < (fltL cs).length := hd
    obtain ⟨o, ho⟩ : ∃ o, (fltL cs)[i]? = some o := ⟨_, List.getElem?_eq_getElem hil⟩
    have hoe : o.1 = 240 + i := by
      rcases (by omega : i = 0 ∨ i = 1 ∨ i = 2 ∨ i = 3 ∨ i = 4 ∨ i = 5) with rfl | rfl | rfl | rfl | rfl | rfl <;> cases ho <;> rfl
    obtain ⟨p, hp, hq⟩ := ci (P := Try.prog) (H := X) (k := .i64) (i := i) (y := o.2) ar110 sl110 (bg (full := true)) (show ((fltL cs).map fun p => [p.2])[i]? = some [o.2] by rw [List.getElem?_map, ho]; rfl)
    have hdr : (fltL cs).drop i = (o.1, o.2) :: (fltL cs).drop (i + 1) := by
      rw [List.drop_eq_getElem_cons hil, (List.getElem?_eq_some_iff.1 ho).2]
    rw [hdr] at hR
    obtain ⟨Q₁, hY, hQ₁⟩ := hR
    rw [hoe] at hY
    repeat (first
    | (refine aa rfl fun K hK => ?_; simp (disch := omega) only [WW, BB, ↓ab, simprocAttr, q19, q21, hp, hq, ty23, aP, q0]; refine hK _ _ ?_; clear hK) | (refine ae ?_; simp only [TH]; (((repeat ((fail_if_success refine hS _ _ ?_); clear hS)); refine hS _ _ ?_); clear hS; try clear hF)) | refine af fun K hS hF => ?_ | refine ac rfl ?_)
    refine aa rfl fun K hK => ?_
    simp (disch := omega) only [WW, BB, ↓ab, simprocAttr, q0]
    refine ⟨Q₁, hY, fun r X' hq => hK _ _ ?_⟩
    clear hK
    rcases hQ₁ r X' hq with ⟨rfl, hQe⟩ | ⟨rfl, hnext⟩
    · repeat (first
    | (refine aa rfl fun K hK => ?_; simp (disch := omega) only [WW, BB, ↓ab, simprocAttr]; refine hK _ _ ?_; clear hK) | (refine ae ?_; simp only [TH]; (((repeat ((fail_if_success refine hS _ _ ?_); clear hS)); refine hS _ _ ?_); clear hS; try clear hF)))
      refine aS rfl ?_
      repeat (refine al ?_; simp (disch := omega) only [TH, TE, WW, BB, ↓ab, simprocAttr])
      exact ⟨_, rfl, [], _, aj _, hQe⟩
    · repeat (first
    | (refine aa rfl fun K hK => ?_; simp (disch := omega) only [WW, BB, ↓ab, simprocAttr]; refine hK _ _ ?_; clear hK) | (refine ae ?_; simp only [TH]; (((repeat ((fail_if_success refine hS _ _ ?_); clear hS)); refine hS _ _ ?_); clear hS; try clear hF)))
      refine aE rfl ?_
      repeat (first
    | (refine aa rfl fun K hK => ?_; simp (disch := omega) only [WW, BB, ↓ab, simprocAttr, q21, aP]; refine hK _ _ ?_; clear hK) | ((first | refine ae ?_ | refine am ?_); simp only [TH]; first | (((repeat ((fail_if_success refine hS _ _ ?_); clear hS)); refine hS _ _ ?_); clear hS; try clear hF) | skip) | refine ac rfl ?_)
      refine hKL (6 - (i + 1)) _ _ (by omega) ⟨i + 1, rfl, by omega, ?_, ?_, ?_, ?_, hnext⟩
      · simp (disch := omega) only [WW, BB, ↓ab, simprocAttr, q0]
      · simp (disch := omega) only [WW, BB, ↓ab, simprocAttr, q19]
      · simp (disch := omega) only [WW, BB, ↓ab, simprocAttr, q20]
      · simp (disch := omega) only [WW, BB, ↓ab, simprocAttr]
  · refine aG ?_
    simp only [TH, TE, ↓reduceIte]
    have : i = 6 := by omega
    subst this
    exact ⟨[], rfl, [], _, aj _, hR⟩
end Go.Av

set_option linter.unusedSimpArgs false
set_option linter.unusedVariables false
namespace Go.Av
open Go.RowKit Go.Proofs

def formB (l : List TTx) : Bool := (ptsOf l).contains (h0, 4294967295)
/-- What is looked at: the error, the function, what it answers. -/
def fl (rt : List Nat) (l : List TTx) : List (Nat × Nat × Bool) := [(240, 61, sizeB l), (241, 62, cbB l), (242, 63, rootB rt l), (243, 64, formB l), (244, 65, l.any valB), (245, 66, againB l)]
def firstF : List (Nat × Nat × Bool) → Option Nat
  | [] => none
  | f :: r => if f.2.2 then some f.1 else firstF r
def bY (rt : List Nat) (l : List TTx) : Nat := (firstF (fl rt l)).getD 0

abbrev SF : Nat → Spec := tab [(47, s47), (60, s60), (61, s61), (62, s62), (63, s63), (64, s64), (65, s65), (66, s66)]
theorem sndF : TSound Try.prog SF := ap _ (by simp [snd47, snd60, snd61, snd62, snd63, snd64, snd65, snd66])

theorem callF {Y : aC} {h : Hdr} {v : V} {l : List TTx} {H : Hp} {Q : V → Hp → Prop} (ho : okHd h) (hx : isTxs H v l) (hl : okTs l) : ∀ f ∈ fl h.root l, Q (.bool f.2.2) H → SF f.2.1 Y [.agg (hdC h ++ [v])] H Q := by
  have hb : isBlk H (hdC h ++ [v]) (hdC h) l := ⟨v, rfl, aX ho, hx⟩
  intro f hf hq
  simp only [fl, List.mem_cons, List.not_mem_nil, or_false] at hf
  rcases hf with rfl | rfl | rfl | rfl | rfl | rfl
  · exact ⟨h, v, l, rfl, ho, hx, hl, hq⟩
  · exact ⟨_, _, l, rfl, hb, hl, hq⟩
  · exact ⟨h, v, l, rfl, ho, hx, hl, hq⟩
  · exact ⟨_, _, l, rfl, hb, hl, hq⟩
  · exact ⟨_, _, l, rfl, hb, hl, hq⟩
  · exact ⟨_, _, l, rfl, hb, hl, hq⟩

def F30 (Y : aC) (t : T) (l : Nat) (ob : LoopState → Option Code → Obj) : Spec0 := fun args H' QY => args.length = 2 ∧ H' l = some (.raw (ob .ready none)) ∧
  wpC Try.prog SF Y [1] 13 (asgOf (aU Try.f30 0)) false (onlyA fun t₁ H₁ => H₁ l = some (.raw (ob .ready none)) ∧
    wpC Try.prog SF Y [1] 13 (rbodyOf (aU Try.f30 0)) false (bL l ob QY) t₁ (upd H₁ l (some (.raw (ob .busy none))))) (putsT 13 t [8, 9] args) H'

theorem flt30 {Y Y' : aC} {t : T} {l r : Nat} {x0 : V} {cs : List V} {ob : LoopState → Option Code → Obj} {G : Hp} {Qe : Hp → Prop} (q2 : t 2 = .ptr r 0) (gr : G r = none) (gl : G l = none) (hrl : r ≠ l) :
    ∀ (fs : List (Nat × Nat × Bool)) (X : Hp), (∀ f ∈ fs, ∀ X Q, hle G X → Q (.bool f.2.2) X → SF f.2.1 Y [.agg cs] X Q) → X r = some (.row [x0]) → X l = some (.raw (ob .ready none)) → hle G X →
      (∀ X', hle G X' → (match firstF fs with
        | some e => X' r = some (.row [vN .i64 e]) ∧ X' l = some (.raw (ob .done (some .ret)))
        | none => X' r = some (.row [x0]) ∧ X' l = some (.raw (ob .ready none))) → Qe X') → fltS (upd Y' l (F30 Y t l ob)) l Qe (fs.map fun f => (f.1, fnL cs f.2.1)) X
  | [], X, _, xr, xl, hG, hQ => hQ X hG ⟨xr, xl⟩
  | f :: fs, X, hfs, xr, xl, hG, hQ => by
    refine ⟨fun b X' => (f.2.2 = true → b = .bool false ∧ X' r = some (.row [vN .i64 f.1]) ∧ X' l = some (.raw (ob .done (some .ret))) ∧ hle G X') ∧
      (f.2.2 = false → b = .bool true ∧ X' r = some (.row [x0]) ∧ X' l = some (.raw (ob .ready none)) ∧ hle G X'), ?_, ?_⟩
    · rw [ag]
      refine ⟨rfl, xl, ?_⟩
      show wpC Try.prog SF Y [1] 13 (.seq (regAt Try.f30 2) (regAt Try.f30 3)) false (onlyA _) (putT 13 (putT 13 t (some 8) (vN .i64 f.1)) (some 9) (fnL cs f.2.1)) X
      refine bZ fun K hS => ?_
      refine ac rfl ?_
      repeat (first
    | (refine aa rfl fun K hK => ?_; simp (disch := omega) only [WW, BB, ↓ab, simprocAttr]; refine hK _ _ ?_; clear hK) | (refine ae ?_; simp only [TH]; (((repeat ((fail_if_success refine hS _ _ ?_); clear hS)); refine hS _ _ ?_); clear hS; try clear hF)) | refine ac rfl ?_)
      refine ae ?_
      simp only [onlyA]
      refine ⟨xl, ?_⟩
      have yr : upd X l (some (.raw (ob .busy none))) r = some (.row [x0]) := by rw [ah _ _ _ hrl]; exact xr
      have yl : upd X l (some (.raw (ob .busy none))) l = some (.raw (ob .busy none)) := ag _ _ _
      have yG : hle G (upd X l (some (.raw (ob .busy none)))) := ai hG gl
      generalize upd X l (some (.raw (ob .busy none))) = X1 at *
      refine ax ?_
      repeat (first
    | (refine aa rfl fun K hK => ?_; simp (disch := omega) only [WW, BB, ↓ab, simprocAttr, fnL]; refine hK _ _ ?_; clear hK) | refine af fun K hS hF => ?_ | refine ac rfl ?_)
      refine aa rfl fun K hK => ?_
      simp only [WW, BB, fnL, ↓ab, ↓reduceIte, Nat.reduceEqDiff]
      refine hfs f (by simp) _ _ yG (hK _ _ ?_)
      refine ae ?_
      simp only [TH]
      refine hS _ _ ?_
      clear hK
      refine wpC_cond rfl (fun h1 => ?_) (fun h1 => ?_)
      · repeat (first
    | (refine aa rfl fun K hK => ?_; simp (disch := omega) only [WW, BB, ↓ab, simprocAttr, q2]; refine hK _ _ ?_; clear hK) | refine af fun K hS hF => ?_ | refine ac rfl ?_)
        refine aq (p := .ptr r 0) (v := vN .i64 f.1) rfl rfl rfl (by simp (disch := omega) only [WW, BB, ↓ab, simprocAttr, q2]) (by simp (disch := omega) only [WW, BB, ↓ab, simprocAttr]) (aT (b := r) (off := 0) yr ty26 rfl rfl (by simp)) ?_
        refine ae ?_
        simp only [TH]
        refine hS _ _ ?_
        refine al ?_
        simp only [TH, bL]
        refine ⟨⟨_, _, by rw [ah _ _ _ (Ne.symm hrl)]; exact yl⟩, fun _ => ⟨trivial, ?_, ag _ _ _, ai (ai yG gr) gl⟩, fun h => by rw [h1] at h; cases h⟩
        rw [ah _ _ _ hrl]
        exact ag _ _ _
      · refine am ?_
        simp only [TH, bL]
        refine ⟨⟨_, _, yl⟩, fun h => (by rw [h1] at h; cases h), fun _ => ⟨trivial, ?_, ag _ _ _, ai yG gl⟩⟩
        rw [ah _ _ _ hrl]
        exact yr
    · rintro b X' ⟨h1, h2⟩
      cases hf : f.2.2 with
      | true =>
        obtain ⟨rfl, y1, y2, y3⟩ := h1 hf
        refine .inl ⟨rfl, hQ X' y3 ?_⟩
        rw [firstF, if_pos hf]
        exact ⟨y1, y2⟩
      | false =>
        obtain ⟨rfl, y1, y2, y3⟩ := h2 hf
        refine .inr ⟨rfl, flt30 q2 gr gl hrl fs X' (fun f hf => hfs f (by simp [hf])) y1 y2 y3 fun X2 z1 z2 => hQ X2 z1 ?_⟩
        rw [firstF, if_neg (by rw [hf]; simp)]
        exact z2
end Go.Av

set_option linter.unusedSimpArgs false
set_option linter.unusedVariables false
namespace Go.Av
open Go.RowKit Go.Proofs

def s30 : Spec := fun _ args H Q => ∃ h v l, args = [.agg (hdC h ++ [v])] ∧ okHd h ∧ isTxs H v l ∧ okTs l ∧ Q (vN .i64 (bY h.root l)) H
theorem snd30 : Sound Try.prog 30 s30 := by
  refine ak pm sndF [1] Try.func30 rfl (by kernel_rfl) ?_
  rintro Y args H Q ⟨h, v, l, rfl, hoh, hx, hl, hQ⟩
  refine ⟨by simp [Try.f30], ?_⟩
  show wpC Try.prog SF Y [1] 13 _ true (aB Try.prog [.cell 2 26] Q) _ H
  have hhl := aX hoh
  repeat (first
    | (refine aa rfl fun K hK => ?_; simp (disch := omega) only [WW, BB, ↓ab, simprocAttr]; refine hK _ _ ?_; clear hK) | refine af fun K hS hF => ?_ | refine ac rfl ?_)
  refine aa rfl fun K hK => ⟨_, z26, fun r hr => hK _ _ ?_⟩
  have hX : ∀ z, hle H (upd H r z) := fun z => ai (aj _) hr
  repeat (first
    | (refine aa rfl fun K hK => ?_; simp (disch := omega) only [WW, BB, ↓ab, simprocAttr, ty49, agg49 hoh, bu98 hhl]; refine hK _ _ ?_; clear hK) | (refine ae ?_; simp only [TH]; (((repeat ((fail_if_success refine hS _ _ ?_); clear hS)); refine hS _ _ ?_); clear hS; try clear hF)) | refine af fun K hS hF => ?_ | refine ac rfl ?_)
  refine aa rfl fun K hK => ⟨_, rfl, hK _ _ ?_⟩
  repeat (first
    | (refine ae ?_; simp only [TH]; (((repeat ((fail_if_success refine hS _ _ ?_); clear hS)); refine hS _ _ ?_); clear hS; try clear hF)) | refine ax ?_)
  refine wpC_range (f := 60) (first := []) (caps := [.cptr (hdC h ++ [v]) 0]) (by simp (disch := omega) only [WW, BB, ↓ab, simprocAttr]) (by kernel_rfl) fun l' ob hl0 => ?_
  have hl1 := aF hl0
  have hrl : r ≠ l' := hl1.1
  have gl : H l' = none := hl1.2
  have rb : ∀ {t : T} {X : Hp} {e : Nat}, t 2 = .ptr r 0 → X r = some (.row [vN .i64 e]) → ressV Try.prog t X [.cell 2 26] = some [vN .i64 e] := fun ht hr => by
    simp only [ressV, resV, ht, aw (off := 0) hr ty26 rfl, Option.bind_some, Option.map_some]
  refine ⟨l', hdC h ++ [v], rfl, by simp [hhl], ?_⟩
  refine flt30 (Y := Y) (r := r) (x0 := vN .i64 0) (G := H) ?_ hr gl hrl (fl h.root l) _ (fun f hf X Q hXX hq => callF hoh (bX hXX hx) hl f hf hq) (by rw [ah _ _ _ hrl]; exact ag _ _ _) (ag _ _ _) (ai (hX _) gl) fun X' z1 z2 => ?_
  · simp (disch := omega) only [WW, BB, ↓ab, simprocAttr]
  cases hf : firstF (fl h.root l) with
  | some e =>
    rw [hf] at z2
    refine ⟨_, _, z2.2, by simp, ?_⟩
    simp only [endA, TH, TE]
    have hj : bY h.root l = e := by rw [bY, hf]; rfl
    rw [hj] at hQ
    refine ⟨_, rb (e := e) ?_ ?_, [], H, ai z1 gl, hQ⟩
    · simp (disch := omega) only [WW, BB, ↓ab, simprocAttr]
    · rw [ah _ _ _ hrl]; exact z2.1
  | none =>
    rw [hf] at z2
    refine ⟨_, _, z2.2, by simp, ?_⟩
    simp only [endA, TH]
    have hj : bY h.root l = 0 := by rw [bY, hf]; rfl
    rw [hj] at hQ
    have yr : upd X' l' none r = some (.row [vN .i64 0]) := by rw [ah _ _ _ hrl]; exact z2.1
    refine hS _ _ ?_
    clear hS hF
    refine af fun K hS hF => ?_
    refine ac rfl ?_
    refine aq (p := .ptr r 0) (v := vN .i64 0) rfl rfl rfl (by simp (disch := omega) only [WW, BB, ↓ab, simprocAttr]) (by simp (disch := omega) only [WW, BB, ↓ab, simprocAttr]) (aT (b := r) (off := 0) yr ty26 rfl rfl (by simp)) ?_
    refine ae ?_
    (simp only [TH, ↓reduceIte, Nat.reduceEqDiff]; ((repeat ((fail_if_success refine hS _ _ ?_); clear hS)); refine hS _ _ ?_); clear hS; try clear hF)
    refine al ?_
    simp only [TE]
    refine ⟨_, rb (e := 0) ?_ (ag _ _ _), [], H, ai (ai z1 gl) hr, hQ⟩
    simp (disch := omega) only [WW, BB, ↓ab, simprocAttr]
end Go.Av

set_option linter.unusedSimpArgs false
set_option linter.unusedVariables false
namespace Go.Av
open Go.RowKit Go.Proofs

theorem store_aggQ {P : Program} {H : Hp} {t b off n : Nat} {cells xs : List V} (hb : H b = some (.row cells)) (ht : tyT P t = some (true, n)) (hx : xs.length = n) (ho : xs.all one = true) (hc : off + n ≤ cells.length) :
    storeV P H t (.ptr b off) (.agg xs) = some (upd H b (some (.row (br cells off xs)))) := by
  simp only [storeV, ht, aW, hb]
  rw [if_pos ⟨hx, ho⟩, if_pos (by omega)]
def rtH (r : List Nat) : Hdr := ⟨0, h0, r, 0, 0, 0⟩
theorem rtH_ok {r : List Nat} (h : okH r) : okHd (rtH r) := ⟨h0_ok, h, by simp [rtH], by simp [rtH], by simp [rtH], by simp [rtH]⟩
theorem z49 : zeroT Try.prog 49 = some (hdC (rtH h0) ++ [.nils]) := by kernel_rfl
theorem pl49 : placeT Try.prog 49 1 = some (68, 1) := by kernel_rfl
theorem bo49 : buildOk Try.prog 49 = true := by kernel_rfl
theorem bu49 {v : V} (h : aW v = some [v]) : bH Try.prog 49 [(1, v)] = some (.agg (hdC (rtH h0) ++ [v])) := by
  simp only [bH, bo49, if_true, z49, Option.bind_some, fillV, pl49, h]
  rw [if_pos ⟨rfl, by have := aX (rtH_ok h0_ok); simp [this]⟩]
  rfl
theorem bu49z : bH Try.prog 49 [] = some (.agg (hdC (rtH h0) ++ [.nils])) := by kernel_rfl
theorem spl_root {h : Hdr} {v : V} {r : List Nat} (ho : okHd h) (hr : r.length = 32) : br (hdC h ++ [v]) 33 (nR .u8 r) = hdC { h with root := r } ++ [v] := by
  have hl := aX ho
  have e1 : hdC h = (vN .u32 h.ver :: nR .u8 h.prev) ++ (nR .u8 h.root ++ [vN .u32 h.time, vN .u32 h.bits, vN .u32 h.nonce]) := by simp [hdC]
  have l1 : (vN .u32 h.ver :: nR .u8 h.prev).length = 33 := by simp [ar, ho.1.1]
  have l2 : (nR .u8 h.root).length = 32 := by rw [ar, ho.2.1.1]
  simp only [br, ar, hr]
  have t1 : (hdC h ++ [v]).take 33 = vN .u32 h.ver :: nR .u8 h.prev := by
    rw [e1, List.append_assoc, List.take_append_of_le_length (by omega), List.take_of_length_le (by omega)]
  have t2 : (hdC h ++ [v]).drop (33 + 32) = [vN .u32 h.time, vN .u32 h.bits, vN .u32 h.nonce, v] := by
    rw [e1, List.append_assoc, List.drop_append, List.drop_of_length_le (by omega), List.nil_append, l1, List.append_assoc, List.drop_append, List.drop_of_length_le (by omega), List.nil_append, l2]
    rfl
  rw [t1, t2]
  simp [hdC]
theorem hdC_ones (h : Hdr) : (hdC h).all one = true := by
  simp only [hdC, List.all_cons, List.all_append, bk]
  rfl

def aM (l : List TTx) : List Nat := (rootR (idsL l)).1
def s29 : Spec := fun _ args H Q => ∃ v l, args = [v] ∧ isTxs H v l ∧ okTs l ∧ Q (.agg (hdC (rtH (aM l)) ++ [v])) H
theorem snd29 : Sound Try.prog 29 s29 := by
  refine ak pm (ap [(13, s13), (46, s46)] (by simp [snd13, snd46])) [] Try.func29 rfl (by kernel_rfl) ?_
  rintro Y args H Q ⟨v, l, rfl, hx, hl, hQ⟩
  refine ⟨by simp [Try.f29], ?_⟩
  show wpC Try.prog (tab [(13, s13), (46, s46)]) Y [] 21 _ true (aB Try.prog [.cell 2 49] Q) _ H
  have hx' := hx
  obtain ⟨es, hv, hnv, hes⟩ := hx'
  have h1 := bd hv
  have hidl := idsL_len l
  have hidH := idsL_H l
  have hroot := rootR_ok hidH
  have hl1 := hl.1
  have hz := rtH_ok h0_ok
  have hzl := aX hz
  have hall : (hdC (rtH h0) ++ [v]).all one = true := by rw [List.all_append, hdC_ones]; simp only [List.all_cons, h1.1]; rfl
  repeat (first
    | refine af fun K hS hF => ?_ | refine ac rfl ?_)
  refine aa rfl fun K hK => ⟨_, z49, fun r hr => hK _ _ ?_⟩
  repeat (first
    | (refine aa rfl fun K hK => ?_; simp (disch := omega) only [WW, BB, ↓ab, simprocAttr, bu49 h1.2]; refine hK _ _ ?_; clear hK) | (refine ae ?_; simp only [TH]; (((repeat ((fail_if_success refine hS _ _ ?_); clear hS)); refine hS _ _ ?_); clear hS; try clear hF)) | refine af fun K hS hF => ?_ | refine ac rfl ?_)
  refine aa rfl fun K hK => ⟨_, z49, fun b hb => hK _ _ ?_⟩
  have hb' := aF hb
  refine aq (p := .ptr b 0) (v := .agg (hdC (rtH h0) ++ [v])) rfl rfl rfl (by simp (disch := omega) only [WW, BB, ↓ab, simprocAttr]) (by simp (disch := omega) only [WW, BB, ↓ab, simprocAttr]) (au (b := b) (ag _ _ _) ty49 (by simp [hzl]) hall (by simp [hzl])) ?_
  rw [aD]
  have hX : ∀ z, hle H (upd (upd H r (some (.row (hdC (rtH h0) ++ [.nils])))) b z) := fun z => ai (ai (aj _) hr) hb'.2
  have xr : ∀ z, upd (upd H r (some (.row (hdC (rtH h0) ++ [.nils])))) b z r = some (.row (hdC (rtH h0) ++ [.nils])) := fun z => by rw [ah _ _ _ hb'.1, ag]
  repeat (first
    | (refine aa rfl fun K hK => ?_; simp (disch := omega) only [WW, BB, ↓ab, simprocAttr, aJ (P := Try.prog) (t := 49) (b := b) (ag (upd H r (some (.row (hdC (rtH h0) ++ [.nils])))) b (some (.row (hdC (rtH h0) ++ [v])))) ty49 (by simp [hzl])]; refine hK _ _ ?_; clear hK) | (refine ae ?_; simp only [TH]; (((repeat ((fail_if_success refine hS _ _ ?_); clear hS)); refine hS _ _ ?_); clear hS; try clear hF)) | refine af fun K hS hF => ?_ | refine ac rfl ?_)
  refine aa rfl fun K hK => ?_
  have hcall : ∀ (X : Hp) (Q' : V → Hp → Prop), hle H X → (∀ w k, isHs w (idsL l) → Q' (.tup [w, vN .i64 k]) X) → s46 Y [.agg (hdC (rtH h0) ++ [v])] X Q' := fun X Q' hHX hq => by
    refine ⟨_, hdC (rtH h0), l, rfl, ⟨v, rfl, hzl, bX hHX hx⟩, hl, fun hc => hq _ _ ?_, fun hc w hw => hq _ _ ?_⟩
    · rw [idsL, if_pos hc]; exact .inl ⟨rfl, rfl⟩
    · rw [idsL, if_neg (by rw [hc]; simp)]; exact hw
  simp (disch := omega) only [WW, BB, ↓ab, simprocAttr]
  refine hcall _ _ (hX _) fun w k hw => hK _ _ ?_
  clear hK hcall
  repeat (first
    | (refine aa rfl fun K hK => ?_; simp (disch := omega) only [WW, BB, ↓ab, simprocAttr]; refine hK _ _ ?_; clear hK) | (refine ae ?_; simp only [TH]; (((repeat ((fail_if_success refine hS _ _ ?_); clear hS)); refine hS _ _ ?_); clear hS; try clear hF)) | refine af fun K hS hF => ?_ | refine ac rfl ?_)
  refine aa rfl fun K hK => ⟨w, idsL l, rfl, isHs_view hw _, isHs_notR hw, allH_32 hidH, by omega, hK _ _ ?_⟩
  repeat (refine aa rfl fun K hK => ?_; simp (disch := omega) only [WW, BB, ↓ab, simprocAttr, fl49_0, fl46_2]; refine hK _ _ ?_; clear hK)
  refine aq (p := .ptr b 33) (v := .agg (nR .u8 (rootR (idsL l)).1)) rfl rfl rfl (by simp (disch := omega) only [WW, BB, ↓ab, simprocAttr]) (by simp (disch := omega) only [WW, BB, ↓ab, simprocAttr]) (store_aggQ (b := b) (off := 33) (ag _ _ _) bb (by rw [ar, hroot.1]) (bk _ _) (by simp [hzl])) ?_
  rw [aD, spl_root hz hroot.1]
  have hho : okHd (rtH (aM l)) := rtH_ok hroot
  have hhl := aX hho
  have e0 : hdC { rtH h0 with root := (rootR (idsL l)).1 } = hdC (rtH (aM l)) := rfl
  rw [e0]
  repeat (first
    | (refine aa rfl fun K hK => ?_; simp (disch := omega) only [WW, BB, ↓ab, simprocAttr, aJ (P := Try.prog) (t := 49) (b := b) (ag (upd H r (some (.row (hdC (rtH h0) ++ [.nils])))) b (some (.row (hdC (rtH (aM l)) ++ [v])))) ty49 (by simp [hhl])]; refine hK _ _ ?_; clear hK) | (refine ae ?_; simp only [TH]; (((repeat ((fail_if_success refine hS _ _ ?_); clear hS)); refine hS _ _ ?_); clear hS; try clear hF)) | refine af fun K hS hF => ?_ | refine ac rfl ?_)
  have hall2 : (hdC (rtH (aM l)) ++ [v]).all one = true := by rw [List.all_append, hdC_ones]; simp only [List.all_cons, h1.1]; rfl
  refine aq (p := .ptr r 0) (v := .agg (hdC (rtH (aM l)) ++ [v])) rfl rfl rfl (by simp (disch := omega) only [WW, BB, ↓ab, simprocAttr]) (by simp (disch := omega) only [WW, BB, ↓ab, simprocAttr]) (au (b := r) (xr _) ty49 (by simp [hhl]) hall2 (by simp [hzl])) ?_
  repeat (first
    | (refine ae ?_; simp only [TH]; (((repeat ((fail_if_success refine hS _ _ ?_); clear hS)); refine hS _ _ ?_); clear hS; try clear hF)) | (refine al ?_; simp (disch := omega) only [TH, TE, WW, BB, ↓ab, simprocAttr, aJ (P := Try.prog) (t := 49) (b := r) (ag (upd (upd H r (some (.row (hdC (rtH h0) ++ [.nils])))) b (some (.row (hdC (rtH (aM l)) ++ [v])))) r (some (.row (hdC (rtH (aM l)) ++ [v])))) ty49 (by simp [hhl])]))
  exact ⟨_, rfl, [], H, ai (hX _) hr, hQ⟩

def baseT (bs : List Nat) : TTx := ⟨0, [⟨h0, 4294967295, bs, 0⟩], [⟨50, []⟩], 0⟩
theorem zs53 : zeroEs Try.prog 53 1 = some (35, [pC h0 0 ++ [.nils, vN .u32 0]]) := by kernel_rfl
theorem zs54 : zeroEs Try.prog 54 1 = some (2, [[vN .i64 0, .nils]]) := by kernel_rfl
theorem bu68 {es : List (List V)} {f : Bool} : bH Try.prog 68 [(0, .agg (pC h0 4294967295)), (1, .sl 1 es f)] = some (.agg (pC h0 4294967295 ++ [.sl 1 es f, vN .u32 0])) := by kernel_rfl
theorem bu70 : bH Try.prog 70 [(0, vN .i64 50)] = some (.agg [vN .i64 50, .nils]) := by kernel_rfl
theorem bu56 {a b : List (List V)} : bH Try.prog 56 [(1, .sl 35 a true), (2, .sl 2 b true)] = some (.agg [vN .u32 0, .sl 35 a true, .sl 2 b true, vN .u32 0]) := by kernel_rfl
theorem st9 : isStrT Try.prog 9 = true := by kernel_rfl
theorem by64t : isBytesT Try.prog 64 = true := by kernel_rfl

def s31 : Spec := fun _ args H Q => ∃ s bs, args = [.str s] ∧ byteEs s = nE .u8 bs ∧ bs.length ≤ 2100 ∧ ∀ cs, isTx H cs (baseT bs) → Q (.agg cs) H
theorem snd31 : Sound Try.prog 31 s31 := by
  refine ak pm (ap [] (by simp)) [] Try.func31 rfl (by kernel_rfl) ?_
  rintro Y args H Q ⟨s, bs, rfl, hs, hl, hQ⟩
  refine ⟨by simp [Try.f31], ?_⟩
  show wpC Try.prog (tab []) Y [] 11 _ true (aB Try.prog [.cell 2 56] Q) _ H
  repeat (first
    | refine af fun K hS hF => ?_ | refine ac rfl ?_)
  refine aa rfl fun K hK => ⟨_, z56, fun r hr => hK _ _ ?_⟩
  repeat (first
    | (refine aa rfl fun K hK => ?_; simp (disch := omega) only [WW, BB, ↓ab, simprocAttr, bu66]; refine hK _ _ ?_; clear hK) | (refine ae ?_; simp only [TH]; (((repeat ((fail_if_success refine hS _ _ ?_); clear hS)); refine hS _ _ ?_); clear hS; try clear hF)) | refine af fun K hS hF => ?_ | refine ac rfl ?_)
  refine aa rfl fun K hK => ⟨st9, by64t, hK _ _ ?_⟩
  rw [hs]
  repeat (refine aa rfl fun K hK => ?_; simp (disch := omega) only [WW, BB, ↓ab, simprocAttr, bu68]; refine hK _ _ ?_; clear hK)
  refine aa rfl fun K hK => bsA1 (xs := pC h0 4294967295 ++ [.sl 1 (nE .u8 bs) false, vN .u32 0]) zs53 (by simp (disch := omega) only [WW, BB, ↓ab, simprocAttr]) (by rw [List.length_append, bP h0_ok.1]; rfl) (by omega) (hK _ _ ?_)
  repeat (refine aa rfl fun K hK => ?_; simp (disch := omega) only [WW, BB, ↓ab, simprocAttr, bu70]; refine hK _ _ ?_; clear hK)
  refine aa rfl fun K hK => bsA1 (xs := [vN .i64 50, .nils]) zs54 (by simp (disch := omega) only [WW, BB, ↓ab, simprocAttr]) rfl (by omega) (hK _ _ ?_)
  repeat (refine aa rfl fun K hK => ?_; simp (disch := omega) only [WW, BB, ↓ab, simprocAttr, bu56]; refine hK _ _ ?_; clear hK)
  refine aq (p := .ptr r 0) (v := .agg [vN .u32 0, .sl 35 [pC h0 4294967295 ++ [.sl 1 (nE .u8 bs) false, vN .u32 0]] true, .sl 2 [[vN .i64 50, .nils]] true, vN .u32 0]) rfl rfl rfl (by simp (disch := omega) only [WW, BB, ↓ab, simprocAttr]) (by simp (disch := omega) only [WW, BB, ↓ab, simprocAttr]) (au (b := r) (ag _ _ _) ty56 rfl rfl rfl) ?_
  rw [aD]
  repeat (first
    | (refine ae ?_; simp only [TH]; (((repeat ((fail_if_success refine hS _ _ ?_); clear hS)); refine hS _ _ ?_); clear hS; try clear hF)) | (refine al ?_; simp (disch := omega) only [TH, TE, WW, BB, ↓ab, simprocAttr, aJ (P := Try.prog) (t := 56) (b := r) (ag H r (some (.row [vN .u32 0, .sl 35 [pC h0 4294967295 ++ [.sl 1 (nE .u8 bs) false, vN .u32 0]] true, .sl 2 [[vN .i64 50, .nils]] true, vN .u32 0]))) ty56 rfl]))
  refine ⟨_, rfl, [], H, ai (aj _) hr, hQ _ ?_⟩
  refine ⟨_, _, _, _, rfl, bg, rfl, ⟨rfl, fun i a b ha hb => ?_⟩, bg, rfl, ⟨rfl, fun i a b ha hb => ?_⟩, by simp [baseT], by simp [baseT]⟩
  · cases i with
    | zero =>
      cases ha; cases hb
      exact ⟨_, rfl, bg, rfl, h0_ok, by simp only; omega, by simp only; omega, by simp only; omega⟩
    | succ i => simp [baseT] at hb
  · cases i with
    | zero =>
      cases ha; cases hb
      exact ⟨_, rfl, rfl, rfl, by decide, by simp⟩
    | succ i => simp [baseT] at hb
end Go.Av

set_option linter.unusedSimpArgs false
set_option linter.unusedVariables false
namespace Go.Av
open Go.RowKit Go.Proofs

def longT (s : List Nat) : Bool := decide (2100 < s.length)
def greatT (x : TTx) : Bool := decide (60 < x.ins.length) || decide (60 < x.outs.length) || x.ins.any (fun i => longT i.script) || x.outs.any (fun o => longT o.script)
def okN (x : TTx) : Prop := 0 ≤ x.ins.length ∧ 0 ≤ x.outs.length
theorem okT_of {x : TTx} (h : greatT x = false) : okT x := by
  simp only [greatT, Bool.or_eq_false_iff, decide_eq_false_iff_not, List.any_eq_false, longT, decide_eq_true_eq] at h
  exact ⟨by omega, by omega, fun i hi => by have := h.1.2 i hi; omega, fun o ho => by have := h.2 o ho; omega⟩

section
variable {Y : aC} {Q : Exit → T → Hp → Prop} {t : T} {H : Hp} {x : TTx} {vi vo : V} {ei eo : List (List V)}

theorem l44a (q1 : t 1 = .cptr [vN .u32 x.ver, vi, vo, vN .u32 x.lock] 0) (q3 : t 3 = vN .i64 0) (hvi : ao H 35 vi = some ei) (hei : Each (isIn H) ei x.ins) (hl : x.ins.length ≤ 60)
    (hQ1 : x.ins.any (fun i => longT i.script) = true → ∀ t', t' 2 = vN .i64 1 → Q .ret t' H) (hQ2 : x.ins.any (fun i => longT i.script) = false → ∀ t', t' 1 = .cptr [vN .u32 x.ver, vi, vo, vN .u32 x.lock] 0 → Q (.exit 0) t' H) :
    wpC Try.prog (tab []) Y [1] 45 (aU Try.f44 0) true Q t H := by
  have hly := av (P := Try.prog) sl53 hvi
  rw [hei.1] at hly
  refine aO (fun m t X => ∃ i, m = x.ins.length - i ∧ i ≤ x.ins.length ∧ X = H ∧ t 1 = .cptr [vN .u32 x.ver, vi, vo, vN .u32 x.lock] 0 ∧ t 3 = vN .i64 i ∧ (x.ins.take i).any (fun i => longT i.script) = false) x.ins.length
    ⟨0, rfl, by omega, rfl, q1, q3, rfl⟩ fun KL m t X hI hKL => ?_
  clear q1 q3
  obtain ⟨i, rfl, hi, rfl, q1, q3, hno⟩ := hI
  repeat (first
    | (refine aa rfl fun K hK => ?_; simp (disch := omega) only [WW, BB, ↓ab, simprocAttr, q1, q3, bA, ty53, hly]; refine hK _ _ ?_; clear hK) | (refine ae ?_; simp only [TH]; (((repeat ((fail_if_success refine hS _ _ ?_); clear hS)); refine hS _ _ ?_); clear hS; try clear hF)) | refine af fun K hS hF => ?_ | refine ac rfl ?_)
  refine aH rfl (fun hd => ?_) (fun hd => ?_)
  · (refine am ?_; simp only [TH]; ((repeat ((fail_if_success refine hS _ _ ?_); clear hS)); refine hS _ _ ?_); clear hS; try clear hF)
    obtain ⟨o, ho⟩ : ∃ o, x.ins[i]? = some o := ⟨_, List.getElem?_eq_getElem hd⟩
    obtain ⟨e, he, hio⟩ := hei.get ho
    have hlen := isIn_len hio
    obtain ⟨s, hes, hvs, hns, hok1, hn, hsq, hsl⟩ := hio
    obtain ⟨p, q, hp, hq, hl2⟩ := elem_field1 (P := Try.prog) (k := .i64) ar53 sl53 hvi he hlen 33 (y := s) (by
      rw [hes, List.getElem?_append_right (by rw [ar, hok1.1]; omega), ar, hok1.1]; rfl)
    have hls := av (P := Try.prog) sl64 hvs
    rw [az] at hls
    have htk : x.ins.take (i + 1) = x.ins.take i ++ [o] := by
      rw [List.take_succ_eq_append_getElem hd, ← (List.getElem?_eq_some_iff.1 ho).2]
    repeat (first
    | (refine aa rfl fun K hK => ?_; simp (disch := omega) only [WW, BB, ↓ab, simprocAttr, q1, q3, bA, ty53, hp, fl68_1, hq, ty64, hl2, hls]; refine hK _ _ ?_; clear hK) | (refine ae ?_; simp only [TH]; (((repeat ((fail_if_success refine hS _ _ ?_); clear hS)); refine hS _ _ ?_); clear hS; try clear hF)) | refine af fun K hS hF => ?_ | refine ac rfl ?_)
    refine aH (p := 2100 < o.script.length) (by simp (disch := omega) only [WW, BB, ↓ab, simprocAttr]) (fun h1 => ?_) (fun h1 => ?_)
    · repeat (first
    | (refine aa rfl fun K hK => ?_; simp (disch := omega) only [WW, BB, ↓ab, simprocAttr]; refine hK _ _ ?_; clear hK) | (refine ae ?_; simp only [TH]; (((repeat ((fail_if_success refine hS _ _ ?_); clear hS)); refine hS _ _ ?_); clear hS; try clear hF)) | refine af fun K hS hF => ?_ | refine ac rfl ?_ | (refine al ?_; simp (disch := omega) only [TH, TE, WW, BB, ↓ab, simprocAttr]))
      refine hQ1 (List.any_eq_true.2 ⟨o, List.mem_of_getElem? ho, decide_eq_true h1⟩) _ ?_
      simp (disch := omega) only [WW, BB, ↓ab, simprocAttr]
    · repeat (first
    | (refine aa rfl fun K hK => ?_; simp (disch := omega) only [WW, BB, ↓ab, simprocAttr, q3, aP]; refine hK _ _ ?_; clear hK) | ((first | refine ae ?_ | refine am ?_); simp only [TH]; first | (((repeat ((fail_if_success refine hS _ _ ?_); clear hS)); refine hS _ _ ?_); clear hS; try clear hF) | skip) | refine ac rfl ?_)
      refine hKL (x.ins.length - (i + 1)) _ _ (by omega) ⟨i + 1, rfl, by omega, rfl, ?_, ?_, ?_⟩
      · simp (disch := omega) only [WW, BB, ↓ab, simprocAttr, q1]
      · simp (disch := omega) only [WW, BB, ↓ab, simprocAttr]
      · rw [htk, List.any_append, hno]
        simpa [longT] using h1
  · refine aG ?_
    simp only [TH]
    have : i = x.ins.length := by omega
    subst this
    rw [List.take_of_length_le (Nat.le_refl _)] at hno
    exact hQ2 hno _ q1

theorem l44b (q1 : t 1 = .cptr [vN .u32 x.ver, vi, vo, vN .u32 x.lock] 0) (q4 : t 4 = vN .i64 0) (hvo : ao H 2 vo = some eo) (heo : Each (isOut H) eo x.outs) (hl : x.outs.length ≤ 60)
    (hQ1 : x.outs.any (fun i => longT i.script) = true → ∀ t', t' 2 = vN .i64 1 → Q .ret t' H) (hQ2 : x.outs.any (fun i => longT i.script) = false → ∀ t', Q (.exit 2) t' H) :
    wpC Try.prog (tab []) Y [1] 45 (aU Try.f44 1) true Q t H := by
  have hly := av (P := Try.prog) sl54 hvo
  rw [heo.1] at hly
  refine aO (fun m t X => ∃ i, m = x.outs.length - i ∧ i ≤ x.outs.length ∧ X = H ∧ t 1 = .cptr [vN .u32 x.ver, vi, vo, vN .u32 x.lock] 0 ∧ t 4 = vN .i64 i ∧ (x.outs.take i).any (fun i => longT i.script) = false) x.outs.length
    ⟨0, rfl, by omega, rfl, q1, q4, rfl⟩ fun KL m t X hI hKL => ?_
  clear q1 q4
  obtain ⟨i, rfl, hi, rfl, q1, q4, hno⟩ := hI
  repeat (first
    | (refine aa rfl fun K hK => ?_; simp (disch := omega) only [WW, BB, ↓ab, simprocAttr, q1, q4, fl56_2, ty54, hly]; refine hK _ _ ?_; clear hK) | (refine ae ?_; simp only [TH]; (((repeat ((fail_if_success refine hS _ _ ?_); clear hS)); refine hS _ _ ?_); clear hS; try clear hF)) | refine af fun K hS hF => ?_ | refine ac rfl ?_)
  refine aH rfl (fun hd => ?_) (fun hd => ?_)
  · (refine am ?_; simp only [TH]; ((repeat ((fail_if_success refine hS _ _ ?_); clear hS)); refine hS _ _ ?_); clear hS; try clear hF)
    obtain ⟨o, ho⟩ : ∃ o, x.outs[i]? = some o := ⟨_, List.getElem?_eq_getElem hd⟩
    obtain ⟨e, he, hio⟩ := heo.get ho
    have hlen := isOut_len hio
    obtain ⟨s, hes, hvs, hns, hz, hsl⟩ := hio
    obtain ⟨p, q, hp, hq, hl2⟩ := elem_field1 (P := Try.prog) (k := .i64) ar54 sl54 hvo he hlen 1 (y := s) (by rw [hes]; rfl)
    have hls := av (P := Try.prog) sl64 hvs
    rw [az] at hls
    have htk : x.outs.take (i + 1) = x.outs.take i ++ [o] := by
      rw [List.take_succ_eq_append_getElem hd, ← (List.getElem?_eq_some_iff.1 ho).2]
    repeat (first
    | (refine aa rfl fun K hK => ?_; simp (disch := omega) only [WW, BB, ↓ab, simprocAttr, q1, q4, fl56_2, ty54, hp, fl70_1, hq, ty64, hl2, hls]; refine hK _ _ ?_; clear hK) | (refine ae ?_; simp only [TH]; (((repeat ((fail_if_success refine hS _ _ ?_); clear hS)); refine hS _ _ ?_); clear hS; try clear hF)) | refine af fun K hS hF => ?_ | refine ac rfl ?_)
    refine aH (p := 2100 < o.script.length) (by simp (disch := omega) only [WW, BB, ↓ab, simprocAttr]) (fun h1 => ?_) (fun h1 => ?_)
    · repeat (first
    | (refine aa rfl fun K hK => ?_; simp (disch := omega) only [WW, BB, ↓ab, simprocAttr]; refine hK _ _ ?_; clear hK) | (refine ae ?_; simp only [TH]; (((repeat ((fail_if_success refine hS _ _ ?_); clear hS)); refine hS _ _ ?_); clear hS; try clear hF)) | refine af fun K hS hF => ?_ | refine ac rfl ?_ | (refine al ?_; simp (disch := omega) only [TH, TE, WW, BB, ↓ab, simprocAttr]))
      refine hQ1 (List.any_eq_true.2 ⟨o, List.mem_of_getElem? ho, decide_eq_true h1⟩) _ ?_
      simp (disch := omega) only [WW, BB, ↓ab, simprocAttr]
    · repeat (first
    | (refine aa rfl fun K hK => ?_; simp (disch := omega) only [WW, BB, ↓ab, simprocAttr, q4, aP]; refine hK _ _ ?_; clear hK) | ((first | refine ae ?_ | refine am ?_); simp only [TH]; first | (((repeat ((fail_if_success refine hS _ _ ?_); clear hS)); refine hS _ _ ?_); clear hS; try clear hF) | skip) | refine ac rfl ?_)
      refine hKL (x.outs.length - (i + 1)) _ _ (by omega) ⟨i + 1, rfl, by omega, rfl, ?_, ?_, ?_⟩
      · simp (disch := omega) only [WW, BB, ↓ab, simprocAttr, q1]
      · simp (disch := omega) only [WW, BB, ↓ab, simprocAttr]
      · rw [htk, List.any_append, hno]
        simpa [longT] using h1
  · refine aG ?_
    simp only [TH]
    have : i = x.outs.length := by omega
    subst this
    rw [List.take_of_length_le (Nat.le_refl _)] at hno
    exact hQ2 hno _
end

def s44 : Spec := fun _ args H Q => ∃ cs x, args = [.agg cs] ∧ isTx H cs x ∧ okN x ∧ Q (vN .i64 (if greatT x then 1 else 0)) H
theorem snd44 : Sound Try.prog 44 s44 := by
  refine ak pm (ap [] (by simp)) [1] Try.func44 rfl (by kernel_rfl) ?_
  rintro Y args H Q ⟨cs, x, rfl, ⟨vi, vo, ei, eo, rfl, hvi, hni, hei, hvo, hno, heo, hver, hlock⟩, hN, hQ⟩
  refine ⟨by simp [Try.f44], ?_⟩
  show wpC Try.prog (tab []) Y [1] 45 _ true (aB Try.prog [.tmp 2] Q) _ H
  have hly := av (P := Try.prog) sl53 hvi
  rw [hei.1] at hly
  have hly2 := av (P := Try.prog) sl54 hvo
  rw [heo.1] at hly2
  have n1 := hN.1
  have n2 := hN.2
  rw [greatT] at hQ
  by_cases c1 : 60 < x.ins.length
  · have d1 : decide (60 < x.ins.length) = true := decide_eq_true c1
    rw [d1, Bool.true_or, Bool.true_or, Bool.true_or, if_pos rfl] at hQ
    repeat (first
    | (refine aa rfl fun K hK => ?_; simp (disch := omega) only [WW, BB, ↓ab, simprocAttr, bA, ty53, hly, d1]; refine hK _ _ ?_; clear hK) | refine bl rfl ?_ | (refine ae ?_; simp only [TH]; (((repeat ((fail_if_success refine hS _ _ ?_); clear hS)); refine hS _ _ ?_); clear hS; try clear hF)) | refine af fun K hS hF => ?_ | refine ac rfl ?_)
    refine aS (by simp (disch := omega) only [WW, BB, ↓ab, simprocAttr]) ?_
    repeat (first
    | (refine aa rfl fun K hK => ?_; simp (disch := omega) only [WW, BB, ↓ab, simprocAttr]; refine hK _ _ ?_; clear hK) | (refine ae ?_; simp only [TH]; (((repeat ((fail_if_success refine hS _ _ ?_); clear hS)); refine hS _ _ ?_); clear hS; try clear hF)) | refine af fun K hS hF => ?_ | refine ac rfl ?_ | (refine al ?_; simp (disch := omega) only [TH, TE, WW, BB, ↓ab, simprocAttr]))
    exact ⟨_, rfl, [], _, aj _, hQ⟩
  have d1 : decide (60 < x.ins.length) = false := decide_eq_false c1
  by_cases c2 : 60 < x.outs.length
  · have d2 : decide (60 < x.outs.length) = true := decide_eq_true c2
    rw [d1, d2, Bool.false_or, Bool.true_or, Bool.true_or, if_pos rfl] at hQ
    repeat (first
    | (refine aa rfl fun K hK => ?_; simp (disch := omega) only [WW, BB, ↓ab, simprocAttr, bA, ty53, hly, d1, fl56_2, ty54, hly2, d2]; refine hK _ _ ?_; clear hK) | (refine ae ?_; simp only [TH]; (((repeat ((fail_if_success refine hS _ _ ?_); clear hS)); refine hS _ _ ?_); clear hS; try clear hF)) | refine af fun K hS hF => ?_ | refine ac rfl ?_)
    refine aS (by simp (disch := omega) only [WW, BB, ↓ab, simprocAttr]) ?_
    repeat (first
    | (refine aa rfl fun K hK => ?_; simp (disch := omega) only [WW, BB, ↓ab, simprocAttr]; refine hK _ _ ?_; clear hK) | (refine ae ?_; simp only [TH]; (((repeat ((fail_if_success refine hS _ _ ?_); clear hS)); refine hS _ _ ?_); clear hS; try clear hF)) | refine af fun K hS hF => ?_ | refine ac rfl ?_ | (refine al ?_; simp (disch := omega) only [TH, TE, WW, BB, ↓ab, simprocAttr]))
    exact ⟨_, rfl, [], _, aj _, hQ⟩
  have d2 : decide (60 < x.outs.length) = false := decide_eq_false c2
  rw [d1, d2, Bool.false_or, Bool.false_or] at hQ
  repeat (first
    | (refine aa rfl fun K hK => ?_; simp (disch := omega) only [WW, BB, ↓ab, simprocAttr, bA, ty53, hly, d1, fl56_2, ty54, hly2, d2]; refine hK _ _ ?_; clear hK) | (refine ae ?_; simp only [TH]; (((repeat ((fail_if_success refine hS _ _ ?_); clear hS)); refine hS _ _ ?_); clear hS; try clear hF)) | refine af fun K hS hF => ?_ | refine ac rfl ?_)
  refine aE (by simp (disch := omega) only [WW, BB, ↓ab, simprocAttr]) ?_
  repeat (first
    | (refine aa rfl fun K hK => ?_; simp (disch := omega) only [WW, BB, ↓ab, simprocAttr]; refine hK _ _ ?_; clear hK) | ((first | refine ae ?_ | refine am ?_); simp only [TH]; (((repeat ((fail_if_success refine hS _ _ ?_); clear hS)); refine hS _ _ ?_); clear hS; try clear hF)) | refine af fun K hS hF => ?_ | refine ac rfl ?_ | refine ax ?_)
  refine l44a (x := x) (vi := vi) (vo := vo) ?_ ?_ hvi hei (by omega) (fun h t' q2 => ?_) (fun h t' q1 => ?_)
  · simp (disch := omega) only [WW, BB, ↓ab, simprocAttr]
  · simp (disch := omega) only [WW, BB, ↓ab, simprocAttr]
  · simp only [TH, TE]
    rw [h, Bool.true_or, if_pos rfl] at hQ
    exact ⟨_, rfl, [], _, aj _, by rw [q2]; exact hQ⟩
  rw [h, Bool.false_or] at hQ
  (simp only [TH, ↓reduceIte, Nat.reduceEqDiff]; ((repeat ((fail_if_success refine hS _ _ ?_); clear hS)); refine hS _ _ ?_); clear hS; try clear hF)
  repeat (first
    | (refine aa rfl fun K hK => ?_; simp (disch := omega) only [WW, BB, ↓ab, simprocAttr]; refine hK _ _ ?_; clear hK) | (refine ae ?_; simp only [TH]; (((repeat ((fail_if_success refine hS _ _ ?_); clear hS)); refine hS _ _ ?_); clear hS; try clear hF)) | refine af fun K hS hF => ?_ | refine ac rfl ?_ | refine ax ?_)
  refine l44b (x := x) (vi := vi) (vo := vo) ?_ ?_ hvo heo (by omega) (fun h t' q2 => ?_) (fun h t' => ?_)
  · simp (disch := omega) only [WW, BB, ↓ab, simprocAttr, q1]
  · simp (disch := omega) only [WW, BB, ↓ab, simprocAttr]
  · simp only [TH, TE]
    rw [h, if_pos rfl] at hQ
    exact ⟨_, rfl, [], _, aj _, by rw [q2]; exact hQ⟩
  rw [h, if_neg (by simp)] at hQ
  (simp only [TH, ↓reduceIte, Nat.reduceEqDiff]; ((repeat ((fail_if_success refine hS _ _ ?_); clear hS)); refine hS _ _ ?_); clear hS; try clear hF)
  repeat (first
    | (refine aa rfl fun K hK => ?_; simp (disch := omega) only [WW, BB, ↓ab, simprocAttr]; refine hK _ _ ?_; clear hK) | (refine ae ?_; simp only [TH]; (((repeat ((fail_if_success refine hS _ _ ?_); clear hS)); refine hS _ _ ?_); clear hS; try clear hF)) | refine af fun K hS hF => ?_ | refine ac rfl ?_ | (refine al ?_; simp (disch := omega) only [TH, TE, WW, BB, ↓ab, simprocAttr]))
  exact ⟨_, rfl, [], _, aj _, hQ⟩

def greatB (l : List TTx) : Bool := decide (30 < l.length) || l.any greatT
def s27 : Spec := fun _ args H Q => ∃ cs hd l, args = [.agg cs] ∧ isBlk H cs hd l ∧ 0 ≤ l.length ∧ (∀ x ∈ l, okN x) ∧ Q (vN .i64 (if greatB l then 1 else 0)) H
theorem snd27 : Sound Try.prog 27 s27 := by
  refine ak pm (ap [(44, s44)] (by simp [snd44])) [1] Try.func27 rfl (by kernel_rfl) ?_
  rintro Y args H Q ⟨cs, hd, l, rfl, ⟨v, rfl, hhd, es, hv, hnv, hes⟩, hl, hN, hQ⟩
  refine ⟨by simp [Try.f27], ?_⟩
  show wpC Try.prog (tab [(44, s44)]) Y [1] 22 _ true (aB Try.prog [.tmp 2] Q) _ H
  have hly := av (P := Try.prog) sl47 hv
  rw [hes.1] at hly
  rw [greatB] at hQ
  by_cases c1 : 30 < l.length
  · have d1 : decide (30 < l.length) = true := decide_eq_true c1
    rw [d1, Bool.true_or, if_pos rfl] at hQ
    repeat (first
    | (refine aa rfl fun K hK => ?_; simp (disch := omega) only [WW, BB, ↓ab, simprocAttr, bu, ty47, bE hhd, hly, d1]; refine hK _ _ ?_; clear hK) | (refine ae ?_; simp only [TH]; (((repeat ((fail_if_success refine hS _ _ ?_); clear hS)); refine hS _ _ ?_); clear hS; try clear hF)) | refine af fun K hS hF => ?_ | refine ac rfl ?_)
    refine aS (by simp (disch := omega) only [WW, BB, ↓ab, simprocAttr]) ?_
    repeat (first
    | (refine aa rfl fun K hK => ?_; simp (disch := omega) only [WW, BB, ↓ab, simprocAttr]; refine hK _ _ ?_; clear hK) | (refine ae ?_; simp only [TH]; (((repeat ((fail_if_success refine hS _ _ ?_); clear hS)); refine hS _ _ ?_); clear hS; try clear hF)) | refine af fun K hS hF => ?_ | refine ac rfl ?_ | (refine al ?_; simp (disch := omega) only [TH, TE, WW, BB, ↓ab, simprocAttr]))
    exact ⟨_, rfl, [], _, aj _, hQ⟩
  have d1 : decide (30 < l.length) = false := decide_eq_false c1
  rw [d1, Bool.false_or] at hQ
  repeat (first
    | (refine aa rfl fun K hK => ?_; simp (disch := omega) only [WW, BB, ↓ab, simprocAttr, bu, ty47, bE hhd, hly, d1]; refine hK _ _ ?_; clear hK) | (refine ae ?_; simp only [TH]; (((repeat ((fail_if_success refine hS _ _ ?_); clear hS)); refine hS _ _ ?_); clear hS; try clear hF)) | refine af fun K hS hF => ?_ | refine ac rfl ?_)
  refine aE (by simp (disch := omega) only [WW, BB, ↓ab, simprocAttr]) ?_
  repeat (first
    | (refine aa rfl fun K hK => ?_; simp (disch := omega) only [WW, BB, ↓ab, simprocAttr]; refine hK _ _ ?_; clear hK) | ((first | refine ae ?_ | refine am ?_); simp only [TH]; (((repeat ((fail_if_success refine hS _ _ ?_); clear hS)); refine hS _ _ ?_); clear hS; try clear hF)) | refine af fun K hS hF => ?_ | refine ac rfl ?_ | refine ax ?_)
  refine aO (fun m t X => ∃ i, m = l.length - i ∧ i ≤ l.length ∧ X = H ∧ t 1 = .cptr (hd ++ [v]) 0 ∧ t 3 = vN .i64 i ∧ (l.take i).any greatT = false) l.length
    ⟨0, rfl, by omega, rfl, by simp (disch := omega) only [WW, BB, ↓ab, simprocAttr], by simp (disch := omega) only [WW, BB, ↓ab, simprocAttr], rfl⟩ fun KL m t X hI hKL => ?_
  obtain ⟨i, rfl, hi, rfl, q1, q3, hno⟩ := hI
  repeat (first
    | (refine aa rfl fun K hK => ?_; simp (disch := omega) only [WW, BB, ↓ab, simprocAttr, q1, q3, bu, ty47, bE hhd, hly]; refine hK _ _ ?_; clear hK) | (refine ae ?_; simp only [TH]; (((repeat ((fail_if_success refine hS _ _ ?_); clear hS)); refine hS _ _ ?_); clear hS; try clear hF)) | refine af fun K hS hF => ?_ | refine ac rfl ?_)
  refine aH rfl (fun hd => ?_) (fun hd => ?_)
  · (refine am ?_; simp only [TH]; ((repeat ((fail_if_success refine hS _ _ ?_); clear hS)); refine hS _ _ ?_); clear hS; try clear hF)
    obtain ⟨o, ho⟩ : ∃ o, l[i]? = some o := ⟨_, List.getElem?_eq_getElem (by assumption)⟩
    have hmem := List.mem_of_getElem? ho
    obtain ⟨e, he, hio⟩ := hes.get ho
    obtain ⟨pp, hp, hpl⟩ := bc (P := Try.prog) (k := .i64) ar47 sl47 hv he (isTx_len hio)
    have htk : l.take (i + 1) = l.take i ++ [o] := by
      rw [List.take_succ_eq_append_getElem (by assumption), ← (List.getElem?_eq_some_iff.1 ho).2]
    repeat (first
    | (refine aa rfl fun K hK => ?_; simp (disch := omega) only [WW, BB, ↓ab, simprocAttr, q1, q3, bu, ty47, bE hhd, hp, hpl, ty56]; refine hK _ _ ?_; clear hK) | refine af fun K hS hF => ?_ | refine ac rfl ?_)
    refine aa rfl fun K hK => ⟨e, o, rfl, hio, hN o hmem, hK _ _ ?_⟩
    cases hg : greatT o with
    | true =>
      rw [if_pos rfl]
      repeat (first
    | (refine aa rfl fun K hK => ?_; simp (disch := omega) only [WW, BB, ↓ab, simprocAttr, Nat.zero_lt_one, decide_true]; refine hK _ _ ?_; clear hK) | (refine ae ?_; simp only [TH]; (((repeat ((fail_if_success refine hS _ _ ?_); clear hS)); refine hS _ _ ?_); clear hS; try clear hF)))
      refine aS (by simp (disch := omega) only [WW, BB, ↓ab, simprocAttr]) ?_
      repeat (first
    | (refine aa rfl fun K hK => ?_; simp (disch := omega) only [WW, BB, ↓ab, simprocAttr]; refine hK _ _ ?_; clear hK) | (refine ae ?_; simp only [TH]; (((repeat ((fail_if_success refine hS _ _ ?_); clear hS)); refine hS _ _ ?_); clear hS; try clear hF)) | refine af fun K hS hF => ?_ | refine ac rfl ?_ | (refine al ?_; simp (disch := omega) only [TH, TE, WW, BB, ↓ab, simprocAttr]))
      rw [List.any_eq_true.2 ⟨o, hmem, hg⟩, if_pos rfl] at hQ
      exact ⟨_, rfl, [], _, aj _, hQ⟩
    | false =>
      rw [if_neg (by simp)]
      repeat (first
    | (refine aa rfl fun K hK => ?_; simp (disch := omega) only [WW, BB, ↓ab, simprocAttr, Nat.lt_irrefl, decide_false]; refine hK _ _ ?_; clear hK) | (refine ae ?_; simp only [TH]; (((repeat ((fail_if_success refine hS _ _ ?_); clear hS)); refine hS _ _ ?_); clear hS; try clear hF)))
      refine aE (by simp (disch := omega) only [WW, BB, ↓ab, simprocAttr]) ?_
      repeat (first
    | (refine aa rfl fun K hK => ?_; simp (disch := omega) only [WW, BB, ↓ab, simprocAttr, q3, aP]; refine hK _ _ ?_; clear hK) | ((first | refine ae ?_ | refine am ?_); simp only [TH]; first | (((repeat ((fail_if_success refine hS _ _ ?_); clear hS)); refine hS _ _ ?_); clear hS; try clear hF) | skip) | refine ac rfl ?_)
      refine hKL (l.length - (i + 1)) _ _ (by omega) ⟨i + 1, rfl, by omega, rfl, ?_, ?_, ?_⟩
      · simp (disch := omega) only [WW, BB, ↓ab, simprocAttr, q1]
      · simp (disch := omega) only [WW, BB, ↓ab, simprocAttr]
      · rw [htk, List.any_append, hno]
        simpa using hg
  · (refine aG ?_; simp only [TH, ↓reduceIte, Nat.reduceEqDiff]; ((repeat ((fail_if_success refine hS _ _ ?_); clear hS)); refine hS _ _ ?_); clear hS; try clear hF)
    have : i = l.length := by omega
    subst this
    rw [List.take_of_length_le (Nat.le_refl _)] at hno
    rw [hno, if_neg (by simp)] at hQ
    repeat (first
    | (refine aa rfl fun K hK => ?_; simp (disch := omega) only [WW, BB, ↓ab, simprocAttr]; refine hK _ _ ?_; clear hK) | (refine ae ?_; simp only [TH]; (((repeat ((fail_if_success refine hS _ _ ?_); clear hS)); refine hS _ _ ?_); clear hS; try clear hF)) | refine af fun K hS hF => ?_ | refine ac rfl ?_ | (refine al ?_; simp (disch := omega) only [TH, TE, WW, BB, ↓ab, simprocAttr]))
    exact ⟨_, rfl, [], _, aj _, hQ⟩

theorem okTs_of {l : List TTx} (h : greatB l = false) : okTs l := by
  simp only [greatB, Bool.or_eq_false_iff, decide_eq_false_iff_not, List.any_eq_false] at h
  exact ⟨by omega, fun x hx => okT_of (by simpa using h.2 x hx)⟩
end Go.Av

set_option linter.unusedSimpArgs false
set_option linter.unusedVariables false
namespace Go.Av
open Go.RowKit Go.Proofs

def s58 : Spec := fun _ args H Q => ∃ x bs, args = [x] ∧ ao H 1 x = some (nE .u8 bs) ∧ bs.length ≤ 140737488355328 ∧ ∀ v, isB v bs → Q v H
theorem snd58 : Sound Try.prog 58 s58 := by
  refine ak pm (ap [] (by simp)) [] Try.func58 rfl (by kernel_rfl) ?_
  rintro Y args H Q ⟨x, bs, rfl, hv, hb, hQ⟩
  refine ⟨by simp [Try.f58], ?_⟩
  show wpC Try.prog (tab []) Y [] 7 _ true (aB Try.prog [.tmp 2] Q) _ H
  repeat (first
    | (refine aa rfl fun K hK => ?_; simp (disch := omega) only [WW, BB, ↓ab, simprocAttr]; refine hK _ _ ?_; clear hK) | (refine ae ?_; simp only [TH]; (((repeat ((fail_if_success refine hS _ _ ?_); clear hS)); refine hS _ _ ?_); clear hS; try clear hF)) | refine af fun K hS hF => ?_ | refine ac rfl ?_)
  refine aa rfl fun K hK => ?_
  simp (disch := omega) only [WW, BB, ↓ab, simprocAttr]
  refine append_new (x := x) (.inl rfl) ds64 sl64 hv (nE_ones _ _) (by rw [by64, az]; omega) (by rw [az]; omega) (fun hn => hK _ _ ?_) (fun hn b hb => hK _ _ ?_)
  · have hn' : bs = [] := by
      have := congrArg List.length hn
      rw [az] at this
      exact List.eq_nil_of_length_eq_zero this
    repeat (first
    | (refine aa rfl fun K hK => ?_; simp (disch := omega) only [WW, BB, ↓ab, simprocAttr]; refine hK _ _ ?_; clear hK) | (refine ae ?_; simp only [TH]; (((repeat ((fail_if_success refine hS _ _ ?_); clear hS)); refine hS _ _ ?_); clear hS; try clear hF)) | (refine al ?_; simp (disch := omega) only [TH, TE, WW, BB, ↓ab, simprocAttr]))
    exact ⟨_, rfl, [], H, aj H, hQ _ (.inl ⟨rfl, hn'⟩)⟩
  · repeat (first
    | (refine aa rfl fun K hK => ?_; simp (disch := omega) only [WW, BB, ↓ab, simprocAttr]; refine hK _ _ ?_; clear hK) | (refine ae ?_; simp only [TH]; (((repeat ((fail_if_success refine hS _ _ ?_); clear hS)); refine hS _ _ ?_); clear hS; try clear hF)) | (refine al ?_; simp (disch := omega) only [TH, TE, WW, BB, ↓ab, simprocAttr]))
    rw [az]
    exact ⟨_, rfl, [b], freeze_end hb (hQ _ (.inr ⟨false, rfl⟩))⟩

theorem ds53 : dstT Try.prog 53 = some 35 := by kernel_rfl
theorem by53 : bT Try.prog 53 = 72 := by kernel_rfl
/-- By value: in whatever heap. -/
def isInV (e : List V) (x : TIn) : Prop := bo [e] = true ∧ ∀ H, isIn H e x
def isOutV (e : List V) (x : TOut) : Prop := bo [e] = true ∧ ∀ H, isOut H e x
def isTxV (e : List V) (x : TTx) : Prop := bo [e] = true ∧ ∀ H, isTx H e x
theorem onesEs_app {a b : List (List V)} (h : bo a = true) (g : bo b = true) : bo (a ++ b) = true := by
  simp only [bo, List.all_append, Bool.and_eq_true] at *
  exact ⟨h, g⟩
theorem isB_len {v : V} {bs : List Nat} (h : isB v bs) : notR v = true := by
  rcases h with ⟨rfl, _⟩ | ⟨f, rfl⟩ <;> rfl

section
variable {Y : aC} {Q : Exit → T → Hp → Prop} {t : T} {H X : Hp} {vi vo u w1 w2 : V} {ei es1 es2 : List (List V)} {ins : List TIn} {outs : List TOut} {b2 b3 ver lock : Nat} {z2 : List V}

theorem l45a (q1 : t 1 = .cptr [vN .u32 ver, vi, vo, vN .u32 lock] 0) (q2 : t 2 = .ptr b2 0) (q3 : t 3 = .ptr b3 0) (q4 : t 4 = vN .i64 0) (hvi : ao H 35 vi = some ei) (hei : Each (isIn H) ei ins) (hl : ins.length ≤ 60) (hsc : ∀ i ∈ ins, i.script.length ≤ 2100) (h2 : H b2 = none) (h3 : H b3 = none) (h23 : b2 ≠ b3)
    (hX : hle H X) (x2 : X b2 = some (.row z2)) (x3 : X b3 = some (.row [vN .u32 ver, .nils, .nils, vN .u32 lock]))
    (hQ : ∀ t' X' w es, t' 1 = .cptr [vN .u32 ver, vi, vo, vN .u32 lock] 0 → t' 2 = .ptr b2 0 → t' 3 = .ptr b3 0 → hle H X' → X' b2 = some (.row z2) → X' b3 = some (.row [vN .u32 ver, w, .nils, vN .u32 lock]) → okO H X' w 35 es → Each isInV es ins → Q (.exit 0) t' X') :
    wpC Try.prog (tab [(58, s58)]) Y [1] 58 (aU Try.f45 0) true Q t X := by
  have hly := av (P := Try.prog) sl53 hvi
  rw [hei.1] at hly
  refine aO (fun m t X => ∃ i w es, m = ins.length - i ∧ i ≤ ins.length ∧ t 1 = .cptr [vN .u32 ver, vi, vo, vN .u32 lock] 0 ∧ t 2 = .ptr b2 0 ∧ t 3 = .ptr b3 0 ∧ t 4 = vN .i64 i ∧ hle H X ∧ X b2 = some (.row z2) ∧ X b3 = some (.row [vN .u32 ver, w, .nils, vN .u32 lock]) ∧ okO H X w 35 es ∧ Each isInV es (ins.take i)) ins.length
    ⟨0, .nils, [], rfl, by omega, q1, q2, q3, q4, hX, x2, x3, .inl ⟨rfl, rfl⟩, rfl, fun i a b ha hb => by simp at ha⟩ fun KL m t X hI hKL => ?_
  clear q1 q2 q3 q4 hX x2 x3
  obtain ⟨i, w, es, rfl, hi, q1, q2, q3, q4, hX, x2, x3, hok, hes⟩ := hI
  repeat (first
    | (refine aa rfl fun K hK => ?_; simp (disch := omega) only [WW, BB, ↓ab, simprocAttr, q1, q4, bA, ty53, hly]; refine hK _ _ ?_; clear hK) | (refine ae ?_; simp only [TH]; (((repeat ((fail_if_success refine hS _ _ ?_); clear hS)); refine hS _ _ ?_); clear hS; try clear hF)) | refine af fun K hS hF => ?_ | refine ac rfl ?_)
  refine aH rfl (fun hd => ?_) (fun hd => ?_)
  · (refine am ?_; simp only [TH]; ((repeat ((fail_if_success refine hS _ _ ?_); clear hS)); refine hS _ _ ?_); clear hS; try clear hF)
    obtain ⟨o, ho⟩ : ∃ o, ins[i]? = some o := ⟨_, List.getElem?_eq_getElem hd⟩
    obtain ⟨e, he, hio⟩ := hei.get ho
    obtain ⟨pp, hp, hpl⟩ := bc (P := Try.prog) (k := .i64) ar53 sl53 (aL hX hvi) he (isIn_len hio)
    obtain ⟨s, hes0, hvs, hns, hok1, hn, hsq, hsl⟩ := hio
    have hso := hsc o (List.mem_of_getElem? ho)
    have hes' : e = pC o.tx o.n ++ [s, vN .u32 o.seq] := by rw [hes0, pC, List.append_assoc]; rfl
    subst hes'
    have hpl33 := bP hok1.1 o.n
    have htk : ins.take (i + 1) = ins.take i ++ [o] := by
      rw [List.take_succ_eq_append_getElem hd, ← (List.getElem?_eq_some_iff.1 ho).2]
    have ones1 : ∀ s', one s' = true → (pC o.tx o.n ++ [s', vN .u32 o.seq]).all one = true := fun s' hs' => by
      rw [List.all_append, pC_ones]; simp only [List.all_cons, hs']; rfl
    repeat (first
    | (refine aa rfl fun K hK => ?_; simp (disch := omega) only [WW, BB, ↓ab, simprocAttr, q1, q4, bA, ty53, hp, hpl, ty68]; refine hK _ _ ?_; clear hK) | refine af fun K hS hF => ?_ | refine ac rfl ?_)
    refine aa rfl fun K hK => ⟨_, z68, fun b5 hb5 => hK _ _ ?_⟩
    refine aq (p := .ptr b5 0) (v := .agg (pC o.tx o.n ++ [s, vN .u32 o.seq])) rfl rfl rfl (by simp (disch := omega) only [WW, BB, ↓ab, simprocAttr]) (by simp (disch := omega) only [WW, BB, ↓ab, simprocAttr]) (au (b := b5) (ag _ _ _) ty68 (by simp [hpl33]) (ones1 s (bd hvs).1) (by rw [List.length_append, bP h0_ok.1]; rfl)) ?_
    rw [aD]
    have g5 := bI hX hb5
    have hX5 : ∀ z, hle X (upd X b5 z) := fun z => ai (aj _) hb5
    have ld33 : ((aK (upd X b5 (some (.row (pC o.tx o.n ++ [s, vN .u32 o.seq])))) (.ptr b5 33)).bind fun x => ldc (some (false, 1)) x.1 x.2) = some s := by
      simp only [aK, ag, Option.bind_some, ldc]
      rw [List.getElem?_append_right (by omega), hpl33]
      rfl
    repeat (first
    | (refine aa rfl fun K hK => ?_; simp (disch := omega) only [WW, BB, ↓ab, simprocAttr, fl68_1, ty64, ld33]; refine hK _ _ ?_; clear hK) | (refine ae ?_; simp only [TH]; (((repeat ((fail_if_success refine hS _ _ ?_); clear hS)); refine hS _ _ ?_); clear hS; try clear hF)) | refine af fun K hS hF => ?_ | refine ac rfl ?_)
    refine aa rfl fun K hK => ⟨s, o.script, rfl, aL (bn hX (hX5 _)) hvs, by omega, fun s' hs' => hK _ _ ?_⟩
    repeat (refine aa rfl fun K hK => ?_; simp (disch := omega) only [WW, BB, ↓ab, simprocAttr, fl68_1]; refine hK _ _ ?_; clear hK)
    refine aq (p := .ptr b5 33) (v := s') rfl rfl rfl (by simp (disch := omega) only [WW, BB, ↓ab, simprocAttr]) (by simp (disch := omega) only [WW, BB, ↓ab, simprocAttr]) (aT (b := b5) (off := 33) (ag _ _ _) ty64 (isB_one hs').2 (isB_one hs').1 (by simp [hpl33])) ?_
    have hset : (pC o.tx o.n ++ [s, vN .u32 o.seq]).set 33 s' = pC o.tx o.n ++ [s', vN .u32 o.seq] := by
      rw [List.set_append_right _ _ (by omega), hpl33]
      rfl
    rw [aD, hset]
    refine ae ?_
    simp only [TH]
    refine frz_row (d := 5) (b := b5) (xs := pC o.tx o.n ++ [s', vN .u32 o.seq]) (X := X) hF ?_ rfl hb5 ?_
    · simp (disch := omega) only [WW, BB, ↓ab, simprocAttr]
    have hl5 : (pC o.tx o.n ++ [s', vN .u32 o.seq]).length = 35 := by simp [hpl33]
    repeat (first
    | (refine aa rfl fun K hK => ?_; simp (disch := omega) only [WW, BB, ↓ab, simprocAttr, q3, bA, aw (off := 1) x3 ty53 rfl, ty68, aggAll hl5]; refine hK _ _ ?_; clear hK) | refine ac rfl ?_)
    refine aa rfl fun K hK => bsA1 (xs := pC o.tx o.n ++ [s', vN .u32 o.seq]) zs53 (by simp (disch := omega) only [WW, BB, ↓ab, simprocAttr]) hl5 (by omega) (hK _ _ ?_)
    refine aa rfl fun K hK => ?_
    simp (disch := omega) only [WW, BB, ↓ab, simprocAttr]
    have hones : bo [pC o.tx o.n ++ [s', vN .u32 o.seq]] = true := by simp only [bo, List.all_cons, List.all_nil, ones1 s' (isB_one hs').1]; rfl
    have hesl : es.length = i := by rw [hes.1, List.length_take]; omega
    refine cg (fs := [pC o.tx o.n ++ [s', vN .u32 o.seq]]) hok hX ds53 sl53 bg hones (by simp) (by rw [by53, hesl]; simp; omega) (by rw [hesl]; simp; omega) fun w' X2 hok2 hX2 hk2 => hK _ _ ?_
    have y2 := hk2 _ _ x2 (fun _ h => by cases h)
    have y3 := hk2 _ _ x3 (fun _ h => by cases h)
    repeat (refine aa rfl fun K hK => ?_; simp (disch := omega) only [WW, BB, ↓ab, simprocAttr, q3, bA]; refine hK _ _ ?_; clear hK)
    refine aq (p := .ptr b3 1) (v := w') rfl rfl rfl (by simp (disch := omega) only [WW, BB, ↓ab, simprocAttr]) (by simp (disch := omega) only [WW, BB, ↓ab, simprocAttr]) (aT (b := b3) (off := 1) y3 ty53 (bB hok2).1 (bB hok2).2 (by simp)) ?_
    repeat (first
    | (refine aa rfl fun K hK => ?_; simp (disch := omega) only [WW, BB, ↓ab, simprocAttr, q4, aP]; refine hK _ _ ?_; clear hK) | (refine ae ?_; simp only [TH]; first | (((repeat ((fail_if_success refine hS _ _ ?_); clear hS)); refine hS _ _ ?_); clear hS; try clear hF) | skip) | refine ac rfl ?_)
    refine hKL (ins.length - (i + 1)) _ _ (by omega) ⟨i + 1, w', es ++ [pC o.tx o.n ++ [s', vN .u32 o.seq]], rfl, by omega, ?_, ?_, ?_, ?_, ai hX2 h3, by rw [ah _ _ _ h23]; exact y2, ag _ _ _, bj hok2 (fun es' h => by rw [y3] at h; cases h), ?_⟩
    · simp (disch := omega) only [WW, BB, ↓ab, simprocAttr, q1]
    · simp (disch := omega) only [WW, BB, ↓ab, simprocAttr, q2]
    · simp (disch := omega) only [WW, BB, ↓ab, simprocAttr, q3]
    · simp (disch := omega) only [WW, BB, ↓ab, simprocAttr]
    · rw [htk]
      refine hes.append ⟨rfl, fun j a c ha hc => ?_⟩
      cases j with
      | zero =>
        cases ha; cases hc
        exact ⟨hones, fun H' => ⟨s', by rw [pC, List.append_assoc]; rfl, isB_view hs' _, isB_len hs', hok1, hn, hsq, hsl⟩⟩
      | succ j => simp at ha
  · refine aG ?_
    simp only [TH]
    have : i = ins.length := by omega
    subst this
    rw [List.take_of_length_le (Nat.le_refl _)] at hes
    exact hQ _ _ w es q1 q2 q3 hX x2 x3 hok hes
end
end Go.Av

set_option linter.unusedSimpArgs false
set_option linter.unusedVariables false
namespace Go.Av
open Go.RowKit Go.Proofs

theorem ds54 : dstT Try.prog 54 = some 2 := by kernel_rfl
theorem by54 : bT Try.prog 54 = 32 := by kernel_rfl
theorem okO_keep {G X X' : Hp} {v : V} {sz sz' : Nat} {es : List (List V)} (h : okO G X v sz es) (hne : sz ≠ sz') (hk : ∀ j y, X j = some y → (∀ es', y ≠ .arr sz' es') → X' j = some y) : okO G X' v sz es := by
  rcases h with h | ⟨e, h1, h2, h3⟩
  · exact .inl h
  · exact .inr ⟨e, h1, hk _ _ h2 (fun es' h => by cases h; exact hne rfl), h3⟩

section
variable {Y : aC} {Q : Exit → T → Hp → Prop} {t : T} {H X : Hp} {vi vo u w1 : V} {eo es1 : List (List V)} {outs : List TOut} {b2 b3 ver lock : Nat} {z2 : List V}

theorem l45b (q1 : t 1 = .cptr [vN .u32 ver, vi, vo, vN .u32 lock] 0) (q2 : t 2 = .ptr b2 0) (q3 : t 3 = .ptr b3 0) (q6 : t 6 = vN .i64 0) (hvo : ao H 2 vo = some eo) (heo : Each (isOut H) eo outs) (hl : outs.length ≤ 60) (hsc : ∀ i ∈ outs, i.script.length ≤ 2100) (h2 : H b2 = none) (h3 : H b3 = none) (h23 : b2 ≠ b3)
    (hX : hle H X) (x2 : X b2 = some (.row z2)) (x3 : X b3 = some (.row [vN .u32 ver, w1, .nils, vN .u32 lock])) (hok1 : okO H X w1 35 es1)
    (hQ : ∀ t' X' w es, t' 1 = .cptr [vN .u32 ver, vi, vo, vN .u32 lock] 0 → t' 2 = .ptr b2 0 → t' 3 = .ptr b3 0 → hle H X' → X' b2 = some (.row z2) → X' b3 = some (.row [vN .u32 ver, w1, w, vN .u32 lock]) → okO H X' w1 35 es1 → okO H X' w 2 es → Each isOutV es outs → Q (.exit 2) t' X') :
    wpC Try.prog (tab [(58, s58)]) Y [1] 58 (aU Try.f45 1) true Q t X := by
  have hly := av (P := Try.prog) sl54 hvo
  rw [heo.1] at hly
  refine aO (fun m t X => ∃ i w es, m = outs.length - i ∧ i ≤ outs.length ∧ t 1 = .cptr [vN .u32 ver, vi, vo, vN .u32 lock] 0 ∧ t 2 = .ptr b2 0 ∧ t 3 = .ptr b3 0 ∧ t 6 = vN .i64 i ∧ hle H X ∧ X b2 = some (.row z2) ∧ X b3 = some (.row [vN .u32 ver, w1, w, vN .u32 lock]) ∧ okO H X w1 35 es1 ∧ okO H X w 2 es ∧ Each isOutV es (outs.take i)) outs.length
    ⟨0, .nils, [], rfl, by omega, q1, q2, q3, q6, hX, x2, x3, hok1, .inl ⟨rfl, rfl⟩, rfl, fun i a b ha hb => by simp at ha⟩ fun KL m t X hI hKL => ?_
  clear q1 q2 q3 q6 hX x2 x3 hok1
  obtain ⟨i, w, es, rfl, hi, q1, q2, q3, q6, hX, x2, x3, hok1, hok, hes⟩ := hI
  repeat (first
    | (refine aa rfl fun K hK => ?_; simp (disch := omega) only [WW, BB, ↓ab, simprocAttr, q1, q6, fl56_2, ty54, hly]; refine hK _ _ ?_; clear hK) | (refine ae ?_; simp only [TH]; (((repeat ((fail_if_success refine hS _ _ ?_); clear hS)); refine hS _ _ ?_); clear hS; try clear hF)) | refine af fun K hS hF => ?_ | refine ac rfl ?_)
  refine aH rfl (fun hd => ?_) (fun hd => ?_)
  · (refine am ?_; simp only [TH]; ((repeat ((fail_if_success refine hS _ _ ?_); clear hS)); refine hS _ _ ?_); clear hS; try clear hF)
    obtain ⟨o, ho⟩ : ∃ o, outs[i]? = some o := ⟨_, List.getElem?_eq_getElem hd⟩
    obtain ⟨e, he, hio⟩ := heo.get ho
    obtain ⟨pp, hp, hpl⟩ := bc (P := Try.prog) (k := .i64) ar54 sl54 (aL hX hvo) he (isOut_len hio)
    obtain ⟨s, rfl, hvs, hns, hz, hsl⟩ := hio
    have hso := hsc o (List.mem_of_getElem? ho)
    have htk : outs.take (i + 1) = outs.take i ++ [o] := by
      rw [List.take_succ_eq_append_getElem hd, ← (List.getElem?_eq_some_iff.1 ho).2]
    have ones1 : ∀ s', one s' = true → [V.int .i64 o.value, s'].all one = true := fun s' hs' => by
      rw [List.all_cons, List.all_cons, hs']; rfl
    repeat (first
    | (refine aa rfl fun K hK => ?_; simp (disch := omega) only [WW, BB, ↓ab, simprocAttr, q1, q6, fl56_2, ty54, hp, hpl, ty70]; refine hK _ _ ?_; clear hK) | refine af fun K hS hF => ?_ | refine ac rfl ?_)
    refine aa rfl fun K hK => ⟨_, z70, fun b5 hb5 => hK _ _ ?_⟩
    refine aq (p := .ptr b5 0) (v := .agg [.int .i64 o.value, s]) rfl rfl rfl (by simp (disch := omega) only [WW, BB, ↓ab, simprocAttr]) (by simp (disch := omega) only [WW, BB, ↓ab, simprocAttr]) (au (b := b5) (ag _ _ _) ty70 rfl (ones1 s (bd hvs).1) rfl) ?_
    rw [aD]
    have hX5 : ∀ z, hle X (upd X b5 z) := fun z => ai (aj _) hb5
    repeat (first
    | (refine aa rfl fun K hK => ?_; simp (disch := omega) only [WW, BB, ↓ab, simprocAttr, fl70_1, aw (off := 1) (ag X b5 (some (.row [.int .i64 o.value, s]))) ty64 rfl]; refine hK _ _ ?_; clear hK) | (refine ae ?_; simp only [TH]; (((repeat ((fail_if_success refine hS _ _ ?_); clear hS)); refine hS _ _ ?_); clear hS; try clear hF)) | refine af fun K hS hF => ?_ | refine ac rfl ?_)
    refine aa rfl fun K hK => ⟨s, o.script, rfl, aL (bn hX (hX5 _)) hvs, by omega, fun s' hs' => hK _ _ ?_⟩
    repeat (refine aa rfl fun K hK => ?_; simp (disch := omega) only [WW, BB, ↓ab, simprocAttr, fl70_1]; refine hK _ _ ?_; clear hK)
    refine aq (p := .ptr b5 1) (v := s') rfl rfl rfl (by simp (disch := omega) only [WW, BB, ↓ab, simprocAttr]) (by simp (disch := omega) only [WW, BB, ↓ab, simprocAttr]) (aT (b := b5) (off := 1) (ag _ _ _) ty64 (isB_one hs').2 (isB_one hs').1 (by simp)) ?_
    rw [aD]
    refine ae ?_
    simp only [TH]
    refine frz_row (d := 7) (b := b5) (xs := [.int .i64 o.value, s']) (X := X) hF ?_ rfl hb5 ?_
    · simp (disch := omega) only [WW, BB, ↓ab, simprocAttr]
    repeat (first
    | (refine aa rfl fun K hK => ?_; simp (disch := omega) only [WW, BB, ↓ab, simprocAttr, q3, fl56_2, aw (off := 2) x3 ty54 rfl, ty70, aggAll (cs := [V.int .i64 o.value, s']) (n := 2) rfl]; refine hK _ _ ?_; clear hK) | refine ac rfl ?_)
    refine aa rfl fun K hK => bsA1 (xs := [.int .i64 o.value, s']) zs54 (by simp (disch := omega) only [WW, BB, ↓ab, simprocAttr]) rfl (by omega) (hK _ _ ?_)
    refine aa rfl fun K hK => ?_
    simp (disch := omega) only [WW, BB, ↓ab, simprocAttr]
    have hones : bo [[V.int .i64 o.value, s']] = true := by simp only [bo, List.all_cons (l := []), List.all_nil, ones1 s' (isB_one hs').1]; rfl
    have hesl : es.length = i := by rw [hes.1, List.length_take]; omega
    refine cg (fs := [[.int .i64 o.value, s']]) hok hX ds54 sl54 bg hones (by simp) (by rw [by54, hesl]; simp; omega) (by rw [hesl]; simp; omega) fun w' X2 hok2 hX2 hk2 => hK _ _ ?_
    have y2 := hk2 _ _ x2 (fun _ h => by cases h)
    have y3 := hk2 _ _ x3 (fun _ h => by cases h)
    have hok3 := okO_keep hok1 (by decide) hk2
    repeat (refine aa rfl fun K hK => ?_; simp (disch := omega) only [WW, BB, ↓ab, simprocAttr, q3, fl56_2]; refine hK _ _ ?_; clear hK)
    refine aq (p := .ptr b3 2) (v := w') rfl rfl rfl (by simp (disch := omega) only [WW, BB, ↓ab, simprocAttr]) (by simp (disch := omega) only [WW, BB, ↓ab, simprocAttr]) (aT (b := b3) (off := 2) y3 ty54 (bB hok2).1 (bB hok2).2 (by simp)) ?_
    repeat (first
    | (refine aa rfl fun K hK => ?_; simp (disch := omega) only [WW, BB, ↓ab, simprocAttr, q6, aP]; refine hK _ _ ?_; clear hK) | (refine ae ?_; simp only [TH]; first | (((repeat ((fail_if_success refine hS _ _ ?_); clear hS)); refine hS _ _ ?_); clear hS; try clear hF) | skip) | refine ac rfl ?_)
    refine hKL (outs.length - (i + 1)) _ _ (by omega) ⟨i + 1, w', es ++ [[.int .i64 o.value, s']], rfl, by omega, ?_, ?_, ?_, ?_, ai hX2 h3, by rw [ah _ _ _ h23]; exact y2, ag _ _ _, bj hok3 (fun es' h => by rw [y3] at h; cases h), bj hok2 (fun es' h => by rw [y3] at h; cases h), ?_⟩
    · simp (disch := omega) only [WW, BB, ↓ab, simprocAttr, q1]
    · simp (disch := omega) only [WW, BB, ↓ab, simprocAttr, q2]
    · simp (disch := omega) only [WW, BB, ↓ab, simprocAttr, q3]
    · simp (disch := omega) only [WW, BB, ↓ab, simprocAttr]
    · rw [htk]
      refine hes.append ⟨rfl, fun j a c ha hc => ?_⟩
      cases j with
      | zero =>
        cases ha; cases hc
        exact ⟨hones, fun H' => ⟨s', rfl, isB_view hs' _, isB_len hs', hz, hsl⟩⟩
      | succ j => simp at ha
  · refine aG ?_
    simp only [TH]
    have : i = outs.length := by omega
    subst this
    rw [List.take_of_length_le (Nat.le_refl _)] at hes
    exact hQ _ _ w es q1 q2 q3 hX x2 x3 hok1 hok hes
end

theorem okO_sealT {H X : Hp} {a b w1 w2 : V} {es1 es2 : List (List V)} {n m : Nat} {Q : V → Hp → Prop} (ha : a = vN .u32 n) (hb : b = vN .u32 m) (h1 : okO H X w1 35 es1) (h2 : okO H X w2 2 es2) (hX : hle H X)
    (hQ : ∀ u1 u2, ((u1 = .nils ∧ es1 = []) ∨ u1 = .sl 35 es1 false) → ((u2 = .nils ∧ es2 = []) ∨ u2 = .sl 2 es2 false) → Q (.agg [a, u1, u2, b]) H) : ∃ B, sealA B (.agg [a, w1, w2, b]) X Q := by
  subst ha hb
  rcases h1 with ⟨rfl, rfl⟩ | ⟨e1, g1, x1, rfl⟩
  · rcases h2 with ⟨rfl, rfl⟩ | ⟨e2, g2, x2, rfl⟩
    · exact ⟨[], H, hX, hQ _ _ (.inl ⟨rfl, rfl⟩) (.inl ⟨rfl, rfl⟩)⟩
    · refine ⟨[e2], .arr 2 es2, x2, rfl, H, ai hX g2, ?_⟩
      simp only [subV, subL, if_true, vN]
      rw [if_pos ⟨trivial, by omega⟩, List.drop_zero, List.take_of_length_le (Nat.le_refl _)]
      exact hQ _ _ (.inl ⟨rfl, rfl⟩) (.inr rfl)
  · rcases h2 with ⟨rfl, rfl⟩ | ⟨e2, g2, x2, rfl⟩
    · refine ⟨[e1], .arr 35 es1, x1, rfl, H, ai hX g1, ?_⟩
      simp only [subV, subL, if_true, vN]
      rw [if_pos ⟨trivial, by omega⟩, List.drop_zero, List.take_of_length_le (Nat.le_refl _)]
      exact hQ _ _ (.inr rfl) (.inl ⟨rfl, rfl⟩)
    · have hne : e2 ≠ e1 := fun h => by subst h; rw [x1] at x2; cases x2
      refine ⟨[e1, e2], .arr 35 es1, x1, rfl, .arr 2 es2, by rw [ah _ _ _ hne]; exact x2, rfl, H, ai (ai hX g1) g2, ?_⟩
      simp only [subV, subL, if_true, vN, hne, if_false]
      rw [if_pos ⟨trivial, by omega⟩, List.drop_zero, List.take_of_length_le (Nat.le_refl _), if_pos ⟨trivial, by omega⟩, List.drop_zero, List.take_of_length_le (Nat.le_refl _)]
      exact hQ _ _ (.inr rfl) (.inr rfl)

theorem bu56c {a b : Nat} : bH Try.prog 56 [(0, vN .u32 a), (3, vN .u32 b)] = some (.agg [vN .u32 a, .nils, .nils, vN .u32 b]) := by kernel_rfl
def s45 : Spec := fun _ args H Q => ∃ cs x, args = [.agg cs] ∧ isTx H cs x ∧ okT x ∧ ∀ cs', isTxV cs' x → Q (.agg cs') H
theorem snd45 : Sound Try.prog 45 s45 := by
  refine ak pm (ap [(58, s58)] (by simp [snd58])) [1] Try.func45 rfl (by kernel_rfl) ?_
  rintro Y args H Q ⟨cs, x, rfl, ⟨vi, vo, ei, eo, rfl, hvi, hni, hei, hvo, hno, heo, hver, hlock⟩, ho, hQ⟩
  refine ⟨by simp [Try.f45], ?_⟩
  show wpC Try.prog (tab [(58, s58)]) Y [1] 58 _ true (aB Try.prog [.cell 2 56] Q) _ H
  repeat (first
    | (refine aa rfl fun K hK => ?_; simp (disch := omega) only [WW, BB, ↓ab, simprocAttr]; refine hK _ _ ?_; clear hK) | refine af fun K hS hF => ?_ | refine ac rfl ?_)
  refine aa rfl fun K hK => ⟨_, z56, fun b2 hb2 => hK _ _ ?_⟩
  repeat (first
    | (refine aa rfl fun K hK => ?_; simp (disch := omega) only [WW, BB, ↓ab, simprocAttr, fl56_0, fl56_3, ty44, bu56c]; refine hK _ _ ?_; clear hK) | (refine ae ?_; simp only [TH]; (((repeat ((fail_if_success refine hS _ _ ?_); clear hS)); refine hS _ _ ?_); clear hS; try clear hF)) | refine af fun K hS hF => ?_ | refine ac rfl ?_)
  refine aa rfl fun K hK => ⟨_, z56, fun b3 hb3 => hK _ _ ?_⟩
  have hb3' := aF hb3
  refine aq (p := .ptr b3 0) (v := .agg [vN .u32 x.ver, .nils, .nils, vN .u32 x.lock]) rfl rfl rfl (by simp (disch := omega) only [WW, BB, ↓ab, simprocAttr]) (by simp (disch := omega) only [WW, BB, ↓ab, simprocAttr]) (au (b := b3) (ag _ _ _) ty56 rfl rfl rfl) ?_
  rw [aD]
  have hX := ai (z := some (.row [vN .u32 x.ver, .nils, .nils, vN .u32 x.lock])) (ai (z := some (.row [vN .u32 0, .nils, .nils, vN .u32 0])) (aj H) hb2) hb3'.2
  have x2 : upd (upd H b2 (some (.row [vN .u32 0, .nils, .nils, vN .u32 0]))) b3 (some (.row [vN .u32 x.ver, .nils, .nils, vN .u32 x.lock])) b2 = some (.row [vN .u32 0, .nils, .nils, vN .u32 0]) := by rw [ah _ _ _ hb3'.1, ag]
  have x3 : upd (upd H b2 (some (.row [vN .u32 0, .nils, .nils, vN .u32 0]))) b3 (some (.row [vN .u32 x.ver, .nils, .nils, vN .u32 x.lock])) b3 = some (.row [vN .u32 x.ver, .nils, .nils, vN .u32 x.lock]) := ag _ _ _
  generalize upd (upd H b2 (some (.row [vN .u32 0, .nils, .nils, vN .u32 0]))) b3 (some (.row [vN .u32 x.ver, .nils, .nils, vN .u32 x.lock])) = X at *
  repeat (first
    | (refine aa rfl fun K hK => ?_; simp (disch := omega) only [WW, BB, ↓ab, simprocAttr]; refine hK _ _ ?_; clear hK) | (refine ae ?_; simp only [TH]; (((repeat ((fail_if_success refine hS _ _ ?_); clear hS)); refine hS _ _ ?_); clear hS; try clear hF)) | refine af fun K hS hF => ?_ | refine ac rfl ?_ | refine ax ?_)
  refine l45a (b2 := b2) (b3 := b3) (vi := vi) (vo := vo) (ver := x.ver) (lock := x.lock) ?_ ?_ ?_ ?_ hvi hei ho.1 ho.2.2.1 hb2 hb3'.2 hb3'.1 hX x2 x3 fun t' X' w1 es1 q1 q2 q3 hX x2 x3 hok1 hes1 => ?_
  · simp (disch := omega) only [WW, BB, ↓ab, simprocAttr]
  · simp (disch := omega) only [WW, BB, ↓ab, simprocAttr]
  · simp (disch := omega) only [WW, BB, ↓ab, simprocAttr]
  · simp (disch := omega) only [WW, BB, ↓ab, simprocAttr]
  (simp only [TH, ↓reduceIte, Nat.reduceEqDiff]; ((repeat ((fail_if_success refine hS _ _ ?_); clear hS)); refine hS _ _ ?_); clear hS; try clear hF)
  repeat (first
    | (refine aa rfl fun K hK => ?_; simp (disch := omega) only [WW, BB, ↓ab, simprocAttr]; refine hK _ _ ?_; clear hK) | (refine ae ?_; simp only [TH]; (((repeat ((fail_if_success refine hS _ _ ?_); clear hS)); refine hS _ _ ?_); clear hS; try clear hF)) | refine af fun K hS hF => ?_ | refine ac rfl ?_ | refine ax ?_)
  refine l45b (b2 := b2) (b3 := b3) (vi := vi) (vo := vo) (ver := x.ver) (lock := x.lock) (w1 := w1) ?_ ?_ ?_ ?_ hvo heo ho.2.1 ho.2.2.2 hb2 hb3'.2 hb3'.1 hX x2 x3 hok1 fun t' X' w2 es2 q1 q2 q3 hX x2 x3 hok1 hok2 hes2 => ?_
  · simp (disch := omega) only [WW, BB, ↓ab, simprocAttr, q1]
  · simp (disch := omega) only [WW, BB, ↓ab, simprocAttr, q2]
  · simp (disch := omega) only [WW, BB, ↓ab, simprocAttr, q3]
  · simp (disch := omega) only [WW, BB, ↓ab, simprocAttr]
  (simp only [TH, ↓reduceIte, Nat.reduceEqDiff]; ((repeat ((fail_if_success refine hS _ _ ?_); clear hS)); refine hS _ _ ?_); clear hS; try clear hF)
  have o1 := (bB hok1).2
  have o2 := (bB hok2).2
  have hall : [vN .u32 x.ver, w1, w2, vN .u32 x.lock].all one = true := by rw [List.all_cons, List.all_cons, List.all_cons, o1, o2]; rfl
  repeat (first
    | (refine aa rfl fun K hK => ?_; simp (disch := omega) only [WW, BB, ↓ab, simprocAttr, q3, aJ (P := Try.prog) (t := 56) (b := b3) x3 ty56 rfl]; refine hK _ _ ?_; clear hK) | refine af fun K hS hF => ?_ | refine ac rfl ?_)
  refine aq (p := .ptr b2 0) (v := .agg [vN .u32 x.ver, w1, w2, vN .u32 x.lock]) rfl rfl rfl (by simp (disch := omega) only [WW, BB, ↓ab, simprocAttr, q2]) (by simp (disch := omega) only [WW, BB, ↓ab, simprocAttr]) (au (b := b2) x2 ty56 rfl hall rfl) ?_
  repeat (first
    | (refine ae ?_; simp only [TH]; (((repeat ((fail_if_success refine hS _ _ ?_); clear hS)); refine hS _ _ ?_); clear hS; try clear hF)) | (refine al ?_; simp (disch := omega) only [TH, TE, WW, BB, ↓ab, simprocAttr, q2, aJ (P := Try.prog) (t := 56) (b := b2) (ag X' b2 (some (.row [vN .u32 x.ver, w1, w2, vN .u32 x.lock]))) ty56 rfl]))
  refine ⟨_, rfl, okO_sealT rfl rfl (bj hok1 (fun es' h => by rw [x2] at h; cases h)) (bj hok2 (fun es' h => by rw [x2] at h; cases h)) (ai hX hb2) fun u1 u2 hu1 hu2 => hQ _ ?_⟩
  have vw : ∀ {u : V} {sz : Nat} {es : List (List V)} (H : Hp), ((u = .nils ∧ es = []) ∨ u = .sl sz es false) → ao H sz u = some es ∧ notR u = true ∧ one u = true := fun H h => by
    rcases h with ⟨rfl, rfl⟩ | rfl
    · exact ⟨rfl, rfl, rfl⟩
    · exact ⟨bg, rfl, rfl⟩
  have o3 := (vw H hu1).2.2
  have o4 := (vw H hu2).2.2
  refine ⟨?_, fun H' => ⟨u1, u2, es1, es2, rfl, (vw H' hu1).1, (vw H' hu1).2.1, hes1.imp fun _ _ h => h.2 H', (vw H' hu2).1, (vw H' hu2).2.1, hes2.imp fun _ _ h => h.2 H', hver, hlock⟩⟩
  simp only [bo, List.all_cons, List.all_nil, o3, o4]
  rfl
end Go.Av

set_option linter.unusedSimpArgs false
set_option linter.unusedVariables false
namespace Go.Av
open Go.RowKit Go.Proofs

theorem ds47 : dstT Try.prog 47 = some 4 := by kernel_rfl
theorem by47 : bT Try.prog 47 = 64 := by kernel_rfl
theorem zs47 : zeroEs Try.prog 47 1 = some (4, [[vN .u32 0, .nils, .nils, vN .u32 0]]) := by kernel_rfl
theorem pl49_0 : placeT Try.prog 49 0 = some (0, 68) := by kernel_rfl
theorem bu49h {h : Hdr} (ho : okHd h) : bH Try.prog 49 [(0, .agg (hdC h))] = some (.agg (hdC h ++ [.nils])) := by
  have hl := aX ho
  have hz := aX (rtH_ok h0_ok)
  simp only [bH, bo49, if_true, z49, Option.bind_some, fillV, pl49_0, aW]
  rw [if_pos ⟨hl, by simp [hl, hz]⟩]
  simp only [Option.map_some, br, List.take_zero, List.nil_append, Nat.zero_add]
  rw [List.drop_append_of_le_length (by omega), List.drop_of_length_le (by omega), List.nil_append]
theorem subL_app (b : Nat) (blk : Blk) : ∀ (xs ys : List V), subL b blk (xs ++ ys) = subL b blk xs ++ subL b blk ys
  | [], _ => rfl
  | x :: xs, ys => by simp only [List.cons_append, subL, subL_app b blk xs ys]
theorem subL_nR (b : Nat) (blk : Blk) (k : IntKind) : ∀ l : List Nat, subL b blk (nR k l) = nR k l
  | [] => rfl
  | a :: l => by
    have := subL_nR b blk k l
    simp only [nR, List.map_cons, subL, subV, vN] at this ⊢
    rw [this]
theorem subL_hdC (b : Nat) (blk : Blk) (h : Hdr) : subL b blk (hdC h) = hdC h := by
  simp only [hdC, subL, subL_app, subL_nR]
  rfl
theorem okO_sealH {H X : Hp} {h : Hdr} {w : V} {es : List (List V)} {Q : V → Hp → Prop} (h1 : okO H X w 4 es) (hX : hle H X)
    (hQ : ∀ u, ((u = .nils ∧ es = []) ∨ u = .sl 4 es false) → Q (.agg (hdC h ++ [u])) H) : ∃ B, sealA B (.agg (hdC h ++ [w])) X Q := by
  rcases h1 with ⟨rfl, rfl⟩ | ⟨e, g, x, rfl⟩
  · exact ⟨[], H, hX, hQ _ (.inl ⟨rfl, rfl⟩)⟩
  · refine ⟨[e], .arr 4 es, x, rfl, H, ai hX g, ?_⟩
    simp only [subV, subL_app, subL_hdC, subL, if_true]
    rw [if_pos ⟨trivial, by omega⟩, List.drop_zero, List.take_of_length_le (Nat.le_refl _)]
    exact hQ _ (.inr rfl)
theorem set68 {h : Hdr} {v w : V} (ho : okHd h) : (hdC h ++ [v]).set 68 w = hdC h ++ [w] := by
  have hl := aX ho
  rw [List.set_append_right _ _ (by omega), hl]
  rfl

def isTxsV (v : V) (l : List TTx) : Prop := ∀ H, isTxs H v l
def s28 : Spec := fun _ args H Q => ∃ h v l, args = [.agg (hdC h ++ [v])] ∧ okHd h ∧ isTxs H v l ∧ okTs l ∧ ∀ v', isTxsV v' l → Q (.agg (hdC h ++ [v'])) H
theorem snd28 : Sound Try.prog 28 s28 := by
  refine ak pm (ap [(45, s45)] (by simp [snd45])) [1] Try.func28 rfl (by kernel_rfl) ?_
  rintro Y args H Q ⟨h, v, l, rfl, hoh, ⟨es, hv, hnv, hes⟩, hl, hQ⟩
  refine ⟨by simp [Try.f28], ?_⟩
  show wpC Try.prog (tab [(45, s45)]) Y [1] 29 _ true (aB Try.prog [.cell 2 49] Q) _ H
  have hly := av (P := Try.prog) sl47 hv
  rw [hes.1] at hly
  have hl1 := hl.1
  have hhl := aX hoh
  have hzl := aX (rtH_ok h0_ok)
  have hones : ∀ w, one w = true → (hdC h ++ [w]).all one = true := fun w hw => by rw [List.all_append, hdC_ones]; simp only [List.all_cons, hw]; rfl
  repeat (first
    | (refine aa rfl fun K hK => ?_; simp (disch := omega) only [WW, BB, ↓ab, simprocAttr]; refine hK _ _ ?_; clear hK) | refine af fun K hS hF => ?_ | refine ac rfl ?_)
  refine aa rfl fun K hK => ⟨_, z49, fun b2 hb2 => hK _ _ ?_⟩
  repeat (first
    | (refine aa rfl fun K hK => ?_; simp (disch := omega) only [WW, BB, ↓ab, simprocAttr, fl49_0, ty46, agg46 hoh, bu49h hoh]; refine hK _ _ ?_; clear hK) | (refine ae ?_; simp only [TH]; (((repeat ((fail_if_success refine hS _ _ ?_); clear hS)); refine hS _ _ ?_); clear hS; try clear hF)) | refine af fun K hS hF => ?_ | refine ac rfl ?_)
  refine aa rfl fun K hK => ⟨_, z49, fun b3 hb3 => hK _ _ ?_⟩
  have hb3' := aF hb3
  refine aq (p := .ptr b3 0) (v := .agg (hdC h ++ [.nils])) rfl rfl rfl (by simp (disch := omega) only [WW, BB, ↓ab, simprocAttr]) (by simp (disch := omega) only [WW, BB, ↓ab, simprocAttr]) (au (b := b3) (ag _ _ _) ty49 (by simp [hhl]) (hones _ rfl) (by simp [hzl])) ?_
  rw [aD]
  have hX := ai (z := some (.row (hdC h ++ [.nils]))) (ai (z := some (.row (hdC (rtH h0) ++ [.nils]))) (aj H) hb2) hb3'.2
  have x2 : upd (upd H b2 (some (.row (hdC (rtH h0) ++ [.nils])))) b3 (some (.row (hdC h ++ [.nils]))) b2 = some (.row (hdC (rtH h0) ++ [.nils])) := by rw [ah _ _ _ hb3'.1, ag]
  have x3 : upd (upd H b2 (some (.row (hdC (rtH h0) ++ [.nils])))) b3 (some (.row (hdC h ++ [.nils]))) b3 = some (.row (hdC h ++ [.nils])) := ag _ _ _
  generalize upd (upd H b2 (some (.row (hdC (rtH h0) ++ [.nils])))) b3 (some (.row (hdC h ++ [.nils]))) = X at *
  repeat (first
    | (refine aa rfl fun K hK => ?_; simp (disch := omega) only [WW, BB, ↓ab, simprocAttr]; refine hK _ _ ?_; clear hK) | (refine ae ?_; simp only [TH]; (((repeat ((fail_if_success refine hS _ _ ?_); clear hS)); refine hS _ _ ?_); clear hS; try clear hF)) | refine af fun K hS hF => ?_ | refine ac rfl ?_ | refine ax ?_)
  refine aO (fun m t X => ∃ i w fs, m = l.length - i ∧ i ≤ l.length ∧ t 1 = .cptr (hdC h ++ [v]) 0 ∧ t 2 = .ptr b2 0 ∧ t 3 = .ptr b3 0 ∧ t 4 = vN .i64 i ∧ hle H X ∧ X b2 = some (.row (hdC (rtH h0) ++ [.nils])) ∧ X b3 = some (.row (hdC h ++ [w])) ∧ okO H X w 4 fs ∧ Each isTxV fs (l.take i)) l.length
    ⟨0, .nils, [], rfl, by omega, by simp (disch := omega) only [WW, BB, ↓ab, simprocAttr], by simp (disch := omega) only [WW, BB, ↓ab, simprocAttr], by simp (disch := omega) only [WW, BB, ↓ab, simprocAttr], by simp (disch := omega) only [WW, BB, ↓ab, simprocAttr], hX, x2, x3, .inl ⟨rfl, rfl⟩, rfl, fun i a b ha hb => by simp at ha⟩ fun KL m t X hI hKL => ?_
  clear hX x2 x3
  obtain ⟨i, w, fs, rfl, hi, q1, q2, q3, q4, hX, x2, x3, hok, hfs⟩ := hI
  repeat (first
    | (refine aa rfl fun K hK => ?_; simp (disch := omega) only [WW, BB, ↓ab, simprocAttr, q1, q4, bu, ty47, bE hhl, hly]; refine hK _ _ ?_; clear hK) | (refine ae ?_; simp only [TH]; (((repeat ((fail_if_success refine hS _ _ ?_); clear hS)); refine hS _ _ ?_); clear hS; try clear hF)) | refine af fun K hS hF => ?_ | refine ac rfl ?_)
  refine aH rfl (fun hd => ?_) (fun hd => ?_)
  · (refine am ?_; simp only [TH]; ((repeat ((fail_if_success refine hS _ _ ?_); clear hS)); refine hS _ _ ?_); clear hS; try clear hF)
    obtain ⟨o, ho⟩ : ∃ o, l[i]? = some o := ⟨_, List.getElem?_eq_getElem hd⟩
    have hmem := List.mem_of_getElem? ho
    obtain ⟨e, he, hio⟩ := hes.get ho
    obtain ⟨pp, hp, hpl⟩ := bc (P := Try.prog) (k := .i64) ar47 sl47 (aL hX hv) he (isTx_len hio)
    have htk : l.take (i + 1) = l.take i ++ [o] := by
      rw [List.take_succ_eq_append_getElem hd, ← (List.getElem?_eq_some_iff.1 ho).2]
    repeat (first
    | (refine aa rfl fun K hK => ?_; simp (disch := omega) only [WW, BB, ↓ab, simprocAttr, q1, q4, bu, ty47, bE hhl, hp, hpl, ty56]; refine hK _ _ ?_; clear hK) | refine af fun K hS hF => ?_ | refine ac rfl ?_)
    refine aa rfl fun K hK => ⟨e, o, rfl, isTx_le hX hio, hl.2 o hmem, fun cs' hcs' => hK _ _ ?_⟩
    clear hK
    have hcl := isTx_len (hcs'.2 H)
    have hc1 : cs'.all one = true := by
      have := hcs'.1
      simpa only [bo, List.all_cons, List.all_nil, Bool.and_true] using this
    refine as_frz (d := 5) (v := .agg cs') rfl rfl rfl rfl rfl rfl z56 (fun H' b hb => au hb ty56 hcl hc1 rfl) (by decide) hF (fun p => by simp (disch := omega) only [WW, BB, ↓ab, simprocAttr]) ?_
    repeat (first
    | (refine aa rfl fun K hK => ?_; simp (disch := omega) only [WW, BB, ↓ab, simprocAttr, q3, bu, aw (off := 68) x3 ty47 (by rw [List.getElem?_append_right (by omega), hhl]; rfl), ty56, aggAll hcl]; refine hK _ _ ?_; clear hK) | refine ac rfl ?_)
    refine aa rfl fun K hK => bsA1 (xs := cs') zs47 (by simp (disch := omega) only [WW, BB, ↓ab, simprocAttr]) hcl (by omega) (hK _ _ ?_)
    refine aa rfl fun K hK => ?_
    simp (disch := omega) only [WW, BB, ↓ab, simprocAttr]
    have hfl : fs.length = i := by rw [hfs.1, List.length_take]; omega
    refine cg (fs := [cs']) hok hX ds47 sl47 bg hcs'.1 (by simp) (by rw [by47, hfl]; simp; omega) (by rw [hfl]; simp; omega) fun w' X2 hok2 hX2 hk2 => hK _ _ ?_
    have y2 := hk2 _ _ x2 (fun _ h => by cases h)
    have y3 := hk2 _ _ x3 (fun _ h => by cases h)
    repeat (refine aa rfl fun K hK => ?_; simp (disch := omega) only [WW, BB, ↓ab, simprocAttr, q3, bu]; refine hK _ _ ?_; clear hK)
    refine aq (p := .ptr b3 68) (v := w') rfl rfl rfl (by simp (disch := omega) only [WW, BB, ↓ab, simprocAttr]) (by simp (disch := omega) only [WW, BB, ↓ab, simprocAttr]) (aT (b := b3) (off := 68) y3 ty47 (bB hok2).1 (bB hok2).2 (by simp [hhl])) ?_
    rw [set68 hoh]
    repeat (first
    | (refine aa rfl fun K hK => ?_; simp (disch := omega) only [WW, BB, ↓ab, simprocAttr, q4, aP]; refine hK _ _ ?_; clear hK) | (refine ae ?_; simp only [TH]; first | (((repeat ((fail_if_success refine hS _ _ ?_); clear hS)); refine hS _ _ ?_); clear hS; try clear hF) | skip) | refine ac rfl ?_)
    refine hKL (l.length - (i + 1)) _ _ (by omega) ⟨i + 1, w', fs ++ [cs'], rfl, by omega, ?_, ?_, ?_, ?_, ai hX2 hb3'.2, by rw [ah _ _ _ hb3'.1]; exact y2, ag _ _ _, bj hok2 (fun es' h => by rw [y3] at h; cases h), ?_⟩
    · simp (disch := omega) only [WW, BB, ↓ab, simprocAttr, q1]
    · simp (disch := omega) only [WW, BB, ↓ab, simprocAttr, q2]
    · simp (disch := omega) only [WW, BB, ↓ab, simprocAttr, q3]
    · simp (disch := omega) only [WW, BB, ↓ab, simprocAttr]
    · rw [htk]
      refine hfs.append ⟨rfl, fun j a c ha hc => ?_⟩
      cases j with
      | zero =>
        cases ha; cases hc
        exact hcs'
      | succ j => simp at ha
  · (refine aG ?_; simp only [TH, ↓reduceIte, Nat.reduceEqDiff]; ((repeat ((fail_if_success refine hS _ _ ?_); clear hS)); refine hS _ _ ?_); clear hS; try clear hF)
    have : i = l.length := by omega
    subst this
    rw [List.take_of_length_le (Nat.le_refl _)] at hfs
    have o1 := (bB hok).2
    repeat (first
    | (refine aa rfl fun K hK => ?_; simp (disch := omega) only [WW, BB, ↓ab, simprocAttr, q3, aJ (P := Try.prog) (t := 49) (b := b3) x3 ty49 (by simp [hhl])]; refine hK _ _ ?_; clear hK) | refine af fun K hS hF => ?_ | refine ac rfl ?_)
    refine aq (p := .ptr b2 0) (v := .agg (hdC h ++ [w])) rfl rfl rfl (by simp (disch := omega) only [WW, BB, ↓ab, simprocAttr, q2]) (by simp (disch := omega) only [WW, BB, ↓ab, simprocAttr]) (au (b := b2) x2 ty49 (by simp [hhl]) (hones _ o1) (by simp [hzl])) ?_
    repeat (first
    | (refine ae ?_; simp only [TH]; (((repeat ((fail_if_success refine hS _ _ ?_); clear hS)); refine hS _ _ ?_); clear hS; try clear hF)) | (refine al ?_; simp (disch := omega) only [TH, TE, WW, BB, ↓ab, simprocAttr, q2, aJ (P := Try.prog) (t := 49) (b := b2) (ag X b2 (some (.row (hdC h ++ [w])))) ty49 (by simp [hhl])]))
    refine ⟨_, rfl, okO_sealH (bj hok (fun es' h => by rw [x2] at h; cases h)) (ai hX hb2) fun u hu => hQ _ fun H' => ?_⟩
    rcases hu with ⟨rfl, rfl⟩ | rfl
    · exact ⟨[], rfl, rfl, hfs.imp fun _ _ h => h.2 H'⟩
    · exact ⟨fs, bg, rfl, hfs.imp fun _ _ h => h.2 H'⟩
end Go.Av

set_option linter.unusedSimpArgs false
set_option linter.unusedVariables false
namespace Go.Av
open Go.RowKit Go.Proofs

theorem rootB_own {l : List TTx} (hc : l.any chkB = false) (hne : l ≠ []) : rootB (aM l) l = swollen (l.map idOf) := by
  have e : idsL l = l.map idOf := by rw [idsL, if_neg (by rw [hc]; simp)]
  have hn : l.map idOf ≠ [] := by simpa using hne
  have e2 : (rootR (l.map idOf)).2 = 0 := by rw [rootR, if_neg hn]
  rw [rootB, aM, e, e2]
  simp
theorem swollen_one (a : List Nat) : swollen [a] = false := rfl
theorem judge_pass {rt : List Nat} {l : List TTx} (h1 : sizeB l = false) (h2 : cbB l = false) (h3 : rootB rt l = false) (h4 : formB l = false) (h5 : l.any valB = false) (h6 : againB l = false) : bY rt l = 0 := by
  simp [bY, fl, firstF, h1, h2, h3, h4, h5, h6]
theorem judge_cb {rt : List Nat} {l : List TTx} (h1 : sizeB l = false) (h2 : cbB l = true) : bY rt l = 241 := by
  simp [bY, fl, firstF, h1, h2]
theorem j0 : bY h0 [] = 241 := judge_cb (by kernel_rfl) rfl
theorem jA : bY (aM [baseT [97, 98]]) [baseT [97, 98]] = 0 := by
  refine judge_pass (by kernel_rfl) (by kernel_rfl) ?_ rfl (by kernel_rfl) ?_
  · rw [rootB_own (by kernel_rfl) (by simp)]
    exact swollen_one _
  · rw [againB, ptsOf]
    simp
theorem jB : bY (aM [baseT [97]]) [baseT [97]] = 241 := judge_cb (by kernel_rfl) (by kernel_rfl)

theorem okT_base {bs : List Nat} (h : bs.length ≤ 2100) : okT (baseT bs) := ⟨by simp [baseT], by simp [baseT], by simpa [baseT] using h, by simp [baseT]⟩
theorem okTs_one {x : TTx} (h : okT x) : okTs [x] := ⟨by simp, by simpa using h⟩
theorem isTxs_one {H : Hp} {cs : List V} {x : TTx} (h : isTx H cs x) : isTxs H (.sl 4 [cs] true) [x] := ⟨[cs], bg, rfl, rfl, fun i a b ha hb => by
  cases i with
  | zero => cases ha; cases hb; exact h
  | succ i => simp at ha⟩
theorem str97 : byteEs ⟨#[97]⟩ = nE .u8 [97] := rfl
theorem str978 : byteEs ⟨#[97, 98]⟩ = nE .u8 [97, 98] := rfl

def s26 : Spec := fun _ args H Q => args = [] ∧ Q (.bool true) H
theorem snd26 : Sound Try.prog 26 s26 := by
  refine ak pm (ap [(29, s29), (30, s30), (31, s31)] (by simp [snd29, snd30, snd31])) [] Try.func26 rfl (by kernel_rfl) ?_
  rintro Y args H Q ⟨rfl, hQ⟩
  refine ⟨by simp [Try.f26], ?_⟩
  show wpC Try.prog (tab [(29, s29), (30, s30), (31, s31)]) Y [] 18 _ true (aB Try.prog [.tmp 0] Q) _ H
  repeat (first
    | (refine aa rfl fun K hK => ?_; simp (disch := omega) only [WW, BB, ↓ab, simprocAttr, bu49z]; refine hK _ _ ?_; clear hK) | (refine ae ?_; simp only [TH]; (((repeat ((fail_if_success refine hS _ _ ?_); clear hS)); refine hS _ _ ?_); clear hS; try clear hF)) | refine af fun K hS hF => ?_ | refine ac rfl ?_)
  refine aa rfl fun K hK => ⟨rtH h0, .nils, [], rfl, rtH_ok h0_ok, ⟨[], rfl, rfl, rfl, fun i a b ha hb => by simp at ha⟩, ⟨by simp, by simp⟩, hK _ _ ?_⟩
  rw [show (rtH h0).root = h0 from rfl, j0]
  repeat (refine aa rfl fun K hK => ?_; simp (disch := omega) only [WW, BB, ↓ab, simprocAttr, decide_true]; refine hK _ _ ?_; clear hK)
  refine aa rfl fun K hK => ⟨_, [97, 98], rfl, str978, by simp, fun cs hcs => hK _ _ ?_⟩
  clear hK
  skip
  refine aa rfl fun K hK => bsA1 (xs := cs) zs47 (by simp (disch := omega) only [WW, BB, ↓ab, simprocAttr]) (isTx_len hcs) (by omega) (hK _ _ ?_)
  refine aa rfl fun K hK => ⟨_, _, rfl, isTxs_one hcs, okTs_one (okT_base (by simp)), hK _ _ ?_⟩
  have hr : ∀ l, okH (aM l) := fun l => rootR_ok (idsL_H l)
  refine aa rfl fun K hK => ⟨_, _, _, rfl, rtH_ok (hr _), isTxs_one hcs, okTs_one (okT_base (by simp)), hK _ _ ?_⟩
  rw [show (rtH (aM [baseT [97, 98]])).root = aM [baseT [97, 98]] from rfl, jA]
  repeat (refine aa rfl fun K hK => ?_; simp (disch := omega) only [WW, BB, ↓ab, simprocAttr, decide_true]; refine hK _ _ ?_; clear hK)
  refine aa rfl fun K hK => ⟨_, [97], rfl, str97, by simp, fun cs2 hcs2 => hK _ _ ?_⟩
  clear hK
  skip
  refine aa rfl fun K hK => bsA1 (xs := cs2) zs47 (by simp (disch := omega) only [WW, BB, ↓ab, simprocAttr]) (isTx_len hcs2) (by omega) (hK _ _ ?_)
  refine aa rfl fun K hK => ⟨_, _, rfl, isTxs_one hcs2, okTs_one (okT_base (by simp)), hK _ _ ?_⟩
  refine aa rfl fun K hK => ⟨_, _, _, rfl, rtH_ok (hr _), isTxs_one hcs2, okTs_one (okT_base (by simp)), hK _ _ ?_⟩
  rw [show (rtH (aM [baseT [97]])).root = aM [baseT [97]] from rfl, jB]
  repeat (first
    | (refine aa rfl fun K hK => ?_; simp (disch := omega) only [WW, BB, ↓ab, simprocAttr, decide_true]; refine hK _ _ ?_; clear hK) | (refine ae ?_; simp only [TH]; (((repeat ((fail_if_success refine hS _ _ ?_); clear hS)); refine hS _ _ ?_); clear hS; try clear hF)) | (refine al ?_; simp (disch := omega) only [TH, TE, WW, BB, ↓ab, simprocAttr, decide_true]))
  exact ⟨_, rfl, [], _, aj _, hQ⟩

/-! ### the plain law -/
theorem firstF_some : ∀ (fs : List (Nat × Nat × Bool)), (∃ f ∈ fs, f.2.2 = true) → ∃ f ∈ fs, firstF fs = some f.1
  | [], ⟨f, hf, _⟩ => by cases hf
  | f :: fs, ⟨g, hg, hgt⟩ => by
    by_cases c : f.2.2 = true
    · exact ⟨f, by simp, by rw [firstF, if_pos c]⟩
    · rcases List.mem_cons.1 hg with rfl | hg
      · exact absurd hgt c
      · obtain ⟨e, he, h⟩ := firstF_some fs ⟨g, hg, hgt⟩
        exact ⟨e, by simp [he], by rw [firstF, if_neg c]; exact h⟩
theorem judge_ne {rt : List Nat} {l : List TTx} (h : ∃ f ∈ fl rt l, f.2.2 = true) : bY rt l ≠ 0 := by
  obtain ⟨f, hf, he⟩ := firstF_some _ h
  rw [bY, he]
  simp only [fl, List.mem_cons, List.not_mem_nil, or_false] at hf
  rcases hf with rfl | rfl | rfl | rfl | rfl | rfl <;> simp
theorem judge_zero {rt : List Nat} {l : List TTx} (h : bY rt l = 0) : sizeB l = false ∧ cbB l = false := by
  constructor
  · cases c : sizeB l with
    | false => rfl
    | true => exact absurd h (judge_ne ⟨(240, 61, sizeB l), by simp [fl], c⟩)
  · cases c : cbB l with
    | false => rfl
    | true => exact absurd h (judge_ne ⟨(241, 62, cbB l), by simp [fl], c⟩)

theorem again_law {l : List TTx} {o : TTx} {j : Nat} (ho : l[j]? = some o) (rt : List Nat) : bY rt (l ++ [o]) ≠ 0 := by
  cases l with
  | nil => simp at ho
  | cons a r =>
    cases j with
    | zero =>
      simp only [List.getElem?_cons_zero, Option.some.injEq] at ho
      subst ho
      refine judge_ne ⟨(241, 62, cbB (a :: (r ++ [a]))), by simp [fl], ?_⟩
      simp only [cbB, Bool.or_eq_true, Bool.not_eq_true']
      cases c : coinB a with
      | false => exact .inl (.inl rfl)
      | true => exact .inl (.inr (List.any_eq_true.2 ⟨a, by simp, c⟩))
    | succ j =>
      simp only [List.getElem?_cons_succ] at ho
      have hm := List.mem_of_getElem? ho
      cases hi : o.ins with
      | nil =>
        refine judge_ne ⟨(240, 61, sizeB (a :: r ++ [o])), by simp [fl], ?_⟩
        have hc : chkB o = true := by simp [chkB, badN, hi]
        simp only [sizeB, Bool.or_eq_true]
        exact .inl (.inr (List.any_eq_true.2 ⟨o, by simp, hc⟩))
      | cons i is =>
        refine judge_ne ⟨(245, 66, againB (a :: r ++ [o])), by simp [fl], ?_⟩
        have hp : pnt i ∈ pnts o := by simp [pnts, hi]
        simp only [againB, Bool.not_eq_true', decide_eq_false_iff_not, ptsOf, List.cons_append, List.tail_cons, List.flatMap_append, List.flatMap_cons, List.flatMap_nil, List.append_nil]
        intro h
        rw [List.nodup_append] at h
        exact h.2.2 (pnt i) (List.mem_flatMap.2 ⟨o, hm, hp⟩) (pnt i) hp rfl

theorem cmpB_one {n : Nat} (h : n < 253) : (cmpB n).length = 1 := by
  have : ce n = 1 := by rw [ce, if_pos h]
  simp [cmpB, this, bq]
theorem less_law {l : List TTx} {rt : List Nat} (h : bY rt l = 0) (rt' : List Nat) : bY rt' l.tail = 241 := by
  obtain ⟨h1, h2⟩ := judge_zero h
  cases l with
  | nil => simp [cbB] at h2
  | cons a r =>
    simp only [cbB, Bool.or_eq_false_iff] at h2
    simp only [sizeB, Bool.or_eq_false_iff, decide_eq_false_iff_not, List.any_cons, List.length_cons] at h1
    obtain ⟨⟨h3, h4, h5⟩, h6⟩ := h1
    refine judge_cb ?_ ?_
    · have h3' : ¬ 100 < r.length + 1 := h3
      have h6' : ¬ 20000 < 80 + (encL (a :: r)).length := h6
      have e1 := cmpB_one (n := r.length) (by omega)
      have e2 := cmpB_one (n := r.length + 1) (by omega)
      have e3 : (encL (a :: r)).length = 1 + ((encT a).length + (r.flatMap encT).length) := by
        simp only [encL, List.length_append, List.flatMap_cons, List.length_cons, e2]
      have e4 : (encL r).length = 1 + (r.flatMap encT).length := by
        simp only [encL, List.length_append, e1]
      rw [e3] at h6'
      have g1 : decide (100 < r.length) = false := decide_eq_false (by omega)
      have g2 : decide (20000 < 80 + (encL r).length) = false := decide_eq_false (by rw [e4]; omega)
      rw [List.tail_cons, sizeB, g1, g2, h5]
      rfl
    · rw [List.tail_cons]
      cases r with
      | nil => rfl
      | cons b r =>
        have := h2.1.2
        simp only [List.any_cons, Bool.or_eq_false_iff] at this
        simp [cbB, this.1]
end Go.Av

set_option linter.unusedSimpArgs false
set_option linter.unusedVariables false
namespace Go.Av
open Go.RowKit Go.Proofs Go.ChangeShapes Go.WideShapes Go.Deep

/-- Cells that lie, and what they stand for. -/
def CR (k : K) (cs : List Value) (xs : List V) : Prop := xs.length = cs.length ∧ ∀ (j : Nat) v y, cs[j]? = some v → xs[j]? = some y → Conc k v y
theorem CR.app {k : K} {us bs : List Value} {xs ys : List V} (h : CR k us xs) (g : CR k bs ys) : CR k (us ++ bs) (xs ++ ys) := by
  refine ⟨by simp [h.1, g.1], fun j v y hv hy => ?_⟩
  by_cases hj : j < us.length
  · rw [List.getElem?_append_left hj] at hv
    rw [List.getElem?_append_left (by rw [h.1]; exact hj)] at hy
    exact h.2 j v y hv hy
  · rw [List.getElem?_append_right (by omega)] at hv
    rw [List.getElem?_append_right (by rw [h.1]; omega), h.1] at hy
    exact g.2 _ v y hv hy
theorem CR.step {k : K} {cs : List Value} {a n : Nat} {xs ys : List V} (h : CR k (cs.take a) xs) (g : CR k ((cs.drop a).take n) ys) : CR k (cs.take (a + n)) (xs ++ ys) := by
  rw [List.take_add]
  exact h.app g
theorem CR.one {k : K} {v : Value} {y : V} (h : Conc k v y) : CR k [v] [y] := ⟨rfl, fun j v' y' hv hy => by
  cases j with
  | zero => cases hv; cases hy; exact h
  | succ j => simp at hv⟩
theorem CR.get1 {k : K} {cs : List Value} {v : Value} {xs : List V} (h : CR k cs xs) (hc : cs = [v]) : ∃ y, xs = [y] ∧ Conc k v y := by
  subst hc
  obtain ⟨y, rfl⟩ : ∃ y, xs = [y] := List.length_eq_one_iff.1 h.1
  exact ⟨y, rfl, h.2 0 v y rfl rfl⟩

def fsT (P : Program) (t : TypeId) : List (TypeId × Nat) := match P.underlying t with
  | some (.struct fs) => fs.toList.map fun f => (f.type, f.offset)
  | _ => []

section
variable {H : Type} {enc : TypeId × Value → H} {P : Program} {W : World} {held : Bool} {sp : Nat → Bool}

theorem trod_fields {t fuel : Nat} {l : List (TypeId × Nat)} {cs : List Value} {x : DataW H × List MemPlace} (hl : fsT P t = l) (hne : l ≠ []) (h : DataW.trod enc P W 0 sp held fuel t cs = some x) :
    cs.length = P.cellsOf t ∧ ∃ m, ∀ p ∈ l, ∃ y, DataW.trod enc P W 0 sp held m p.1 ((cs.drop p.2).take (P.cellsOf p.1)) = some y := by
  subst hl
  unfold fsT at hne ⊢
  split at hne
  · rename_i fs hu
    obtain ⟨xs, n, _, _, hlen, hxl, hf⟩ := DataW.trod_struct hu h
    refine ⟨hlen, n, fun p hp => ?_⟩
    obtain ⟨f, hfm, rfl⟩ := List.mem_map.1 hp
    obtain ⟨i, hi⟩ := List.mem_iff_getElem?.1 hfm
    have := hf i f (by simpa using hi)
    have hil : i < xs.length := by
      rw [hxl]
      have := (List.getElem?_eq_some_iff.1 hi).1
      simpa using this
    rw [List.getElem?_eq_getElem hil] at this
    exact ⟨_, this⟩
  · exact absurd rfl hne

theorem cell?_spot {a : Addr} {v : Value} (h : W.cell? a = some v) : a.spot = none := by
  unfold World.cell? at h
  split at h
  · split at h
    · cases h
    · rename_i hs; simpa using hs
  · cases h

/-- A slice whose elements are known. -/
theorem arg_slice {t e fuel sz : Nat} {cs : List Value} {x : DataW H × List MemPlace} {E : List V → Prop} (ht : P.underlying t = some (.slice e)) (hce : P.cellsOf e = sz) (hs : 0 < sz)
    (hel : ∀ (m : Nat) (cs : List Value) y, DataW.trod enc P W 0 (fun _ => true) held m e cs = some y → cs.length = sz → ∃ xs, CR (K0 W) cs xs ∧ E xs) (h : DataW.trod enc P W 0 (fun _ => true) held fuel t cs = some x) :
    ∃ y es, CR (K0 W) cs [y] ∧ ((y = .nils ∧ es = []) ∨ y = .sl sz es false) ∧ ∀ a ∈ es, E a ∧ a.length = sz := by
  rcases open_slice ht h with ⟨rfl, _⟩ | ⟨a, len, cap, m, f, D, Pl, rfl, _, hle, _, hm, hx, hcells⟩
  · exact ⟨.nils, [], .one .nils, .inl ⟨rfl, rfl⟩, by simp⟩
  · rw [if_pos rfl] at hm
    subst hm
    by_cases hcap : m = 0
    · subst hcap
      obtain rfl : len = 0 := by omega
      exact ⟨.sl sz [] false, [], .one (.slz a sz false), .inr rfl, by simp⟩
    · have each : ∀ i, ∃ xs : List V, i < m → ∃ cs', W.cells? 0 (a.add (i * P.cellsOf e)) (P.cellsOf e) = some cs' ∧ CR (K0 W) cs' xs ∧ E xs := fun i => by
        by_cases hi : i < m
        · obtain ⟨cs', h1, h2⟩ := hcells i hi
          obtain ⟨_, hcl, _⟩ := World.cells?_some h1
          obtain ⟨xs, h3, h4⟩ := hel _ _ _ h2 (by rw [hcl, hce])
          exact ⟨xs, fun _ => ⟨cs', h1, h3, h4⟩⟩
        · exact ⟨[], fun h => absurd h hi⟩
      obtain ⟨f, hf⟩ := Classical.axiomOfChoice each
      have hspot : a.spot = none := by
        obtain ⟨cs', h1, h3, _⟩ := hf 0 (by omega)
        obtain ⟨_, hcl, hat⟩ := World.cells?_some h1
        have := hat 0 (by omega)
        rw [List.getElem?_eq_getElem (by omega)] at this
        have e0 : (a.add (0 * P.cellsOf e)).add 0 = a := by rw [Nat.zero_mul]; rfl
        rw [e0] at this
        exact cell?_spot this
      obtain ⟨b, off, s⟩ := a
      simp only at hspot
      subst hspot
      have hlen : ((List.range len).map f).length = len := by simp
      have hfl : ∀ i, i < m → (f i).length = sz := fun i hi => by
        obtain ⟨cs', h1, h3, _⟩ := hf i hi
        obtain ⟨_, hcl, _⟩ := World.cells?_some h1
        rw [h3.1, hcl, hce]
      have cell : ∀ i j, i < m → j < sz → ∃ v, W.cell? ⟨b, off + i * sz + j, none⟩ = some v ∧ ∀ y, (f i)[j]? = some y → Conc (K0 W) v y := fun i j hi hj => by
        obtain ⟨cs', h1, h3, _⟩ := hf i hi
        obtain ⟨_, hcl, hat⟩ := World.cells?_some h1
        have hjl : j < cs'.length := by rw [hcl, hce]; exact hj
        have := hat j (by rw [hce]; exact hj)
        rw [List.getElem?_eq_getElem hjl, add_add, hce, bO] at this
        refine ⟨cs'[j], by rw [← this]; congr 2; omega, fun y hy => h3.2 j _ y (List.getElem?_eq_getElem hjl) hy⟩
      refine ⟨.sl sz ((List.range len).map f) false, (List.range len).map f, .one ?_, .inr rfl, fun e he => ?_⟩
      · have := Conc.sl (k := K0 W) b off m sz ((List.range len).map f) false (fun i j => (W.cell? ⟨b, off + i * sz + j, none⟩).getD undef)
          (fun e he => by
            obtain ⟨i, hi, rfl⟩ := List.mem_map.1 he
            exact hfl i (by have := List.mem_range.1 hi; omega)) (by rw [hlen]; exact hle) (fun h => by cases h)
          (fun i j hi hj => by
            rw [hlen] at hi
            obtain ⟨v, h1, _⟩ := cell i j (by omega) hj
            show W.cell? _ = _
            rw [h1]; rfl)
          (fun i e j y hi hj => by
            rw [List.getElem?_map, Option.map_eq_some_iff] at hi
            obtain ⟨i', hi', rfl⟩ := hi
            obtain ⟨hil, hie⟩ := List.getElem?_eq_some_iff.1 hi'
            rw [List.getElem_range] at hie
            subst hie
            rw [List.length_range] at hil
            have hjl : j < sz := by
              have := (List.getElem?_eq_some_iff.1 hj).1
              rw [hfl _ (by omega)] at this
              exact this
            obtain ⟨v, h1, h2⟩ := cell i j (by omega) hjl
            rw [h1]
            exact h2 y hj)
        rw [hlen] at this
        exact this
      · obtain ⟨i, hi, rfl⟩ := List.mem_map.1 he
        have hi' := List.mem_range.1 hi
        obtain ⟨cs', h1, h3, h4⟩ := hf i (by omega)
        exact ⟨h4, hfl i (by omega)⟩

theorem wf_nat {k : IntKind} {z : Int} (hk : k.signed = false) (hw : (Lit.int k z).wf = true) : ∃ n : Nat, z = n ∧ n < 2 ^ k.bits := by
  simp only [Lit.wf, IntKind.min, IntKind.max, hk] at hw
  simp at hw
  refine ⟨z.toNat, by omega, ?_⟩
  have h2 : (0 : Int) < 2 ^ k.bits := Int.pow_pos (by omega)
  have : ((2 ^ k.bits : Nat) : Int) = (2 : Int) ^ k.bits := by simp
  omega
theorem arg_u32 {t fuel : Nat} {cs : List Value} {x : DataW H × List MemPlace} (ht : P.underlying t = some (.int .u32)) (h : DataW.trod enc P W 0 sp held fuel t cs = some x) : ∃ n, n < 4294967296 ∧ CR (K0 W) cs [vN .u32 n] := by
  obtain ⟨z, rfl, _, hw⟩ := DataW.trod_int ht h
  obtain ⟨n, rfl, hn⟩ := wf_nat rfl hw
  exact ⟨n, hn, .one (.int _ _)⟩
theorem arg_u8 {t fuel : Nat} {cs : List Value} {x : DataW H × List MemPlace} (ht : P.underlying t = some (.int .u8)) (h : DataW.trod enc P W 0 sp held fuel t cs = some x) : ∃ n, n < 256 ∧ CR (K0 W) cs [vN .u8 n] := by
  obtain ⟨z, rfl, _, hw⟩ := DataW.trod_int ht h
  obtain ⟨n, rfl, hn⟩ := wf_nat rfl hw
  exact ⟨n, hn, .one (.int _ _)⟩
theorem arg_i64 {t fuel : Nat} {cs : List Value} {x : DataW H × List MemPlace} (ht : P.underlying t = some (.int .i64)) (h : DataW.trod enc P W 0 sp held fuel t cs = some x) : ∃ z, (-9223372036854775808 ≤ z ∧ z < 9223372036854775808) ∧ CR (K0 W) cs [.int .i64 z] := by
  obtain ⟨z, rfl, _, hw⟩ := DataW.trod_int ht h
  refine ⟨z, ?_, .one (.int _ _)⟩
  simp only [Lit.wf, IntKind.min, IntKind.max, IntKind.signed, IntKind.bits] at hw
  simp at hw
  omega
theorem arg_hash32 {t e fuel : Nat} {cs : List Value} {x : DataW H × List MemPlace} (ht : P.underlying t = some (.array 32 e)) (he : P.underlying e = some (.int .u8)) (hce : P.cellsOf e = 1) (hct : P.cellsOf t = 32) (h : DataW.trod enc P W 0 sp held fuel t cs = some x) : ∃ hh, okH hh ∧ CR (K0 W) cs (nR .u8 hh) := by
  obtain ⟨hlen, hb⟩ := trod_bytes ht he hce h
  rw [hct] at hlen
  have : ∀ j, ∃ m : Nat, j < 32 → cs[j]? = some (.int .u8 m) ∧ m < 256 := fun j => by
    by_cases hj : j < 32
    · obtain ⟨m, h1, h2⟩ := hb j hj
      exact ⟨m, fun _ => ⟨h1, h2⟩⟩
    · exact ⟨0, fun h => absurd h hj⟩
  obtain ⟨f, hf⟩ := Classical.axiomOfChoice this
  refine ⟨(List.range 32).map f, ⟨by simp, fun y hy => ?_⟩, by rw [ar]; simp [hlen], fun j v y hv hy => ?_⟩
  · obtain ⟨j, hj, rfl⟩ := List.mem_map.1 hy
    exact (hf j (List.mem_range.1 hj)).2
  · have hj : j < 32 := by rw [← hlen]; exact (List.getElem?_eq_some_iff.1 hv).1
    rw [(hf j hj).1] at hv
    cases hv
    simp only [nR, List.getElem?_map, List.getElem?_range hj, Option.map_some, Option.some.injEq] at hy
    subst hy
    exact .int _ _
end
end Go.Av

set_option linter.unusedSimpArgs false
set_option linter.unusedVariables false
namespace Go.Av
open Go.RowKit Go.Proofs Go.ChangeShapes Go.WideShapes Go.Deep

theorem un53 : Try.prog.underlying 53 = some (.slice 68) := by kernel_rfl
theorem un54 : Try.prog.underlying 54 = some (.slice 70) := by kernel_rfl
theorem un47 : Try.prog.underlying 47 = some (.slice 56) := by kernel_rfl
theorem un2 : Try.prog.underlying 2 = some (.int .i64) := by kernel_rfl
theorem co64 : Try.prog.cellsOf 64 = 1 := by kernel_rfl
theorem co53 : Try.prog.cellsOf 53 = 1 := by kernel_rfl
theorem co54 : Try.prog.cellsOf 54 = 1 := by kernel_rfl
theorem co47 : Try.prog.cellsOf 47 = 1 := by kernel_rfl
theorem co2 : Try.prog.cellsOf 2 = 1 := by kernel_rfl
theorem co68 : Try.prog.cellsOf 68 = 35 := by kernel_rfl
theorem co70 : Try.prog.cellsOf 70 = 2 := by kernel_rfl
theorem co56 : Try.prog.cellsOf 56 = 4 := by kernel_rfl
theorem co46 : Try.prog.cellsOf 46 = 68 := by kernel_rfl
theorem co49 : Try.prog.cellsOf 49 = 69 := by kernel_rfl
theorem fs66 : fsT Try.prog 66 = [(25, 0), (44, 32)] := by kernel_rfl
theorem fs68 : fsT Try.prog 68 = [(66, 0), (64, 33), (44, 34)] := by kernel_rfl
theorem fs70 : fsT Try.prog 70 = [(2, 0), (64, 1)] := by kernel_rfl
theorem fs56 : fsT Try.prog 56 = [(44, 0), (53, 1), (54, 2), (44, 3)] := by kernel_rfl
theorem fs46 : fsT Try.prog 46 = [(44, 0), (25, 1), (25, 33), (44, 65), (44, 66), (44, 67)] := by kernel_rfl
theorem fs49 : fsT Try.prog 49 = [(46, 0), (47, 68)] := by kernel_rfl

section
variable {H : Type} {enc : TypeId × Value → H} {W : World} {held : Bool} {fuel : Nat} {cs : List Value} {x : DataW H × List MemPlace}

theorem CR.nil {k : K} {cs : List Value} : CR k (cs.take 0) [] := ⟨by simp, fun j v y hv _ => by simp at hv⟩
theorem CR.all {k : K} {cs : List Value} {n : Nat} {xs : List V} (h : CR k (cs.take n) xs) (hl : cs.length = n) : CR k cs xs := by
  rwa [List.take_of_length_le (by omega)] at h

/-- A slice of things that stand for others. -/
theorem arg_each {α : Type} {t e sz : Nat} {R : Hp → List V → α → Prop} (ht : Try.prog.underlying t = some (.slice e)) (hce : Try.prog.cellsOf e = sz) (hs : 0 < sz)
    (hel : ∀ (m : Nat) (cs : List Value) y, DataW.trod enc Try.prog W 0 (fun _ => true) held m e cs = some y → ∃ xs a, CR (K0 W) cs xs ∧ ∀ G, R G xs a) (h : DataW.trod enc Try.prog W 0 (fun _ => true) held fuel t cs = some x) :
    ∃ y es l, CR (K0 W) cs [y] ∧ notR y = true ∧ ∀ G, ao G sz y = some es ∧ Each (R G) es l := by
  obtain ⟨y, es, h1, h2, h3⟩ := arg_slice (E := fun xs => ∃ a, ∀ G, R G xs a) ht hce hs (fun m cs y hy _ => by
    obtain ⟨xs, a, g1, g2⟩ := hel m cs y hy
    exact ⟨xs, g1, a, g2⟩) h
  have : ∀ i : Nat, ∃ a : Option α, ∀ e, es[i]? = some e → ∃ b, a = some b ∧ ∀ G, R G e b := fun i => by
    cases he : es[i]? with
    | none => exact ⟨none, fun e h => by cases h⟩
    | some e =>
      obtain ⟨⟨a, ha⟩, _⟩ := h3 e (List.mem_of_getElem? he)
      exact ⟨some a, fun e' h => by cases h; exact ⟨a, rfl, ha⟩⟩
  obtain ⟨f, hf⟩ := Classical.axiomOfChoice this
  have hsome : ∀ i : Nat, i < es.length → ∃ b, f i = some b ∧ ∀ e, es[i]? = some e → ∀ G, R G e b := fun i hi => by
    obtain ⟨b, h1, h2⟩ := hf i _ (List.getElem?_eq_getElem hi)
    exact ⟨b, h1, fun e he G => by rw [List.getElem?_eq_getElem hi] at he; cases he; exact h2 G⟩
  have hl : ∀ n, n ≤ es.length → ∃ l : List α, l.length = n ∧ ∀ (i : Nat) b, l[i]? = some b → ∀ e, es[i]? = some e → ∀ G, R G e b := fun n => by
    induction n with
    | zero => exact fun _ => ⟨[], rfl, fun i b hb => by simp at hb⟩
    | succ n ih =>
      intro hn
      obtain ⟨l, h1, h2⟩ := ih (by omega)
      obtain ⟨b, h4, h5⟩ := hsome n (by omega)
      refine ⟨l ++ [b], by simp [h1], fun i c hc e he G => ?_⟩
      by_cases hi : i < l.length
      · rw [List.getElem?_append_left hi] at hc
        exact h2 i c hc e he G
      · rw [List.getElem?_append_right (by omega)] at hc
        have hil : i - l.length = 0 := by
          have := (List.getElem?_eq_some_iff.1 hc).1
          simp at this
          omega
        rw [hil] at hc
        cases hc
        have : i = n := by omega
        subst this
        exact h5 e he G
  obtain ⟨l, h4, h5⟩ := hl es.length (Nat.le_refl _)
  refine ⟨y, es, l, h1, ?_, fun G => ⟨?_, h4.symm, fun i e b he hb => h5 i b hb e he G⟩⟩
  · rcases h2 with ⟨rfl, _⟩ | rfl <;> rfl
  · rcases h2 with ⟨rfl, rfl⟩ | rfl
    · rfl
    · exact bg

theorem arg_bytes (h : DataW.trod enc Try.prog W 0 (fun _ => true) held fuel 64 cs = some x) : ∃ y bs, CR (K0 W) cs [y] ∧ notR y = true ∧ ∀ G, ao G 1 y = some (nE .u8 bs) := by
  obtain ⟨y, es, l, h1, h2, h3⟩ := arg_each (α := Nat) (R := fun _ xs n => xs = [vN .u8 n]) un64 co5 (by omega) (fun m cs y hy => by
    obtain ⟨n, _, hn⟩ := arg_u8 un5 hy
    exact ⟨_, n, hn, fun _ => rfl⟩) h
  refine ⟨y, l, h1, h2, fun G => ?_⟩
  obtain ⟨h4, h5⟩ := h3 G
  rw [h4]
  congr 1
  apply List.ext_getElem (by rw [az]; exact h5.1)
  intro i hi1 hi2
  have := h5.2 i _ (l[i]'(by rw [← h5.1]; exact hi1)) (List.getElem?_eq_getElem hi1) (List.getElem?_eq_getElem _)
  rw [this]
  simp [nE]

theorem arg_in (h : DataW.trod enc Try.prog W 0 (fun _ => true) held fuel 68 cs = some x) : ∃ xs a, CR (K0 W) cs xs ∧ ∀ G, isIn G xs a := by
  obtain ⟨hl, m, hf⟩ := trod_fields fs68 (by simp) h
  rw [co68] at hl
  obtain ⟨y1, h1⟩ := hf (66, 0) (by simp)
  obtain ⟨y2, h2⟩ := hf (64, 33) (by simp)
  obtain ⟨y3, h3⟩ := hf (44, 34) (by simp)
  rw [co66] at h1
  rw [co64] at h2
  rw [co44] at h3
  obtain ⟨hl1, m1, hf1⟩ := trod_fields fs66 (by simp) h1
  obtain ⟨z1, g1⟩ := hf1 (25, 0) (by simp)
  obtain ⟨z2, g2⟩ := hf1 (44, 32) (by simp)
  rw [co25] at g1
  rw [co44] at g2
  obtain ⟨hh, hok, c1⟩ := arg_hash32 un25 un5 co5 co25 g1
  obtain ⟨n, hn, c2⟩ := arg_u32 un44 g2
  have c66 := (CR.step (CR.step CR.nil c1) c2).all (hl1.trans co66)
  obtain ⟨s, bs, c3, hns, hv⟩ := arg_bytes h2
  obtain ⟨q, hq, c4⟩ := arg_u32 un44 h3
  have c := (CR.step (CR.step (CR.step CR.nil c66) c3) c4).all hl
  refine ⟨_, ⟨hh, n, bs, q⟩, c, fun G => ⟨s, ?_, hv G, hns, hok, hn, hq, by omega⟩⟩
  simp

theorem arg_out (h : DataW.trod enc Try.prog W 0 (fun _ => true) held fuel 70 cs = some x) : ∃ xs a, CR (K0 W) cs xs ∧ ∀ G, isOut G xs a := by
  obtain ⟨hl, m, hf⟩ := trod_fields fs70 (by simp) h
  rw [co70] at hl
  obtain ⟨y1, h1⟩ := hf (2, 0) (by simp)
  obtain ⟨y2, h2⟩ := hf (64, 1) (by simp)
  rw [co2] at h1
  rw [co64] at h2
  obtain ⟨z, hz, c1⟩ := arg_i64 un2 h1
  obtain ⟨s, bs, c2, hns, hv⟩ := arg_bytes h2
  have c := (CR.step (CR.step CR.nil c1) c2).all hl
  exact ⟨_, ⟨z, bs⟩, c, fun G => ⟨s, by simp, hv G, hns, hz, by omega⟩⟩

theorem arg_tx (h : DataW.trod enc Try.prog W 0 (fun _ => true) held fuel 56 cs = some x) : ∃ xs a, CR (K0 W) cs xs ∧ ∀ G, isTx G xs a := by
  obtain ⟨hl, m, hf⟩ := trod_fields fs56 (by simp) h
  rw [co56] at hl
  obtain ⟨y1, h1⟩ := hf (44, 0) (by simp)
  obtain ⟨y2, h2⟩ := hf (53, 1) (by simp)
  obtain ⟨y3, h3⟩ := hf (54, 2) (by simp)
  obtain ⟨y4, h4⟩ := hf (44, 3) (by simp)
  rw [co44] at h1 h4
  rw [co53] at h2
  rw [co54] at h3
  obtain ⟨ver, hver, c1⟩ := arg_u32 un44 h1
  obtain ⟨vi, ei, li, c2, hni, hvi⟩ := arg_each un53 co68 (by omega) (fun m cs y hy => arg_in hy) h2
  obtain ⟨vo, eo, lo, c3, hno, hvo⟩ := arg_each un54 co70 (by omega) (fun m cs y hy => arg_out hy) h3
  obtain ⟨lock, hlock, c4⟩ := arg_u32 un44 h4
  have c := (CR.step (CR.step (CR.step (CR.step CR.nil c1) c2) c3) c4).all hl
  exact ⟨_, ⟨ver, li, lo, lock⟩, c, fun G => ⟨vi, vo, ei, eo, by simp, (hvi G).1, hni, (hvi G).2, (hvo G).1, hno, (hvo G).2, hver, hlock⟩⟩

theorem arg_txs (h : DataW.trod enc Try.prog W 0 (fun _ => true) held fuel 47 cs = some x) : ∃ y l, CR (K0 W) cs [y] ∧ ∀ G, isTxs G y l := by
  obtain ⟨y, es, l, c, hn, hv⟩ := arg_each un47 co56 (by omega) (fun m cs y hy => arg_tx hy) h
  exact ⟨y, l, c, fun G => ⟨es, (hv G).1, hn, (hv G).2⟩⟩

theorem arg_hdr (h : DataW.trod enc Try.prog W 0 (fun _ => true) held fuel 46 cs = some x) : ∃ hd, okHd hd ∧ CR (K0 W) cs (hdC hd) := by
  obtain ⟨hl, m, hf⟩ := trod_fields fs46 (by simp) h
  rw [co46] at hl
  obtain ⟨y1, h1⟩ := hf (44, 0) (by simp)
  obtain ⟨y2, h2⟩ := hf (25, 1) (by simp)
  obtain ⟨y3, h3⟩ := hf (25, 33) (by simp)
  obtain ⟨y4, h4⟩ := hf (44, 65) (by simp)
  obtain ⟨y5, h5⟩ := hf (44, 66) (by simp)
  obtain ⟨y6, h6⟩ := hf (44, 67) (by simp)
  rw [co44] at h1 h4 h5 h6
  rw [co25] at h2 h3
  obtain ⟨a, ha, c1⟩ := arg_u32 un44 h1
  obtain ⟨p, hp, c2⟩ := arg_hash32 un25 un5 co5 co25 h2
  obtain ⟨r, hr, c3⟩ := arg_hash32 un25 un5 co5 co25 h3
  obtain ⟨b, hb, c4⟩ := arg_u32 un44 h4
  obtain ⟨d, hd, c5⟩ := arg_u32 un44 h5
  obtain ⟨e, he, c6⟩ := arg_u32 un44 h6
  have c := (CR.step (CR.step (CR.step (CR.step (CR.step (CR.step CR.nil c1) c2) c3) c4) c5) c6).all hl
  refine ⟨⟨a, p, r, b, d, e⟩, ⟨hp, hr, ha, hb, hd, he⟩, ?_⟩
  simpa [hdC] using c

theorem arg_blk (h : DataW.trod enc Try.prog W 0 (fun _ => true) held fuel 49 cs = some x) : ∃ hd v l, okHd hd ∧ CR (K0 W) cs (hdC hd ++ [v]) ∧ ∀ G, isTxs G v l := by
  obtain ⟨hl, m, hf⟩ := trod_fields fs49 (by simp) h
  rw [co49] at hl
  obtain ⟨y1, h1⟩ := hf (46, 0) (by simp)
  obtain ⟨y2, h2⟩ := hf (47, 68) (by simp)
  rw [co46] at h1
  rw [co47] at h2
  obtain ⟨hd, ho, c1⟩ := arg_hdr h1
  obtain ⟨v, l, c2, hv⟩ := arg_txs h2
  have c := (CR.step (CR.step CR.nil c1) c2).all hl
  exact ⟨hd, v, l, ho, by simpa using c, hv⟩
theorem CR.agg {k : K} {vs : Array Value} {xs : List V} (h : CR k vs.toList xs) : Conc k (.agg vs) (.agg xs) :=
  .agg _ _ (by rw [h.1]; simp) fun j v y hv hy => h.2 j v y (by simpa using hv) hy
end
end Go.Av
